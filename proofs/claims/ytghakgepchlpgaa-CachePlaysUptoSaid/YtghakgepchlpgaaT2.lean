/- Count, Hits, Pin, Get, Drop, New and Put of a number that is there, of lists: the walks (printed from those of ints). -/
import Derived.Test.YtghakgepchlpgaaT1
import Derived.Test.YtghakgepchlpgaaE
import Derived.Test.YtghakgepchlpgaaF
namespace Go.Proofs.Ytghakgepchlpgaa.Sl
open Go.RowKit Go.Maps
open Ring (upd upd_same upd_other)
section
variable {zx : Value} {w : World} {cb mb : Nat} {P hit miss : Int} {L : List Ent}
theorem zero77 (w : World) : (zeroValue 77).run Try.prog w = .ok (.pointer none) w := by kernel_rfl
set_option maxHeartbeats 1000000 in
theorem count_int (h : CA 82 80 zx w cb mb P hit miss L) : Calls Try.prog 33 #[.pointer (some ⟨cb, 0, none⟩)] w fun r w' => r = .returned (.int .i64 (L.length : Int)) ∧ w = w' := by
  have c1 := h.mapCell
  have hlen := fun ty => h.map.len Try.underlying78 ty
  rw [List.length_map] at hlen
  clear h
  go_enter Try.func33, Try.ntmps33
  go_wp2_with fail
  go_ret
  exact ⟨rfl, rfl⟩
set_option maxHeartbeats 1000000 in
theorem hits_int (h : CA 82 80 zx w cb mb P hit miss L) : Calls Try.prog 31 #[.pointer (some ⟨cb, 0, none⟩)] w fun r w' => r = .returned (.tuple #[.int .i64 hit, .int .i64 miss]) ∧ ∃ q, w' = w.drewN q := by
  obtain ⟨⟨nx, el, hl, _⟩, _⟩ := h
  have c7 : w.cell? ⟨cb, 7, none⟩ = some (.int .i64 hit) := hl.cache.cell 7
  have c8 : w.cell? ⟨cb, 8, none⟩ = some (.int .i64 miss) := hl.cache.cell 8
  clear hl
  go_enter Try.func31, Try.ntmps31
  go_wp2_with fail
  go_quiet (fail)
  go_wp2_with fail
  go_ret2
  exact ⟨rfl, _, rfl⟩
set_option maxHeartbeats 1000000 in
theorem pin_none (h : CA 82 80 zx w cb mb P hit miss L) (n : Int) (hn : Wf n) (hno : ∀ e ∈ L, e.n ≠ n) : Calls Try.prog 40 #[.pointer (some ⟨cb, 0, none⟩), .int .i64 n] w fun r w' => r = .returned (.bool false) ∧ w = w' := by
  have c1 := h.mapCell
  have hrun := h.miss_ Try.underlying78 (zero77 w) hn hno
  clear h
  go_enter Try.func40, Try.ntmps40
  go_wp2_with fail
  go_ret
  exact ⟨rfl, rfl⟩
set_option maxHeartbeats 1000000 in
theorem pin_some {u v : List Ent} {e : Ent} (h : CA 82 80 zx w cb mb P hit miss (u ++ e :: v)) : Calls Try.prog 40 #[.pointer (some ⟨cb, 0, none⟩), .int .i64 e.n] w fun r w' =>
    r = .returned (.bool true) ∧ CA 82 80 zx w' cb mb P hit miss (u ++ { e with pin := wrap64 (e.pin + 1) } :: v) ∧ Kept (Bl cb mb (u ++ e :: v)) w w' := by
  have HC := Lib.hid h
  have c1 := h.mapCell
  have hrun := h.hit_ Try.underlying78 (zero77 w)
  obtain ⟨⟨nx, el, hl, hr⟩, _⟩ := h
  have p2 : w.cell? ⟨e.b, 2, none⟩ = some (.int .i64 e.pin) := (hl.place e (by simp)).2.cell 2
  have f2 := (hl.place e (by simp)).2.free 2
  clear hl hr
  go_enter Try.func40, Try.ntmps40
  go_wp2_with fail
  go_ret
  exact ⟨rfl, HC.out.setPlace 2 _ { e with pin := wrap64 (e.pin + 1) } rfl rfl (fun _ _ => rfl)⟩
set_option maxHeartbeats 1000000 in
theorem get_none (h : CA 82 80 zx w cb mb P hit miss L) (n : Int) (hn : Wf n) (hno : ∀ e ∈ L, e.n ≠ n) : Calls Try.prog 26 #[.pointer (some ⟨cb, 0, none⟩), .int .i64 n] w fun r w' =>
    r = .returned (.tuple #[.slice none 0 0, .bool false]) ∧ CA 82 80 zx w' cb mb P hit (wrap64 (miss + 1)) L ∧ Kept (Bl cb mb L) w w' := by
  have HC := Lib.hid h
  have c1 := h.mapCell
  have hrun := h.miss_ Try.underlying78 (zero77 w) hn hno
  have hnm := h.mapNot
  obtain ⟨⟨nx, el, hl, hr⟩, hm, hnd, hw⟩ := h
  have c8 : w.cell? ⟨cb, 8, none⟩ = some (.int .i64 miss) := hl.cache.cell 8
  have f8 := hl.cache.free 8
  have HL := Lib.hid (And.intro hl (And.intro hr (And.intro hm (And.intro hnd hw))))
  have HN := Lib.hid hnm
  clear hl hr hm hnd hw hnm
  go_enter Try.func26, Try.ntmps26
  go_wp2_with fail
  go_ret2
  have hk : Kept (Node cb L) w (w.setCell ⟨cb, 8, none⟩ (.int .i64 (wrap64 (miss + 1)))) := (Kept.refl _ w).setCell (.inl rfl) _
  exact ⟨rfl, ⟨⟨nx, el, HL.out.1.setMiss _, HL.out.2.1⟩, HL.out.2.2.1.kept hk HN.out, HL.out.2.2.2.1, HL.out.2.2.2.2⟩, hk.mono (fun k _ h => .inr h)⟩
set_option maxHeartbeats 1000000 in
theorem get_some {u v : List Ent} {e : Ent} (h : CA 82 80 zx w cb mb P hit miss (u ++ e :: v)) {xA : Option Addr} {xn xc : Nat} (hx : e.x = .slice xA xn xc) : Calls Try.prog 26 #[.pointer (some ⟨cb, 0, none⟩), .int .i64 e.n] w fun r w' =>
    r = .returned (.tuple #[e.x, .bool true]) ∧ CA 82 80 zx w' cb mb P (wrap64 (hit + 1)) miss (u ++ v ++ [e]) ∧ Kept (Bl cb mb (u ++ e :: v)) w w' := by
  have HC := Lib.hid h
  have c1 := h.mapCell
  have hrun := h.hit_ Try.underlying78 (zero77 w)
  have hnm := h.mapNot
  obtain ⟨⟨nx, el, hl, hr⟩, hm, hnd, hw⟩ := h
  have c7 : w.cell? ⟨cb, 7, none⟩ = some (.int .i64 hit) := hl.cache.cell 7
  have f7 := hl.cache.free 7
  have L1 := Lib.hid (hl.setHit (wrap64 (hit + 1)))
  have K1 := Lib.hid ((Kept.refl (Node cb (u ++ e :: v)) w).setCell (p := ⟨cb, 7, none⟩) (.inl rfl) (.int .i64 (wrap64 (hit + 1))))
  have hr' := hr
  rw [List.map_append, List.map_cons] at hr'
  have HR := Lib.hid hr'
  have HM := Lib.hid (And.intro hm (And.intro hnd (And.intro hw hnm)))
  have HX := Lib.hid hx
  clear hl hr hr' hm hnd hw hnm hx
  go_enter Try.func26, Try.ntmps26
  go_wp2_with fail
  generalize World.setCell w _ _ = w1 at L1 K1 ⊢
  obtain ⟨m1, m2, n1, n2⟩ := HR.out.at_
  have sub : ∀ q, (q = cb ∨ q ∈ u.map (·.b) ++ v.map (·.b)) → Node cb (u ++ e :: v) q := fun q hq => node_of (by
    rcases hq with h | h
    · exact .inl h
    · right; rcases List.mem_append.1 h with h | h <;> simp [h])
  refine (out_int L1.out e (by simp) (sub _ m2) (sub _ m1) n2 n1).mono ?_
  rintro r w2 ⟨rfl, L2, K2⟩
  have R2 := HR.out.out
  have hL2 := Lib.hid L2
  have K3 := Lib.hid (K1.out.trans K2)
  clear L2 K2 K1 L1
  go_wp2_with fail
  have hend := R2.ends.2
  have hbn : e.b ∉ (u ++ v).map (·.b) := by
    have nd := HR.out.nd
    simp only [List.nodup_cons, List.nodup_append, List.mem_append, List.mem_cons, List.map_append] at nd ⊢
    obtain ⟨h1, h2, ⟨h3, h4⟩, h5⟩ := nd
    rintro (h | h)
    · exact h5 _ h _ (.inl rfl) rfl
    · exact h3 h
  have hsub : ∀ x ∈ u ++ v, x ∈ u ++ e :: v := fun x hx => by rcases List.mem_append.1 hx with h | h <;> simp [h]
  have hinj : ((u ++ v).map (·.b)).Nodup := by
    have nd := hL2.out.inj
    simp only [List.map_append, List.map_cons, List.nodup_append, List.nodup_cons] at nd ⊢
    exact ⟨nd.1, nd.2.1.2, fun a ha b hb => nd.2.2 a ha b (by simp [hb])⟩
  refine (last_int (hL2.out.sub hsub hinj) e _ _ (hL2.out.place e (by simp)).2 (hL2.out.place e (by simp)).1 hbn (node_of (by rw [List.map_append]; exact hend))).mono ?_
  rintro r w3 ⟨rfl, L3, K4⟩
  have R3 := Lib.hid (R2.last (p := e.b) (by
    simp only [List.mem_cons, not_or]
    exact ⟨(hL2.out.place e (by simp)).1, by rw [List.map_append] at hbn; exact hbn⟩))
  have hL3 := Lib.hid L3
  have K5 := Lib.hid (K3.out.trans (K4.mono (fun k _ h => by
    rcases h with rfl | h
    · exact .inr ⟨e, by simp, rfl⟩
    · exact node_sub hsub h)))
  have px : w3.cell? ⟨e.b, 1, none⟩ = some e.x := (L3.place e (by simp)).2.cell 1
  clear L3 K4 K3 hL2 R2 hend
  rw [HX.out] at px
  go_wp2_with fail
  go_ret2
  refine ⟨by rw [HX.out]; rfl, ⟨⟨_, _, hL3.out, by simpa using R3.out⟩, ?_, nodup_move _ u v e HM.out.2.1, fun x hx => HM.out.2.2.1 x ((perm_move u v e).mem_iff.2 hx)⟩, K5.out.mono (fun k _ h => .inr h)⟩
  exact (HM.out.1.kept K5.out HM.out.2.2.2).perm ((perm_move u v e).map _)
set_option maxHeartbeats 1000000 in
theorem drop_some {u v : List Ent} {e : Ent} (h : CA 82 80 zx w cb mb P hit miss (u ++ e :: v)) : Calls Try.prog 38 #[.pointer (some ⟨cb, 0, none⟩), .int .i64 e.n] w fun r w' =>
    r = .returned (.bool true) ∧ CA 82 80 zx w' cb mb P hit miss (u ++ v) ∧ Kept (Bl cb mb (u ++ e :: v)) w w' := by
  have c1 := h.mapCell
  have hrun := h.hit_ Try.underlying78 (zero77 w)
  have hnm := h.mapNot
  obtain ⟨⟨nx, el, hl, hr⟩, hm, hnd, hw⟩ := h
  have hr' := hr
  rw [List.map_append, List.map_cons] at hr'
  have HR := Lib.hid hr'
  have HL := Lib.hid hl
  have HM := Lib.hid (And.intro hm (And.intro hnd (And.intro hw hnm)))
  clear hl hr hr' hm hnd hw hnm
  go_enter Try.func38, Try.ntmps38
  go_wp2_with fail
  obtain ⟨m1, m2, n1, n2⟩ := HR.out.at_
  have sub : ∀ q, (q = cb ∨ q ∈ u.map (·.b) ++ v.map (·.b)) → Node cb (u ++ e :: v) q := fun q hq => node_of (by
    rcases hq with h | h
    · exact .inl h
    · right; rcases List.mem_append.1 h with h | h <;> simp [h])
  refine (out_int HL.out e (by simp) (sub _ m2) (sub _ m1) n2 n1).mono ?_
  rintro r w2 ⟨rfl, L2, K2⟩
  have R2 := Lib.hid HR.out.out
  have hL2 := Lib.hid L2
  have hK2 := Lib.hid K2
  have M2 := Lib.hid (HM.out.1.kept K2 HM.out.2.2.2)
  have d1 : w2.cell? ⟨cb, 1, none⟩ = some (.map (some mb)) := L2.cache.cell 1
  clear L2 K2 c1 hrun
  have hne : ∀ x ∈ (u ++ v).map (fun e => (e.n, e.b)), x.1 ≠ e.n := by
    intro x hx he
    obtain ⟨y, hy, rfl⟩ := List.mem_map.1 hx
    have nd := HM.out.2.1
    simp only [List.map_append, List.map_cons, List.nodup_append, List.nodup_cons, List.mem_map, List.mem_cons] at nd
    rcases List.mem_append.1 hy with hy | hy
    · exact nd.2.2 _ ⟨y, hy, rfl⟩ _ (.inl rfl) he
    · exact nd.2.1.1 ⟨y, hy, he⟩
  have hpm : ((u ++ e :: v).map (fun e => (e.n, e.b))).Perm ((e.n, e.b) :: (u ++ v).map (fun e => (e.n, e.b))) := by
    rw [show ((e.n, e.b) :: (u ++ v).map (fun e : Ent => (e.n, e.b))) = (e :: (u ++ v)).map (fun e : Ent => (e.n, e.b)) from rfl]
    exact List.perm_middle.map _
  have HNE := Lib.hid (And.intro hne hpm)
  clear hne hpm
  go_wp2_with (first | (at_delete; refine wpList_drop rfl (.tmp 19) (.tmp 20) rfl Try.underlying78 rfl rfl M2.out (HM.out.2.2.1 e (by simp)) HNE.out.2 HNE.out.1 ?_; intro w3 hm3 hg3))
  go_ret
  have K3 : Kept (Bl cb mb (u ++ e :: v)) w w3 := (hK2.out.mono (fun k _ h => .inr h)).grown hg3 (fun k hk => by cases hk; exact .inl rfl)
  have L3 : Lk 82 80 zx w3 cb mb P hit miss (u ++ v) _ _ := (hL2.out.kept (S := fun k => k = mb) ((Kept.refl _ _).grown hg3 (fun k hk => by cases hk; rfl)) (fun q hq e2 => HM.out.2.2.2 (e2 ▸ hq))).sub (fun x hx => by rcases List.mem_append.1 hx with h | h <;> simp [h]) (by
    have nd := hL2.out.inj
    simp only [List.map_append, List.map_cons, List.nodup_append, List.nodup_cons] at nd ⊢
    exact ⟨nd.1, nd.2.1.2, fun a ha b hb => nd.2.2 a ha b (by simp [hb])⟩)
  refine ⟨rfl, ⟨⟨_, _, L3, by simpa using R2.out⟩, hm3, ?_, fun x hx => HM.out.2.2.1 x (by rcases List.mem_append.1 hx with h | h <;> simp [h])⟩, K3⟩
  have nd := HM.out.2.1
  simp only [List.map_append, List.map_cons, List.nodup_append, List.nodup_cons] at nd ⊢
  exact ⟨nd.1, nd.2.1.2, fun a ha b hb => nd.2.2 a ha b (by simp [hb])⟩
set_option maxHeartbeats 1000000 in
theorem drop_none (h : CA 82 80 zx w cb mb P hit miss L) (n : Int) (hn : Wf n) (hno : ∀ e ∈ L, e.n ≠ n) : Calls Try.prog 38 #[.pointer (some ⟨cb, 0, none⟩), .int .i64 n] w fun r w' => r = .returned (.bool false) ∧ w = w' := by
  have c1 := h.mapCell
  have hrun := h.miss_ Try.underlying78 (zero77 w) hn hno
  clear h
  go_enter Try.func38, Try.ntmps38
  go_wp2_with fail
  go_ret
  exact ⟨rfl, rfl⟩
set_option maxHeartbeats 1000000 in
theorem new_no (P : Int) (w : World) (h : P < 1 ∨ 65536 < P) : Calls Try.prog 34 #[.int .i64 P] w fun r w' => r = .returned (.tuple #[.pointer none, .int .i64 1]) ∧ w = w' := by
  by_cases h1 : P < 1
  · go_enter Try.func34, Try.ntmps34
    go_wp2_with fail
    go_ret2
    exact ⟨rfl, rfl⟩
  · have h2 : 65536 < P := by omega
    go_enter Try.func34, Try.ntmps34
    go_wp2_with fail
    go_ret2
    exact ⟨rfl, rfl⟩
set_option maxHeartbeats 1000000 in
theorem new_int (P : Int) (w : World) (h1 : 1 ≤ P) (h2 : P ≤ 65536) : Calls Try.prog 34 #[.int .i64 P] w fun r w' =>
    r = .returned (.tuple #[.pointer (some ⟨w.heap.size + 1, 0, none⟩), .int .i64 0]) ∧ CA 82 80 (.slice none 0 0) w' (w.heap.size + 1) w.heap.size P 0 0 [] ∧ Below w.heap.size w w' := by
  have hmm := @run_makeMap Try.prog
  have h3 : ¬ P < 1 := by omega
  have h4 : ¬ 65536 < P := by omega
  go_enter Try.func34, Try.ntmps34
  go_wp2_with fail
  have m0 : Mp ((w.alloc (.map #[] 0)).alloc (.cells #[.int .i64 P, .map (some w.heap.size), .int .i64 0, .slice none 0 0, .int .i64 0, .pointer none, .pointer none, .int .i64 0, .int .i64 0] 82)) w.heap.size [] :=
    (Mp.made w).kept (S := fun _ => False) ((Kept.refl _ _).alloc _) (fun e => e)
  have b0 : Blk ((w.alloc (.map #[] 0)).alloc (.cells #[.int .i64 P, .map (some w.heap.size), .int .i64 0, .slice none 0 0, .int .i64 0, .pointer none, .pointer none, .int .i64 0, .int .i64 0] 82)) (w.heap.size + 1) 82 #[.int .i64 P, .map (some w.heap.size), .int .i64 0, .slice none 0 0, .int .i64 0, .pointer none, .pointer none, .int .i64 0, .int .i64 0] := Blk.new_at (by simp)
  have k0 := ((Below.refl w.heap.size w).alloc (Nat.le_refl _) (.map #[] 0)).alloc (by simp) (.cells #[.int .i64 P, .map (some w.heap.size), .int .i64 0, .slice none 0 0, .int .i64 0, .pointer none, .pointer none, .int .i64 0, .int .i64 0] 82)
  generalize World.alloc (World.alloc w _) _ = W at m0 b0 k0 ⊢
  have c5 := b0.cell 5
  have c6 := b0.cell 6
  have f5 := b0.free 5
  have f6 := b0.free 6
  have H0 := Lib.hid (And.intro m0 (And.intro b0 k0))
  clear m0 b0 k0 hmm
  go_region
  go_wp2_with fail
  go_ret2
  have b1 : Blk (((W.setCell ⟨w.heap.size + 1, 5, none⟩ (.pointer (some ⟨w.heap.size + 1, 2, none⟩))).setCell ⟨w.heap.size + 1, 6, none⟩ (.pointer (some ⟨w.heap.size + 1, 2, none⟩))).drew) (w.heap.size + 1) 82 _ := (H0.out.2.1.put 5 (.pointer (some ⟨w.heap.size + 1, 2, none⟩))).put 6 (.pointer (some ⟨w.heap.size + 1, 2, none⟩))
  have kk : Kept (fun k => k = w.heap.size + 1) W ((W.setCell ⟨w.heap.size + 1, 5, none⟩ (.pointer (some ⟨w.heap.size + 1, 2, none⟩))).setCell ⟨w.heap.size + 1, 6, none⟩ (.pointer (some ⟨w.heap.size + 1, 2, none⟩))).drew :=
    (((Kept.refl (fun k => k = w.heap.size + 1) W).setCell (p := ⟨w.heap.size + 1, 5, none⟩) rfl _).setCell (p := ⟨w.heap.size + 1, 6, none⟩) rfl _).drew
  refine ⟨rfl, ⟨⟨fun _ => w.heap.size + 1, fun _ => w.heap.size + 1, ⟨?_, (fun e he => nomatch he), .nil⟩, Ring.Ok.nil _ _ _ rfl rfl⟩, H0.out.1.kept kk (by simp), .nil, (fun e he => nomatch he)⟩, H0.out.2.2.trans (kk.below (by rintro k rfl; omega) H0.out.2.2.size)⟩
  unfold ptr
  rw [off_cb]
  exact b1
set_option maxHeartbeats 1000000 in
theorem put_found {u v : List Ent} {e : Ent} (h : CA 82 80 (.slice none 0 0) w cb mb P hit miss (u ++ e :: v)) (xA : Option Addr) (xn xc : Nat) : Calls Try.prog 36 #[.pointer (some ⟨cb, 0, none⟩), .int .i64 e.n, .slice xA xn xc] w fun r w' =>
    r = .returned (.tuple #[.int .i64 0, .bool false]) ∧ CA 82 80 (.slice none 0 0) w' cb mb P hit miss (u ++ v ++ [{ e with x := .slice xA xn xc }]) ∧ Kept (Bl cb mb (u ++ e :: v)) w w' := by
  have c1 := h.mapCell
  have hrun := h.hit_ Try.underlying78 (zero77 w)
  have HS := Lib.hid (h.setPlace 1 (.slice xA xn xc) { e with x := .slice xA xn xc } rfl rfl (fun _ _ => rfl))
  have hb := h
  obtain ⟨⟨nx, el, hl, hr⟩, _⟩ := hb
  have d1 := (hl.place e (by simp)).2.cell 1
  rw [show (#[Value.int .i64 e.n, e.x, .int .i64 e.pin, ptr cb (el e.b), ptr cb (nx e.b)] : Array Value)[1]? = some e.x from rfl] at d1
  have f1 := (hl.place e (by simp)).2.free 1
  generalize e.x = ex at d1
  clear hl hr h nx el
  go_enter Try.func36, Try.ntmps36
  go_wp2_with fail
  obtain ⟨hc, K1⟩ := HS.out
  have HK1 := Lib.hid K1
  have HC := Lib.hid hc
  clear HS K1
  generalize World.setCell w _ _ = w1 at HK1 hc HC ⊢
  obtain ⟨e', he'⟩ : ∃ e' : Ent, e' = { e with x := .slice xA xn xc } := ⟨_, rfl⟩
  have hbe : e'.b = e.b := by rw [he']
  rw [← he'] at hc HC
  have HBE := Lib.hid (And.intro he' hbe)
  rw [← hbe]
  clear he' hbe
  have hnm := hc.mapNot
  obtain ⟨⟨nx, el, hl, hr⟩, hm, hnd, hw⟩ := hc
  have hr' := hr
  rw [List.map_append, List.map_cons] at hr'
  have HR := Lib.hid hr'
  have HL := Lib.hid hl
  have HM := Lib.hid (And.intro hm (And.intro hnd (And.intro hw hnm)))
  clear hl hr hr' hm hnd hw hnm c1 hrun d1 f1
  obtain ⟨m1, m2, n1, n2⟩ := HR.out.at_
  have sub : ∀ q, (q = cb ∨ q ∈ u.map (·.b) ++ v.map (·.b)) → Node cb (u ++ e' :: v) q := fun q hq => node_of (by
    rcases hq with h | h
    · exact .inl h
    · right; rcases List.mem_append.1 h with h | h <;> simp [h])
  refine (out_int HL.out e' (by simp) (sub _ m2) (sub _ m1) n2 n1).mono ?_
  rintro r w2 ⟨rfl, L2, K2⟩
  have R2 := HR.out.out
  have hL2 := Lib.hid L2
  have K3 := Lib.hid K2
  clear L2 K2 HL
  go_wp2_with fail
  have hend := R2.ends.2
  have hbn : e'.b ∉ (u ++ v).map (·.b) := by
    have nd := HR.out.nd
    simp only [List.nodup_cons, List.nodup_append, List.mem_append, List.mem_cons, List.map_append] at nd ⊢
    obtain ⟨h1, h2, ⟨h3, h4⟩, h5⟩ := nd
    rintro (h | h)
    · exact h5 _ h _ (.inl rfl) rfl
    · exact h3 h
  have hsub : ∀ x ∈ u ++ v, x ∈ u ++ e' :: v := fun x hx => by rcases List.mem_append.1 hx with h | h <;> simp [h]
  have hinj : ((u ++ v).map (·.b)).Nodup := by
    have nd := hL2.out.inj
    simp only [List.map_append, List.map_cons, List.nodup_append, List.nodup_cons] at nd ⊢
    exact ⟨nd.1, nd.2.1.2, fun a ha b hb => nd.2.2 a ha b (by simp [hb])⟩
  refine (last_int (hL2.out.sub hsub hinj) e' _ _ (hL2.out.place e' (by simp)).2 (hL2.out.place e' (by simp)).1 hbn (node_of (by rw [List.map_append]; exact hend))).mono ?_
  rintro r w3 ⟨rfl, L3, K4⟩
  have R3 := Lib.hid (R2.last (p := e'.b) (by
    simp only [List.mem_cons, not_or]
    exact ⟨(hL2.out.place e' (by simp)).1, by rw [List.map_append] at hbn; exact hbn⟩))
  have hL3 := Lib.hid L3
  have K5 := Lib.hid (K3.out.trans (K4.mono (fun k _ h => by
    rcases h with rfl | h
    · exact .inr ⟨e', by simp, rfl⟩
    · exact node_sub hsub h)))
  clear L3 K4 K3 hL2 R2 hend
  go_wp2_with fail
  go_ret2
  rw [← HBE.out.1]
  refine ⟨rfl, ⟨⟨_, _, hL3.out, by simpa using R3.out⟩, ?_, nodup_move _ u v e' HM.out.2.1, fun x hx => HM.out.2.2.1 x ((perm_move u v e').mem_iff.2 hx)⟩, HK1.out.trans (K5.out.mono (fun k _ h => .inr ?_))⟩
  · exact (HM.out.1.kept K5.out HM.out.2.2.2).perm ((perm_move u v e').map _)
  · rcases h with h | ⟨y, hy, h⟩
    · exact .inl h
    · rcases List.mem_append.1 hy with hy | hy
      · exact .inr ⟨y, by simp [hy], h⟩
      · rcases List.mem_cons.1 hy with rfl | hy
        · exact .inr ⟨e, by simp, by rw [← h, HBE.out.2]⟩
        · exact .inr ⟨y, by simp [hy], h⟩
end
end Go.Proofs.Ytghakgepchlpgaa.Sl
