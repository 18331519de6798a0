/- WALKS of package cache, of ints: New; Put of a number that is there. -/
import Derived.Test.YtghakgepchlpgaaE
namespace Go.Proofs.Ytghakgepchlpgaa
open Go.RowKit Go.Maps
open Ring (upd upd_same upd_other)
set_option maxHeartbeats 1000000 in
theorem new_no (P : Int) (w : World) (h : P < 1 ∨ 65536 < P) : Calls Try.prog 9 #[.int .i64 P] w fun r w' => r = .returned (.tuple #[.pointer none, .int .i64 1]) ∧ w = w' := by
  by_cases h1 : P < 1
  · go_enter Try.func9, Try.ntmps9
    go_wp2_with fail
    go_ret2
    exact ⟨rfl, rfl⟩
  · have h2 : 65536 < P := by omega
    go_enter Try.func9, Try.ntmps9
    go_wp2_with fail
    go_ret2
    exact ⟨rfl, rfl⟩
set_option maxHeartbeats 1000000 in
theorem new_int (P : Int) (w : World) (h1 : 1 ≤ P) (h2 : P ≤ 65536) : Calls Try.prog 9 #[.int .i64 P] w fun r w' =>
    r = .returned (.tuple #[.pointer (some ⟨w.heap.size + 1, 0, none⟩), .int .i64 0]) ∧ CA 58 56 (.int .i64 0) w' (w.heap.size + 1) w.heap.size P 0 0 [] ∧ Below w.heap.size w w' := by
  have hmm := @run_makeMap Try.prog
  have h3 : ¬ P < 1 := by omega
  have h4 : ¬ 65536 < P := by omega
  go_enter Try.func9, Try.ntmps9
  go_wp2_with fail
  have m0 : Mp ((w.alloc (.map #[] 0)).alloc (.cells #[.int .i64 P, .map (some w.heap.size), .int .i64 0, .int .i64 0, .int .i64 0, .pointer none, .pointer none, .int .i64 0, .int .i64 0] 58)) w.heap.size [] :=
    (Mp.made w).kept (S := fun _ => False) ((Kept.refl _ _).alloc _) (fun e => e)
  have b0 : Blk ((w.alloc (.map #[] 0)).alloc (.cells #[.int .i64 P, .map (some w.heap.size), .int .i64 0, .int .i64 0, .int .i64 0, .pointer none, .pointer none, .int .i64 0, .int .i64 0] 58)) (w.heap.size + 1) 58 #[.int .i64 P, .map (some w.heap.size), .int .i64 0, .int .i64 0, .int .i64 0, .pointer none, .pointer none, .int .i64 0, .int .i64 0] := Blk.new_at (by simp)
  have k0 := ((Below.refl w.heap.size w).alloc (Nat.le_refl _) (.map #[] 0)).alloc (by simp) (.cells #[.int .i64 P, .map (some w.heap.size), .int .i64 0, .int .i64 0, .int .i64 0, .pointer none, .pointer none, .int .i64 0, .int .i64 0] 58)
  generalize World.alloc (World.alloc w _) _ = W at m0 b0 k0 ⊢
  have c5 := b0.cell 5
  have c6 := b0.cell 6
  have f5 := b0.free 5
  have f6 := b0.free 6
  have H0 := Lib.hid (And.intro m0 (And.intro b0 k0))
  clear m0 b0 k0 hmm
  go_region
  go_wp2_with fail
  go_ret2
  have b1 : Blk (((W.setCell ⟨w.heap.size + 1, 5, none⟩ (.pointer (some ⟨w.heap.size + 1, 2, none⟩))).setCell ⟨w.heap.size + 1, 6, none⟩ (.pointer (some ⟨w.heap.size + 1, 2, none⟩))).drew) (w.heap.size + 1) 58 _ := (H0.out.2.1.put 5 (.pointer (some ⟨w.heap.size + 1, 2, none⟩))).put 6 (.pointer (some ⟨w.heap.size + 1, 2, none⟩))
  have kk : Kept (fun k => k = w.heap.size + 1) W ((W.setCell ⟨w.heap.size + 1, 5, none⟩ (.pointer (some ⟨w.heap.size + 1, 2, none⟩))).setCell ⟨w.heap.size + 1, 6, none⟩ (.pointer (some ⟨w.heap.size + 1, 2, none⟩))).drew :=
    (((Kept.refl (fun k => k = w.heap.size + 1) W).setCell (p := ⟨w.heap.size + 1, 5, none⟩) rfl _).setCell (p := ⟨w.heap.size + 1, 6, none⟩) rfl _).drew
  refine ⟨rfl, ⟨⟨fun _ => w.heap.size + 1, fun _ => w.heap.size + 1, ⟨?_, (fun e he => nomatch he), .nil⟩, Ring.Ok.nil _ _ _ rfl rfl⟩, H0.out.1.kept kk (by simp), .nil, (fun e he => nomatch he)⟩, H0.out.2.2.trans (kk.below (by rintro k rfl; omega) H0.out.2.2.size)⟩
  unfold ptr
  rw [off_cb]
  exact b1
section
variable {w : World} {cb mb : Nat} {P hit miss : Int} {L : List Ent}
set_option maxHeartbeats 1000000 in
theorem put_found {u v : List Ent} {e : Ent} (h : CA 58 56 (.int .i64 0) w cb mb P hit miss (u ++ e :: v)) (x : Int) : Calls Try.prog 11 #[.pointer (some ⟨cb, 0, none⟩), .int .i64 e.n, .int .i64 x] w fun r w' =>
    r = .returned (.tuple #[.int .i64 0, .bool false]) ∧ CA 58 56 (.int .i64 0) w' cb mb P hit miss (u ++ v ++ [{ e with x := .int .i64 x }]) ∧ Kept (Bl cb mb (u ++ e :: v)) w w' := by
  have c1 := h.mapCell
  have hrun := h.hit_ Try.underlying53 (zero54 w)
  have HS := Lib.hid (h.setPlace 1 (.int .i64 x) { e with x := .int .i64 x } rfl rfl (fun _ _ => rfl))
  have hb := h
  obtain ⟨⟨nx, el, hl, hr⟩, _⟩ := hb
  have d1 := (hl.place e (by simp)).2.cell 1
  rw [show (#[Value.int .i64 e.n, e.x, .int .i64 e.pin, ptr cb (el e.b), ptr cb (nx e.b)] : Array Value)[1]? = some e.x from rfl] at d1
  have f1 := (hl.place e (by simp)).2.free 1
  generalize e.x = ex at d1
  clear hl hr h nx el
  go_enter Try.func11, Try.ntmps11
  go_wp2_with fail
  obtain ⟨hc, K1⟩ := HS.out
  have HK1 := Lib.hid K1
  have HC := Lib.hid hc
  clear HS K1
  generalize World.setCell w _ _ = w1 at HK1 hc HC ⊢
  obtain ⟨e', he'⟩ : ∃ e' : Ent, e' = { e with x := .int .i64 x } := ⟨_, rfl⟩
  have hbe : e'.b = e.b := by rw [he']
  rw [← he'] at hc HC
  have HBE := Lib.hid (And.intro he' hbe)
  rw [← hbe]
  clear he' hbe
  have hnm := hc.mapNot
  obtain ⟨⟨nx, el, hl, hr⟩, hm, hnd, hw⟩ := hc
  have hr' := hr
  rw [List.map_append, List.map_cons] at hr'
  have HR := Lib.hid hr'
  have HL := Lib.hid hl
  have HM := Lib.hid (And.intro hm (And.intro hnd (And.intro hw hnm)))
  clear hl hr hr' hm hnd hw hnm c1 hrun d1 f1
  obtain ⟨m1, m2, n1, n2⟩ := HR.out.at_
  have sub : ∀ q, (q = cb ∨ q ∈ u.map (·.b) ++ v.map (·.b)) → Node cb (u ++ e' :: v) q := fun q hq => node_of (by
    rcases hq with h | h
    · exact .inl h
    · right; rcases List.mem_append.1 h with h | h <;> simp [h])
  refine (out_int HL.out e' (by simp) (sub _ m2) (sub _ m1) n2 n1).mono ?_
  rintro r w2 ⟨rfl, L2, K2⟩
  have R2 := HR.out.out
  have hL2 := Lib.hid L2
  have K3 := Lib.hid K2
  clear L2 K2 HL
  go_wp2_with fail
  have hend := R2.ends.2
  have hbn : e'.b ∉ (u ++ v).map (·.b) := by
    have nd := HR.out.nd
    simp only [List.nodup_cons, List.nodup_append, List.mem_append, List.mem_cons, List.map_append] at nd ⊢
    obtain ⟨h1, h2, ⟨h3, h4⟩, h5⟩ := nd
    rintro (h | h)
    · exact h5 _ h _ (.inl rfl) rfl
    · exact h3 h
  have hsub : ∀ x ∈ u ++ v, x ∈ u ++ e' :: v := fun x hx => by rcases List.mem_append.1 hx with h | h <;> simp [h]
  have hinj : ((u ++ v).map (·.b)).Nodup := by
    have nd := hL2.out.inj
    simp only [List.map_append, List.map_cons, List.nodup_append, List.nodup_cons] at nd ⊢
    exact ⟨nd.1, nd.2.1.2, fun a ha b hb => nd.2.2 a ha b (by simp [hb])⟩
  refine (last_int (hL2.out.sub hsub hinj) e' _ _ (hL2.out.place e' (by simp)).2 (hL2.out.place e' (by simp)).1 hbn (node_of (by rw [List.map_append]; exact hend))).mono ?_
  rintro r w3 ⟨rfl, L3, K4⟩
  have R3 := Lib.hid (R2.last (p := e'.b) (by
    simp only [List.mem_cons, not_or]
    exact ⟨(hL2.out.place e' (by simp)).1, by rw [List.map_append] at hbn; exact hbn⟩))
  have hL3 := Lib.hid L3
  have K5 := Lib.hid (K3.out.trans (K4.mono (fun k _ h => by
    rcases h with rfl | h
    · exact .inr ⟨e', by simp, rfl⟩
    · exact node_sub hsub h)))
  clear L3 K4 K3 hL2 R2 hend
  go_wp2_with fail
  go_ret2
  rw [← HBE.out.1]
  refine ⟨rfl, ⟨⟨_, _, hL3.out, by simpa using R3.out⟩, ?_, nodup_move _ u v e' HM.out.2.1, fun x hx => HM.out.2.2.1 x ((perm_move u v e').mem_iff.2 hx)⟩, HK1.out.trans (K5.out.mono (fun k _ h => .inr ?_))⟩
  · exact (HM.out.1.kept K5.out HM.out.2.2.2).perm ((perm_move u v e').map _)
  · rcases h with h | ⟨y, hy, h⟩
    · exact .inl h
    · rcases List.mem_append.1 hy with hy | hy
      · exact .inr ⟨y, by simp [hy], h⟩
      · rcases List.mem_cons.1 hy with rfl | hy
        · exact .inr ⟨e, by simp, by rw [← h, HBE.out.2]⟩
        · exact .inr ⟨y, by simp [hy], h⟩
end
end Go.Proofs.Ytghakgepchlpgaa
