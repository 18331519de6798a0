/- WALKS of package cache, of ints: Count, Hits, Pin, Get, Drop. -/
import Derived.Test.YtghakgepchlpgaaD
namespace Go.Proofs.Ytghakgepchlpgaa
open Go.RowKit Go.Maps
open Ring (upd upd_same upd_other)
section
variable {TC TP T E : TypeId} {zx : Value} {w : World} {cb mb : Nat} {P hit miss : Int} {L : List Ent}
theorem CA.hit_ {u v : List Ent} {e : Ent} (h : CA TC TP zx w cb mb P hit miss (u ++ e :: v)) (ht : Try.prog.underlying T = some (.map 3 E)) (hz : (zeroValue E).run Try.prog w = .ok (.pointer none) w) :
    (Instr.lookup T (.map (some mb)) (.int .i64 e.n) false).run Try.prog w = .ok (.pointer (some ⟨e.b, 0, none⟩)) w := by
  obtain ⟨_, hm, hnd, hw⟩ := h
  rcases hm.look ht hz (hw e (by simp)) with ⟨b, hb, hrun⟩ | ⟨hne, _⟩
  · obtain ⟨e', he', heq⟩ := List.mem_map.1 hb
    have h1 : e'.n = e.n := by injection heq
    have h2 : e'.b = b := by injection heq
    have hee : e' = e := by
      simp only [List.map_append, List.map_cons, List.nodup_append, List.nodup_cons, List.mem_map, List.mem_cons] at hnd
      rcases List.mem_append.1 he' with hx | hx
      · exact absurd h1 (hnd.2.2 _ ⟨e', hx, rfl⟩ _ (.inl rfl))
      · rcases List.mem_cons.1 hx with hx | hx
        · exact hx
        · exact absurd ⟨e', hx, h1⟩ hnd.2.1.1
    subst hee
    subst h2
    exact hrun
  · exact absurd rfl (hne (e.n, e.b) (List.mem_map.2 ⟨e, by simp, rfl⟩))
theorem CA.miss_ (h : CA TC TP zx w cb mb P hit miss L) (ht : Try.prog.underlying T = some (.map 3 E)) (hz : (zeroValue E).run Try.prog w = .ok (.pointer none) w) {n : Int} (hn : Wf n) (hno : ∀ e ∈ L, e.n ≠ n) :
    (Instr.lookup T (.map (some mb)) (.int .i64 n) false).run Try.prog w = .ok (.pointer none) w := by
  obtain ⟨_, hm, _, _⟩ := h
  rcases hm.look ht hz hn with ⟨b, hb, _⟩ | ⟨_, hrun⟩
  · obtain ⟨e, he, heq⟩ := List.mem_map.1 hb
    exact absurd (by injection heq) (hno e he)
  · exact hrun
theorem CA.mapCell (h : CA TC TP zx w cb mb P hit miss L) : w.cell? ⟨cb, 1, none⟩ = some (.map (some mb)) := by
  obtain ⟨⟨nx, el, hl, _⟩, _⟩ := h
  exact hl.cache.cell 1
theorem CA.mapNot (h : CA TC TP zx w cb mb P hit miss L) : ¬ Node cb L mb := by
  obtain ⟨⟨nx, el, hl, _⟩, hm, _⟩ := h
  exact hm.notNode hl
/-- a place's own cells written: number and block stay -/
theorem CA.setPlace {u v : List Ent} {e : Ent} (h : CA TC TP zx w cb mb P hit miss (u ++ e :: v)) (i : Nat) (z : Value) (e' : Ent) (hb : e'.b = e.b) (hn : e'.n = e.n)
    (hc : ∀ p q : Value, (#[Value.int .i64 e.n, e.x, .int .i64 e.pin, p, q] : Array Value).setIfInBounds i z = #[.int .i64 e'.n, e'.x, .int .i64 e'.pin, p, q]) :
    CA TC TP zx (w.setCell ⟨e.b, i, none⟩ z) cb mb P hit miss (u ++ e' :: v) ∧ Kept (Bl cb mb (u ++ e :: v)) w (w.setCell ⟨e.b, i, none⟩ z) := by
  have hnm := h.mapNot
  obtain ⟨⟨nx, el, hl, hr⟩, hm, hnd, hw⟩ := h
  have hk : Kept (Node cb (u ++ e :: v)) w (w.setCell ⟨e.b, i, none⟩ z) := (Kept.refl _ w).setCell (.inr ⟨e, by simp, rfl⟩) z
  refine ⟨⟨⟨nx, el, hl.setPlace i z e' hb (hc _ _), by simpa [hb] using hr⟩, ?_, by simpa [hn] using hnd, ?_⟩, hk.mono (fun k _ h => .inr h)⟩
  · have := hm.kept hk hnm
    simpa [hn, hb] using this
  · intro x hx
    rcases List.mem_append.1 hx with hx | hx
    · exact hw x (by simp [hx])
    · rcases List.mem_cons.1 hx with rfl | hx
      · rw [hn]; exact hw e (by simp)
      · exact hw x (by simp [hx])
end
/-- delete(m, n) -/
theorem wpList_drop {w : World} {ops : Array Oper} {rest : List Oper} {o : Oper} {a : Act} {Q : Exit → Act → World → Prop} {T E : TypeId} (hg : o.guard = none) (m x : Operand)
    (hop : o.op = Op.call { callee := Callee.builtin Builtin.delete, args := #[m, x], argTypes := #[T, 3] }) (ht : Try.prog.underlying T = some (.map 3 E)) {mb : Nat} {L L' : List (Int × Nat)} {n : Int} {b : Nat}
    (hm : a.eval m = .map (some mb)) (hx : a.eval x = .int .i64 n) (h : Mp w mb L) (hn : Wf n) (hp : L.Perm ((n, b) :: L')) (hne : ∀ x ∈ L', x.1 ≠ n)
    (hK : ∀ w', Mp w' mb L' → w.grownBy w' (some mb) → wpList Try.prog ops Q rest (a.put o.dst (.tuple #[])) w') : wpList Try.prog ops Q (o :: rest) a w := by
  refine wpList_plain hg fun K' hK' => ?_
  obtain ⟨w', hrun, r1, r2⟩ := h.drop ht hn hp hne o.type
  unfold Oper.wp
  simp [execOp, hop, resolve, invoke, builtin, hm, hx, hrun, Result.andThen]
  exact hK' _ _ (hK w' r1 r2)
/-- m[n] = a new block -/
theorem wpList_keep {w : World} {ops : Array Oper} {rest : List Oper} {o : Oper} {a : Act} {Q : Exit → Act → World → Prop} {T E : TypeId} (hg : o.guard = none) (m x v : Operand)
    (hop : o.op = Op.mapUpdate T m x v) (ht : Try.prog.underlying T = some (.map 3 E)) {mb : Nat} {L : List (Int × Nat)} {n : Int} (b : Nat)
    (hm : a.eval m = .map (some mb)) (hx : a.eval x = .int .i64 n) (hv : a.eval v = .pointer (some ⟨b, 0, none⟩)) (h : Mp w mb L) (hl : L.length < maxLen) (hn : Wf n) (hne : ∀ x ∈ L, x.1 ≠ n)
    (hK : ∀ w', Mp w' mb ((n, b) :: L) → w.grownBy w' (some mb) → wpList Try.prog ops Q rest (a.put o.dst undef) w') : wpList Try.prog ops Q (o :: rest) a w := by
  refine wpList_plain hg fun K' hK' => ?_
  obtain ⟨w', hrun, r1, r2⟩ := h.store ht hl hn hne b
  unfold Oper.wp
  simp [execOp, hop, hm, hx, hv, hrun, Result.andThen]
  exact hK' _ _ (hK w' r1 r2)
theorem zero54 (w : World) : (zeroValue 54).run Try.prog w = .ok (.pointer none) w := by kernel_rfl
section
variable {zx : Value} {w : World} {cb mb : Nat} {P hit miss : Int} {L : List Ent}
set_option maxHeartbeats 1000000 in
theorem count_int (h : CA 58 56 zx w cb mb P hit miss L) : Calls Try.prog 14 #[.pointer (some ⟨cb, 0, none⟩)] w fun r w' => r = .returned (.int .i64 (L.length : Int)) ∧ w = w' := by
  have c1 := h.mapCell
  have hlen := fun ty => h.map.len Try.underlying53 ty
  rw [List.length_map] at hlen
  clear h
  go_enter Try.func14, Try.ntmps14
  go_wp2_with fail
  go_ret
  exact ⟨rfl, rfl⟩
set_option maxHeartbeats 1000000 in
theorem hits_int (h : CA 58 56 zx w cb mb P hit miss L) : Calls Try.prog 30 #[.pointer (some ⟨cb, 0, none⟩)] w fun r w' => r = .returned (.tuple #[.int .i64 hit, .int .i64 miss]) ∧ ∃ q, w' = w.drewN q := by
  obtain ⟨⟨nx, el, hl, _⟩, _⟩ := h
  have c7 : w.cell? ⟨cb, 7, none⟩ = some (.int .i64 hit) := hl.cache.cell 7
  have c8 : w.cell? ⟨cb, 8, none⟩ = some (.int .i64 miss) := hl.cache.cell 8
  clear hl
  go_enter Try.func30, Try.ntmps30
  go_wp2_with fail
  go_quiet (fail)
  go_wp2_with fail
  go_ret2
  exact ⟨rfl, _, rfl⟩
set_option maxHeartbeats 1000000 in
theorem pin_none (h : CA 58 56 zx w cb mb P hit miss L) (n : Int) (hn : Wf n) (hno : ∀ e ∈ L, e.n ≠ n) : Calls Try.prog 15 #[.pointer (some ⟨cb, 0, none⟩), .int .i64 n] w fun r w' => r = .returned (.bool false) ∧ w = w' := by
  have c1 := h.mapCell
  have hrun := h.miss_ Try.underlying53 (zero54 w) hn hno
  clear h
  go_enter Try.func15, Try.ntmps15
  go_wp2_with fail
  go_ret
  exact ⟨rfl, rfl⟩
set_option maxHeartbeats 1000000 in
theorem pin_some {u v : List Ent} {e : Ent} (h : CA 58 56 zx w cb mb P hit miss (u ++ e :: v)) : Calls Try.prog 15 #[.pointer (some ⟨cb, 0, none⟩), .int .i64 e.n] w fun r w' =>
    r = .returned (.bool true) ∧ CA 58 56 zx w' cb mb P hit miss (u ++ { e with pin := wrap64 (e.pin + 1) } :: v) ∧ Kept (Bl cb mb (u ++ e :: v)) w w' := by
  have HC := Lib.hid h
  have c1 := h.mapCell
  have hrun := h.hit_ Try.underlying53 (zero54 w)
  obtain ⟨⟨nx, el, hl, hr⟩, _⟩ := h
  have p2 : w.cell? ⟨e.b, 2, none⟩ = some (.int .i64 e.pin) := (hl.place e (by simp)).2.cell 2
  have f2 := (hl.place e (by simp)).2.free 2
  clear hl hr
  go_enter Try.func15, Try.ntmps15
  go_wp2_with fail
  go_ret
  exact ⟨rfl, HC.out.setPlace 2 _ { e with pin := wrap64 (e.pin + 1) } rfl rfl (fun _ _ => rfl)⟩
set_option maxHeartbeats 1000000 in
theorem get_none (h : CA 58 56 zx w cb mb P hit miss L) (n : Int) (hn : Wf n) (hno : ∀ e ∈ L, e.n ≠ n) : Calls Try.prog 10 #[.pointer (some ⟨cb, 0, none⟩), .int .i64 n] w fun r w' =>
    r = .returned (.tuple #[.int .i64 0, .bool false]) ∧ CA 58 56 zx w' cb mb P hit (wrap64 (miss + 1)) L ∧ Kept (Bl cb mb L) w w' := by
  have HC := Lib.hid h
  have c1 := h.mapCell
  have hrun := h.miss_ Try.underlying53 (zero54 w) hn hno
  have hnm := h.mapNot
  obtain ⟨⟨nx, el, hl, hr⟩, hm, hnd, hw⟩ := h
  have c8 : w.cell? ⟨cb, 8, none⟩ = some (.int .i64 miss) := hl.cache.cell 8
  have f8 := hl.cache.free 8
  have HL := Lib.hid (And.intro hl (And.intro hr (And.intro hm (And.intro hnd hw))))
  have HN := Lib.hid hnm
  clear hl hr hm hnd hw hnm
  go_enter Try.func10, Try.ntmps10
  go_wp2_with fail
  go_ret2
  have hk : Kept (Node cb L) w (w.setCell ⟨cb, 8, none⟩ (.int .i64 (wrap64 (miss + 1)))) := (Kept.refl _ w).setCell (.inl rfl) _
  exact ⟨rfl, ⟨⟨nx, el, HL.out.1.setMiss _, HL.out.2.1⟩, HL.out.2.2.1.kept hk HN.out, HL.out.2.2.2.1, HL.out.2.2.2.2⟩, hk.mono (fun k _ h => .inr h)⟩
set_option maxHeartbeats 1000000 in
theorem get_some {u v : List Ent} {e : Ent} (h : CA 58 56 zx w cb mb P hit miss (u ++ e :: v)) {x : Int} (hx : e.x = .int .i64 x) : Calls Try.prog 10 #[.pointer (some ⟨cb, 0, none⟩), .int .i64 e.n] w fun r w' =>
    r = .returned (.tuple #[e.x, .bool true]) ∧ CA 58 56 zx w' cb mb P (wrap64 (hit + 1)) miss (u ++ v ++ [e]) ∧ Kept (Bl cb mb (u ++ e :: v)) w w' := by
  have HC := Lib.hid h
  have c1 := h.mapCell
  have hrun := h.hit_ Try.underlying53 (zero54 w)
  have hnm := h.mapNot
  obtain ⟨⟨nx, el, hl, hr⟩, hm, hnd, hw⟩ := h
  have c7 : w.cell? ⟨cb, 7, none⟩ = some (.int .i64 hit) := hl.cache.cell 7
  have f7 := hl.cache.free 7
  have L1 := Lib.hid (hl.setHit (wrap64 (hit + 1)))
  have K1 := Lib.hid ((Kept.refl (Node cb (u ++ e :: v)) w).setCell (p := ⟨cb, 7, none⟩) (.inl rfl) (.int .i64 (wrap64 (hit + 1))))
  have hr' := hr
  rw [List.map_append, List.map_cons] at hr'
  have HR := Lib.hid hr'
  have HM := Lib.hid (And.intro hm (And.intro hnd (And.intro hw hnm)))
  have HX := Lib.hid hx
  clear hl hr hr' hm hnd hw hnm hx
  go_enter Try.func10, Try.ntmps10
  go_wp2_with fail
  generalize World.setCell w _ _ = w1 at L1 K1 ⊢
  obtain ⟨m1, m2, n1, n2⟩ := HR.out.at_
  have sub : ∀ q, (q = cb ∨ q ∈ u.map (·.b) ++ v.map (·.b)) → Node cb (u ++ e :: v) q := fun q hq => node_of (by
    rcases hq with h | h
    · exact .inl h
    · right; rcases List.mem_append.1 h with h | h <;> simp [h])
  refine (out_int L1.out e (by simp) (sub _ m2) (sub _ m1) n2 n1).mono ?_
  rintro r w2 ⟨rfl, L2, K2⟩
  have R2 := HR.out.out
  have hL2 := Lib.hid L2
  have K3 := Lib.hid (K1.out.trans K2)
  clear L2 K2 K1 L1
  go_wp2_with fail
  have hend := R2.ends.2
  have hbn : e.b ∉ (u ++ v).map (·.b) := by
    have nd := HR.out.nd
    simp only [List.nodup_cons, List.nodup_append, List.mem_append, List.mem_cons, List.map_append] at nd ⊢
    obtain ⟨h1, h2, ⟨h3, h4⟩, h5⟩ := nd
    rintro (h | h)
    · exact h5 _ h _ (.inl rfl) rfl
    · exact h3 h
  have hsub : ∀ x ∈ u ++ v, x ∈ u ++ e :: v := fun x hx => by rcases List.mem_append.1 hx with h | h <;> simp [h]
  have hinj : ((u ++ v).map (·.b)).Nodup := by
    have nd := hL2.out.inj
    simp only [List.map_append, List.map_cons, List.nodup_append, List.nodup_cons] at nd ⊢
    exact ⟨nd.1, nd.2.1.2, fun a ha b hb => nd.2.2 a ha b (by simp [hb])⟩
  refine (last_int (hL2.out.sub hsub hinj) e _ _ (hL2.out.place e (by simp)).2 (hL2.out.place e (by simp)).1 hbn (node_of (by rw [List.map_append]; exact hend))).mono ?_
  rintro r w3 ⟨rfl, L3, K4⟩
  have R3 := Lib.hid (R2.last (p := e.b) (by
    simp only [List.mem_cons, not_or]
    exact ⟨(hL2.out.place e (by simp)).1, by rw [List.map_append] at hbn; exact hbn⟩))
  have hL3 := Lib.hid L3
  have K5 := Lib.hid (K3.out.trans (K4.mono (fun k _ h => by
    rcases h with rfl | h
    · exact .inr ⟨e, by simp, rfl⟩
    · exact node_sub hsub h)))
  have px : w3.cell? ⟨e.b, 1, none⟩ = some e.x := (L3.place e (by simp)).2.cell 1
  clear L3 K4 K3 hL2 R2 hend
  rw [HX.out] at px
  go_wp2_with fail
  go_ret2
  refine ⟨by rw [HX.out]; rfl, ⟨⟨_, _, hL3.out, by simpa using R3.out⟩, ?_, nodup_move _ u v e HM.out.2.1, fun x hx => HM.out.2.2.1 x ((perm_move u v e).mem_iff.2 hx)⟩, K5.out.mono (fun k _ h => .inr h)⟩
  exact (HM.out.1.kept K5.out HM.out.2.2.2).perm ((perm_move u v e).map _)
set_option maxHeartbeats 1000000 in
theorem drop_some {u v : List Ent} {e : Ent} (h : CA 58 56 zx w cb mb P hit miss (u ++ e :: v)) : Calls Try.prog 21 #[.pointer (some ⟨cb, 0, none⟩), .int .i64 e.n] w fun r w' =>
    r = .returned (.bool true) ∧ CA 58 56 zx w' cb mb P hit miss (u ++ v) ∧ Kept (Bl cb mb (u ++ e :: v)) w w' := by
  have c1 := h.mapCell
  have hrun := h.hit_ Try.underlying53 (zero54 w)
  have hnm := h.mapNot
  obtain ⟨⟨nx, el, hl, hr⟩, hm, hnd, hw⟩ := h
  have hr' := hr
  rw [List.map_append, List.map_cons] at hr'
  have HR := Lib.hid hr'
  have HL := Lib.hid hl
  have HM := Lib.hid (And.intro hm (And.intro hnd (And.intro hw hnm)))
  clear hl hr hr' hm hnd hw hnm
  go_enter Try.func21, Try.ntmps21
  go_wp2_with fail
  obtain ⟨m1, m2, n1, n2⟩ := HR.out.at_
  have sub : ∀ q, (q = cb ∨ q ∈ u.map (·.b) ++ v.map (·.b)) → Node cb (u ++ e :: v) q := fun q hq => node_of (by
    rcases hq with h | h
    · exact .inl h
    · right; rcases List.mem_append.1 h with h | h <;> simp [h])
  refine (out_int HL.out e (by simp) (sub _ m2) (sub _ m1) n2 n1).mono ?_
  rintro r w2 ⟨rfl, L2, K2⟩
  have R2 := Lib.hid HR.out.out
  have hL2 := Lib.hid L2
  have hK2 := Lib.hid K2
  have M2 := Lib.hid (HM.out.1.kept K2 HM.out.2.2.2)
  have d1 : w2.cell? ⟨cb, 1, none⟩ = some (.map (some mb)) := L2.cache.cell 1
  clear L2 K2 c1 hrun
  have hne : ∀ x ∈ (u ++ v).map (fun e => (e.n, e.b)), x.1 ≠ e.n := by
    intro x hx he
    obtain ⟨y, hy, rfl⟩ := List.mem_map.1 hx
    have nd := HM.out.2.1
    simp only [List.map_append, List.map_cons, List.nodup_append, List.nodup_cons, List.mem_map, List.mem_cons] at nd
    rcases List.mem_append.1 hy with hy | hy
    · exact nd.2.2 _ ⟨y, hy, rfl⟩ _ (.inl rfl) he
    · exact nd.2.1.1 ⟨y, hy, he⟩
  have hpm : ((u ++ e :: v).map (fun e => (e.n, e.b))).Perm ((e.n, e.b) :: (u ++ v).map (fun e => (e.n, e.b))) := by
    rw [show ((e.n, e.b) :: (u ++ v).map (fun e : Ent => (e.n, e.b))) = (e :: (u ++ v)).map (fun e : Ent => (e.n, e.b)) from rfl]
    exact List.perm_middle.map _
  have HNE := Lib.hid (And.intro hne hpm)
  clear hne hpm
  go_wp2_with (first | (at_delete; refine wpList_drop rfl (.tmp 19) (.tmp 20) rfl Try.underlying53 rfl rfl M2.out (HM.out.2.2.1 e (by simp)) HNE.out.2 HNE.out.1 ?_; intro w3 hm3 hg3))
  go_ret
  have K3 : Kept (Bl cb mb (u ++ e :: v)) w w3 := (hK2.out.mono (fun k _ h => .inr h)).grown hg3 (fun k hk => by cases hk; exact .inl rfl)
  have L3 : Lk 58 56 zx w3 cb mb P hit miss (u ++ v) _ _ := (hL2.out.kept (S := fun k => k = mb) ((Kept.refl _ _).grown hg3 (fun k hk => by cases hk; rfl)) (fun q hq e2 => HM.out.2.2.2 (e2 ▸ hq))).sub (fun x hx => by rcases List.mem_append.1 hx with h | h <;> simp [h]) (by
    have nd := hL2.out.inj
    simp only [List.map_append, List.map_cons, List.nodup_append, List.nodup_cons] at nd ⊢
    exact ⟨nd.1, nd.2.1.2, fun a ha b hb => nd.2.2 a ha b (by simp [hb])⟩)
  refine ⟨rfl, ⟨⟨_, _, L3, by simpa using R2.out⟩, hm3, ?_, fun x hx => HM.out.2.2.1 x (by rcases List.mem_append.1 hx with h | h <;> simp [h])⟩, K3⟩
  have nd := HM.out.2.1
  simp only [List.map_append, List.map_cons, List.nodup_append, List.nodup_cons] at nd ⊢
  exact ⟨nd.1, nd.2.1.2, fun a ha b hb => nd.2.2 a ha b (by simp [hb])⟩
set_option maxHeartbeats 1000000 in
theorem drop_none (h : CA 58 56 zx w cb mb P hit miss L) (n : Int) (hn : Wf n) (hno : ∀ e ∈ L, e.n ≠ n) : Calls Try.prog 21 #[.pointer (some ⟨cb, 0, none⟩), .int .i64 n] w fun r w' => r = .returned (.bool false) ∧ w = w' := by
  have c1 := h.mapCell
  have hrun := h.miss_ Try.underlying53 (zero54 w) hn hno
  clear h
  go_enter Try.func21, Try.ntmps21
  go_wp2_with fail
  go_ret
  exact ⟨rfl, rfl⟩
end
end Go.Proofs.Ytghakgepchlpgaa
