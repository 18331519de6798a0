/- THE WALKS of the document's cache: Get, Put, Drop, Pin, Unpin. -/
import Derived.Test.YtghakgepchlpgaaV2
import Derived.Test.YtghakgepchlpgaaB
import Derived.Deep.Cut
namespace Go.Proofs.Ytghakgepchlpgaa
open Go.RowKit Go.Maps
theorem load86 {w : World} {g : Nat} {a b c : Value} (h : Blk w g 86 #[a, b, c]) : (loadVar 86 ⟨g, 0, none⟩).run Try.prog w = .ok (.agg #[a, b, c]) w :=
  run_loadVar_row w g 86 86 _ (0, 0) _ h Try.underlying86 rfl (by rw [size86]; rfl)
theorem exec86 {w : World} {g : Nat} {x y z : Value} {a : Act} {o : Oper} (p : Operand) (ho : o.op = .load 86 p) (hx : a.eval p = .pointer (some ⟨g, 0, none⟩)) (h : Blk w g 86 #[x, y, z]) :
    (execOp a.eval o).run Try.prog w = .ok (.value (.agg #[x, y, z])) w := by
  simp [execOp, ho, hx, Instr.loadAt, Instr.sureAddr, load86 h, Result.andThen]
theorem Kept.trans2 {S T : Nat → Prop} {a b c : World} (h : Kept S a b) (h' : Kept T b c) (ht : ∀ k, T k → S k ∨ a.heap.size ≤ k) : Kept S a c :=
  ⟨h'.os.trans h.os, h'.tape.trans h.tape, h'.output.trans h.output, Nat.le_trans h.size h'.size, fun k hk hs => (h'.block k (Nat.lt_of_lt_of_le hk h.size) fun e => by
    rcases ht k e with e | e
    · exact hs e
    · omega).trans (h.block k hk hs)⟩
section
variable {w : World} {cr : Nat} {P hit miss : Int} {LV : Value} {M u v : List Th} {e : Th}
set_option maxHeartbeats 1000000 in
set_option maxRecDepth 100000 in
theorem rget_none (h : RC w cr P hit miss LV M) (n : Int) (hno : ∀ y ∈ M, y.n ≠ n) (hl : M.length ≤ 1000000) : Calls Try.prog 27 #[.pointer (some ⟨cr, 0, none⟩), .int .i64 n] w fun r w' =>
    r = .returned (.tuple #[.int .i64 0, .bool false]) ∧ RC w' cr P hit (wrap64 (miss + 1)) LV M ∧ Kept (BR cr LV) w w' := by
  have HF := Lib.hid (find_none h n hno hl)
  have c2 : w.cell? ⟨cr, 2, none⟩ = some (.int .i64 miss) := h.blk.cell 2
  have f2 := h.blk.free 2
  have H := Lib.hid h
  clear h hno
  go_enter Try.func27, Try.ntmps27
  go_wp2_with (first | (go_at_call 47; refine HF.out.mono ?_; rintro r w' ⟨rfl, rfl⟩))
  go_ret2
  have hk : Kept (fun k => k = cr) w (w.setCell ⟨cr, 2, none⟩ (.int .i64 (wrap64 (miss + 1)))) := Kept.setCell (Kept.refl (fun k => k = cr) w) (p := ⟨cr, 2, none⟩) rfl _
  exact ⟨rfl, ⟨H.out.blk.put 2 _, H.out.own.kept hk fun b hb e => by subst e; exact H.out.ne hb⟩, hk.mono fun k _ h => .inl h⟩
set_option maxHeartbeats 2000000 in
set_option maxRecDepth 100000 in
theorem rget_some (h : RC w cr P hit miss LV (u ++ e :: v)) (hu : ∀ y ∈ u, y.n ≠ e.n) (hl : (u ++ e :: v).length ≤ 100000) : Calls Try.prog 27 #[.pointer (some ⟨cr, 0, none⟩), .int .i64 e.n] w fun r w' =>
    r = .returned (.tuple #[.int .i64 e.x, .bool true]) ∧ ∃ LV', RC w' cr P (wrap64 (hit + 1)) miss LV' (u ++ v ++ [e]) ∧ Kept (BR cr LV) w w' ∧ (∀ k, BR cr LV' k → BR cr LV k ∨ w.heap.size ≤ k) := by
  have HF := Lib.hid (find_some h hu (by omega))
  obtain ⟨A, c, rfl, hc⟩ := h.own.shape
  obtain ⟨g, rfl, -, -⟩ := h.own.some_ (by simp; omega)
  have c1 : w.cell? ⟨cr, 1, none⟩ = some (.int .i64 hit) := h.blk.cell 1
  have f1 := h.blk.free 1
  have H := Lib.hid h
  obtain ⟨m, hm⟩ : ∃ m, m = (u ++ e :: v).length := ⟨_, rfl⟩
  obtain ⟨d, hd⟩ : ∃ d, d = u.length := ⟨_, rfl⟩
  have hk1 : Kept (fun k => k = cr) w (w.setCell ⟨cr, 1, none⟩ (.int .i64 (wrap64 (hit + 1)))) := Kept.setCell (Kept.refl (fun k => k = cr) w) (p := ⟨cr, 1, none⟩) rfl _
  have R1 := Lib.hid (show RC (w.setCell ⟨cr, 1, none⟩ (.int .i64 (wrap64 (hit + 1)))) cr P (wrap64 (hit + 1)) miss (.slice (some ⟨g, 0, none⟩) m c) (u ++ e :: v) by rw [hm]; exact ⟨h.blk.put 1 _, h.own.kept hk1 fun b hb e => by subst e; exact h.ne hb⟩)
  have K1 := Lib.hid hk1
  have hdm : (d : Int) < (m : Int) := by rw [hd, hm]; simp; omega
  rw [← hd] at HF
  have HM := Lib.hid (And.intro hm hd)
  have HL := Lib.hid (show m ≤ 100000 by rw [hm]; exact hl)
  have dd : decide ((d : Int) < 0) = false := by simp
  clear h hu hc hm hd hk1 hl
  obtain ⟨hitA, hhitA⟩ : ∃ q, q = wrap64 (hit + 1) := ⟨_, rfl⟩
  rw [← hhitA] at R1 K1 ⊢
  go_enter Try.func27, Try.ntmps27
  go_upto_region 6 with (first | (go_at_call 47; refine HF.out.mono ?_; rintro r w' ⟨rfl, rfl⟩))
  rw [← hhitA]
  generalize World.setCell w _ _ = w1 at R1 K1 ⊢
  have c3 : w1.cell? ⟨cr, 3, none⟩ = some (.slice (some ⟨g, 0, none⟩) m c) := R1.out.blk.cell 3
  have o1 := R1.out.own
  rw [HM.out.1] at o1
  obtain ⟨t0, t1, t2⟩ := o1.at_ d (by rw [HM.out.2]; simp)
  rw [HM.out.2, getD_at, ← HM.out.2] at t0 t1 t2
  clear o1 c1 f1
  have R2 := Lib.hid (R1.out.kept (S := fun _ => False) ((Kept.refl _ w1).alloc (.cells e.cells 86)) fun _ _ e => e)
  have K2 := Lib.hid (K1.out.alloc (.cells e.cells 86))
  have V2 := Lib.hid (Blk.new w1 86 e.cells)
  obtain ⟨h7, hh7⟩ : ∃ q, q = w1.heap.size := ⟨_, rfl⟩
  have H7 := Lib.hid (show w.heap.size ≤ h7 ∧ cr < h7 from ⟨by rw [hh7]; exact K1.out.size, by rw [hh7]; exact R1.out.blk.lt⟩)
  go_upto_region 7 with fail
  rw [← hh7] at V2 ⊢
  change Code.wp Try.prog _ _ _ (w1.alloc (.cells e.cells 86))
  generalize World.alloc w1 _ = w2 at R2 K2 V2 ⊢
  clear c3 t0 t1 t2 hh7 R1 K1 w1
  have HR := Lib.hid (show Calls Try.prog 48 #[.pointer (some ⟨cr, 0, none⟩), .int .i64 (d : Int)] w2 fun r w' => r = .returned (.tuple #[]) ∧ ∃ LV', RC w' cr P hitA miss LV' (u ++ v) ∧ Kept (fun k => k = cr) w2 w' ∧ (∀ k, LV'.ownBlock = some k → w2.heap.size ≤ k) by
    rw [HM.out.2]; exact rout_any R2.out (by rw [← HM.out.1]; have := HL.out; omega))
  go_wp2_with (first | (go_at_call 48; refine HR.out.mono ?_; rintro r w3 ⟨rfl, LV3, r3, k3, n3⟩))
  obtain ⟨A2, c2', rfl, hc2⟩ := r3.own.shape
  obtain ⟨c2, hc2'⟩ : ∃ q, q = c2' := ⟨_, rfl⟩
  rw [← hc2'] at r3 n3 hc2
  obtain ⟨m2, hm2⟩ : ∃ q, q = (u ++ v).length := ⟨_, rfl⟩
  rw [← hm2] at r3 n3
  have R3 := Lib.hid r3
  have K3 := Lib.hid (K2.out.trans k3)
  have V3 := Lib.hid (V2.out.kept k3 (fun e => by have := H7.out; omega))
  have N3 := Lib.hid (And.intro n3 k3.size)
  have hlt7 : h7 < w2.heap.size := V2.out.lt
  have HOB := Lib.hid (show ¬ (Value.slice A2 m2 c2).ownBlock = some h7 from fun e => by have := n3 h7 e; omega)
  have HLN := Lib.hid (show ((u ++ v).length + 1) * 24 ≤ 140737488355328 by have h1 := HL.out; have h2 := HM.out.1; simp at h2 ⊢; omega)
  clear r3 k3 n3 hm2 hc2 hc2' HR R2 K2 V2 HF
  have e7 : h7 = h7 := rfl
  clear e7
  refine wp_region_held_drew (S := fun W' => Blk W' h7 86 #[.int .i64 e.n, .int .i64 e.x, .int .i64 e.p]) (by kernel_rfl) (by exact V3.out) (fun hHeld => ?_)
  refine takeTo (i := 0) (v := ?_) (some 37) rfl rfl (by kernel_rfl) (by kernel_rfl) (by kernel_rfl) (fun _ _ _ h => h) (Or.inl ⟨by rfl, ?_⟩) (by assumption) ?_
  rotate_left
  · (intro W7 hSw; (try dsimp only at hSw); go_simp; try with_reducible rfl)
  try simp only [Act.put, List.setIfInBounds_toArray, List.set_cons_zero, List.set_cons_succ]
  refine takeTo (i := 1) (v := ?_) (some 38) rfl rfl (by kernel_rfl) (by kernel_rfl) (by kernel_rfl) (fun _ _ _ h => h) (Or.inl ⟨by rfl, ?_⟩) (by assumption) ?_
  rotate_left
  · (intro W7 hSw; (try dsimp only at hSw); go_simp; try with_reducible rfl)
  try simp only [Act.put, List.setIfInBounds_toArray, List.set_cons_zero, List.set_cons_succ]
  refine takeTo (i := 2) (v := ?_) (some 39) rfl rfl (by kernel_rfl) (by kernel_rfl) (by kernel_rfl) (fun _ _ _ h => h) (Or.inl ⟨by rfl, ?_⟩) (by assumption) ?_
  rotate_left
  · (intro W7 hSw; (try dsimp only at hSw); go_simp; try with_reducible rfl)
  try simp only [Act.put, List.setIfInBounds_toArray, List.set_cons_zero, List.set_cons_succ]
  refine takeTo (i := 3) (v := ?_) (some 40) rfl rfl (by kernel_rfl) (by kernel_rfl) (by kernel_rfl) (fun _ _ _ h => h) (Or.inl ⟨by rfl, ?_⟩) (by assumption) ?_
  rotate_left
  · (intro W7 hSw; (try dsimp only at hSw); go_simp; try with_reducible rfl)
  try simp only [Act.put, List.setIfInBounds_toArray, List.set_cons_zero, List.set_cons_succ]
  refine takeTo (i := 5) (v := .agg #[.int .i64 e.n, .int .i64 e.x, .int .i64 e.p]) (some 42) rfl rfl (by kernel_rfl) (by kernel_rfl) (by kernel_rfl) (fun _ _ _ h => h) (Or.inl ⟨by rfl, fun W7 hSw => exec86 _ rfl rfl hSw⟩) (by assumption) ?_
  try simp only [Act.put, List.setIfInBounds_toArray, List.set_cons_zero, List.set_cons_succ]
  refine wpAnyH_ready (rs := [4, 6]) (by kernel_rfl) (by simp) ?_
  refine AllReadyH.cons rfl (fun K hK => ?_) (AllReadyH.cons rfl (fun K hK => ?_) AllReadyH.nil)
  ·
    rw [if_pos (by rfl)]
    have s4 : World.cell? w3.drew ⟨cr, 3, none⟩ = some (.slice A2 m2 c2) := (R3.out.kept (S := fun _ => False) ((Kept.refl _ w3).drew) fun _ _ e => e).blk.cell 3
    go_wp2_with fail
    refine hK.out _ _ hHeld (fun hHeld => ?_)
    clear hK K
    try simp only [Act.put, List.setIfInBounds_toArray, List.set_cons_zero, List.set_cons_succ]
    clear s4
    refine wpAnyH_ready (rs := [6]) (by kernel_rfl) (by simp) ?_
    refine AllReadyH.cons rfl (fun K hK => ?_) AllReadyH.nil
    rw [if_pos (by rfl)]
    go_wp2_with fail
    have kb6 := Lib.hid (show Blk (w3.alloc (.cells #[.int .i64 e.n, .int .i64 e.x, .int .i64 e.p] 86)).drew h7 86 #[.int .i64 e.n, .int .i64 e.x, .int .i64 e.p] from V3.out.alloc _)
    refine hK.out _ _ kb6.out (fun hHeld => ?_)
    clear hK K
    try simp only [Act.put, List.setIfInBounds_toArray, List.set_cons_zero, List.set_cons_succ]
    have rc6 := Lib.hid (show RC (w3.alloc (.cells #[.int .i64 e.n, .int .i64 e.x, .int .i64 e.p] 86)).drew cr P hitA miss (.slice A2 m2 c2) (u ++ v) from R3.out.kept (S := fun _ => False) (((Kept.refl _ _).alloc _).drew) fun _ _ e => e)
    have k6 := Lib.hid (show Kept (fun _ => False) w3 (w3.alloc (.cells #[.int .i64 e.n, .int .i64 e.x, .int .i64 e.p] 86)).drew from ((Kept.refl _ _).alloc _).drew)
    have y6 := Lib.hid (show Blk (w3.alloc (.cells #[.int .i64 e.n, .int .i64 e.x, .int .i64 e.p] 86)).drew w3.heap.size 86 #[.int .i64 e.n, .int .i64 e.x, .int .i64 e.p] from Blk.new _ _ _)
    obtain ⟨hy, hhy⟩ : ∃ q, q = w3.heap.size := ⟨_, rfl⟩
    rw [← hhy] at y6 ⊢
    have HY := Lib.hid hhy
    clear hhy
    generalize World.drew (w3.alloc _) = W6 at kb6 rc6 k6 y6 hHeld ⊢
    refine wpAnyH_ready (rs := [7]) (by kernel_rfl) (by simp) ?_
    refine AllReadyH.cons rfl (fun K hK => ?_) AllReadyH.nil
    rw [if_pos (by rfl)]
    refine wp_append_th (.tmp 41) (.tmp 43) rfl 0 (.slice A2 m2 c2) (u ++ v) e rfl rc6.out.own hy 1 rfl y6.out HLN.out (Nat.zero_le _) ?_
    intro A8 c8 w8 r8 q8 o8 g8 l8
    have kb8 := Lib.hid (show Blk w8 h7 86 #[.int .i64 e.n, .int .i64 e.x, .int .i64 e.p] from kb6.out.kept (S := fun k => (Value.slice A2 m2 c2).ownBlock = some k) ((Kept.refl _ _).grown g8 fun _ e => e) (HOB.out))
    refine hK.out _ _ kb8.out (fun hHeld => ?_)
    clear hK K
    try simp only [Act.put, List.setIfInBounds_toArray, List.set_cons_zero, List.set_cons_succ]
    have q8' := q8.out
    subst q8'
    obtain ⟨m8, hm8⟩ : ∃ m, m = ((u ++ v) ++ [e]).length := ⟨_, rfl⟩
    rw [← hm8] at o8 l8 ⊢
    have H8 := Lib.hid (show OwnsT w8 0 (.slice A8 m8 c8) ((u ++ v) ++ [e]) ∧ ((Value.slice A8 m8 c8).ownBlock = (Value.slice A2 m2 c2).ownBlock ∨ (Value.slice A8 m8 c8).ownBlock = some W6.heap.size) from ⟨o8, l8⟩)
    have k8 := Lib.hid (show Kept (BR cr (.slice A2 m2 c2)) w3 w8 from (k6.out.mono fun _ _ h => h.elim).grown g8 fun k e => .inr e)
    have b8 := Lib.hid (show Blk w8 cr 71 _ from rc6.out.blk.kept (S := fun k => (Value.slice A2 m2 c2).ownBlock = some k) ((Kept.refl _ _).grown g8 fun _ e => e) rc6.out.ne)
    clear o8 g8 l8 hm8
    refine takeTo (i := 8) (v := ?_) (some 45) rfl rfl (by kernel_rfl) (by kernel_rfl) (by kernel_rfl) (fun _ _ _ h => h) (Or.inl ⟨by rfl, ?_⟩) (by assumption) ?_
    rotate_left
    · (intro W7 hSw; (try dsimp only at hSw); go_simp; try with_reducible rfl)
    try simp only [Act.put, List.setIfInBounds_toArray, List.set_cons_zero, List.set_cons_succ]
    refine takeTo (i := 9) (v := ?_) (some 46) rfl rfl (by kernel_rfl) (by kernel_rfl) (by kernel_rfl) (fun _ _ _ h => h) (Or.inl ⟨by rfl, ?_⟩) (by assumption) ?_
    rotate_left
    · (intro W7 hSw; (try dsimp only at hSw); go_simp; try with_reducible rfl)
    try simp only [Act.put, List.setIfInBounds_toArray, List.set_cons_zero, List.set_cons_succ]
    refine wpAnyH_ready (rs := [10]) (by kernel_rfl) (by simp) ?_
    refine AllReadyH.cons rfl (fun K hK => ?_) AllReadyH.nil
    rw [if_pos (by rfl)]
    have f10 := b8.out.free 3
    have d10 : w8.cell? ⟨cr, 3, none⟩ = some (.slice A2 m2 c2) := b8.out.cell 3
    go_wp2_with fail
    have kb9 := Lib.hid (show Blk (w8.setCell ⟨cr, 3, none⟩ (.slice A8 m8 c8)) h7 86 #[.int .i64 e.n, .int .i64 e.x, .int .i64 e.p] from kb8.out.far (fun e => by have := b8.out; rw [e] at kb8; have h1 := kb8.out; unfold Blk at h1 this; rw [h1] at this; injection this with this; injection this with _ h2 _; cases h2) _)
    refine hK.out _ _ kb9.out (fun hHeld => ?_)
    clear hK K
    try simp only [Act.put, List.setIfInBounds_toArray, List.set_cons_zero, List.set_cons_succ]
    have R9 := Lib.hid (show RC (w8.setCell ⟨cr, 3, none⟩ (.slice A8 m8 c8)) cr P hitA miss (.slice A8 m8 c8) ((u ++ v) ++ [e]) from ⟨b8.out.put 3 _, H8.out.1.kept (S := fun k => k = cr) (Kept.setCell (Kept.refl (fun k => k = cr) w8) (p := ⟨cr, 3, none⟩) rfl _) fun b hb e => by
      subst e
      rcases H8.out.2 with h | h
      · rw [h] at hb; exact rc6.out.ne hb
      · rw [h] at hb
        injection hb with hb
        have := rc6.out.blk.lt
        omega⟩)
    have K9 := Lib.hid (show Kept (BR cr (.slice A2 m2 c2)) w3 (w8.setCell ⟨cr, 3, none⟩ (.slice A8 m8 c8)) from k8.out.setCell (p := ⟨cr, 3, none⟩) (.inl rfl) _)
    have N9 := Lib.hid (show ∀ k, BR cr (.slice A8 m8 c8) k → BR cr (.slice A2 m2 c2) k ∨ w3.heap.size ≤ k from fun k hk => by
      rcases hk with hk | hk
      · exact .inl (.inl hk)
      · rcases H8.out.2 with h | h
        · rw [h] at hk; exact .inl (.inr hk)
        · rw [h] at hk
          injection hk with hk
          right
          have := k6.out.size
          omega)
    generalize World.setCell w8 _ _ = W9 at kb9 R9 K9 N9 hHeld ⊢
    clear f10 d10 hHeld H8 k8 b8 kb8 rc6 k6 y6 kb6
    refine wpAnyH_done (by kernel_rfl) ?_ _
    have x9 : W9.cell? ⟨h7, 1, none⟩ = some (.int .i64 e.x) := kb9.out.cell 1
    go_wp2_with fail
    go_ret2
    refine ⟨rfl, _, R9.out, ?_, ?_⟩
    · refine (K3.out.mono fun k _ h => .inl h).trans2 K9.out fun k hk => ?_
      rcases hk with hk | hk
      · exact .inl (.inl hk)
      · right
        have h1 := N3.out.1 k hk
        have h2 := H7.out
        omega
    · intro k hk
      rcases N9.out k hk with hk | hk
      · rcases hk with hk | hk
        · exact .inl (.inl hk)
        · right
          have h1 := N3.out.1 k hk
          have h2 := H7.out
          omega
      · right
        have h1 := N3.out.2
        have h2 := H7.out
        omega
  ·
    rw [if_pos (by rfl)]
    go_wp2_with fail
    have kb6 := Lib.hid (show Blk (w3.alloc (.cells #[.int .i64 e.n, .int .i64 e.x, .int .i64 e.p] 86)).drew h7 86 #[.int .i64 e.n, .int .i64 e.x, .int .i64 e.p] from V3.out.alloc _)
    refine hK.out _ _ kb6.out (fun hHeld => ?_)
    clear hK K
    try simp only [Act.put, List.setIfInBounds_toArray, List.set_cons_zero, List.set_cons_succ]
    have rc6 := Lib.hid (show RC (w3.alloc (.cells #[.int .i64 e.n, .int .i64 e.x, .int .i64 e.p] 86)).drew cr P hitA miss (.slice A2 m2 c2) (u ++ v) from R3.out.kept (S := fun _ => False) (((Kept.refl _ _).alloc _).drew) fun _ _ e => e)
    have k6 := Lib.hid (show Kept (fun _ => False) w3 (w3.alloc (.cells #[.int .i64 e.n, .int .i64 e.x, .int .i64 e.p] 86)).drew from ((Kept.refl _ _).alloc _).drew)
    have y6 := Lib.hid (show Blk (w3.alloc (.cells #[.int .i64 e.n, .int .i64 e.x, .int .i64 e.p] 86)).drew w3.heap.size 86 #[.int .i64 e.n, .int .i64 e.x, .int .i64 e.p] from Blk.new _ _ _)
    obtain ⟨hy, hhy⟩ : ∃ q, q = w3.heap.size := ⟨_, rfl⟩
    rw [← hhy] at y6 ⊢
    have HY := Lib.hid hhy
    clear hhy
    generalize World.drew (w3.alloc _) = W6 at kb6 rc6 k6 y6 hHeld ⊢
    refine wpAnyH_ready (rs := [4]) (by kernel_rfl) (by simp) ?_
    refine AllReadyH.cons rfl (fun K hK => ?_) AllReadyH.nil
    rw [if_pos (by rfl)]
    have s4 : World.cell? W6 ⟨cr, 3, none⟩ = some (.slice A2 m2 c2) := (rc6.out).blk.cell 3
    go_wp2_with fail
    refine hK.out _ _ hHeld (fun hHeld => ?_)
    clear hK K
    try simp only [Act.put, List.setIfInBounds_toArray, List.set_cons_zero, List.set_cons_succ]
    clear s4
    refine wpAnyH_ready (rs := [7]) (by kernel_rfl) (by simp) ?_
    refine AllReadyH.cons rfl (fun K hK => ?_) AllReadyH.nil
    rw [if_pos (by rfl)]
    refine wp_append_th (.tmp 41) (.tmp 43) rfl 0 (.slice A2 m2 c2) (u ++ v) e rfl rc6.out.own hy 1 rfl y6.out HLN.out (Nat.zero_le _) ?_
    intro A8 c8 w8 r8 q8 o8 g8 l8
    have kb8 := Lib.hid (show Blk w8 h7 86 #[.int .i64 e.n, .int .i64 e.x, .int .i64 e.p] from kb6.out.kept (S := fun k => (Value.slice A2 m2 c2).ownBlock = some k) ((Kept.refl _ _).grown g8 fun _ e => e) (HOB.out))
    refine hK.out _ _ kb8.out (fun hHeld => ?_)
    clear hK K
    try simp only [Act.put, List.setIfInBounds_toArray, List.set_cons_zero, List.set_cons_succ]
    have q8' := q8.out
    subst q8'
    obtain ⟨m8, hm8⟩ : ∃ m, m = ((u ++ v) ++ [e]).length := ⟨_, rfl⟩
    rw [← hm8] at o8 l8 ⊢
    have H8 := Lib.hid (show OwnsT w8 0 (.slice A8 m8 c8) ((u ++ v) ++ [e]) ∧ ((Value.slice A8 m8 c8).ownBlock = (Value.slice A2 m2 c2).ownBlock ∨ (Value.slice A8 m8 c8).ownBlock = some W6.heap.size) from ⟨o8, l8⟩)
    have k8 := Lib.hid (show Kept (BR cr (.slice A2 m2 c2)) w3 w8 from (k6.out.mono fun _ _ h => h.elim).grown g8 fun k e => .inr e)
    have b8 := Lib.hid (show Blk w8 cr 71 _ from rc6.out.blk.kept (S := fun k => (Value.slice A2 m2 c2).ownBlock = some k) ((Kept.refl _ _).grown g8 fun _ e => e) rc6.out.ne)
    clear o8 g8 l8 hm8
    refine takeTo (i := 8) (v := ?_) (some 45) rfl rfl (by kernel_rfl) (by kernel_rfl) (by kernel_rfl) (fun _ _ _ h => h) (Or.inl ⟨by rfl, ?_⟩) (by assumption) ?_
    rotate_left
    · (intro W7 hSw; (try dsimp only at hSw); go_simp; try with_reducible rfl)
    try simp only [Act.put, List.setIfInBounds_toArray, List.set_cons_zero, List.set_cons_succ]
    refine takeTo (i := 9) (v := ?_) (some 46) rfl rfl (by kernel_rfl) (by kernel_rfl) (by kernel_rfl) (fun _ _ _ h => h) (Or.inl ⟨by rfl, ?_⟩) (by assumption) ?_
    rotate_left
    · (intro W7 hSw; (try dsimp only at hSw); go_simp; try with_reducible rfl)
    try simp only [Act.put, List.setIfInBounds_toArray, List.set_cons_zero, List.set_cons_succ]
    refine wpAnyH_ready (rs := [10]) (by kernel_rfl) (by simp) ?_
    refine AllReadyH.cons rfl (fun K hK => ?_) AllReadyH.nil
    rw [if_pos (by rfl)]
    have f10 := b8.out.free 3
    have d10 : w8.cell? ⟨cr, 3, none⟩ = some (.slice A2 m2 c2) := b8.out.cell 3
    go_wp2_with fail
    have kb9 := Lib.hid (show Blk (w8.setCell ⟨cr, 3, none⟩ (.slice A8 m8 c8)) h7 86 #[.int .i64 e.n, .int .i64 e.x, .int .i64 e.p] from kb8.out.far (fun e => by have := b8.out; rw [e] at kb8; have h1 := kb8.out; unfold Blk at h1 this; rw [h1] at this; injection this with this; injection this with _ h2 _; cases h2) _)
    refine hK.out _ _ kb9.out (fun hHeld => ?_)
    clear hK K
    try simp only [Act.put, List.setIfInBounds_toArray, List.set_cons_zero, List.set_cons_succ]
    have R9 := Lib.hid (show RC (w8.setCell ⟨cr, 3, none⟩ (.slice A8 m8 c8)) cr P hitA miss (.slice A8 m8 c8) ((u ++ v) ++ [e]) from ⟨b8.out.put 3 _, H8.out.1.kept (S := fun k => k = cr) (Kept.setCell (Kept.refl (fun k => k = cr) w8) (p := ⟨cr, 3, none⟩) rfl _) fun b hb e => by
      subst e
      rcases H8.out.2 with h | h
      · rw [h] at hb; exact rc6.out.ne hb
      · rw [h] at hb
        injection hb with hb
        have := rc6.out.blk.lt
        omega⟩)
    have K9 := Lib.hid (show Kept (BR cr (.slice A2 m2 c2)) w3 (w8.setCell ⟨cr, 3, none⟩ (.slice A8 m8 c8)) from k8.out.setCell (p := ⟨cr, 3, none⟩) (.inl rfl) _)
    have N9 := Lib.hid (show ∀ k, BR cr (.slice A8 m8 c8) k → BR cr (.slice A2 m2 c2) k ∨ w3.heap.size ≤ k from fun k hk => by
      rcases hk with hk | hk
      · exact .inl (.inl hk)
      · rcases H8.out.2 with h | h
        · rw [h] at hk; exact .inl (.inr hk)
        · rw [h] at hk
          injection hk with hk
          right
          have := k6.out.size
          omega)
    generalize World.setCell w8 _ _ = W9 at kb9 R9 K9 N9 hHeld ⊢
    clear f10 d10 hHeld H8 k8 b8 kb8 rc6 k6 y6 kb6
    refine wpAnyH_done (by kernel_rfl) ?_ _
    have x9 : W9.cell? ⟨h7, 1, none⟩ = some (.int .i64 e.x) := kb9.out.cell 1
    go_wp2_with fail
    go_ret2
    refine ⟨rfl, _, R9.out, ?_, ?_⟩
    · refine (K3.out.mono fun k _ h => .inl h).trans2 K9.out fun k hk => ?_
      rcases hk with hk | hk
      · exact .inl (.inl hk)
      · right
        have h1 := N3.out.1 k hk
        have h2 := H7.out
        omega
    · intro k hk
      rcases N9.out k hk with hk | hk
      · rcases hk with hk | hk
        · exact .inl (.inl hk)
        · right
          have h1 := N3.out.1 k hk
          have h2 := H7.out
          omega
      · right
        have h1 := N3.out.2
        have h2 := H7.out
        omega
end
end Go.Proofs.Ytghakgepchlpgaa
