/- THE WALKS of the document's cache: Put, Drop, Pin, Unpin, New, Numbers. -/
import Derived.Test.YtghakgepchlpgaaV3
namespace Go.Proofs.Ytghakgepchlpgaa
open Go.RowKit Go.Maps
section
variable {w : World} {cr : Nat} {P hit miss : Int} {LV : Value} {M u v : List Th} {e : Th}
set_option maxHeartbeats 2000000 in
set_option maxRecDepth 100000 in
theorem rput_found (h : RC w cr P hit miss LV (u ++ e :: v)) (hu : ∀ y ∈ u, y.n ≠ e.n) (hl : (u ++ e :: v).length ≤ 100000) (x : Int) : Calls Try.prog 37 #[.pointer (some ⟨cr, 0, none⟩), .int .i64 e.n, .int .i64 x] w fun r w' =>
    r = .returned (.tuple #[.int .i64 0, .bool false]) ∧ ∃ LV', RC w' cr P hit miss LV' (u ++ v ++ [{ e with x := x }]) ∧ Kept (BR cr LV) w w' ∧ (∀ k, BR cr LV' k → BR cr LV k ∨ w.heap.size ≤ k) := by
  have HF := Lib.hid (find_some h hu (by omega))
  obtain ⟨A, c, rfl, hc⟩ := h.own.shape
  obtain ⟨g, rfl, -, -⟩ := h.own.some_ (by simp; omega)
  have H := Lib.hid h
  obtain ⟨m, hm⟩ : ∃ m, m = (u ++ e :: v).length := ⟨_, rfl⟩
  obtain ⟨d, hd⟩ : ∃ d, d = u.length := ⟨_, rfl⟩
  have R1 := Lib.hid (show RC w cr P hit miss (.slice (some ⟨g, 0, none⟩) m c) (u ++ e :: v) by rw [hm]; exact h)
  have hdm : (d : Int) < (m : Int) := by rw [hd, hm]; simp; omega
  rw [← hd] at HF
  have HM := Lib.hid (And.intro hm hd)
  have HL := Lib.hid (show m ≤ 100000 by rw [hm]; exact hl)
  have dd : decide ((0 : Int) ≤ (d : Int)) = true := by simp
  clear h hu hc hm hd hl
  go_enter Try.func37, Try.ntmps37
  go_upto_region 3 with (first | (go_at_call 47; refine HF.out.mono ?_; rintro r w' ⟨rfl, rfl⟩))
  have c3 : w.cell? ⟨cr, 3, none⟩ = some (.slice (some ⟨g, 0, none⟩) m c) := R1.out.blk.cell 3
  have o1 := R1.out.own
  rw [HM.out.1] at o1
  obtain ⟨t0, t1, t2⟩ := o1.at_ d (by rw [HM.out.2]; simp)
  rw [HM.out.2, getD_at, ← HM.out.2] at t0 t1 t2
  clear o1
  obtain ⟨h7, hh7⟩ : ∃ q, q = w.heap.size := ⟨_, rfl⟩
  have H7 := Lib.hid (show w.heap.size ≤ h7 ∧ cr < h7 from ⟨by rw [hh7]; exact Nat.le_refl _, by rw [hh7]; exact R1.out.blk.lt⟩)
  have V1 := Lib.hid (show Blk (w.alloc (.cells e.cells 86)) h7 86 e.cells by rw [hh7]; exact Blk.new w 86 e.cells)
  have KK := Lib.hid (show Kept (fun _ => False) w (w.alloc (.cells e.cells 86)) from (Kept.refl _ w).alloc _)
  go_upto_region 4 with fail
  simp only [← hh7]
  clear hh7
  change Code.wp Try.prog _ _ _ (w.alloc (.cells e.cells 86))
  generalize World.alloc w _ = w1 at V1 KK ⊢
  have v1c : w1.cell? ⟨h7, 1, none⟩ = some (.int .i64 e.x) := V1.out.cell 1
  have v1f := V1.out.free 1
  have V2 := Lib.hid (show Blk (w1.setCell ⟨h7, 1, none⟩ (.int .i64 x)) h7 86 #[.int .i64 e.n, .int .i64 x, .int .i64 e.p] from V1.out.put 1 (.int .i64 x))
  have K2 := Lib.hid (show Kept (fun k => k = cr) w (w1.setCell ⟨h7, 1, none⟩ (.int .i64 x)) from (KK.out.mono fun _ _ h => h.elim).trans2 (Kept.setCell (Kept.refl (fun k => k = h7) w1) (p := ⟨h7, 1, none⟩) rfl _) fun k hk => .inr (by have := H7.out; omega))
  have R2 := Lib.hid (show RC (w1.setCell ⟨h7, 1, none⟩ (.int .i64 x)) cr P hit miss (.slice (some ⟨g, 0, none⟩) m c) (u ++ e :: v) from R1.out.kept (S := fun _ => False) ((KK.out).trans2 (Kept.setCell (Kept.refl (fun k => k = h7) w1) (p := ⟨h7, 1, none⟩) rfl _) fun k hk => .inr (by have := H7.out; omega)) fun _ _ h => h)
  go_upto_region 5 with fail
  generalize World.setCell w1 _ _ = w2 at R2 K2 V2 ⊢
  clear c3 t0 t1 t2 R1 v1c v1f V1 KK w1
  have HR := Lib.hid (show Calls Try.prog 48 #[.pointer (some ⟨cr, 0, none⟩), .int .i64 (d : Int)] w2 fun r w' => r = .returned (.tuple #[]) ∧ ∃ LV', RC w' cr P hit miss LV' (u ++ v) ∧ Kept (fun k => k = cr) w2 w' ∧ (∀ k, LV'.ownBlock = some k → w2.heap.size ≤ k) by
    rw [HM.out.2]; exact rout_any R2.out (by rw [← HM.out.1]; have := HL.out; omega))
  go_wp2_with (first | (go_at_call 48; refine HR.out.mono ?_; rintro r w3 ⟨rfl, LV3, r3, k3, n3⟩))
  obtain ⟨A2, c2', rfl, hc2⟩ := r3.own.shape
  obtain ⟨c2, hc2'⟩ : ∃ q, q = c2' := ⟨_, rfl⟩
  rw [← hc2'] at r3 n3 hc2
  obtain ⟨m2, hm2⟩ : ∃ q, q = (u ++ v).length := ⟨_, rfl⟩
  rw [← hm2] at r3 n3
  have R3 := Lib.hid r3
  have K3 := Lib.hid (K2.out.trans k3)
  have V3 := Lib.hid (V2.out.kept k3 (fun e => by have := H7.out; omega))
  have N3 := Lib.hid (And.intro n3 k3.size)
  have hlt7 : h7 < w2.heap.size := V2.out.lt
  have HOB := Lib.hid (show ¬ (Value.slice A2 m2 c2).ownBlock = some h7 from fun e => by have := n3 h7 e; omega)
  have HLN := Lib.hid (show ((u ++ v).length + 1) * 24 ≤ 140737488355328 by have h1 := HL.out; have h2 := HM.out.1; simp at h2 ⊢; omega)
  clear r3 k3 n3 hm2 hc2 hc2' HR R2 K2 V2 HF
  refine wp_region_held_drew (S := fun W' => Blk W' h7 86 #[.int .i64 e.n, .int .i64 x, .int .i64 e.p]) (by kernel_rfl) (by exact V3.out) (fun hHeld => ?_)
  refine takeTo (i := 0) (v := ?_) (some 29) rfl rfl (by kernel_rfl) (by kernel_rfl) (by kernel_rfl) (fun _ _ _ h => h) (Or.inl ⟨by rfl, ?_⟩) (by assumption) ?_
  rotate_left
  · (intro W7 hSw; (try dsimp only at hSw); go_simp; try with_reducible rfl)
  try simp only [Act.put, List.setIfInBounds_toArray, List.set_cons_zero, List.set_cons_succ]
  refine takeTo (i := 1) (v := ?_) (some 30) rfl rfl (by kernel_rfl) (by kernel_rfl) (by kernel_rfl) (fun _ _ _ h => h) (Or.inl ⟨by rfl, ?_⟩) (by assumption) ?_
  rotate_left
  · (intro W7 hSw; (try dsimp only at hSw); go_simp; try with_reducible rfl)
  try simp only [Act.put, List.setIfInBounds_toArray, List.set_cons_zero, List.set_cons_succ]
  refine takeTo (i := 2) (v := ?_) (some 31) rfl rfl (by kernel_rfl) (by kernel_rfl) (by kernel_rfl) (fun _ _ _ h => h) (Or.inl ⟨by rfl, ?_⟩) (by assumption) ?_
  rotate_left
  · (intro W7 hSw; (try dsimp only at hSw); go_simp; try with_reducible rfl)
  try simp only [Act.put, List.setIfInBounds_toArray, List.set_cons_zero, List.set_cons_succ]
  refine takeTo (i := 3) (v := ?_) (some 32) rfl rfl (by kernel_rfl) (by kernel_rfl) (by kernel_rfl) (fun _ _ _ h => h) (Or.inl ⟨by rfl, ?_⟩) (by assumption) ?_
  rotate_left
  · (intro W7 hSw; (try dsimp only at hSw); go_simp; try with_reducible rfl)
  try simp only [Act.put, List.setIfInBounds_toArray, List.set_cons_zero, List.set_cons_succ]
  refine takeTo (i := 5) (v := .agg #[.int .i64 e.n, .int .i64 x, .int .i64 e.p]) (some 34) rfl rfl (by kernel_rfl) (by kernel_rfl) (by kernel_rfl) (fun _ _ _ h => h) (Or.inl ⟨by rfl, fun W7 hSw => exec86 _ rfl rfl hSw⟩) (by assumption) ?_
  try simp only [Act.put, List.setIfInBounds_toArray, List.set_cons_zero, List.set_cons_succ]
  refine wpAnyH_ready (rs := [4, 6]) (by kernel_rfl) (by simp) ?_
  refine AllReadyH.cons rfl (fun K hK => ?_) (AllReadyH.cons rfl (fun K hK => ?_) AllReadyH.nil)
  ·
    rw [if_pos (by rfl)]
    have s4 : World.cell? w3.drew ⟨cr, 3, none⟩ = some (.slice A2 m2 c2) := (R3.out.kept (S := fun _ => False) ((Kept.refl _ w3).drew) fun _ _ e => e).blk.cell 3
    go_wp2_with fail
    refine hK.out _ _ hHeld (fun hHeld => ?_)
    clear hK K
    try simp only [Act.put, List.setIfInBounds_toArray, List.set_cons_zero, List.set_cons_succ]
    clear s4
    refine wpAnyH_ready (rs := [6]) (by kernel_rfl) (by simp) ?_
    refine AllReadyH.cons rfl (fun K hK => ?_) AllReadyH.nil
    rw [if_pos (by rfl)]
    go_wp2_with fail
    have kb6 := Lib.hid (show Blk (w3.alloc (.cells #[.int .i64 e.n, .int .i64 x, .int .i64 e.p] 86)).drew h7 86 #[.int .i64 e.n, .int .i64 x, .int .i64 e.p] from V3.out.alloc _)
    refine hK.out _ _ kb6.out (fun hHeld => ?_)
    clear hK K
    try simp only [Act.put, List.setIfInBounds_toArray, List.set_cons_zero, List.set_cons_succ]
    have rc6 := Lib.hid (show RC (w3.alloc (.cells #[.int .i64 e.n, .int .i64 x, .int .i64 e.p] 86)).drew cr P hit miss (.slice A2 m2 c2) (u ++ v) from R3.out.kept (S := fun _ => False) (((Kept.refl _ _).alloc _).drew) fun _ _ e => e)
    have k6 := Lib.hid (show Kept (fun _ => False) w3 (w3.alloc (.cells #[.int .i64 e.n, .int .i64 x, .int .i64 e.p] 86)).drew from ((Kept.refl _ _).alloc _).drew)
    have y6 := Lib.hid (show Blk (w3.alloc (.cells #[.int .i64 e.n, .int .i64 x, .int .i64 e.p] 86)).drew w3.heap.size 86 #[.int .i64 e.n, .int .i64 x, .int .i64 e.p] from Blk.new _ _ _)
    obtain ⟨hy, hhy⟩ : ∃ q, q = w3.heap.size := ⟨_, rfl⟩
    rw [← hhy] at y6 ⊢
    have HY := Lib.hid hhy
    clear hhy
    generalize World.drew (w3.alloc _) = W6 at kb6 rc6 k6 y6 hHeld ⊢
    refine wpAnyH_ready (rs := [7]) (by kernel_rfl) (by simp) ?_
    refine AllReadyH.cons rfl (fun K hK => ?_) AllReadyH.nil
    rw [if_pos (by rfl)]
    refine wp_append_th (.tmp 33) (.tmp 35) rfl 0 (.slice A2 m2 c2) (u ++ v) { e with x := x } rfl rc6.out.own hy 1 rfl y6.out HLN.out (Nat.zero_le _) ?_
    intro A8 c8 w8 r8 q8 o8 g8 l8
    have kb8 := Lib.hid (show Blk w8 h7 86 #[.int .i64 e.n, .int .i64 x, .int .i64 e.p] from kb6.out.kept (S := fun k => (Value.slice A2 m2 c2).ownBlock = some k) ((Kept.refl _ _).grown g8 fun _ e => e) (HOB.out))
    refine hK.out _ _ kb8.out (fun hHeld => ?_)
    clear hK K
    try simp only [Act.put, List.setIfInBounds_toArray, List.set_cons_zero, List.set_cons_succ]
    have q8' := q8.out
    subst q8'
    obtain ⟨m8, hm8⟩ : ∃ m, m = ((u ++ v) ++ [{ e with x := x }]).length := ⟨_, rfl⟩
    rw [← hm8] at o8 l8 ⊢
    have H8 := Lib.hid (show OwnsT w8 0 (.slice A8 m8 c8) ((u ++ v) ++ [{ e with x := x }]) ∧ ((Value.slice A8 m8 c8).ownBlock = (Value.slice A2 m2 c2).ownBlock ∨ (Value.slice A8 m8 c8).ownBlock = some W6.heap.size) from ⟨o8, l8⟩)
    have k8 := Lib.hid (show Kept (BR cr (.slice A2 m2 c2)) w3 w8 from (k6.out.mono fun _ _ h => h.elim).grown g8 fun k e => .inr e)
    have b8 := Lib.hid (show Blk w8 cr 71 _ from rc6.out.blk.kept (S := fun k => (Value.slice A2 m2 c2).ownBlock = some k) ((Kept.refl _ _).grown g8 fun _ e => e) rc6.out.ne)
    clear o8 g8 l8 hm8
    refine takeTo (i := 8) (v := ?_) (some 37) rfl rfl (by kernel_rfl) (by kernel_rfl) (by kernel_rfl) (fun _ _ _ h => h) (Or.inl ⟨by rfl, ?_⟩) (by assumption) ?_
    rotate_left
    · (intro W7 hSw; (try dsimp only at hSw); go_simp; try with_reducible rfl)
    try simp only [Act.put, List.setIfInBounds_toArray, List.set_cons_zero, List.set_cons_succ]
    refine takeTo (i := 9) (v := ?_) (some 38) rfl rfl (by kernel_rfl) (by kernel_rfl) (by kernel_rfl) (fun _ _ _ h => h) (Or.inl ⟨by rfl, ?_⟩) (by assumption) ?_
    rotate_left
    · (intro W7 hSw; (try dsimp only at hSw); go_simp; try with_reducible rfl)
    try simp only [Act.put, List.setIfInBounds_toArray, List.set_cons_zero, List.set_cons_succ]
    refine wpAnyH_ready (rs := [10]) (by kernel_rfl) (by simp) ?_
    refine AllReadyH.cons rfl (fun K hK => ?_) AllReadyH.nil
    rw [if_pos (by rfl)]
    have f10 := b8.out.free 3
    have d10 : w8.cell? ⟨cr, 3, none⟩ = some (.slice A2 m2 c2) := b8.out.cell 3
    go_wp2_with fail
    have kb9 := Lib.hid (show Blk (w8.setCell ⟨cr, 3, none⟩ (.slice A8 m8 c8)) h7 86 #[.int .i64 e.n, .int .i64 x, .int .i64 e.p] from kb8.out.far (fun e => by have := b8.out; rw [e] at kb8; have h1 := kb8.out; unfold Blk at h1 this; rw [h1] at this; injection this with this; injection this with _ h2 _; cases h2) _)
    refine hK.out _ _ kb9.out (fun hHeld => ?_)
    clear hK K
    try simp only [Act.put, List.setIfInBounds_toArray, List.set_cons_zero, List.set_cons_succ]
    have R9 := Lib.hid (show RC (w8.setCell ⟨cr, 3, none⟩ (.slice A8 m8 c8)) cr P hit miss (.slice A8 m8 c8) ((u ++ v) ++ [{ e with x := x }]) from ⟨b8.out.put 3 _, H8.out.1.kept (S := fun k => k = cr) (Kept.setCell (Kept.refl (fun k => k = cr) w8) (p := ⟨cr, 3, none⟩) rfl _) fun b hb e => by
      subst e
      rcases H8.out.2 with h | h
      · rw [h] at hb; exact rc6.out.ne hb
      · rw [h] at hb
        injection hb with hb
        have := rc6.out.blk.lt
        omega⟩)
    have K9 := Lib.hid (show Kept (BR cr (.slice A2 m2 c2)) w3 (w8.setCell ⟨cr, 3, none⟩ (.slice A8 m8 c8)) from k8.out.setCell (p := ⟨cr, 3, none⟩) (.inl rfl) _)
    have N9 := Lib.hid (show ∀ k, BR cr (.slice A8 m8 c8) k → BR cr (.slice A2 m2 c2) k ∨ w3.heap.size ≤ k from fun k hk => by
      rcases hk with hk | hk
      · exact .inl (.inl hk)
      · rcases H8.out.2 with h | h
        · rw [h] at hk; exact .inl (.inr hk)
        · rw [h] at hk
          injection hk with hk
          right
          have := k6.out.size
          omega)
    generalize World.setCell w8 _ _ = W9 at kb9 R9 K9 N9 hHeld ⊢
    clear f10 d10 hHeld H8 k8 b8 kb8 rc6 k6 y6 kb6
    refine wpAnyH_done (by kernel_rfl) ?_ _
    go_wp2_with fail
    go_ret2
    refine ⟨rfl, _, R9.out, ?_, ?_⟩
    · refine (K3.out.mono fun k _ h => .inl h).trans2 K9.out fun k hk => ?_
      rcases hk with hk | hk
      · exact .inl (.inl hk)
      · right
        have h1 := N3.out.1 k hk
        have h2 := H7.out
        omega
    · intro k hk
      rcases N9.out k hk with hk | hk
      · rcases hk with hk | hk
        · exact .inl (.inl hk)
        · right
          have h1 := N3.out.1 k hk
          have h2 := H7.out
          omega
      · right
        have h1 := N3.out.2
        have h2 := H7.out
        omega
  ·
    rw [if_pos (by rfl)]
    go_wp2_with fail
    have kb6 := Lib.hid (show Blk (w3.alloc (.cells #[.int .i64 e.n, .int .i64 x, .int .i64 e.p] 86)).drew h7 86 #[.int .i64 e.n, .int .i64 x, .int .i64 e.p] from V3.out.alloc _)
    refine hK.out _ _ kb6.out (fun hHeld => ?_)
    clear hK K
    try simp only [Act.put, List.setIfInBounds_toArray, List.set_cons_zero, List.set_cons_succ]
    have rc6 := Lib.hid (show RC (w3.alloc (.cells #[.int .i64 e.n, .int .i64 x, .int .i64 e.p] 86)).drew cr P hit miss (.slice A2 m2 c2) (u ++ v) from R3.out.kept (S := fun _ => False) (((Kept.refl _ _).alloc _).drew) fun _ _ e => e)
    have k6 := Lib.hid (show Kept (fun _ => False) w3 (w3.alloc (.cells #[.int .i64 e.n, .int .i64 x, .int .i64 e.p] 86)).drew from ((Kept.refl _ _).alloc _).drew)
    have y6 := Lib.hid (show Blk (w3.alloc (.cells #[.int .i64 e.n, .int .i64 x, .int .i64 e.p] 86)).drew w3.heap.size 86 #[.int .i64 e.n, .int .i64 x, .int .i64 e.p] from Blk.new _ _ _)
    obtain ⟨hy, hhy⟩ : ∃ q, q = w3.heap.size := ⟨_, rfl⟩
    rw [← hhy] at y6 ⊢
    have HY := Lib.hid hhy
    clear hhy
    generalize World.drew (w3.alloc _) = W6 at kb6 rc6 k6 y6 hHeld ⊢
    refine wpAnyH_ready (rs := [4]) (by kernel_rfl) (by simp) ?_
    refine AllReadyH.cons rfl (fun K hK => ?_) AllReadyH.nil
    rw [if_pos (by rfl)]
    have s4 : World.cell? W6 ⟨cr, 3, none⟩ = some (.slice A2 m2 c2) := (rc6.out).blk.cell 3
    go_wp2_with fail
    refine hK.out _ _ hHeld (fun hHeld => ?_)
    clear hK K
    try simp only [Act.put, List.setIfInBounds_toArray, List.set_cons_zero, List.set_cons_succ]
    clear s4
    refine wpAnyH_ready (rs := [7]) (by kernel_rfl) (by simp) ?_
    refine AllReadyH.cons rfl (fun K hK => ?_) AllReadyH.nil
    rw [if_pos (by rfl)]
    refine wp_append_th (.tmp 33) (.tmp 35) rfl 0 (.slice A2 m2 c2) (u ++ v) { e with x := x } rfl rc6.out.own hy 1 rfl y6.out HLN.out (Nat.zero_le _) ?_
    intro A8 c8 w8 r8 q8 o8 g8 l8
    have kb8 := Lib.hid (show Blk w8 h7 86 #[.int .i64 e.n, .int .i64 x, .int .i64 e.p] from kb6.out.kept (S := fun k => (Value.slice A2 m2 c2).ownBlock = some k) ((Kept.refl _ _).grown g8 fun _ e => e) (HOB.out))
    refine hK.out _ _ kb8.out (fun hHeld => ?_)
    clear hK K
    try simp only [Act.put, List.setIfInBounds_toArray, List.set_cons_zero, List.set_cons_succ]
    have q8' := q8.out
    subst q8'
    obtain ⟨m8, hm8⟩ : ∃ m, m = ((u ++ v) ++ [{ e with x := x }]).length := ⟨_, rfl⟩
    rw [← hm8] at o8 l8 ⊢
    have H8 := Lib.hid (show OwnsT w8 0 (.slice A8 m8 c8) ((u ++ v) ++ [{ e with x := x }]) ∧ ((Value.slice A8 m8 c8).ownBlock = (Value.slice A2 m2 c2).ownBlock ∨ (Value.slice A8 m8 c8).ownBlock = some W6.heap.size) from ⟨o8, l8⟩)
    have k8 := Lib.hid (show Kept (BR cr (.slice A2 m2 c2)) w3 w8 from (k6.out.mono fun _ _ h => h.elim).grown g8 fun k e => .inr e)
    have b8 := Lib.hid (show Blk w8 cr 71 _ from rc6.out.blk.kept (S := fun k => (Value.slice A2 m2 c2).ownBlock = some k) ((Kept.refl _ _).grown g8 fun _ e => e) rc6.out.ne)
    clear o8 g8 l8 hm8
    refine takeTo (i := 8) (v := ?_) (some 37) rfl rfl (by kernel_rfl) (by kernel_rfl) (by kernel_rfl) (fun _ _ _ h => h) (Or.inl ⟨by rfl, ?_⟩) (by assumption) ?_
    rotate_left
    · (intro W7 hSw; (try dsimp only at hSw); go_simp; try with_reducible rfl)
    try simp only [Act.put, List.setIfInBounds_toArray, List.set_cons_zero, List.set_cons_succ]
    refine takeTo (i := 9) (v := ?_) (some 38) rfl rfl (by kernel_rfl) (by kernel_rfl) (by kernel_rfl) (fun _ _ _ h => h) (Or.inl ⟨by rfl, ?_⟩) (by assumption) ?_
    rotate_left
    · (intro W7 hSw; (try dsimp only at hSw); go_simp; try with_reducible rfl)
    try simp only [Act.put, List.setIfInBounds_toArray, List.set_cons_zero, List.set_cons_succ]
    refine wpAnyH_ready (rs := [10]) (by kernel_rfl) (by simp) ?_
    refine AllReadyH.cons rfl (fun K hK => ?_) AllReadyH.nil
    rw [if_pos (by rfl)]
    have f10 := b8.out.free 3
    have d10 : w8.cell? ⟨cr, 3, none⟩ = some (.slice A2 m2 c2) := b8.out.cell 3
    go_wp2_with fail
    have kb9 := Lib.hid (show Blk (w8.setCell ⟨cr, 3, none⟩ (.slice A8 m8 c8)) h7 86 #[.int .i64 e.n, .int .i64 x, .int .i64 e.p] from kb8.out.far (fun e => by have := b8.out; rw [e] at kb8; have h1 := kb8.out; unfold Blk at h1 this; rw [h1] at this; injection this with this; injection this with _ h2 _; cases h2) _)
    refine hK.out _ _ kb9.out (fun hHeld => ?_)
    clear hK K
    try simp only [Act.put, List.setIfInBounds_toArray, List.set_cons_zero, List.set_cons_succ]
    have R9 := Lib.hid (show RC (w8.setCell ⟨cr, 3, none⟩ (.slice A8 m8 c8)) cr P hit miss (.slice A8 m8 c8) ((u ++ v) ++ [{ e with x := x }]) from ⟨b8.out.put 3 _, H8.out.1.kept (S := fun k => k = cr) (Kept.setCell (Kept.refl (fun k => k = cr) w8) (p := ⟨cr, 3, none⟩) rfl _) fun b hb e => by
      subst e
      rcases H8.out.2 with h | h
      · rw [h] at hb; exact rc6.out.ne hb
      · rw [h] at hb
        injection hb with hb
        have := rc6.out.blk.lt
        omega⟩)
    have K9 := Lib.hid (show Kept (BR cr (.slice A2 m2 c2)) w3 (w8.setCell ⟨cr, 3, none⟩ (.slice A8 m8 c8)) from k8.out.setCell (p := ⟨cr, 3, none⟩) (.inl rfl) _)
    have N9 := Lib.hid (show ∀ k, BR cr (.slice A8 m8 c8) k → BR cr (.slice A2 m2 c2) k ∨ w3.heap.size ≤ k from fun k hk => by
      rcases hk with hk | hk
      · exact .inl (.inl hk)
      · rcases H8.out.2 with h | h
        · rw [h] at hk; exact .inl (.inr hk)
        · rw [h] at hk
          injection hk with hk
          right
          have := k6.out.size
          omega)
    generalize World.setCell w8 _ _ = W9 at kb9 R9 K9 N9 hHeld ⊢
    clear f10 d10 hHeld H8 k8 b8 kb8 rc6 k6 y6 kb6
    refine wpAnyH_done (by kernel_rfl) ?_ _
    go_wp2_with fail
    go_ret2
    refine ⟨rfl, _, R9.out, ?_, ?_⟩
    · refine (K3.out.mono fun k _ h => .inl h).trans2 K9.out fun k hk => ?_
      rcases hk with hk | hk
      · exact .inl (.inl hk)
      · right
        have h1 := N3.out.1 k hk
        have h2 := H7.out
        omega
    · intro k hk
      rcases N9.out k hk with hk | hk
      · rcases hk with hk | hk
        · exact .inl (.inl hk)
        · right
          have h1 := N3.out.1 k hk
          have h2 := H7.out
          omega
      · right
        have h1 := N3.out.2
        have h2 := H7.out
        omega

set_option maxHeartbeats 2000000 in
set_option maxRecDepth 100000 in
theorem rput_room (h : RC w cr P hit miss LV M) (n x : Int) (hno : ∀ y ∈ M, y.n ≠ n) (hl : M.length ≤ 100000) (hr : (M.length : Int) < P) : Calls Try.prog 37 #[.pointer (some ⟨cr, 0, none⟩), .int .i64 n, .int .i64 x] w fun r w' =>
    r = .returned (.tuple #[.int .i64 0, .bool false]) ∧ ∃ LV', RC w' cr P hit miss LV' (M ++ [⟨n, x, 0⟩]) ∧ Kept (BR cr LV) w w' ∧ (∀ k, BR cr LV' k → BR cr LV k ∨ w.heap.size ≤ k) := by
  have HF := Lib.hid (find_none h n hno (by omega))
  obtain ⟨A, c, rfl, hc⟩ := h.own.shape
  obtain ⟨m, hm⟩ : ∃ m, m = M.length := ⟨_, rfl⟩
  rw [← hm] at h hr hl ⊢
  have R := Lib.hid h
  have HM := Lib.hid hm
  have s0 : w.drew.cell? ⟨cr, 3, none⟩ = some (.slice A m c) ∧ w.drew.cell? ⟨cr, 0, none⟩ = some (.int .i64 P) := ⟨h.blk.cell 3, h.blk.cell 0⟩
  have hd : decide ((m : Int) < P) = true := by simpa using hr
  clear h hno hc hm
  go_enter Try.func37, Try.ntmps37
  go_upto_region 8 with (first | (go_at_call 47; refine HF.out.mono ?_; rintro r w' ⟨rfl, rfl⟩))
  refine wp_region_held_drew (S := fun W' => W'.cell? ⟨cr, 3, none⟩ = some (.slice A m c) ∧ W'.cell? ⟨cr, 0, none⟩ = some (.int .i64 P)) (by kernel_rfl) (by exact s0) (fun hHeld => ?_)
  refine takeTo (i := 0) (v := ?_) (some 39) rfl rfl (by kernel_rfl) (by kernel_rfl) (by kernel_rfl) (fun _ _ _ h => h) (Or.inl ⟨by rfl, ?_⟩) (by assumption) ?_
  rotate_left
  · (intro W7 hSw; (try dsimp only at hSw); go_simp; try with_reducible rfl)
  try simp only [Act.put, List.setIfInBounds_toArray, List.set_cons_zero, List.set_cons_succ]
  refine takeTo (i := 1) (v := ?_) (some 40) rfl rfl (by kernel_rfl) (by kernel_rfl) (by kernel_rfl) (fun _ _ _ h => h) (Or.inl ⟨by rfl, ?_⟩) (by assumption) ?_
  rotate_left
  · (intro W7 hSw; (try dsimp only at hSw); go_simp; try with_reducible rfl)
  try simp only [Act.put, List.setIfInBounds_toArray, List.set_cons_zero, List.set_cons_succ]
  refine takeTo (i := 2) (v := ?_) (some 41) rfl rfl (by kernel_rfl) (by kernel_rfl) (by kernel_rfl) (fun _ _ _ h => h) (Or.inl ⟨by rfl, ?_⟩) (by assumption) ?_
  rotate_left
  · (intro W7 hSw; (try dsimp only at hSw); go_simp; try with_reducible rfl)
  try simp only [Act.put, List.setIfInBounds_toArray, List.set_cons_zero, List.set_cons_succ]
  refine takeTo (i := 3) (v := ?_) (some 42) rfl rfl (by kernel_rfl) (by kernel_rfl) (by kernel_rfl) (fun _ _ _ h => h) (Or.inl ⟨by rfl, ?_⟩) (by assumption) ?_
  rotate_left
  · (intro W7 hSw; (try dsimp only at hSw); go_simp; try with_reducible rfl)
  try simp only [Act.put, List.setIfInBounds_toArray, List.set_cons_zero, List.set_cons_succ]
  refine takeTo (i := 4) (v := ?_) (some 43) rfl rfl (by kernel_rfl) (by kernel_rfl) (by kernel_rfl) (fun _ _ _ h => h) (Or.inl ⟨by rfl, ?_⟩) (by assumption) ?_
  rotate_left
  · (intro W7 hSw; (try dsimp only at hSw); go_simp; try with_reducible rfl)
  try simp only [Act.put, List.setIfInBounds_toArray, List.set_cons_zero, List.set_cons_succ]
  refine takeTo (i := 5) (v := ?_) (some 44) rfl rfl (by kernel_rfl) (by kernel_rfl) (by kernel_rfl) (fun _ _ _ h => h) (Or.inl ⟨by rfl, ?_⟩) (by assumption) ?_
  rotate_left
  · (intro W7 hSw; (try dsimp only at hSw); go_simp; try with_reducible rfl)
  try simp only [Act.put, List.setIfInBounds_toArray, List.set_cons_zero, List.set_cons_succ]
  refine takeTo (i := 6) (v := ?_) (some 45) rfl rfl (by kernel_rfl) (by kernel_rfl) (by kernel_rfl) (fun _ _ _ h => h) (Or.inl ⟨by rfl, ?_⟩) (by assumption) ?_
  rotate_left
  · (intro W7 hSw; (try dsimp only at hSw); go_simp; try with_reducible rfl)
  try simp only [Act.put, List.setIfInBounds_toArray, List.set_cons_zero, List.set_cons_succ]
  refine takeTo (i := 7) (v := ?_) (some 46) rfl rfl (by kernel_rfl) (by kernel_rfl) (by kernel_rfl) (fun _ _ _ h => h) (Or.inl ⟨by rfl, ?_⟩) (by assumption) ?_
  rotate_left
  · (intro W7 hSw; (try dsimp only at hSw); go_simp; try with_reducible rfl)
  try simp only [Act.put, List.setIfInBounds_toArray, List.set_cons_zero, List.set_cons_succ]
  refine takeTo (i := 8) (v := ?_) (some 47) rfl rfl (by kernel_rfl) (by kernel_rfl) (by kernel_rfl) (fun _ _ _ h => h) (Or.inl ⟨by rfl, ?_⟩) (by assumption) ?_
  rotate_left
  · (intro W7 hSw; (try dsimp only at hSw); go_simp; try with_reducible rfl)
  try simp only [Act.put, List.setIfInBounds_toArray, List.set_cons_zero, List.set_cons_succ]
  refine takeTo (i := 9) (v := ?_) (some 48) rfl rfl (by kernel_rfl) (by kernel_rfl) (by kernel_rfl) (fun _ _ _ h => h) (Or.inl ⟨by rfl, ?_⟩) (by assumption) ?_
  rotate_left
  · (intro W7 hSw; (try dsimp only at hSw); go_simp; try with_reducible rfl)
  try simp only [Act.put, List.setIfInBounds_toArray, List.set_cons_zero, List.set_cons_succ]
  refine wpAnyH_done (by kernel_rfl) ?_ _
  have R1 := Lib.hid (R.out.kept (S := fun _ => False) ((Kept.refl _ w).drew) fun _ _ e => e)
  have K1 := Lib.hid (show Kept (BR cr (.slice A m c)) w w.drew from (Kept.refl _ w).drew)
  generalize World.drew w = w1 at R1 K1 hHeld ⊢
  obtain ⟨c3, -⟩ := hHeld
  clear s0
  go_wp2_with (first
    | (at_builtin
       refine wpList_append_th rfl (.tmp 53) (.tmp 57) rfl 0 (.slice A m c) M ⟨n, x, 0⟩ rfl (R1.out.own.kept (S := fun _ => False) ((Kept.refl _ _).alloc _) fun _ _ e => e) w1.heap.size 1 rfl (Blk.new w1 86 (Th.cells ⟨n, x, 0⟩)) (by rw [← HM.out]; omega) (Nat.zero_le _) ?_
       intro A8 c8 w8 r8 q8 o8 g8 l8
       have k8 := Lib.hid (show Kept (fun k => (Value.slice A m c).ownBlock = some k) w1 w8 from ((Kept.refl _ w1).alloc (.cells (Th.cells ⟨n, x, 0⟩) 86)).grown g8 fun _ e => e)
       have b8 := Lib.hid (R1.out.blk.kept k8.out R1.out.ne)
       have f8 := b8.out.free 3
       have d8 : w8.cell? ⟨cr, 3, none⟩ = some (.slice A m c) := b8.out.cell 3
       have q8' := q8.out
       subst q8'
       obtain ⟨m8, hm8⟩ : ∃ m, m = (M ++ [(⟨n, x, 0⟩ : Th)]).length := ⟨_, rfl⟩
       rw [← hm8] at o8 l8 ⊢
       have O8 := Lib.hid (show OwnsT w8 0 (.slice A8 m8 c8) (M ++ [(⟨n, x, 0⟩ : Th)]) ∧ _ from And.intro o8 l8)
       clear o8 g8 l8 q8 hm8))
  go_ret2
  have hk : Kept (fun k => k = cr) w8 (w8.setCell ⟨cr, 3, none⟩ (.slice A8 m8 c8)) := Kept.setCell (Kept.refl (fun k => k = cr) w8) (p := ⟨cr, 3, none⟩) rfl _
  have hne : ∀ b, (Value.slice A8 m8 c8).ownBlock = some b → b ≠ cr := fun b hb e => by
    subst e
    rcases O8.out.2 with h | h
    · rw [h] at hb; exact R1.out.ne hb
    · rw [h] at hb
      injection hb with hb
      have := R1.out.blk.lt
      simp at hb
      omega
  refine ⟨rfl, .slice A8 m8 c8, ⟨b8.out.put 3 (.slice A8 m8 c8), O8.out.1.kept hk hne⟩, ?_, ?_⟩
  · have := (K1.out.trans (k8.out.mono fun k _ e => .inr e)).trans (hk.mono fun k _ e => .inl e)
    exact this
  · intro k hk
    rcases hk with hk | hk
    · exact .inl (.inl hk)
    · rcases O8.out.2 with h | h
      · rw [h] at hk; exact .inl (.inr hk)
      · rw [h] at hk
        injection hk with hk
        right
        have := K1.out.size
        simp at hk
        omega
end
end Go.Proofs.Ytghakgepchlpgaa
