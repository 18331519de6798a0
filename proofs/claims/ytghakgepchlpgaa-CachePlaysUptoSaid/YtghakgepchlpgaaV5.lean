/- THE WALKS of the document's cache: Put into a full one; Drop, Pin, Unpin, New, Numbers. -/
import Derived.Test.YtghakgepchlpgaaV4
namespace Go.Proofs.Ytghakgepchlpgaa
open Go.RowKit Go.Maps
section
variable {w : World} {cr : Nat} {P hit miss : Int} {LV : Value} {M u v : List Th} {e : Th}
set_option maxHeartbeats 2000000 in
set_option maxRecDepth 100000 in
theorem rput_held (h : RC w cr P hit miss LV M) (n x : Int) (hno : ∀ y ∈ M, y.n ≠ n) (hl : M.length ≤ 100000) (hr : P ≤ (M.length : Int)) (hp : ∀ y ∈ M, y.p ≠ 0) : Calls Try.prog 37 #[.pointer (some ⟨cr, 0, none⟩), .int .i64 n, .int .i64 x] w fun r w' =>
    r = .returned (.tuple #[.int .i64 n, .bool true]) ∧ RC w' cr P hit miss LV M ∧ Kept (BR cr LV) w w' := by
  have HF := Lib.hid (find_none h n hno (by omega))
  obtain ⟨A, c, rfl, hc⟩ := h.own.shape
  obtain ⟨m, hm⟩ : ∃ m, m = M.length := ⟨_, rfl⟩
  rw [← hm] at h hr hl ⊢
  have R := Lib.hid h
  have HM := Lib.hid (And.intro hm hp)
  have s0 : w.drew.cell? ⟨cr, 3, none⟩ = some (.slice A m c) ∧ w.drew.cell? ⟨cr, 0, none⟩ = some (.int .i64 P) := ⟨h.blk.cell 3, h.blk.cell 0⟩
  have hd : decide ((m : Int) < P) = false := by simpa using hr
  clear h hno hc hm hp
  go_enter Try.func37, Try.ntmps37
  go_upto_region 8 with (first | (go_at_call 47; refine HF.out.mono ?_; rintro r w' ⟨rfl, rfl⟩))
  refine wp_region_held_drew (S := fun W' => W'.cell? ⟨cr, 3, none⟩ = some (.slice A m c) ∧ W'.cell? ⟨cr, 0, none⟩ = some (.int .i64 P)) (by kernel_rfl) (by exact s0) (fun hHeld => ?_)
  refine takeTo (i := 0) (v := ?_) (some 39) rfl rfl (by kernel_rfl) (by kernel_rfl) (by kernel_rfl) (fun _ _ _ h => h) (Or.inl ⟨by rfl, ?_⟩) (by assumption) ?_
  rotate_left
  · (intro W7 hSw; (try dsimp only at hSw); go_simp; try with_reducible rfl)
  try simp only [Act.put, List.setIfInBounds_toArray, List.set_cons_zero, List.set_cons_succ]
  refine takeTo (i := 1) (v := ?_) (some 40) rfl rfl (by kernel_rfl) (by kernel_rfl) (by kernel_rfl) (fun _ _ _ h => h) (Or.inl ⟨by rfl, ?_⟩) (by assumption) ?_
  rotate_left
  · (intro W7 hSw; (try dsimp only at hSw); go_simp; try with_reducible rfl)
  try simp only [Act.put, List.setIfInBounds_toArray, List.set_cons_zero, List.set_cons_succ]
  refine takeTo (i := 2) (v := ?_) (some 41) rfl rfl (by kernel_rfl) (by kernel_rfl) (by kernel_rfl) (fun _ _ _ h => h) (Or.inl ⟨by rfl, ?_⟩) (by assumption) ?_
  rotate_left
  · (intro W7 hSw; (try dsimp only at hSw); go_simp; try with_reducible rfl)
  try simp only [Act.put, List.setIfInBounds_toArray, List.set_cons_zero, List.set_cons_succ]
  refine takeTo (i := 3) (v := ?_) (some 42) rfl rfl (by kernel_rfl) (by kernel_rfl) (by kernel_rfl) (fun _ _ _ h => h) (Or.inl ⟨by rfl, ?_⟩) (by assumption) ?_
  rotate_left
  · (intro W7 hSw; (try dsimp only at hSw); go_simp; try with_reducible rfl)
  try simp only [Act.put, List.setIfInBounds_toArray, List.set_cons_zero, List.set_cons_succ]
  refine takeTo (i := 4) (v := ?_) (some 43) rfl rfl (by kernel_rfl) (by kernel_rfl) (by kernel_rfl) (fun _ _ _ h => h) (Or.inl ⟨by rfl, ?_⟩) (by assumption) ?_
  rotate_left
  · (intro W7 hSw; (try dsimp only at hSw); go_simp; try with_reducible rfl)
  try simp only [Act.put, List.setIfInBounds_toArray, List.set_cons_zero, List.set_cons_succ]
  refine takeTo (i := 5) (v := ?_) (some 44) rfl rfl (by kernel_rfl) (by kernel_rfl) (by kernel_rfl) (fun _ _ _ h => h) (Or.inl ⟨by rfl, ?_⟩) (by assumption) ?_
  rotate_left
  · (intro W7 hSw; (try dsimp only at hSw); go_simp; try with_reducible rfl)
  try simp only [Act.put, List.setIfInBounds_toArray, List.set_cons_zero, List.set_cons_succ]
  refine takeTo (i := 6) (v := ?_) (some 45) rfl rfl (by kernel_rfl) (by kernel_rfl) (by kernel_rfl) (fun _ _ _ h => h) (Or.inl ⟨by rfl, ?_⟩) (by assumption) ?_
  rotate_left
  · (intro W7 hSw; (try dsimp only at hSw); go_simp; try with_reducible rfl)
  try simp only [Act.put, List.setIfInBounds_toArray, List.set_cons_zero, List.set_cons_succ]
  refine takeTo (i := 7) (v := ?_) (some 46) rfl rfl (by kernel_rfl) (by kernel_rfl) (by kernel_rfl) (fun _ _ _ h => h) (Or.inl ⟨by rfl, ?_⟩) (by assumption) ?_
  rotate_left
  · (intro W7 hSw; (try dsimp only at hSw); go_simp; try with_reducible rfl)
  try simp only [Act.put, List.setIfInBounds_toArray, List.set_cons_zero, List.set_cons_succ]
  refine takeTo (i := 8) (v := ?_) (some 47) rfl rfl (by kernel_rfl) (by kernel_rfl) (by kernel_rfl) (fun _ _ _ h => h) (Or.inl ⟨by rfl, ?_⟩) (by assumption) ?_
  rotate_left
  · (intro W7 hSw; (try dsimp only at hSw); go_simp; try with_reducible rfl)
  try simp only [Act.put, List.setIfInBounds_toArray, List.set_cons_zero, List.set_cons_succ]
  refine takeTo (i := 9) (v := ?_) (some 48) rfl rfl (by kernel_rfl) (by kernel_rfl) (by kernel_rfl) (fun _ _ _ h => h) (Or.inl ⟨by rfl, ?_⟩) (by assumption) ?_
  rotate_left
  · (intro W7 hSw; (try dsimp only at hSw); go_simp; try with_reducible rfl)
  try simp only [Act.put, List.setIfInBounds_toArray, List.set_cons_zero, List.set_cons_succ]
  refine wpAnyH_done (by kernel_rfl) ?_ _
  have R1 := Lib.hid (R.out.kept (S := fun _ => False) ((Kept.refl _ w).drew) fun _ _ e => e)
  have K1 := Lib.hid (show Kept (BR cr (.slice A m c)) w w.drew from (Kept.refl _ w).drew)
  generalize World.drew w = w1 at R1 K1 hHeld ⊢
  obtain ⟨c3, -⟩ := hHeld
  clear s0
  go_wp2_with fail
  go_loop [10] (fun i => ∃ k : Nat, k ≤ m ∧ i = .int .i64 (k : Int)) (fun i => m - (intOf i).toNat)
  case atStart => exact ⟨0, by omega, rfl⟩
  case round =>
    obtain ⟨k, hk, rfl⟩ := hrel
    by_cases hlt : k < m
    · have hd1 : decide ((k : Int) < (m : Int)) = true := by simp; omega
      have hd2 : (k : Int) < (m : Int) := by omega
      have o1 := R1.out.own
      have hkM : k < M.length := by rw [← HM.out.1]; exact hlt
      rw [HM.out.1] at o1
      obtain ⟨g, rfl, -, -⟩ := o1.some_ (by omega)
      have hat := (o1.at_ k hkM).2.2
      obtain ⟨q, hq⟩ : ∃ q, q = (M.getD k noTh).p := ⟨_, rfl⟩
      rw [← hq] at hat
      have hne : (q == 0) = false := by
        rw [hq]
        simpa using HM.out.2 _ (getD_in M k hkM)
      clear hq o1 hkM
      go_wp2_with fail
      go_round
      case rel => exact ⟨k + 1, by omega, by go_num⟩
      case measure => simp [intOf] <;> omega
    · obtain rfl : k = m := by omega
      have hd1 : decide ((k : Int) < (k : Int)) = false := by simp
      go_wp2_with fail
      go_ret2
      exact ⟨rfl, R1.out, K1.out⟩
set_option maxHeartbeats 2000000 in
set_option maxRecDepth 100000 in
theorem rput_full (h : RC w cr P hit miss LV (u ++ e :: v)) (n x : Int) (hno : ∀ y ∈ u ++ e :: v, y.n ≠ n) (hl : (u ++ e :: v).length ≤ 100000) (hr : P ≤ ((u ++ e :: v).length : Int)) (hu : ∀ y ∈ u, y.p ≠ 0) (he : e.p = 0) : Calls Try.prog 37 #[.pointer (some ⟨cr, 0, none⟩), .int .i64 n, .int .i64 x] w fun r w' =>
    r = .returned (.tuple #[.int .i64 e.n, .bool true]) ∧ ∃ LV', RC w' cr P hit miss LV' (u ++ v ++ [⟨n, x, 0⟩]) ∧ Kept (BR cr LV) w w' ∧ (∀ k, BR cr LV' k → BR cr LV k ∨ w.heap.size ≤ k) := by
  have HF := Lib.hid (find_none h n hno (by omega))
  obtain ⟨A, c, rfl, hc⟩ := h.own.shape
  obtain ⟨g, rfl, -, -⟩ := h.own.some_ (by simp; omega)
  obtain ⟨m, hm⟩ : ∃ m, m = (u ++ e :: v).length := ⟨_, rfl⟩
  obtain ⟨d, hd'⟩ : ∃ d, d = u.length := ⟨_, rfl⟩
  have hdm : d < m := by rw [hd', hm]; simp
  rw [← hm] at h hr hl ⊢
  have R := Lib.hid h
  have HM := Lib.hid (And.intro hm (And.intro hd' (And.intro hu he)))
  have s0 : w.drew.cell? ⟨cr, 3, none⟩ = some (.slice (some ⟨g, 0, none⟩) m c) ∧ w.drew.cell? ⟨cr, 0, none⟩ = some (.int .i64 P) := ⟨h.blk.cell 3, h.blk.cell 0⟩
  have hd : decide ((m : Int) < P) = false := by simpa using hr
  clear h hno hc hm hu he hd'
  go_enter Try.func37, Try.ntmps37
  go_upto_region 8 with (first | (go_at_call 47; refine HF.out.mono ?_; rintro r w' ⟨rfl, rfl⟩))
  refine wp_region_held_drew (S := fun W' => W'.cell? ⟨cr, 3, none⟩ = some (.slice (some ⟨g, 0, none⟩) m c) ∧ W'.cell? ⟨cr, 0, none⟩ = some (.int .i64 P)) (by kernel_rfl) (by exact s0) (fun hHeld => ?_)
  refine takeTo (i := 0) (v := ?_) (some 39) rfl rfl (by kernel_rfl) (by kernel_rfl) (by kernel_rfl) (fun _ _ _ h => h) (Or.inl ⟨by rfl, ?_⟩) (by assumption) ?_
  rotate_left
  · (intro W7 hSw; (try dsimp only at hSw); go_simp; try with_reducible rfl)
  try simp only [Act.put, List.setIfInBounds_toArray, List.set_cons_zero, List.set_cons_succ]
  refine takeTo (i := 1) (v := ?_) (some 40) rfl rfl (by kernel_rfl) (by kernel_rfl) (by kernel_rfl) (fun _ _ _ h => h) (Or.inl ⟨by rfl, ?_⟩) (by assumption) ?_
  rotate_left
  · (intro W7 hSw; (try dsimp only at hSw); go_simp; try with_reducible rfl)
  try simp only [Act.put, List.setIfInBounds_toArray, List.set_cons_zero, List.set_cons_succ]
  refine takeTo (i := 2) (v := ?_) (some 41) rfl rfl (by kernel_rfl) (by kernel_rfl) (by kernel_rfl) (fun _ _ _ h => h) (Or.inl ⟨by rfl, ?_⟩) (by assumption) ?_
  rotate_left
  · (intro W7 hSw; (try dsimp only at hSw); go_simp; try with_reducible rfl)
  try simp only [Act.put, List.setIfInBounds_toArray, List.set_cons_zero, List.set_cons_succ]
  refine takeTo (i := 3) (v := ?_) (some 42) rfl rfl (by kernel_rfl) (by kernel_rfl) (by kernel_rfl) (fun _ _ _ h => h) (Or.inl ⟨by rfl, ?_⟩) (by assumption) ?_
  rotate_left
  · (intro W7 hSw; (try dsimp only at hSw); go_simp; try with_reducible rfl)
  try simp only [Act.put, List.setIfInBounds_toArray, List.set_cons_zero, List.set_cons_succ]
  refine takeTo (i := 4) (v := ?_) (some 43) rfl rfl (by kernel_rfl) (by kernel_rfl) (by kernel_rfl) (fun _ _ _ h => h) (Or.inl ⟨by rfl, ?_⟩) (by assumption) ?_
  rotate_left
  · (intro W7 hSw; (try dsimp only at hSw); go_simp; try with_reducible rfl)
  try simp only [Act.put, List.setIfInBounds_toArray, List.set_cons_zero, List.set_cons_succ]
  refine takeTo (i := 5) (v := ?_) (some 44) rfl rfl (by kernel_rfl) (by kernel_rfl) (by kernel_rfl) (fun _ _ _ h => h) (Or.inl ⟨by rfl, ?_⟩) (by assumption) ?_
  rotate_left
  · (intro W7 hSw; (try dsimp only at hSw); go_simp; try with_reducible rfl)
  try simp only [Act.put, List.setIfInBounds_toArray, List.set_cons_zero, List.set_cons_succ]
  refine takeTo (i := 6) (v := ?_) (some 45) rfl rfl (by kernel_rfl) (by kernel_rfl) (by kernel_rfl) (fun _ _ _ h => h) (Or.inl ⟨by rfl, ?_⟩) (by assumption) ?_
  rotate_left
  · (intro W7 hSw; (try dsimp only at hSw); go_simp; try with_reducible rfl)
  try simp only [Act.put, List.setIfInBounds_toArray, List.set_cons_zero, List.set_cons_succ]
  refine takeTo (i := 7) (v := ?_) (some 46) rfl rfl (by kernel_rfl) (by kernel_rfl) (by kernel_rfl) (fun _ _ _ h => h) (Or.inl ⟨by rfl, ?_⟩) (by assumption) ?_
  rotate_left
  · (intro W7 hSw; (try dsimp only at hSw); go_simp; try with_reducible rfl)
  try simp only [Act.put, List.setIfInBounds_toArray, List.set_cons_zero, List.set_cons_succ]
  refine takeTo (i := 8) (v := ?_) (some 47) rfl rfl (by kernel_rfl) (by kernel_rfl) (by kernel_rfl) (fun _ _ _ h => h) (Or.inl ⟨by rfl, ?_⟩) (by assumption) ?_
  rotate_left
  · (intro W7 hSw; (try dsimp only at hSw); go_simp; try with_reducible rfl)
  try simp only [Act.put, List.setIfInBounds_toArray, List.set_cons_zero, List.set_cons_succ]
  refine takeTo (i := 9) (v := ?_) (some 48) rfl rfl (by kernel_rfl) (by kernel_rfl) (by kernel_rfl) (fun _ _ _ h => h) (Or.inl ⟨by rfl, ?_⟩) (by assumption) ?_
  rotate_left
  · (intro W7 hSw; (try dsimp only at hSw); go_simp; try with_reducible rfl)
  try simp only [Act.put, List.setIfInBounds_toArray, List.set_cons_zero, List.set_cons_succ]
  refine wpAnyH_done (by kernel_rfl) ?_ _
  have R1 := Lib.hid (R.out.kept (S := fun _ => False) ((Kept.refl _ w).drew) fun _ _ e => e)
  have K1 := Lib.hid (show Kept (BR cr (.slice (some ⟨g, 0, none⟩) m c)) w w.drew from (Kept.refl _ w).drew)
  generalize World.drew w = w1 at R1 K1 hHeld ⊢
  obtain ⟨c3, -⟩ := hHeld
  have HC3 := Lib.hid c3
  clear s0
  go_wp2_with fail
  go_loop [10] (fun i => ∃ k : Nat, k ≤ d ∧ i = .int .i64 (k : Int)) (fun i => d - (intOf i).toNat)
  case atStart => exact ⟨0, by omega, rfl⟩
  case round =>
    obtain ⟨k, hk, rfl⟩ := hrel
    have hd1 : decide ((k : Int) < (m : Int)) = true := by simp; omega
    have hd2 : (k : Int) < (m : Int) := by omega
    have o1 := R1.out.own
    have hkM : k < (u ++ e :: v).length := by rw [← HM.out.1]; omega
    rw [HM.out.1] at o1
    have hat := o1.at_ k hkM
    by_cases hlt : k < d
    · obtain ⟨-, -, hat⟩ := hat
      obtain ⟨q, hq⟩ : ∃ q, q = ((u ++ e :: v).getD k noTh).p := ⟨_, rfl⟩
      rw [← hq] at hat
      have hne : (q == 0) = false := by
        rw [hq, getD_low u _ k (by rw [← HM.out.2.1]; exact hlt)]
        simpa using HM.out.2.2.1 _ (getD_in u k (by rw [← HM.out.2.1]; exact hlt))
      clear hq o1 hkM
      go_wp2_with fail
      go_round
      case rel => exact ⟨k + 1, by omega, by go_num⟩
      case measure => simp [intOf] <;> omega
    · obtain rfl : k = d := by omega
      rw [HM.out.2.1, getD_at, ← HM.out.2.1] at hat
      obtain ⟨t0, -, t2⟩ := hat
      rw [HM.out.2.2.2] at t2
      have HR := Lib.hid (show Calls Try.prog 48 #[.pointer (some ⟨cr, 0, none⟩), .int .i64 (k : Int)] w1 fun r w' => r = .returned (.tuple #[]) ∧ ∃ LV', RC w' cr P hit miss LV' (u ++ v) ∧ Kept (fun k => k = cr) w1 w' ∧ (∀ k, LV'.ownBlock = some k → w1.heap.size ≤ k) by
        rw [HM.out.2.1]; exact rout_any R1.out (by rw [← HM.out.1]; omega))
      clear o1 hkM
      go_upto_region 17 with (first | (go_at_call 48; refine HR.out.mono ?_; rintro r w3 ⟨rfl, LV3, r3, k3, n3⟩))
      obtain ⟨A2, c2, rfl, hc2⟩ := r3.own.shape
      obtain ⟨m2, hm2⟩ : ∃ q, q = (u ++ v).length := ⟨_, rfl⟩
      rw [← hm2] at r3 n3
      have R3 := Lib.hid r3
      have K3 := Lib.hid (And.intro k3 n3)
      have HLN := Lib.hid (show ((u ++ v).length + 1) * 24 ≤ 140737488355328 by have h2 := HM.out.1; simp at h2 ⊢; omega)
      have cc3 : w3.cell? ⟨cr, 3, none⟩ = some (.slice A2 m2 c2) := r3.blk.cell 3
      clear r3 k3 n3 hm2 hc2 HR c3 t0 t2 HF
      go_wp2_with (first
        | (at_builtin
           refine wpList_append_th rfl (.tmp 94) (.tmp 98) rfl 0 (.slice A2 m2 c2) (u ++ v) ⟨n, x, 0⟩ rfl (R3.out.own.kept (S := fun _ => False) ((Kept.refl _ _).alloc _) fun _ _ e => e) w3.heap.size 1 rfl (Blk.new w3 86 (Th.cells ⟨n, x, 0⟩)) HLN.out (Nat.zero_le _) ?_
           intro A8 c8 w8 r8 q8 o8 g8 l8
           have k8 := Lib.hid (show Kept (fun k => (Value.slice A2 m2 c2).ownBlock = some k) w3 w8 from ((Kept.refl _ w3).alloc (.cells (Th.cells ⟨n, x, 0⟩) 86)).grown g8 fun _ e => e)
           have b8 := Lib.hid (R3.out.blk.kept k8.out R3.out.ne)
           have f8 := b8.out.free 3
           have d8 : w8.cell? ⟨cr, 3, none⟩ = some (.slice A2 m2 c2) := b8.out.cell 3
           have q8' := q8.out
           subst q8'
           obtain ⟨m8, hm8⟩ : ∃ m, m = (u ++ v ++ [(⟨n, x, 0⟩ : Th)]).length := ⟨_, rfl⟩
           rw [← hm8] at o8 l8 ⊢
           have O8 := Lib.hid (show OwnsT w8 0 (.slice A8 m8 c8) (u ++ v ++ [(⟨n, x, 0⟩ : Th)]) ∧ _ from And.intro o8 l8)
           clear o8 g8 l8 q8 hm8))
      go_ret2
      have hk : Kept (fun k => k = cr) w8 (w8.setCell ⟨cr, 3, none⟩ (.slice A8 m8 c8)) := Kept.setCell (Kept.refl (fun k => k = cr) w8) (p := ⟨cr, 3, none⟩) rfl _
      have hne : ∀ b, (Value.slice A8 m8 c8).ownBlock = some b → b ≠ cr := fun b hb e => by
        subst e
        rcases O8.out.2 with h | h
        · rw [h] at hb; exact R3.out.ne hb
        · rw [h] at hb
          injection hb with hb
          have := R3.out.blk.lt
          simp at hb
          omega
      refine ⟨rfl, .slice A8 m8 c8, ⟨b8.out.put 3 (.slice A8 m8 c8), O8.out.1.kept hk hne⟩, ?_, ?_⟩
      · refine (((K1.out.trans (K3.out.1.mono fun k _ e => .inl e)).trans2 k8.out ?_).trans (hk.mono fun k _ e => .inl e))
        intro k e
        right
        have h1 := K3.out.2 k e
        have h2 := K1.out.size
        omega
      · intro k hk
        rcases hk with hk | hk
        · exact .inl (.inl hk)
        · have h2 := K1.out.size
          have h3 := K3.out.1.size
          rcases O8.out.2 with h | h
          · rw [h] at hk
            have h1 := K3.out.2 k hk
            right; omega
          · rw [h] at hk
            injection hk with hk
            simp at hk
            right; omega
set_option maxHeartbeats 1000000 in
theorem rdrop_none (h : RC w cr P hit miss LV M) (n : Int) (hno : ∀ y ∈ M, y.n ≠ n) (hl : M.length ≤ 1000000) : Calls Try.prog 39 #[.pointer (some ⟨cr, 0, none⟩), .int .i64 n] w fun r w' => r = .returned (.bool false) ∧ w = w' := by
  have HF := Lib.hid (find_none h n hno hl)
  clear h hno
  go_enter Try.func39, Try.ntmps39
  go_wp2_with (first | (go_at_call 47; refine HF.out.mono ?_; rintro r w' ⟨rfl, rfl⟩))
  go_ret
  exact ⟨rfl, rfl⟩
set_option maxHeartbeats 1000000 in
theorem rdrop_some (h : RC w cr P hit miss LV (u ++ e :: v)) (hu : ∀ y ∈ u, y.n ≠ e.n) (hl : (u ++ e :: v).length ≤ 100000) : Calls Try.prog 39 #[.pointer (some ⟨cr, 0, none⟩), .int .i64 e.n] w fun r w' =>
    r = .returned (.bool true) ∧ ∃ LV', RC w' cr P hit miss LV' (u ++ v) ∧ Kept (BR cr LV) w w' ∧ (∀ k, BR cr LV' k → BR cr LV k ∨ w.heap.size ≤ k) := by
  have HF := Lib.hid (find_some h hu (by omega))
  have HR := Lib.hid (rout_any h (by omega))
  obtain ⟨d, hd⟩ : ∃ d, d = u.length := ⟨_, rfl⟩
  rw [← hd] at HF HR
  have dd : decide ((0 : Int) ≤ (d : Int)) = true := by simp
  clear h hu hl hd
  go_enter Try.func39, Try.ntmps39
  go_wp2_with (first | (go_at_call 47; refine HF.out.mono ?_; rintro r w' ⟨rfl, rfl⟩) | (go_at_call 48; refine HR.out.mono ?_; rintro r w3 ⟨rfl, LV3, r3, k3, n3⟩; have HH := Lib.hid (And.intro r3 (And.intro k3 n3)); clear r3 k3 n3))
  go_ret
  refine ⟨rfl, LV3, HH.out.1, HH.out.2.1.mono fun k _ h => .inl h, fun k hk => ?_⟩
  rcases hk with hk | hk
  · exact .inl (.inl hk)
  · exact .inr (HH.out.2.2 k hk)
theorem RC.pin {g c : Nat} (h : RC w cr P hit miss (.slice (some ⟨g, 0, none⟩) (u ++ e :: v).length c) (u ++ e :: v)) (x : Int) :
    RC (w.setCell ⟨g, u.length * 3 + 2, none⟩ (.int .i64 x)) cr P hit miss (.slice (some ⟨g, 0, none⟩) (u ++ e :: v).length c) (u ++ { e with p := x } :: v) ∧ Kept (BR cr (.slice (some ⟨g, 0, none⟩) (u ++ e :: v).length c)) w (w.setCell ⟨g, u.length * 3 + 2, none⟩ (.int .i64 x)) := by
  have hg : g ≠ cr := fun e => h.ne (by rw [e]; rfl)
  have ho := h.own.put u.length (by simp) x
  rw [getD_at, show (u ++ e :: v).set u.length { e with p := x } = u ++ { e with p := x } :: v by simp] at ho
  refine ⟨⟨h.blk.far (fun e => hg e.symm) _, ho⟩, (Kept.refl _ w).setCell (p := ⟨g, u.length * 3 + 2, none⟩) (.inr rfl) _⟩
theorem rpin_none (h : RC w cr P hit miss LV M) (n : Int) (hno : ∀ y ∈ M, y.n ≠ n) (hl : M.length ≤ 1000000) : Calls Try.prog 41 #[.pointer (some ⟨cr, 0, none⟩), .int .i64 n] w fun r w' => r = .returned (.bool false) ∧ w = w' := by
  have HF := Lib.hid (find_none h n hno hl)
  clear h hno
  go_enter Try.func41, Try.ntmps41
  go_wp2_with (first | (go_at_call 47; refine HF.out.mono ?_; rintro r w' ⟨rfl, rfl⟩))
  go_ret
  exact ⟨rfl, rfl⟩
set_option maxHeartbeats 1000000 in
theorem rpin_some (h : RC w cr P hit miss LV (u ++ e :: v)) (hu : ∀ y ∈ u, y.n ≠ e.n) (hl : (u ++ e :: v).length ≤ 100000) : Calls Try.prog 41 #[.pointer (some ⟨cr, 0, none⟩), .int .i64 e.n] w fun r w' =>
    r = .returned (.bool true) ∧ RC w' cr P hit miss LV (u ++ { e with p := wrap64 (e.p + 1) } :: v) ∧ Kept (BR cr LV) w w' := by
  have HF := Lib.hid (find_some h hu (by omega))
  obtain ⟨A, c, rfl, hc⟩ := h.own.shape
  obtain ⟨g, rfl, -, -⟩ := h.own.some_ (by simp; omega)
  have HP := Lib.hid (h.pin (wrap64 (e.p + 1)))
  have c3 : w.cell? ⟨cr, 3, none⟩ = some (.slice (some ⟨g, 0, none⟩) (u ++ e :: v).length c) := h.blk.cell 3
  have hat := (h.own.at_ u.length (by simp)).2.2
  rw [getD_at] at hat
  have hfr := h.own.free (u.length * 3 + 2)
  obtain ⟨m, hm⟩ : ∃ m, m = (u ++ e :: v).length := ⟨_, rfl⟩
  obtain ⟨d, hd⟩ : ∃ d, d = u.length := ⟨_, rfl⟩
  have hdm : (d : Int) < (m : Int) := by rw [hd, hm]; simp; omega
  rw [← hm] at HP c3 ⊢
  rw [← hd] at HF HP hat hfr
  have dd : decide ((0 : Int) ≤ (d : Int)) = true := by simp
  clear h hu hl hd hm hc
  go_enter Try.func41, Try.ntmps41
  go_wp2_with (first | (go_at_call 47; refine HF.out.mono ?_; rintro r w' ⟨rfl, rfl⟩))
  go_ret
  exact ⟨rfl, HP.out⟩
theorem runpin_none (h : RC w cr P hit miss LV M) (n : Int) (hno : ∀ y ∈ M, y.n ≠ n) (hl : M.length ≤ 1000000) : Calls Try.prog 44 #[.pointer (some ⟨cr, 0, none⟩), .int .i64 n] w fun r w' => r = .returned (.bool false) ∧ w = w' := by
  have HF := Lib.hid (find_none h n hno hl)
  clear h hno
  go_enter Try.func44, Try.ntmps44
  go_wp2_with (first | (go_at_call 47; refine HF.out.mono ?_; rintro r w' ⟨rfl, rfl⟩))
  go_ret
  exact ⟨rfl, rfl⟩
set_option maxHeartbeats 1000000 in
theorem runpin_zero (h : RC w cr P hit miss LV (u ++ e :: v)) (hu : ∀ y ∈ u, y.n ≠ e.n) (hl : (u ++ e :: v).length ≤ 100000) (he : e.p = 0) : Calls Try.prog 44 #[.pointer (some ⟨cr, 0, none⟩), .int .i64 e.n] w fun r w' => r = .returned (.bool false) ∧ w = w' := by
  have HF := Lib.hid (find_some h hu (by omega))
  obtain ⟨A, c, rfl, hc⟩ := h.own.shape
  obtain ⟨g, rfl, -, -⟩ := h.own.some_ (by simp; omega)
  have c3 : w.cell? ⟨cr, 3, none⟩ = some (.slice (some ⟨g, 0, none⟩) (u ++ e :: v).length c) := h.blk.cell 3
  have hat := (h.own.at_ u.length (by simp)).2.2
  rw [getD_at, he] at hat
  obtain ⟨m, hm⟩ : ∃ m, m = (u ++ e :: v).length := ⟨_, rfl⟩
  obtain ⟨d, hd⟩ : ∃ d, d = u.length := ⟨_, rfl⟩
  have hdm : (d : Int) < (m : Int) := by rw [hd, hm]; simp; omega
  rw [← hm] at c3
  rw [← hd] at HF hat
  have dd : decide ((d : Int) < 0) = false := by simp
  clear h hu hl hd hm hc he
  go_enter Try.func44, Try.ntmps44
  go_wp2_with (first | (go_at_call 47; refine HF.out.mono ?_; rintro r w' ⟨rfl, rfl⟩))
  go_ret
  exact ⟨rfl, rfl⟩
set_option maxHeartbeats 1000000 in
theorem runpin_some (h : RC w cr P hit miss LV (u ++ e :: v)) (hu : ∀ y ∈ u, y.n ≠ e.n) (hl : (u ++ e :: v).length ≤ 100000) (he : e.p ≠ 0) : Calls Try.prog 44 #[.pointer (some ⟨cr, 0, none⟩), .int .i64 e.n] w fun r w' =>
    r = .returned (.bool true) ∧ RC w' cr P hit miss LV (u ++ { e with p := wrap64 (e.p - 1) } :: v) ∧ Kept (BR cr LV) w w' := by
  have HF := Lib.hid (find_some h hu (by omega))
  obtain ⟨A, c, rfl, hc⟩ := h.own.shape
  obtain ⟨g, rfl, -, -⟩ := h.own.some_ (by simp; omega)
  have HP := Lib.hid (h.pin (wrap64 (e.p - 1)))
  have c3 : w.cell? ⟨cr, 3, none⟩ = some (.slice (some ⟨g, 0, none⟩) (u ++ e :: v).length c) := h.blk.cell 3
  have hat := (h.own.at_ u.length (by simp)).2.2
  rw [getD_at] at hat
  have hfr := h.own.free (u.length * 3 + 2)
  obtain ⟨m, hm⟩ : ∃ m, m = (u ++ e :: v).length := ⟨_, rfl⟩
  obtain ⟨d, hd⟩ : ∃ d, d = u.length := ⟨_, rfl⟩
  have hdm : (d : Int) < (m : Int) := by rw [hd, hm]; simp; omega
  rw [← hm] at HP c3 ⊢
  rw [← hd] at HF HP hat hfr
  have dd : decide ((d : Int) < 0) = false := by simp
  have hne : (e.p == 0) = false := by simpa using he
  clear h hu hl hd hm hc
  go_enter Try.func44, Try.ntmps44
  go_wp2_with (first | (go_at_call 47; refine HF.out.mono ?_; rintro r w' ⟨rfl, rfl⟩))
  go_ret
  exact ⟨rfl, HP.out⟩
theorem rnew_no (P : Int) (w : World) (h : P < 1 ∨ 65536 < P) : Calls Try.prog 35 #[.int .i64 P] w fun r w' => r = .returned (.tuple #[.pointer none, .int .i64 1]) ∧ w = w' := by
  by_cases h1 : P < 1
  · go_enter Try.func35, Try.ntmps35
    go_wp2_with fail
    go_ret2
    exact ⟨rfl, rfl⟩
  · have h2 : 65536 < P := by omega
    go_enter Try.func35, Try.ntmps35
    go_wp2_with fail
    go_ret2
    exact ⟨rfl, rfl⟩
theorem rnew_ok (P : Int) (w : World) (h1 : 1 ≤ P) (h2 : P ≤ 65536) : Calls Try.prog 35 #[.int .i64 P] w fun r w' =>
    r = .returned (.tuple #[.pointer (some ⟨w.heap.size, 0, none⟩), .int .i64 0]) ∧ RC w' w.heap.size P 0 0 (.slice none 0 0) [] ∧ Below w.heap.size w w' := by
  have h3 : ¬ P < 1 := by omega
  have h4 : ¬ 65536 < P := by omega
  go_enter Try.func35, Try.ntmps35
  go_wp2_with fail
  go_ret2
  exact ⟨rfl, ⟨Blk.new _ _ _, OwnsT.nil _ _⟩, (Below.refl _ _).alloc (Nat.le_refl _) _⟩
set_option maxHeartbeats 1000000 in
theorem rnumbers_any (h : RC w cr P hit miss LV M) (hl : M.length ≤ 100000) : Calls Try.prog 32 #[.pointer (some ⟨cr, 0, none⟩)] w fun r w' =>
    ∃ A c, r = .returned (.slice A M.length c) ∧ OwnsI w' w.heap.size (.slice A (M.map (·.n)).length c) (M.map (·.n)) ∧ Below w.heap.size w w' := by
  obtain ⟨A, c, rfl, hc⟩ := h.own.shape
  obtain ⟨m, hm⟩ : ∃ m, m = M.length := ⟨_, rfl⟩
  have HC := Lib.hid (show ∀ W, Below w.heap.size w W → W.cell? ⟨cr, 3, none⟩ = some (.slice A m c) from fun W hW => by rw [hm]; exact (h.blk.below hW h.blk.lt).cell 3)
  have HO := Lib.hid (show ∀ W, Below w.heap.size w W → OwnsT W 0 (.slice A M.length c) M from fun W hW => h.own.kept (S := fun _ => False) (Kept.of_below hW) fun _ _ e => e)
  rw [← hm] at hl ⊢
  have HM := Lib.hid hm
  clear h hc hm
  go_enter Try.func32, Try.ntmps32
  go_wp2_with fail
  go_loopw [3, 4] (fun lv iv wr => ∃ (k : Nat) (A : Option Addr) (c : Nat), k ≤ m ∧ iv = .int .i64 (k : Int) ∧ lv = .slice A k c ∧ OwnsI wr w.heap.size (.slice A k c) ((M.take k).map (·.n)) ∧ Below w.heap.size w wr) (fun _ iv _ => m - (intOf iv).toNat)
  case atStart => exact ⟨0, none, 0, by omega, rfl, rfl, OwnsI.nil _ _, Below.refl _ _⟩
  case round =>
    obtain ⟨k, A3, c3', hk, rfl, rfl, hO, hbel⟩ := hrel
    have c3 := HC.out wr hbel
    have HB := Lib.hid (And.intro hO hbel)
    clear hO
    by_cases hlt : k < m
    · have hd1 : decide ((k : Int) < (m : Int)) = true := by simp; omega
      have hd2 : (k : Int) < (m : Int) := by omega
      have o1 := HO.out wr hbel
      have hkM : k < M.length := by rw [← HM.out]; exact hlt
      obtain ⟨g, rfl, -, -⟩ := o1.some_ (by omega)
      have t0 := (o1.at_ k hkM).1
      obtain ⟨q, hq⟩ : ∃ q, q = (M.getD k noTh).n := ⟨_, rfl⟩
      rw [← hq] at t0
      have HQ := Lib.hid hq
      have hlk : ((M.take k).map (·.n)).length = k := by rw [List.length_map, List.length_take, ← HM.out]; omega
      have HLK := Lib.hid hlk
      clear hq o1 hkM hbel hlk
      go_wp2_with (first
        | (at_builtin
           refine wpList_append_int rfl (.tmp 14) (.tmp 23) rfl w.heap.size (.slice A3 k c3') ((M.take k).map (·.n)) q rfl (OwnsI.alloc HB.out.1 _) wr.heap.size 1 rfl (by have := (Blk.new wr 3 #[.int .i64 q]).cell 0; exact this) (by rw [HLK.out]; omega) (by have := HB.out.2.size; simp; omega) ?_
           intro A4 c4 w4 r4 q4 rc4 o4 g4
           have B4 := Lib.hid (Below.grew (HB.out.2.alloc HB.out.2.size (.cells #[.int .i64 q] 3)) g4 (by have := HB.out.2.size; simp; omega) (fun k hk => (HB.out.1.from_) k hk))
           have Q4 := Lib.hid (show r4 = (M.take (k + 1)).map (·.n) by
             rw [q4.out, List.take_succ_eq_append_getElem (by rw [← HM.out]; exact hlt), List.map_append, HQ.out]
             simp [List.getD, show k < M.length by rw [← HM.out]; exact hlt])
           have L4 := Lib.hid (show r4.length = k + 1 by rw [q4.out, List.length_append, HLK.out]; rfl)
           have O4 := Lib.hid o4
           clear q4 rc4 o4 g4))
      go_roundw
      case rel => exact ⟨k + 1, A4, c4, by omega, by go_num, by rw [L4.out], by have h := O4.out; rw [L4.out] at h; rw [Q4.out] at h; exact h, B4.out⟩
      case measure => simp [intOf] <;> omega
    · obtain rfl : k = m := by omega
      have hd1 : decide ((k : Int) < (k : Int)) = false := by simp
      clear hbel
      go_wp2_with fail
      go_ret
      refine ⟨A3, c3', rfl, ?_, HB.out.2⟩
      have h := HB.out.1
      rw [HM.out, List.take_length] at h
      rw [List.length_map]
      exact h
end
end Go.Proofs.Ytghakgepchlpgaa
