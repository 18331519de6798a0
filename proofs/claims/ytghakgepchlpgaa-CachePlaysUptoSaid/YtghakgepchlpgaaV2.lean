/- THE WALKS of the document's cache: find, out, New, Numbers. -/
import Derived.Test.YtghakgepchlpgaaV1
namespace Go.Proofs.Ytghakgepchlpgaa
open Go.RowKit Go.Maps
section
variable {w : World} {cr : Nat} {P hit miss : Int} {LV : Value} {M u v : List Th} {e : Th}
theorem getD_at (u v : List Th) (e : Th) : (u ++ e :: v).getD u.length noTh = e := by simp [List.getD]
theorem getD_low (u v : List Th) (k : Nat) (h : k < u.length) : (u ++ v).getD k noTh = u.getD k noTh := by
  simp [List.getD, List.getElem?_append_left h]
theorem getD_in (u : List Th) (k : Nat) (h : k < u.length) : u.getD k noTh ∈ u := by
  rw [List.getD_eq_getElem?_getD, List.getElem?_eq_getElem h]
  exact List.getElem_mem ..
set_option maxHeartbeats 1000000 in
theorem find_some (h : RC w cr P hit miss LV (u ++ e :: v)) (hu : ∀ y ∈ u, y.n ≠ e.n) (hl : (u ++ e :: v).length ≤ 1000000) : Calls Try.prog 47 #[.pointer (some ⟨cr, 0, none⟩), .int .i64 e.n] w fun r w' => r = .returned (.int .i64 (u.length : Int)) ∧ w = w' := by
  obtain ⟨A, c, rfl, hc⟩ := h.own.shape
  obtain ⟨g, rfl, -, -⟩ := h.own.some_ (by simp; omega)
  have c3 : w.cell? ⟨cr, 3, none⟩ = some (.slice (some ⟨g, 0, none⟩) (u ++ e :: v).length c) := h.blk.cell 3
  have HO := Lib.hid h.own
  have HU := Lib.hid hu
  have hul : u.length < (u ++ e :: v).length := by simp
  obtain ⟨m, hm⟩ : ∃ m, m = (u ++ e :: v).length := ⟨_, rfl⟩
  obtain ⟨d, hd⟩ : ∃ d, d = u.length := ⟨_, rfl⟩
  rw [← hm] at c3 hl
  rw [← hm, ← hd] at hul
  rw [← hd]
  have HM := Lib.hid (And.intro hm hd)
  clear h hu hc hm hd
  go_enter Try.func47, Try.ntmps47
  go_wp2_with fail
  go_loop [5] (fun i => ∃ k : Nat, k ≤ d ∧ i = .int .i64 (k : Int)) (fun i => d - (intOf i).toNat)
  case atStart => exact ⟨0, by omega, rfl⟩
  case round =>
    obtain ⟨k, hk, rfl⟩ := hrel
    have hd1 : decide ((k : Int) < (m : Int)) = true := by simp; omega
    have hd2 : (k : Int) < (m : Int) := by omega
    by_cases hlt : k < d
    · have hat := (HO.out.at_ k (by rw [← HM.out.1]; omega)).1
      obtain ⟨x, hx⟩ : ∃ x, x = ((u ++ e :: v).getD k noTh).n := ⟨_, rfl⟩
      rw [← hx] at hat
      have hne : (x == e.n) = false := by
        rw [hx, getD_low u _ k (by rw [← HM.out.2]; exact hlt)]
        simpa using HU.out _ (getD_in u k (by rw [← HM.out.2]; exact hlt))
      clear hx
      go_wp2_with fail
      go_round
      case rel => exact ⟨k + 1, by omega, by go_num⟩
      case measure => simp [intOf] <;> omega
    · obtain rfl : k = d := by omega
      have hat := (HO.out.at_ k (by rw [← HM.out.1]; omega)).1
      rw [HM.out.2, getD_at, ← HM.out.2] at hat
      have hne : (e.n == e.n) = true := by simp
      go_wp2_with fail
      go_ret
      exact ⟨rfl, rfl⟩
set_option maxHeartbeats 1000000 in
theorem find_none (h : RC w cr P hit miss LV M) (n : Int) (hno : ∀ y ∈ M, y.n ≠ n) (hl : M.length ≤ 1000000) : Calls Try.prog 47 #[.pointer (some ⟨cr, 0, none⟩), .int .i64 n] w fun r w' => r = .returned (.int .i64 (-1)) ∧ w = w' := by
  obtain ⟨A, c, rfl, hc⟩ := h.own.shape
  have c3 : w.cell? ⟨cr, 3, none⟩ = some (.slice A M.length c) := h.blk.cell 3
  have HO := Lib.hid h.own
  have HU := Lib.hid hno
  obtain ⟨m, hm⟩ : ∃ m, m = M.length := ⟨_, rfl⟩
  rw [← hm] at c3 hl
  have HM := Lib.hid hm
  clear h hno hc hm
  go_enter Try.func47, Try.ntmps47
  go_wp2_with fail
  go_loop [5] (fun i => ∃ k : Nat, k ≤ m ∧ i = .int .i64 (k : Int)) (fun i => m - (intOf i).toNat)
  case atStart => exact ⟨0, by omega, rfl⟩
  case round =>
    obtain ⟨k, hk, rfl⟩ := hrel
    by_cases hlt : k < m
    · have hd1 : decide ((k : Int) < (m : Int)) = true := by simp; omega
      have hd2 : (k : Int) < (m : Int) := by omega
      obtain ⟨g, rfl, -, -⟩ := HO.out.some_ (by rw [← HM.out]; omega)
      have hat := (HO.out.at_ k (by rw [← HM.out]; omega)).1
      obtain ⟨x, hx⟩ : ∃ x, x = (M.getD k noTh).n := ⟨_, rfl⟩
      rw [← hx] at hat
      have hne : (x == n) = false := by
        rw [hx]
        simpa using HU.out _ (getD_in M k (by rw [← HM.out]; exact hlt))
      clear hx
      go_wp2_with fail
      go_round
      case rel => exact ⟨k + 1, by omega, by go_num⟩
      case measure => simp [intOf] <;> omega
    · obtain rfl : k = m := by omega
      have hd1 : decide ((k : Int) < (k : Int)) = false := by simp
      go_wp2_with fail
      go_ret
      exact ⟨rfl, rfl⟩
/-- what stands behind a place's number -/
def Skip (M : List Th) (i j : Nat) : List Th := if j ≤ i then M.take j else M.take i ++ (M.take j).drop (i + 1)
theorem skip_zero (M : List Th) (i : Nat) : Skip M i 0 = [] := by simp [Skip]
theorem skip_same (M : List Th) (i : Nat) : Skip M i (i + 1) = Skip M i i := by
  unfold Skip
  rw [if_neg (by omega), if_pos (by omega), List.drop_of_length_le (by simp; omega), List.append_nil]
theorem skip_succ (M : List Th) (i j : Nat) (hj : j < M.length) (hne : j ≠ i) : Skip M i (j + 1) = Skip M i j ++ [M.getD j noTh] := by
  have ht : M.take (j + 1) = M.take j ++ [M.getD j noTh] := by
    rw [List.take_succ_eq_append_getElem hj]
    simp [List.getD, hj]
  unfold Skip
  by_cases h : j < i
  · rw [if_pos (by omega), if_pos (by omega), ht]
  · rw [if_neg (by omega), if_neg (by omega), ht, List.drop_append_of_le_length (by rw [List.length_take]; omega), List.append_assoc]
theorem skip_all (u v : List Th) (e : Th) : Skip (u ++ e :: v) u.length (u ++ e :: v).length = u ++ v := by
  unfold Skip
  rw [if_neg (by simp), List.take_left, List.take_length, show u.length + 1 = (u ++ [e]).length by simp, show u ++ e :: v = (u ++ [e]) ++ v by simp, List.drop_left]
theorem skip_len (M : List Th) (i j : Nat) : (Skip M i j).length ≤ M.length := by
  unfold Skip
  split
  · rw [List.length_take]; omega
  · simp only [List.length_append, List.length_take, List.length_drop]; omega
set_option maxHeartbeats 1000000 in
theorem rout_any (h : RC w cr P hit miss LV (u ++ e :: v)) (hl : (u ++ e :: v).length ≤ 1000000) : Calls Try.prog 48 #[.pointer (some ⟨cr, 0, none⟩), .int .i64 (u.length : Int)] w fun r w' =>
    r = .returned (.tuple #[]) ∧ ∃ LV', RC w' cr P hit miss LV' (u ++ v) ∧ Kept (fun k => k = cr) w w' ∧ (∀ k, LV'.ownBlock = some k → w.heap.size ≤ k) := by
  obtain ⟨A, c, rfl, hc⟩ := h.own.shape
  obtain ⟨g, rfl, -, -⟩ := h.own.some_ (by simp; omega)
  have H := Lib.hid h
  obtain ⟨M, hM⟩ : ∃ M, M = u ++ e :: v := ⟨_, rfl⟩
  obtain ⟨m, hm⟩ : ∃ m, m = (u ++ e :: v).length := ⟨_, rfl⟩
  obtain ⟨d, hd⟩ : ∃ d, d = u.length := ⟨_, rfl⟩
  have hdm : d < m := by rw [hd, hm]; simp
  have HC := Lib.hid (show ∀ W, Below w.heap.size w W → W.cell? ⟨cr, 3, none⟩ = some (.slice (some ⟨g, 0, none⟩) m c) from fun W hW => by rw [hm]; exact (h.blk.below hW h.blk.lt).cell 3)
  have HO := Lib.hid (show ∀ W, Below w.heap.size w W → ∀ k, k < m → W.cell? ⟨g, k * 3, none⟩ = some (.int .i64 (M.getD k noTh).n) ∧ W.cell? ⟨g, k * 3 + 1, none⟩ = some (.int .i64 (M.getD k noTh).x) ∧ W.cell? ⟨g, k * 3 + 2, none⟩ = some (.int .i64 (M.getD k noTh).p) from fun W hW k hk => by
    rw [hM]
    exact (h.own.kept (S := fun _ => False) (Kept.of_below hW) fun _ _ e => e).at_ k (by rw [← hm]; exact hk))
  rw [← hm] at hl
  rw [← hd]
  have HM := Lib.hid (And.intro hM (And.intro hm hd))
  clear h hc hM hm hd
  go_enter Try.func48, Try.ntmps48
  go_wp2_with fail
  go_loopw [4, 5] (fun lv iv wr => ∃ (k mk : Nat) (A : Option Addr) (c : Nat), k ≤ m ∧ iv = .int .i64 (k : Int) ∧ lv = .slice A mk c ∧ mk = (Skip M d k).length ∧ OwnsT wr w.heap.size (.slice A mk c) (Skip M d k) ∧ Below w.heap.size w wr) (fun _ iv _ => m - (intOf iv).toNat)
  case atStart => exact ⟨0, 0, none, 0, by omega, rfl, rfl, by rw [skip_zero]; rfl, by rw [skip_zero]; exact OwnsT.nil _ _, Below.refl _ _⟩
  case round =>
    obtain ⟨k, mk, A, c', hk, rfl, rfl, hmk, hO, hbel⟩ := hrel
    have c3 := HC.out wr hbel
    have HB := Lib.hid (And.intro hO (And.intro hbel hmk))
    clear hO
    by_cases hlt : k < m
    · have hd1 : decide ((k : Int) < (m : Int)) = true := by simp; omega
      have hd2 : (k : Int) < (m : Int) := by omega
      obtain ⟨t0, t1, t2⟩ := HO.out wr hbel k hlt
      obtain ⟨t, ht⟩ : ∃ t, t = M.getD k noTh := ⟨_, rfl⟩
      rw [← ht] at t0 t1 t2
      have HT := Lib.hid ht
      have hsl : (Skip M d k).length ≤ 1000000 := by have := skip_len M d k; rw [HM.out.1, ← HM.out.2.1] at this; rw [HM.out.1]; omega
      have HSL := Lib.hid hsl
      clear hbel ht hmk hsl
      by_cases hkd : k = d
      · subst hkd
        have hne : ((k : Int) != (k : Int)) = false := by simp
        go_wp2_with fail
        go_roundw
        case rel => exact ⟨k + 1, mk, A, c', by omega, by go_num, rfl, by rw [skip_same]; exact HB.out.2.2, by rw [skip_same]; exact HB.out.1, HB.out.2.1⟩
        case measure => simp [intOf] <;> omega
      · have hne : ((k : Int) != (d : Int)) = true := by simp; omega
        have hne2 : ((k : Int) == (d : Int)) = false := by simp; omega
        go_wp2_with (first
          | (at_builtin
             refine wpList_append_th rfl (.tmp 18) (.tmp 26) rfl w.heap.size (.slice A mk c') (Skip M d k) t rfl (HB.out.1.kept (S := fun _ => False) ((Kept.refl _ _).alloc _) fun _ _ e => e) wr.heap.size 1 rfl (Blk.new wr 86 t.cells) (by have := HSL.out; omega) (by have := HB.out.2.1.size; simp; omega) ?_
             intro A3 c3' w3 r3 q3 o3 g3 l3
             have B3 := Lib.hid ((HB.out.2.1.alloc HB.out.2.1.size (.cells t.cells 86)).grown g3 (by have := HB.out.2.1.size; simp; omega) (fun k e => (HB.out.1.lt k e).1))
             have O3 := Lib.hid o3
             have Q3 := Lib.hid (show r3 = Skip M d (k + 1) by rw [q3.out, skip_succ M d k (by rw [HM.out.1, ← HM.out.2.1]; exact hlt) hkd, ← HT.out])
             clear g3 o3 q3 l3))
        go_roundw
        case rel => exact ⟨k + 1, r3.length, A3, c3', by omega, by go_num, rfl, by rw [Q3.out], by have h := O3.out; rw [Q3.out] at h ⊢; exact h, B3.out⟩
        case measure => simp [intOf] <;> omega
    · obtain rfl : k = m := by omega
      have hd1 : decide ((k : Int) < (k : Int)) = false := by simp
      have bc := H.out.blk.below hbel H.out.blk.lt
      have f3 := bc.free 3
      have BC := Lib.hid bc
      have hq : (Value.slice A mk c').ownBlock = none ∨ True := .inr trivial
      clear hbel hmk hq bc
      go_wp2_with fail
      go_end0
      have hs : Skip M d k = u ++ v := by
        rw [HM.out.1, HM.out.2.1, HM.out.2.2]; exact skip_all u v e
      have O := HB.out.1
      rw [hs] at O
      have hne : ∀ b, (Value.slice A mk c').ownBlock = some b → b ≠ cr := fun b hb e => by
        have h1 := (HB.out.1.lt b hb).1
        have h2 := H.out.blk.lt
        omega
      refine ⟨rfl, .slice A mk c', ⟨?_, ?_⟩, ?_, fun b hb => (HB.out.1.lt b hb).1⟩
      · exact BC.out.put 3 _
      · exact (O.mono (Nat.zero_le _)).kept (S := fun k => k = cr) (Kept.setCell (Kept.refl (fun k => k = cr) wr) (p := ⟨cr, 3, none⟩) rfl _) fun b hb e => hne b hb e
      · exact Kept.setCell (S := fun k => k = cr) (Kept.of_below HB.out.2.1) (p := ⟨cr, 3, none⟩) rfl _
end
end Go.Proofs.Ytghakgepchlpgaa
