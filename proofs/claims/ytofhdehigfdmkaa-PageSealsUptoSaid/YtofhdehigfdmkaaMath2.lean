/- BITS THAT ARE TURNED within 64 that stand together: plain Lean. -/
import Derived.Test.YtofhdehigfdmkaaMath
namespace Go.Proofs.Ytofhdehigfdmkaa
namespace Crc

/-- one bit of a byte -/
def bitOf (k : Nat) : UInt8 := UInt8.ofNat (2 ^ k)
theorem bitOf_nat (k : Nat) (hk : k < 8) : (bitOf k).toNat = 2 ^ k := by
  have : 2 ^ k < 2 ^ 8 := Nat.pow_lt_pow_right (by omega) hk
  simp only [bitOf, UInt8.toNat_ofNat']
  exact Nat.mod_eq_of_lt this
/-- bytes, one bit turned -/
def flipBit (l : List UInt8) (j : Nat) : List UInt8 := l.set (j / 8) (l.getD (j / 8) 0 ^^^ bitOf (j % 8))
theorem flipBit_length (l : List UInt8) (j : Nat) : (flipBit l j).length = l.length := by simp [flipBit]
theorem bitAt_flip (l : List UInt8) (j i : Nat) (hj : j < 8 * l.length) : bitAt (flipBit l j) i = (bitAt l i ^^ decide (i = j)) := by
  unfold bitAt flipBit
  by_cases h : i / 8 = j / 8
  · have hlt : j / 8 < l.length := by omega
    rw [h]
    simp only [List.getD_eq_getElem?_getD, List.getElem?_set_self hlt, Option.getD_some, UInt8.toNat_xor, Nat.testBit_xor]
    congr 1
    rw [bitOf_nat _ (by omega), Nat.testBit_two_pow, decide_eq_decide]
    omega
  · have : ¬ i = j := fun e => h (by rw [e])
    have h' : ¬ j / 8 = i / 8 := fun e => h e.symm
    simp [List.getD_eq_getElem?_getD, h', this]
/-- which bits of a run are turned -/
def turns? (n fr : Nat) (run : BitVec 64) (k : Nat) : Bool := decide (fr + k < 8 * n) && run.getLsbD k
/-- the first k bits of a run -/
def flips (l : List UInt8) (fr : Nat) (run : BitVec 64) : Nat → List UInt8
  | 0 => l
  | k + 1 => if turns? l.length fr run k then flipBit (flips l fr run k) (fr + k) else flips l fr run k
/-- is any turned? -/
def flipped (n fr : Nat) (run : BitVec 64) : Nat → Bool
  | 0 => false
  | k + 1 => if turns? n fr run k then true else flipped n fr run k
theorem flips_length (l : List UInt8) (fr : Nat) (run : BitVec 64) (k : Nat) : (flips l fr run k).length = l.length := by
  induction k with
  | zero => rfl
  | succ k ih => rw [flips]; split <;> simp [flipBit_length, ih]
theorem bitAt_flips (l : List UInt8) (fr : Nat) (run : BitVec 64) (k i : Nat) : bitAt (flips l fr run k) i = (bitAt l i ^^ (decide (fr ≤ i ∧ i < fr + k) && turns? l.length fr run (i - fr))) := by
  induction k with
  | zero =>
    have : ¬ (fr ≤ i ∧ i < fr + 0) := by omega
    simp only [flips, this, decide_false, Bool.false_and, Bool.xor_false]
  | succ k ih =>
    rw [flips]
    by_cases h : turns? l.length fr run k = true
    · have hb : fr + k < 8 * l.length := by
        simp only [turns?, Bool.and_eq_true, decide_eq_true_eq] at h; exact h.1
      rw [if_pos h, bitAt_flip _ _ _ (by rw [flips_length]; exact hb), ih]
      by_cases e : i = fr + k
      · subst e
        have h1 : ¬ (fr ≤ fr + k ∧ fr + k < fr + k) := by omega
        have h2 : fr ≤ fr + k ∧ fr + k < fr + (k + 1) := by omega
        rw [show fr + k - fr = k by omega, h]
        rw [decide_eq_false h1, decide_eq_true h2]; simp
      · have h1 : (fr ≤ i ∧ i < fr + k) ↔ (fr ≤ i ∧ i < fr + (k + 1)) := by omega
        have h2 : decide (fr ≤ i ∧ i < fr + k) = decide (fr ≤ i ∧ i < fr + (k + 1)) := decide_eq_decide.2 h1
        rw [h2]; simp [e]
    · rw [if_neg h, ih]
      by_cases e : i = fr + k
      · subst e
        rw [show fr + k - fr = k by omega, Bool.eq_false_iff.2 h]; simp
      · have h1 : (fr ≤ i ∧ i < fr + k) ↔ (fr ≤ i ∧ i < fr + (k + 1)) := by omega
        have h2 : decide (fr ≤ i ∧ i < fr + k) = decide (fr ≤ i ∧ i < fr + (k + 1)) := decide_eq_decide.2 h1
        rw [h2]
theorem flips_stop (l : List UInt8) (fr : Nat) (run : BitVec 64) (k m : Nat) (hk : k ≤ m) (h : 8 * l.length ≤ fr + k) : flips l fr run m = flips l fr run k := by
  induction m with
  | zero => rw [show k = 0 by omega]
  | succ m ih =>
    by_cases e : k = m + 1
    · rw [e]
    · rw [flips, ih (by omega)]
      have : turns? l.length fr run m = false := by
        have : ¬ fr + m < 8 * l.length := by omega
        simp [turns?, this]
      rw [this]; rfl
theorem flipped_stop (n fr : Nat) (run : BitVec 64) (k m : Nat) (hk : k ≤ m) (h : 8 * n ≤ fr + k) : flipped n fr run m = flipped n fr run k := by
  induction m with
  | zero => rw [show k = 0 by omega]
  | succ m ih =>
    by_cases e : k = m + 1
    · rw [e]
    · rw [flipped, ih (by omega)]
      have : turns? n fr run m = false := by
        have : ¬ fr + m < 8 * n := by omega
        simp [turns?, this]
      rw [this]; rfl
theorem flips_none (l : List UInt8) (fr : Nat) (run : BitVec 64) (k : Nat) (h : flipped l.length fr run k = false) : flips l fr run k = l := by
  induction k with
  | zero => rfl
  | succ k ih =>
    rw [flipped] at h
    by_cases ht : turns? l.length fr run k = true
    · rw [if_pos ht] at h; cases h
    · rw [if_neg ht] at h
      rw [flips, if_neg ht, ih h]
theorem flipped_some (n fr : Nat) (run : BitVec 64) (k : Nat) (h : flipped n fr run k = true) : ∃ i, i < k ∧ turns? n fr run i = true := by
  induction k with
  | zero => cases h
  | succ k ih =>
    rw [flipped] at h
    by_cases ht : turns? n fr run k = true
    · exact ⟨k, by omega, ht⟩
    · rw [if_neg ht] at h
      obtain ⟨i, hi, hh⟩ := ih h
      exact ⟨i, by omega, hh⟩
theorem bitAt_xors (a b : List UInt8) (h : a.length = b.length) (i : Nat) : bitAt (xors a b) i = (bitAt a i ^^ bitAt b i) := by
  unfold bitAt xors
  by_cases hi : i / 8 < a.length
  · have hi' : i / 8 < b.length := by omega
    simp [List.getD_eq_getElem?_getD, List.getElem?_zipWith, hi, hi', Nat.testBit_xor]
  · have hi' : ¬ i / 8 < b.length := by omega
    simp only [List.getD_eq_getElem?_getD]
    rw [List.getElem?_eq_none (by simp; omega), List.getElem?_eq_none (by omega), List.getElem?_eq_none (by omega)]
    simp
/-- the bits in which turned bytes differ -/
theorem bitAt_diff (l : List UInt8) (fr : Nat) (run : BitVec 64) (k i : Nat) : bitAt (xors l (flips l fr run k)) i = (decide (fr ≤ i ∧ i < fr + k) && turns? l.length fr run (i - fr)) := by
  rw [bitAt_xors _ _ (by rw [flips_length]), bitAt_flips]
  cases bitAt l i <;> simp
/-- P2.3 -/
theorem turned_told (l : List UInt8) (fr : Nat) (run : BitVec 64) : (sumOf l = sumOf (flips l fr run 64)) ↔ flipped l.length fr run 64 = false := by
  constructor
  · intro hs
    cases hf : flipped l.length fr run 64 with
    | false => rfl
    | true =>
      exfalso
      obtain ⟨i, hi, ht⟩ := flipped_some _ _ _ _ hf
      have hb : fr + i < 8 * l.length := by
        simp only [turns?, Bool.and_eq_true, decide_eq_true_eq] at ht; exact ht.1
      have hx : (xors l (flips l fr run 64)).length = l.length := by simp [xors, flips_length]
      have hz := (sum_differ l _ (by rw [flips_length])).1 hs
      have hd := direct_crc (xors l (flips l fr run 64)) 0#64 l.length (by omega)
      rw [List.take_of_length_le (by omega), hz] at hd
      refine burst_told (bitAt (xors l (flips l fr run 64))) fr (fr + i) (8 * l.length) ?_ ?_ ?_ (by omega) ?_
      · intro j hj
        rw [bitAt_diff]
        have : ¬ (fr ≤ j ∧ j < fr + 64) := by omega
        simp only [this, decide_false, Bool.false_and]
      · intro j hj
        rw [bitAt_diff]
        have : ¬ (fr ≤ j ∧ j < fr + 64) := by omega
        simp only [this, decide_false, Bool.false_and]
      · rw [bitAt_diff, show fr + i - fr = i by omega, ht]
        have : fr ≤ fr + i ∧ fr + i < fr + 64 := by omega
        simp only [this, and_self, decide_true, Bool.and_self]
      · rw [hd, word_beyond _ _ (by omega)]
  · intro h
    rw [flips_none l fr run 64 h]
end Crc
end Go.Proofs.Ytofhdehigfdmkaa
