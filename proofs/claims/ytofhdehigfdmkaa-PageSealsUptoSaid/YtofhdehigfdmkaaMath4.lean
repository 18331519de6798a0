/- A PAGE WHOSE BITS ARE TURNED within 64 is no page: plain Lean. -/
import Derived.Test.YtofhdehigfdmkaaMath3
namespace Go.Proofs.Ytofhdehigfdmkaa
namespace Page
open Crc
theorem sum_xor (a b : List UInt8) (h : a.length = b.length) : sumOf a ^^^ sumOf b = crc 0#64 (xors a b) := by
  have := crc_xors (~~~ 0#64) (~~~ 0#64) a b h
  rw [BitVec.xor_self] at this
  rw [this]
  unfold sumOf more
  rw [not_xor (crc _ a), not_xor (crc _ b)]
  ac_nf
  rw [← BitVec.xor_assoc, BitVec.xor_self, BitVec.xor_zero]
theorem leB_bit (s : BitVec 64) (k : Nat) : (leB s (k / 8)).toNat.testBit (k % 8) = s.getLsbD k := by
  unfold leB
  rw [UInt8.toNat_ofNat']
  rw [Nat.testBit_mod_two_pow, decide_eq_true (by omega), Bool.true_and, show (256 : Nat) = 2 ^ 8 from rfl, ← Nat.pow_mul, ← Nat.shiftRight_eq_div_pow, Nat.testBit_shiftRight]
  rw [show 8 * (k / 8) + k % 8 = k by omega]
  rfl
theorem xors_take (a b : List UInt8) (n : Nat) : (xors a b).take n = xors (a.take n) (b.take n) := by
  simp [xors, List.take_zipWith]
theorem take_bit (l : List UInt8) (n i : Nat) (h : i < 8 * n) : bitAt (l.take n) i = bitAt l i := by
  unfold bitAt
  rw [take_getD _ _ _ (by omega)]
/-- two texts with right sums, alike but for some bits within 64, are one -/
theorem turned_sum (l : List UInt8) (h8 : 8 ≤ l.length) (hs : SumOk l) (fr : Nat) (run : BitVec 64) (hc : SumOk (flips l fr run 64)) : flipped l.length fr run 64 = false := by
  cases hf : flipped l.length fr run 64 with
  | false => rfl
  | true =>
    exfalso
    obtain ⟨i, hi, ht⟩ := flipped_some _ _ _ _ hf
    have hb : fr + i < 8 * l.length := by
      simp only [turns?, Bool.and_eq_true, decide_eq_true_eq] at ht; exact ht.1
    have hlen : (flips l fr run 64).length = l.length := flips_length _ _ _ _
    have hx : (xors l (flips l fr run 64)).length = l.length := by simp [xors, hlen]
    have hd := direct_crc (xors l (flips l fr run 64)) 0#64 (l.length - 8) (by omega)
    rw [xors_take, ← sum_xor _ _ (by rw [List.length_take, List.length_take, hlen])] at hd
    have hw : word (bitAt (xors l (flips l fr run 64))) (8 * (l.length - 8)) = sumOf (l.take (l.length - 8)) ^^^ sumOf ((flips l fr run 64).take (l.length - 8)) := by
      apply BitVec.eq_of_getLsbD_eq
      intro j hj
      rw [word_bit _ _ _ hj, bitAt_xors _ _ hlen.symm, BitVec.getLsbD_xor]
      have e : ∀ m : List UInt8, m.length = l.length → SumOk m → bitAt m (8 * (l.length - 8) + j) = (sumOf (m.take (l.length - 8))).getLsbD j := by
        intro m hm hk
        have := hk (j / 8) (by omega)
        rw [hm] at this
        rw [bitAt, show (8 * (l.length - 8) + j) / 8 = l.length - 8 + j / 8 by omega, show (8 * (l.length - 8) + j) % 8 = j % 8 by omega, this, leB_bit]
      rw [e l rfl hs, e _ hlen hc]
    refine burst_told (bitAt (xors l (flips l fr run 64))) fr (fr + i) (8 * (l.length - 8)) ?_ ?_ ?_ (by omega) (hd.trans hw.symm)
    · intro j hj
      rw [bitAt_diff]
      have : ¬ (fr ≤ j ∧ j < fr + 64) := by omega
      simp only [this, decide_false, Bool.false_and]
    · intro j hj
      rw [bitAt_diff]
      have : ¬ (fr ≤ j ∧ j < fr + 64) := by omega
      simp only [this, decide_false, Bool.false_and]
    · rw [bitAt_diff, show fr + i - fr = i by omega, ht]
      have : fr ≤ fr + i ∧ fr + i < fr + 64 := by omega
      simp only [this, and_self, decide_true, Bool.and_self]
/-- bits that are turned tell -/
theorem flips_ne (l : List UInt8) (fr : Nat) (run : BitVec 64) (h : flipped l.length fr run 64 = true) : flips l fr run 64 ≠ l := by
  intro e
  obtain ⟨i, hi, ht⟩ := flipped_some _ _ _ _ h
  have := bitAt_diff l fr run 64 (fr + i)
  rw [e, bitAt_xors _ _ rfl, Bool.xor_self, show fr + i - fr = i by omega, ht] at this
  have h2 : fr ≤ fr + i ∧ fr + i < fr + 64 := by omega
  simp only [h2, and_self, decide_true, Bool.and_self] at this
  cases this
end Page
end Go.Proofs.Ytofhdehigfdmkaa
