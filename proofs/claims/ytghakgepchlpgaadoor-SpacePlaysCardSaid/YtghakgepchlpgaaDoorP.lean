/- WALKS: a number out of four bytes, the program's and the document's. -/
import Derived.Test.YtghakgepchlpgaaDoorG
import Derived.Test.YtghakgepchlpgaaDoorMathB
namespace Go.Proofs.YtghakgepchlpgaaDoor
open Go.RowKit Spc

theorem below_drewN {B : Nat} {a w : World} (h : Below B a w) (n : Nat) : Below B a (w.drewN n) := ⟨h.os, h.tape, h.output, h.size, h.block⟩
theorem i64_or_nat (a b : Nat) (ha : a < 9223372036854775808) (hb : b < 9223372036854775808) : bits .or .i64 (a : Int) (b : Int) = ((a ||| b : Nat) : Int) := by
  have hx : a ||| b < 2 ^ 63 := Nat.or_lt_two_pow (by omega) (by omega)
  show IntKind.i64.wrap ((BitVec.ofInt 64 (a : Int) ||| BitVec.ofInt 64 (b : Int)).toNat : Int) = _
  rw [BitVec.toNat_or, ofInt_u64 a (by omega), ofInt_u64 b (by omega), IntKind.wrap_i64]
  omega
theorem or_low (i a b : Nat) (h : b < 2 ^ i) : 2 ^ i * a ||| b = 2 ^ i * a + b := (Nat.two_pow_add_eq_or_of_lt h a).symm
theorem or4 (x0 x1 x2 x3 : Nat) (h0 : x0 < 2 ^ 8) (h1 : x1 < 2 ^ 8) (h2 : x2 < 2 ^ 8) (h3 : x3 < 2 ^ 8) :
    bits BinOp.or IntKind.i64 (bits BinOp.or IntKind.i64 (bits BinOp.or IntKind.i64 ((x0 : Int) * 16777216) ((x1 : Int) * 65536)) ((x2 : Int) * 256)) (x3 : Int) = ((x0 * 16777216 + x1 * 65536 + x2 * 256 + x3 : Nat) : Int) := by
  have e0 := or_low 24 x0 (x1 * 65536) (by omega)
  have e1 := or_low 16 (x0 * 256 + x1) (x2 * 256) (by omega)
  have e2 := or_low 8 (x0 * 65536 + x1 * 256 + x2) x3 (by omega)
  rw [show (x0 : Int) * 16777216 = ((x0 * 16777216 : Nat) : Int) by simp, show (x1 : Int) * 65536 = ((x1 * 65536 : Nat) : Int) by simp, show (x2 : Int) * 256 = ((x2 * 256 : Nat) : Int) by simp]
  rw [i64_or_nat _ _ (by omega) (by omega), show x0 * 16777216 = 2 ^ 24 * x0 by omega, e0]
  rw [i64_or_nat _ _ (by omega) (by omega), show 2 ^ 24 * x0 + x1 * 65536 = 2 ^ 16 * (x0 * 256 + x1) by omega, e1]
  rw [i64_or_nat _ _ (by omega) (by omega), show 2 ^ 16 * (x0 * 256 + x1) + x2 * 256 = 2 ^ 8 * (x0 * 65536 + x1 * 256 + x2) by omega, e2]
set_option maxHeartbeats 1000000 in
theorem number_any (b off c n i : Nat) (l : List UInt8) (w : World) (hnc : n ≤ c) (hi : 4 * i + 4 ≤ n) (hc : n ≤ 9223372036854775807)
    (hcl : ∀ k, k < n → w.cell? ⟨b, off + k, none⟩ = some (.int .u8 ((l.getD k 0).toNat : Int))) :
    Calls Tryd.prog 30 #[.slice (some ⟨b, off, none⟩) n c, .int .i64 (i : Int)] w fun e w' => e = .returned (.int .i64 (n4 l i : Int)) ∧ Below w.heap.size w w' := by
  have c0 := hcl (4 * i) (by omega)
  have c1 := hcl (4 * i + 1) (by omega)
  have c2 := hcl (4 * i + 2) (by omega)
  have c3 := hcl (4 * i + 3) (by omega)
  have hv := Lib.hid (show n4 l i = (l.getD (4 * i) 0).toNat * 16777216 + (l.getD (4 * i + 1) 0).toNat * 65536 + (l.getD (4 * i + 2) 0).toNat * 256 + (l.getD (4 * i + 3) 0).toNat from rfl)
  have h0 := (l.getD (4 * i) 0).toNat_lt
  have h1 := (l.getD (4 * i + 1) 0).toNat_lt
  have h2 := (l.getD (4 * i + 2) 0).toNat_lt
  have h3 := (l.getD (4 * i + 3) 0).toNat_lt
  generalize (l.getD (4 * i) 0).toNat = x0 at *
  generalize (l.getD (4 * i + 1) 0).toNat = x1 at *
  generalize (l.getD (4 * i + 2) 0).toNat = x2 at *
  generalize (l.getD (4 * i + 3) 0).toNat = x3 at *
  obtain ⟨j, hj⟩ : ∃ j, j = 4 * i := ⟨_, rfl⟩
  have ej : 4 * (i : Int) = (j : Int) := by omega
  rw [← hj] at c0 c1 c2 c3
  have c0' : w.cell? ⟨b, off + j, none⟩ = some (.int .u8 (x0 : Int)) := c0
  have c1' : w.cell? ⟨b, off + j + 1, none⟩ = some (.int .u8 (x1 : Int)) := c1
  have c2' : w.cell? ⟨b, off + j + 2, none⟩ = some (.int .u8 (x2 : Int)) := c2
  have c3' : w.cell? ⟨b, off + j + 3, none⟩ = some (.int .u8 (x3 : Int)) := c3
  have hji : j + 4 ≤ n := by omega
  have hd : ¬ (j = c) := by omega
  clear hcl c0 c1 c2 c3 hj
  go_enter Tryd.func30, Tryd.ntmps30
  go_wp2_with fail
  go_quiet (fail)
  go_wp2_with fail
  go_ret
  exact ⟨ret_int (by rw [or4 x0 x1 x2 x3 h0 h1 h2 h3, hv.out]), below_drewN (Below.refl _ _) nq⟩
set_option maxHeartbeats 1000000 in
theorem told_any (b off c i : Nat) (l : List UInt8) (w : World)
    (hcl : ∀ k, k < 4 → w.cell? ⟨b, off + k, none⟩ = some (.int .u8 ((l.getD (4 * i + k) 0).toNat : Int))) :
    Calls Tryd.prog 31 #[.slice (some ⟨b, off, none⟩) 4 c] w fun e w' => e = .returned (.int .i64 (n4 l i : Int)) ∧ Below w.heap.size w w' := by
  have c0 := hcl 0 (by omega)
  have c1 := hcl 1 (by omega)
  have c2 := hcl 2 (by omega)
  have c3 := hcl 3 (by omega)
  rw [Nat.add_zero] at c0
  rw [Nat.add_zero] at c0
  have hv := Lib.hid (show n4 l i = (l.getD (4 * i) 0).toNat * 16777216 + (l.getD (4 * i + 1) 0).toNat * 65536 + (l.getD (4 * i + 2) 0).toNat * 256 + (l.getD (4 * i + 3) 0).toNat from rfl)
  have h0 := (l.getD (4 * i) 0).toNat_lt
  have h1 := (l.getD (4 * i + 1) 0).toNat_lt
  have h2 := (l.getD (4 * i + 2) 0).toNat_lt
  have h3 := (l.getD (4 * i + 3) 0).toNat_lt
  generalize (l.getD (4 * i) 0).toNat = x0 at *
  generalize (l.getD (4 * i + 1) 0).toNat = x1 at *
  generalize (l.getD (4 * i + 2) 0).toNat = x2 at *
  generalize (l.getD (4 * i + 3) 0).toNat = x3 at *
  clear hcl
  go_enter Tryd.func31, Tryd.ntmps31
  go_wp2_with fail
  go_quiet (fail)
  go_wp2_with fail
  go_ret
  exact ⟨ret_int (by rw [hv.out]; omega), below_drewN (Below.refl _ _) nq⟩
end Go.Proofs.YtghakgepchlpgaaDoor
