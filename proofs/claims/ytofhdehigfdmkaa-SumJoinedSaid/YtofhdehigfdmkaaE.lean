/- THE WALK OF SumJoined (printed by wip/tools/joined.py). -/
import Derived.Test.YtofhdehigfdmkaaD
namespace Go.Proofs.Ytofhdehigfdmkaa
open Go.RowKit

theorem half_neg (n : Int) (h : n < 0) (h1 : -9223372036854775808 ≤ n) : 0 ≤ wrap64 (-(n + 1).tdiv 2) ∧ wrap64 (-(n + 1).tdiv 2) ≤ 4611686018427387903 := by
  rw [← Int.neg_tdiv, Int.tdiv_eq_ediv_of_nonneg (by omega)]
  unfold wrap64
  omega
set_option linter.unusedVariables false
theorem joined_law (a b c : BitVec 64) (x y : Int) (hx : 0 ≤ x) (hy : 0 ≤ y) : Crc.join (Crc.join a b x.toNat) c y.toNat = Crc.join a (Crc.join b c y.toNat) (x + y).toNat := by
  rw [Crc.join_join, Int.toNat_add hx hy]

set_option maxHeartbeats 1000000 in
theorem joined_111 (a b c : BitVec 64) (n m : Int) (hn : n < 0) (hm : m < 0) (hn1 : -9223372036854775808 ≤ n) (hm1 : -9223372036854775808 ≤ m) (hn2 : n ≤ 9223372036854775807) (hm2 : m ≤ 9223372036854775807)
    (ho : 9223372036854775807 - (-(m + 1)) < -(n + 1)) (w : World) :
    Calls Try.prog 8 #[.agg #[.int .u64 (a.toNat : Int), .int .u64 (b.toNat : Int), .int .u64 (c.toNat : Int), .int .i64 n, .int .i64 m]] w fun e w' => e = .returned (.bool true) ∧ Below w.heap.size w w' := by
  go_enter Try.func8, Try.ntmps8
  go_wp2_with fail
  refine (shown_any _).mono ?_
  rintro e w1 ⟨rfl, b1⟩
  have hb := (Blk.new w 35 #[.int .u64 (a.toNat : Int), .int .u64 (b.toNat : Int), .int .u64 (c.toNat : Int), .int .i64 n, .int .i64 m]).below b1 (by simp)
  have B1 := Lib.hid (show Below w.heap.size w w1 from ((Below.refl _ _).alloc (Nat.le_refl _) _).trans (b1.mono (by simp)))
  have c0 : w1.cell? ⟨w.heap.size, 0, none⟩ = some (.int .u64 (a.toNat : Int)) := hb.cell 0
  have c1 : w1.cell? ⟨w.heap.size, 1, none⟩ = some (.int .u64 (b.toNat : Int)) := hb.cell 1
  have c2 : w1.cell? ⟨w.heap.size, 2, none⟩ = some (.int .u64 (c.toNat : Int)) := hb.cell 2
  have c3 : w1.cell? ⟨w.heap.size, 3, none⟩ = some (.int .i64 n) := hb.cell 3
  have c4 : w1.cell? ⟨w.heap.size, 4, none⟩ = some (.int .i64 m) := hb.cell 4
  clear b1 hb
  go_wp2_with fail
  have fx := half_neg n hn hn1
  have fy := half_neg m hm hm1
  have hx0 : 0 ≤ wrap64 (-(n + 1).tdiv 2) := by omega
  have hy0 : 0 ≤ wrap64 (-(m + 1).tdiv 2) := by omega
  have hxy : wrap64 (-(n + 1).tdiv 2) + (wrap64 (-(m + 1).tdiv 2)) ≤ 9223372036854775807 := by omega
  generalize wrap64 (-(n + 1).tdiv 2) = x at hx0 hy0 hxy ⊢
  generalize wrap64 (-(m + 1).tdiv 2) = y at hx0 hy0 hxy ⊢
  have hx1 : x ≤ 9223372036854775807 := by omega
  have hy1 : y ≤ 9223372036854775807 := by omega
  clear fx fy c0 c1 c2 c3 c4 ho hn hm hn1 hm1 hn2 hm2
  have HE := Lib.hid (joined_law a b c x y hx0 hy0)
  have J1 := Lib.hid (fun W => join_any a b x hx1 W)
  have J2 := Lib.hid (fun W => join_any (Crc.join a b x.toNat) c y hy1 W)
  have J3 := Lib.hid (fun W => join_any b c y hy1 W)
  have J4 := Lib.hid (fun W => join_any a (Crc.join b c y.toNat) (x + y) hxy W)
  have J5 := Lib.hid (fun W => join_any a 0#64 0 (by omega) W)
  have J6 := Lib.hid (fun W => join_any 0#64 b x hx1 W)
  rw [HE.out] at J2
  rw [show Crc.join a 0#64 (0 : Int).toNat = a from Crc.join_zero a] at J5
  rw [Crc.join_zero'] at J6
  rw [show ((0#64 : BitVec 64).toNat : Int) = 0 from rfl] at J5 J6
  generalize Crc.join a (Crc.join b c y.toNat) (x + y).toNat = r at J2 J4
  generalize Crc.join a b x.toNat = j1 at J1 J2
  generalize Crc.join b c y.toNat = j2 at J3 J4
  clear HE
  refine (J1.out _).mono ?_
  rintro e w2 ⟨rfl, b2⟩
  have B2 := Lib.hid (B1.out.trans (b2.mono B1.out.size))
  clear b2 B1
  go_wp2_with fail
  refine (J2.out _).mono ?_
  rintro e w3 ⟨rfl, b3⟩
  have B3 := Lib.hid (B2.out.trans (b3.mono B2.out.size))
  clear b3 B2
  go_wp2_with fail
  refine (J3.out _).mono ?_
  rintro e w4 ⟨rfl, b4⟩
  have B4 := Lib.hid (B3.out.trans (b4.mono B3.out.size))
  clear b4 B3
  go_wp2_with fail
  refine (J4.out _).mono ?_
  rintro e w5 ⟨rfl, b5⟩
  have B5 := Lib.hid (B4.out.trans (b5.mono B4.out.size))
  clear b5 B4
  go_wp2_with fail
  refine (J5.out _).mono ?_
  rintro e w6 ⟨rfl, b6⟩
  have B6 := Lib.hid (B5.out.trans (b6.mono B5.out.size))
  clear b6 B5
  go_wp2_with fail
  refine (J6.out _).mono ?_
  rintro e w7 ⟨rfl, b7⟩
  have B7 := Lib.hid (B6.out.trans (b7.mono B6.out.size))
  clear b7 B6
  go_wp2
  go_ret
  exact ⟨ret_bool (by simp), B7.out⟩

set_option maxHeartbeats 1000000 in
theorem joined_110 (a b c : BitVec 64) (n m : Int) (hn : n < 0) (hm : m < 0) (hn1 : -9223372036854775808 ≤ n) (hm1 : -9223372036854775808 ≤ m) (hn2 : n ≤ 9223372036854775807) (hm2 : m ≤ 9223372036854775807)
    (ho : -(n + 1) ≤ 9223372036854775807 - (-(m + 1))) (w : World) :
    Calls Try.prog 8 #[.agg #[.int .u64 (a.toNat : Int), .int .u64 (b.toNat : Int), .int .u64 (c.toNat : Int), .int .i64 n, .int .i64 m]] w fun e w' => e = .returned (.bool true) ∧ Below w.heap.size w w' := by
  go_enter Try.func8, Try.ntmps8
  go_wp2_with fail
  refine (shown_any _).mono ?_
  rintro e w1 ⟨rfl, b1⟩
  have hb := (Blk.new w 35 #[.int .u64 (a.toNat : Int), .int .u64 (b.toNat : Int), .int .u64 (c.toNat : Int), .int .i64 n, .int .i64 m]).below b1 (by simp)
  have B1 := Lib.hid (show Below w.heap.size w w1 from ((Below.refl _ _).alloc (Nat.le_refl _) _).trans (b1.mono (by simp)))
  have c0 : w1.cell? ⟨w.heap.size, 0, none⟩ = some (.int .u64 (a.toNat : Int)) := hb.cell 0
  have c1 : w1.cell? ⟨w.heap.size, 1, none⟩ = some (.int .u64 (b.toNat : Int)) := hb.cell 1
  have c2 : w1.cell? ⟨w.heap.size, 2, none⟩ = some (.int .u64 (c.toNat : Int)) := hb.cell 2
  have c3 : w1.cell? ⟨w.heap.size, 3, none⟩ = some (.int .i64 n) := hb.cell 3
  have c4 : w1.cell? ⟨w.heap.size, 4, none⟩ = some (.int .i64 m) := hb.cell 4
  clear b1 hb
  go_wp2_with fail
  have hx0 : 0 ≤ -(n + 1) := by omega
  have hy0 : 0 ≤ -(m + 1) := by omega
  have hxy : -(n + 1) + (-(m + 1)) ≤ 9223372036854775807 := by omega
  generalize -(n + 1) = x at hx0 hy0 hxy ⊢
  generalize -(m + 1) = y at hx0 hy0 hxy ⊢
  have hx1 : x ≤ 9223372036854775807 := by omega
  have hy1 : y ≤ 9223372036854775807 := by omega
  clear c0 c1 c2 c3 c4 ho hn hm hn1 hm1 hn2 hm2
  have HE := Lib.hid (joined_law a b c x y hx0 hy0)
  have J1 := Lib.hid (fun W => join_any a b x hx1 W)
  have J2 := Lib.hid (fun W => join_any (Crc.join a b x.toNat) c y hy1 W)
  have J3 := Lib.hid (fun W => join_any b c y hy1 W)
  have J4 := Lib.hid (fun W => join_any a (Crc.join b c y.toNat) (x + y) hxy W)
  have J5 := Lib.hid (fun W => join_any a 0#64 0 (by omega) W)
  have J6 := Lib.hid (fun W => join_any 0#64 b x hx1 W)
  rw [HE.out] at J2
  rw [show Crc.join a 0#64 (0 : Int).toNat = a from Crc.join_zero a] at J5
  rw [Crc.join_zero'] at J6
  rw [show ((0#64 : BitVec 64).toNat : Int) = 0 from rfl] at J5 J6
  generalize Crc.join a (Crc.join b c y.toNat) (x + y).toNat = r at J2 J4
  generalize Crc.join a b x.toNat = j1 at J1 J2
  generalize Crc.join b c y.toNat = j2 at J3 J4
  clear HE
  refine (J1.out _).mono ?_
  rintro e w2 ⟨rfl, b2⟩
  have B2 := Lib.hid (B1.out.trans (b2.mono B1.out.size))
  clear b2 B1
  go_wp2_with fail
  refine (J2.out _).mono ?_
  rintro e w3 ⟨rfl, b3⟩
  have B3 := Lib.hid (B2.out.trans (b3.mono B2.out.size))
  clear b3 B2
  go_wp2_with fail
  refine (J3.out _).mono ?_
  rintro e w4 ⟨rfl, b4⟩
  have B4 := Lib.hid (B3.out.trans (b4.mono B3.out.size))
  clear b4 B3
  go_wp2_with fail
  refine (J4.out _).mono ?_
  rintro e w5 ⟨rfl, b5⟩
  have B5 := Lib.hid (B4.out.trans (b5.mono B4.out.size))
  clear b5 B4
  go_wp2_with fail
  refine (J5.out _).mono ?_
  rintro e w6 ⟨rfl, b6⟩
  have B6 := Lib.hid (B5.out.trans (b6.mono B5.out.size))
  clear b6 B5
  go_wp2_with fail
  refine (J6.out _).mono ?_
  rintro e w7 ⟨rfl, b7⟩
  have B7 := Lib.hid (B6.out.trans (b7.mono B6.out.size))
  clear b7 B6
  go_wp2
  go_ret
  exact ⟨ret_bool (by simp), B7.out⟩

set_option maxHeartbeats 1000000 in
theorem joined_101 (a b c : BitVec 64) (n m : Int) (hn : n < 0) (hm : 0 ≤ m) (hn1 : -9223372036854775808 ≤ n) (hm1 : -9223372036854775808 ≤ m) (hn2 : n ≤ 9223372036854775807) (hm2 : m ≤ 9223372036854775807)
    (ho : 9223372036854775807 - (m) < -(n + 1)) (w : World) :
    Calls Try.prog 8 #[.agg #[.int .u64 (a.toNat : Int), .int .u64 (b.toNat : Int), .int .u64 (c.toNat : Int), .int .i64 n, .int .i64 m]] w fun e w' => e = .returned (.bool true) ∧ Below w.heap.size w w' := by
  go_enter Try.func8, Try.ntmps8
  go_wp2_with fail
  refine (shown_any _).mono ?_
  rintro e w1 ⟨rfl, b1⟩
  have hb := (Blk.new w 35 #[.int .u64 (a.toNat : Int), .int .u64 (b.toNat : Int), .int .u64 (c.toNat : Int), .int .i64 n, .int .i64 m]).below b1 (by simp)
  have B1 := Lib.hid (show Below w.heap.size w w1 from ((Below.refl _ _).alloc (Nat.le_refl _) _).trans (b1.mono (by simp)))
  have c0 : w1.cell? ⟨w.heap.size, 0, none⟩ = some (.int .u64 (a.toNat : Int)) := hb.cell 0
  have c1 : w1.cell? ⟨w.heap.size, 1, none⟩ = some (.int .u64 (b.toNat : Int)) := hb.cell 1
  have c2 : w1.cell? ⟨w.heap.size, 2, none⟩ = some (.int .u64 (c.toNat : Int)) := hb.cell 2
  have c3 : w1.cell? ⟨w.heap.size, 3, none⟩ = some (.int .i64 n) := hb.cell 3
  have c4 : w1.cell? ⟨w.heap.size, 4, none⟩ = some (.int .i64 m) := hb.cell 4
  clear b1 hb
  go_wp2_with fail
  have fx := half_neg n hn hn1
  have hx0 : 0 ≤ wrap64 (-(n + 1).tdiv 2) := by omega
  have hy0 : 0 ≤ m / 2 := by omega
  have hxy : wrap64 (-(n + 1).tdiv 2) + (m / 2) ≤ 9223372036854775807 := by omega
  generalize wrap64 (-(n + 1).tdiv 2) = x at hx0 hy0 hxy ⊢
  generalize m / 2 = y at hx0 hy0 hxy ⊢
  have hx1 : x ≤ 9223372036854775807 := by omega
  have hy1 : y ≤ 9223372036854775807 := by omega
  clear fx c0 c1 c2 c3 c4 ho hn hm hn1 hm1 hn2 hm2
  have HE := Lib.hid (joined_law a b c x y hx0 hy0)
  have J1 := Lib.hid (fun W => join_any a b x hx1 W)
  have J2 := Lib.hid (fun W => join_any (Crc.join a b x.toNat) c y hy1 W)
  have J3 := Lib.hid (fun W => join_any b c y hy1 W)
  have J4 := Lib.hid (fun W => join_any a (Crc.join b c y.toNat) (x + y) hxy W)
  have J5 := Lib.hid (fun W => join_any a 0#64 0 (by omega) W)
  have J6 := Lib.hid (fun W => join_any 0#64 b x hx1 W)
  rw [HE.out] at J2
  rw [show Crc.join a 0#64 (0 : Int).toNat = a from Crc.join_zero a] at J5
  rw [Crc.join_zero'] at J6
  rw [show ((0#64 : BitVec 64).toNat : Int) = 0 from rfl] at J5 J6
  generalize Crc.join a (Crc.join b c y.toNat) (x + y).toNat = r at J2 J4
  generalize Crc.join a b x.toNat = j1 at J1 J2
  generalize Crc.join b c y.toNat = j2 at J3 J4
  clear HE
  refine (J1.out _).mono ?_
  rintro e w2 ⟨rfl, b2⟩
  have B2 := Lib.hid (B1.out.trans (b2.mono B1.out.size))
  clear b2 B1
  go_wp2_with fail
  refine (J2.out _).mono ?_
  rintro e w3 ⟨rfl, b3⟩
  have B3 := Lib.hid (B2.out.trans (b3.mono B2.out.size))
  clear b3 B2
  go_wp2_with fail
  refine (J3.out _).mono ?_
  rintro e w4 ⟨rfl, b4⟩
  have B4 := Lib.hid (B3.out.trans (b4.mono B3.out.size))
  clear b4 B3
  go_wp2_with fail
  refine (J4.out _).mono ?_
  rintro e w5 ⟨rfl, b5⟩
  have B5 := Lib.hid (B4.out.trans (b5.mono B4.out.size))
  clear b5 B4
  go_wp2_with fail
  refine (J5.out _).mono ?_
  rintro e w6 ⟨rfl, b6⟩
  have B6 := Lib.hid (B5.out.trans (b6.mono B5.out.size))
  clear b6 B5
  go_wp2_with fail
  refine (J6.out _).mono ?_
  rintro e w7 ⟨rfl, b7⟩
  have B7 := Lib.hid (B6.out.trans (b7.mono B6.out.size))
  clear b7 B6
  go_wp2
  go_ret
  exact ⟨ret_bool (by simp), B7.out⟩

set_option maxHeartbeats 1000000 in
theorem joined_100 (a b c : BitVec 64) (n m : Int) (hn : n < 0) (hm : 0 ≤ m) (hn1 : -9223372036854775808 ≤ n) (hm1 : -9223372036854775808 ≤ m) (hn2 : n ≤ 9223372036854775807) (hm2 : m ≤ 9223372036854775807)
    (ho : -(n + 1) ≤ 9223372036854775807 - (m)) (w : World) :
    Calls Try.prog 8 #[.agg #[.int .u64 (a.toNat : Int), .int .u64 (b.toNat : Int), .int .u64 (c.toNat : Int), .int .i64 n, .int .i64 m]] w fun e w' => e = .returned (.bool true) ∧ Below w.heap.size w w' := by
  go_enter Try.func8, Try.ntmps8
  go_wp2_with fail
  refine (shown_any _).mono ?_
  rintro e w1 ⟨rfl, b1⟩
  have hb := (Blk.new w 35 #[.int .u64 (a.toNat : Int), .int .u64 (b.toNat : Int), .int .u64 (c.toNat : Int), .int .i64 n, .int .i64 m]).below b1 (by simp)
  have B1 := Lib.hid (show Below w.heap.size w w1 from ((Below.refl _ _).alloc (Nat.le_refl _) _).trans (b1.mono (by simp)))
  have c0 : w1.cell? ⟨w.heap.size, 0, none⟩ = some (.int .u64 (a.toNat : Int)) := hb.cell 0
  have c1 : w1.cell? ⟨w.heap.size, 1, none⟩ = some (.int .u64 (b.toNat : Int)) := hb.cell 1
  have c2 : w1.cell? ⟨w.heap.size, 2, none⟩ = some (.int .u64 (c.toNat : Int)) := hb.cell 2
  have c3 : w1.cell? ⟨w.heap.size, 3, none⟩ = some (.int .i64 n) := hb.cell 3
  have c4 : w1.cell? ⟨w.heap.size, 4, none⟩ = some (.int .i64 m) := hb.cell 4
  clear b1 hb
  go_wp2_with fail
  have hx0 : 0 ≤ -(n + 1) := by omega
  have hy0 : 0 ≤ m := by omega
  have hxy : -(n + 1) + (m) ≤ 9223372036854775807 := by omega
  generalize -(n + 1) = x at hx0 hy0 hxy ⊢
  generalize m = y at hx0 hy0 hxy ⊢
  have hx1 : x ≤ 9223372036854775807 := by omega
  have hy1 : y ≤ 9223372036854775807 := by omega
  clear c0 c1 c2 c3 c4 ho hn hm hn1 hm1 hn2 hm2
  have HE := Lib.hid (joined_law a b c x y hx0 hy0)
  have J1 := Lib.hid (fun W => join_any a b x hx1 W)
  have J2 := Lib.hid (fun W => join_any (Crc.join a b x.toNat) c y hy1 W)
  have J3 := Lib.hid (fun W => join_any b c y hy1 W)
  have J4 := Lib.hid (fun W => join_any a (Crc.join b c y.toNat) (x + y) hxy W)
  have J5 := Lib.hid (fun W => join_any a 0#64 0 (by omega) W)
  have J6 := Lib.hid (fun W => join_any 0#64 b x hx1 W)
  rw [HE.out] at J2
  rw [show Crc.join a 0#64 (0 : Int).toNat = a from Crc.join_zero a] at J5
  rw [Crc.join_zero'] at J6
  rw [show ((0#64 : BitVec 64).toNat : Int) = 0 from rfl] at J5 J6
  generalize Crc.join a (Crc.join b c y.toNat) (x + y).toNat = r at J2 J4
  generalize Crc.join a b x.toNat = j1 at J1 J2
  generalize Crc.join b c y.toNat = j2 at J3 J4
  clear HE
  refine (J1.out _).mono ?_
  rintro e w2 ⟨rfl, b2⟩
  have B2 := Lib.hid (B1.out.trans (b2.mono B1.out.size))
  clear b2 B1
  go_wp2_with fail
  refine (J2.out _).mono ?_
  rintro e w3 ⟨rfl, b3⟩
  have B3 := Lib.hid (B2.out.trans (b3.mono B2.out.size))
  clear b3 B2
  go_wp2_with fail
  refine (J3.out _).mono ?_
  rintro e w4 ⟨rfl, b4⟩
  have B4 := Lib.hid (B3.out.trans (b4.mono B3.out.size))
  clear b4 B3
  go_wp2_with fail
  refine (J4.out _).mono ?_
  rintro e w5 ⟨rfl, b5⟩
  have B5 := Lib.hid (B4.out.trans (b5.mono B4.out.size))
  clear b5 B4
  go_wp2_with fail
  refine (J5.out _).mono ?_
  rintro e w6 ⟨rfl, b6⟩
  have B6 := Lib.hid (B5.out.trans (b6.mono B5.out.size))
  clear b6 B5
  go_wp2_with fail
  refine (J6.out _).mono ?_
  rintro e w7 ⟨rfl, b7⟩
  have B7 := Lib.hid (B6.out.trans (b7.mono B6.out.size))
  clear b7 B6
  go_wp2
  go_ret
  exact ⟨ret_bool (by simp), B7.out⟩

set_option maxHeartbeats 1000000 in
theorem joined_011 (a b c : BitVec 64) (n m : Int) (hn : 0 ≤ n) (hm : m < 0) (hn1 : -9223372036854775808 ≤ n) (hm1 : -9223372036854775808 ≤ m) (hn2 : n ≤ 9223372036854775807) (hm2 : m ≤ 9223372036854775807)
    (ho : 9223372036854775807 - (-(m + 1)) < n) (w : World) :
    Calls Try.prog 8 #[.agg #[.int .u64 (a.toNat : Int), .int .u64 (b.toNat : Int), .int .u64 (c.toNat : Int), .int .i64 n, .int .i64 m]] w fun e w' => e = .returned (.bool true) ∧ Below w.heap.size w w' := by
  go_enter Try.func8, Try.ntmps8
  go_wp2_with fail
  refine (shown_any _).mono ?_
  rintro e w1 ⟨rfl, b1⟩
  have hb := (Blk.new w 35 #[.int .u64 (a.toNat : Int), .int .u64 (b.toNat : Int), .int .u64 (c.toNat : Int), .int .i64 n, .int .i64 m]).below b1 (by simp)
  have B1 := Lib.hid (show Below w.heap.size w w1 from ((Below.refl _ _).alloc (Nat.le_refl _) _).trans (b1.mono (by simp)))
  have c0 : w1.cell? ⟨w.heap.size, 0, none⟩ = some (.int .u64 (a.toNat : Int)) := hb.cell 0
  have c1 : w1.cell? ⟨w.heap.size, 1, none⟩ = some (.int .u64 (b.toNat : Int)) := hb.cell 1
  have c2 : w1.cell? ⟨w.heap.size, 2, none⟩ = some (.int .u64 (c.toNat : Int)) := hb.cell 2
  have c3 : w1.cell? ⟨w.heap.size, 3, none⟩ = some (.int .i64 n) := hb.cell 3
  have c4 : w1.cell? ⟨w.heap.size, 4, none⟩ = some (.int .i64 m) := hb.cell 4
  clear b1 hb
  go_wp2_with fail
  have fy := half_neg m hm hm1
  have hx0 : 0 ≤ n / 2 := by omega
  have hy0 : 0 ≤ wrap64 (-(m + 1).tdiv 2) := by omega
  have hxy : n / 2 + (wrap64 (-(m + 1).tdiv 2)) ≤ 9223372036854775807 := by omega
  generalize n / 2 = x at hx0 hy0 hxy ⊢
  generalize wrap64 (-(m + 1).tdiv 2) = y at hx0 hy0 hxy ⊢
  have hx1 : x ≤ 9223372036854775807 := by omega
  have hy1 : y ≤ 9223372036854775807 := by omega
  clear fy c0 c1 c2 c3 c4 ho hn hm hn1 hm1 hn2 hm2
  have HE := Lib.hid (joined_law a b c x y hx0 hy0)
  have J1 := Lib.hid (fun W => join_any a b x hx1 W)
  have J2 := Lib.hid (fun W => join_any (Crc.join a b x.toNat) c y hy1 W)
  have J3 := Lib.hid (fun W => join_any b c y hy1 W)
  have J4 := Lib.hid (fun W => join_any a (Crc.join b c y.toNat) (x + y) hxy W)
  have J5 := Lib.hid (fun W => join_any a 0#64 0 (by omega) W)
  have J6 := Lib.hid (fun W => join_any 0#64 b x hx1 W)
  rw [HE.out] at J2
  rw [show Crc.join a 0#64 (0 : Int).toNat = a from Crc.join_zero a] at J5
  rw [Crc.join_zero'] at J6
  rw [show ((0#64 : BitVec 64).toNat : Int) = 0 from rfl] at J5 J6
  generalize Crc.join a (Crc.join b c y.toNat) (x + y).toNat = r at J2 J4
  generalize Crc.join a b x.toNat = j1 at J1 J2
  generalize Crc.join b c y.toNat = j2 at J3 J4
  clear HE
  refine (J1.out _).mono ?_
  rintro e w2 ⟨rfl, b2⟩
  have B2 := Lib.hid (B1.out.trans (b2.mono B1.out.size))
  clear b2 B1
  go_wp2_with fail
  refine (J2.out _).mono ?_
  rintro e w3 ⟨rfl, b3⟩
  have B3 := Lib.hid (B2.out.trans (b3.mono B2.out.size))
  clear b3 B2
  go_wp2_with fail
  refine (J3.out _).mono ?_
  rintro e w4 ⟨rfl, b4⟩
  have B4 := Lib.hid (B3.out.trans (b4.mono B3.out.size))
  clear b4 B3
  go_wp2_with fail
  refine (J4.out _).mono ?_
  rintro e w5 ⟨rfl, b5⟩
  have B5 := Lib.hid (B4.out.trans (b5.mono B4.out.size))
  clear b5 B4
  go_wp2_with fail
  refine (J5.out _).mono ?_
  rintro e w6 ⟨rfl, b6⟩
  have B6 := Lib.hid (B5.out.trans (b6.mono B5.out.size))
  clear b6 B5
  go_wp2_with fail
  refine (J6.out _).mono ?_
  rintro e w7 ⟨rfl, b7⟩
  have B7 := Lib.hid (B6.out.trans (b7.mono B6.out.size))
  clear b7 B6
  go_wp2
  go_ret
  exact ⟨ret_bool (by simp), B7.out⟩

set_option maxHeartbeats 1000000 in
theorem joined_010 (a b c : BitVec 64) (n m : Int) (hn : 0 ≤ n) (hm : m < 0) (hn1 : -9223372036854775808 ≤ n) (hm1 : -9223372036854775808 ≤ m) (hn2 : n ≤ 9223372036854775807) (hm2 : m ≤ 9223372036854775807)
    (ho : n ≤ 9223372036854775807 - (-(m + 1))) (w : World) :
    Calls Try.prog 8 #[.agg #[.int .u64 (a.toNat : Int), .int .u64 (b.toNat : Int), .int .u64 (c.toNat : Int), .int .i64 n, .int .i64 m]] w fun e w' => e = .returned (.bool true) ∧ Below w.heap.size w w' := by
  go_enter Try.func8, Try.ntmps8
  go_wp2_with fail
  refine (shown_any _).mono ?_
  rintro e w1 ⟨rfl, b1⟩
  have hb := (Blk.new w 35 #[.int .u64 (a.toNat : Int), .int .u64 (b.toNat : Int), .int .u64 (c.toNat : Int), .int .i64 n, .int .i64 m]).below b1 (by simp)
  have B1 := Lib.hid (show Below w.heap.size w w1 from ((Below.refl _ _).alloc (Nat.le_refl _) _).trans (b1.mono (by simp)))
  have c0 : w1.cell? ⟨w.heap.size, 0, none⟩ = some (.int .u64 (a.toNat : Int)) := hb.cell 0
  have c1 : w1.cell? ⟨w.heap.size, 1, none⟩ = some (.int .u64 (b.toNat : Int)) := hb.cell 1
  have c2 : w1.cell? ⟨w.heap.size, 2, none⟩ = some (.int .u64 (c.toNat : Int)) := hb.cell 2
  have c3 : w1.cell? ⟨w.heap.size, 3, none⟩ = some (.int .i64 n) := hb.cell 3
  have c4 : w1.cell? ⟨w.heap.size, 4, none⟩ = some (.int .i64 m) := hb.cell 4
  clear b1 hb
  go_wp2_with fail
  have hx0 : 0 ≤ n := by omega
  have hy0 : 0 ≤ -(m + 1) := by omega
  have hxy : n + (-(m + 1)) ≤ 9223372036854775807 := by omega
  generalize n = x at hx0 hy0 hxy ⊢
  generalize -(m + 1) = y at hx0 hy0 hxy ⊢
  have hx1 : x ≤ 9223372036854775807 := by omega
  have hy1 : y ≤ 9223372036854775807 := by omega
  clear c0 c1 c2 c3 c4 ho hn hm hn1 hm1 hn2 hm2
  have HE := Lib.hid (joined_law a b c x y hx0 hy0)
  have J1 := Lib.hid (fun W => join_any a b x hx1 W)
  have J2 := Lib.hid (fun W => join_any (Crc.join a b x.toNat) c y hy1 W)
  have J3 := Lib.hid (fun W => join_any b c y hy1 W)
  have J4 := Lib.hid (fun W => join_any a (Crc.join b c y.toNat) (x + y) hxy W)
  have J5 := Lib.hid (fun W => join_any a 0#64 0 (by omega) W)
  have J6 := Lib.hid (fun W => join_any 0#64 b x hx1 W)
  rw [HE.out] at J2
  rw [show Crc.join a 0#64 (0 : Int).toNat = a from Crc.join_zero a] at J5
  rw [Crc.join_zero'] at J6
  rw [show ((0#64 : BitVec 64).toNat : Int) = 0 from rfl] at J5 J6
  generalize Crc.join a (Crc.join b c y.toNat) (x + y).toNat = r at J2 J4
  generalize Crc.join a b x.toNat = j1 at J1 J2
  generalize Crc.join b c y.toNat = j2 at J3 J4
  clear HE
  refine (J1.out _).mono ?_
  rintro e w2 ⟨rfl, b2⟩
  have B2 := Lib.hid (B1.out.trans (b2.mono B1.out.size))
  clear b2 B1
  go_wp2_with fail
  refine (J2.out _).mono ?_
  rintro e w3 ⟨rfl, b3⟩
  have B3 := Lib.hid (B2.out.trans (b3.mono B2.out.size))
  clear b3 B2
  go_wp2_with fail
  refine (J3.out _).mono ?_
  rintro e w4 ⟨rfl, b4⟩
  have B4 := Lib.hid (B3.out.trans (b4.mono B3.out.size))
  clear b4 B3
  go_wp2_with fail
  refine (J4.out _).mono ?_
  rintro e w5 ⟨rfl, b5⟩
  have B5 := Lib.hid (B4.out.trans (b5.mono B4.out.size))
  clear b5 B4
  go_wp2_with fail
  refine (J5.out _).mono ?_
  rintro e w6 ⟨rfl, b6⟩
  have B6 := Lib.hid (B5.out.trans (b6.mono B5.out.size))
  clear b6 B5
  go_wp2_with fail
  refine (J6.out _).mono ?_
  rintro e w7 ⟨rfl, b7⟩
  have B7 := Lib.hid (B6.out.trans (b7.mono B6.out.size))
  clear b7 B6
  go_wp2
  go_ret
  exact ⟨ret_bool (by simp), B7.out⟩

set_option maxHeartbeats 1000000 in
theorem joined_001 (a b c : BitVec 64) (n m : Int) (hn : 0 ≤ n) (hm : 0 ≤ m) (hn1 : -9223372036854775808 ≤ n) (hm1 : -9223372036854775808 ≤ m) (hn2 : n ≤ 9223372036854775807) (hm2 : m ≤ 9223372036854775807)
    (ho : 9223372036854775807 - (m) < n) (w : World) :
    Calls Try.prog 8 #[.agg #[.int .u64 (a.toNat : Int), .int .u64 (b.toNat : Int), .int .u64 (c.toNat : Int), .int .i64 n, .int .i64 m]] w fun e w' => e = .returned (.bool true) ∧ Below w.heap.size w w' := by
  go_enter Try.func8, Try.ntmps8
  go_wp2_with fail
  refine (shown_any _).mono ?_
  rintro e w1 ⟨rfl, b1⟩
  have hb := (Blk.new w 35 #[.int .u64 (a.toNat : Int), .int .u64 (b.toNat : Int), .int .u64 (c.toNat : Int), .int .i64 n, .int .i64 m]).below b1 (by simp)
  have B1 := Lib.hid (show Below w.heap.size w w1 from ((Below.refl _ _).alloc (Nat.le_refl _) _).trans (b1.mono (by simp)))
  have c0 : w1.cell? ⟨w.heap.size, 0, none⟩ = some (.int .u64 (a.toNat : Int)) := hb.cell 0
  have c1 : w1.cell? ⟨w.heap.size, 1, none⟩ = some (.int .u64 (b.toNat : Int)) := hb.cell 1
  have c2 : w1.cell? ⟨w.heap.size, 2, none⟩ = some (.int .u64 (c.toNat : Int)) := hb.cell 2
  have c3 : w1.cell? ⟨w.heap.size, 3, none⟩ = some (.int .i64 n) := hb.cell 3
  have c4 : w1.cell? ⟨w.heap.size, 4, none⟩ = some (.int .i64 m) := hb.cell 4
  clear b1 hb
  go_wp2_with fail
  have hx0 : 0 ≤ n / 2 := by omega
  have hy0 : 0 ≤ m / 2 := by omega
  have hxy : n / 2 + (m / 2) ≤ 9223372036854775807 := by omega
  generalize n / 2 = x at hx0 hy0 hxy ⊢
  generalize m / 2 = y at hx0 hy0 hxy ⊢
  have hx1 : x ≤ 9223372036854775807 := by omega
  have hy1 : y ≤ 9223372036854775807 := by omega
  clear c0 c1 c2 c3 c4 ho hn hm hn1 hm1 hn2 hm2
  have HE := Lib.hid (joined_law a b c x y hx0 hy0)
  have J1 := Lib.hid (fun W => join_any a b x hx1 W)
  have J2 := Lib.hid (fun W => join_any (Crc.join a b x.toNat) c y hy1 W)
  have J3 := Lib.hid (fun W => join_any b c y hy1 W)
  have J4 := Lib.hid (fun W => join_any a (Crc.join b c y.toNat) (x + y) hxy W)
  have J5 := Lib.hid (fun W => join_any a 0#64 0 (by omega) W)
  have J6 := Lib.hid (fun W => join_any 0#64 b x hx1 W)
  rw [HE.out] at J2
  rw [show Crc.join a 0#64 (0 : Int).toNat = a from Crc.join_zero a] at J5
  rw [Crc.join_zero'] at J6
  rw [show ((0#64 : BitVec 64).toNat : Int) = 0 from rfl] at J5 J6
  generalize Crc.join a (Crc.join b c y.toNat) (x + y).toNat = r at J2 J4
  generalize Crc.join a b x.toNat = j1 at J1 J2
  generalize Crc.join b c y.toNat = j2 at J3 J4
  clear HE
  refine (J1.out _).mono ?_
  rintro e w2 ⟨rfl, b2⟩
  have B2 := Lib.hid (B1.out.trans (b2.mono B1.out.size))
  clear b2 B1
  go_wp2_with fail
  refine (J2.out _).mono ?_
  rintro e w3 ⟨rfl, b3⟩
  have B3 := Lib.hid (B2.out.trans (b3.mono B2.out.size))
  clear b3 B2
  go_wp2_with fail
  refine (J3.out _).mono ?_
  rintro e w4 ⟨rfl, b4⟩
  have B4 := Lib.hid (B3.out.trans (b4.mono B3.out.size))
  clear b4 B3
  go_wp2_with fail
  refine (J4.out _).mono ?_
  rintro e w5 ⟨rfl, b5⟩
  have B5 := Lib.hid (B4.out.trans (b5.mono B4.out.size))
  clear b5 B4
  go_wp2_with fail
  refine (J5.out _).mono ?_
  rintro e w6 ⟨rfl, b6⟩
  have B6 := Lib.hid (B5.out.trans (b6.mono B5.out.size))
  clear b6 B5
  go_wp2_with fail
  refine (J6.out _).mono ?_
  rintro e w7 ⟨rfl, b7⟩
  have B7 := Lib.hid (B6.out.trans (b7.mono B6.out.size))
  clear b7 B6
  go_wp2
  go_ret
  exact ⟨ret_bool (by simp), B7.out⟩

set_option maxHeartbeats 1000000 in
theorem joined_000 (a b c : BitVec 64) (n m : Int) (hn : 0 ≤ n) (hm : 0 ≤ m) (hn1 : -9223372036854775808 ≤ n) (hm1 : -9223372036854775808 ≤ m) (hn2 : n ≤ 9223372036854775807) (hm2 : m ≤ 9223372036854775807)
    (ho : n ≤ 9223372036854775807 - (m)) (w : World) :
    Calls Try.prog 8 #[.agg #[.int .u64 (a.toNat : Int), .int .u64 (b.toNat : Int), .int .u64 (c.toNat : Int), .int .i64 n, .int .i64 m]] w fun e w' => e = .returned (.bool true) ∧ Below w.heap.size w w' := by
  go_enter Try.func8, Try.ntmps8
  go_wp2_with fail
  refine (shown_any _).mono ?_
  rintro e w1 ⟨rfl, b1⟩
  have hb := (Blk.new w 35 #[.int .u64 (a.toNat : Int), .int .u64 (b.toNat : Int), .int .u64 (c.toNat : Int), .int .i64 n, .int .i64 m]).below b1 (by simp)
  have B1 := Lib.hid (show Below w.heap.size w w1 from ((Below.refl _ _).alloc (Nat.le_refl _) _).trans (b1.mono (by simp)))
  have c0 : w1.cell? ⟨w.heap.size, 0, none⟩ = some (.int .u64 (a.toNat : Int)) := hb.cell 0
  have c1 : w1.cell? ⟨w.heap.size, 1, none⟩ = some (.int .u64 (b.toNat : Int)) := hb.cell 1
  have c2 : w1.cell? ⟨w.heap.size, 2, none⟩ = some (.int .u64 (c.toNat : Int)) := hb.cell 2
  have c3 : w1.cell? ⟨w.heap.size, 3, none⟩ = some (.int .i64 n) := hb.cell 3
  have c4 : w1.cell? ⟨w.heap.size, 4, none⟩ = some (.int .i64 m) := hb.cell 4
  clear b1 hb
  go_wp2_with fail
  have hx0 : 0 ≤ n := by omega
  have hy0 : 0 ≤ m := by omega
  have hxy : n + (m) ≤ 9223372036854775807 := by omega
  generalize n = x at hx0 hy0 hxy ⊢
  generalize m = y at hx0 hy0 hxy ⊢
  have hx1 : x ≤ 9223372036854775807 := by omega
  have hy1 : y ≤ 9223372036854775807 := by omega
  clear c0 c1 c2 c3 c4 ho hn hm hn1 hm1 hn2 hm2
  have HE := Lib.hid (joined_law a b c x y hx0 hy0)
  have J1 := Lib.hid (fun W => join_any a b x hx1 W)
  have J2 := Lib.hid (fun W => join_any (Crc.join a b x.toNat) c y hy1 W)
  have J3 := Lib.hid (fun W => join_any b c y hy1 W)
  have J4 := Lib.hid (fun W => join_any a (Crc.join b c y.toNat) (x + y) hxy W)
  have J5 := Lib.hid (fun W => join_any a 0#64 0 (by omega) W)
  have J6 := Lib.hid (fun W => join_any 0#64 b x hx1 W)
  rw [HE.out] at J2
  rw [show Crc.join a 0#64 (0 : Int).toNat = a from Crc.join_zero a] at J5
  rw [Crc.join_zero'] at J6
  rw [show ((0#64 : BitVec 64).toNat : Int) = 0 from rfl] at J5 J6
  generalize Crc.join a (Crc.join b c y.toNat) (x + y).toNat = r at J2 J4
  generalize Crc.join a b x.toNat = j1 at J1 J2
  generalize Crc.join b c y.toNat = j2 at J3 J4
  clear HE
  refine (J1.out _).mono ?_
  rintro e w2 ⟨rfl, b2⟩
  have B2 := Lib.hid (B1.out.trans (b2.mono B1.out.size))
  clear b2 B1
  go_wp2_with fail
  refine (J2.out _).mono ?_
  rintro e w3 ⟨rfl, b3⟩
  have B3 := Lib.hid (B2.out.trans (b3.mono B2.out.size))
  clear b3 B2
  go_wp2_with fail
  refine (J3.out _).mono ?_
  rintro e w4 ⟨rfl, b4⟩
  have B4 := Lib.hid (B3.out.trans (b4.mono B3.out.size))
  clear b4 B3
  go_wp2_with fail
  refine (J4.out _).mono ?_
  rintro e w5 ⟨rfl, b5⟩
  have B5 := Lib.hid (B4.out.trans (b5.mono B4.out.size))
  clear b5 B4
  go_wp2_with fail
  refine (J5.out _).mono ?_
  rintro e w6 ⟨rfl, b6⟩
  have B6 := Lib.hid (B5.out.trans (b6.mono B5.out.size))
  clear b6 B5
  go_wp2_with fail
  refine (J6.out _).mono ?_
  rintro e w7 ⟨rfl, b7⟩
  have B7 := Lib.hid (B6.out.trans (b7.mono B6.out.size))
  clear b7 B6
  go_wp2
  go_ret
  exact ⟨ret_bool (by simp), B7.out⟩

theorem joined_walk (a b c : BitVec 64) (n m : Int) (hn1 : -9223372036854775808 ≤ n) (hm1 : -9223372036854775808 ≤ m) (hn2 : n ≤ 9223372036854775807) (hm2 : m ≤ 9223372036854775807) (w : World) :
    Calls Try.prog 8 #[.agg #[.int .u64 (a.toNat : Int), .int .u64 (b.toNat : Int), .int .u64 (c.toNat : Int), .int .i64 n, .int .i64 m]] w fun e w' => e = .returned (.bool true) ∧ Below w.heap.size w w' := by
  by_cases hn : n < 0
  · by_cases hm : m < 0
    · by_cases ho : 9223372036854775807 - (-(m + 1)) < -(n + 1)
      · exact joined_111 a b c n m hn hm hn1 hm1 hn2 hm2 ho w
      · exact joined_110 a b c n m hn hm hn1 hm1 hn2 hm2 (by omega) w
    · by_cases ho : 9223372036854775807 - (m) < -(n + 1)
      · exact joined_101 a b c n m hn (by omega) hn1 hm1 hn2 hm2 ho w
      · exact joined_100 a b c n m hn (by omega) hn1 hm1 hn2 hm2 (by omega) w
  · by_cases hm : m < 0
    · by_cases ho : 9223372036854775807 - (-(m + 1)) < n
      · exact joined_011 a b c n m (by omega) hm hn1 hm1 hn2 hm2 ho w
      · exact joined_010 a b c n m (by omega) hm hn1 hm1 hn2 hm2 (by omega) w
    · by_cases ho : 9223372036854775807 - (m) < n
      · exact joined_001 a b c n m (by omega) (by omega) hn1 hm1 hn2 hm2 ho w
      · exact joined_000 a b c n m (by omega) (by omega) hn1 hm1 hn2 hm2 (by omega) w
end Go.Proofs.Ytofhdehigfdmkaa
