/- THE WALK OF SumParts. -/
import Derived.Test.YtofhdehigfdmkaaN
namespace Go.Proofs.Ytofhdehigfdmkaa
open Go.RowKit

theorem parts_more (a b c : List UInt8) : Crc.more (Crc.more (Crc.sumOf a) b) c = Crc.sumOf ((a ++ b) ++ c) := by
  unfold Crc.sumOf; rw [Crc.more_more, Crc.more_more, List.append_assoc]
theorem parts_left (a b c : List UInt8) : Crc.join (Crc.join (Crc.sumOf a) (Crc.sumOf b) (b.length : Int).toNat) (Crc.sumOf c) (c.length : Int).toNat = Crc.sumOf ((a ++ b) ++ c) := by
  rw [Int.toNat_natCast, Int.toNat_natCast]
  have h1 := Crc.join_more 0#64 a b
  have h2 := Crc.join_more 0#64 (a ++ b) c
  unfold Crc.sumOf at *
  rw [h1, h2]
theorem parts_right (a b c : List UInt8) : Crc.join (Crc.sumOf a) (Crc.join (Crc.sumOf b) (Crc.sumOf c) (c.length : Int).toNat) ((b.length : Int) + (c.length : Int)).toNat = Crc.sumOf ((a ++ b) ++ c) := by
  rw [← parts_left, Crc.join_join]
  congr 1

set_option maxHeartbeats 1000000 in
theorem parts_small (A B C : Option Addr) (ca cb cc : Nat) (a b c : List UInt8) (w : World) (hA : Rd w w.heap.size A a) (hB : Rd w w.heap.size B b) (hC : Rd w w.heap.size C c)
    (hl : a.length + b.length + c.length ≤ 2147483647) :
    Calls Try.prog 7 #[.slice A a.length ca, .slice B b.length cb, .slice C c.length cc] w fun e w' => e = .returned (.bool true) ∧ Below w.heap.size w w' := by
  have la : a.length ≤ maxLen := by unfold maxLen; omega
  have lb : b.length ≤ maxLen := by unfold maxLen; omega
  have lc : c.length ≤ maxLen := by unfold maxLen; omega
  have FA := Lib.hid (fun (W : World) (h : Below w.heap.size w W) => of_any A ca a W w.heap.size h.size (hA.below h (Nat.le_refl _)) la)
  have FB := Lib.hid (fun (W : World) (h : Below w.heap.size w W) => of_any B cb b W w.heap.size h.size (hB.below h (Nat.le_refl _)) lb)
  have FC := Lib.hid (fun (W : World) (h : Below w.heap.size w W) => of_any C cc c W w.heap.size h.size (hC.below h (Nat.le_refl _)) lc)
  have MB := Lib.hid (fun (W : World) (h : Below w.heap.size w W) => more_any (Crc.sumOf a) B cb b W w.heap.size h.size (hB.below h (Nat.le_refl _)) lb)
  have MC := Lib.hid (fun (W : World) (h : Below w.heap.size w W) => more_any (Crc.more (Crc.sumOf a) b) C cc c W w.heap.size h.size (hC.below h (Nat.le_refl _)) lc)
  have J1 := Lib.hid (fun (W : World) => join_any (Crc.sumOf a) (Crc.sumOf b) (b.length : Int) (by omega) W)
  have J2 := Lib.hid (fun (W : World) => join_any (Crc.join (Crc.sumOf a) (Crc.sumOf b) (b.length : Int).toNat) (Crc.sumOf c) (c.length : Int) (by omega) W)
  have J3 := Lib.hid (fun (W : World) => join_any (Crc.sumOf b) (Crc.sumOf c) (c.length : Int) (by omega) W)
  have J4 := Lib.hid (fun (W : World) => join_any (Crc.sumOf a) (Crc.join (Crc.sumOf b) (Crc.sumOf c) (c.length : Int).toNat) ((b.length : Int) + (c.length : Int)) (by omega) W)
  rw [parts_more] at MC
  rw [parts_left] at J2
  rw [parts_right] at J4
  obtain ⟨T, hT⟩ : ∃ T, T = Crc.sumOf ((a ++ b) ++ c) := ⟨_, rfl⟩
  rw [← hT] at MC J2 J4
  generalize Crc.join (Crc.sumOf a) (Crc.sumOf b) (b.length : Int).toNat = j1 at J1 J2
  generalize Crc.join (Crc.sumOf b) (Crc.sumOf c) (c.length : Int).toNat = j3 at J3 J4
  generalize Crc.more (Crc.sumOf a) b = m1 at MB MC
  generalize Crc.sumOf a = sa at FA MB J1 J4
  generalize Crc.sumOf b = sb at FB J1 J3
  generalize Crc.sumOf c = sc at FC J2 J3
  have HT := Lib.hid hT
  clear hT
  go_enter Try.func7, Try.ntmps7
  go_wp2_with fail
  refine (shown_any _).mono ?_
  rintro e w1 ⟨rfl, b1⟩
  have B1 := Lib.hid (b1.alloc b1.size (.cells #[] 5))
  have BS := Lib.hid b1.size
  clear b1
  go_wp2_with (first
    | (at_builtin; refine wpList_append_bytes rfl (.tmp 40) (.tmp 41) rfl w.heap.size _ [] a rfl (Owns.fresh w1 w.heap.size BS.out) w.heap.size A ca rfl (hA.below B1.out (Nat.le_refl _)) (by simp; omega) B1.out.size ?_
       intro A2 c2 w2 r2 q2 _ o2 g2
       have B2 := Lib.hid (Below.grew B1.out g2 B1.out.size (Owns.from_ (Owns.fresh w1 w.heap.size BS.out)))
       have O2 := Lib.hid o2
       have n2 : r2.length ≤ a.length := by rw [q2.out]; simp
       clear g2 o2 B1 BS)
    | (at_builtin; refine wpList_append_bytes rfl (.tmp 42) (.tmp 43) rfl w.heap.size _ r2 b rfl O2.out w.heap.size B cb rfl (hB.below B2.out (Nat.le_refl _)) (by omega) B2.out.size ?_
       intro A3 c3 w3 r3 q3 _ o3 g3
       have B3 := Lib.hid (Below.grew B2.out g3 B2.out.size (Owns.from_ O2.out))
       have O3 := Lib.hid o3
       have n3 : r3.length ≤ a.length + b.length := by rw [q3.out]; simp; omega
       clear g3 o3 B2 O2)
    | (at_builtin; refine wpList_append_bytes rfl (.tmp 44) (.tmp 45) rfl w.heap.size _ r3 c rfl O3.out w.heap.size C cc rfl (hC.below B3.out (Nat.le_refl _)) (by omega) B3.out.size ?_
       intro A4 c4 w4 r4 q4 _ o4 g4
       have B4 := Lib.hid (Below.grew B3.out g4 B3.out.size (Owns.from_ O3.out))
       have R4 := Lib.hid o4.reads
       have n4 : r4.length ≤ a.length + b.length + c.length := by rw [q4.out]; simp; omega
       clear g4 o4 B3 O3))
  have FS := of_any A4 c4 r4 w4 w4.heap.size (Nat.le_refl _) R4.out (by unfold maxLen; omega)
  rw [show Crc.sumOf r4 = T by rw [HT.out, q4.out, q3.out, q2.out]; rfl] at FS
  refine (FS).mono ?_
  rintro e w5 ⟨rfl, b5⟩
  have B5 := Lib.hid (B4.out.trans (b5.mono B4.out.size))
  clear b5 B4
  go_wp2_with fail
  refine (FA.out _ B5.out).mono ?_
  rintro e w6 ⟨rfl, b6⟩
  have B6 := Lib.hid (B5.out.trans (b6.mono B5.out.size))
  clear b6 B5
  go_wp2_with fail
  refine (FB.out _ B6.out).mono ?_
  rintro e w7 ⟨rfl, b7⟩
  have B7 := Lib.hid (B6.out.trans (b7.mono B6.out.size))
  clear b7 B6
  go_wp2_with fail
  refine (FC.out _ B7.out).mono ?_
  rintro e w8 ⟨rfl, b8⟩
  have B8 := Lib.hid (B7.out.trans (b8.mono B7.out.size))
  clear b8 B7
  go_wp2_with fail
  refine (MB.out _ B8.out).mono ?_
  rintro e w9 ⟨rfl, b9⟩
  have B9 := Lib.hid (B8.out.trans (b9.mono B8.out.size))
  clear b9 B8
  go_wp2_with fail
  refine (MC.out _ B9.out).mono ?_
  rintro e w10 ⟨rfl, b10⟩
  have B10 := Lib.hid (B9.out.trans (b10.mono B9.out.size))
  clear b10 B9
  go_wp2_with fail
  refine (J1.out _).mono ?_
  rintro e w11 ⟨rfl, b11⟩
  have B11 := Lib.hid (B10.out.trans (b11.mono B10.out.size))
  clear b11 B10
  go_wp2_with fail
  refine (J2.out _).mono ?_
  rintro e w12 ⟨rfl, b12⟩
  have B12 := Lib.hid (B11.out.trans (b12.mono B11.out.size))
  clear b12 B11
  go_wp2_with fail
  refine (J3.out _).mono ?_
  rintro e w13 ⟨rfl, b13⟩
  have B13 := Lib.hid (B12.out.trans (b13.mono B12.out.size))
  clear b13 B12
  go_wp2_with fail
  refine (J4.out _).mono ?_
  rintro e w14 ⟨rfl, b14⟩
  have B14 := Lib.hid (B13.out.trans (b14.mono B13.out.size))
  clear b14 B13
  go_wp2_with fail
  have ON := of_any none 0 [] w14 0 (by omega) (.inl rfl) (by simp)
  rw [show ((Crc.sumOf []).toNat : Int) = 0 by rw [Crc.sumOf, Crc.more_nil]; rfl] at ON
  refine (ON).mono ?_
  rintro e w15 ⟨rfl, b15⟩
  have B15 := Lib.hid (B14.out.trans (b15.mono B14.out.size))
  clear b15 B14
  go_wp2_with fail
  refine (more_none T none 0 w15).mono ?_
  rintro e w16 ⟨rfl, b16⟩
  have B16 := Lib.hid (B15.out.trans (b16.mono B15.out.size))
  clear b16 B15
  go_wp2
  go_ret
  exact ⟨ret_bool (by simp), B16.out⟩

set_option maxHeartbeats 400000 in
theorem parts_great (A B C : Option Addr) (ca cb cc la lb lc : Nat) (w : World) (ha : la ≤ 9223372036854775807) (hb : lb ≤ 9223372036854775807) (hc : lc ≤ 9223372036854775807) (hl : 2147483647 < la + lb + lc) :
    Calls Try.prog 7 #[.slice A la ca, .slice B lb cb, .slice C lc cc] w fun e w' => e = .returned (.bool true) ∧ Below w.heap.size w w' := by
  by_cases h1 : 2147483647 < la
  · go_enter Try.func7, Try.ntmps7
    go_wp2_with fail
    refine (shown_any _).mono ?_
    rintro e w1 ⟨rfl, b1⟩
    go_wp2
    go_ret
    exact ⟨rfl, b1⟩
  · by_cases h2 : (2147483647 : Int) - la < lb
    · go_enter Try.func7, Try.ntmps7
      go_wp2_with fail
      refine (shown_any _).mono ?_
      rintro e w1 ⟨rfl, b1⟩
      go_wp2
      go_ret
      exact ⟨rfl, b1⟩
    · have h3 : (2147483647 : Int) - la - lb < lc := by omega
      go_enter Try.func7, Try.ntmps7
      go_wp2_with fail
      refine (shown_any _).mono ?_
      rintro e w1 ⟨rfl, b1⟩
      go_wp2
      go_ret
      exact ⟨rfl, b1⟩

/-- SumParts -/
theorem parts_walk (A B C : Option Addr) (ca cb cc : Nat) (a b c : List UInt8) (w : World) (hA : Rd w w.heap.size A a) (hB : Rd w w.heap.size B b) (hC : Rd w w.heap.size C c)
    (ha : a.length ≤ maxLen) (hb : b.length ≤ maxLen) (hc : c.length ≤ maxLen) :
    Calls Try.prog 7 #[.slice A a.length ca, .slice B b.length cb, .slice C c.length cc] w fun e w' => e = .returned (.bool true) ∧ Below w.heap.size w w' := by
  unfold maxLen at ha hb hc
  by_cases hl : a.length + b.length + c.length ≤ 2147483647
  · exact parts_small A B C ca cb cc a b c w hA hB hC hl
  · exact parts_great A B C ca cb cc _ _ _ w (by omega) (by omega) (by omega) (by omega)
end Go.Proofs.Ytofhdehigfdmkaa
