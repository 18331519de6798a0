/- THE WALK of the document of layer 3: big. -/
import Derived.Test.YtofhdehigfdmkaaZ
namespace Go.Proofs.Ytofhdehigfdmkaa
open Go.RowKit
theorem shift_be (v k n m : Nat) (hm : m = 8 * (n - 1 - k)) : IntKind.u8.wrap ((v : Int) / 2 ^ m) = ((Page.beB v n k).toNat : Int) := shift_byte v m n k hm
set_option maxHeartbeats 1000000 in
/-- big: a number laid down behind bytes, the highest first -/
theorem big_any (base : Nat) (A : Option Addr) (c : Nat) (l : List UInt8) (v many : Nat) (w : World) (hown : Owns w base (.slice A l.length c) l) (hb : base ≤ w.heap.size) (hm : many ≤ 8) (hl : l.length ≤ 1099511627776) :
    Calls Try.prog 58 #[.slice A l.length c, .int .u64 (v : Int), .int .i64 (many : Int)] w fun e w' => ∃ A' c' r, e = .returned (.slice A' r.length c') ∧ r = l ++ Page.rl many (Page.beB v many) ∧ Owns w' base (.slice A' r.length c') r ∧ Below base w w' := by
  have HO := Lib.hid hown
  have HB := Lib.hid hb
  clear hown
  go_enter Try.func58, Try.ntmps58
  go_wp2_with fail
  go_loopw [0, 7] (fun bv iv wr => ∃ (k : Nat) (A' : Option Addr) (c' : Nat) (r : List UInt8), k ≤ many ∧ iv = .int .i64 ((many : Int) - 1 - (k : Int)) ∧ r = l ++ Page.rl k (Page.beB v many) ∧ bv = .slice A' r.length c' ∧ Owns wr base (.slice A' r.length c') r ∧ Below base w wr) (fun _ iv _ => (intOf iv + 1).toNat)
  case atStart => exact ⟨0, A, c, l, by omega, by simp, by simp [Page.rl], rfl, HO.out, Below.refl _ _⟩
  case round =>
    obtain ⟨k, A', c', r, hk, rfl, hr, rfl, hO, hbel⟩ := hrel
    have HK := Lib.hid (And.intro hr (And.intro hO hbel))
    by_cases hlt : k < many
    · obtain ⟨j, hj⟩ : ∃ j : Nat, (j : Int) = (many : Int) - 1 - (k : Int) := ⟨many - 1 - k, by omega⟩
      rw [← hj]
      obtain ⟨m, hm2⟩ : ∃ m : Nat, m = 8 * (many - 1 - k) := ⟨_, rfl⟩
      have em : 8 * (j : Int) = (m : Int) := by omega
      have hm64 : m < 64 := by omega
      have HM := Lib.hid (shift_be v k many m hm2)
      have hd : decide ((j : Int) < 0) = false := by simp
      have hd2 : decide ((0 : Int) ≤ (j : Int)) = true := by simp
      have hrl : r.length + 1 ≤ 140737488355328 := by rw [hr, List.length_append, Page.rl_length]; omega
      obtain ⟨x, hx⟩ : ∃ x, x = Page.beB v many k := ⟨_, rfl⟩
      rw [← hx] at HM
      have ex := HM.out
      rw [IntKind.wrap_u8'] at ex
      have B2 := Lib.hid (hbel.alloc (Nat.le_trans HB.out hbel.size) (.cells #[.int .u8 (x.toNat : Int)] 5))
      have O2 := Lib.hid (World.ownsRow.alloc hO (.cells #[.int .u8 (x.toNat : Int)] 5))
      have HX := Lib.hid (And.intro hx (And.intro hrl (And.intro hm2 hj)))
      have wj : IntKind.i64.wrap ((j : Int) - 1) = (j : Int) - 1 := by rw [IntKind.wrap_i64]; omega
      have HJ := Lib.hid hj
      have hro := World.ownsRow.lt hO
      have HRO := Lib.hid hro
      clear hr hO hbel hx hrl hm2 hj hro hb hd
      go_wp2_with (first
        | (at_builtin
           refine wpList_append_bytes rfl (.tmp 14) (.tmp 20) rfl base _ r [x] rfl O2.out (wr.heap.size + 1) (some ⟨wr.heap.size, 0, none⟩) 1 rfl (.inr ⟨wr.heap.size, 0, rfl, by omega, fun i hi => by
             have hi0 : i = 0 := by simp at hi; omega
             subst hi0
             exact (Blk.new wr 5 #[.int .u8 (x.toNat : Int)]).cell 0⟩) (by have := HX.out.2.1; simpa using this) (Nat.le_trans HB.out B2.out.size) ?_
           intro A3 c3 w3 r3 q3 rc3 o3 g3
           have B3 := Lib.hid (Below.grew B2.out g3 (Nat.le_trans HB.out B2.out.size) (fun k hk => (HRO.out k hk).1))
           have O3 := Lib.hid o3
           have Q3 := Lib.hid (show r3 = l ++ Page.rl (k + 1) (Page.beB v many) by rw [q3.out, HK.out.1, Page.rl_succ, ← HX.out.1, List.append_assoc])
           clear g3 o3 q3 rc3))
      go_roundw
      case rel => exact ⟨k + 1, A3, c3, r3, by omega, by have := HJ.out; rw [show ((many : Int) - 1 - ((k + 1 : Nat) : Int)) = (j : Int) - 1 by omega], Q3.out, rfl, O3.out, B3.out⟩
      case measure => have := HJ.out; simp [intOf] <;> omega
    · obtain rfl : k = many := by omega
      have e1 : (k : Int) - 1 - (k : Int) = -1 := by omega
      rw [e1]
      clear hr hO hbel
      go_wp2_with fail
      go_ret
      exact ⟨A', c', r, rfl, HK.out⟩
end Go.Proofs.Ytofhdehigfdmkaa
