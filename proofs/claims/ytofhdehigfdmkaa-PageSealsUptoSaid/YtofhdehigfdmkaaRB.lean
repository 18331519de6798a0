/- THE WALK of the document of layer 3: told. -/
import Derived.Test.YtofhdehigfdmkaaRA
import Derived.Laws.OwnMore
namespace Go.Proofs.Ytofhdehigfdmkaa
open Go.RowKit
theorem told_step (t : Nat) (x : UInt8) (ht : t < 72057594037927936) : IntKind.u64.wrap (IntKind.u64.wrap (256 * (t : Int)) + (x.toNat : Int)) = ((256 * t + x.toNat : Nat) : Int) := by
  have hx := x.toNat_lt
  rw [IntKind.wrap_u64, IntKind.wrap_u64]; omega
set_option maxHeartbeats 400000 in
/-- told: of at most 8 bytes -/
theorem told_any (A : Option Addr) (c n B : Nat) (l : List UInt8) (w : World) (hn : l.length = n) (h8 : n ≤ 8) (hr : Rd w B A l) :
    Calls Try.prog 59 #[.slice A n c] w fun e w' => e = .returned (.int .u64 (Page.toldN l : Int)) ∧ w = w' := by
  have HR := Lib.hid hr
  have HN := Lib.hid hn
  clear hr hn
  go_enter Try.func59, Try.ntmps59
  go_wp2
  go_loop [3, 4] (fun v i => ∃ k : Nat, k ≤ n ∧ i = .int .i64 k ∧ v = .int .u64 (Page.toldN (l.take k) : Int)) (fun _ i => n - (intOf i).toNat)
  case atStart => exact ⟨0, by omega, rfl, rfl⟩
  case round =>
    obtain ⟨k, hk, rfl, rfl⟩ := hrel
    by_cases hlt : k < n
    · rcases HR.out with h | ⟨b, off, hA, hb, hcb⟩
      · have := HN.out; rw [h] at this; simp at this; omega
      · have hcb' := hcb k (by rw [HN.out]; exact hlt)
        have ht := told_snoc l k (by rw [HN.out]; exact hlt)
        have hlt2 := Page.toldN_lt k (l.take k) (by rw [List.length_take, HN.out]; omega)
        generalize Page.toldN (l.take k) = t at *
        generalize l.getD k 0 = x at *
        have hx := x.toNat_lt
        clear hcb
        subst hA
        have hk7 : 256 ^ k ≤ 256 ^ 7 := Nat.pow_le_pow_right (by omega) (by omega)
        have htt : t < 72057594037927936 := Nat.lt_of_lt_of_le hlt2 hk7
        have HT := Lib.hid ht
        have HO := Lib.hid (told_step t x htt)
        have hd : decide ((k : Int) < (n : Int)) = true := by simp; omega
        clear hk7 hlt2 ht
        go_wp2
        go_round
        case rel => exact ⟨k + 1, by omega, by go_num, by rw [HT.out, ← HO.out]; first | rfl | (congr 1; rw [IntKind.wrap_u64, IntKind.wrap_u64]; omega) | (congr 1; omega)⟩
        case measure => simp [intOf] <;> omega
    · obtain rfl : k = n := by omega
      go_wp2
      go_ret
      exact ⟨ret_int (by rw [List.take_of_length_le (by rw [HN.out]; exact Nat.le_refl _)]), rfl⟩
end Go.Proofs.Ytofhdehigfdmkaa
