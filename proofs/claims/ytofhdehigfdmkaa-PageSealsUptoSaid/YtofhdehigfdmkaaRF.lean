/- lent and back of layer 3's statements (the text of layer 2's, of other numbers). -/
import Derived.Test.YtofhdehigfdmkaaO
import Derived.Test.YtofhdehigfdmkaaRE
namespace Go.Proofs.Ytofhdehigfdmkaa
open Go.RowKit
set_option maxHeartbeats 400000 in
theorem lent3_any (A : Option Addr) (ca : Nat) (l : List UInt8) (w : World) (hA : Rd w w.heap.size A l) (hl : l.length ≤ 140737488355328) :
    Calls Try.prog 23 #[.slice A l.length ca] w fun e w' => e = .returned (.slice (some ⟨w.heap.size, 0, none⟩) l.length (l.length + 40)) ∧ Blk w' w.heap.size 5 (arr (l.length + 40) (byF (lentF l))) ∧ Below w.heap.size w w' := by
  have hmk := make_bytes (l.length + 40) (by omega)
  rw [show ((l.length + 40 : Nat) : Int) = (l.length : Int) + 40 by omega] at hmk
  have hR := Lib.hid (hA.below ((Below.refl w.heap.size w).alloc (Nat.le_refl _) (.cells (arr (l.length + 40) fun _ => .int .u8 0) 5)) (Nat.le_refl _))
  have hb0 := Lib.hid (Blk.new w 5 (arr (l.length + 40) fun _ => .int .u8 0))
  go_enter Try.func23, Try.ntmps23
  go_wp2_with (refine wpList_copy_bytes rfl (.tmp 9) (.tmp 10) rfl w.heap.size 0 (l.length + 40) (l.length + 40) (l.length + 40) (fun _ => .int .u8 0) A ca w.heap.size l rfl rfl hb0.out hR.out (by omega) (by omega) ?_; intro w1 hb1 hg1)
  have HB := Lib.hid (show Blk w1 w.heap.size 5 (arr (l.length + 40) (lentTo l l.length)) by rw [← lentTo_zero]; exact hb1)
  have HL := Lib.hid (show Below w.heap.size w w1 from ((Below.refl w.heap.size w).alloc (Nat.le_refl _) (.cells (arr (l.length + 40) fun _ => .int .u8 0) 5)).grown hg1 (by simp) (fun k hk => by cases hk; exact Nat.le_refl _))
  clear hb1 hg1 hmk
  generalize hn : l.length = n at *
  have HN := Lib.hid hn
  clear hn
  go_loopw [4] (fun iv wr => ∃ k : Nat, n ≤ k ∧ k ≤ n + 40 ∧ iv = .int .i64 k ∧ Blk wr w.heap.size 5 (arr (n + 40) (lentTo l k)) ∧ Below w.heap.size w wr) (fun iv _ => n + 40 - (intOf iv).toNat)
  case atStart => exact ⟨n, Nat.le_refl _, by omega, rfl, HB.out, HL.out⟩
  case round =>
    obtain ⟨k, hk0, hk, rfl, hb1, hbel⟩ := hrel
    by_cases hlt : k < n + 40
    · have hc := hb1.cell k
      have hf := hb1.free k
      rw [arr_get _ _ _ hlt, lentTo, if_neg (by rw [HN.out]; omega), if_neg (by omega)] at hc
      have HK := Lib.hid (And.intro hb1 hbel)
      clear hb1 hbel
      go_wp2
      go_roundw
      case rel =>
        refine ⟨k + 1, by omega, by omega, by go_num, ?_, HK.out.2.setCell (by simp) _⟩
        have := HK.out.1.put k (.int .u8 167)
        have e := lentTo_put l k (by rw [HN.out]; omega)
        rw [HN.out] at e
        rw [e] at this
        exact this
      case measure => simp [intOf] <;> omega
    · obtain rfl : k = n + 40 := by omega
      have e := lentTo_all l
      rw [HN.out] at e
      rw [e] at hb1
      go_wp2
      go_ret
      exact ⟨by rw [HN.out]; rfl, by rw [HN.out]; exact hb1, hbel⟩

set_option maxHeartbeats 400000 in
theorem back3_any (A : Option Addr) (ca g B n : Nat) (l : List UInt8) (w : World) (hn : l.length = n) (hA : Rd w B A l) (hB : B ≤ g) (hl : n ≤ 140737488355328) (hg : Blk w g 5 (arr (n + 40) (byF (lentF l)))) :
    Calls Try.prog 28 #[.slice (some ⟨g, 0, none⟩) n (n + 40), .slice A n ca] w fun e w' => e = .returned (.bool true) ∧ Blk w' g 5 (arr (n + 40) (byF fun i => lentF l i ^^^ 0x33)) ∧ w.grownBy w' (some g) := by
  have HA := Lib.hid (show ∀ W : World, w.grownBy W (some g) → Rd W B A l from fun W h => hA.only h hB)
  have HG := Lib.hid hg
  have HN := Lib.hid hn
  clear hA hg hn
  go_enter Try.func28, Try.ntmps28
  go_wp2
  go_loopw [6, 7] (fun ov iv wr => ∃ k : Nat, k ≤ n + 40 ∧ iv = .int .i64 k ∧ ov = .bool true ∧ Blk wr g 5 (arr (n + 40) (backTo (lentF l) k)) ∧ w.grownBy wr (some g)) (fun _ iv _ => n + 40 - (intOf iv).toNat)
  case atStart => exact ⟨0, by omega, rfl, rfl, by rw [backTo_zero]; exact HG.out, only_refl _ _⟩
  case round =>
    obtain ⟨k, hk, rfl, rfl, hb1, hbel⟩ := hrel
    by_cases hlt : k < n + 40
    · have hc := hb1.cell k
      have hf := hb1.free k
      rw [arr_get _ _ _ hlt, backTo, if_neg (by omega)] at hc
      have HK := Lib.hid (And.intro hb1 hbel)
      clear hb1 hbel
      obtain ⟨x, hx⟩ : ∃ x, x = lentF l k := ⟨_, rfl⟩
      rw [← hx] at hc
      have HX := Lib.hid hx
      have hd : decide ((k : Int) < (n : Int) + 40) = true := by simp; omega
      clear hx
      by_cases hin : k < n
      · have hd1 : decide ((k : Int) < (n : Int)) = true := by simp; omega
        rcases HA.out _ HK.out.2 with h | ⟨b, off, hA, hb, hcb⟩
        · have := HN.out; rw [h] at this; simp at this; omega
        · have hcb' := hcb k (by rw [HN.out]; exact hin)
          have hxl : l.getD k 0 = x := by rw [HX.out, lentF, if_pos (by rw [HN.out]; exact hin)]
          rw [hxl] at hcb'
          clear hcb hxl
          subst hA
          go_wp2_with fail
          go_quiet (fail)
          go_wp2
          go_roundw
          case rel =>
            refine ⟨k + 1, by omega, by go_num, rfl, ?_, only_put (only_drewN HK.out.2 _) _ _⟩
            have := HK.out.1.put k (.int .u8 (bits .xor .u8 (x.toNat : Int) 51))
            rw [backTo_put _ k _ _ (by rw [← HX.out]; exact b_xor' x 0x33)] at this
            exact this
          case measure => simp [intOf] <;> omega
      · have hd1 : decide ((k : Int) < (n : Int)) = false := by simp; omega
        have hd2 : decide ((n : Int) ≤ (k : Int)) = true := by simp; omega
        have hd3 : decide (k < n) = false := by simp; omega
        have hd4 : decide (n ≤ k) = true := by simp; omega
        have hxl : x = 0xa7 := by rw [HX.out, lentF, if_neg (by rw [HN.out]; exact hin)]
        rw [hxl, show (((0xa7 : UInt8).toNat : Nat) : Int) = 167 from rfl] at hc
        have HX2 := Lib.hid hxl
        clear hxl
        go_wp2_with fail
        go_quiet (fail)
        go_wp2
        go_roundw
        case rel =>
          refine ⟨k + 1, by omega, by go_num, rfl, ?_, only_put (only_drewN HK.out.2 _) _ _⟩
          have := HK.out.1.put k (.int .u8 (bits .xor .u8 167 51))
          rw [backTo_put _ k _ _ (by rw [← HX.out, HX2.out]; exact b_xor' 0xa7 0x33)] at this
          exact this
        case measure => simp [intOf] <;> omega
    · obtain rfl : k = n + 40 := by omega
      rw [backTo_all] at hb1
      have HK := Lib.hid (And.intro hb1 hbel)
      clear hb1 hbel
      go_wp2
      go_ret
      exact ⟨rfl, HK.out⟩
end Go.Proofs.Ytofhdehigfdmkaa
