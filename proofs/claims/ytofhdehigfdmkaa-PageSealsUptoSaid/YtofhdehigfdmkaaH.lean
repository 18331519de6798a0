/- THE WALK OF SumTurned. -/
import Derived.Test.YtofhdehigfdmkaaN
import Derived.Test.YtofhdehigfdmkaaMath2
import Derived.BigRegion
namespace Go.Proofs.Ytofhdehigfdmkaa
open Go.RowKit

theorem Owns.at_ {w : World} {base g n c : Nat} {l : List UInt8} (h : Owns w base (.slice (some ⟨g, 0, none⟩) n c) l) (k : Nat) (hk : k < l.length) :
    w.cell? ⟨g, k, none⟩ = some (.int .u8 ((l.getD k 0).toNat : Int)) := by
  rcases h.2 with ⟨hv, hn⟩ | ⟨g', cap, cur, hv, hg, hh, hnc, hm, hs, ht⟩
  · cases hv
  · injection hv with hA _ _
    injection hA with hA
    injection hA with hA _ _
    subst hA
    rw [cell_of_row w g k cur 5 (0, 0) hh, ← bytes_get l k hk, ← ht]
    simp [hk]
theorem Owns.free {w : World} {base g n c : Nat} {l : List UInt8} (h : Owns w base (.slice (some ⟨g, 0, none⟩) n c) l) (k : Nat) : w.frozen? ⟨g, k, none⟩ = false := by
  rcases h.2 with ⟨hv, hn⟩ | ⟨g', cap, cur, hv, hg, hh, hnc, hm, hs, ht⟩
  · cases hv
  · injection hv with hA _ _
    injection hA with hA
    injection hA with hA _ _
    subst hA
    simp [World.frozen?, hh]
theorem Owns.put {w : World} {base g n c : Nat} {l : List UInt8} (h : Owns w base (.slice (some ⟨g, 0, none⟩) n c) l) (k : Nat) (x : UInt8) (u : Value) (hu : u = .int .u8 (x.toNat : Int)) :
    Owns (w.setCell ⟨g, k, none⟩ u) base (.slice (some ⟨g, 0, none⟩) n c) (l.set k x) := by
  subst hu
  refine ⟨by simp, ?_⟩
  rcases h.2 with ⟨hv, hn⟩ | ⟨g', cap, cur, hv, hg, hh, hnc, hm, hs, ht⟩
  · cases hv
  · right
    injection hv with hA hn hc
    injection hA with hA
    injection hA with hA _ _
    subst hA hn hc
    refine ⟨g, c, cur.setIfInBounds k (.int .u8 (x.toNat : Int)), by simp, hg, ?_, by simpa using hnc, hm, by simpa using hs, ?_⟩
    · exact Blk.put (t := 5) hh k _
    · rw [List.map_set, ← ht]
      simp [byteV, List.take_set]
theorem Owns.low {w : World} {base g n c : Nat} {l : List UInt8} (h : Owns w base (.slice (some ⟨g, 0, none⟩) n c) l) : base ≤ g := h.from_ g rfl
theorem Owns.some_ {w : World} {base c : Nat} {A : Option Addr} {l : List UInt8} (h : Owns w base (.slice A l.length c) l) (hl : l ≠ []) : ∃ g, A = some ⟨g, 0, none⟩ := by
  rcases h.2 with ⟨hv, hn⟩ | ⟨g', cap, cur, hv, hg, hh, hnc, hm, hs, ht⟩
  · exact absurd (List.eq_nil_of_length_eq_zero hn) hl
  · injection hv with hA _ _
    exact ⟨g', hA⟩
theorem Owns.drew {w : World} {base : Nat} {v : Value} {l : List UInt8} (h : Owns w base v l) : Owns w.drew base v l := h

/-- which of n things a raw number speaks of -/
def pickN (c n : Int) : Int := if c < 0 then -((c + 1).tmod n) else c % n
theorem pickN_in (c n : Int) (h : 0 < n) : 0 ≤ pickN c n ∧ pickN c n < n := by
  unfold pickN
  split
  · rw [← Int.neg_tmod, Int.tmod_eq_emod_of_nonneg (by omega)]
    exact ⟨Int.emod_nonneg _ (by omega), Int.emod_lt_of_pos _ h⟩
  · exact ⟨Int.emod_nonneg _ (by omega), Int.emod_lt_of_pos _ h⟩

set_option maxHeartbeats 400000 in
theorem pick_any (c n : Int) (h : 0 < n) (w : World) (hc : -9223372036854775808 ≤ c) (hc2 : c ≤ 9223372036854775807) :
    Calls Try.prog 17 #[.int .i64 c, .int .i64 n] w fun e w' => e = .returned (.int .i64 (pickN c n)) ∧ w = w' := by
  have hn0 : (n == 0) = false := by simp; omega
  by_cases hneg : c < 0
  · have HP := Lib.hid (show pickN c n = -((c + 1).tmod n) by unfold pickN; rw [if_pos hneg])
    go_enter Try.func17, Try.ntmps17
    go_wp2
    go_ret
    exact ⟨ret_int HP.out.symm, rfl⟩
  · have HP := Lib.hid (show pickN c n = c % n by unfold pickN; rw [if_neg hneg])
    go_enter Try.func17, Try.ntmps17
    go_wp2
    go_ret
    exact ⟨ret_int HP.out.symm, rfl⟩

theorem b_xor' (a b : UInt8) : Value.int .u8 (bits .xor .u8 (a.toNat : Int) (b.toNat : Int)) = .int .u8 ((a ^^^ b).toNat : Int) := by
  rw [u8_xor_nat _ _ a.toNat_lt b.toNat_lt, UInt8.toNat_xor]
theorem bit_word (k : Nat) (hk : k < 8) : IntKind.u8.wrap (2 ^ k) = ((Crc.bitOf k).toNat : Int) := by
  rw [Crc.bitOf_nat k hk]
  rcases (by omega : k = 0 ∨ k = 1 ∨ k = 2 ∨ k = 3 ∨ k = 4 ∨ k = 5 ∨ k = 6 ∨ k = 7) with rfl | rfl | rfl | rfl | rfl | rfl | rfl | rfl <;> decide

set_option maxHeartbeats 1000000 in
theorem turned_some (b : List UInt8) (A : Option Addr) (ca f n : Nat) (run : BitVec 64) (w : World) (at_ : Int) (hn : b.length = n) (hl : n ≤ 2147483647) (hl0 : 0 < n) (hf : f < 8 * n) (hA : Rd w w.heap.size A b)
   (hp : ∀ W, Calls Try.prog 17 #[.int .i64 at_, .int .i64 (8 * (n : Int))] W fun e w' => e = .returned (.int .i64 (f : Int)) ∧ W = w') :
    Calls Try.prog 4 #[.slice A n ca, .int .i64 at_, .int .u64 (run.toNat : Int)] w fun e w' => e = .returned (.bool true) ∧ Below w.heap.size w w' := by
  have HP := Lib.hid hp
  have h0 : ((n : Int) == 0) = false := by simp; omega
  have HA := Lib.hid (fun (W : World) (h : Below w.heap.size w W) => hA.below h (Nat.le_refl _))
  have HN := Lib.hid hn
  have FB := Lib.hid (fun (W : World) (h : Below w.heap.size w W) => of_any A ca b W w.heap.size h.size (hA.below h (Nat.le_refl _)) (by rw [hn]; unfold maxLen; omega))
  rw [hn] at FB
  clear hp hA hn
  go_enter Try.func4, Try.ntmps4
  go_wp2_with fail
  refine (shown_any _).mono ?_
  rintro e w1 ⟨rfl, b1⟩
  have B1 := Lib.hid (b1.alloc b1.size (.cells #[] 5))
  have BS := Lib.hid b1.size
  clear b1
  go_wp2_with fail
  refine (HP.out _).mono ?_
  rintro e w1' ⟨rfl, rfl⟩
  go_wp2_with (first
    | (at_builtin; refine wpList_append_bytes rfl (.tmp 31) (.tmp 32) rfl w.heap.size _ [] b rfl (Owns.fresh w1 w.heap.size BS.out) w.heap.size A ca (by rw [HN.out]; rfl) (HA.out _ B1.out) (by rw [HN.out]; simp; omega) B1.out.size ?_
       intro A2 c2 w2 r2 q2 _ o2 g2
       have B2 := Lib.hid (Below.grew B1.out g2 B1.out.size (Owns.from_ (Owns.fresh w1 w.heap.size BS.out)))
       have O2 := Lib.hid o2
       have Q2 := Lib.hid (show r2 = b from q2.out)
       have L2 := Lib.hid (show r2.length = n by rw [Q2.out, HN.out])
       clear g2 o2 B1 BS q2))
  obtain ⟨g, hg⟩ := O2.out.some_ (by intro h; have := L2.out; rw [h] at this; simp at this; omega)
  subst hg
  have O3 := Lib.hid (show Owns w2 w.heap.size (.slice (some ⟨g, 0, none⟩) n c2) b by have h1 := O2.out; rw [L2.out] at h1; rw [Q2.out] at h1; exact h1)
  have L3 := L2.out
  generalize r2.length = m at L3 ⊢
  subst L3
  clear O2 L2 Q2
  go_loopw [10, 11] (fun tv iv wr => ∃ k : Nat, k ≤ 64 ∧ iv = .int .i64 k ∧ tv = .bool (Crc.flipped m f run k) ∧ Owns wr w.heap.size (.slice (some ⟨g, 0, none⟩) m c2) (Crc.flips b f run k) ∧ Below w.heap.size w wr) (fun _ iv _ => 64 - (intOf iv).toNat)
  case atStart => exact ⟨0, by omega, rfl, rfl, O3.out, B2.out⟩
  case round =>
    obtain ⟨k, hk, rfl, rfl, hO, hbel⟩ := hrel
    have HB := Lib.hid (And.intro hO hbel)
    clear hO hbel
    by_cases hgo : k < 64 ∧ f + k < 8 * m
    · obtain ⟨hlt, hin'⟩ := hgo
      have hd : decide ((k : Int) < 64) = true := by simp; omega
      obtain ⟨j, hj⟩ : ∃ j : Nat, j = f + k := ⟨_, rfl⟩
      have hin : j < 8 * m := by omega
      have ej : (f : Int) + (k : Int) = (j : Int) := by omega
      have hd2 : decide ((j : Int) < 8 * (m : Int)) = true := by simp; omega
      have e0 := shift_bit run k
      have HT : Hid (Crc.turns? m f run k = bitb run k) := by
        show _ = _
        unfold Crc.turns? bitb
        rw [decide_eq_true hin', Bool.true_and]
      clear hin'
      cases hb : bitb run k
      · rw [hb, show ((bitN false : Nat) : Int) = 0 from rfl] at e0
        have HF := Lib.hid (show Crc.flips b f run (k + 1) = Crc.flips b f run k by rw [Crc.flips, HN.out, HT.out, hb]; rfl)
        have HG := Lib.hid (show Crc.flipped m f run (k + 1) = Crc.flipped m f run k by rw [Crc.flipped, HT.out, hb]; rfl)
        clear hj hb HT
        go_wp2
        go_roundw
        case rel => exact ⟨k + 1, by omega, by go_num, by rw [HG.out], by rw [HF.out]; exact HB.out.1, HB.out.2⟩
        case measure => simp [intOf] <;> omega
      · rw [hb, show ((bitN true : Nat) : Int) = 1 from rfl] at e0
        have HF := Lib.hid (show Crc.flips b f run (k + 1) = Crc.flipBit (Crc.flips b f run k) j by rw [Crc.flips, HN.out, HT.out, hb, hj]; rfl)
        have HG := Lib.hid (show Crc.flipped m f run (k + 1) = true by rw [Crc.flipped, HT.out, hb]; rfl)
        have hlb : (Crc.flips b f run k).length = m := by rw [Crc.flips_length, HN.out]
        have hc := HB.out.1.at_ (j / 8) (by omega)
        have hfz := HB.out.1.free (j / 8)
        have E1 := Lib.hid (bit_word (j % 8) (by omega))
        obtain ⟨x, hx⟩ : ∃ x, x = (Crc.flips b f run k).getD (j / 8) 0 := ⟨_, rfl⟩
        rw [← hx] at hc
        have HX := Lib.hid hx
        clear hj hb hlb HT hx
        go_wp2_with fail
        go_region
        go_wp2
        go_roundw
        case rel =>
          refine ⟨k + 1, by omega, by go_num, by rw [HG.out], ?_, (HB.out.2.setCell HB.out.1.low _).drew⟩
          rw [HF.out]
          refine (HB.out.1.put (j / 8) _ _ ?_).drew
          have := E1.out
          rw [IntKind.wrap_u8'] at this
          rw [this, b_xor', HX.out]
        case measure => simp [intOf] <;> omega
    · have HF := Lib.hid (show Crc.flips b f run k = Crc.flips b f run 64 by
        by_cases h : k < 64
        · exact (Crc.flips_stop b f run k 64 (by omega) (by rw [HN.out]; omega)).symm
        · rw [show k = 64 by omega])
      have HG := Lib.hid (show Crc.flipped m f run k = Crc.flipped m f run 64 by
        by_cases h : k < 64
        · exact (Crc.flipped_stop m f run k 64 (by omega) (by omega)).symm
        · rw [show k = 64 by omega])
      have O4 := HB.out.1
      have B4 := Lib.hid HB.out.2
      rw [HF.out] at O4
      rw [HG.out]
      have hlb : (Crc.flips b f run 64).length = m := by rw [Crc.flips_length, HN.out]
      have hT := Crc.turned_told b f run
      rw [HN.out] at hT
      have R4 := Lib.hid (show Rd wr wr.heap.size (some ⟨g, 0, none⟩) (Crc.flips b f run 64) by rw [← hlb] at O4; exact O4.reads)
      have FC := Lib.hid (fun (W : World) (h : Below wr.heap.size wr W) => of_any (some ⟨g, 0, none⟩) c2 (Crc.flips b f run 64) W wr.heap.size h.size (R4.out.below h (Nat.le_refl _)) (by rw [hlb]; unfold maxLen; omega))
      rw [hlb] at FC
      obtain ⟨tt, htt⟩ : ∃ tt, tt = Crc.flipped m f run 64 := ⟨_, rfl⟩
      rw [← htt] at hT ⊢
      generalize Crc.sumOf b = sb at FB hT
      generalize Crc.sumOf (Crc.flips b f run 64) = sc at FC hT
      have hne : (((sb.toNat : Int) != (sc.toNat : Int))) = tt := by
        cases tt with
        | false => rw [hT.2 rfl]; simp
        | true =>
          simp only [bne_iff_ne, ne_eq]
          intro h
          have h2 : sb.toNat = sc.toNat := by omega
          have h3 := BitVec.eq_of_toNat_eq h2
          have := hT.1 h3
          cases this
      have HD := Lib.hid hgo
      clear htt hT hlb O4 hgo HF HG
      have hcase : k < 64 ∧ ¬ (f + k < 8 * m) ∨ ¬ k < 64 := by have := HD.out; omega
      rcases hcase with ⟨h64, hin⟩ | h64
      · have hd : decide ((k : Int) < 64) = true := by simp; omega
        obtain ⟨j, hj⟩ : ∃ j : Nat, j = f + k := ⟨_, rfl⟩
        have ej : (f : Int) + (k : Int) = (j : Int) := by omega
        have hd2 : decide ((j : Int) < 8 * (m : Int)) = false := by simp; omega
        clear hj hin
        go_wp2_with fail
        refine (FB.out _ B4.out).mono ?_
        rintro e w5 ⟨rfl, b5⟩
        have B5 := Lib.hid (B4.out.trans (b5.mono B4.out.size))
        have b5' := Lib.hid b5
        clear b5
        go_wp2_with fail
        refine (FC.out _ b5'.out).mono ?_
        rintro e w6 ⟨rfl, b6⟩
        have B6 := Lib.hid (B5.out.trans (b6.mono B5.out.size))
        clear b6
        go_wp2
        go_ret
        exact ⟨ret_bool (by simp), B6.out⟩
      · have hd : decide ((k : Int) < 64) = false := by simp; omega
        go_wp2_with fail
        refine (FB.out _ B4.out).mono ?_
        rintro e w5 ⟨rfl, b5⟩
        have B5 := Lib.hid (B4.out.trans (b5.mono B4.out.size))
        have b5' := Lib.hid b5
        clear b5
        go_wp2_with fail
        refine (FC.out _ b5'.out).mono ?_
        rintro e w6 ⟨rfl, b6⟩
        have B6 := Lib.hid (B5.out.trans (b6.mono B5.out.size))
        clear b6
        go_wp2
        go_ret
        exact ⟨ret_bool (by simp), B6.out⟩

set_option maxHeartbeats 400000 in
theorem turned_none (A : Option Addr) (ca : Nat) (run : BitVec 64) (w : World) (at_ : Int) :
    Calls Try.prog 4 #[.slice A 0 ca, .int .i64 at_, .int .u64 (run.toNat : Int)] w fun e w' => e = .returned (.bool true) ∧ Below w.heap.size w w' := by
  go_enter Try.func4, Try.ntmps4
  go_wp2_with fail
  refine (shown_any _).mono ?_
  rintro e w1 ⟨rfl, b1⟩
  go_wp2
  go_ret
  exact ⟨rfl, b1⟩
set_option maxHeartbeats 400000 in
theorem turned_great (A : Option Addr) (ca n : Nat) (run : BitVec 64) (w : World) (at_ : Int) (hn : 2147483647 < n) :
    Calls Try.prog 4 #[.slice A n ca, .int .i64 at_, .int .u64 (run.toNat : Int)] w fun e w' => e = .returned (.bool true) ∧ Below w.heap.size w w' := by
  have h0 : ((n : Int) == 0) = false := by simp; omega
  go_enter Try.func4, Try.ntmps4
  go_wp2_with fail
  refine (shown_any _).mono ?_
  rintro e w1 ⟨rfl, b1⟩
  go_wp2
  go_ret
  exact ⟨rfl, b1⟩
/-- SumTurned -/
theorem turned_walk (b : List UInt8) (A : Option Addr) (ca : Nat) (run : BitVec 64) (w : World) (at_ : Int) (h1 : -9223372036854775808 ≤ at_) (h2 : at_ ≤ 9223372036854775807) (hA : Rd w w.heap.size A b) :
    Calls Try.prog 4 #[.slice A b.length ca, .int .i64 at_, .int .u64 (run.toNat : Int)] w fun e w' => e = .returned (.bool true) ∧ Below w.heap.size w w' := by
  by_cases h0 : b.length = 0
  · rw [h0]; exact turned_none A ca run w at_
  · by_cases hg : 2147483647 < b.length
    · exact turned_great A ca _ run w at_ hg
    · have hp := pickN_in at_ (8 * (b.length : Int)) (by omega)
      refine turned_some b A ca (pickN at_ (8 * (b.length : Int))).toNat b.length run w at_ rfl (by omega) (by omega) (by omega) hA (fun W => ?_)
      have := pick_any at_ (8 * (b.length : Int)) (by omega) W h1 h2
      rw [Int.toNat_of_nonneg hp.1]
      exact this
end Go.Proofs.Ytofhdehigfdmkaa
