/- THE WALKS OF sum's Join: of, one, twice, Join. -/
import Derived.Test.YtofhdehigfdmkaaB
import Derived.Deep.LoopGhost
namespace Go.Proofs.Ytofhdehigfdmkaa
open Go.RowKit

set_option maxHeartbeats 400000 in
/-- Of of the document -/
theorem rof_any (A : Option Addr) (c : Nat) (l : List UInt8) (w : World) (B : Nat) (hr : Rd w B A l) (hm : l.length ≤ 140737488355328) :
    Calls Try.prog 36 #[.slice A l.length c] w fun e w' => e = .returned (.int .u64 ((Crc.sumOf l).toNat : Int)) ∧ w = w' := by
  have hc := rmore_any 0#64 A c l w B hr hm
  rw [show ((0#64 : BitVec 64).toNat : Int) = 0 from rfl] at hc
  have hC := Lib.hid hc
  clear hc
  go_enter Try.func36, Try.ntmps36
  go_wp2_with (go_at_call 37; refine hC.out.mono ?_; rintro e w1 ⟨rfl, rfl⟩)
  go_ret
  exact ⟨rfl, rfl⟩

def zF (z : Nat → BitVec 64) (i : Nat) : Value := .int .u64 ((z i).toNat : Int)
def zArr (z : Nat → BitVec 64) : Array Value := arr 64 (zF z)
theorem w_bit1 (s : BitVec 64) (k : Nat) : (bits .and .u64 ((s.toNat : Int) / 2 ^ k) 1 == 1) = bitb s k := by
  have e : (s.toNat : Int) / 2 ^ k = ((s.toNat / 2 ^ k : Nat) : Int) := by simp
  have hs := s.isLt
  have hq : s.toNat / 2 ^ k ≤ s.toNat := Nat.div_le_self _ _
  have h := u64_and_nat (s.toNat / 2 ^ k) 1 (Nat.lt_of_le_of_lt hq hs) (by decide)
  rw [show ((1 : Nat) : Int) = 1 from rfl] at h
  rw [e, h, nat_mask1, bitb, BitVec.getLsbD, Nat.testBit_eq_decide_div_mod_eq]
  have h2 : s.toNat / 2 ^ k % 2 = 0 ∨ s.toNat / 2 ^ k % 2 = 1 := by omega
  rcases h2 with h2 | h2 <;> rw [h2] <;> rfl

set_option maxHeartbeats 400000 in
/-- zeros.of -/
theorem zof_any (g : Nat) (z : Nat → BitVec 64) (s : BitVec 64) (w : World) (hg : Blk w g 82 (zArr z)) :
    Calls Try.prog 41 #[.pointer (some ⟨g, 0, none⟩), .int .u64 (s.toNat : Int)] w fun e w' => e = .returned (.int .u64 ((Crc.pick z s 64).toNat : Int)) ∧ w = w' := by
  have hG := Lib.hid hg
  clear hg
  go_enter Try.func41, Try.ntmps41
  go_wp2
  go_loop [5, 7] (fun v i => ∃ k : Nat, k ≤ 64 ∧ i = .int .i64 k ∧ v = .int .u64 ((Crc.pick z s k).toNat : Int)) (fun _ i => 64 - (intOf i).toNat)
  case atStart => exact ⟨0, by omega, rfl, rfl⟩
  case round =>
    obtain ⟨k, hk, rfl, rfl⟩ := hrel
    by_cases hlt : k < 64
    · have hto : Crc.pick z s (k + 1) = if bitb s k then Crc.pick z s k ^^^ z k else Crc.pick z s k := rfl
      have e0 := w_bit1 s k
      have e1 := w_xor (Crc.pick z s k) (z k)
      have hc := hG.out.cell k
      rw [zArr, arr_get _ _ _ hlt, zF] at hc
      generalize Crc.pick z s k = t at *
      generalize z k = zk at *
      cases hb : bitb s k
      · rw [hb] at e0 hto
        have HT := Lib.hid hto
        clear hto hb e1
        go_wp2
        go_round
        case rel => exact ⟨k + 1, by omega, by go_num, by rw [HT.out]; rfl⟩
        case measure => simp [intOf] <;> omega
      · rw [hb] at e0 hto
        obtain ⟨t1, ht1⟩ : ∃ t1, t1 = t ^^^ zk := ⟨_, rfl⟩
        rw [← ht1] at e1 hto
        have HT := Lib.hid hto
        clear hto hb ht1
        go_wp2
        go_round
        case rel => exact ⟨k + 1, by omega, by go_num, by rw [HT.out]; rfl⟩
        case measure => simp [intOf] <;> omega
    · obtain rfl : k = 64 := by omega
      go_wp2
      go_ret
      exact ⟨rfl, rfl⟩

/-- rows half made: the first k of them -/
def halfF (k : Nat) (z : Nat → BitVec 64) (i : Nat) : Value := if i < k then .int .u64 ((z i).toNat : Int) else .int .u64 0
theorem half_zero (z : Nat → BitVec 64) : arr 64 (halfF 0 z) = #[.int .u64 0, .int .u64 0, .int .u64 0, .int .u64 0, .int .u64 0, .int .u64 0, .int .u64 0, .int .u64 0, .int .u64 0, .int .u64 0, .int .u64 0, .int .u64 0, .int .u64 0, .int .u64 0, .int .u64 0, .int .u64 0, .int .u64 0, .int .u64 0, .int .u64 0, .int .u64 0, .int .u64 0, .int .u64 0, .int .u64 0, .int .u64 0, .int .u64 0, .int .u64 0, .int .u64 0, .int .u64 0, .int .u64 0, .int .u64 0, .int .u64 0, .int .u64 0, .int .u64 0, .int .u64 0, .int .u64 0, .int .u64 0, .int .u64 0, .int .u64 0, .int .u64 0, .int .u64 0, .int .u64 0, .int .u64 0, .int .u64 0, .int .u64 0, .int .u64 0, .int .u64 0, .int .u64 0, .int .u64 0, .int .u64 0, .int .u64 0, .int .u64 0, .int .u64 0, .int .u64 0, .int .u64 0, .int .u64 0, .int .u64 0, .int .u64 0, .int .u64 0, .int .u64 0, .int .u64 0, .int .u64 0, .int .u64 0, .int .u64 0, .int .u64 0] := by
  rw [arr_congr 64 (halfF 0 z) (fun _ => .int .u64 0) (fun i _ => by simp [halfF])]
  rfl
theorem half_put (k : Nat) (z : Nat → BitVec 64) (v : Value) (hv : v = .int .u64 ((z k).toNat : Int)) : (arr 64 (halfF k z)).setIfInBounds k v = arr 64 (halfF (k + 1) z) := by
  refine arr_put 64 k _ _ v ?_ ?_
  · rw [hv, halfF, if_pos (by omega)]
  · intro i _ hne
    unfold halfF
    by_cases h : i < k
    · rw [if_pos h, if_pos (by omega)]
    · rw [if_neg h, if_neg (by omega)]
theorem half_all (z : Nat → BitVec 64) : arr 64 (halfF 64 z) = zArr z := arr_congr _ _ _ fun i hi => by rw [halfF, if_pos hi]; rfl
theorem half_open (k : Nat) (z : Nat → BitVec 64) : halfF k z k = .int .u64 0 := by rw [halfF, if_neg (by omega)]

theorem shl_word (k : Nat) (hk : k < 64) : IntKind.u64.wrap (2 ^ k) = ((1#64 <<< k).toNat : Int) := by
  rw [IntKind.wrap_u64, BitVec.toNat_shiftLeft, Nat.shiftLeft_eq]
  have h : 2 ^ k < 2 ^ 64 := Nat.pow_lt_pow_right (by omega) hk
  have e : ((2 : Int) ^ k) = ((2 ^ k : Nat) : Int) := by simp
  rw [e]
  simp only [BitVec.toNat_ofNat]
  omega

set_option maxHeartbeats 400000 in
/-- one byte 0 -/
theorem one_any (w : World) :
    Calls Try.prog 39 #[] w fun e w' => e = .returned (.pointer (some ⟨w.heap.size, 0, none⟩)) ∧ Blk w' w.heap.size 82 (zArr fun i => Crc.turns 8 (1#64 <<< i)) ∧ Below w.heap.size w w' := by
  obtain ⟨z, hz⟩ : ∃ z : Nat → BitVec 64, z = fun i => Crc.turns 8 (1#64 <<< i) := ⟨_, rfl⟩
  have HZ := Lib.hid (show ∀ i, z i = Crc.turns 8 (1#64 <<< i) from fun i => congrFun hz i)
  rw [← hz]
  have HA := Lib.hid (half_zero z)
  clear hz
  go_enter Try.func39, Try.ntmps39
  go_wp2
  go_loopw [4] (fun i wr => ∃ k : Nat, k ≤ 64 ∧ i = .int .i64 k ∧ Blk wr w.heap.size 82 (arr 64 (halfF k z)) ∧ Below w.heap.size w wr) (fun i _ => 64 - (intOf i).toNat)
  case atStart =>
    refine ⟨0, by omega, rfl, ?_, ?_⟩
    · rw [HA.out]; exact Blk.new_at rfl
    · exact (Below.refl _ _).alloc (Nat.le_refl _) _
  case round =>
    obtain ⟨k, hk, rfl, hb1, hbel⟩ := hrel
    by_cases hlt : k < 64
    · have hc := hb1.cell k
      have hf := hb1.free k
      rw [arr_get _ _ _ hlt, half_open] at hc
      have HB := Lib.hid (And.intro hb1 hbel)
      clear hb1 hbel
      have h0 := shl_word k hlt
      have hd : decide ((k : Int) < 64) = true := by simp; omega
      obtain ⟨e, he⟩ : ∃ e : BitVec 64, e = 1#64 <<< k := ⟨_, rfl⟩
      rw [← he] at h0
      have HZk := Lib.hid (HZ.out k)
      rw [← he] at HZk
      clear he
      go_wp2_with fail
      go_loop [3, 9] (fun s j => ∃ m : Nat, m ≤ 8 ∧ j = .int .i64 m ∧ s = .int .u64 ((Crc.turns m e).toNat : Int)) (fun _ j => 8 - (intOf j).toNat)
      case atStart => exact ⟨0, by omega, rfl, rfl⟩
      case round =>
        obtain ⟨m, hm, rfl, rfl⟩ := hrel
        by_cases hm8 : m < 8
        · go_wp2_with (go_at_call 57; refine (turn_any _ _).mono ?_; rintro e w' ⟨rfl, rfl⟩)
          go_round
          case rel => exact ⟨m + 1, by omega, by go_num, rfl⟩
          case measure => simp [intOf] <;> omega
        · obtain rfl : m = 8 := by omega
          go_wp2
          go_roundw
          case rel =>
            obtain ⟨hb1, hbel⟩ := HB.out
            refine ⟨k + 1, by omega, by go_num, ?_, ?_⟩
            · rw [← half_put k z _ rfl, HZk.out]; exact hb1.put _ _
            · exact hbel.setCell (by simp) _
          case measure => simp [intOf] <;> omega
    · obtain rfl : k = 64 := by omega
      go_wp2
      go_ret
      exact ⟨rfl, by rw [half_all] at hb1; exact hb1, hbel⟩

set_option maxHeartbeats 400000 in
/-- twice as many -/
theorem twice_any (g : Nat) (z : Nat → BitVec 64) (w : World) (hg : Blk w g 82 (zArr z)) :
    Calls Try.prog 40 #[.pointer (some ⟨g, 0, none⟩)] w fun e w' => e = .returned (.pointer (some ⟨w.heap.size, 0, none⟩)) ∧ Blk w' w.heap.size 82 (zArr fun i => Crc.pick z (z i) 64) ∧ Below w.heap.size w w' := by
  obtain ⟨y, hy⟩ : ∃ y : Nat → BitVec 64, y = fun i => Crc.pick z (z i) 64 := ⟨_, rfl⟩
  have HY := Lib.hid (show ∀ i, y i = Crc.pick z (z i) 64 from fun i => congrFun hy i)
  rw [← hy]
  have HA := Lib.hid (half_zero y)
  have HG := Lib.hid hg
  clear hy hg
  have hne := HG.out.lt
  go_enter Try.func40, Try.ntmps40
  go_wp2
  go_loopw [5] (fun i wr => ∃ k : Nat, k ≤ 64 ∧ i = .int .i64 k ∧ Blk wr w.heap.size 82 (arr 64 (halfF k y)) ∧ Below w.heap.size w wr) (fun i _ => 64 - (intOf i).toNat)
  case atStart =>
    refine ⟨0, by omega, rfl, ?_, ?_⟩
    · rw [HA.out]; exact Blk.new_at rfl
    · exact (Below.refl _ _).alloc (Nat.le_refl _) _
  case round =>
    obtain ⟨k, hk, rfl, hb1, hbel⟩ := hrel
    by_cases hlt : k < 64
    · have hc := hb1.cell k
      have hf := hb1.free k
      rw [arr_get _ _ _ hlt, half_open] at hc
      have hgr := HG.out.below hbel hne
      have hz := hgr.cell k
      rw [zArr, arr_get _ _ _ hlt, zF] at hz
      have HC := Lib.hid (fun s => zof_any g z s wr hgr)
      have HB := Lib.hid (And.intro hb1 hbel)
      clear hb1 hbel hgr
      go_wp2_with (go_at_call 41; refine (HC.out _).mono ?_; rintro e w' ⟨rfl, rfl⟩)
      go_roundw
      case rel =>
        obtain ⟨hb1, hbel⟩ := HB.out
        refine ⟨k + 1, by omega, by go_num, ?_, ?_⟩
        · rw [← half_put k y _ rfl, HY.out]; exact hb1.put _ _
        · exact hbel.setCell (by simp) _
      case measure => simp [intOf] <;> omega
    · obtain rfl : k = 64 := by omega
      go_wp2
      go_ret
      exact ⟨rfl, by rw [half_all] at hb1; exact hb1, hbel⟩

set_option maxHeartbeats 400000 in
theorem join_any (a b : BitVec 64) (n : Int) (hn : n ≤ 9223372036854775807) (w : World) :
    Calls Try.prog 19 #[.int .u64 a.toNat, .int .u64 b.toNat, .int .i64 n] w fun e w' => e = .returned (.int .u64 ((Crc.join a b n.toNat).toNat : Int)) ∧ Below w.heap.size w w' := by
  obtain ⟨T, hT⟩ : ∃ T, T = Crc.turns (8 * n.toNat) a := ⟨_, rfl⟩
  have HJ := Lib.hid (show Crc.join a b n.toNat = T ^^^ b by rw [hT]; rfl)
  have HT := Lib.hid hT
  clear hT
  go_enter Try.func19, Try.ntmps19
  go_wp2_with fail
  go_step3
  go_wp2_with (go_at_call 39; refine (one_any _).mono ?_; rintro e w1 ⟨rfl, hb1, hbel⟩)
  all_goals
    go_step3
    go_wp2_with fail
    go_loopw [0, 7, 8] (fun av zv lv wr => ∃ (m : Nat) (q : Int) (s : BitVec 64) (g : Nat) (z : Nat → BitVec 64), 0 ≤ q ∧ q ≤ 9223372036854775807 ∧ lv = .int .i64 q ∧ av = .int .u64 (s.toNat : Int) ∧
      zv = .pointer (some ⟨g, 0, none⟩) ∧ Blk wr g 82 (zArr z) ∧ Crc.Rows m z ∧ Hid (Crc.turns (m * q.toNat) s = T) ∧ Below w.heap.size w wr) (fun _ _ lv _ => (intOf lv).toNat)
    case atStart => 
      first
        | exact ⟨8, n, a, w.heap.size, _, by omega, hn, rfl, rfl, rfl, hb1, fun i _ => rfl, HT.out.symm, hbel⟩
        | exact ⟨8, 0, a, w.heap.size, _, by omega, by omega, rfl, rfl, rfl, hb1, fun i _ => rfl, by rw [HT.out]; show _ = Crc.turns (8 * n.toNat) a; rw [show n.toNat = 0 by omega]; rfl, hbel⟩
    case round =>
      obtain ⟨m, q, s, g, z, hq0, hq, rfl, rfl, rfl, hg, hR, hto, hbw⟩ := hrel
      obtain ⟨wo, rfl⟩ : ∃ wo : World, wo = wr := ⟨_, rfl⟩
      go_wp2_with fail
      go_loopw [7, 8] (fun zv lv wr => ∃ (m : Nat) (q' : Int) (g : Nat) (z : Nat → BitVec 64), 0 ≤ q' ∧ q' ≤ q ∧ (0 < q → 0 < q') ∧ lv = .int .i64 q' ∧
        zv = .pointer (some ⟨g, 0, none⟩) ∧ Blk wr g 82 (zArr z) ∧ Crc.Rows m z ∧ Hid (Crc.turns (m * q'.toNat) s = T) ∧ Below w.heap.size w wr) (fun _ lv _ => (intOf lv).toNat)
      case atStart => exact ⟨m, q, g, z, hq0, Int.le_refl _, fun h => h, rfl, rfl, hg, hR, hto, hbw⟩
      case round =>
        clear hg hR hto hbw hb1 hbel
        obtain ⟨m, q', g, z, hq0', hq', hpos, rfl, rfl, hg, hR, hto, hbw⟩ := hrel
        have H := Lib.hid (And.intro hg (And.intro hR (And.intro hto (And.intro hbw hpos))))
        clear hg hR hto hbw hpos
        by_cases he : q' % 2 = 0
        · have ht : (q' % 2 == 0) = true := by simpa using he
          by_cases hz : q' = 0
          · subst hz
            have h1 := H.out.2.2.1.out
            rw [show (0 : Int).toNat = 0 from rfl, Nat.mul_zero, Crc.turns] at h1
            have e1 := w_xor T b
            have HS := Lib.hid h1
            have HE := Lib.hid he
            clear he h1
            go_wp2
            rw [Exit.noGoto_ret]
            go_ret
            refine ⟨ret_int ?_, H.out.2.2.2.1⟩
            rw [HJ.out, HS.out]; exact e1
          · have hz' : (q' == 0) = false := by simpa using hz
            have HE := Lib.hid he
            have hq1 : 0 < q' := by omega
            clear hz he
            go_wp2_with (go_at_call 40; refine (twice_any _ _ _ H.out.1).mono ?_; rintro e w2 ⟨rfl, hb2, hbel2⟩)
            go_roundw
            case rel => 
              obtain ⟨hg, hR, hto, hbw, hpos⟩ := H.out
              have := HE.out
              exact ⟨2 * m, q' / 2, wr.heap.size, _, by omega, by omega, by omega, rfl, rfl, hb2, Crc.rows_twice m z hR, by rw [halve_even q' m s hq1 (by omega)]; exact hto, hbw.trans (hbel2.mono hbw.size)⟩
            case measure => simp [intOf] <;> omega
        · have ht : (q' % 2 == 0) = false := by simpa using he
          have HE := Lib.hid he
          have hq1 : 0 < q' := by omega
          clear he
          go_wp2_with (go_at_call 41; refine (zof_any _ _ _ _ H.out.1).mono ?_; rintro e w2 ⟨rfl, rfl⟩)
          go_roundw
          case rel => 
            obtain ⟨hg, hR, hto, hbw, hpos⟩ := H.out
            have ho := HE.out
            refine ⟨m, q' - 1, Crc.pick z s 64, g, z, by omega, by omega, rfl, rfl, rfl, hg, hR, ?_, hbw⟩
            rw [Crc.rows_pick m z s hR]
            have h1 := hto.out
            show Crc.turns _ _ = T
            rw [← h1, ← Crc.turns_add]
            congr 1
            obtain ⟨j, rfl⟩ : ∃ j : Nat, q' = j + 1 := ⟨(q' - 1).toNat, by omega⟩
            rw [show ((j : Int) + 1 - 1).toNat = j by omega, show ((j : Int) + 1).toNat = j + 1 by omega, Nat.mul_add, Nat.mul_one]
          case measure => simp [intOf] <;> omega
end Go.Proofs.Ytofhdehigfdmkaa
