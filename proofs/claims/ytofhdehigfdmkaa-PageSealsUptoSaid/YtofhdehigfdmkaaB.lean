/- THE WALKS OF THE DOCUMENT'S ANSWER FOR LAYER 2: step, bit, turned, More, Of, times, Join. -/
import Derived.Test.YtofhdehigfdmkaaA
namespace Go.Proofs.Ytofhdehigfdmkaa
open Go.RowKit

/-- a coefficient as a number -/
def bitN (c : Bool) : Nat := if c then 1 else 0
theorem bitN_lt (c : Bool) : bitN c < 2 := by cases c <;> decide
theorem w_dbl (r : BitVec 64) (c : Bool) : IntKind.u64.wrap (IntKind.u64.wrap (2 * (r.toNat : Int)) + (bitN c : Int)) = (((r.shiftConcat c).toNat : Nat) : Int) := by
  rw [IntKind.wrap_u64, IntKind.wrap_u64, BitVec.toNat_shiftConcat, Nat.shiftLeft_eq]
  have e : c.toNat = bitN c := by cases c <;> rfl
  rw [e]
  have := r.isLt
  have := bitN_lt c
  omega
theorem top_test (r : BitVec 64) : decide ((9223372036854775808 : Int) ≤ (r.toNat : Int)) = bitb r 63 := by
  unfold bitb
  have h : r.getLsbD 63 = r.msb := by rw [BitVec.msb_eq_getLsbD_last]
  rw [h, BitVec.msb_eq_decide, decide_eq_decide]
  omega
theorem w_xorPoly (a : BitVec 64) : bits .xor .u64 (a.toNat : Int) 4823603603198064275 = ((a ^^^ Crc.poly).toNat : Int) := w_xor a Crc.poly

set_option maxHeartbeats 400000 in
theorem step_any (r : BitVec 64) (c : Bool) (w : World) :
    Calls Try.prog 56 #[.int .u64 (r.toNat : Int), .int .u64 (bitN c : Int)] w fun e w' => e = .returned (.int .u64 ((Crc.refStep r c).toNat : Int)) ∧ w = w' := by
  have hs : Crc.refStep r c = if bitb r 63 then r.shiftConcat c ^^^ Crc.poly else r.shiftConcat c := rfl
  have h := top_test r
  have e1 := w_dbl r c
  obtain ⟨d, hd⟩ : ∃ d, d = r.shiftConcat c := ⟨_, rfl⟩
  rw [← hd] at hs e1
  have e2 := w_xorPoly d
  cases hb : bitb r 63
  · rw [hb] at h hs
    have HS := Lib.hid hs
    clear hs hb hd e2
    go_enter Try.func56, Try.ntmps56
    go_wp2
    go_ret
    exact ⟨ret_int (by rw [HS.out]; rfl), rfl⟩
  · rw [hb] at h hs
    have HS := Lib.hid hs
    clear hs hb hd
    obtain ⟨d2, hd2⟩ : ∃ d2, d2 = d ^^^ Crc.poly := ⟨_, rfl⟩
    rw [← hd2] at e2
    have HD := Lib.hid hd2
    clear hd2
    go_enter Try.func56, Try.ntmps56
    go_wp2
    go_ret
    exact ⟨ret_int (by rw [HS.out, HD.out]; rfl), rfl⟩

theorem bit_words (x : UInt8) (j : Nat) : ∃ m : Nat, m < 256 ∧ (x.toNat : Int) / 2 ^ j = (m : Int) ∧ IntKind.u64.wrap (m : Int) = (m : Int) ∧ ((m : Int).tmod 2) = (bitN (x.toNat.testBit j) : Int) := by
  have hx := x.toNat_lt
  have hq : x.toNat / 2 ^ j ≤ x.toNat := Nat.div_le_self _ _
  refine ⟨x.toNat / 2 ^ j, by omega, by simp, by rw [IntKind.wrap_u64]; generalize x.toNat / 2 ^ j = q at hq; omega, ?_⟩
  rw [Nat.testBit_eq_decide_div_mod_eq]
  have h2 : x.toNat / 2 ^ j % 2 = 0 ∨ x.toNat / 2 ^ j % 2 = 1 := by omega
  generalize x.toNat / 2 ^ j = q at h2
  rw [Int.tmod_eq_emod_of_nonneg (by omega)]
  rcases h2 with h2 | h2
  · rw [h2]; show _ = ((0 : Nat) : Int); omega
  · rw [h2]; show _ = ((1 : Nat) : Int); omega

set_option maxHeartbeats 400000 in
theorem bit_in (b off c i n : Nat) (w : World) (x : UInt8) (hi : i < 8 * 140737488355328) (hn : i / 8 < n) (hn' : n ≤ 140737488355328) (h : w.cell? ⟨b, off + i / 8, none⟩ = some (.int .u8 x.toNat)) :
    Calls Try.prog 55 #[.slice (some ⟨b, off, none⟩) n c, .int .i64 i] w fun e w' => e = .returned (.int .u64 (bitN (x.toNat.testBit (i % 8)) : Int)) ∧ w = w' := by
  obtain ⟨m, hm, e1, e2, e3⟩ := bit_words x (i % 8)
  have hx := x.toNat_lt
  go_enter Try.func55, Try.ntmps55
  go_wp2
  go_ret
  exact ⟨rfl, rfl⟩
set_option maxHeartbeats 400000 in
theorem bit_out (A : Option Addr) (c i n : Nat) (w : World) (hi : i < 8 * 140737488355328 + 64) (hn : n ≤ i / 8) :
    Calls Try.prog 55 #[.slice A n c, .int .i64 i] w fun e w' => e = .returned (.int .u64 0) ∧ w = w' := by
  go_enter Try.func55, Try.ntmps55
  go_wp2
  go_ret
  exact ⟨rfl, rfl⟩
/-- bit: the i-th of bytes; behind them noughts -/
theorem bit_any (A : Option Addr) (c i B : Nat) (l : List UInt8) (w : World) (hr : Rd w B A l) (hi : i < 8 * l.length + 64) (hm : l.length ≤ 140737488355328) :
    Calls Try.prog 55 #[.slice A l.length c, .int .i64 i] w fun e w' => e = .returned (.int .u64 (bitN (Crc.bitAt l i) : Int)) ∧ w = w' := by
  by_cases h : i / 8 < l.length
  · rcases hr with rfl | ⟨b, off, rfl, hb, hc⟩
    · simp at h
    · exact bit_in b off c i l.length w (l.getD (i / 8) 0) (by omega) h hm (hc _ h)
  · rw [Crc.bitAt_beyond l i (by omega)]
    exact bit_out A c i l.length w (by omega) (by omega)

theorem shift_bit (n : BitVec 64) (k : Nat) : ((n.toNat : Int) / 2 ^ k).tmod 2 = (bitN (bitb n k) : Int) := by
  have e : (n.toNat : Int) / 2 ^ k = ((n.toNat / 2 ^ k : Nat) : Int) := by simp
  rw [e, bitb, BitVec.getLsbD, Nat.testBit_eq_decide_div_mod_eq]
  have h2 : n.toNat / 2 ^ k % 2 = 0 ∨ n.toNat / 2 ^ k % 2 = 1 := by omega
  generalize n.toNat / 2 ^ k = q at h2
  rw [Int.tmod_eq_emod_of_nonneg (by omega)]
  rcases h2 with h2 | h2
  · rw [h2]; show _ = ((0 : Nat) : Int); omega
  · rw [h2]; show _ = ((1 : Nat) : Int); omega

set_option maxHeartbeats 400000 in
theorem turned_any (n : BitVec 64) (w : World) :
    Calls Try.prog 42 #[.int .u64 n.toNat] w fun e w' => e = .returned (.int .u64 ((Crc.rev n).toNat : Int)) ∧ w = w' := by
  go_enter Try.func42, Try.ntmps42
  go_wp2
  go_loop [3, 4] (fun v i => ∃ k : Nat, k ≤ 64 ∧ i = .int .i64 k ∧ v = .int .u64 ((Crc.revTo n k).toNat : Int)) (fun _ i => 64 - (intOf i).toNat)
  case atStart => exact ⟨0, by omega, rfl, rfl⟩
  case round =>
    obtain ⟨k, hk, rfl, rfl⟩ := hrel
    by_cases hlt : k < 64
    · have e0 := shift_bit n k
      have e1 := w_dbl (Crc.revTo n k) (bitb n k)
      obtain ⟨d, hd⟩ : ∃ d, d = Crc.revTo n (k + 1) := ⟨_, rfl⟩
      rw [show (Crc.revTo n k).shiftConcat (bitb n k) = d from hd.symm] at e1
      have HD := Lib.hid hd
      clear hd
      go_wp2
      go_round
      case rel => exact ⟨k + 1, by omega, by go_num, by rw [← HD.out]⟩
      case measure => simp [intOf] <;> omega
    · obtain rfl : k = 64 := by omega
      go_wp2
      go_ret
      exact ⟨rfl, rfl⟩

set_option maxHeartbeats 400000 in
theorem times_any (a b : BitVec 64) (w : World) :
    Calls Try.prog 43 #[.int .u64 a.toNat, .int .u64 b.toNat] w fun e w' => e = .returned (.int .u64 ((Crc.times a b).toNat : Int)) ∧ w = w' := by
  go_enter Try.func43, Try.ntmps43
  go_wp2
  go_loop [5, 6] (fun v i => ∃ k : Nat, k ≤ 64 ∧ i = .int .i64 (63 - k) ∧ v = .int .u64 ((Crc.timesTo a b k).toNat : Int)) (fun _ i => (intOf i + 1).toNat)
  case atStart => exact ⟨0, by omega, rfl, rfl⟩
  case round =>
    obtain ⟨k, hk, rfl, rfl⟩ := hrel
    by_cases hlt : k < 64
    · have hst := Lib.hid (fun w => step_any (Crc.timesTo a b k) false w)
      have hto : Crc.timesTo a b (k + 1) = if bitb b (63 - k) then Crc.refStep (Crc.timesTo a b k) false ^^^ a else Crc.refStep (Crc.timesTo a b k) false := rfl
      have e0 := shift_bit b (63 - k)
      generalize Crc.timesTo a b k = t at *
      generalize Crc.refStep t false = t1 at *
      have e1 := w_xor t1 a
      obtain ⟨q, hq⟩ : ∃ q : Nat, q = 63 - k := ⟨_, rfl⟩
      rw [← hq] at e0 hto
      have hq2 : (63 : Int) - (k : Int) = (q : Int) := by omega
      rw [hq2]
      have hq64 : q < 64 := by omega
      have HQ := Lib.hid hq2
      have HT := Lib.hid hto
      clear hto hq hq2
      cases hb : bitb b q
      · rw [hb, show ((bitN false : Nat) : Int) = 0 from rfl] at e0
        have HB := Lib.hid hb
        clear hb e1
        go_wp2_with (go_at_call 56; refine (hst.out _).mono ?_; rintro e w' ⟨rfl, rfl⟩)
        go_round
        case rel => exact ⟨k + 1, by omega, by have := HQ.out; congr 1; omega, by rw [HT.out, HB.out]; rfl⟩
        case measure => simp [intOf] <;> omega
      · rw [hb, show ((bitN true : Nat) : Int) = 1 from rfl] at e0
        have HB := Lib.hid hb
        clear hb
        obtain ⟨t2, ht2⟩ : ∃ t2, t2 = t1 ^^^ a := ⟨_, rfl⟩
        rw [← ht2] at e1
        have H2 := Lib.hid ht2
        clear ht2
        go_wp2_with (go_at_call 56; refine (hst.out _).mono ?_; rintro e w' ⟨rfl, rfl⟩)
        go_round
        case rel => exact ⟨k + 1, by omega, by have := HQ.out; congr 1; omega, by rw [HT.out, HB.out, H2.out]; rfl⟩
        case measure => simp [intOf] <;> omega
    · obtain rfl : k = 64 := by omega
      rw [show ((63 : Int) - ((64 : Nat) : Int)) = -1 from rfl]
      go_wp2
      go_ret
      exact ⟨rfl, rfl⟩

/-- the step with its coefficient as the loop has it -/
theorem coef_word (l : List UInt8) (st : BitVec 64) (i : Nat) (hi : i < 64) : bits .xor .u64 (bitN (Crc.bitAt l i) : Int) (bitN (bitb st i) : Int) = (bitN (Crc.coef l st i) : Int) := by
  have e : Crc.coef l st i = (Crc.bitAt l i ^^ bitb st i) := by unfold Crc.coef bitb; rw [if_pos hi]
  rw [e, u64_xor_nat _ _ (Nat.lt_trans (bitN_lt _) (by decide)) (Nat.lt_trans (bitN_lt _) (by decide))]
  cases Crc.bitAt l i <;> cases bitb st i <;> rfl
theorem coef_high (l : List UInt8) (st : BitVec 64) (i : Nat) (hi : ¬ i < 64) : Crc.coef l st i = Crc.bitAt l i := by unfold Crc.coef; rw [if_neg hi]

set_option maxHeartbeats 400000 in
/-- More of the document -/
theorem rmore_any (s : BitVec 64) (A : Option Addr) (c : Nat) (l : List UInt8) (w : World) (B : Nat) (hr : Rd w B A l) (hm : l.length ≤ 140737488355328) :
    Calls Try.prog 37 #[.int .u64 (s.toNat : Int), .slice A l.length c] w fun e w' => e = .returned (.int .u64 ((Crc.more s l).toNat : Int)) ∧ w = w' := by
  obtain ⟨st, hst⟩ : ∃ st : BitVec 64, st = ~~~ s := ⟨_, rfl⟩
  have e0 := w_not s
  have hfin := Crc.ref_more l s
  rw [← hst] at e0 hfin
  have HF := Lib.hid hfin
  have hbit := Lib.hid (fun i => bit_any A c i B l w hr)
  clear hfin hst hr
  generalize hn : l.length = n at *
  have HN := Lib.hid hn
  clear hn
  go_enter Try.func37, Try.ntmps37
  go_wp2
  go_loop [6, 7] (fun v i => ∃ k : Nat, k ≤ 8 * n + 64 ∧ i = .int .i64 k ∧ v = .int .u64 ((Crc.refRest (Crc.coef l st) k).toNat : Int)) (fun _ i => 8 * n + 64 - (intOf i).toNat)
  case atStart => exact ⟨0, by omega, rfl, rfl⟩
  case round =>
    obtain ⟨k, hk, rfl, rfl⟩ := hrel
    by_cases hlt : k < 8 * n + 64
    · have hstep := Lib.hid (fun w => step_any (Crc.refRest (Crc.coef l st) k) (Crc.coef l st k) w)
      have hto : Crc.refRest (Crc.coef l st) (k + 1) = Crc.refStep (Crc.refRest (Crc.coef l st) k) (Crc.coef l st k) := rfl
      have hb := Lib.hid (hbit.out k hlt hm)
      generalize Crc.refRest (Crc.coef l st) k = t at *
      have e1 := shift_bit st k
      by_cases h64 : k < 64
      · have e2 := coef_word l st k h64
        generalize Crc.bitAt l k = bk at *
        generalize bitb st k = sk at *
        generalize Crc.coef l st k = ck at *
        have HT := Lib.hid hto
        clear hto
        go_wp2_with (first | (go_at_call 55; refine hb.out.mono ?_; rintro e w' ⟨rfl, rfl⟩) | (go_at_call 56; refine (hstep.out _).mono ?_; rintro e w' ⟨rfl, rfl⟩))
        go_round
        case rel => exact ⟨k + 1, by omega, by go_num, by rw [HT.out]⟩
        case measure => simp [intOf] <;> omega
      · have e2 := coef_high l st k h64
        rw [e2] at hstep hto
        have HT := Lib.hid hto
        generalize Crc.bitAt l k = bk at *
        clear hto e2
        go_wp2_with (first | (go_at_call 55; refine hb.out.mono ?_; rintro e w' ⟨rfl, rfl⟩) | (go_at_call 56; refine (hstep.out _).mono ?_; rintro e w' ⟨rfl, rfl⟩))
        go_round
        case rel => exact ⟨k + 1, by omega, by go_num, by rw [HT.out]⟩
        case measure => simp [intOf] <;> omega
    · obtain rfl : k = 8 * n + 64 := by omega
      have HT := Lib.hid (fun w => turned_any (Crc.refRest (Crc.coef l st) (8 * n + 64)) w)
      have e1 := w_not (Crc.rev (Crc.refRest (Crc.coef l st) (8 * n + 64)))
      rw [HF.out] at e1
      generalize Crc.rev (Crc.refRest (Crc.coef l st) (8 * n + 64)) = rv at *
      generalize Crc.refRest (Crc.coef l st) (8 * n + 64) = rw' at *
      go_wp2_with (go_at_call 42; refine (HT.out _).mono ?_; rintro e w' ⟨rfl, rfl⟩)
      go_ret
      exact ⟨rfl, rfl⟩

theorem halve_even (q : Int) (m : Nat) (v : BitVec 64) (h0 : 0 < q) (h : ¬ q % 2 = 1) : Crc.turns (2 * m * (q / 2).toNat) v = Crc.turns (m * q.toNat) v := by
  congr 1
  obtain ⟨j, rfl⟩ : ∃ j : Nat, q = 2 * j := ⟨(q / 2).toNat, by omega⟩
  rw [show (2 * (j : Int) / 2).toNat = j by omega, show (2 * (j : Int)).toNat = 2 * j by omega, Nat.mul_assoc, Nat.mul_left_comm]
theorem halve_odd (q : Int) (m : Nat) (v : BitVec 64) (h0 : 0 < q) (h : q % 2 = 1) : Crc.turns (2 * m * (q / 2).toNat) (Crc.turns m v) = Crc.turns (m * q.toNat) v := by
  rw [← Crc.turns_add]
  congr 1
  obtain ⟨j, rfl⟩ : ∃ j : Nat, q = 2 * j + 1 := ⟨(q / 2).toNat, by omega⟩
  rw [show ((2 * (j : Int) + 1) / 2).toNat = j by omega, show (2 * (j : Int) + 1).toNat = 2 * j + 1 by omega, Nat.mul_add, Nat.mul_one, Nat.mul_assoc, Nat.mul_left_comm]

set_option maxHeartbeats 400000 in
/-- Join of the document -/
theorem rjoin_any (a b : BitVec 64) (n : Int) (hn : n ≤ 9223372036854775807) (w : World) :
    Calls Try.prog 20 #[.int .u64 a.toNat, .int .u64 b.toNat, .int .i64 n] w fun e w' => e = .returned (.int .u64 ((Crc.join a b n.toNat).toNat : Int)) ∧ w = w' := by
  obtain ⟨T, hT⟩ : ∃ T, T = Crc.turns (8 * n.toNat) a := ⟨_, rfl⟩
  have HJ := Lib.hid (show Crc.join a b n.toNat = T ^^^ b by rw [hT]; rfl)
  have HT := Lib.hid hT
  clear hT
  go_enter Try.func20, Try.ntmps20
  go_wp2_with (go_at_call 42; refine (turned_any _ _).mono ?_; rintro e w' ⟨rfl, rfl⟩)
  go_loop [2, 7, 8] (fun nn o y => ∃ (q : Int) (m : Nat) (ou by' : BitVec 64), q ≤ 9223372036854775807 ∧ nn = .int .i64 q ∧ o = .int .u64 (ou.toNat : Int) ∧ y = .int .u64 (by'.toNat : Int) ∧ Crc.Does m by' ∧ Hid (Crc.turns (m * q.toNat) (Crc.rev ou) = T)) (fun nn _ _ => (intOf nn).toNat)
  case atStart => exact ⟨n, 8, Crc.rev a, 256#64, hn, rfl, rfl, rfl, Crc.does_256, by rw [HT.out, Crc.rev_rev]; exact rfl⟩
  case round =>
    obtain ⟨q, m, ou, y, hq, rfl, rfl, rfl, hdo, hto⟩ := hrel
    by_cases hp : 0 < q
    · by_cases hodd : q % 2 = 1
      · have ht : (q % 2 == 1) = true := by simpa using hodd
        have H1 := Lib.hid hodd
        clear hodd
        go_wp2_with (go_at_call 43; refine (times_any _ _ _).mono ?_; rintro e w' ⟨rfl, rfl⟩)
        go_round
        case rel => exact ⟨q / 2, 2 * m, Crc.times ou y, Crc.times y y, by omega, rfl, rfl, rfl, Crc.does_square m y hdo, by rw [Crc.does_times m ou y hdo, halve_odd q m _ hp H1.out]; exact hto⟩
        case measure => simp [intOf] <;> omega
      · have ht : (q % 2 == 1) = false := by simpa using hodd
        have H1 := Lib.hid hodd
        clear hodd
        go_wp2_with (go_at_call 43; refine (times_any _ _ _).mono ?_; rintro e w' ⟨rfl, rfl⟩)
        go_round
        case rel => exact ⟨q / 2, 2 * m, ou, Crc.times y y, by omega, rfl, rfl, rfl, Crc.does_square m y hdo, by rw [halve_even q m _ hp H1.out]; exact hto⟩
        case measure => simp [intOf] <;> omega
    · have h1 := hto.out
      rw [show q.toNat = 0 by omega, Nat.mul_zero, Crc.turns] at h1
      have e1 := w_xor T b
      have HR := Lib.hid (fun w => turned_any ou w)
      rw [h1] at HR
      clear h1 hto
      generalize Crc.rev ou = ro at *
      go_wp2_with (go_at_call 42; refine (HR.out _).mono ?_; rintro e w' ⟨rfl, rfl⟩)
      go_ret
      exact ⟨ret_int (by rw [HJ.out, BitVec.toNat_xor]), rfl⟩
end Go.Proofs.Ytofhdehigfdmkaa
