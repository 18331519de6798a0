import Derived.Test.YtofhdehigfdmkaaK
namespace Go.Proofs.Ytofhdehigfdmkaa
open Go.RowKit

/-- a word as the walk has it -/
theorem w_lt (s : BitVec 64) : s.toNat < 18446744073709551616 := s.isLt
theorem w_shr1 (s : BitVec 64) : (s.toNat : Int) / (2 : Int) = ((s >>> 1).toNat : Int) := by
  rw [BitVec.toNat_ushiftRight, Nat.shiftRight_eq_div_pow]; rfl
theorem w_shr4 (s : BitVec 64) : (s.toNat : Int) / (16 : Int) = ((s >>> 4).toNat : Int) := by
  rw [BitVec.toNat_ushiftRight, Nat.shiftRight_eq_div_pow]; rfl
theorem w_xor (a b : BitVec 64) : bits .xor .u64 (a.toNat : Int) (b.toNat : Int) = ((a ^^^ b).toNat : Int) := by
  rw [u64_xor_nat _ _ a.isLt b.isLt, BitVec.toNat_xor]
theorem w_xorP (a : BitVec 64) : bits .xor .u64 (a.toNat : Int) 14514072000185962306 = ((a ^^^ Crc.P).toNat : Int) := w_xor a Crc.P
/-- a bit of a word, closed to the walk -/
def bitb (a : BitVec 64) (i : Nat) : Bool := a.getLsbD i
theorem w_and1 (a : BitVec 64) : (bits .and .u64 (a.toNat : Int) 1 == 1) = bitb a 0 := by
  unfold bitb
  have h := u64_and_nat a.toNat 1 a.isLt (by decide)
  rw [show ((1 : Nat) : Int) = 1 from rfl] at h
  rw [h, nat_mask1]
  have : a.getLsbD 0 = decide (a.toNat % 2 = 1) := by
    rw [BitVec.getLsbD, Nat.testBit_zero]
  rw [this]
  have h2 : a.toNat % 2 = 0 ∨ a.toNat % 2 = 1 := by omega
  rcases h2 with h2 | h2 <;> rw [h2] <;> rfl
theorem ret_int {k : IntKind} {a b : Int} (h : a = b) : Ending.returned (.int k a) = .returned (.int k b) := by rw [h]
theorem ret_bool {a b : Bool} (h : a = b) : Ending.returned (.bool a) = .returned (.bool b) := by rw [h]

set_option maxHeartbeats 400000 in
theorem turn_any (s : BitVec 64) (w : World) :
    Calls Try.prog 57 #[.int .u64 (s.toNat : Int)] w fun e w' => e = .returned (.int .u64 ((Crc.turn s).toNat : Int)) ∧ w = w' := by
  have h1 := w_and1 s
  go_enter Try.func57, Try.ntmps57
  go_wp2
  · go_ret
    have hb : bitb s 0 = true := by assumption
    refine ⟨ret_int ?_, rfl⟩
    rw [w_shr1, w_xorP, Crc.turn, show s.getLsbD 0 = true from hb]; rfl
  · go_ret
    have hb : bitb s 0 = false := by assumption
    refine ⟨ret_int ?_, rfl⟩
    rw [w_shr1, Crc.turn, show s.getLsbD 0 = false from hb]; rfl

/-- the table, its first k places filled -/
def tabF (k i : Nat) : Value := if i < k then .int .u64 ((Crc.turns 4 (BitVec.ofNat 64 i)).toNat : Int) else .int .u64 0
def tabTo (k : Nat) : Array Value := arr 16 (tabF k)
theorem tabTo_put (k : Nat) (v : Value) (hv : v = .int .u64 ((Crc.turns 4 (BitVec.ofNat 64 k)).toNat : Int)) : (tabTo k).setIfInBounds k v = tabTo (k + 1) := by
  refine arr_put 16 k _ _ v ?_ ?_
  · rw [hv, tabF, if_pos (by omega)]
  · intro i _ hne
    unfold tabF
    by_cases h : i < k
    · rw [if_pos h, if_pos (by omega)]
    · rw [if_neg h, if_neg (by omega)]
theorem tab_one (k : Nat) : (tabTo k).all (·.oneCell') = true := arr_one _ _ fun i _ => by unfold tabF; split <;> rfl
theorem tabTo_zero : (tabTo 0) = #[.int .u64 0, .int .u64 0, .int .u64 0, .int .u64 0, .int .u64 0, .int .u64 0, .int .u64 0, .int .u64 0, .int .u64 0, .int .u64 0, .int .u64 0, .int .u64 0, .int .u64 0, .int .u64 0, .int .u64 0, .int .u64 0] := by
  simp [tabTo, arr, Array.ofFn]; rfl

theorem info65 : (Try.prog.info? 65).map (·.size) = some 16 := by kernel_rfl
theorem u64_of (n : Nat) (h : n < 18446744073709551616) : (n : Int) = ((BitVec.ofNat 64 n).toNat : Int) := by
  rw [BitVec.toNat_ofNat, Nat.mod_eq_of_lt h]

set_option maxHeartbeats 400000 in
theorem table_any (w : World) :
    Calls Try.prog 44 #[] w fun e w' => e = .returned (.agg (tabTo 16)) ∧ Below w.heap.size w w' := by
  have hz := Lib.hid tabTo_zero
  go_enter Try.func44, Try.ntmps44
  go_wp2
  go_loopw [4] (fun i wr => ∃ k : Nat, k ≤ 16 ∧ i = .int .i64 k ∧ Blk wr (w.heap.size + 1) 65 (tabTo k) ∧ Blk wr w.heap.size 65 (tabTo 0) ∧ Below w.heap.size w wr) (fun i _ => 16 - (intOf i).toNat)
  case atStart =>
    refine ⟨0, by omega, rfl, ?_, ?_, ?_⟩
    · rw [hz.out]; exact Blk.new_at (by simp)
    · rw [hz.out]; exact (Blk.new _ _ _).alloc _
    · exact ((Below.refl _ _).alloc (Nat.le_refl _) _).alloc (by simp) _
  case round =>
    obtain ⟨k, hk, rfl, hb1, hb0, hbel⟩ := hrel
    by_cases hlt : k < 16
    · have hc := hb1.cell k
      have hf := hb1.free k
      rw [tabTo, arr_get _ _ _ hlt] at hc
      rw [tabF, if_neg (by omega)] at hc
      have HB := Lib.hid (And.intro hb1 (And.intro hb0 hbel))
      clear hb1 hb0 hbel
      have h0 := Lib.hid (u64_of k (by omega))
      have hd : decide ((k : Int) < 16) = true := by simp; omega
      go_wp2_with fail
      go_loop [3, 9] (fun s j => ∃ m : Nat, m ≤ 4 ∧ j = .int .i64 m ∧ s = .int .u64 ((Crc.turns m (BitVec.ofNat 64 k)).toNat : Int)) (fun _ j => 4 - (intOf j).toNat)
      case atStart => exact ⟨0, by omega, rfl, by rw [h0.out]; rfl⟩
      case round =>
        obtain ⟨m, hm, rfl, rfl⟩ := hrel
        by_cases hm4 : m < 4
        · go_wp2_with (go_at_call 57; refine (turn_any _ _).mono ?_; rintro e w' ⟨rfl, rfl⟩)
          go_round
          case rel => exact ⟨m + 1, by omega, by go_num, rfl⟩
          case measure => simp [intOf]; omega
        · obtain rfl : m = 4 := by omega
          go_wp2
          go_roundw
          case rel => 
            obtain ⟨hb1, hb0, hbel⟩ := HB.out
            refine ⟨k + 1, by omega, by go_num, ?_, ?_, ?_⟩
            · rw [← tabTo_put k _ rfl]; exact hb1.put _ _
            · exact hb0.far (by simp) _
            · exact hbel.setCell (by simp) _
          case measure => simp [intOf]; omega
    · obtain rfl : k = 16 := by omega
      have hg1 : wr.heap[w.heap.size + 1]? = some (.cells (tabTo 16) 65 (0, 0)) := hb1
      have hg0 : wr.heap[w.heap.size]? = some (.cells (tabTo 0) 65 (0, 0)) := hb0
      have HB := Lib.hid (And.intro hg1 (And.intro hg0 hbel))
      clear hb1 hb0 hbel hg1 hg0
      go_wp2_with (first | (refine wpList_load_row rfl 65 _ rfl _ rfl 65 _ (0, 0) _ HB.out.1 Try.underlying65 rfl (by rw [info65]; rfl) ?_) | (refine wpList_store_row rfl 65 _ _ rfl _ (tabTo 16) rfl rfl 65 _ HB.out.2.1 (by rw [info65]; rfl) rfl (tab_one 16) ?_))
      refine bodyPost_ret (v := .agg (tabTo 16)) (results_cell_row rfl _ _ w.heap.size 65 (tabTo 16) (0, 0) _ rfl (Blk.row HB.out.2.1 _) Try.underlying65 rfl (by rw [info65]; rfl)) rfl ⟨rfl, ?_⟩
      exact Below.row HB.out.2.2 (Nat.le_refl _) _

theorem w_and15 (a : BitVec 64) : bits .and .u64 (a.toNat : Int) 15 = (((a &&& 15#64).toNat : Nat) : Int) := by
  have h := u64_and_nat a.toNat 15 a.isLt (by decide)
  rw [show ((15 : Nat) : Int) = 15 from rfl] at h
  rw [h, BitVec.toNat_and]; rfl
theorem and15_lt (a : BitVec 64) : (a &&& 15#64).toNat < 16 := by
  rw [BitVec.toNat_and]
  exact Nat.lt_of_le_of_lt Nat.and_le_right (by decide)
/-- what four bits more come to, in the walk's words -/
theorem four_words (s : BitVec 64) : ∃ (a t s' : BitVec 64) (j : Nat), j < 16 ∧ (s.toNat : Int) / (16 : Int) = (a.toNat : Int) ∧ bits .and .u64 (s.toNat : Int) 15 = (j : Int) ∧
    tabF 16 j = .int .u64 (t.toNat : Int) ∧ bits .xor .u64 (a.toNat : Int) (t.toNat : Int) = (s'.toNat : Int) ∧ s' = Crc.turns 4 s := by
  refine ⟨s >>> 4, Crc.turns 4 (s &&& 15#64), Crc.turns 4 s, (s &&& 15#64).toNat, and15_lt s, w_shr4 s, w_and15 s, ?_, ?_, rfl⟩
  · rw [tabF, if_pos (and15_lt s)]; simp
  · rw [w_xor, ← Crc.low_four]
theorem w_not (a : BitVec 64) : bits .xor .u64 IntKind.u64.max (a.toNat : Int) = ((~~~ a).toNat : Int) := by
  have h := w_xor (BitVec.allOnes 64) a
  have e : (IntKind.u64.max : Int) = ((BitVec.allOnes 64).toNat : Int) := by decide
  rw [e, h, BitVec.xor_comm, BitVec.xor_allOnes]
theorem crc_snoc (s : BitVec 64) (l : List UInt8) (k : Nat) (hk : k < l.length) : Crc.crc s (l.take (k + 1)) = Crc.byteStep (Crc.crc s (l.take k)) (l.getD k 0) := by
  rw [List.take_succ_eq_append_getElem hk, Crc.crc_append]
  simp [Crc.crc, List.getD, hk]
theorem wide_nat (x : UInt8) : (Crc.wide x).toNat = x.toNat := by
  unfold Crc.wide; rw [BitVec.toNat_ofNat]
  have := x.toNat_lt
  omega

set_option maxHeartbeats 400000 in
theorem more_some (s : BitVec 64) (b off c : Nat) (l : List UInt8) (w : World) (hb : b < w.heap.size) (hm : l.length ≤ maxLen)
    (hc : ∀ k, k < l.length → w.cell? ⟨b, off + k, none⟩ = some (.int .u8 ((l.getD k 0).toNat : Int))) :
    Calls Try.prog 21 #[.int .u64 (s.toNat : Int), .slice (some ⟨b, off, none⟩) l.length c] w fun e w' => e = .returned (.int .u64 ((Crc.more s l).toNat : Int)) ∧ Below w.heap.size w w' := by
  unfold maxLen at hm
  have hz := Lib.hid tabTo_zero
  go_enter Try.func21, Try.ntmps21
  go_wp2_with (first | (go_at_call 44; refine (table_any _).mono ?_; rintro e w1 ⟨rfl, hb1⟩) | (have _t := hb1; refine wpList_store_row rfl 65 _ _ rfl _ (tabTo 16) rfl rfl 65 _ (heap_alloc_new w1 _) (by rw [info65]; rfl) rfl (tab_one 16) ?_))
  have hT : Blk ((w1.alloc (.cells (tabTo 0) 65)).setRow w1.heap.size (tabTo 16)) w1.heap.size 65 (tabTo 16) := (Blk.new _ _ _).row _
  have hB : Below w.heap.size w ((w1.alloc (.cells (tabTo 0) 65)).setRow w1.heap.size (tabTo 16)) := Below.row (hb1.alloc hb1.size _) hb1.size _
  rw [hz.out] at hT hB
  generalize World.setRow _ _ _ = w2 at hT hB ⊢
  have hT' := Lib.hid hT
  have hB' := Lib.hid hB
  clear hT hB hb1 hz
  go_loop [6, 14] (fun v i => ∃ k : Nat, k ≤ l.length ∧ i = .int .i64 k ∧ v = .int .u64 ((Crc.crc (~~~ s) (l.take k)).toNat : Int)) (fun _ i => l.length - (intOf i).toNat)
  case atStart => exact ⟨0, by omega, rfl, by rw [w_not]; rfl⟩
  case round =>
    obtain ⟨k, hk, rfl, rfl⟩ := hrel
    have hsn := crc_snoc (~~~ s) l k
    generalize hsk' : Crc.crc (~~~ s) (l.take k) = sk at hsn ⊢
    have hsk := Lib.hid hsk'
    clear hsk'
    by_cases hlt : k < l.length
    · have hs := hsn hlt
      have hck := (hB'.out.cell (p := ⟨b, off + k, none⟩) hb).trans (hc k hlt)
      obtain ⟨x, hx⟩ : ∃ x, x = l.getD k 0 := ⟨_, rfl⟩
      rw [← hx] at hs hck
      have hx8 := x.toNat_lt
      have e0 := w_xor sk (Crc.wide x)
      rw [wide_nat] at e0
      obtain ⟨s1, hs1⟩ : ∃ s1, s1 = sk ^^^ Crc.wide x := ⟨_, rfl⟩
      rw [← hs1] at e0
      obtain ⟨a1, t1, s2, j1, hj1, ea1, eb1, et1, es1, hs2⟩ := four_words s1
      obtain ⟨a2, t2, s3, j2, hj2, ea2, eb2, et2, es2, hs3⟩ := four_words s2
      have hc1 := hT'.out.cell j1
      rw [tabTo, arr_get _ _ _ hj1, et1] at hc1
      have hc2 := hT'.out.cell j2
      rw [tabTo, arr_get _ _ _ hj2, et2] at hc2
      have hfin : Crc.crc (~~~ s) (l.take (k + 1)) = s3 := by
        rw [hs, hs3, hs2, hs1, Crc.byte_four]
      have HF := Lib.hid hfin
      clear hfin hs hs1 hs2 hs3 hx hsn et1 et2 hc
      go_wp2
      go_round
      case rel => exact ⟨k + 1, by omega, by go_num, by rw [HF.out]⟩
      case measure => simp [intOf]; omega
    · obtain rfl : k = l.length := by omega
      go_wp2
      go_ret
      refine ⟨ret_int ?_, hB'.out⟩
      rw [w_not, ← hsk.out, List.take_length]; rfl

set_option maxHeartbeats 400000 in
theorem more_none (s : BitVec 64) (A : Option Addr) (c : Nat) (w : World) :
    Calls Try.prog 21 #[.int .u64 (s.toNat : Int), .slice A 0 c] w fun e w' => e = .returned (.int .u64 (s.toNat : Int)) ∧ Below w.heap.size w w' := by
  obtain ⟨n, e1, e2⟩ : ∃ n : BitVec 64, bits .xor .u64 IntKind.u64.max (s.toNat : Int) = (n.toNat : Int) ∧ bits .xor .u64 IntKind.u64.max (n.toNat : Int) = (s.toNat : Int) :=
    ⟨~~~ s, w_not s, by rw [w_not, BitVec.not_not]⟩
  have hz := Lib.hid tabTo_zero
  go_enter Try.func21, Try.ntmps21
  go_wp2_with (first | (go_at_call 44; refine (table_any _).mono ?_; rintro e w1 ⟨rfl, hb1⟩) | (have _t := hb1; refine wpList_store_row rfl 65 _ _ rfl _ (tabTo 16) rfl rfl 65 _ (heap_alloc_new w1 _) (by rw [info65]; rfl) rfl (tab_one 16) ?_))
  have hB : Below w.heap.size w ((w1.alloc (.cells (tabTo 0) 65)).setRow w1.heap.size (tabTo 16)) := Below.row (hb1.alloc hb1.size _) hb1.size _
  rw [hz.out] at hB
  generalize World.setRow _ _ _ = w2 at hB ⊢
  have hB' := Lib.hid hB
  clear hB hb1 hz
  go_loop [6, 14] (fun v i => i = .int .i64 0 ∧ v = .int .u64 (n.toNat : Int)) (fun _ _ => 0)
  case atStart => exact ⟨rfl, rfl⟩
  case round =>
    obtain ⟨rfl, rfl⟩ := hrel
    go_wp2
    go_ret
    exact ⟨rfl, hB'.out⟩

/-- sum.More: of any slice of bytes -/
theorem more_any (s : BitVec 64) (A : Option Addr) (c : Nat) (l : List UInt8) (w : World) (B : Nat) (hB : B ≤ w.heap.size) (hr : Rd w B A l) (hm : l.length ≤ maxLen) :
    Calls Try.prog 21 #[.int .u64 (s.toNat : Int), .slice A l.length c] w fun e w' => e = .returned (.int .u64 ((Crc.more s l).toNat : Int)) ∧ Below w.heap.size w w' := by
  rcases hr with rfl | ⟨b, off, rfl, hb, hc⟩
  · rw [Crc.more_nil]; exact more_none s A c w
  · exact more_some s b off c l w (by omega) hm hc

set_option maxHeartbeats 400000 in
/-- sum.Of -/
theorem of_any (A : Option Addr) (c : Nat) (l : List UInt8) (w : World) (B : Nat) (hB : B ≤ w.heap.size) (hr : Rd w B A l) (hm : l.length ≤ maxLen) :
    Calls Try.prog 18 #[.slice A l.length c] w fun e w' => e = .returned (.int .u64 ((Crc.sumOf l).toNat : Int)) ∧ Below w.heap.size w w' := by
  have hc := more_any 0#64 A c l w B hB hr hm
  rw [show ((0#64 : BitVec 64).toNat : Int) = 0 from rfl] at hc
  have hC := Lib.hid hc
  clear hc
  go_enter Try.func18, Try.ntmps18
  go_wp2_with (go_at_call 21; refine hC.out.mono ?_; rintro e w1 ⟨rfl, hb1⟩)
  go_ret
  exact ⟨rfl, hb1⟩
end Go.Proofs.Ytofhdehigfdmkaa
