namespace Go.Proofs.Ytofhdehigfdmkaa
namespace Crc

def P : BitVec 64 := 0xc96c5795d7870f42#64
/-- one bit falls out -/
def turn (s : BitVec 64) : BitVec 64 := if s.getLsbD 0 then (s >>> 1) ^^^ P else s >>> 1
def turns : Nat → BitVec 64 → BitVec 64
  | 0, s => s
  | n + 1, s => turn (turns n s)

theorem turn_zero : turn 0#64 = 0#64 := by decide
theorem turn_xor (a b : BitVec 64) : turn (a ^^^ b) = turn a ^^^ turn b := by
  unfold turn
  rw [BitVec.getLsbD_xor, BitVec.ushiftRight_xor_distrib]
  cases a.getLsbD 0 <;> cases b.getLsbD 0 <;> simp
  · ac_rfl
  · ac_rfl
  · rw [show a >>> 1 ^^^ P ^^^ (b >>> 1 ^^^ P) = a >>> 1 ^^^ b >>> 1 ^^^ (P ^^^ P) by ac_rfl]; simp
theorem turns_zero (n : Nat) : turns n 0#64 = 0#64 := by
  induction n with
  | zero => rfl
  | succ n ih => rw [turns, ih, turn_zero]
theorem turns_xor (n : Nat) (a b : BitVec 64) : turns n (a ^^^ b) = turns n a ^^^ turns n b := by
  induction n with
  | zero => rfl
  | succ n ih => rw [turns, ih, turn_xor]; rfl
theorem turns_add (m n : Nat) (a : BitVec 64) : turns (m + n) a = turns m (turns n a) := by
  induction m with
  | zero => rw [Nat.zero_add]; rfl
  | succ m ih => rw [Nat.succ_add, turns, ih]; rfl
theorem turn_even (s : BitVec 64) (h : s.getLsbD 0 = false) : turn s = s >>> 1 := by unfold turn; rw [h]; rfl
theorem turn_inj (s : BitVec 64) (h : turn s = 0#64) : s = 0#64 := by
  have hp : P.getLsbD 63 = true := by decide
  cases h0 : s.getLsbD 0 with
  | true =>
    exfalso
    have h1 : (turn s).getLsbD 63 = true := by
      simp only [turn, h0, if_true, BitVec.getLsbD_xor, hp, BitVec.getLsbD_ushiftRight]
      have : s.getLsbD (1 + 63) = false := BitVec.getLsbD_of_ge _ _ (by decide)
      rw [this]; rfl
    rw [h] at h1; simp at h1
  | false =>
    rw [turn_even s h0] at h
    apply BitVec.eq_of_getLsbD_eq
    intro i hi
    cases i with
    | zero => rw [h0]; simp
    | succ j =>
      have := congrArg (fun t => t.getLsbD j) h
      simp only [BitVec.getLsbD_ushiftRight, BitVec.getLsbD_zero] at this
      rw [Nat.add_comm] at this
      rw [this]; simp
theorem turns_inj (n : Nat) (s : BitVec 64) (h : turns n s = 0#64) : s = 0#64 := by
  induction n with
  | zero => exact h
  | succ n ih => exact ih (turn_inj _ h)

/-- a byte as a word -/
def wide (x : UInt8) : BitVec 64 := BitVec.ofNat 64 x.toNat
def byteStep (s : BitVec 64) (x : UInt8) : BitVec 64 := turns 8 (s ^^^ wide x)
def crc (s : BitVec 64) (l : List UInt8) : BitVec 64 := l.foldl byteStep s
/-- More -/
def more (s : BitVec 64) (l : List UInt8) : BitVec 64 := ~~~ crc (~~~ s) l
def sumOf (l : List UInt8) : BitVec 64 := more 0#64 l

theorem crc_append (s : BitVec 64) (a b : List UInt8) : crc s (a ++ b) = crc (crc s a) b := by simp [crc]
theorem crc_xor (s t : BitVec 64) (l : List UInt8) : crc (s ^^^ t) l = crc s l ^^^ turns (8 * l.length) t := by
  induction l generalizing s t with
  | nil => rfl
  | cons x l ih =>
    simp only [crc, List.foldl_cons, List.length_cons] at *
    have : byteStep (s ^^^ t) x = byteStep s x ^^^ turns 8 t := by
      unfold byteStep
      rw [show s ^^^ t ^^^ wide x = (s ^^^ wide x) ^^^ t by ac_rfl, turns_xor]
    rw [this, ih, ← turns_add, Nat.mul_add]
/-- Join -/
def join (a b : BitVec 64) (n : Nat) : BitVec 64 := turns (8 * n) a ^^^ b

theorem more_more (s : BitVec 64) (a b : List UInt8) : more (more s a) b = more s (a ++ b) := by
  unfold more; rw [BitVec.not_not, crc_append]
theorem more_nil (s : BitVec 64) : more s [] = s := by simp [more, crc]
theorem not_xor (x : BitVec 64) : ~~~ x = (~~~ 0#64) ^^^ x := by
  rw [BitVec.xor_comm, BitVec.not_zero, BitVec.xor_allOnes]
theorem xor_self_left (x y : BitVec 64) : x ^^^ (x ^^^ y) = y := by rw [← BitVec.xor_assoc]; simp
theorem join_more (s : BitVec 64) (a b : List UInt8) : join (more s a) (sumOf b) b.length = more s (a ++ b) := by
  unfold join sumOf more
  rw [crc_append]
  have e : crc (~~~ s) a = ~~~ (0#64) ^^^ ~~~ (crc (~~~ s) a) := by
    rw [not_xor (crc _ _), xor_self_left]
  conv => rhs; rw [e, crc_xor]
  rw [not_xor (crc (~~~0#64) b), not_xor (_ ^^^ _)]
  ac_rfl
theorem join_join (a b c : BitVec 64) (n m : Nat) : join (join a b n) c m = join a (join b c m) (n + m) := by
  unfold join
  rw [turns_xor, ← turns_add, Nat.mul_add, Nat.add_comm (8 * m), BitVec.xor_assoc]
theorem join_zero (a : BitVec 64) : join a 0#64 0 = a := by simp [join, turns]
theorem join_zero' (b : BitVec 64) (n : Nat) : join 0#64 b n = b := by simp [join, turns_zero]

/-! ## words made of bits -/
def gather (f : Nat → Bool) : Nat → BitVec 64
  | 0 => 0#64
  | k + 1 => gather f k ^^^ (if f k then 1#64 <<< k else 0#64)
theorem one_bit (k j : Nat) (hj : j < 64) : (1#64 <<< k).getLsbD j = decide (j = k) := by
  rw [BitVec.getLsbD_shiftLeft]
  by_cases h : j < k
  · simp [h]; omega
  · by_cases e : j = k
    · subst e; simp [hj]
    · have : j - k ≠ 0 := by omega
      simp [h, hj, e, BitVec.getLsbD_one, this]
theorem gather_bit (f : Nat → Bool) (k j : Nat) (hj : j < 64) : (gather f k).getLsbD j = (decide (j < k) && f j) := by
  induction k with
  | zero => simp [gather]
  | succ k ih =>
    rw [gather, BitVec.getLsbD_xor, ih]
    by_cases e : j = k
    · subst e
      cases h : f j
      · simp
      · simp only [if_true]
        rw [one_bit j j hj]; simp
    · have : (if f k then 1#64 <<< k else 0#64).getLsbD j = false := by
        split
        · rw [one_bit k j hj]; simp [e]
        · simp
      rw [this, Bool.xor_false]
      congr 1
      simp only [decide_eq_decide]; omega
theorem gather_self (s : BitVec 64) : gather s.getLsbD 64 = s := by
  apply BitVec.eq_of_getLsbD_eq; intro i hi
  rw [gather_bit _ _ _ hi]; simp [hi]
theorem gather_congr (f g : Nat → Bool) (k : Nat) (h : ∀ i, i < k → f i = g i) : gather f k = gather g k := by
  induction k with
  | zero => rfl
  | succ k ih => rw [gather, gather, ih (fun i hi => h i (by omega)), h k (by omega)]

/-- the sum of what is told for each bit of a word -/
def pick (z : Nat → BitVec 64) (s : BitVec 64) : Nat → BitVec 64
  | 0 => 0#64
  | k + 1 => if s.getLsbD k then pick z s k ^^^ z k else pick z s k
theorem pick_turns (m : Nat) (z : Nat → BitVec 64) (s : BitVec 64) (hz : ∀ i, i < 64 → z i = turns m (1#64 <<< i)) (k : Nat) (hk : k ≤ 64) :
    pick z s k = turns m (gather s.getLsbD k) := by
  induction k with
  | zero => simp [pick, gather, turns_zero]
  | succ k ih =>
    rw [pick, gather, turns_xor, ih (by omega), hz k (by omega)]
    cases s.getLsbD k <;> simp [turns_zero]
theorem pick_all (m : Nat) (z : Nat → BitVec 64) (s : BitVec 64) (hz : ∀ i, i < 64 → z i = turns m (1#64 <<< i)) :
    pick z s 64 = turns m s := by rw [pick_turns m z s hz 64 (by omega), gather_self]

/-! ## bit by bit -/
def bitW (c : Bool) : BitVec 64 := if c then 1#64 else 0#64
def direct (f : Nat → Bool) (s : BitVec 64) : Nat → BitVec 64
  | 0 => s
  | n + 1 => turn (direct f s n ^^^ bitW (f n))
def word (f : Nat → Bool) (n : Nat) : BitVec 64 := gather (fun k => f (n + k)) 64
theorem word_bit (f : Nat → Bool) (n j : Nat) (hj : j < 64) : (word f n).getLsbD j = f (n + j) := by
  rw [word, gather_bit _ _ _ hj]; simp [hj]
def topW (c : Bool) : BitVec 64 := if c then 1#64 <<< 63 else 0#64
theorem turn_word (f : Nat → Bool) (n : Nat) (d : BitVec 64) : turn (d ^^^ word f n) ^^^ topW (f (n + 64)) = turn (d ^^^ bitW (f n)) ^^^ word f (n + 1) := by
  have e : word f n = bitW (f n) ^^^ (word f n ^^^ bitW (f n)) := by rw [BitVec.xor_comm (word f n), xor_self_left]
  have h0 : (word f n ^^^ bitW (f n)).getLsbD 0 = false := by
    rw [BitVec.getLsbD_xor, word_bit f n 0 (by omega)]
    cases f n <;> simp [bitW]
  rw [e, ← BitVec.xor_assoc, turn_xor, turn_even _ h0, BitVec.xor_assoc]
  congr 1
  apply BitVec.eq_of_getLsbD_eq; intro i hi
  rw [BitVec.getLsbD_xor, BitVec.getLsbD_ushiftRight, BitVec.getLsbD_xor, word_bit f (n + 1) i hi]
  have hb : (bitW (f n)).getLsbD (1 + i) = false := by
    unfold bitW; split
    · rw [BitVec.getLsbD_one]; simp
    · simp
  rw [hb, Bool.xor_false]
  by_cases h : i = 63
  · subst h
    rw [BitVec.getLsbD_of_ge _ _ (by omega)]
    rw [show n + 1 + 63 = n + 64 by omega]
    cases f (n + 64)
    · simp [topW]
    · simp only [topW, if_true]; rw [one_bit 63 63 (by omega)]; rfl
  · rw [word_bit f n (1 + i) (by omega)]
    have : (topW (f (n + 64))).getLsbD i = false := by
      unfold topW; split
      · rw [one_bit 63 i hi]; simp [h]
      · simp
    rw [this, Bool.xor_false]; congr 1; omega

/-- the register that is fed at its far end -/
def fed (f : Nat → Bool) : Nat → BitVec 64
  | 0 => 0#64
  | n + 1 => turn (fed f n) ^^^ topW (f n)
theorem fed_first (f : Nat → Bool) (k : Nat) (hk : k ≤ 64) (j : Nat) (hj : j < 64) : (fed f k).getLsbD j = (decide (64 - k ≤ j) && f (j - (64 - k))) := by
  induction k generalizing j with
  | zero => simp [fed]; omega
  | succ k ih =>
    have h0 : (fed f k).getLsbD 0 = false := by
      rw [ih (by omega) 0 (by omega)]
      have : ¬ (64 - k ≤ 0) := by omega
      simp [this]
    rw [fed, turn_even _ h0, BitVec.getLsbD_xor, BitVec.getLsbD_ushiftRight]
    by_cases h : j = 63
    · subst h
      rw [BitVec.getLsbD_of_ge _ _ (by omega)]
      have e : (topW (f k)).getLsbD 63 = f k := by
        cases f k
        · simp [topW]
        · simp only [topW, if_true]; rw [one_bit 63 63 (by omega)]; rfl
      rw [e]
      have : 64 - (k + 1) ≤ 63 := by omega
      simp only [this, decide_true, Bool.true_and, Bool.false_xor]
      congr 1; omega
    · rw [ih (by omega) (1 + j) (by omega)]
      have : (topW (f k)).getLsbD j = false := by
        unfold topW; split
        · rw [one_bit 63 j hj]; simp [h]
        · simp
      rw [this, Bool.xor_false]
      have e1 : (64 - k ≤ 1 + j) ↔ (64 - (k + 1) ≤ j) := by omega
      have e2 : 1 + j - (64 - k) = j - (64 - (k + 1)) := by omega
      rw [e2, decide_eq_decide.2 e1]
theorem fed_64 (f : Nat → Bool) : fed f 64 = word f 0 := by
  apply BitVec.eq_of_getLsbD_eq; intro i hi
  rw [fed_first f 64 (by omega) i hi, word_bit f 0 i hi]; simp
/-- fed at the far end and fed at the near end: one law, 64 bits apart -/
theorem fed_direct (f g : Nat → Bool) (s : BitVec 64) (hlo : ∀ i, i < 64 → g i = (f i ^^ s.getLsbD i)) (hhi : ∀ i, 64 ≤ i → g i = f i) (n : Nat) :
    fed g (64 + n) = direct f s n ^^^ word f n := by
  induction n with
  | zero =>
    rw [Nat.add_zero, fed_64, direct]
    apply BitVec.eq_of_getLsbD_eq; intro i hi
    rw [BitVec.getLsbD_xor, word_bit _ _ _ hi, word_bit _ _ _ hi, Nat.zero_add, hlo i hi, Bool.xor_comm]
  | succ n ih =>
    rw [show 64 + (n + 1) = (64 + n) + 1 by omega, fed, ih, hhi _ (by omega), Nat.add_comm 64 n, turn_word, direct]

/-! ## bytes and bits -/
def bitAt (l : List UInt8) (i : Nat) : Bool := (l.getD (i / 8) 0).toNat.testBit (i % 8)
theorem wide_bit (x : UInt8) (j : Nat) (hj : j < 64) : (wide x).getLsbD j = x.toNat.testBit j := by
  unfold wide; rw [BitVec.getLsbD_ofNat]; simp [hj]
theorem direct_byte (f : Nat → Bool) (x : UInt8) (s : BitVec 64) (n : Nat) (hf : ∀ k, k < 8 → f (n + k) = x.toNat.testBit k) (k : Nat) (hk : k ≤ 8) :
    turns k (direct f s n ^^^ wide x) = direct f s (n + k) ^^^ (wide x >>> k) := by
  induction k with
  | zero => simp [turns]
  | succ k ih =>
    rw [turns, ih (by omega), ← Nat.add_assoc, direct, hf k (by omega)]
    have e : wide x >>> k = bitW (x.toNat.testBit k) ^^^ (wide x >>> k ^^^ bitW (x.toNat.testBit k)) := by rw [BitVec.xor_comm (wide x >>> k), xor_self_left]
    have h0 : (wide x >>> k ^^^ bitW (x.toNat.testBit k)).getLsbD 0 = false := by
      rw [BitVec.getLsbD_xor, BitVec.getLsbD_ushiftRight, wide_bit _ _ (by omega), Nat.add_zero]
      cases x.toNat.testBit k <;> simp [bitW]
    conv => lhs; rw [e]
    rw [← BitVec.xor_assoc, turn_xor, turn_even _ h0]
    congr 1
    apply BitVec.eq_of_getLsbD_eq; intro i hi
    have hb : (bitW (x.toNat.testBit k)).getLsbD (1 + i) = false := by
      unfold bitW; split
      · rw [BitVec.getLsbD_one]; simp
      · simp
    rw [BitVec.getLsbD_ushiftRight, BitVec.getLsbD_xor, hb, Bool.xor_false, BitVec.getLsbD_ushiftRight, BitVec.getLsbD_ushiftRight]
    congr 1; omega
theorem wide_shift (x : UInt8) : wide x >>> 8 = 0#64 := by
  apply BitVec.eq_of_getLsbD_eq; intro i hi
  rw [BitVec.getLsbD_ushiftRight]
  by_cases h : 8 + i < 64
  · rw [wide_bit x _ h, Nat.testBit_lt_two_pow]
    · simp
    · exact Nat.lt_of_lt_of_le x.toNat_lt (Nat.pow_le_pow_right (by omega) (by omega))
  · rw [BitVec.getLsbD_of_ge _ _ (by omega)]; simp
theorem direct_crc (l : List UInt8) (s : BitVec 64) (j : Nat) (hj : j ≤ l.length) : direct (bitAt l) s (8 * j) = crc s (l.take j) := by
  induction j with
  | zero => simp [direct, crc]
  | succ j ih =>
    have hb := direct_byte (bitAt l) (l.getD j 0) s (8 * j) (fun k hk => by
      unfold bitAt; rw [show (8 * j + k) / 8 = j by omega, show (8 * j + k) % 8 = k by omega]) 8 (by omega)
    rw [wide_shift, BitVec.xor_zero] at hb
    rw [Nat.mul_succ, ← hb, ih (by omega)]
    have ht : l.take (j + 1) = l.take j ++ [l.getD j 0] := by
      rw [List.take_succ_eq_append_getElem (by omega)]; simp [List.getD, List.getElem?_eq_getElem (show j < l.length by omega)]
    rw [ht, crc_append]; rfl
theorem bitAt_beyond (l : List UInt8) (i : Nat) (h : 8 * l.length ≤ i) : bitAt l i = false := by
  unfold bitAt
  rw [List.getD_eq_getElem?_getD, List.getElem?_eq_none (by omega)]; simp
theorem word_beyond (l : List UInt8) (n : Nat) (h : 8 * l.length ≤ n) : word (bitAt l) n = 0#64 := by
  apply BitVec.eq_of_getLsbD_eq; intro i hi
  rw [word_bit _ _ _ hi, bitAt_beyond _ _ (by omega)]; simp
/-- the document's law: all bits and 64 noughts, fed at the far end, the state put to the first 64 -/
theorem fed_crc (l : List UInt8) (s : BitVec 64) (g : Nat → Bool) (hlo : ∀ i, i < 64 → g i = (bitAt l i ^^ s.getLsbD i)) (hhi : ∀ i, 64 ≤ i → g i = bitAt l i) :
    fed g (8 * l.length + 64) = crc s l := by
  rw [Nat.add_comm, fed_direct (bitAt l) g s hlo hhi, word_beyond _ _ (by omega), BitVec.xor_zero, direct_crc l s _ (Nat.le_refl _), List.take_length]

/-! ## the document's division, the bits the other way round -/
def poly : BitVec 64 := 0x42f0e1eba9ea3693#64
/-- a word's bits turned round, the first k of them -/
def revTo (n : BitVec 64) : Nat → BitVec 64
  | 0 => 0#64
  | k + 1 => (revTo n k).shiftConcat (n.getLsbD k)
def rev (n : BitVec 64) : BitVec 64 := revTo n 64
theorem revTo_bit (n : BitVec 64) (k j : Nat) (hj : j < 64) : (revTo n k).getLsbD j = (decide (j < k) && n.getLsbD (k - 1 - j)) := by
  induction k generalizing j with
  | zero => simp [revTo]
  | succ k ih =>
    rw [revTo, BitVec.getLsbD_shiftConcat]
    by_cases h : j = 0
    · subst h; simp
    · rw [ih (j - 1) (by omega)]
      have e1 : (j - 1 < k) ↔ (j < k + 1) := by omega
      have e2 : k - 1 - (j - 1) = k + 1 - 1 - j := by omega
      have e3 : decide (j - 1 < k) = decide (j < k + 1) := decide_eq_decide.2 e1
      rw [e2, e3]
      simp [hj, h]
theorem rev_bit (n : BitVec 64) (j : Nat) (hj : j < 64) : (rev n).getLsbD j = n.getLsbD (63 - j) := by
  rw [rev, revTo_bit n 64 j hj]; simp [hj]
theorem rev_rev (n : BitVec 64) : rev (rev n) = n := by
  apply BitVec.eq_of_getLsbD_eq; intro i hi
  rw [rev_bit _ _ hi, rev_bit _ _ (by omega)]; congr 1; omega
theorem rev_xor (a b : BitVec 64) : rev (a ^^^ b) = rev a ^^^ rev b := by
  apply BitVec.eq_of_getLsbD_eq; intro i hi
  rw [rev_bit _ _ hi, BitVec.getLsbD_xor, BitVec.getLsbD_xor, rev_bit _ _ hi, rev_bit _ _ hi]
theorem rev_zero : rev 0#64 = 0#64 := by
  apply BitVec.eq_of_getLsbD_eq; intro i hi
  rw [rev_bit _ _ hi]; simp
theorem rev_poly : rev poly = P := by decide +kernel
/-- a rest with one coefficient more behind it -/
def refStep (r : BitVec 64) (c : Bool) : BitVec 64 := if r.getLsbD 63 then r.shiftConcat c ^^^ poly else r.shiftConcat c
theorem rev_shift (r : BitVec 64) (c : Bool) : rev (r.shiftConcat c) = (rev r >>> 1) ^^^ topW c := by
  apply BitVec.eq_of_getLsbD_eq; intro i hi
  rw [rev_bit _ _ hi, BitVec.getLsbD_shiftConcat, BitVec.getLsbD_xor, BitVec.getLsbD_ushiftRight]
  by_cases h : i = 63
  · subst h
    rw [BitVec.getLsbD_of_ge (rev r) _ (by omega)]
    cases c
    · simp [topW]
    · simp only [topW, if_true]; rw [one_bit 63 63 (by omega)]; simp
  · rw [rev_bit _ _ (by omega)]
    have : (topW c).getLsbD i = false := by
      unfold topW; split
      · rw [one_bit 63 i hi]; simp [h]
      · simp
    rw [this, Bool.xor_false]
    have e : 63 - i ≠ 0 := by omega
    rw [show 63 - (1 + i) = 63 - i - 1 by omega]
    simp [e]; omega
theorem rev_step (r : BitVec 64) (c : Bool) : rev (refStep r c) = turn (rev r) ^^^ topW c := by
  have h0 : (rev r).getLsbD 0 = r.getLsbD 63 := rev_bit r 0 (by omega)
  unfold refStep turn
  rw [h0]
  cases r.getLsbD 63
  · simp [rev_shift]
  · simp only [if_true]; rw [rev_xor, rev_shift, rev_poly]; ac_rfl
/-- the rest of so many coefficients -/
def refRest (g : Nat → Bool) : Nat → BitVec 64
  | 0 => 0#64
  | n + 1 => refStep (refRest g n) (g n)
theorem rev_rest (g : Nat → Bool) (n : Nat) : rev (refRest g n) = fed g n := by
  induction n with
  | zero => exact rev_zero
  | succ n ih => rw [refRest, rev_step, ih, fed]
/-- the coefficient that More's division takes -/
def coef (l : List UInt8) (state : BitVec 64) (i : Nat) : Bool := if i < 64 then bitAt l i ^^ state.getLsbD i else bitAt l i
theorem ref_more (l : List UInt8) (s : BitVec 64) : ~~~ rev (refRest (coef l (~~~ s)) (8 * l.length + 64)) = more s l := by
  rw [rev_rest, fed_crc l (~~~ s)]
  · rfl
  · intro i hi; simp [coef, hi]
  · intro i hi; unfold coef; rw [if_neg (by omega)]

/-- times: Horner, from the highest coefficient down to the k-th -/
def timesTo (a b : BitVec 64) : Nat → BitVec 64
  | 0 => 0#64
  | k + 1 => if b.getLsbD (63 - k) then refStep (timesTo a b k) false ^^^ a else refStep (timesTo a b k) false
def times (a b : BitVec 64) : BitVec 64 := timesTo a b 64
/-- what a rest does, the bits turned round -/
def act (b v : BitVec 64) : Nat → BitVec 64
  | 0 => 0#64
  | k + 1 => act b v k ^^^ (if b.getLsbD k then turns k v else 0#64)
def acts (b v : BitVec 64) : BitVec 64 := act b v 64
theorem act_xor_left (b c v : BitVec 64) (k : Nat) : act (b ^^^ c) v k = act b v k ^^^ act c v k := by
  induction k with
  | zero => simp [act]
  | succ k ih =>
    rw [act, act, act, ih, BitVec.getLsbD_xor]
    generalize turns k v = t
    cases b.getLsbD k <;> cases c.getLsbD k <;> simp
    · ac_rfl
    · ac_rfl
    · rw [show act b v k ^^^ t ^^^ (act c v k ^^^ t) = t ^^^ (t ^^^ (act b v k ^^^ act c v k)) by ac_rfl, xor_self_left]
theorem act_xor_right (b v u : BitVec 64) (k : Nat) : act b (v ^^^ u) k = act b v k ^^^ act b u k := by
  induction k with
  | zero => simp [act]
  | succ k ih =>
    rw [act, act, act, ih]
    cases b.getLsbD k
    · simp
    · simp only [if_true]; rw [turns_xor]; ac_rfl
theorem act_zero_left (v : BitVec 64) (k : Nat) : act 0#64 v k = 0#64 := by
  induction k with
  | zero => rfl
  | succ k ih => rw [act, ih]; simp
theorem act_zero_right (b : BitVec 64) (k : Nat) : act b 0#64 k = 0#64 := by
  induction k with
  | zero => rfl
  | succ k ih => rw [act, ih, turns_zero]; simp
theorem turns_turn (k : Nat) (v : BitVec 64) : turns k (turn v) = turn (turns k v) := by
  have := turns_add k 1 v
  rw [show turn v = turns 1 v from rfl, ← this, Nat.add_comm, turns_add]; rfl
theorem act_turn (b v : BitVec 64) (k : Nat) : act b (turn v) k = turn (act b v k) := by
  induction k with
  | zero => rw [act, act, turn_zero]
  | succ k ih =>
    rw [act, act, ih, turn_xor, turns_turn]
    cases b.getLsbD k <;> simp [turn_zero]
theorem act_turns (b v : BitVec 64) (n k : Nat) : act b (turns n v) k = turns n (act b v k) := by
  induction n with
  | zero => rfl
  | succ n ih => rw [turns, act_turn, ih]; rfl
theorem top_turns (j : Nat) (hj : j < 64) : (1#64 <<< j) = turns (63 - j) (1#64 <<< 63) := by
  have h : ∀ k, k < 64 → turns k (1#64 <<< 63) = 1#64 <<< (63 - k) := by
    intro k hk
    induction k with
    | zero => rfl
    | succ k ih =>
      rw [turns, ih (by omega), turn_even _ (by rw [one_bit _ _ (by omega)]; simp; omega)]
      apply BitVec.eq_of_getLsbD_eq; intro i hi
      rw [BitVec.getLsbD_ushiftRight, one_bit _ i hi]
      by_cases h : 1 + i < 64
      · rw [one_bit _ _ h, decide_eq_decide]; omega
      · rw [BitVec.getLsbD_of_ge _ _ (by omega)]; simp; omega
  rw [h _ (by omega)]; congr 1; omega
theorem top_64 : turns 64 (1#64 <<< 63) = acts poly (1#64 <<< 63) := by decide +kernel
theorem gather_act (f : Nat → Bool) (k : Nat) (hk : k ≤ 64) : turns 64 (gather f k) = acts poly (gather f k) := by
  induction k with
  | zero => rw [gather, turns_zero]; unfold acts; rw [act_zero_right]
  | succ k ih =>
    rw [gather, turns_xor, ih (by omega)]
    unfold acts
    rw [act_xor_right]
    congr 1
    cases f k
    · simp [turns_zero, act_zero_right]
    · simp only [if_true]
      rw [top_turns k (by omega), act_turns, ← turns_add, Nat.add_comm, turns_add]
      exact congrArg _ top_64
theorem turns_64 (v : BitVec 64) : turns 64 v = acts poly v := by
  have := gather_act v.getLsbD 64 (by omega)
  rwa [gather_self] at this
theorem act_shift (r v : BitVec 64) (k : Nat) (hk : k < 64) : act (r.shiftConcat false) v (k + 1) = turn (act r v k) := by
  induction k with
  | zero => simp [act, turn_zero]
  | succ k ih =>
    rw [act, ih (by omega), act, turn_xor]
    congr 1
    rw [BitVec.getLsbD_shiftConcat]
    have : (k + 1 == 0) = false := by simp
    simp only [hk, decide_true, Bool.true_and]
    cases h : r.getLsbD k <;> simp [h, turns, turn_zero]
theorem acts_step (r v : BitVec 64) : acts (refStep r false) v = turn (acts r v) := by
  have h1 : acts (r.shiftConcat false) v ^^^ (if r.getLsbD 63 then turns 64 v else 0#64) = turn (acts r v) := by
    unfold acts
    rw [act_shift r v 63 (by omega)]
    conv => rhs; rw [act, turn_xor]
    congr 1
    cases r.getLsbD 63 <;> simp [turns, turn_zero]
  unfold refStep
  rw [← h1]
  cases r.getLsbD 63
  · simp
  · simp only [if_true]
    unfold acts
    rw [act_xor_left]
    congr 1
    exact (turns_64 v).symm
theorem acts_timesTo (a b v : BitVec 64) (k : Nat) (hk : k ≤ 64) : turns (64 - k) (acts (timesTo a b k) v) ^^^ act b (acts a v) (64 - k) = act b (acts a v) 64 := by
  induction k with
  | zero => simp [timesTo, acts, act_zero_left, turns_zero]
  | succ k ih =>
    rw [← ih (by omega)]
    have e : 64 - k = 64 - (k + 1) + 1 := by omega
    rw [e, act]
    have hs : acts (timesTo a b (k + 1)) v = turn (acts (timesTo a b k) v) ^^^ (if b.getLsbD (64 - (k + 1)) then acts a v else 0#64) := by
      rw [timesTo, show 63 - k = 64 - (k + 1) by omega]
      cases b.getLsbD (64 - (k + 1))
      · simp [acts_step]
      · simp only [if_true]
        rw [← acts_step]; unfold acts; rw [act_xor_left]
    rw [hs, turns_xor, turns_turn, turns]
    cases b.getLsbD (64 - (k + 1))
    · simp [turns_zero]
    · simp only [if_true]; ac_rfl
theorem acts_times (a b v : BitVec 64) : acts (times a b) v = acts b (acts a v) := by
  have := acts_timesTo a b v 64 (by omega)
  simp only [Nat.sub_self, turns, act, BitVec.xor_zero] at this
  exact this
theorem rev_timesTo (a b : BitVec 64) (k : Nat) (hk : k ≤ 64) : turns (64 - k) (rev (timesTo a b k)) ^^^ act b (rev a) (64 - k) = act b (rev a) 64 := by
  induction k with
  | zero => simp [timesTo, rev_zero, turns_zero]
  | succ k ih =>
    rw [← ih (by omega)]
    have e : 64 - k = 64 - (k + 1) + 1 := by omega
    rw [e, act]
    have hs : rev (timesTo a b (k + 1)) = turn (rev (timesTo a b k)) ^^^ (if b.getLsbD (64 - (k + 1)) then rev a else 0#64) := by
      rw [timesTo, show 63 - k = 64 - (k + 1) by omega]
      cases b.getLsbD (64 - (k + 1))
      · simp [rev_step, topW]
      · simp only [if_true]
        rw [rev_xor, rev_step]; simp [topW]
    rw [hs, turns_xor, turns_turn, turns]
    cases b.getLsbD (64 - (k + 1))
    · simp [turns_zero]
    · simp only [if_true]; ac_rfl
theorem rev_times (a b : BitVec 64) : rev (times a b) = acts b (rev a) := by
  have := rev_timesTo a b 64 (by omega)
  simp only [Nat.sub_self, turns, act, BitVec.xor_zero] at this
  exact this
theorem acts_256 (v : BitVec 64) : acts 256#64 v = turns 8 v := by
  have h : ∀ k, k ≤ 64 → act 256#64 v k = if 8 < k then turns 8 v else 0#64 := by
    intro k hk
    induction k with
    | zero => rfl
    | succ k ih =>
      rw [act, ih (by omega), show (256#64) = 1#64 <<< 8 by decide, one_bit 8 k (by omega)]
      by_cases h1 : k = 8
      · subst h1; simp
      · by_cases h2 : 8 < k
        · have : 8 < k + 1 := by omega
          simp [h1, h2, this]
        · have : ¬ 8 < k + 1 := by omega
          simp [h1, h2, this]
  rw [acts, h 64 (by omega)]; rfl
/-- 'by' does what so many bits do -/
def Does (m : Nat) (b : BitVec 64) : Prop := ∀ v, acts b v = turns m v
theorem does_256 : Does 8 256#64 := acts_256
theorem does_square (m : Nat) (b : BitVec 64) (h : Does m b) : Does (2 * m) (times b b) := by
  intro v; rw [acts_times, h, h, ← turns_add]; congr 1; omega
theorem does_times (m : Nat) (a b : BitVec 64) (h : Does m b) : rev (times a b) = turns m (rev a) := by rw [rev_times, h]
/-- sum's rows: what so many bits make of each bit of a state -/
def Rows (m : Nat) (z : Nat → BitVec 64) : Prop := ∀ i, i < 64 → z i = turns m (1#64 <<< i)
theorem rows_pick (m : Nat) (z : Nat → BitVec 64) (s : BitVec 64) (h : Rows m z) : pick z s 64 = turns m s := pick_all m z s h
theorem rows_twice (m : Nat) (z : Nat → BitVec 64) (h : Rows m z) : Rows (2 * m) (fun i => pick z (z i) 64) := by
  intro i hi
  show pick z (z i) 64 = _
  rw [rows_pick m z _ h, h i hi, ← turns_add]; congr 1; omega

/-! ## the table of four bits -/
theorem low_four (s : BitVec 64) : turns 4 s = (s >>> 4) ^^^ turns 4 (s &&& 15#64) := by
  have e : s = (s &&& ~~~ 15#64) ^^^ (s &&& 15#64) := by
    apply BitVec.eq_of_getLsbD_eq; intro i hi
    rw [BitVec.getLsbD_xor, BitVec.getLsbD_and, BitVec.getLsbD_and, BitVec.getLsbD_not]
    cases s.getLsbD i <;> cases (15#64).getLsbD i <;> simp [hi]
  have hz : ∀ i, i < 4 → (s &&& ~~~ 15#64).getLsbD i = false := by
    intro i hi
    rw [BitVec.getLsbD_and]
    have : (~~~ 15#64).getLsbD i = false := by
      rcases (by omega : i = 0 ∨ i = 1 ∨ i = 2 ∨ i = 3) with rfl | rfl | rfl | rfl <;> decide
    rw [this, Bool.and_false]
  have hk : ∀ k, k ≤ 4 → turns k (s &&& ~~~ 15#64) = (s &&& ~~~ 15#64) >>> k := by
    intro k hk
    induction k with
    | zero => simp [turns]
    | succ k ih =>
      rw [turns, ih (by omega), turn_even _ (by rw [BitVec.getLsbD_ushiftRight]; exact hz _ (by omega)), BitVec.shiftRight_add]
  have h4 : (s &&& ~~~ 15#64) >>> 4 = s >>> 4 := by
    apply BitVec.eq_of_getLsbD_eq; intro i hi
    rw [BitVec.getLsbD_ushiftRight, BitVec.getLsbD_ushiftRight, BitVec.getLsbD_and]
    by_cases h : 4 + i < 64
    · have : (~~~ 15#64).getLsbD (4 + i) = true := by
        rw [BitVec.getLsbD_not]
        have : (15#64).getLsbD (4 + i) = false := by
          rw [BitVec.getLsbD_ofNat, Nat.testBit_lt_two_pow]
          · simp
          · exact Nat.lt_of_lt_of_le (show 15 < 2 ^ 4 by decide) (Nat.pow_le_pow_right (by omega) (by omega))
        rw [this]; simp [h]
      rw [this, Bool.and_true]
    · rw [BitVec.getLsbD_of_ge _ _ (by omega)]; simp
  conv => lhs; rw [e, turns_xor, hk 4 (by omega), h4]
theorem byte_four (s : BitVec 64) (x : UInt8) : byteStep s x = turns 4 (turns 4 (s ^^^ wide x)) := by rw [← turns_add]; rfl

/-! ## P2.4, P2.3 -/
def xors (a b : List UInt8) : List UInt8 := List.zipWith (· ^^^ ·) a b
theorem wide_xor (x y : UInt8) : wide (x ^^^ y) = wide x ^^^ wide y := by
  apply BitVec.eq_of_getLsbD_eq; intro i hi
  rw [BitVec.getLsbD_xor, wide_bit _ _ hi, wide_bit _ _ hi, wide_bit _ _ hi, UInt8.toNat_xor, Nat.testBit_xor]
theorem crc_xors (s t : BitVec 64) (a b : List UInt8) (h : a.length = b.length) : crc (s ^^^ t) (xors a b) = crc s a ^^^ crc t b := by
  induction a generalizing s t b with
  | nil => cases b with
    | nil => rfl
    | cons y b => simp at h
  | cons x a ih => cases b with
    | nil => simp at h
    | cons y b =>
      simp only [xors, List.zipWith_cons_cons, crc, List.foldl_cons] at *
      rw [← ih _ _ b (by simpa using h)]
      congr 1
      unfold byteStep
      rw [wide_xor, ← turns_xor]; congr 1; ac_rfl
theorem sum_three (a b c : List UInt8) (h1 : a.length = b.length) (h2 : b.length = c.length) : sumOf (xors (xors a b) c) = sumOf a ^^^ sumOf b ^^^ sumOf c := by
  unfold sumOf more
  have e : ~~~ 0#64 = (~~~ 0#64) ^^^ (~~~ 0#64) ^^^ (~~~ 0#64) := by rw [BitVec.xor_assoc, xor_self_left]
  conv => lhs; rw [e]
  rw [crc_xors _ _ _ _ (by simp [xors]; omega), crc_xors _ _ _ _ h1]
  rw [not_xor (crc _ a), not_xor (crc _ b), not_xor (crc _ c), not_xor (_ ^^^ _ ^^^ _)]
  generalize crc (~~~ 0#64) a = x
  generalize crc (~~~ 0#64) b = y
  generalize crc (~~~ 0#64) c = z
  generalize ~~~ 0#64 = n
  rw [show n ^^^ x ^^^ (n ^^^ y) ^^^ (n ^^^ z) = (n ^^^ n) ^^^ (n ^^^ (x ^^^ y ^^^ z)) by ac_rfl]; simp
theorem sum_differ (a b : List UInt8) (h : a.length = b.length) : sumOf a = sumOf b ↔ crc 0#64 (xors a b) = 0#64 := by
  have e : crc 0#64 (xors a b) = crc (~~~ 0#64) a ^^^ crc (~~~ 0#64) b := by
    rw [← crc_xors _ _ _ _ h, BitVec.xor_self]
  rw [e]; unfold sumOf more
  constructor
  · intro h1
    have h2 : crc (~~~ 0#64) a = crc (~~~ 0#64) b := by
      have := congrArg (fun t => ~~~ t) h1; simpa using this
    rw [h2]; simp
  · intro h1
    have h2 : crc (~~~ 0#64) a = crc (~~~ 0#64) b := by
      have := congrArg (fun t => t ^^^ crc (~~~ 0#64) b) h1
      simp only [BitVec.xor_assoc] at this
      simpa using this
    rw [h2]
theorem direct_none (f : Nat → Bool) (n : Nat) (h : ∀ i, i < n → f i = false) : direct f 0#64 n = 0#64 := by
  induction n with
  | zero => rfl
  | succ n ih => rw [direct, ih (fun i hi => h i (by omega)), h n (by omega)]; decide
theorem burst (f : Nat → Bool) (n0 : Nat) (hhi : ∀ i, n0 + 64 ≤ i → f i = false) (hlo : ∀ i, i < n0 → f i = false) (k : Nat) :
    direct f 0#64 (n0 + k) ^^^ word f (n0 + k) = turns k (word f n0) := by
  induction k with
  | zero => rw [Nat.add_zero, direct_none f n0 hlo]; simp [turns]
  | succ k ih =>
    rw [turns, ← ih, ← Nat.add_assoc, direct, ← turn_word, hhi _ (by omega)]; simp [topW]
/-- bits that are turned within 64: the register behind any number of bits is not what follows there -/
theorem burst_told (f : Nat → Bool) (n0 i0 n : Nat) (hhi : ∀ i, n0 + 64 ≤ i → f i = false) (hlo : ∀ i, i < n0 → f i = false) (ht : f i0 = true) (hn : i0 < n + 64) :
    direct f 0#64 n ≠ word f n := by
  intro he
  have h1 : n0 ≤ i0 := by
    apply Nat.le_of_not_lt; intro hh; rw [hlo _ hh] at ht; exact absurd ht (by simp)
  have h2 : i0 < n0 + 64 := by
    apply Nat.lt_of_not_le; intro hh; rw [hhi _ hh] at ht; exact absurd ht (by simp)
  by_cases hc : n0 ≤ n
  · have hb := burst f n0 hhi hlo (n - n0)
    rw [show n0 + (n - n0) = n by omega, he] at hb
    have hz := turns_inj (n - n0) (word f n0) (by rw [← hb]; simp)
    have := word_bit f n0 (i0 - n0) (by omega)
    rw [hz, show n0 + (i0 - n0) = i0 by omega, ht] at this
    simp at this
  · rw [direct_none f n (fun i hi => hlo i (by omega))] at he
    have := word_bit f n (i0 - n) (by omega)
    rw [← he, show n + (i0 - n) = i0 by omega, ht] at this
    simp at this
end Crc
end Go.Proofs.Ytofhdehigfdmkaa
