/- PAGES: what a block's bytes are, and what bytes say: plain Lean. -/
import Derived.Test.YtofhdehigfdmkaaMath2
namespace Go.Proofs.Ytofhdehigfdmkaa
namespace Page
open Crc

/-- a list by a rule -/
def rl (n : Nat) (f : Nat → UInt8) : List UInt8 := (List.range n).map f
theorem rl_length (n : Nat) (f : Nat → UInt8) : (rl n f).length = n := by simp [rl]
theorem rl_get (n : Nat) (f : Nat → UInt8) (i : Nat) (hi : i < n) : (rl n f).getD i 0 = f i := by simp [rl, List.getD, hi]
theorem rl_succ (n : Nat) (f : Nat → UInt8) : rl (n + 1) f = rl n f ++ [f n] := by simp [rl, List.range_succ]
theorem list_ext (a b : List UInt8) (hl : a.length = b.length) (h : ∀ i, i < a.length → a.getD i 0 = b.getD i 0) : a = b := by
  apply List.ext_getElem? 
  intro i
  by_cases hi : i < a.length
  · have := h i hi
    have hi' : i < b.length := by omega
    simp only [List.getD_eq_getElem?_getD, List.getElem?_eq_getElem hi, List.getElem?_eq_getElem hi', Option.getD_some] at this
    rw [List.getElem?_eq_getElem hi, List.getElem?_eq_getElem hi', this]
  · rw [List.getElem?_eq_none (by omega), List.getElem?_eq_none (by omega)]
theorem rl_eq (n : Nat) (f : Nat → UInt8) (l : List UInt8) (hl : l.length = n) (h : ∀ i, i < n → f i = l.getD i 0) : rl n f = l :=
  list_ext _ _ (by rw [rl_length, hl]) fun i hi => by rw [rl_length] at hi; rw [rl_get n f i hi, h i hi]
theorem rl_congr (n : Nat) (f g : Nat → UInt8) (h : ∀ i, i < n → f i = g i) : rl n f = rl n g :=
  rl_eq n f _ (rl_length n g) fun i hi => by rw [h i hi, rl_get n g i hi]
theorem take_getD (l : List UInt8) (n i : Nat) (hi : i < n) : (l.take n).getD i 0 = l.getD i 0 := by simp [List.getD, hi]
theorem drop_getD (l : List UInt8) (n i : Nat) : (l.drop n).getD i 0 = l.getD (n + i) 0 := by simp [List.getD]

/-- the i-th of k bytes of a number, the highest first -/
def beB (v k i : Nat) : UInt8 := UInt8.ofNat (v / 256 ^ (k - 1 - i))
/-- what bytes say, the highest first -/
def toldN (l : List UInt8) : Nat := l.foldl (fun a x => 256 * a + x.toNat) 0
/-- the i-th of the bytes of a sum, the lowest first -/
def leB (s : BitVec 64) (i : Nat) : UInt8 := UInt8.ofNat (s.toNat / 256 ^ i)
theorem toldN_snoc (l : List UInt8) (x : UInt8) : toldN (l ++ [x]) = 256 * toldN l + x.toNat := by simp [toldN]
theorem snoc_of (l : List UInt8) (n : Nat) (h : l.length = n + 1) : ∃ m x, l = m ++ [x] ∧ m.length = n := by
  refine ⟨l.take n, l.getD n 0, ?_, by rw [List.length_take]; omega⟩
  have : l.take (n + 1) = l := List.take_of_length_le (by omega)
  conv => lhs; rw [← this, List.take_succ_eq_append_getElem (by omega)]
  simp [List.getD, show n < l.length by omega]
theorem toldN_lt (n : Nat) : ∀ l : List UInt8, l.length = n → toldN l < 256 ^ n := by
  induction n with
  | zero => intro l h; rw [List.eq_nil_of_length_eq_zero h]; decide
  | succ n ih =>
    intro l h
    obtain ⟨m, x, rfl, hm⟩ := snoc_of l n h
    have := ih m hm
    have := x.toNat_lt
    rw [toldN_snoc, Nat.pow_succ]
    omega
theorem be_told (n : Nat) : ∀ l : List UInt8, l.length = n → ∀ i, i < n → beB (toldN l) n i = l.getD i 0 := by
  induction n with
  | zero => intro l _ i hi; omega
  | succ n ih =>
    intro l h i hi
    obtain ⟨m, x, rfl, hm⟩ := snoc_of l n h
    have hx := x.toNat_lt
    rw [toldN_snoc]
    by_cases e : i = n
    · subst e
      unfold beB
      rw [show i + 1 - 1 - i = 0 by omega, Nat.pow_zero, Nat.div_one]
      have : (m ++ [x]).getD i 0 = x := by rw [← hm]; simp [List.getD]
      rw [this]
      apply UInt8.toNat_inj.1
      rw [UInt8.toNat_ofNat']
      omega
    · have hlt : i < n := by omega
      have := ih m hm i hlt
      rw [show (m ++ [x]).getD i 0 = m.getD i 0 by simp [List.getD, List.getElem?_append_left (show i < m.length by omega)], ← this]
      unfold beB
      rw [show n + 1 - 1 - i = (n - 1 - i) + 1 by omega, Nat.pow_succ, Nat.mul_comm _ 256, ← Nat.div_div_eq_div_mul]
      congr 2
      omega
theorem told_be (k : Nat) : ∀ v, v < 256 ^ k → toldN (rl k (beB v k)) = v := by
  induction k with
  | zero => intro v h; rw [Nat.pow_zero] at h; rw [show v = 0 by omega]; rfl
  | succ k ih =>
    intro v h
    rw [rl_succ, toldN_snoc]
    have h1 : rl k (beB v (k + 1)) = rl k (beB (v / 256) k) := rl_congr _ _ _ fun i hi => by
      unfold beB
      rw [show k + 1 - 1 - i = (k - 1 - i) + 1 by omega, Nat.pow_succ, Nat.mul_comm _ 256, ← Nat.div_div_eq_div_mul]
    rw [Nat.pow_succ] at h
    rw [h1, ih (v / 256) (by omega)]
    unfold beB
    rw [show k + 1 - 1 - k = 0 by omega, Nat.pow_zero, Nat.div_one, UInt8.toNat_ofNat']
    omega

/-- may a block have so many bytes? -/
def Sized (n : Int) : Prop := n = 512 ∨ n = 1024 ∨ n = 2048 ∨ n = 4096
/-- all bytes of a page but its sum -/
def dataF (kind num gen : Nat) (p : List UInt8) (i : Nat) : UInt8 :=
  if i = 0 then 66 else if i = 1 then 89 else if i = 2 then UInt8.ofNat kind else if i = 3 then 0 else if i < 8 then beB num 4 (i - 4) else if i < 16 then beB gen 8 (i - 8) else
  if i < 20 then beB p.length 4 (i - 16) else if i < 24 then 0 else if i < 24 + p.length then p.getD (i - 24) 0 else 0
def dataL (size kind num gen : Nat) (p : List UInt8) : List UInt8 := rl (size - 8) (dataF kind num gen p)
/-- a page -/
def pageF (size kind num gen : Nat) (p : List UInt8) (i : Nat) : UInt8 :=
  if i < size - 8 then dataF kind num gen p i else leB (sumOf (dataL size kind num gen p)) (i - (size - 8))
def pageL (size kind num gen : Nat) (p : List UInt8) : List UInt8 := rl size (pageF size kind num gen p)
theorem pageL_length (size kind num gen : Nat) (p : List UInt8) : (pageL size kind num gen p).length = size := rl_length _ _

/-! ## what bytes say -/
def numOf (b : List UInt8) : Nat := toldN ((b.drop 4).take 4)
def genOf (b : List UInt8) : Nat := toldN ((b.drop 8).take 8)
def longOf (b : List UInt8) : Nat := toldN ((b.drop 16).take 4)
def kindOf (b : List UInt8) : Nat := (b.getD 2 0).toNat
def loadOf (b : List UInt8) : List UInt8 := (b.drop 24).take (longOf b)
/-- is it a head? -/
def HeadOk (b : List UInt8) : Prop := Sized b.length ∧ b.getD 0 0 = 66 ∧ b.getD 1 0 = 89 ∧ b.getD 3 0 = 0 ∧ (∀ i, i < 4 → b.getD (20 + i) 0 = 0) ∧ 1 ≤ kindOf b ∧ kindOf b ≤ 5 ∧ numOf b < 65536 ∧ longOf b ≤ b.length - 32 ∧
  ∀ i, 24 + longOf b ≤ i → i < b.length - 8 → b.getD i 0 = 0
theorem sized_512 {n : Nat} (h : Sized n) : 512 ≤ n ∧ n ≤ 4096 := by unfold Sized at h; omega
theorem numOf_lt (b : List UInt8) (h : 8 ≤ b.length) : numOf b < 4294967296 := toldN_lt 4 _ (by simp; omega)
theorem longOf_lt (b : List UInt8) (h : 20 ≤ b.length) : longOf b < 4294967296 := toldN_lt 4 _ (by simp; omega)
theorem genOf_lt (b : List UInt8) (h : 16 ≤ b.length) : genOf b < 18446744073709551616 := toldN_lt 8 _ (by simp; omega)
theorem part_getD (b : List UInt8) (o n i : Nat) (hi : i < n) : ((b.drop o).take n).getD i 0 = b.getD (o + i) 0 := by rw [take_getD _ _ _ hi, drop_getD]
/-- the head of what is told is laid down again just so -/
theorem data_of_head (b : List UInt8) (h : HeadOk b) (i : Nat) (hi : i < b.length - 8) : dataF (kindOf b) (numOf b) (genOf b) (loadOf b) i = b.getD i 0 := by
  obtain ⟨hs, h0, h1, h3, h20, hk1, hk5, hn, hl, hz⟩ := h
  have hb := sized_512 hs
  have hll : (loadOf b).length = longOf b := by unfold loadOf; simp; omega
  unfold dataF
  by_cases e0 : i = 0
  · subst e0; rw [if_pos rfl, h0]
  rw [if_neg e0]
  by_cases e1 : i = 1
  · subst e1; rw [if_pos rfl, h1]
  rw [if_neg e1]
  by_cases e2 : i = 2
  · subst e2; rw [if_pos rfl]; unfold kindOf; simp
  rw [if_neg e2]
  by_cases e3 : i = 3
  · subst e3; rw [if_pos rfl, h3]
  rw [if_neg e3]
  by_cases e4 : i < 8
  · rw [if_pos e4]
    unfold numOf
    rw [be_told 4 _ (by simp; omega) (i - 4) (by omega), part_getD b 4 4 (i - 4) (by omega)]
    congr 1; omega
  rw [if_neg e4]
  by_cases e5 : i < 16
  · rw [if_pos e5]
    unfold genOf
    rw [be_told 8 _ (by simp; omega) (i - 8) (by omega), part_getD b 8 8 (i - 8) (by omega)]
    congr 1; omega
  rw [if_neg e5]
  by_cases e6 : i < 20
  · rw [if_pos e6, hll]
    unfold longOf
    rw [be_told 4 _ (by simp; omega) (i - 16) (by omega), part_getD b 16 4 (i - 16) (by omega)]
    congr 1; omega
  rw [if_neg e6]
  by_cases e7 : i < 24
  · rw [if_pos e7, show i = 20 + (i - 20) by omega, h20 _ (by omega)]
  rw [if_neg e7, hll]
  by_cases e8 : i < 24 + longOf b
  · rw [if_pos e8]
    unfold loadOf
    rw [part_getD b 24 _ (i - 24) (by omega)]
    congr 1; omega
  · rw [if_neg e8, hz i (by omega) hi]

theorem getD_over (l : List UInt8) (i : Nat) (h : l.length ≤ i) : l.getD i 0 = 0 := by simp [List.getD, List.getElem?_eq_none h]
/-- what a page's head says -/
structure Fits (size kind num gen : Nat) (p : List UInt8) : Prop where
  sized : Sized size
  k1 : 1 ≤ kind
  k5 : kind ≤ 5
  num : num < 65536
  gen : gen < 18446744073709551616
  long : p.length ≤ size - 32
section
variable {size kind num gen : Nat} {p : List UInt8}
theorem data_get (h : Fits size kind num gen p) (b : List UInt8) (hb : b.length = size) (hd : ∀ i, i < size - 8 → b.getD i 0 = dataF kind num gen p i) :
    kindOf b = kind ∧ numOf b = num ∧ genOf b = gen ∧ longOf b = p.length ∧ loadOf b = p := by
  have hs := sized_512 h.sized
  have hpl := h.long
  have h2 : kindOf b = kind := by
    unfold kindOf
    rw [hd 2 (by omega)]
    have h1 := h.k5
    simp only [dataF]
    simp
    omega
  have h4 : numOf b = num := by
    unfold numOf
    rw [← told_be 4 num (by have := h.num; omega)]
    congr 1
    refine (rl_eq 4 _ _ (by simp; omega) fun i hi => ?_).symm
    rw [part_getD b 4 4 i hi, hd _ (by omega)]
    unfold dataF
    rw [if_neg (by omega), if_neg (by omega), if_neg (by omega), if_neg (by omega), if_pos (by omega)]
    congr 1; omega
  have h8 : genOf b = gen := by
    unfold genOf
    rw [← told_be 8 gen (by have := h.gen; omega)]
    congr 1
    refine (rl_eq 8 _ _ (by simp; omega) fun i hi => ?_).symm
    rw [part_getD b 8 8 i hi, hd _ (by omega)]
    unfold dataF
    rw [if_neg (by omega), if_neg (by omega), if_neg (by omega), if_neg (by omega), if_neg (by omega), if_pos (by omega)]
    congr 1; omega
  have h16 : longOf b = p.length := by
    unfold longOf
    rw [← told_be 4 p.length (by omega)]
    congr 1
    refine (rl_eq 4 _ _ (by simp; omega) fun i hi => ?_).symm
    rw [part_getD b 16 4 i hi, hd _ (by omega)]
    unfold dataF
    rw [if_neg (by omega), if_neg (by omega), if_neg (by omega), if_neg (by omega), if_neg (by omega), if_neg (by omega), if_pos (by omega)]
    congr 1; omega
  refine ⟨h2, h4, h8, h16, ?_⟩
  unfold loadOf
  rw [h16]
  refine list_ext _ _ (by simp; omega) fun i hi => ?_
  have hi' : i < p.length := by simp at hi; omega
  rw [part_getD b 24 _ i hi', hd _ (by omega)]
  unfold dataF
  rw [if_neg (by omega), if_neg (by omega), if_neg (by omega), if_neg (by omega), if_neg (by omega), if_neg (by omega), if_neg (by omega), if_neg (by omega), if_pos (by omega)]
  congr 1; omega
theorem head_of_data (h : Fits size kind num gen p) (b : List UInt8) (hb : b.length = size) (hd : ∀ i, i < size - 8 → b.getD i 0 = dataF kind num gen p i) : HeadOk b := by
  obtain ⟨e1, e2, e3, e4, _⟩ := data_get h b hb hd
  have hs := sized_512 h.sized
  have hpl := h.long
  refine ⟨by rw [hb]; exact h.sized, by rw [hd 0 (by omega)]; rfl, by rw [hd 1 (by omega)]; rfl, by rw [hd 3 (by omega)]; rfl, ?_, by rw [e1]; exact h.k1, by rw [e1]; exact h.k5, by rw [e2]; exact h.num, by rw [e4, hb]; exact hpl, ?_⟩
  · intro i hi
    rw [hd _ (by omega)]
    unfold dataF
    rw [if_neg (by omega), if_neg (by omega), if_neg (by omega), if_neg (by omega), if_neg (by omega), if_neg (by omega), if_neg (by omega), if_pos (by omega)]
  · intro i h1 h2
    rw [e4] at h1
    rw [hd _ (by omega)]
    unfold dataF
    rw [if_neg (by omega), if_neg (by omega), if_neg (by omega), if_neg (by omega), if_neg (by omega), if_neg (by omega), if_neg (by omega), if_neg (by omega), if_neg (by omega)]
end
/-- does the sum stand at the end? -/
def SumOk (b : List UInt8) : Prop := ∀ i, i < 8 → b.getD (b.length - 8 + i) 0 = leB (sumOf (b.take (b.length - 8))) i
/-- a head whose sum is right is a page -/
theorem page_of (b : List UInt8) (h : HeadOk b) (hs : SumOk b) : b = pageL b.length (kindOf b) (numOf b) (genOf b) (loadOf b) := by
  have hb := sized_512 h.1
  have ht : b.take (b.length - 8) = dataL b.length (kindOf b) (numOf b) (genOf b) (loadOf b) := by
    refine (rl_eq _ _ _ (by simp) fun i hi => ?_).symm
    rw [take_getD _ _ _ hi, data_of_head b h i hi]
  refine (rl_eq _ _ _ rfl fun i hi => ?_).symm
  unfold pageF
  by_cases e : i < b.length - 8
  · rw [if_pos e, data_of_head b h i e]
  · rw [if_neg e, ← ht, show i = b.length - 8 + (i - (b.length - 8)) by omega, hs _ (by omega)]
    congr 1; omega
theorem page_data (size kind num gen : Nat) (p : List UInt8) (i : Nat) (hi : i < size - 8) : (pageL size kind num gen p).getD i 0 = dataF kind num gen p i := by
  rw [pageL, rl_get _ _ _ (by omega), pageF, if_pos hi]
theorem page_take (size kind num gen : Nat) (p : List UInt8) : (pageL size kind num gen p).take (size - 8) = dataL size kind num gen p := by
  refine (rl_eq _ _ _ (by rw [List.length_take, pageL_length]; omega) fun i hi => ?_).symm
  rw [take_getD _ _ _ hi, page_data _ _ _ _ _ _ hi]
theorem page_sum (size kind num gen : Nat) (p : List UInt8) (h8 : 8 ≤ size) : SumOk (pageL size kind num gen p) := by
  intro i hi
  rw [pageL_length, page_take]
  rw [pageL, rl_get _ _ _ (by omega), pageF, if_neg (by omega)]
  congr 1; omega
end Page
end Go.Proofs.Ytofhdehigfdmkaa
