/- PLAIN MATH of spaces: words of bits, how many are used, the least free one, runs. No program. -/
namespace Go.Proofs.YtghakgepchlpgaaDoor.Spc

def upd (f : Nat → Bool) (n : Nat) (b : Bool) : Nat → Bool := fun k => if k = n then b else f k
theorem upd_same (f : Nat → Bool) (n : Nat) (b : Bool) : upd f n b n = b := by simp [upd]
theorem upd_other (f : Nat → Bool) {n k : Nat} (b : Bool) (h : k ≠ n) : upd f n b k = f k := by simp [upd, h]
/-- how many of the first N are used -/
def cnt (f : Nat → Bool) : Nat → Nat
  | 0 => 0
  | N + 1 => cnt f N + if f N then 1 else 0
theorem cnt_le (f : Nat → Bool) : ∀ N, cnt f N ≤ N
  | 0 => Nat.le_refl _
  | N + 1 => by have := cnt_le f N; unfold cnt; split <;> omega
theorem cnt_congr {f g : Nat → Bool} : ∀ {N : Nat}, (∀ n, n < N → f n = g n) → cnt f N = cnt g N
  | 0, _ => rfl
  | N + 1, h => by simp only [cnt]; rw [cnt_congr (fun n hn => h n (by omega)), h N (by omega)]
theorem cnt_set (f : Nat → Bool) (n : Nat) (h : f n = false) : ∀ N, n < N → cnt (upd f n true) N = cnt f N + 1
  | 0, hn => by omega
  | N + 1, hn => by
    simp only [cnt]
    by_cases e : n = N
    · subst e
      rw [upd_same, h, cnt_congr (fun k hk => upd_other f true (by omega : k ≠ n))]
      simp
    · rw [cnt_set f n h N (by omega), upd_other f true (fun h => e h.symm)]
      omega
theorem cnt_clear (f : Nat → Bool) (n : Nat) (h : f n = true) : ∀ N, n < N → cnt (upd f n false) N + 1 = cnt f N
  | 0, hn => by omega
  | N + 1, hn => by
    simp only [cnt]
    by_cases e : n = N
    · subst e
      rw [upd_same, h, cnt_congr (fun k hk => upd_other f false (by omega : k ≠ n))]
      simp
    · have := cnt_clear f n h N (by omega)
      rw [upd_other f false (fun h => e h.symm)]
      omega
theorem cnt_all (f : Nat → Bool) : ∀ N, (∀ n, n < N → f n = true) → cnt f N = N
  | 0, _ => rfl
  | N + 1, h => by simp only [cnt]; rw [cnt_all f N (fun n hn => h n (by omega)), h N (by omega)]; rfl
theorem cnt_none (f : Nat → Bool) : ∀ N, (∀ n, n < N → f n = false) → cnt f N = 0
  | 0, _ => rfl
  | N + 1, h => by simp only [cnt]; rw [cnt_none f N (fun n hn => h n (by omega)), h N (by omega)]; rfl
theorem cnt_full (f : Nat → Bool) : ∀ N, cnt f N = N → ∀ n, n < N → f n = true
  | 0, _, n, hn => by omega
  | N + 1, h, n, hn => by
    simp only [cnt] at h
    have hl := cnt_le f N
    by_cases e : f N = true
    · rw [if_pos e] at h
      by_cases e2 : n = N
      · rw [e2, e]
      · exact cnt_full f N (by omega) n (by omega)
    · rw [if_neg e] at h; omega
/-- the first ones -/
def first (u : Nat) : Nat → Bool := fun n => decide (n < u)
theorem first_succ (u : Nat) : upd (first u) u true = first (u + 1) := by
  funext k
  unfold upd first
  by_cases e : k = u
  · subst e; simp
  · rw [if_neg e]; congr 1; exact propext ⟨fun h => by omega, fun h => by omega⟩
theorem cnt_first (u : Nat) : ∀ N, u ≤ N → cnt (first u) N = u
  | 0, h => by simp [cnt]; omega
  | N + 1, h => by
    simp only [cnt]
    by_cases e : u = N + 1
    · subst e
      rw [cnt_all _ _ (fun n hn => by simp [first]; omega)]; simp [first]
    · rw [cnt_first u N (by omega)]
      have : ¬ N < u := by omega
      simp [first, this]
/-- a bit of words -/
def bit (ws : Nat → BitVec 64) (n : Nat) : Bool := (ws (n / 64)).getLsbD (n % 64)
def updW (ws : Nat → BitVec 64) (i : Nat) (x : BitVec 64) : Nat → BitVec 64 := fun k => if k = i then x else ws k
theorem bit_set (ws : Nat → BitVec 64) (n : Nat) : bit (updW ws (n / 64) (ws (n / 64) ||| 1#64 <<< (n % 64))) = upd (bit ws) n true := by
  funext k
  unfold bit updW upd
  have hm : n % 64 < 64 := Nat.mod_lt _ (by decide)
  have hk : k % 64 < 64 := Nat.mod_lt _ (by decide)
  by_cases e : k = n
  · subst e; simp [hm]
  · rw [if_neg e]
    by_cases e2 : k / 64 = n / 64
    · show _ = (ws (k / 64)).getLsbD (k % 64)
      rw [if_pos e2, e2, BitVec.getLsbD_or, BitVec.getLsbD_shiftLeft]
      by_cases h : k % 64 < n % 64
      · simp [h]
      · have h3 : k % 64 - n % 64 ≠ 0 := by omega
        simp [h, h3, BitVec.getLsbD_one]
    · rw [if_neg e2]
theorem bit_clear (ws : Nat → BitVec 64) (n : Nat) : bit (updW ws (n / 64) (ws (n / 64) &&& ~~~ (1#64 <<< (n % 64)))) = upd (bit ws) n false := by
  funext k
  unfold bit updW upd
  have hm : n % 64 < 64 := Nat.mod_lt _ (by decide)
  have hk : k % 64 < 64 := Nat.mod_lt _ (by decide)
  by_cases e : k = n
  · subst e; simp [hm]
  · rw [if_neg e]
    by_cases e2 : k / 64 = n / 64
    · show _ = (ws (k / 64)).getLsbD (k % 64)
      rw [if_pos e2, e2, BitVec.getLsbD_and, BitVec.getLsbD_not, BitVec.getLsbD_shiftLeft]
      by_cases h : k % 64 < n % 64
      · simp [h, hk]
      · have h3 : k % 64 - n % 64 ≠ 0 := by omega
        simp [h, h3, hk, BitVec.getLsbD_one]
    · rw [if_neg e2]
/-- the used ones as runs, of the first N -/
def runs (f : Nat → Bool) : Nat → List (Int × Int)
  | 0 => []
  | n + 1 => if f n then
      (if 0 < n ∧ f (n - 1) then (runs f n).set ((runs f n).length - 1) (((runs f n).getD ((runs f n).length - 1) (0, 0)).1, ((runs f n).getD ((runs f n).length - 1) (0, 0)).2 + 1)
       else runs f n ++ [((n : Int), 1)])
    else runs f n
theorem runs_zero (f : Nat → Bool) : runs f 0 = [] := rfl
theorem runs_no (f : Nat → Bool) (n : Nat) (h : f n = false) : runs f (n + 1) = runs f n := by simp [runs, h]
theorem runs_more (f : Nat → Bool) (n : Nat) (h : f n = true) (h0 : 0 < n) (h1 : f (n - 1) = true) : runs f (n + 1) = (runs f n).set ((runs f n).length - 1) (((runs f n).getD ((runs f n).length - 1) (0, 0)).1, ((runs f n).getD ((runs f n).length - 1) (0, 0)).2 + 1) := by
  simp [runs, h, h0, h1]
theorem runs_new (f : Nat → Bool) (n : Nat) (h : f n = true) (h0 : n = 0 ∨ f (n - 1) = false) : runs f (n + 1) = runs f n ++ [((n : Int), 1)] := by
  have : ¬ (0 < n ∧ f (n - 1) = true) := by
    rintro ⟨a, b⟩
    rcases h0 with h0 | h0
    · omega
    · rw [b] at h0; cases h0
  simp [runs, h, this]
theorem runs_len (f : Nat → Bool) : ∀ n, (runs f n).length ≤ n
  | 0 => by simp [runs]
  | n + 1 => by
    have := runs_len f n
    unfold runs
    split
    · split <;> simp <;> omega
    · omega
theorem runs_some (f : Nat → Bool) : ∀ n, f n = true → 0 < (runs f (n + 1)).length
  | 0, h => by simp [runs, h]
  | n + 1, h => by
    by_cases h1 : f n = true
    · rw [runs_more f (n + 1) h (by omega) (by simpa using h1), List.length_set]
      exact runs_some f n h1
    · rw [runs_new f (n + 1) h (.inr (by simpa using h1))]
      simp
theorem runs_congr {f g : Nat → Bool} : ∀ {n : Nat}, (∀ k, k < n → f k = g k) → runs f n = runs g n
  | 0, _ => rfl
  | n + 1, h => by
    have e := runs_congr (f := f) (g := g) (n := n) (fun k hk => h k (by omega))
    by_cases h0 : 0 < n
    · simp only [runs, e, h n (by omega), h (n - 1) (by omega)]
    · have : n = 0 := by omega
      subst this
      simp [runs, h 0 (by omega)]
/-- where every run lies: between 0 and n -/
theorem runs_in (f : Nat → Bool) : ∀ n, ∀ e ∈ runs f n, 0 ≤ e.1 ∧ 1 ≤ e.2 ∧ e.1 + e.2 ≤ n
  | 0, e, he => by simp [runs] at he
  | n + 1, e, he => by
    have ih := runs_in f n
    have old : ∀ e ∈ runs f n, 0 ≤ e.1 ∧ 1 ≤ e.2 ∧ e.1 + e.2 ≤ ((n + 1 : Nat) : Int) := fun e he => by have := ih e he; omega
    by_cases h : f n = true
    · by_cases h1 : 0 < n ∧ f (n - 1) = true
      · rw [runs_more f n h h1.1 h1.2] at he
        have hp : 0 < (runs f n).length := by
          have := runs_some f (n - 1) h1.2
          rwa [show n - 1 + 1 = n by omega] at this
        rcases List.mem_or_eq_of_mem_set he with h2 | rfl
        · exact old e h2
        · have h3 := ih ((runs f n).getD ((runs f n).length - 1) (0, 0)) (by
            rw [List.getD_eq_getElem?_getD, List.getElem?_eq_getElem (by omega)]
            exact List.getElem_mem ..)
          simp only
          omega
      · rw [runs_new f n h (by by_cases a : n = 0; exact .inl a; exact .inr (by simpa using fun h => h1 ⟨by omega, h⟩))] at he
        rcases List.mem_append.1 he with h2 | h2
        · exact old e h2
        · simp at h2; subst h2; simp
    · rw [runs_no f n (by simpa using h)] at he
      exact old e he
/-- four bytes of a number -/
def four (n : Int) : List UInt8 := [UInt8.ofNat (n.toNat / 16777216), UInt8.ofNat (n.toNat / 65536), UInt8.ofNat (n.toNat / 256), UInt8.ofNat n.toNat]
/-- the bytes of a list of runs -/
def laid (l : List (Int × Int)) : List UInt8 := l.flatMap fun e => four e.1 ++ four e.2
theorem laid_append (l m : List (Int × Int)) : laid (l ++ m) = laid l ++ laid m := by simp [laid]
theorem laid_len (l : List (Int × Int)) : (laid l).length = 8 * l.length := by
  induction l with
  | nil => rfl
  | cons e l ih => simp only [laid, List.flatMap_cons, List.length_append] at ih ⊢; rw [ih]; simp [four]; omega
/-- a space's bytes -/
def enc (f : Nat → Bool) (N : Nat) : List UInt8 := four ((runs f N).length : Int) ++ laid (runs f N)
theorem enc_len (f : Nat → Bool) (N : Nat) : (enc f N).length = 4 + 8 * (runs f N).length := by simp [enc, laid_len, four]; omega
/-- the least free one -/
def Least (f : Nat → Bool) (N n : Nat) : Prop := n < N ∧ f n = false ∧ ∀ k, k < n → f k = true
theorem least_or (f : Nat → Bool) : ∀ N, (∃ n, Least f N n) ∨ ∀ n, n < N → f n = true
  | 0 => .inr fun n h => by omega
  | N + 1 => by
    rcases least_or f N with ⟨n, h⟩ | h
    · exact .inl ⟨n, by have := h.1; omega, h.2⟩
    · by_cases e : f N = true
      · refine .inr fun n hn => ?_
        by_cases e2 : n = N
        · rw [e2, e]
        · exact h n (by omega)
      · exact .inl ⟨N, by omega, by simpa using e, h⟩
theorem Least.eq {f : Nat → Bool} {N n m : Nat} (h : Least f N n) (h' : Least f N m) : n = m := by
  rcases Nat.lt_trichotomy n m with e | e | e
  · have := h'.2.2 n e; rw [h.2.1] at this; cases this
  · exact e
  · have := h.2.2 m e; rw [h'.2.1] at this; cases this
end Go.Proofs.YtghakgepchlpgaaDoor.Spc
