/- PLAIN MATH of spaces: what bytes say. No program. -/
import Derived.Test.YtghakgepchlpgaaDoorMath
namespace Go.Proofs.YtghakgepchlpgaaDoor.Spc

/-- m blocks from a on are used, too -/
def updR (f : Nat → Bool) (a m : Nat) : Nat → Bool := fun k => if a ≤ k ∧ k < a + m then true else f k
theorem updR_zero (f : Nat → Bool) (a : Nat) : updR f a 0 = f := by
  funext k; unfold updR; rw [if_neg (by omega)]
theorem updR_succ (f : Nat → Bool) (a m : Nat) : updR f a (m + 1) = upd (updR f a m) (a + m) true := by
  funext k
  show (if a ≤ k ∧ k < a + (m + 1) then true else f k) = (if k = a + m then true else if a ≤ k ∧ k < a + m then true else f k)
  by_cases e : k = a + m
  · rw [if_pos e, if_pos (by omega)]
  · rw [if_neg e]
    by_cases h : a ≤ k ∧ k < a + m
    · rw [if_pos h, if_pos (by omega)]
    · rw [if_neg h, if_neg (by omega)]
theorem updR_in (f : Nat → Bool) {a m k : Nat} (h : a ≤ k ∧ k < a + m) : updR f a m k = true := by unfold updR; rw [if_pos h]
theorem updR_out (f : Nat → Bool) {a m k : Nat} (h : ¬ (a ≤ k ∧ k < a + m)) : updR f a m k = f k := by unfold updR; rw [if_neg h]
/-- a run more, of the program -/
def step (N : Nat) : Option ((Nat → Bool) × Int) → Int × Int → Option ((Nat → Bool) × Int)
  | none, _ => none
  | some (f, free), (a, m) => if free ≤ a ∧ 1 ≤ m ∧ a ≤ (N : Int) ∧ m ≤ (N : Int) - a then some (updR f a.toNat m.toNat, a + m + 1) else none
def D (N : Nat) (l : List (Int × Int)) : Option ((Nat → Bool) × Int) := l.foldl (step N) (some (fun _ => false, 0))
theorem D_snoc (N : Nat) (l : List (Int × Int)) (e : Int × Int) : D N (l ++ [e]) = step N (D N l) e := by simp [D]
theorem step_none (N : Nat) : ∀ l : List (Int × Int), l.foldl (step N) none = none
  | [] => rfl
  | e :: l => by show l.foldl (step N) (step N none e) = none; exact step_none N l
theorem D_none (N : Nat) (l m : List (Int × Int)) (h : D N l = none) : D N (l ++ m) = none := by
  unfold D at h ⊢
  rw [List.foldl_append, h, step_none]
theorem step_some {N : Nat} {f : Nat → Bool} {free a m : Int} (h : free ≤ a ∧ 1 ≤ m ∧ a ≤ (N : Int) ∧ m ≤ (N : Int) - a) : step N (some (f, free)) (a, m) = some (updR f a.toNat m.toNat, a + m + 1) := by
  simp only [step]; rw [if_pos h]
theorem step_bad {N : Nat} {f : Nat → Bool} {free a m : Int} (h : ¬ (free ≤ a ∧ 1 ≤ m ∧ a ≤ (N : Int) ∧ m ≤ (N : Int) - a)) : step N (some (f, free)) (a, m) = none := by
  simp only [step]; rw [if_neg h]
/-- a run more, of the document -/
def rstep (N : Nat) : Option (Nat → Bool) → Int × Int → Option (Nat → Bool)
  | none, _ => none
  | some f, (a, m) => if a ≤ (N : Int) ∧ m ≤ (N : Int) - a ∧ (∀ k, k < m.toNat → f (a.toNat + k) = false) then some (updR f a.toNat m.toNat) else none
def R (N : Nat) (l : List (Int × Int)) : Option (Nat → Bool) := l.foldl (rstep N) (some fun _ => false)
theorem R_snoc (N : Nat) (l : List (Int × Int)) (e : Int × Int) : R N (l ++ [e]) = rstep N (R N l) e := by simp [R]
theorem rstep_none (N : Nat) : ∀ l : List (Int × Int), l.foldl (rstep N) none = none
  | [] => rfl
  | e :: l => by show l.foldl (rstep N) (rstep N none e) = none; exact rstep_none N l
theorem R_none (N : Nat) (l m : List (Int × Int)) (h : R N l = none) : R N (l ++ m) = none := by
  unfold R at h ⊢
  rw [List.foldl_append, h, rstep_none]
theorem snoc_ind {α : Type} {P : List α → Prop} (h0 : P []) (h1 : ∀ l e, P l → P (l ++ [e])) : ∀ l, P l := by
  intro l
  rw [← List.reverse_reverse l]
  induction l.reverse with
  | nil => exact h0
  | cons a t ih => rw [List.reverse_cons]; exact h1 _ _ ih
/-- the runs of a set to which a run is added behind -/
theorem runs_grow (f : Nat → Bool) (a : Nat) (h0 : a = 0 ∨ f (a - 1) = false) : ∀ m, 1 ≤ m → runs (updR f a m) (a + m) = runs f a ++ [((a : Int), (m : Int))]
  | 0, h => by omega
  | 1, _ => by
    rw [runs_new (updR f a 1) a (updR_in f (by omega)) (by
      rcases h0 with h0 | h0
      · exact .inl h0
      · by_cases e : a = 0
        · exact .inl e
        · exact .inr (by rw [updR_out f (by omega), h0]))]
    rw [runs_congr (f := updR f a 1) (g := f) (fun k hk => updR_out f (by omega))]
    rfl
  | m + 2, _ => by
    have ih := runs_grow f a h0 (m + 1) (by omega)
    have e : runs (updR f a (m + 2)) (a + (m + 1)) = runs f a ++ [((a : Int), ((m + 1 : Nat) : Int))] := by
      rw [← ih]
      exact runs_congr fun k hk => by
        by_cases hh : a ≤ k
        · rw [updR_in f (by omega), updR_in f (by omega)]
        · rw [updR_out f (by omega), updR_out f (by omega)]
    show runs (updR f a (m + 2)) (a + (m + 1) + 1) = _
    rw [runs_more (updR f a (m + 2)) (a + (m + 1)) (updR_in f (by omega)) (by omega) (updR_in f (by omega)), e]
    simp [List.getD_eq_getElem?_getD]
    omega
theorem runs_stay (f : Nat → Bool) (a : Nat) : ∀ n, (∀ k, a ≤ k → k < a + n → f k = false) → runs f (a + n) = runs f a
  | 0, _ => rfl
  | n + 1, h => by
    show runs f (a + n + 1) = _
    rw [runs_no f (a + n) (h _ (by omega) (by omega))]
    exact runs_stay f a n fun k h1 h2 => h k h1 (by omega)
theorem runs_to (f : Nat → Bool) {a b : Nat} (hab : a ≤ b) (h : ∀ k, a ≤ k → k < b → f k = false) : runs f b = runs f a := by
  have := runs_stay f a (b - a) fun k h1 h2 => h k h1 (by omega)
  rwa [show a + (b - a) = b by omega] at this
/-- what runs one behind the other make -/
theorem D_some (N : Nat) : ∀ l, ∀ f free, D N l = some (f, free) → runs f N = l ∧ 0 ≤ free ∧ free ≤ (N : Int) + 1 ∧ (∀ n : Nat, free ≤ (n : Int) + 1 → f n = false) ∧ R N l = some f := by
  refine snoc_ind ?_ ?_
  · intro f free h
    simp only [D, List.foldl_nil, Option.some.injEq, Prod.mk.injEq] at h
    obtain ⟨rfl, rfl⟩ := h
    refine ⟨?_, by omega, by omega, fun n _ => rfl, rfl⟩
    rw [runs_to _ (Nat.zero_le N) (fun k _ _ => rfl)]
    rfl
  · intro l e ih f free h
    rw [D_snoc] at h
    obtain ⟨a, m⟩ := e
    cases hD : D N l with
    | none => rw [hD] at h; cases h
    | some x =>
      obtain ⟨f0, free0⟩ := x
      obtain ⟨i1, i2, i3, i4, i5⟩ := ih f0 free0 hD
      rw [hD] at h
      by_cases hc : free0 ≤ a ∧ 1 ≤ m ∧ a ≤ (N : Int) ∧ m ≤ (N : Int) - a
      · rw [step_some hc] at h
        simp only [Option.some.injEq, Prod.mk.injEq] at h
        obtain ⟨rfl, rfl⟩ := h
        obtain ⟨an, rfl⟩ : ∃ an : Nat, a = (an : Int) := ⟨a.toNat, by omega⟩
        obtain ⟨mn, rfl⟩ : ∃ mn : Nat, m = (mn : Int) := ⟨m.toNat, by omega⟩
        simp only [Int.toNat_natCast]
        refine ⟨?_, by omega, by omega, fun n hn => ?_, ?_⟩
        · have hle : an + mn ≤ N := by omega
          rw [runs_to _ hle (fun k h1 h2 => by rw [updR_out f0 (by omega)]; exact i4 k (by omega))]
          rw [runs_grow f0 an (by
            by_cases e : an = 0
            · exact .inl e
            · exact .inr (i4 _ (by omega))) mn (by omega)]
          rw [← i1, runs_to f0 (show an ≤ N by omega) (fun k h1 h2 => i4 k (by omega))]
        · rw [updR_out f0 (by omega)]; exact i4 n (by omega)
        · rw [R_snoc, i5]
          simp only [rstep, Int.toNat_natCast]
          rw [if_pos ⟨by omega, by omega, fun k hk => i4 _ (by omega)⟩]
      · rw [step_bad hc] at h; cases h
/-- the first n -/
def cutF (f : Nat → Bool) (n : Nat) : Nat → Bool := fun k => decide (k < n) && f k
theorem cutF_no (f : Nat → Bool) (n : Nat) (h : f n = false) : cutF f (n + 1) = cutF f n := by
  funext k; unfold cutF
  by_cases e : k = n
  · subst e; simp [h]
  · have : (k < n + 1) = (k < n) := by apply propext; omega
    simp only [this]
theorem cutF_yes (f : Nat → Bool) (n : Nat) (h : f n = true) : cutF f (n + 1) = upd (cutF f n) n true := by
  funext k; unfold cutF upd
  by_cases e : k = n
  · subst e; simp [h]
  · rw [if_neg e]
    have : (k < n + 1) = (k < n) := by apply propext; omega
    simp only [this]
theorem cutF_all (f : Nat → Bool) (n : Nat) (h : ∀ k, n ≤ k → f k = false) : cutF f n = f := by
  funext k; unfold cutF
  by_cases e : k < n
  · simp [e]
  · rw [h k (by omega)]; simp
/-- of a set's own runs the set is made -/
theorem D_runs (N : Nat) (f : Nat → Bool) : ∀ n, n ≤ N → (∃ free, D N (runs f n) = some (cutF f n, free) ∧ free ≤ (n : Int) + 1 ∧ ((n = 0 ∨ f (n - 1) = false) → free ≤ (n : Int))) ∧
    (0 < n → f (n - 1) = true → ∃ (init : List (Int × Int)) (a : Nat) (f0 : Nat → Bool) (free0 : Int), runs f n = init ++ [((a : Int), ((n - a : Nat) : Int))] ∧ a < n ∧ D N init = some (f0, free0) ∧ free0 ≤ (a : Int) ∧ cutF f n = updR f0 a (n - a))
  | 0, _ => by
    refine ⟨⟨0, ?_, by omega, fun _ => by omega⟩, fun h => absurd h (by omega)⟩
    show some ((fun _ => false : Nat → Bool), (0 : Int)) = some (cutF f 0, 0)
    congr 2
  | n + 1, hn => by
    obtain ⟨⟨free, h1, h2, h3⟩, h4⟩ := D_runs N f n (by omega)
    by_cases hf : f n = true
    · by_cases hp : 0 < n ∧ f (n - 1) = true
      · obtain ⟨init, a, f0, free0, k1, k2, k3, k4, k5⟩ := h4 hp.1 hp.2
        have kr : runs f (n + 1) = init ++ [((a : Int), ((n + 1 - a : Nat) : Int))] := by
          rw [runs_more f n hf hp.1 hp.2, k1]
          simp [List.getD_eq_getElem?_getD]
          omega
        have kc : cutF f (n + 1) = updR f0 a (n + 1 - a) := by
          rw [cutF_yes f n hf, k5, show n + 1 - a = n - a + 1 by omega, updR_succ, show a + (n - a) = n by omega]
        refine ⟨⟨(a : Int) + ((n + 1 - a : Nat) : Int) + 1, ?_, by omega, ?_⟩, fun _ _ => ⟨init, a, f0, free0, kr, by omega, k3, k4, kc⟩⟩
        · rw [kr, D_snoc, k3, step_some ⟨k4, by omega, by omega, by omega⟩, Int.toNat_natCast, Int.toNat_natCast, kc]
        · rintro (h | h)
          · omega
          · rw [Nat.add_sub_cancel, hf] at h; cases h
      · have hp' : n = 0 ∨ f (n - 1) = false := by
          by_cases e : n = 0
          · exact .inl e
          · refine .inr ?_
            cases hx : f (n - 1)
            · rfl
            · exact absurd ⟨by omega, hx⟩ hp
        have kr := runs_new f n hf hp'
        have kc : cutF f (n + 1) = updR (cutF f n) n 1 := by
          rw [cutF_yes f n hf, show (1 : Nat) = 0 + 1 from rfl, updR_succ, updR_zero, Nat.add_zero]
        refine ⟨⟨(n : Int) + 1 + 1, ?_, by omega, ?_⟩, fun _ _ => ⟨runs f n, n, cutF f n, free, by rw [kr, show n + 1 - n = 1 by omega]; rfl, by omega, h1, h3 hp', by rw [kc, show n + 1 - n = 1 by omega]⟩⟩
        · rw [kr, D_snoc, h1, step_some ⟨h3 hp', by omega, by omega, by omega⟩, Int.toNat_natCast, kc]
          rfl
        · rintro (h | h)
          · omega
          · rw [Nat.add_sub_cancel, hf] at h; cases h
    · have hf' : f n = false := by simpa using hf
      refine ⟨⟨free, by rw [runs_no f n hf', cutF_no f n hf', h1], by omega, fun _ => by omega⟩, fun _ h => ?_⟩
      rw [Nat.add_sub_cancel, hf'] at h; cases h
/-- four bytes' number -/
def n4 (l : List UInt8) (i : Nat) : Nat := (l.getD (4 * i) 0).toNat * 16777216 + (l.getD (4 * i + 1) 0).toNat * 65536 + (l.getD (4 * i + 2) 0).toNat * 256 + (l.getD (4 * i + 3) 0).toNat
theorem n4_lt (l : List UInt8) (i : Nat) : n4 l i < 4294967296 := by
  unfold n4
  have h0 := (l.getD (4 * i) 0).toNat_lt
  have h1 := (l.getD (4 * i + 1) 0).toNat_lt
  have h2 := (l.getD (4 * i + 2) 0).toNat_lt
  have h3 := (l.getD (4 * i + 3) 0).toNat_lt
  omega
theorem ofNat_byte (x : UInt8) (n : Nat) (h : n % 256 = x.toNat) : UInt8.ofNat n = x := by
  apply UInt8.toNat_inj.1
  rw [UInt8.toNat_ofNat']
  exact h
theorem four_n4 (l : List UInt8) (i : Nat) : four (n4 l i : Int) = [l.getD (4 * i) 0, l.getD (4 * i + 1) 0, l.getD (4 * i + 2) 0, l.getD (4 * i + 3) 0] := by
  have h0 := (l.getD (4 * i) 0).toNat_lt
  have h1 := (l.getD (4 * i + 1) 0).toNat_lt
  have h2 := (l.getD (4 * i + 2) 0).toNat_lt
  have h3 := (l.getD (4 * i + 3) 0).toNat_lt
  simp only [four, Int.toNat_natCast]
  rw [ofNat_byte (l.getD (4 * i) 0) _ (by unfold n4; omega), ofNat_byte (l.getD (4 * i + 1) 0) _ (by unfold n4; omega), ofNat_byte (l.getD (4 * i + 2) 0) _ (by unfold n4; omega), ofNat_byte (l.getD (4 * i + 3) 0) _ (by unfold n4; omega)]
def pairs (l : List UInt8) (k : Nat) : List (Int × Int) := (List.range k).map fun j => ((n4 l (1 + 2 * j) : Int), (n4 l (2 + 2 * j) : Int))
theorem pairs_succ (l : List UInt8) (k : Nat) : pairs l (k + 1) = pairs l k ++ [((n4 l (1 + 2 * k) : Int), (n4 l (2 + 2 * k) : Int))] := by
  simp [pairs, List.range_succ]
theorem pairs_len (l : List UInt8) (k : Nat) : (pairs l k).length = k := by simp [pairs]
theorem pairs_more (l : List UInt8) (k n : Nat) (h : k ≤ n) : ∃ m, pairs l n = pairs l k ++ m := by
  obtain ⟨d, rfl⟩ : ∃ d, n = k + d := ⟨n - k, by omega⟩
  induction d with
  | zero => exact ⟨[], by simp⟩
  | succ d ih =>
    obtain ⟨m, hm⟩ := ih (by omega)
    exact ⟨m ++ [((n4 l (1 + 2 * (k + d)) : Int), (n4 l (2 + 2 * (k + d)) : Int))], by rw [← Nat.add_assoc, pairs_succ, hm, List.append_assoc]⟩
theorem take_four (l : List UInt8) (i : Nat) (h : i + 4 ≤ l.length) : l.take (i + 4) = l.take i ++ [l.getD i 0, l.getD (i + 1) 0, l.getD (i + 2) 0, l.getD (i + 3) 0] := by
  have e : ∀ k, k < l.length → l.take (k + 1) = l.take k ++ [l.getD k 0] := fun k hk => by
    rw [List.take_add_one, List.getElem?_eq_getElem hk, List.getD_eq_getElem?_getD, List.getElem?_eq_getElem hk]; rfl
  rw [show i + 4 = i + 3 + 1 from rfl, e _ (by omega), show i + 3 = i + 2 + 1 from rfl, e _ (by omega), show i + 2 = i + 1 + 1 from rfl, e _ (by omega), e _ (by omega)]
  simp
theorem bytes_pairs (l : List UInt8) : ∀ k, 4 + 8 * k ≤ l.length → l.take (4 + 8 * k) = four (n4 l 0 : Int) ++ laid (pairs l k)
  | 0, h => by
    rw [four_n4]
    have := take_four l 0 (by omega)
    rw [show 4 + 8 * 0 = 0 + 4 from rfl, this]
    simp [pairs, laid]
  | k + 1, h => by
    rw [pairs_succ, laid_append, ← List.append_assoc, ← bytes_pairs l k (by omega)]
    rw [show 4 + 8 * (k + 1) = 4 + 8 * k + 4 + 4 by omega, take_four l _ (by omega), take_four l _ (by omega)]
    simp only [laid, List.flatMap_cons, List.flatMap_nil, List.append_nil, four_n4, List.append_assoc]
    rw [show 4 * (1 + 2 * k) = 4 + 8 * k by omega, show 4 * (2 + 2 * k) = 4 + 8 * k + 4 by omega]
/-- what bytes say -/
def decd (N : Nat) (l : List UInt8) : Option (Nat → Bool) :=
  if 4 ≤ l.length ∧ l.length % 8 = 4 ∧ n4 l 0 = l.length / 8 then (D N (pairs l (l.length / 8))).map (·.1) else none
theorem enc_of_decd {N : Nat} {l : List UInt8} {f : Nat → Bool} (h : decd N l = some f) : enc f N = l ∧ ∀ n, N ≤ n → f n = false := by
  unfold decd at h
  by_cases hc : 4 ≤ l.length ∧ l.length % 8 = 4 ∧ n4 l 0 = l.length / 8
  · rw [if_pos hc] at h
    cases hD : D N (pairs l (l.length / 8)) with
    | none => rw [hD] at h; cases h
    | some x =>
      obtain ⟨f0, free⟩ := x
      rw [hD] at h
      obtain rfl : f0 = f := by simpa using h
      obtain ⟨i1, i2, i3, i4, _⟩ := D_some N _ _ _ hD
      refine ⟨?_, fun n hn => i4 n (by omega)⟩
      have hb := bytes_pairs l (l.length / 8) (by omega)
      rw [List.take_of_length_le (by omega)] at hb
      conv => rhs; rw [hb]
      rw [enc, i1, pairs_len, hc.2.2]
  · rw [if_neg hc] at h; cases h
theorem n4_four (pre post : List UInt8) (x : Int) (i : Nat) (hi : pre.length = 4 * i) (hx : 0 ≤ x ∧ x < 4294967296) : n4 (pre ++ four x ++ post) i = x.toNat := by
  have e : ∀ k, k < 4 → (pre ++ four x ++ post).getD (4 * i + k) 0 = (four x).getD k 0 := fun k hk => by
    rw [List.getD_eq_getElem?_getD, List.getElem?_append_left (by simp [hi, four]; omega), List.getElem?_append_right (by omega), ← List.getD_eq_getElem?_getD, hi]
    congr 1; omega
  unfold n4
  have e0 := e 0 (by omega)
  rw [Nat.add_zero] at e0
  rw [e0, e 1 (by omega), e 2 (by omega), e 3 (by omega)]
  simp only [four, List.getD_cons_zero, List.getD_cons_succ, UInt8.toNat_ofNat']
  omega
theorem laid_cons (e : Int × Int) (l : List (Int × Int)) : laid (e :: l) = four e.1 ++ four e.2 ++ laid l := by simp [laid]
theorem pairs_laid (pre : List UInt8) (rs : List (Int × Int)) (hb : ∀ e ∈ rs, (0 ≤ e.1 ∧ e.1 < 4294967296) ∧ 0 ≤ e.2 ∧ e.2 < 4294967296) (hp : pre.length = 4) : pairs (pre ++ laid rs) rs.length = rs := by
  apply List.ext_getElem
  · simp [pairs_len]
  · intro i h1 h2
    have hm := hb rs[i] (List.getElem_mem h2)
    have hs : rs = rs.take i ++ rs[i] :: rs.drop (i + 1) := by rw [List.getElem_cons_drop, List.take_append_drop]
    have hl : pre ++ laid rs = (pre ++ laid (rs.take i)) ++ four rs[i].1 ++ (four rs[i].2 ++ laid (rs.drop (i + 1))) := by
      conv => lhs; rw [hs]
      rw [laid_append, laid_cons]
      simp [List.append_assoc]
    have hl2 : pre ++ laid rs = (pre ++ laid (rs.take i) ++ four rs[i].1) ++ four rs[i].2 ++ laid (rs.drop (i + 1)) := by
      rw [hl]; simp [List.append_assoc]
    have q1 := n4_four (pre ++ laid (rs.take i)) (four rs[i].2 ++ laid (rs.drop (i + 1))) rs[i].1 (1 + 2 * i) (by simp [laid_len, hp]; omega) hm.1
    have q2 := n4_four (pre ++ laid (rs.take i) ++ four rs[i].1) (laid (rs.drop (i + 1))) rs[i].2 (2 + 2 * i) (by simp [laid_len, hp, four]; omega) hm.2
    rw [← hl] at q1
    rw [← hl2] at q2
    simp only [pairs, List.getElem_map, List.getElem_range, q1, q2]
    apply Prod.ext
    · simp only; omega
    · simp only; omega
theorem decd_of_enc {N : Nat} {f : Nat → Bool} (hN : N ≤ 65536) (h : ∀ n, N ≤ n → f n = false) : decd N (enc f N) = some f := by
  have hl := enc_len f N
  have hr := runs_len f N
  have hi := runs_in f N
  have h0 : n4 (enc f N) 0 = (runs f N).length := by
    have := n4_four [] (laid (runs f N)) ((runs f N).length : Int) 0 rfl (by omega)
    simpa [enc] using this
  have hd : (enc f N).length / 8 = (runs f N).length := by omega
  unfold decd
  rw [if_pos ⟨by omega, by omega, by omega⟩, hd]
  have hp : pairs (enc f N) (runs f N).length = runs f N := pairs_laid _ _ (fun e he => by have := hi e he; omega) rfl
  rw [hp]
  obtain ⟨⟨free, h1, -⟩, -⟩ := D_runs N f N (Nat.le_refl _)
  rw [h1, cutF_all f N h]
  rfl
theorem decd_iff {N : Nat} {l : List UInt8} {f : Nat → Bool} (hN : N ≤ 65536) : decd N l = some f ↔ enc f N = l ∧ ∀ n, N ≤ n → f n = false :=
  ⟨enc_of_decd, fun ⟨h1, h2⟩ => by rw [← h1]; exact decd_of_enc hN h2⟩
theorem R_of_decd {N : Nat} {l : List UInt8} {f : Nat → Bool} (h : decd N l = some f) : R N (pairs l (l.length / 8)) = some f := by
  unfold decd at h
  by_cases hc : 4 ≤ l.length ∧ l.length % 8 = 4 ∧ n4 l 0 = l.length / 8
  · rw [if_pos hc] at h
    cases hD : D N (pairs l (l.length / 8)) with
    | none => rw [hD] at h; cases h
    | some x =>
      obtain ⟨f0, free⟩ := x
      rw [hD] at h
      obtain rfl : f0 = f := by simpa using h
      exact (D_some N _ _ _ hD).2.2.2.2
  · rw [if_neg hc] at h; cases h
end Go.Proofs.YtghakgepchlpgaaDoor.Spc
