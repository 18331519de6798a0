/- THE DOCUMENT'S CACHE AS AN OBJECT; many objects that lie apart. -/
import Derived.Test.YtghakgepchlpgaaX2
namespace Go.Proofs.Ytghakgepchlpgaa
open Go.RowKit Go.Maps
def isR (w : World) (a : Ob) : Prop := ∃ LV, RC w a.p a.P a.hit a.miss LV a.M ∧ (∀ k, BR a.p LV k → a.F k) ∧ ∀ k, a.F k → k < w.heap.size
theorem isR.kept {w w' : World} {a : Ob} {S : Nat → Prop} (h : isR w a) (hk : Kept S w w') (hs : ∀ k, a.F k → ¬ S k) : isR w' a := by
  obtain ⟨LV, hc, hF, hb⟩ := h
  exact ⟨LV, hc.kept hk fun q hq => hs q (hF q hq), hF, fun k h => Nat.lt_of_lt_of_le (hb k h) hk.size⟩
theorem isR.lt {w : World} {a : Ob} (h : isR w a) : ∀ k, a.F k → k < w.heap.size := by obtain ⟨_, _, _, hb⟩ := h; exact hb
theorem isR_mk {w w' : World} {a : Ob} {LV LV' : Value} {M' : List Th} {hit miss : Int} (hc : RC w' a.p a.P hit miss LV' M') (hk : Kept (BR a.p LV) w w') (hF : ∀ k, BR a.p LV k → a.F k) (hb : ∀ k, a.F k → k < w.heap.size)
    (hn : ∀ k, BR a.p LV' k → BR a.p LV k ∨ w.heap.size ≤ k) : isR w' ⟨a.p, a.P, hit, miss, M', Gr a.F w w'⟩ ∧ Kept a.F w w' := by
  refine ⟨⟨LV', hc, fun k h => ?_, fun k h => ?_⟩, hk.mono fun k _ h => hF k h⟩
  · rcases hn k h with h1 | h1
    · exact .inl (hF k h1)
    · exact .inr ⟨h1, hc.lt k h⟩
  · rcases h with h | h
    · exact Nat.lt_of_lt_of_le (hb k h) hk.size
    · exact h.2
section
variable {w : World} {a : Ob} {u v : List Th} {e : Th}
theorem R_get_some (h : isR w a) (hM : a.M = u ++ e :: v) (hu : ∀ y ∈ u, y.n ≠ e.n) (hl : a.M.length ≤ 65536) : Calls Try.prog 27 #[.pointer (some ⟨a.p, 0, none⟩), .int .i64 e.n] w fun r w' =>
    r = .returned (.tuple #[.int .i64 e.x, .bool true]) ∧ isR w' ⟨a.p, a.P, wrap64 (a.hit + 1), a.miss, u ++ v ++ [e], Gr a.F w w'⟩ ∧ Kept a.F w w' := by
  obtain ⟨LV, hc, hF, hb⟩ := h
  rw [hM] at hc hl
  refine (rget_some hc hu (by omega)).mono ?_
  rintro r w' ⟨rfl, LV', hc', hk, hn⟩
  exact ⟨rfl, isR_mk hc' hk hF hb hn⟩
theorem R_get_none (h : isR w a) (n : Int) (hno : ∀ y ∈ a.M, y.n ≠ n) (hl : a.M.length ≤ 65536) : Calls Try.prog 27 #[.pointer (some ⟨a.p, 0, none⟩), .int .i64 n] w fun r w' =>
    r = .returned (.tuple #[.int .i64 0, .bool false]) ∧ isR w' ⟨a.p, a.P, a.hit, wrap64 (a.miss + 1), a.M, Gr a.F w w'⟩ ∧ Kept a.F w w' := by
  obtain ⟨LV, hc, hF, hb⟩ := h
  refine (rget_none hc n hno (by omega)).mono ?_
  rintro r w' ⟨rfl, hc', hk⟩
  exact ⟨rfl, isR_mk hc' hk hF hb fun k h => .inl h⟩
theorem R_put_found (h : isR w a) (hM : a.M = u ++ e :: v) (hu : ∀ y ∈ u, y.n ≠ e.n) (hl : a.M.length ≤ 65536) (x : Int) : Calls Try.prog 37 #[.pointer (some ⟨a.p, 0, none⟩), .int .i64 e.n, .int .i64 x] w fun r w' =>
    r = .returned (.tuple #[.int .i64 0, .bool false]) ∧ isR w' ⟨a.p, a.P, a.hit, a.miss, u ++ v ++ [{ e with x := x }], Gr a.F w w'⟩ ∧ Kept a.F w w' := by
  obtain ⟨LV, hc, hF, hb⟩ := h
  rw [hM] at hc hl
  refine (rput_found hc hu (by omega) x).mono ?_
  rintro r w' ⟨rfl, LV', hc', hk, hn⟩
  exact ⟨rfl, isR_mk hc' hk hF hb hn⟩
theorem R_put_room (h : isR w a) (n x : Int) (hno : ∀ y ∈ a.M, y.n ≠ n) (hl : a.M.length ≤ 65536) (hr : (a.M.length : Int) < a.P) : Calls Try.prog 37 #[.pointer (some ⟨a.p, 0, none⟩), .int .i64 n, .int .i64 x] w fun r w' =>
    r = .returned (.tuple #[.int .i64 0, .bool false]) ∧ isR w' ⟨a.p, a.P, a.hit, a.miss, a.M ++ [⟨n, x, 0⟩], Gr a.F w w'⟩ ∧ Kept a.F w w' := by
  obtain ⟨LV, hc, hF, hb⟩ := h
  refine (rput_room hc n x hno (by omega) hr).mono ?_
  rintro r w' ⟨rfl, LV', hc', hk, hn⟩
  exact ⟨rfl, isR_mk hc' hk hF hb hn⟩
theorem R_put_full (h : isR w a) (hM : a.M = u ++ e :: v) (n x : Int) (hno : ∀ y ∈ a.M, y.n ≠ n) (hl : a.M.length ≤ 65536) (hr : a.P ≤ (a.M.length : Int)) (hu : ∀ y ∈ u, y.p ≠ 0) (he : e.p = 0) : Calls Try.prog 37 #[.pointer (some ⟨a.p, 0, none⟩), .int .i64 n, .int .i64 x] w fun r w' =>
    r = .returned (.tuple #[.int .i64 e.n, .bool true]) ∧ isR w' ⟨a.p, a.P, a.hit, a.miss, u ++ v ++ [⟨n, x, 0⟩], Gr a.F w w'⟩ ∧ Kept a.F w w' := by
  obtain ⟨LV, hc, hF, hb⟩ := h
  rw [hM] at hc hl hr hno
  refine (rput_full hc n x hno (by omega) hr hu he).mono ?_
  rintro r w' ⟨rfl, LV', hc', hk, hn⟩
  exact ⟨rfl, isR_mk hc' hk hF hb hn⟩
theorem R_put_held (h : isR w a) (n x : Int) (hno : ∀ y ∈ a.M, y.n ≠ n) (hl : a.M.length ≤ 65536) (hr : a.P ≤ (a.M.length : Int)) (hu : ∀ y ∈ a.M, y.p ≠ 0) : Calls Try.prog 37 #[.pointer (some ⟨a.p, 0, none⟩), .int .i64 n, .int .i64 x] w fun r w' =>
    r = .returned (.tuple #[.int .i64 n, .bool true]) ∧ isR w' ⟨a.p, a.P, a.hit, a.miss, a.M, Gr a.F w w'⟩ ∧ Kept a.F w w' := by
  obtain ⟨LV, hc, hF, hb⟩ := h
  refine (rput_held hc n x hno (by omega) hr hu).mono ?_
  rintro r w' ⟨rfl, hc', hk⟩
  exact ⟨rfl, isR_mk hc' hk hF hb fun k h => .inl h⟩
theorem R_drop_some (h : isR w a) (hM : a.M = u ++ e :: v) (hu : ∀ y ∈ u, y.n ≠ e.n) (hl : a.M.length ≤ 65536) : Calls Try.prog 39 #[.pointer (some ⟨a.p, 0, none⟩), .int .i64 e.n] w fun r w' =>
    r = .returned (.bool true) ∧ isR w' ⟨a.p, a.P, a.hit, a.miss, u ++ v, Gr a.F w w'⟩ ∧ Kept a.F w w' := by
  obtain ⟨LV, hc, hF, hb⟩ := h
  rw [hM] at hc hl
  refine (rdrop_some hc hu (by omega)).mono ?_
  rintro r w' ⟨rfl, LV', hc', hk, hn⟩
  exact ⟨rfl, isR_mk hc' hk hF hb hn⟩
theorem R_drop_none (h : isR w a) (n : Int) (hno : ∀ y ∈ a.M, y.n ≠ n) (hl : a.M.length ≤ 65536) : Calls Try.prog 39 #[.pointer (some ⟨a.p, 0, none⟩), .int .i64 n] w fun r w' => r = .returned (.bool false) ∧ w = w' := by
  obtain ⟨LV, hc, hF, hb⟩ := h
  exact rdrop_none hc n hno (by omega)
theorem R_pin_some (h : isR w a) (hM : a.M = u ++ e :: v) (hu : ∀ y ∈ u, y.n ≠ e.n) (hl : a.M.length ≤ 65536) : Calls Try.prog 41 #[.pointer (some ⟨a.p, 0, none⟩), .int .i64 e.n] w fun r w' =>
    r = .returned (.bool true) ∧ isR w' ⟨a.p, a.P, a.hit, a.miss, u ++ { e with p := wrap64 (e.p + 1) } :: v, Gr a.F w w'⟩ ∧ Kept a.F w w' := by
  obtain ⟨LV, hc, hF, hb⟩ := h
  rw [hM] at hc hl
  refine (rpin_some hc hu (by omega)).mono ?_
  rintro r w' ⟨rfl, hc', hk⟩
  exact ⟨rfl, isR_mk hc' hk hF hb fun k h => .inl h⟩
theorem R_pin_none (h : isR w a) (n : Int) (hno : ∀ y ∈ a.M, y.n ≠ n) (hl : a.M.length ≤ 65536) : Calls Try.prog 41 #[.pointer (some ⟨a.p, 0, none⟩), .int .i64 n] w fun r w' => r = .returned (.bool false) ∧ w = w' := by
  obtain ⟨LV, hc, hF, hb⟩ := h
  exact rpin_none hc n hno (by omega)
theorem R_unpin_some (h : isR w a) (hM : a.M = u ++ e :: v) (hu : ∀ y ∈ u, y.n ≠ e.n) (hl : a.M.length ≤ 65536) (he : e.p ≠ 0) : Calls Try.prog 44 #[.pointer (some ⟨a.p, 0, none⟩), .int .i64 e.n] w fun r w' =>
    r = .returned (.bool true) ∧ isR w' ⟨a.p, a.P, a.hit, a.miss, u ++ { e with p := wrap64 (e.p - 1) } :: v, Gr a.F w w'⟩ ∧ Kept a.F w w' := by
  obtain ⟨LV, hc, hF, hb⟩ := h
  rw [hM] at hc hl
  refine (runpin_some hc hu (by omega) he).mono ?_
  rintro r w' ⟨rfl, hc', hk⟩
  exact ⟨rfl, isR_mk hc' hk hF hb fun k h => .inl h⟩
theorem R_unpin_zero (h : isR w a) (hM : a.M = u ++ e :: v) (hu : ∀ y ∈ u, y.n ≠ e.n) (hl : a.M.length ≤ 65536) (he : e.p = 0) : Calls Try.prog 44 #[.pointer (some ⟨a.p, 0, none⟩), .int .i64 e.n] w fun r w' => r = .returned (.bool false) ∧ w = w' := by
  obtain ⟨LV, hc, hF, hb⟩ := h
  rw [hM] at hc hl
  exact runpin_zero hc hu (by omega) he
theorem R_unpin_none (h : isR w a) (n : Int) (hno : ∀ y ∈ a.M, y.n ≠ n) (hl : a.M.length ≤ 65536) : Calls Try.prog 44 #[.pointer (some ⟨a.p, 0, none⟩), .int .i64 n] w fun r w' => r = .returned (.bool false) ∧ w = w' := by
  obtain ⟨LV, hc, hF, hb⟩ := h
  exact runpin_none hc n hno (by omega)
theorem R_numbers (h : isR w a) (hl : a.M.length ≤ 65536) : Calls Try.prog 32 #[.pointer (some ⟨a.p, 0, none⟩)] w fun r w' =>
    ∃ A c, r = .returned (.slice A a.M.length c) ∧ OwnsI w' w.heap.size (.slice A a.M.length c) (a.M.map (·.n)) ∧ Below w.heap.size w w' := by
  obtain ⟨LV, hc, hF, hb⟩ := h
  refine (rnumbers_any hc (by omega)).mono ?_
  rintro r w' ⟨A, c, rfl, ho, hbl⟩
  rw [List.length_map] at ho
  exact ⟨A, c, rfl, ho, hbl⟩
theorem R_new (P : Int) (w : World) (h1 : 1 ≤ P) (h2 : P ≤ 65536) : Calls Try.prog 35 #[.int .i64 P] w fun r w' =>
    ∃ p, r = .returned (.tuple #[.pointer (some ⟨p, 0, none⟩), .int .i64 0]) ∧ isR w' ⟨p, P, 0, 0, [], Gr (fun _ => False) w w'⟩ ∧ Below w.heap.size w w' := by
  refine (rnew_ok P w h1 h2).mono ?_
  rintro r w' ⟨rfl, hc, hb⟩
  refine ⟨w.heap.size, rfl, ⟨.slice none 0 0, hc, fun k hk => .inr ⟨?_, hc.lt k hk⟩, fun k hk => ?_⟩, hb⟩
  · rcases hk with rfl | hk
    · exact Nat.le_refl _
    · simp [Value.ownBlock] at hk
  · rcases hk with hk | hk
    · exact hk.elim
    · exact hk.2
end
/-! ## many -/
def isK : Nat → World → Ob → Prop
  | 0 => isA
  | 1 => isL
  | _ => isR
theorem isK.kept {K : Nat} {w w' : World} {a : Ob} {S : Nat → Prop} (h : isK K w a) (hk : Kept S w w') (hs : ∀ k, a.F k → ¬ S k) : isK K w' a := by
  match K with
  | 0 => exact isA.kept h hk hs
  | 1 => exact isL.kept h hk hs
  | _ + 2 => exact isR.kept h hk hs
theorem isK.lt {K : Nat} {w : World} {a : Ob} (h : isK K w a) : ∀ k, a.F k → k < w.heap.size := by
  match K with
  | 0 => exact isA.lt h
  | 1 => exact isL.lt h
  | _ + 2 => exact isR.lt h
structure Sys (B : Nat) (w : World) (N : Nat) (ob : Nat → Nat → Ob) (FW : Nat → Prop) : Prop where
  ok : ∀ K i, K < 3 → i < N → isK K w (ob K i)
  ap : ∀ K i K' i', K < 3 → i < N → K' < 3 → i' < N → (K ≠ K' ∨ i ≠ i') → ∀ k, (ob K i).F k → ¬ (ob K' i').F k
  fw : ∀ K i, K < 3 → i < N → ∀ k, (ob K i).F k → ¬ FW k
  lo : ∀ K i, K < 3 → i < N → ∀ k, (ob K i).F k → B ≤ k
def upO (ob : Nat → Nat → Ob) (K i : Nat) (o : Ob) (K' i' : Nat) : Ob := if K' = K ∧ i' = i then o else ob K' i'
theorem upO_same (ob : Nat → Nat → Ob) (K i : Nat) (o : Ob) : upO ob K i o K i = o := if_pos ⟨rfl, rfl⟩
theorem upO_other (ob : Nat → Nat → Ob) (K i : Nat) (o : Ob) (K' i' : Nat) (h : K' ≠ K ∨ i' ≠ i) : upO ob K i o K' i' = ob K' i' := if_neg fun ⟨h1, h2⟩ => h.elim (fun x => x h1) fun x => x h2
theorem Sys.step {B : Nat} {w w' : World} {N : Nat} {ob : Nat → Nat → Ob} {FW : Nat → Prop} (h : Sys B w N ob FW) {K i : Nat} (hK : K < 3) (hi : i < N) {o' : Ob} (ho : isK K w' o') (hk : Kept (ob K i).F w w') (hnw : Nw (ob K i).F o'.F w)
    (hfw : ∀ k, FW k → k < w.heap.size) (hB : B ≤ w.heap.size) : Sys B w' N (upO ob K i o') FW := by
  have low : ∀ K' i' k, K' < 3 → i' < N → (ob K' i').F k → k < w.heap.size := fun K' i' k a b c => (h.ok K' i' a b).lt k c
  refine ⟨fun K' i' a b => ?_, fun K1 i1 K2 i2 a1 b1 a2 b2 hne k f1 f2 => ?_, fun K' i' a b k f1 f2 => ?_, fun K' i' a b k f => ?_⟩
  · by_cases e : K' = K ∧ i' = i
    · obtain ⟨rfl, rfl⟩ := e
      rw [upO_same]; exact ho
    · have e' : K' ≠ K ∨ i' ≠ i := by
        by_cases h1 : K' = K
        · exact .inr fun h2 => e ⟨h1, h2⟩
        · exact .inl h1
      rw [upO_other _ _ _ _ _ _ e']
      exact (h.ok K' i' a b).kept hk fun k f1 f2 => h.ap K' i' K i a b hK hi e' k f1 f2
  · by_cases e1 : K1 = K ∧ i1 = i
    · obtain ⟨rfl, rfl⟩ := e1
      rw [upO_same] at f1
      rw [upO_other _ _ _ _ _ _ (hne.elim (fun h => .inl fun x => h x.symm) fun h => .inr fun x => h x.symm)] at f2
      rcases hnw k f1 with f1 | f1
      · exact h.ap K1 i1 K2 i2 a1 b1 a2 b2 hne k f1 f2
      · have := low K2 i2 k a2 b2 f2
        omega
    · have e1' : K1 ≠ K ∨ i1 ≠ i := by
        by_cases h1 : K1 = K
        · exact .inr fun h2 => e1 ⟨h1, h2⟩
        · exact .inl h1
      rw [upO_other _ _ _ _ _ _ e1'] at f1
      by_cases e2 : K2 = K ∧ i2 = i
      · obtain ⟨rfl, rfl⟩ := e2
        rw [upO_same] at f2
        rcases hnw k f2 with f2 | f2
        · exact h.ap K1 i1 K2 i2 a1 b1 a2 b2 hne k f1 f2
        · have := low K1 i1 k a1 b1 f1
          omega
      · have e2' : K2 ≠ K ∨ i2 ≠ i := by
          by_cases h1 : K2 = K
          · exact .inr fun h2 => e2 ⟨h1, h2⟩
          · exact .inl h1
        rw [upO_other _ _ _ _ _ _ e2'] at f2
        exact h.ap K1 i1 K2 i2 a1 b1 a2 b2 hne k f1 f2
  · by_cases e : K' = K ∧ i' = i
    · obtain ⟨rfl, rfl⟩ := e
      rw [upO_same] at f1
      rcases hnw k f1 with f1 | f1
      · exact h.fw K' i' a b k f1 f2
      · have := hfw k f2
        omega
    · have e' : K' ≠ K ∨ i' ≠ i := by
        by_cases h1 : K' = K
        · exact .inr fun h2 => e ⟨h1, h2⟩
        · exact .inl h1
      rw [upO_other _ _ _ _ _ _ e'] at f1
      exact h.fw K' i' a b k f1 f2
  · by_cases e : K' = K ∧ i' = i
    · obtain ⟨rfl, rfl⟩ := e
      rw [upO_same] at f
      rcases hnw k f with f | f
      · exact h.lo K' i' a b k f
      · omega
    · have e' : K' ≠ K ∨ i' ≠ i := by
        by_cases h1 : K' = K
        · exact .inr fun h2 => e ⟨h1, h2⟩
        · exact .inl h1
      rw [upO_other _ _ _ _ _ _ e'] at f
      exact h.lo K' i' a b k f
theorem Sys.frame {B : Nat} {w w' : World} {N : Nat} {ob : Nat → Nat → Ob} {FW FW' : Nat → Prop} {S : Nat → Prop} (h : Sys B w N ob FW) (hk : Kept S w w') (hs : ∀ k, k < w.heap.size → S k → FW k) (hf : ∀ k, FW' k → FW k ∨ w.heap.size ≤ k) : Sys B w' N ob FW' := by
  have low : ∀ K' i' k, K' < 3 → i' < N → (ob K' i').F k → k < w.heap.size := fun K' i' k a b c => (h.ok K' i' a b).lt k c
  refine ⟨fun K i a b => (h.ok K i a b).kept hk fun k f1 f2 => h.fw K i a b k f1 (hs k (low K i k a b f1) f2), h.ap, fun K i a b k f1 f2 => ?_, h.lo⟩
  rcases hf k f2 with f2 | f2
  · exact h.fw K i a b k f1 f2
  · have := low K i k a b f1
    omega
/-- one more triple -/
theorem Sys.more {B : Nat} {w : World} {N : Nat} {ob : Nat → Nat → Ob} {FW : Nat → Prop} (h : Sys B w N ob FW) {o : Nat → Ob} {H : Nat} (ho : ∀ K, K < 3 → isK K w (o K)) (hn : ∀ K, K < 3 → ∀ k, (o K).F k → H ≤ k) (hlt : ∀ K i, K < 3 → i < N → ∀ k, (ob K i).F k → k < H)
    (hfw : ∀ k, FW k → k < H) (hB : B ≤ H) (hap : ∀ K K', K < 3 → K' < 3 → K ≠ K' → ∀ k, (o K).F k → ¬ (o K').F k) : Sys B w (N + 1) (fun K i => if i = N then o K else ob K i) FW := by
  refine ⟨fun K i a b => ?_, fun K1 i1 K2 i2 a1 b1 a2 b2 hne k f1 f2 => ?_, fun K i a b k f1 f2 => ?_, fun K i a b k f => ?_⟩
  · by_cases e : i = N
    · simp only [e, if_true]; exact ho K a
    · simp only [e, if_false]; exact h.ok K i a (by omega)
  · by_cases e1 : i1 = N <;> by_cases e2 : i2 = N <;> simp only [e1, e2, if_true, if_false] at f1 f2
    · exact hap K1 K2 a1 a2 (hne.elim id fun x => absurd (e1.trans e2.symm) x) k f1 f2
    · have := hn K1 a1 k f1
      have := hlt K2 i2 a2 (by omega) k f2
      omega
    · have := hn K2 a2 k f2
      have := hlt K1 i1 a1 (by omega) k f1
      omega
    · exact h.ap K1 i1 K2 i2 a1 (by omega) a2 (by omega) hne k f1 f2
  · by_cases e : i = N <;> simp only [e, if_true, if_false] at f1
    · have := hn K a k f1
      have := hfw k f2
      omega
    · exact h.fw K i a (by omega) k f1 f2
  · by_cases e : i = N <;> simp only [e, if_true, if_false] at f
    · have := hn K a k f
      omega
    · exact h.lo K i a (by omega) k f
end Go.Proofs.Ytghakgepchlpgaa
