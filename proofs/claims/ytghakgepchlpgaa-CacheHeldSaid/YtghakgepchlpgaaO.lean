/- WORDS for the law of the last ones: two caches apart, pairs of ints. -/
import Derived.Test.YtghakgepchlpgaaM
namespace Go.Proofs.Ytghakgepchlpgaa
open Go.RowKit Go.Maps
/-- a slice of pairs of ints -/
def Ru (w : World) (B : Nat) (A : Option Addr) (l : List (Int × Int)) : Prop :=
  l = [] ∨ ∃ b off, A = some ⟨b, off, none⟩ ∧ b < B ∧ ∀ k, k < l.length → w.cell? ⟨b, off + k * 2, none⟩ = some (.int .i64 (l.getD k (0, 0)).1) ∧ w.cell? ⟨b, off + k * 2 + 1, none⟩ = some (.int .i64 (l.getD k (0, 0)).2)
theorem Ru.below {w w' : World} {B B' : Nat} {A : Option Addr} {l : List (Int × Int)} (h : Ru w B A l) (hb : Below B' w w') (hB : B ≤ B') : Ru w' B A l := by
  rcases h with h | ⟨b, off, hA, hlt, hc⟩
  · exact .inl h
  · exact .inr ⟨b, off, hA, hlt, fun k hk => ⟨(hb.cell (p := ⟨b, off + k * 2, none⟩) (by show b < B'; omega)).trans (hc k hk).1, (hb.cell (p := ⟨b, off + k * 2 + 1, none⟩) (by show b < B'; omega)).trans (hc k hk).2⟩⟩
/-- two caches apart -/
structure Two (w0 w : World) (ca ma cb mb : Nat) (p q : Nat) (La Lb : List Ent) : Prop where
  a : ∃ h m, CA 58 56 (.int .i64 0) w ca ma (p : Int) h m La
  b : ∃ h m, CA 58 56 (.int .i64 0) w cb mb (q : Int) h m Lb
  la : Loose La
  lb : Loose Lb
  inv : Lru.Inv p q (nms La) (nms Lb)
  apart : ∀ k, Bl ca ma La k → ¬ Bl cb mb Lb k
  lowA : ∀ k, Bl ca ma La k → w0.heap.size ≤ k
  lowB : ∀ k, Bl cb mb Lb k → w0.heap.size ≤ k
  bel : Below w0.heap.size w0 w
theorem Two.below {w0 w w' : World} {ca ma cb mb p q : Nat} {La Lb : List Ent} (h : Two w0 w ca ma cb mb p q La Lb) (hb : Below w.heap.size w w') : Two w0 w' ca ma cb mb p q La Lb :=
  ⟨h.a.imp fun _ ⟨m, x⟩ => ⟨m, x.below hb⟩, h.b.imp fun _ ⟨m, x⟩ => ⟨m, x.below hb⟩, h.la, h.lb, h.inv, h.apart, h.lowA, h.lowB, h.bel.trans (hb.mono h.bel.size)⟩
theorem Two.caB {w0 w w1 : World} {ca ma cb mb p q : Nat} {La Lb : List Ent} (h : Two w0 w ca ma cb mb p q La Lb) (ka : Kept (Bl ca ma La) w w1) : ∃ h m, CA 58 56 (.int .i64 0) w1 cb mb (q : Int) h m Lb :=
  h.b.imp fun _ ⟨m, x⟩ => ⟨m, x.kept ka (fun k hk hk' => h.apart k hk' hk)⟩
theorem Two.step {w0 w w1 w2 : World} {ca ma cb mb p q : Nat} {La Lb La' Lb' : List Ent} (h : Two w0 w ca ma cb mb p q La Lb)
    (ha : ∃ h m, CA 58 56 (.int .i64 0) w1 ca ma (p : Int) h m La') (la : Loose La') (ka : Kept (Bl ca ma La) w w1) (ea : ∀ k, Bl ca ma La' k → Bl ca ma La k ∨ w.heap.size ≤ k)
    (hb : ∃ h m, CA 58 56 (.int .i64 0) w2 cb mb (q : Int) h m Lb') (lb : Loose Lb') (kb : Kept (Bl cb mb Lb) w1 w2) (eb : ∀ k, Bl cb mb Lb' k → Bl cb mb Lb k ∨ w1.heap.size ≤ k)
    (inv : Lru.Inv p q (nms La') (nms Lb')) : Two w0 w2 ca ma cb mb p q La' Lb' := by
  obtain ⟨_, _, hA⟩ := h.a
  obtain ⟨_, _, hB⟩ := h.b
  obtain ⟨_, _, hA1⟩ := ha
  have s1 := ka.size
  have s0 := h.bel.size
  refine ⟨⟨_, _, hA1.kept kb (fun k hk hk' => ?_)⟩, hb, la, lb, inv, fun k hk hk' => ?_, fun k hk => ?_, fun k hk => ?_, (h.bel.trans (ka.below h.lowA h.bel.size)).trans (kb.below h.lowB (by omega))⟩
  · rcases ea k hk with e | e
    · exact h.apart k e hk'
    · have := hB.lt k hk'; omega
  · rcases ea k hk with e | e <;> rcases eb k hk' with e' | e'
    · exact h.apart k e e'
    · have := hA.lt k e; omega
    · have := hB.lt k e'; omega
    · have := hA1.lt k hk; omega
  · rcases ea k hk with e | e
    · exact h.lowA k e
    · omega
  · rcases eb k hk with e | e
    · exact h.lowB k e
    · omega
theorem Ri.kept {w w' : World} {B : Nat} {A : Option Addr} {l : List Int} {S : Nat → Prop} (h : Ri w B A l) (hB : B ≤ w.heap.size) (hk : Kept S w w') (hs : ∀ b o v, A = some ⟨b, o, v⟩ → ¬ S b) : Ri w' B A l := by
  rcases h with h | ⟨b, off, rfl, hb, hc⟩
  · exact .inl h
  · refine .inr ⟨b, off, rfl, hb, fun k hlt => ?_⟩
    have h1 := hk.block b (by omega) (hs b off none rfl)
    rw [← hc k hlt]
    simp [World.cell?, h1]
/-- what stands apart from two caches -/
def Far (ca ma cb mb : Nat) (La Lb : List Ent) (A : Option Addr) : Prop := ∀ b o v, A = some ⟨b, o, v⟩ → ¬ Bl ca ma La b ∧ ¬ Bl cb mb Lb b
/-- all but n, of the first j -/
def Flt (n : Int) (l : List Int) (j : Nat) : List Int := (l.take j).filter (fun m => decide (m ≠ n))
theorem flt_zero (n : Int) (l : List Int) : Flt n l 0 = [] := rfl
theorem flt_succ (n : Int) (l : List Int) (j : Nat) (hj : j < l.length) : Flt n l (j + 1) = if l.getD j 0 = n then Flt n l j else Flt n l j ++ [l.getD j 0] := by
  unfold Flt
  rw [List.take_succ_eq_append_getElem hj, List.filter_append]
  have : l.getD j 0 = l[j] := by simp [List.getD, hj]
  rw [this]
  by_cases h : l[j] = n
  · rw [if_pos h, List.filter_cons_of_neg (by simpa using h)]; simp
  · rw [if_neg h, List.filter_cons_of_pos (by simpa using h)]; simp
theorem flt_all (n : Int) (l : List Int) : Flt n l l.length ++ [n] = Lru.mv n l := by
  unfold Flt Lru.mv
  rw [List.take_length]
theorem flt_len (n : Int) (l : List Int) (j : Nat) : (Flt n l j).length ≤ l.length := by
  have h1 := List.length_filter_le (fun m => decide (m ≠ n)) (l.take j)
  rw [List.length_take] at h1
  unfold Flt
  omega
end Go.Proofs.Ytghakgepchlpgaa
