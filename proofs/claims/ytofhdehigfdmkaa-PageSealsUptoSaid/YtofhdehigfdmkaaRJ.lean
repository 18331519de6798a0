/- A book as rows by number; what stays of them. -/
import Derived.Test.YtofhdehigfdmkaaRI
import Derived.Test.YtofhdehigfdmkaaRH
namespace Go.Proofs.Ytofhdehigfdmkaa
open Go.RowKit
/-- the block of an address -/
def ob (A : Option Addr) : Option Nat := A.map (·.block)
theorem ob_eq (A : Option Addr) (n c : Nat) : (Value.slice A n c).ownBlock = ob A := by cases A <;> rfl
/-- rows by number -/
def rowL (N : Nat) (A : Nat → Option Addr) (n c : Nat → Nat) : List Value := (List.range N).map fun i => .slice (A i) (n i) (c i)
theorem rowL_length (N : Nat) (A : Nat → Option Addr) (n c : Nat → Nat) : (rowL N A n c).length = N := by simp [rowL]
theorem rowL_get (N : Nat) (A : Nat → Option Addr) (n c : Nat → Nat) (i : Nat) (hi : i < N) : (rowL N A n c)[i]? = some (.slice (A i) (n i) (c i)) := by simp [rowL, hi]
def Fm (w : World) (B N : Nat) (A : Nat → Option Addr) (n c : Nat → Nat) (L : Nat → List UInt8) : Prop := ∀ i, i < N → Owns w B (.slice (A i) (n i) (c i)) (L i) ∧ (L i).length = n i
def Ap (N : Nat) (A : Nat → Option Addr) : Prop := ∀ i j, i < N → j < N → i ≠ j → ∀ k, ob (A i) = some k → ob (A j) ≠ some k
def nilRow : Row := ⟨none, 0, []⟩
theorem getD_mem {α : Type} (l : List α) (d : α) (i : Nat) (h : i < l.length) : l.getD i d ∈ l := by
  rw [List.getD_eq_getElem?_getD, List.getElem?_eq_getElem h]
  exact List.getElem_mem ..
theorem map_rowL (rs : List Row) : rs.map Row.v = rowL rs.length (fun i => (rs.getD i nilRow).A) (fun i => (rs.getD i nilRow).l.length) (fun i => (rs.getD i nilRow).c) := by
  apply List.ext_getElem?
  intro i
  by_cases h : i < rs.length
  · rw [rowL_get _ _ _ _ _ h, List.getElem?_map, List.getD_eq_getElem?_getD, List.getElem?_eq_getElem h]
    rfl
  · rw [List.getElem?_eq_none (by simpa using h), List.getElem?_eq_none (by rw [rowL_length]; omega)]
theorem Book.fn {w : World} {B g : Nat} {rs ws : List Row} {LV WV : Value} (h : Book w B g rs ws LV WV) :
    ∃ (A A' : Nat → Option Addr) (n c c' : Nat → Nat) (L : Nat → List UInt8), w.ownsRow B 22 1 LV rs.length (rowL rs.length A n c) ∧ w.ownsRow B 22 1 WV rs.length (rowL rs.length A' n c') ∧
      Fm w B rs.length A n c L ∧ Fm w B rs.length A' n c' L ∧ Ap rs.length A ∧ ∀ i, i < rs.length → n i ≤ 4096 := by
  have hl : ws.length = rs.length := by
    have := congrArg List.length h.same
    simpa using this
  have hs : ∀ i, i < rs.length → (ws.getD i nilRow).l = (rs.getD i nilRow).l := fun i hi => by
    have := congrArg (fun q : List (List UInt8) => q[i]?) h.same
    simp only [List.getElem?_map] at this
    rw [List.getD_eq_getElem?_getD, List.getD_eq_getElem?_getD, List.getElem?_eq_getElem hi, List.getElem?_eq_getElem (by omega : i < ws.length)]
    rw [List.getElem?_eq_getElem hi, List.getElem?_eq_getElem (by omega : i < ws.length)] at this
    simpa using this
  refine ⟨fun i => (rs.getD i nilRow).A, fun i => (ws.getD i nilRow).A, fun i => (rs.getD i nilRow).l.length, fun i => (rs.getD i nilRow).c, fun i => (ws.getD i nilRow).c, fun i => (rs.getD i nilRow).l, ?_, ?_, ?_, ?_, ?_, ?_⟩
  · rw [← map_rowL]; exact h.lv
  · have hw := h.wv
    rw [map_rowL, hl] at hw
    have e : rowL rs.length (fun i => (ws.getD i nilRow).A) (fun i => (ws.getD i nilRow).l.length) (fun i => (ws.getD i nilRow).c) = rowL rs.length (fun i => (ws.getD i nilRow).A) (fun i => (rs.getD i nilRow).l.length) (fun i => (ws.getD i nilRow).c) := by
      unfold rowL
      apply List.map_congr_left
      intro i hi
      simp only [hs i (List.mem_range.1 hi)]
    rw [← e]
    exact hw
  · exact fun i hi => ⟨(h.rows _ (getD_mem rs nilRow i hi)).1, rfl⟩
  · intro i hi
    have := h.was _ (getD_mem ws nilRow i (by omega))
    unfold Row.v at this
    rw [hs i hi] at this
    exact ⟨this, rfl⟩
  · have key : ∀ i j, i < j → j < rs.length → ∀ k, ob (rs.getD i nilRow).A = some k → ob (rs.getD j nilRow).A ≠ some k := by
      intro i j hij hj k e
      have hp := List.pairwise_iff_getElem.1 h.apart i j (by omega) hj hij k
      simp only [Row.v, ob_eq] at hp
      rw [List.getD_eq_getElem?_getD, List.getElem?_eq_getElem (by omega : i < rs.length)] at e
      rw [List.getD_eq_getElem?_getD, List.getElem?_eq_getElem hj]
      exact hp e
    intro i j hi hj hne k e e'
    rcases Nat.lt_or_gt_of_ne hne with h1 | h1
    · exact key i j h1 hj k e e'
    · exact key j i h1 hi k e' e
  · exact fun i hi => (h.rows _ (getD_mem rs nilRow i hi)).2
/-- a row of a slice of slices -/
theorem rowAt {w : World} {B N : Nat} {v : Value} {xs : List Value} (h : w.ownsRow B 22 1 v N xs) (i : Nat) (u : Value) (hi : i < N) (hu : xs[i]? = some u) :
    ∃ gL cL, v = .slice (some ⟨gL, 0, none⟩) N cL ∧ B ≤ gL ∧ gL < w.heap.size ∧ w.cell? ⟨gL, i, none⟩ = some u ∧ ∃ cs, w.heap[gL]? = some (Obj.cells cs 22 (0, 0)) := by
  rcases h.2 with ⟨rfl, h0⟩ | ⟨g, cap, cur, rfl, hb, hg, hn, hc, hs, hk⟩
  · omega
  · refine ⟨g, cap, rfl, hb, (Array.getElem?_eq_some_iff.1 hg).1, ?_, cur, hg⟩
    rw [cell_of_row w g i cur 22 (0, 0) hg, ← hu, ← hk, List.getElem?_take, if_pos (by omega), Array.getElem?_toList]
theorem Fm.kp {S : Nat → Prop} {w w' : World} {B N : Nat} {A : Nat → Option Addr} {n c : Nat → Nat} {L : Nat → List UInt8} (h : Fm w B N A n c L) (k : Kp S w w') (hs : ∀ i, i < N → ∀ b, ob (A i) = some b → ¬ S b) : Fm w' B N A n c L :=
  fun i hi => ⟨rowKp (h i hi).1 k fun g e => hs i hi g (by rw [← ob_eq (A i) (n i) (c i)]; exact e), (h i hi).2⟩
theorem Fm.five {w w' : World} {B N : Nat} {A : Nat → Option Addr} {n c : Nat → Nat} {L : Nat → List UInt8} (h : Fm w B N A n c L) (k : Five w w') : Fm w' B N A n c L := fun i hi => ⟨(h i hi).1.five k, (h i hi).2⟩
/-- a byte is laid into a row -/
def updL (L : Nat → List UInt8) (i k : Nat) (x : UInt8) (j : Nat) : List UInt8 := if j = i then (L i).set k x else L j
theorem Fm.put {w : World} {B N : Nat} {A : Nat → Option Addr} {n c : Nat → Nat} {L : Nat → List UInt8} (h : Fm w B N A n c L) (ha : Ap N A) (i k b : Nat) (x : UInt8) (hi : i < N) (hA : A i = some ⟨b, 0, none⟩) :
    Fm (w.setCell ⟨b, k, none⟩ (.int .u8 (x.toNat : Int))) B N A n c (updL L i k x) := by
  intro j hj
  by_cases e : j = i
  · subst e
    obtain ⟨h1, h2⟩ := h j hj
    unfold updL
    rw [if_pos rfl]
    rw [hA] at h1 ⊢
    exact ⟨h1.put k x _ rfl, by rw [List.length_set]; exact h2⟩
  · obtain ⟨h1, h2⟩ := h j hj
    unfold updL
    rw [if_neg e]
    refine ⟨rowKp h1 (Kp.setCell (Kp.refl (fun k => k = b) w) ⟨b, k, none⟩ rfl _) fun g hg hb => ?_, h2⟩
    subst hb
    rw [ob_eq] at hg
    exact ha j i hj hi e g hg (by rw [hA]; rfl)
theorem Owns.addr {w : World} {B n c : Nat} {A : Option Addr} {l : List UInt8} (h : Owns w B (.slice A n c) l) (hn : 0 < l.length) : ∃ b, A = some ⟨b, 0, none⟩ := by
  rcases h.2 with ⟨hv, h0⟩ | ⟨g, cap, cur, hv, _⟩
  · omega
  · injection hv with h1 _ _
    exact ⟨g, h1⟩
end Go.Proofs.Ytofhdehigfdmkaa
