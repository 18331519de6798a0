/- Slices of pairs that came in. -/
import Derived.Test.YtghakgepchlpgaaL
import Derived.Test.YtghakgepchlpgaaN
namespace Go.Proofs.Ytghakgepchlpgaa
open Go.ChangeShapes Go.WideShapes Go.ChangeAt Go.RowKit
/-- one pair -/
theorem open_pair {H : Type} {enc : TypeId × Value → H} {W : World} {base n : Nat} {spare : Nat → Bool} {held : Bool} {cs : List Value} {y : DataW H × List MemPlace} (h : DataW.trod enc Try.prog W base spare held n 31 cs = some y) (hl : cs.length = 2) :
    ∃ a b : Int, cs = [.int .i64 a, .int .i64 b] ∧ Wf a ∧ Wf b := by
  obtain ⟨y0, y1, m, _, _, h0, h1⟩ := trod_struct2 Try.underlying31 h
  match cs, hl with
  | [u, v], _ =>
    obtain ⟨a, e0, _, wa⟩ := DataW.trod_int Try.underlying3 h0
    obtain ⟨b, e1, _, wb⟩ := DataW.trod_int Try.underlying3 h1
    have c3 : Try.prog.cellsOf 3 = 1 := by kernel_rfl
    simp [c3] at e0 e1
    exact ⟨a, b, by rw [e0, e1], wa, wb⟩
theorem open_uses {H : Type} {enc : TypeId × Value → H} {W : World} {base : Nat} {v : Value} {d : DataW H} {p : List MemPlace}
    (hv : Value.okWide Try.prog W .any base 23 v) (h : DataW.Trod enc Try.prog W 0 (fun _ => true) true 23 v d p) :
    ∃ (A : Option Addr) (cap : Nat) (l : List (Int × Int)), v = .slice A l.length cap ∧ Ru W W.heap.size A l ∧ l.length ≤ maxLen ∧ (∀ e ∈ l, Wf e.1 ∧ Wf e.2) := by
  obtain ⟨a0, len, cap, rfl⟩ := okWide_slice Try.underlying23 hv
  obtain ⟨fuel, hf⟩ := h
  rcases Go.Deep.open_slice Try.underlying23 hf with ⟨hcs, _⟩ | ⟨a, l, c, m, n, D, Pl, hcs, _, hlc, hcm, hm, _, hel⟩
  · simp [Value.cells] at hcs
    obtain ⟨rfl, rfl, rfl⟩ := hcs
    exact ⟨none, 0, [], rfl, .inl rfl, by simp, fun e he => nomatch he⟩
  · simp [Value.cells] at hcs
    obtain ⟨rfl, rfl, rfl⟩ := hcs
    simp only [if_true] at hm
    have c31 : Try.prog.cellsOf 31 = 2 := by kernel_rfl
    rw [c31] at hel
    have hex : ∀ i, i < len → ∃ v : Int × Int, (W.cell? (a.add (i * 2)) = some (.int .i64 v.1) ∧ W.cell? ((a.add (i * 2)).add 1) = some (.int .i64 v.2)) ∧ Wf v.1 ∧ Wf v.2 := by
      intro i hi
      obtain ⟨cs', hc, ht⟩ := hel i (by omega)
      obtain ⟨_, hlen, hget⟩ := World.cells?_some hc
      obtain ⟨x, y, rfl, wx, wy⟩ := open_pair ht hlen
      have h0 := hget 0 (by omega)
      have h1 := hget 1 (by omega)
      rw [show (a.add (i * 2)).add 0 = a.add (i * 2) by simp [Addr.add]] at h0
      exact ⟨(x, y), ⟨h0, h1⟩, wx, wy⟩
    obtain ⟨V, hV⟩ := Go.Deep.choose_lt hex
    refine ⟨some a, cap, (List.range len).map V, by simp, ?_, by simp; omega, fun e he => ?_⟩
    · by_cases h0 : len = 0
      · left; subst h0; rfl
      · right
        obtain ⟨b, off, spot⟩ := a
        have hspot : spot = none := by
          have := World.cell?_spot (hV 0 (by omega)).1.1
          simpa [Addr.add] using this
        subst hspot
        refine ⟨b, off, rfl, ?_, fun k hk => ?_⟩
        · have := World.block_lt_of_cell? _ _ (hV 0 (by omega)).1.1
          simpa [Addr.add] using this
        · have hk' : k < len := by simpa using hk
          have hg : ((List.range len).map V).getD k (0, 0) = V k := by simp [List.getD, hk']
          rw [hg]
          have h1 := (hV k hk').1
          rw [Go.WideShapes.add_plain, Go.WideShapes.add_plain] at h1
          exact h1
    · obtain ⟨i, hi, rfl⟩ := List.mem_map.1 he
      exact (hV i (by simpa using hi)).2
end Go.Proofs.Ytghakgepchlpgaa
