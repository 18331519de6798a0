/- SLICES OF INTS: read, and owned by the call. -/
import Derived.Test.YtghakgepchlpgaaK
import Derived.Maps.AppendAt
import Derived.RegionTactic
import Derived.OwnWalk
namespace Go.Proofs.Ytghakgepchlpgaa
open Go.RowKit

def intV (x : Int) : Value := .int .i64 x
theorem info3 : (Try.prog.info? 3).map (fun i => (i.zero, i.size, i.bytes)) = some (some (.int .i64 0), 1, 8) := by kernel_rfl
/-- the cells that a slice's ints stand in -/
def Ri (w : World) (B : Nat) (A : Option Addr) (l : List Int) : Prop :=
  l = [] ∨ ∃ b off, A = some ⟨b, off, none⟩ ∧ b < B ∧ ∀ k, k < l.length → w.cell? ⟨b, off + k, none⟩ = some (.int .i64 (l.getD k 0))
theorem Ri.keep {w w' : World} {B : Nat} {A : Option Addr} {l : List Int} (h : Ri w B A l) (hk : ∀ p : Addr, p.block < B → w'.cell? p = w.cell? p) : Ri w' B A l := by
  rcases h with h | ⟨b, off, hA, hb, hc⟩
  · exact .inl h
  · exact .inr ⟨b, off, hA, hb, fun k hlt => (hk _ hb).trans (hc k hlt)⟩
theorem Ri.below {w w' : World} {B B' : Nat} {A : Option Addr} {l : List Int} (h : Ri w B A l) (hb : Below B' w w') (hB : B ≤ B') : Ri w' B A l :=
  h.keep fun p hp => hb.cell (by omega)
theorem Ri.mono {w : World} {B B' : Nat} {A : Option Addr} {l : List Int} (h : Ri w B A l) (hB : B ≤ B') : Ri w B' A l := by
  rcases h with h | ⟨b, off, hA, hb, hc⟩
  · exact .inl h
  · exact .inr ⟨b, off, hA, by omega, hc⟩
/-- v owns just the ints l, from block 'base' on -/
def OwnsI (w : World) (base : Nat) (v : Value) (l : List Int) : Prop := w.ownsRow base 3 1 v l.length (l.map intV)
theorem ints_get (l : List Int) (k : Nat) (hk : k < l.length) : (l.map intV)[k]? = some (.int .i64 (l.getD k 0)) := by
  simp [intV, List.getD, hk]
theorem ints_one (l : List Int) : ∀ u ∈ l.map intV, u.oneCell' = true := by
  intro u hu
  obtain ⟨x, _, rfl⟩ := List.mem_map.1 hu
  rfl
theorem OwnsI.reads {w : World} {base c : Nat} {A : Option Addr} {l : List Int} (h : OwnsI w base (.slice A l.length c) l) : Ri w w.heap.size A l := by
  rcases h.2 with ⟨hv, hn⟩ | ⟨g, cap, cur, hv, hg, hh, hnc, hm, hs, ht⟩
  · left; exact List.eq_nil_of_length_eq_zero hn
  · right
    injection hv with hA _ _
    subst hA
    have hlt : g < w.heap.size := by
      apply Nat.lt_of_not_le; intro hge; rw [Array.getElem?_eq_none hge] at hh; cases hh
    refine ⟨g, 0, rfl, hlt, fun k hk => ?_⟩
    rw [cell_of_row w g (0 + k) cur 3 (0, 0) hh, Nat.zero_add, ← ints_get l k hk, ← ht]
    simp [hk]
theorem OwnsI.shape {w : World} {base : Nat} {v : Value} {l : List Int} (h : OwnsI w base v l) : ∃ A c, v = .slice A l.length c ∧ l.length ≤ c ∧ c ≤ maxLen := by
  rcases h.2 with ⟨hv, hn⟩ | ⟨g, cap, cur, hv, hg, hh, hnc, hm, hs, ht⟩
  · exact ⟨none, 0, by rw [hv, hn], by omega, by unfold maxLen; omega⟩
  · exact ⟨some ⟨g, 0, none⟩, cap, hv, hnc, hm⟩
theorem OwnsI.nil (w : World) (base : Nat) : OwnsI w base (.slice none 0 0) [] := World.ownsRow_nil w base 3 1
def Grew (w w' : World) (v v' : Value) : Prop := w.grownBy w' v.ownBlock ∧ (v'.ownBlock = v.ownBlock ∨ v'.ownBlock = some w.heap.size)
theorem run_append_ints (w : World) (base ty : Nat) (v : Value) (l m : List Int) (hown : OwnsI w base v l) (B : Nat) (A : Option Addr) (c : Nat) (hr : Ri w B A m) (hm0 : m ≠ [])
    (hb : l.length + m.length ≤ 17592186044416) (hbase : base ≤ w.heap.size) :
    ∃ v' w', (Builtin.append_ #[29, 29] ty #[v, .slice A m.length c]).run Try.prog w = .ok v' w' ∧ OwnsI w' base v' (l ++ m) ∧ Grew w w' v v' := by
  obtain ⟨i0, hi, hz0, hz1, hz2⟩ := info_parts info3
  rcases hr with h | ⟨b, off, rfl, hb', hc⟩
  · exact absurd h hm0
  · have hcells : ∀ j u, (m.map intV)[j]? = some u → w.cell? ((⟨b, off, none⟩ : Addr).add j) = some u := by
      intro j u hu
      have hj : j < m.length := by
        have := (List.getElem?_eq_some_iff.1 hu).1
        simpa using this
      rw [ints_get m j hj] at hu
      rw [← hu, ← hc j hj, Go.WideShapes.add_plain]
    obtain ⟨v', w', hrun, h2, h3, _, h5⟩ := run_append_own_at (P := Try.prog) w base 29 ty 3 i0 (.int .i64 0) 1 8 Try.underlying29 hi hz0 hz1 hz2 rfl (by omega) v l.length (l.map intV) hown ⟨b, off, none⟩ m.length c (m.map intV) (by simp) hcells (ints_one m)
      (by unfold maxLen; omega) (by omega) hbase
    refine ⟨v', w', hrun, ?_, h3, h5⟩
    unfold OwnsI
    rw [List.length_append, List.map_append]
    exact h2
/-- append(v, x): the new one laid down ahead of it -/
theorem wpList_append_int {w : World} {ops : Array Oper} {rest : List Oper} {o : Oper} {a : Act} {Q : Exit → Act → World → Prop} (hgd : o.guard = none) (s x : Operand)
    (ho : o.op = .call { callee := .builtin .append, args := #[s, x], argTypes := #[29, 29] })
    (base : Nat) (v : Value) (l : List Int) (z : Int) (hs : a.eval s = v) (hown : OwnsI w base v l) (g c : Nat) (hx : a.eval x = .slice (some ⟨g, 0, none⟩) 1 c) (hr : w.cell? ⟨g, 0, none⟩ = some (.int .i64 z))
    (hb : l.length + 1 ≤ 17592186044416) (hbase : base ≤ w.heap.size)
    (h : ∀ (A' : Option Addr) (c' : Nat) w' (r : List Int), Hid (r = l ++ [z]) → r.length ≤ c' → OwnsI w' base (.slice A' r.length c') r → Grew w w' v (.slice A' r.length c') → wpList Try.prog ops Q rest (a.put o.dst (.slice A' r.length c')) w') : wpList Try.prog ops Q (o :: rest) a w := by
  refine wpList_plain hgd fun K hK => ?_
  obtain ⟨v', w', hrun, h2, h3⟩ := run_append_ints w base o.type v l [z] hown (g + 1) (some ⟨g, 0, none⟩) c (.inr ⟨g, 0, rfl, by omega, fun k hk => by
    have : k = 0 := by simp at hk; omega
    subst this; exact hr⟩) (by simp) hb hbase
  obtain ⟨A', c', rfl, hlc, _⟩ := h2.shape
  rw [show ([z] : List Int).length = 1 from rfl] at hrun
  unfold Oper.wp
  unfold execOp
  simp only [ho, resolve, invoke, builtin, Sem.run_bind, Sem.run_pure, Result.andThen_ok, List.map_toArray, List.map_cons, List.map_nil, hs, hx, hrun]
  exact hK _ _ (h A' c' w' _ rfl hlc h2 h3)
theorem Below.grew {B : Nat} {a w w' : World} {v v' : Value} (h : Below B a w) (hg : Grew w w' v v') (hB : B ≤ w.heap.size) (hv : ∀ k, v.ownBlock = some k → B ≤ k) : Below B a w' :=
  h.grown hg.1 hB hv
theorem OwnsI.from_ {w : World} {base : Nat} {v : Value} {l : List Int} (h : OwnsI w base v l) : ∀ k, v.ownBlock = some k → base ≤ k := fun k hk => (World.ownsRow.lt h k hk).1
theorem OwnsI.alloc {w : World} {base : Nat} {v : Value} {l : List Int} (h : OwnsI w base v l) (o : Obj) : OwnsI (w.alloc o) base v l := World.ownsRow.alloc h o
theorem OwnsI.below {w w' : World} {base : Nat} {v : Value} {l : List Int} (h : OwnsI w base v l) (hb : Below w.heap.size w w') : OwnsI w' base v l := by
  refine World.ownsRow.kept h (row := none) ⟨hb.os, hb.tape, hb.output, hb.size, fun k hk _ => hb.block k hk⟩ ?_
  cases hv : v.ownBlock with
  | none => exact .inl rfl
  | some g => exact .inr (by simp)
theorem OwnsI.mono {w : World} {base base' : Nat} {v : Value} {l : List Int} (h : OwnsI w base v l) (hb : base' ≤ base) : OwnsI w base' v l :=
  ⟨h.1, h.2.elim Or.inl (fun ⟨g, cap, cur, hv, hg, r⟩ => Or.inr ⟨g, cap, cur, hv, Nat.le_trans hb hg, r⟩)⟩
end Go.Proofs.Ytghakgepchlpgaa
