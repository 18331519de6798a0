/- APPEND on slices of bytes that the call itself made. -/
import Derived.Test.YtofhdehigfdmkaaM
import Derived.Maps.AppendAt
import Derived.RegionTactic
import Derived.OwnWalk
namespace Go.Proofs.Ytofhdehigfdmkaa
open Go.RowKit

/-- v owns just the bytes l, from block 'base' on -/
def Owns (w : World) (base : Nat) (v : Value) (l : List UInt8) : Prop := w.ownsRow base 5 1 v l.length (l.map byteV)
theorem bytes_get (l : List UInt8) (k : Nat) (hk : k < l.length) : (l.map byteV)[k]? = some (.int .u8 ((l.getD k 0).toNat : Int)) := by
  simp [byteV, List.getD, hk]
theorem bytes_one (l : List UInt8) : ∀ u ∈ l.map byteV, u.oneCell' = true := by
  intro u hu
  obtain ⟨x, _, rfl⟩ := List.mem_map.1 hu
  rfl
theorem Owns.reads {w : World} {base c : Nat} {A : Option Addr} {l : List UInt8} (h : Owns w base (.slice A l.length c) l) : Rd w w.heap.size A l := by
  rcases h.2 with ⟨hv, hn⟩ | ⟨g, cap, cur, hv, hg, hh, hnc, hm, hs, ht⟩
  · left; exact List.eq_nil_of_length_eq_zero hn
  · right
    injection hv with hA _ _
    subst hA
    have hlt : g < w.heap.size := by
      apply Nat.lt_of_not_le; intro hge; rw [Array.getElem?_eq_none hge] at hh; cases hh
    refine ⟨g, 0, rfl, hlt, fun k hk => ?_⟩
    rw [cell_of_row w g (0 + k) cur 5 (0, 0) hh, Nat.zero_add, ← bytes_get l k hk, ← ht]
    simp [hk]
theorem Owns.shape {w : World} {base : Nat} {v : Value} {l : List UInt8} (h : Owns w base v l) : ∃ A c, v = .slice A l.length c ∧ l.length ≤ c ∧ c ≤ maxLen := by
  rcases h.2 with ⟨hv, hn⟩ | ⟨g, cap, cur, hv, hg, hh, hnc, hm, hs, ht⟩
  · exact ⟨none, 0, by rw [hv, hn], by omega, by unfold maxLen; omega⟩
  · exact ⟨some ⟨g, 0, none⟩, cap, hv, hnc, hm⟩
/-- []byte{} -/
theorem Owns.fresh (w : World) (base : Nat) (hb : base ≤ w.heap.size) : Owns (w.alloc (.cells #[] 5)) base (.slice (some ⟨w.heap.size, 0, none⟩) 0 0) [] :=
  World.ownsRow_made w #[] 0 hb (by unfold maxLen; omega) rfl

/-- what an append leaves: the old row grown, or a new one -/
def Grew (w w' : World) (v v' : Value) : Prop := w.grownBy w' v.ownBlock ∧ (v'.ownBlock = v.ownBlock ∨ v'.ownBlock = some w.heap.size)

theorem run_append_bytes (w : World) (base ty : Nat) (v : Value) (l m : List UInt8) (hown : Owns w base v l) (B : Nat) (A : Option Addr) (c : Nat) (hr : Rd w B A m)
    (hb : l.length + m.length ≤ 140737488355328) (hbase : base ≤ w.heap.size) :
    ∃ v' w', (Builtin.append_ #[22, 22] ty #[v, .slice A m.length c]).run Try.prog w = .ok v' w' ∧ Owns w' base v' (l ++ m) ∧ Grew w w' v v' := by
  obtain ⟨i0, hi, hz0, hz1, hz2⟩ := info_parts info5
  cases A with
  | none =>
    have hm : m = [] := by
      rcases hr with h | ⟨b, off, hA, _⟩
      · exact h
      · cases hA
    subst hm
    refine ⟨v, w, ?_, by simpa using hown, ⟨⟨rfl, rfl, rfl, Nat.le_refl _, fun _ _ _ => rfl⟩, .inl rfl⟩⟩
    rcases hown.2 with ⟨rfl, hn⟩ | ⟨g, cap, cur, rfl, _, _, hnc, _⟩
    · simp [Builtin.append_, run_underlying Try.underlying22, sizeOf, typeInfo, hi, Builtin.lenOf, Builtin.firstCells]
    · simp [Builtin.append_, run_underlying Try.underlying22, sizeOf, typeInfo, hi, Builtin.lenOf, Builtin.firstCells, hnc, storeCells]
  | some ad =>
    have hcells : ∀ j u, (m.map byteV)[j]? = some u → w.cell? (ad.add j) = some u := by
      intro j u hu
      have hj : j < m.length := by
        have := (List.getElem?_eq_some_iff.1 hu).1
        simpa using this
      rcases hr with rfl | ⟨b, off, hA, hb, hc⟩
      · simp at hj
      · injection hA with hA
        subst hA
        rw [bytes_get m j hj] at hu
        rw [← hu, ← hc j hj, Go.WideShapes.add_plain]
    obtain ⟨v', w', hrun, h2, h3, _, h5⟩ := run_append_own_at (P := Try.prog) w base 22 ty 5 i0 (.int .u8 0) 1 1 Try.underlying22 hi hz0 hz1 hz2 rfl (by omega) v l.length (l.map byteV) hown ad m.length c (m.map byteV) (by simp) hcells (bytes_one m)
      (by unfold maxLen; omega) (by omega) hbase
    refine ⟨v', w', hrun, ?_, h3, h5⟩
    unfold Owns
    rw [List.length_append, List.map_append]
    exact h2

theorem wp_append_bytes {w : World} {o : Oper} {a : Act} {K : Act → World → Prop} {Q : Exit → Act → World → Prop} (s x : Operand)
    (ho : o.op = .call { callee := .builtin .append, args := #[s, x], argTypes := #[22, 22] })
    (base : Nat) (v : Value) (l m : List UInt8) (hs : a.eval s = v) (hown : Owns w base v l) (B : Nat) (A : Option Addr) (c : Nat) (hx : a.eval x = .slice A m.length c) (hr : Rd w B A m)
    (hb : l.length + m.length ≤ 140737488355328) (hbase : base ≤ w.heap.size)
    (h : ∀ (A' : Option Addr) (c' : Nat) w' (r : List UInt8), Hid (r = l ++ m) → r.length ≤ c' → Owns w' base (.slice A' r.length c') r → Grew w w' v (.slice A' r.length c') → K (a.put o.dst (.slice A' r.length c')) w') : o.wp Try.prog a w K Q := by
  obtain ⟨v', w', hrun, h2, h3⟩ := run_append_bytes w base o.type v l m hown B A c hr hb hbase
  obtain ⟨A', c', rfl, hlc, _⟩ := h2.shape
  unfold Oper.wp execOp
  simp only [ho, resolve, invoke, builtin, Sem.run_bind, Sem.run_pure, Result.andThen_ok, List.map_toArray, List.map_cons, List.map_nil, hs, hx, hrun]
  exact h A' c' w' _ rfl hlc h2 h3

theorem wpList_append_bytes {w : World} {ops : Array Oper} {rest : List Oper} {o : Oper} {a : Act} {Q : Exit → Act → World → Prop} (hgd : o.guard = none) (s x : Operand)
    (ho : o.op = .call { callee := .builtin .append, args := #[s, x], argTypes := #[22, 22] })
    (base : Nat) (v : Value) (l m : List UInt8) (hs : a.eval s = v) (hown : Owns w base v l) (B : Nat) (A : Option Addr) (c : Nat) (hx : a.eval x = .slice A m.length c) (hr : Rd w B A m)
    (hb : l.length + m.length ≤ 140737488355328) (hbase : base ≤ w.heap.size)
    (h : ∀ (A' : Option Addr) (c' : Nat) w' (r : List UInt8), Hid (r = l ++ m) → r.length ≤ c' → Owns w' base (.slice A' r.length c') r → Grew w w' v (.slice A' r.length c') → wpList Try.prog ops Q rest (a.put o.dst (.slice A' r.length c')) w') : wpList Try.prog ops Q (o :: rest) a w :=
  wpList_plain hgd fun _ hK => wp_append_bytes s x ho base v l m hs hown B A c hx hr hb hbase fun A' c' w' r h0 h1 h2 h3 => hK _ _ (h A' c' w' r h0 h1 h2 h3)

theorem Below.grew {B : Nat} {a w w' : World} {v v' : Value} (h : Below B a w) (hg : Grew w w' v v') (hB : B ≤ w.heap.size) (hv : ∀ k, v.ownBlock = some k → B ≤ k) : Below B a w' :=
  h.grown hg.1 hB hv
theorem Owns.from_ {w : World} {base : Nat} {v : Value} {l : List UInt8} (h : Owns w base v l) : ∀ k, v.ownBlock = some k → base ≤ k := fun k hk => (World.ownsRow.lt h k hk).1
end Go.Proofs.Ytofhdehigfdmkaa
