/- WORDS for the document's cache: things in a row. -/
import Derived.Test.YtghakgepchlpgaaM
import Derived.Laws.OwnMore
namespace Go.Proofs.Ytghakgepchlpgaa
open Go.RowKit Go.Maps
/-- a thing of the document's cache -/
structure Th where
  n : Int
  x : Int
  p : Int
def noTh : Th := ⟨0, 0, 0⟩
def Th.cells (t : Th) : Array Value := #[.int .i64 t.n, .int .i64 t.x, .int .i64 t.p]
/-- the cells of things -/
def flat3 : List Th → List Value
  | [] => []
  | e :: l => .int .i64 e.n :: .int .i64 e.x :: .int .i64 e.p :: flat3 l
theorem flat3_length : ∀ l : List Th, (flat3 l).length = l.length * 3
  | [] => rfl
  | e :: l => by simp [flat3, flat3_length l]; omega
theorem flat3_append : ∀ l m : List Th, flat3 (l ++ m) = flat3 l ++ flat3 m
  | [], _ => rfl
  | e :: l, m => by simp [flat3, flat3_append l m]
theorem flat3_get : ∀ (l : List Th) (k : Nat), k < l.length → (flat3 l)[k * 3]? = some (.int .i64 (l.getD k noTh).n) ∧ (flat3 l)[k * 3 + 1]? = some (.int .i64 (l.getD k noTh).x) ∧ (flat3 l)[k * 3 + 2]? = some (.int .i64 (l.getD k noTh).p)
  | [], k, h => by simp at h
  | e :: l, 0, _ => ⟨rfl, rfl, rfl⟩
  | e :: l, k + 1, h => by
    have := flat3_get l k (by simpa using h)
    rw [show (k + 1) * 3 = k * 3 + 1 + 1 + 1 by omega, show k * 3 + 1 + 1 + 1 + 1 = k * 3 + 1 + 1 + 1 + 1 by omega, show k * 3 + 1 + 1 + 1 + 2 = k * 3 + 2 + 1 + 1 + 1 by omega]
    simp only [flat3, List.getElem?_cons_succ, List.getD_cons_succ]
    exact this
theorem flat3_set : ∀ (l : List Th) (k : Nat) (x : Int), k < l.length → (flat3 l).set (k * 3 + 2) (.int .i64 x) = flat3 (l.set k { l.getD k noTh with p := x })
  | [], k, _, h => by simp at h
  | e :: l, 0, _, _ => rfl
  | e :: l, k + 1, x, h => by
    rw [show (k + 1) * 3 + 2 = k * 3 + 2 + 1 + 1 + 1 by omega]
    simp only [flat3, List.set_cons_succ, List.getD_cons_succ]
    rw [flat3_set l k x (by simpa using h)]
theorem flat3_one : ∀ (l : List Th), ∀ u ∈ flat3 l, u.oneCell' = true
  | [], u, h => by simp [flat3] at h
  | e :: l, u, h => by
    simp only [flat3, List.mem_cons] at h
    rcases h with rfl | rfl | rfl | h
    · rfl
    · rfl
    · rfl
    · exact flat3_one l u h
theorem info86 : (Try.prog.info? 86).map (fun i => (i.zero, i.size, i.bytes)) = some (some (.agg #[.int .i64 0, .int .i64 0, .int .i64 0]), 3, 24) := by kernel_rfl
theorem size86 : (Try.prog.info? 86).map (·.size) = some 3 := by kernel_rfl
/-- v owns just the things l -/
def OwnsT (w : World) (base : Nat) (v : Value) (l : List Th) : Prop := w.ownsRow base 86 3 v l.length (flat3 l)
theorem OwnsT.nil (w : World) (base : Nat) : OwnsT w base (.slice none 0 0) [] := World.ownsRow_nil w base 86 3
theorem OwnsT.shape {w : World} {base : Nat} {v : Value} {l : List Th} (h : OwnsT w base v l) : ∃ A c, v = .slice A l.length c ∧ l.length ≤ c := by
  rcases h.2 with ⟨hv, hn⟩ | ⟨g, cap, cur, hv, _, _, hnc, _⟩
  · exact ⟨none, 0, by rw [hv, hn], by omega⟩
  · exact ⟨some ⟨g, 0, none⟩, cap, hv, hnc⟩
theorem OwnsT.some_ {w : World} {base c n : Nat} {A : Option Addr} {l : List Th} (h : OwnsT w base (.slice A n c) l) (hl : 0 < l.length) : ∃ g, A = some ⟨g, 0, none⟩ ∧ base ≤ g ∧ n = l.length := by
  rcases h.2 with ⟨_, hn⟩ | ⟨g, cap, cur, hv, hg, _⟩
  · omega
  · injection hv with hA h2 _
    exact ⟨g, hA, hg, h2⟩
theorem OwnsT.at_ {w : World} {base g c : Nat} {l : List Th} (h : OwnsT w base (.slice (some ⟨g, 0, none⟩) l.length c) l) (k : Nat) (hk : k < l.length) :
    w.cell? ⟨g, k * 3, none⟩ = some (.int .i64 (l.getD k noTh).n) ∧ w.cell? ⟨g, k * 3 + 1, none⟩ = some (.int .i64 (l.getD k noTh).x) ∧ w.cell? ⟨g, k * 3 + 2, none⟩ = some (.int .i64 (l.getD k noTh).p) :=
  ⟨by rw [World.ownsRow.cellAt h (k * 3) (by omega)]; exact (flat3_get l k hk).1, by rw [World.ownsRow.cellAt h (k * 3 + 1) (by omega)]; exact (flat3_get l k hk).2.1, by rw [World.ownsRow.cellAt h (k * 3 + 2) (by omega)]; exact (flat3_get l k hk).2.2⟩
theorem OwnsT.free {w : World} {base g c : Nat} {l : List Th} (h : OwnsT w base (.slice (some ⟨g, 0, none⟩) l.length c) l) (k : Nat) : w.frozen? ⟨g, k, none⟩ = false := World.ownsRow.frozenAt h k
theorem OwnsT.put {w : World} {base g c : Nat} {l : List Th} (h : OwnsT w base (.slice (some ⟨g, 0, none⟩) l.length c) l) (k : Nat) (hk : k < l.length) (x : Int) :
    OwnsT (w.setCell ⟨g, k * 3 + 2, none⟩ (.int .i64 x)) base (.slice (some ⟨g, 0, none⟩) l.length c) (l.set k { l.getD k noTh with p := x }) := by
  have := (World.ownsRow.stored h (k * 3 + 2) (.int .i64 x)).1
  rw [flat3_set l k x hk] at this
  unfold OwnsT
  rw [List.length_set]
  exact this
theorem OwnsT.kept {w w' : World} {base : Nat} {v : Value} {l : List Th} {S : Nat → Prop} (h : OwnsT w base v l) (hk : Kept S w w') (hs : ∀ g, v.ownBlock = some g → ¬ S g) : OwnsT w' base v l := by
  obtain ⟨h1, h2⟩ := h
  refine ⟨h1, ?_⟩
  rcases h2 with h2 | ⟨g, cap, cur, hv, hg, hh, r⟩
  · exact .inl h2
  · refine .inr ⟨g, cap, cur, hv, hg, ?_, r⟩
    subst hv
    have hlt : g < w.heap.size := by
      apply Nat.lt_of_not_le; intro hge; rw [Array.getElem?_eq_none hge] at hh; cases hh
    exact (hk.block g hlt (hs g rfl)).trans hh
theorem OwnsT.lt {w : World} {base : Nat} {v : Value} {l : List Th} (h : OwnsT w base v l) : ∀ k, v.ownBlock = some k → base ≤ k ∧ k < w.heap.size := World.ownsRow.lt h
theorem OwnsT.mono {w : World} {base b' : Nat} {v : Value} {l : List Th} (h : OwnsT w base v l) (hb : b' ≤ base) : OwnsT w b' v l :=
  ⟨h.1, h.2.imp id fun ⟨g, cap, cur, hv, hg, rest⟩ => ⟨g, cap, cur, hv, Nat.le_trans hb hg, rest⟩⟩
/-- append(v, x): a thing, laid down ahead of it -/
theorem wp_append_th {w : World} {o : Oper} {a : Act} {K : Act → World → Prop} {Q : Exit → Act → World → Prop} (s x : Operand)
    (ho : o.op = .call { callee := .builtin .append, args := #[s, x], argTypes := #[69, 69] })
    (base : Nat) (v : Value) (l : List Th) (z : Th) (hs : a.eval s = v) (hown : OwnsT w base v l) (g c : Nat) (hx : a.eval x = .slice (some ⟨g, 0, none⟩) 1 c) (hr : Blk w g 86 z.cells)
    (hb : (l.length + 1) * 24 ≤ 140737488355328) (hbase : base ≤ w.heap.size)
    (h : ∀ (A' : Option Addr) (c' : Nat) w' (r : List Th), Hid (r = l ++ [z]) → OwnsT w' base (.slice A' r.length c') r → w.grownBy w' v.ownBlock → ((Value.slice A' r.length c').ownBlock = v.ownBlock ∨ (Value.slice A' r.length c').ownBlock = some w.heap.size) →
      K (a.put o.dst (.slice A' r.length c')) w') : o.wp Try.prog a w K Q := by
  obtain ⟨i0, hi, hz0, hz1, hz2⟩ := info_parts info86
  obtain ⟨v', w', hrun, h2, h3, _, h5⟩ := run_append_own_at (P := Try.prog) w base 69 o.type 86 i0 (.agg #[.int .i64 0, .int .i64 0, .int .i64 0]) 3 24 Try.underlying69 hi hz0 hz1 hz2 rfl (by omega) v l.length (flat3 l) hown ⟨g, 0, none⟩ 1 c (flat3 [z]) (by simp [flat3]) (fun j u hj => by
      rw [Go.WideShapes.add_plain, Nat.zero_add, hr.cell j, ← hj]
      simp [flat3, Th.cells]) (flat3_one _) (by unfold maxLen; omega) (by omega) hbase
  have h2' : OwnsT w' base v' (l ++ [z]) := by
    unfold OwnsT
    rw [List.length_append, flat3_append]
    exact h2
  obtain ⟨A', c', rfl, hlc⟩ := h2'.shape
  unfold Oper.wp
  unfold execOp
  simp only [ho, resolve, invoke, builtin, Sem.run_bind, Sem.run_pure, Result.andThen_ok, List.map_toArray, List.map_cons, List.map_nil, hs, hx, hrun]
  exact h A' c' w' _ rfl h2' h3 h5
theorem wpList_append_th {w : World} {ops : Array Oper} {rest : List Oper} {o : Oper} {a : Act} {Q : Exit → Act → World → Prop} (hgd : o.guard = none) (s x : Operand)
    (ho : o.op = .call { callee := .builtin .append, args := #[s, x], argTypes := #[69, 69] })
    (base : Nat) (v : Value) (l : List Th) (z : Th) (hs : a.eval s = v) (hown : OwnsT w base v l) (g c : Nat) (hx : a.eval x = .slice (some ⟨g, 0, none⟩) 1 c) (hr : Blk w g 86 z.cells)
    (hb : (l.length + 1) * 24 ≤ 140737488355328) (hbase : base ≤ w.heap.size)
    (h : ∀ (A' : Option Addr) (c' : Nat) w' (r : List Th), Hid (r = l ++ [z]) → OwnsT w' base (.slice A' r.length c') r → w.grownBy w' v.ownBlock → ((Value.slice A' r.length c').ownBlock = v.ownBlock ∨ (Value.slice A' r.length c').ownBlock = some w.heap.size) →
      wpList Try.prog ops Q rest (a.put o.dst (.slice A' r.length c')) w') : wpList Try.prog ops Q (o :: rest) a w :=
  wpList_plain hgd fun _ hK => wp_append_th s x ho base v l z hs hown g c hx hr hb hbase fun A' c' w' r h0 h1 h2 h3 => hK _ _ (h A' c' w' r h0 h1 h2 h3)
/-- the document's cache in memory -/
structure RC (w : World) (cr : Nat) (P hit miss : Int) (LV : Value) (M : List Th) : Prop where
  blk : Blk w cr 71 #[.int .i64 P, .int .i64 hit, .int .i64 miss, LV]
  own : OwnsT w 0 LV M
/-- its blocks -/
def BR (cr : Nat) (LV : Value) (k : Nat) : Prop := k = cr ∨ LV.ownBlock = some k
theorem RC.ne {w : World} {cr : Nat} {P hit miss : Int} {LV : Value} {M : List Th} (h : RC w cr P hit miss LV M) : LV.ownBlock ≠ some cr := by
  intro e
  rcases h.own.2 with ⟨rfl, _⟩ | ⟨g, cap, cur, rfl, hb, hg, _⟩
  · simp [Value.ownBlock] at e
  · have hgc : g = cr := by simpa [Value.ownBlock] using e
    subst hgc
    have hb := h.blk
    unfold Blk at hb
    rw [hb] at hg
    injection hg with hg
    injection hg with _ h2 _
    cases h2
theorem RC.kept {w w' : World} {cr : Nat} {P hit miss : Int} {LV : Value} {M : List Th} {S : Nat → Prop} (h : RC w cr P hit miss LV M) (hk : Kept S w w') (hs : ∀ k, BR cr LV k → ¬ S k) : RC w' cr P hit miss LV M :=
  ⟨h.blk.kept hk (hs cr (.inl rfl)), h.own.kept hk fun g hg => hs g (.inr hg)⟩
theorem RC.lt {w : World} {cr : Nat} {P hit miss : Int} {LV : Value} {M : List Th} (h : RC w cr P hit miss LV M) : ∀ k, BR cr LV k → k < w.heap.size := by
  rintro k (rfl | hk)
  · exact h.blk.lt
  · exact (h.own.lt k hk).2
end Go.Proofs.Ytghakgepchlpgaa
