/- APPEND on slices of bytes that the call itself made. -/
import Derived.Test.YtghakgepchlpgaaDoorK
import Derived.Maps.AppendAt
import Derived.RegionTactic
import Derived.OwnWalk
import Derived.Laws.OwnMore
import Derived.Lib.SmallJoins
import Derived.Laws.BytesArg
namespace Go.Proofs.YtghakgepchlpgaaDoor
open Go.RowKit

theorem info5 : (Tryd.prog.info? 5).map (fun i => (i.zero, i.size, i.bytes)) = some (some (.int .u8 0), 1, 1) := by kernel_rfl
theorem made_arr (z : Value) (n : Nat) : madeCells #[z] n = arr n fun _ => z := by
  apply arr_of
  · rw [size_madeCells]
  · intro i hi
    simp [madeCells, hi, Nat.mod_one]
/-- make([]byte, n) -/
theorem make_bytes (n : Nat) (h : n ≤ 281474976710656) (u : World) :
    (Instr.makeSlice 35 (.int .i64 (n : Int)) (.int .i64 (n : Int))).run Tryd.prog u = .ok (.slice (some ⟨u.heap.size, 0, none⟩) n n) (u.alloc (.cells (arr n fun _ => .int .u8 0) 5)) := by
  obtain ⟨i0, hi, hz0, hz1, hz2⟩ := info_parts info5
  have hr := run_make (P := Tryd.prog) u 35 5 i0 (.int .u8 0) Tryd.underlying35 hi hz0 .i64 .i64 (n : Int) (n : Int) (by omega) (Int.le_refl _) (by rw [hz2]; omega) (by omega)
  rw [hz1, Int.toNat_natCast, Nat.mul_one] at hr
  rw [hr, show (Value.int IntKind.u8 0).cells = #[.int .u8 0] from rfl, made_arr]

theorem Rd.take {w : World} {B : Nat} {A : Option Addr} {l : List UInt8} (h : Rd w B A l) (n : Nat) : Rd w B A (l.take n) := by
  rcases h with rfl | ⟨b, off, hA, hb, hc⟩
  · left; simp
  · refine .inr ⟨b, off, hA, hb, fun k hk => ?_⟩
    have hk' : k < n ∧ k < l.length := by rw [List.length_take] at hk; omega
    rw [hc k hk'.2]
    congr 3
    simp [List.getD, hk'.1]
/-- v owns just the bytes l, from block 'base' on -/
def Owns (w : World) (base : Nat) (v : Value) (l : List UInt8) : Prop := w.ownsRow base 5 1 v l.length (l.map byteV)
theorem bytes_get (l : List UInt8) (k : Nat) (hk : k < l.length) : (l.map byteV)[k]? = some (.int .u8 ((l.getD k 0).toNat : Int)) := by
  simp [byteV, List.getD, hk]
theorem bytes_one (l : List UInt8) : ∀ u ∈ l.map byteV, u.oneCell' = true := by
  intro u hu
  obtain ⟨x, _, rfl⟩ := List.mem_map.1 hu
  rfl
theorem Owns.reads {w : World} {base c : Nat} {A : Option Addr} {l : List UInt8} (h : Owns w base (.slice A l.length c) l) : Rd w w.heap.size A l := by
  rcases h.2 with ⟨hv, hn⟩ | ⟨g, cap, cur, hv, hg, hh, hnc, hm, hs, ht⟩
  · left; exact List.eq_nil_of_length_eq_zero hn
  · right
    injection hv with hA _ _
    subst hA
    have hlt : g < w.heap.size := by
      apply Nat.lt_of_not_le; intro hge; rw [Array.getElem?_eq_none hge] at hh; cases hh
    refine ⟨g, 0, rfl, hlt, fun k hk => ?_⟩
    rw [cell_of_row w g (0 + k) cur 5 (0, 0) hh, Nat.zero_add, ← bytes_get l k hk, ← ht]
    simp [hk]
theorem Owns.shape {w : World} {base : Nat} {v : Value} {l : List UInt8} (h : Owns w base v l) : ∃ A c, v = .slice A l.length c ∧ l.length ≤ c ∧ c ≤ maxLen := by
  rcases h.2 with ⟨hv, hn⟩ | ⟨g, cap, cur, hv, hg, hh, hnc, hm, hs, ht⟩
  · exact ⟨none, 0, by rw [hv, hn], by omega, by unfold maxLen; omega⟩
  · exact ⟨some ⟨g, 0, none⟩, cap, hv, hnc, hm⟩
/-- []byte{} -/
theorem Owns.fresh (w : World) (base : Nat) (hb : base ≤ w.heap.size) : Owns (w.alloc (.cells #[] 5)) base (.slice (some ⟨w.heap.size, 0, none⟩) 0 0) [] :=
  World.ownsRow_made w #[] 0 hb (by unfold maxLen; omega) rfl

/-- what an append leaves: the old row grown, or a new one -/
def Grew (w w' : World) (v v' : Value) : Prop := w.grownBy w' v.ownBlock ∧ (v'.ownBlock = v.ownBlock ∨ v'.ownBlock = some w.heap.size)

theorem run_append_bytes (w : World) (base ty : Nat) (v : Value) (l m : List UInt8) (hown : Owns w base v l) (B : Nat) (A : Option Addr) (c : Nat) (hr : Rd w B A m)
    (hb : l.length + m.length ≤ 140737488355328) (hbase : base ≤ w.heap.size) :
    ∃ v' w', (Builtin.append_ #[35, 35] ty #[v, .slice A m.length c]).run Tryd.prog w = .ok v' w' ∧ Owns w' base v' (l ++ m) ∧ Grew w w' v v' := by
  obtain ⟨i0, hi, hz0, hz1, hz2⟩ := info_parts info5
  cases A with
  | none =>
    have hm : m = [] := by
      rcases hr with h | ⟨b, off, hA, _⟩
      · exact h
      · cases hA
    subst hm
    refine ⟨v, w, ?_, by simpa using hown, ⟨⟨rfl, rfl, rfl, Nat.le_refl _, fun _ _ _ => rfl⟩, .inl rfl⟩⟩
    rcases hown.2 with ⟨rfl, hn⟩ | ⟨g, cap, cur, rfl, _, _, hnc, _⟩
    · simp [Builtin.append_, run_underlying Tryd.underlying35, sizeOf, typeInfo, hi, Builtin.lenOf, Builtin.firstCells]
    · simp [Builtin.append_, run_underlying Tryd.underlying35, sizeOf, typeInfo, hi, Builtin.lenOf, Builtin.firstCells, hnc, storeCells]
  | some ad =>
    have hcells : ∀ j u, (m.map byteV)[j]? = some u → w.cell? (ad.add j) = some u := by
      intro j u hu
      have hj : j < m.length := by
        have := (List.getElem?_eq_some_iff.1 hu).1
        simpa using this
      rcases hr with rfl | ⟨b, off, hA, hb, hc⟩
      · simp at hj
      · injection hA with hA
        subst hA
        rw [bytes_get m j hj] at hu
        rw [← hu, ← hc j hj, Go.WideShapes.add_plain]
    obtain ⟨v', w', hrun, h2, h3, _, h5⟩ := run_append_own_at (P := Tryd.prog) w base 35 ty 5 i0 (.int .u8 0) 1 1 Tryd.underlying35 hi hz0 hz1 hz2 rfl (by omega) v l.length (l.map byteV) hown ad m.length c (m.map byteV) (by simp) hcells (bytes_one m)
      (by unfold maxLen; omega) (by omega) hbase
    refine ⟨v', w', hrun, ?_, h3, h5⟩
    unfold Owns
    rw [List.length_append, List.map_append]
    exact h2

theorem wp_append_bytes {w : World} {o : Oper} {a : Act} {K : Act → World → Prop} {Q : Exit → Act → World → Prop} (s x : Operand)
    (ho : o.op = .call { callee := .builtin .append, args := #[s, x], argTypes := #[35, 35] })
    (base : Nat) (v : Value) (l m : List UInt8) (hs : a.eval s = v) (hown : Owns w base v l) (B : Nat) (A : Option Addr) (c : Nat) (hx : a.eval x = .slice A m.length c) (hr : Rd w B A m)
    (hb : l.length + m.length ≤ 140737488355328) (hbase : base ≤ w.heap.size)
    (h : ∀ (A' : Option Addr) (c' : Nat) w' (r : List UInt8), Hid (r = l ++ m) → r.length ≤ c' → Owns w' base (.slice A' r.length c') r → Grew w w' v (.slice A' r.length c') → K (a.put o.dst (.slice A' r.length c')) w') : o.wp Tryd.prog a w K Q := by
  obtain ⟨v', w', hrun, h2, h3⟩ := run_append_bytes w base o.type v l m hown B A c hr hb hbase
  obtain ⟨A', c', rfl, hlc, _⟩ := h2.shape
  unfold Oper.wp execOp
  simp only [ho, resolve, invoke, builtin, Sem.run_bind, Sem.run_pure, Result.andThen_ok, List.map_toArray, List.map_cons, List.map_nil, hs, hx, hrun]
  exact h A' c' w' _ rfl hlc h2 h3

theorem wpList_append_bytes {w : World} {ops : Array Oper} {rest : List Oper} {o : Oper} {a : Act} {Q : Exit → Act → World → Prop} (hgd : o.guard = none) (s x : Operand)
    (ho : o.op = .call { callee := .builtin .append, args := #[s, x], argTypes := #[35, 35] })
    (base : Nat) (v : Value) (l m : List UInt8) (hs : a.eval s = v) (hown : Owns w base v l) (B : Nat) (A : Option Addr) (c : Nat) (hx : a.eval x = .slice A m.length c) (hr : Rd w B A m)
    (hb : l.length + m.length ≤ 140737488355328) (hbase : base ≤ w.heap.size)
    (h : ∀ (A' : Option Addr) (c' : Nat) w' (r : List UInt8), Hid (r = l ++ m) → r.length ≤ c' → Owns w' base (.slice A' r.length c') r → Grew w w' v (.slice A' r.length c') → wpList Tryd.prog ops Q rest (a.put o.dst (.slice A' r.length c')) w') : wpList Tryd.prog ops Q (o :: rest) a w :=
  wpList_plain hgd fun _ hK => wp_append_bytes s x ho base v l m hs hown B A c hx hr hb hbase fun A' c' w' r h0 h1 h2 h3 => hK _ _ (h A' c' w' r h0 h1 h2 h3)

theorem Below.grew {B : Nat} {a w w' : World} {v v' : Value} (h : Below B a w) (hg : Grew w w' v v') (hB : B ≤ w.heap.size) (hv : ∀ k, v.ownBlock = some k → B ≤ k) : Below B a w' :=
  h.grown hg.1 hB hv
theorem Owns.from_ {w : World} {base : Nat} {v : Value} {l : List UInt8} (h : Owns w base v l) : ∀ k, v.ownBlock = some k → base ≤ k := fun k hk => (World.ownsRow.lt h k hk).1
theorem Owns.at_ {w : World} {base g n c : Nat} {l : List UInt8} (h : Owns w base (.slice (some ⟨g, 0, none⟩) n c) l) (k : Nat) (hk : k < l.length) :
    w.cell? ⟨g, k, none⟩ = some (.int .u8 ((l.getD k 0).toNat : Int)) := by
  rcases h.2 with ⟨hv, hn⟩ | ⟨g', cap, cur, hv, hg, hh, hnc, hm, hs, ht⟩
  · cases hv
  · injection hv with hA _ _
    injection hA with hA
    injection hA with hA _ _
    subst hA
    rw [cell_of_row w g k cur 5 (0, 0) hh, ← bytes_get l k hk, ← ht]
    simp [hk]
theorem Owns.free {w : World} {base g n c : Nat} {l : List UInt8} (h : Owns w base (.slice (some ⟨g, 0, none⟩) n c) l) (k : Nat) : w.frozen? ⟨g, k, none⟩ = false := by
  rcases h.2 with ⟨hv, hn⟩ | ⟨g', cap, cur, hv, hg, hh, hnc, hm, hs, ht⟩
  · cases hv
  · injection hv with hA _ _
    injection hA with hA
    injection hA with hA _ _
    subst hA
    simp [World.frozen?, hh]
theorem Owns.put {w : World} {base g n c : Nat} {l : List UInt8} (h : Owns w base (.slice (some ⟨g, 0, none⟩) n c) l) (k : Nat) (x : UInt8) (u : Value) (hu : u = .int .u8 (x.toNat : Int)) :
    Owns (w.setCell ⟨g, k, none⟩ u) base (.slice (some ⟨g, 0, none⟩) n c) (l.set k x) := by
  subst hu
  refine ⟨by simp, ?_⟩
  rcases h.2 with ⟨hv, hn⟩ | ⟨g', cap, cur, hv, hg, hh, hnc, hm, hs, ht⟩
  · cases hv
  · right
    injection hv with hA hn hc
    injection hA with hA
    injection hA with hA _ _
    subst hA hn hc
    refine ⟨g, c, cur.setIfInBounds k (.int .u8 (x.toNat : Int)), by simp, hg, ?_, by simpa using hnc, hm, by simpa using hs, ?_⟩
    · exact Blk.put (t := 5) hh k _
    · rw [List.map_set, ← ht]
      simp [byteV, List.take_set]
theorem Owns.low {w : World} {base g n c : Nat} {l : List UInt8} (h : Owns w base (.slice (some ⟨g, 0, none⟩) n c) l) : base ≤ g := h.from_ g rfl
theorem Owns.some_ {w : World} {base c : Nat} {A : Option Addr} {l : List UInt8} (h : Owns w base (.slice A l.length c) l) (hl : l ≠ []) : ∃ g, A = some ⟨g, 0, none⟩ := by
  rcases h.2 with ⟨hv, hn⟩ | ⟨g', cap, cur, hv, hg, hh, hnc, hm, hs, ht⟩
  · exact absurd (List.eq_nil_of_length_eq_zero hn) hl
  · injection hv with hA _ _
    exact ⟨g', hA⟩
theorem Owns.drew {w : World} {base : Nat} {v : Value} {l : List UInt8} (h : Owns w base v l) : Owns w.drew base v l := h

theorem Owns.nil (w : World) (base : Nat) : Owns w base (.slice none 0 0) [] := World.ownsRow_nil w base 5 1
theorem Owns.alloc {w : World} {base : Nat} {v : Value} {l : List UInt8} (h : Owns w base v l) (o : Obj) : Owns (w.alloc o) base v l := World.ownsRow.alloc h o
theorem Owns.lt {w : World} {base : Nat} {v : Value} {l : List UInt8} (h : Owns w base v l) : ∀ k, v.ownBlock = some k → base ≤ k ∧ k < w.heap.size := World.ownsRow.lt h
theorem Owns.kept {w w' : World} {base : Nat} {v : Value} {l : List UInt8} {S : Nat → Prop} (h : Owns w base v l) (hk : Kept S w w') (hs : ∀ g, v.ownBlock = some g → ¬ S g) : Owns w' base v l := by
  obtain ⟨h1, h2⟩ := h
  refine ⟨h1, ?_⟩
  rcases h2 with h2 | ⟨g, cap, cur, hv, hg, hh, r⟩
  · exact .inl h2
  · refine .inr ⟨g, cap, cur, hv, hg, ?_, r⟩
    subst hv
    have hlt : g < w.heap.size := by
      apply Nat.lt_of_not_le; intro hge; rw [Array.getElem?_eq_none hge] at hh; cases hh
    exact (hk.block g hlt (hs g rfl)).trans hh
theorem Owns.below {w w' : World} {base : Nat} {v : Value} {l : List UInt8} (h : Owns w base v l) (hb : Below w.heap.size w w') : Owns w' base v l := h.kept (S := fun _ => False) (Kept.of_below hb) (fun _ _ e => e)
/-- the cells of pairs -/
def flat : List (Int × Int) → List Value
  | [] => []
  | e :: l => .int .i64 e.1 :: .int .i64 e.2 :: flat l
theorem flat_length : ∀ l : List (Int × Int), (flat l).length = l.length * 2
  | [] => rfl
  | e :: l => by simp [flat, flat_length l]; omega
theorem flat_append : ∀ l m : List (Int × Int), flat (l ++ m) = flat l ++ flat m
  | [], _ => rfl
  | e :: l, m => by simp [flat, flat_append l m]
theorem flat_fst : ∀ (l : List (Int × Int)) (k : Nat), k < l.length → (flat l)[k * 2]? = some (.int .i64 (l.getD k (0, 0)).1)
  | [], k, h => by simp at h
  | e :: l, 0, _ => rfl
  | e :: l, k + 1, h => by
    rw [show (k + 1) * 2 = k * 2 + 1 + 1 by omega]
    simp only [flat, List.getElem?_cons_succ, List.getD_cons_succ]
    exact flat_fst l k (by simpa using h)
theorem flat_snd : ∀ (l : List (Int × Int)) (k : Nat), k < l.length → (flat l)[k * 2 + 1]? = some (.int .i64 (l.getD k (0, 0)).2)
  | [], k, h => by simp at h
  | e :: l, 0, _ => rfl
  | e :: l, k + 1, h => by
    rw [show (k + 1) * 2 + 1 = k * 2 + 1 + 1 + 1 by omega]
    simp only [flat, List.getElem?_cons_succ, List.getD_cons_succ]
    exact flat_snd l k (by simpa using h)
theorem flat_set : ∀ (l : List (Int × Int)) (k : Nat) (x : Int), k < l.length → (flat l).set (k * 2 + 1) (.int .i64 x) = flat (l.set k ((l.getD k (0, 0)).1, x))
  | [], k, _, h => by simp at h
  | e :: l, 0, _, _ => rfl
  | e :: l, k + 1, x, h => by
    rw [show (k + 1) * 2 + 1 = k * 2 + 1 + 1 + 1 by omega]
    simp only [flat, List.set_cons_succ, List.getD_cons_succ]
    rw [flat_set l k x (by simpa using h)]
theorem flat_one : ∀ (l : List (Int × Int)), ∀ u ∈ flat l, u.oneCell' = true
  | [], u, h => by simp [flat] at h
  | e :: l, u, h => by
    simp only [flat, List.mem_cons] at h
    rcases h with rfl | rfl | h
    · rfl
    · rfl
    · exact flat_one l u h
theorem info69 : (Tryd.prog.info? 69).map (fun i => (i.zero, i.size, i.bytes)) = some (some (.agg #[.int .i64 0, .int .i64 0]), 2, 16) := by kernel_rfl
/-- v owns just the pairs l -/
def OwnsU (w : World) (base : Nat) (v : Value) (l : List (Int × Int)) : Prop := w.ownsRow base 69 2 v l.length (flat l)
theorem OwnsU.nil (w : World) (base : Nat) : OwnsU w base (.slice none 0 0) [] := World.ownsRow_nil w base 69 2
theorem OwnsU.shape {w : World} {base : Nat} {v : Value} {l : List (Int × Int)} (h : OwnsU w base v l) : ∃ A c, v = .slice A l.length c ∧ l.length ≤ c := by
  rcases h.2 with ⟨hv, hn⟩ | ⟨g, cap, cur, hv, _, _, hnc, _⟩
  · exact ⟨none, 0, by rw [hv, hn], by omega⟩
  · exact ⟨some ⟨g, 0, none⟩, cap, hv, hnc⟩
theorem OwnsU.some_ {w : World} {base c n : Nat} {A : Option Addr} {l : List (Int × Int)} (h : OwnsU w base (.slice A n c) l) (hl : 0 < l.length) : ∃ g, A = some ⟨g, 0, none⟩ ∧ base ≤ g ∧ n = l.length := by
  rcases h.2 with ⟨_, hn⟩ | ⟨g, cap, cur, hv, hg, _⟩
  · omega
  · injection hv with hA h2 _
    exact ⟨g, hA, hg, h2⟩
theorem OwnsU.at_ {w : World} {base g c : Nat} {l : List (Int × Int)} (h : OwnsU w base (.slice (some ⟨g, 0, none⟩) l.length c) l) (k : Nat) (hk : k < l.length) :
    w.cell? ⟨g, k * 2, none⟩ = some (.int .i64 (l.getD k (0, 0)).1) ∧ w.cell? ⟨g, k * 2 + 1, none⟩ = some (.int .i64 (l.getD k (0, 0)).2) :=
  ⟨by rw [World.ownsRow.cellAt h (k * 2) (by omega)]; exact flat_fst l k hk, by rw [World.ownsRow.cellAt h (k * 2 + 1) (by omega)]; exact flat_snd l k hk⟩
theorem OwnsU.free {w : World} {base g c : Nat} {l : List (Int × Int)} (h : OwnsU w base (.slice (some ⟨g, 0, none⟩) l.length c) l) (k : Nat) : w.frozen? ⟨g, k, none⟩ = false := World.ownsRow.frozenAt h k
theorem OwnsU.put {w : World} {base g c : Nat} {l : List (Int × Int)} (h : OwnsU w base (.slice (some ⟨g, 0, none⟩) l.length c) l) (k : Nat) (hk : k < l.length) (x : Int) :
    OwnsU (w.setCell ⟨g, k * 2 + 1, none⟩ (.int .i64 x)) base (.slice (some ⟨g, 0, none⟩) l.length c) (l.set k ((l.getD k (0, 0)).1, x)) := by
  have := (World.ownsRow.stored h (k * 2 + 1) (.int .i64 x)).1
  rw [flat_set l k x hk] at this
  unfold OwnsU
  rw [List.length_set]
  exact this
theorem OwnsU.kept {w w' : World} {base : Nat} {v : Value} {l : List (Int × Int)} {S : Nat → Prop} (h : OwnsU w base v l) (hk : Kept S w w') (hs : ∀ g, v.ownBlock = some g → ¬ S g) : OwnsU w' base v l := by
  obtain ⟨h1, h2⟩ := h
  refine ⟨h1, ?_⟩
  rcases h2 with h2 | ⟨g, cap, cur, hv, hg, hh, r⟩
  · exact .inl h2
  · refine .inr ⟨g, cap, cur, hv, hg, ?_, r⟩
    subst hv
    have hlt : g < w.heap.size := by
      apply Nat.lt_of_not_le; intro hge; rw [Array.getElem?_eq_none hge] at hh; cases hh
    exact (hk.block g hlt (hs g rfl)).trans hh
theorem OwnsU.lt {w : World} {base : Nat} {v : Value} {l : List (Int × Int)} (h : OwnsU w base v l) : ∀ k, v.ownBlock = some k → base ≤ k ∧ k < w.heap.size := World.ownsRow.lt h
/-- append(v, x): a pair, laid down ahead of it -/
theorem wpList_append_pair {w : World} {ops : Array Oper} {rest : List Oper} {o : Oper} {a : Act} {Q : Exit → Act → World → Prop} (hgd : o.guard = none) (s x : Operand)
    (ho : o.op = .call { callee := .builtin .append, args := #[s, x], argTypes := #[41, 41] })
    (base : Nat) (v : Value) (l : List (Int × Int)) (z : Int × Int) (hs : a.eval s = v) (hown : OwnsU w base v l) (g c : Nat) (hx : a.eval x = .slice (some ⟨g, 0, none⟩) 1 c) (hr : Blk w g 69 #[.int .i64 z.1, .int .i64 z.2])
    (hb : (l.length + 1) * 16 ≤ 140737488355328) (hbase : base ≤ w.heap.size)
    (h : ∀ (A' : Option Addr) (c' : Nat) w' (r : List (Int × Int)), Hid (r = l ++ [z]) → r.length ≤ c' → OwnsU w' base (.slice A' r.length c') r → w.grownBy w' v.ownBlock → ((Value.slice A' r.length c').ownBlock = v.ownBlock ∨ (Value.slice A' r.length c').ownBlock = some w.heap.size) →
      wpList Tryd.prog ops Q rest (a.put o.dst (.slice A' r.length c')) w') : wpList Tryd.prog ops Q (o :: rest) a w := by
  refine wpList_plain hgd fun K hK => ?_
  obtain ⟨i0, hi, hz0, hz1, hz2⟩ := info_parts info69
  obtain ⟨v', w', hrun, h2, h3, _, h5⟩ := run_append_own_at (P := Tryd.prog) w base 41 o.type 69 i0 (.agg #[.int .i64 0, .int .i64 0]) 2 16 Tryd.underlying41 hi hz0 hz1 hz2 rfl (by omega) v l.length (flat l) hown ⟨g, 0, none⟩ 1 c (flat [z]) (by simp [flat]) (fun j u hj => by
      rw [Go.WideShapes.add_plain, Nat.zero_add, hr.cell j, ← hj]
      simp [flat]) (flat_one _) (by unfold maxLen; omega) (by omega) hbase
  have h2' : OwnsU w' base v' (l ++ [z]) := by
    unfold OwnsU
    rw [List.length_append, flat_append]
    exact h2
  obtain ⟨A', c', rfl, hlc⟩ := h2'.shape
  unfold Oper.wp
  unfold execOp
  simp only [ho, resolve, invoke, builtin, Sem.run_bind, Sem.run_pure, Result.andThen_ok, List.map_toArray, List.map_cons, List.map_nil, hs, hx, hrun]
  exact hK _ _ (h A' c' w' _ rfl hlc h2' h3 h5)
theorem OwnsU.below {w w' : World} {base : Nat} {v : Value} {l : List (Int × Int)} (h : OwnsU w base v l) (hb : Below w.heap.size w w') : OwnsU w' base v l := h.kept (S := fun _ => False) (Kept.of_below hb) (fun _ _ e => e)
theorem Rd.of_row {w : World} {g B : Nat} {cs : Array Value} {t : TypeId} {fr : Nat × Nat} {l : List UInt8} (hg : w.heap[g]? = some (.cells cs t fr))
    (hl : ∀ k, k < l.length → cs[k]? = some (.int .u8 ((l.getD k 0).toNat : Int))) (hB : g < B) : Rd w B (some ⟨g, 0, none⟩) l := by
  refine .inr ⟨g, 0, rfl, hB, fun k hk => ?_⟩
  rw [cell_of_row w g (0 + k) cs t fr hg, Nat.zero_add]
  exact hl k hk
def bs (l : List UInt8) : ByteArray := ⟨l.toArray⟩
theorem bs_inj {a b : List UInt8} : bs a = bs b ↔ a = b := by
  unfold bs
  constructor
  · intro h; injection h with h; exact Array.toList_inj.2 h |> fun e => by simpa using e
  · rintro rfl; rfl
theorem bs_nums (l : List UInt8) : strOfNums (l.map fun x => (x.toNat : Int)) = bs l := by
  unfold strOfNums bs
  rw [List.map_map]
  congr 2
  conv => rhs; rw [← List.map_id l]
  apply List.map_congr_left
  intro x _
  simp
theorem conv_str (A : Option Addr) (c : Nat) (l : List UInt8) (w : World) (B : Nat) (h : Rd w B A l) : (convert 35 9 (.slice A l.length c)).run Tryd.prog w = .ok (.string (bs l)) w := by
  rcases h with rfl | ⟨b, off, rfl, _, hc⟩
  · cases A with
    | none => exact run_convert_bytes_nil w 35 5 Tryd.underlying35 Tryd.underlying5 0 c 9 Tryd.underlying9
    | some a =>
      rw [run_convert_bytes_string w 35 9 5 _ _ _ Tryd.underlying35 Tryd.underlying5 Tryd.underlying9]
      exact run_bytesToString w a 0 c [] (by simp [loadCells, loadCellsFrom])
  · rw [run_convert_bytes_arg w 35 5 Tryd.underlying35 Tryd.underlying5 b off l.length c (l.map fun x => (x.toNat : Int)) (by simp) (fun i hi => by
      rw [hc i hi]; simp [List.getD, hi]) 9 Tryd.underlying9, bs_nums]
theorem wp_str {w : World} {o : Oper} {a : Act} {K : Act → World → Prop} {Q : Exit → Act → World → Prop} (s : Operand) (ho : o.op = .convert 35 9 s)
    (A : Option Addr) (c B : Nat) (l : List UInt8) (hx : a.eval s = .slice A l.length c) (hr : Rd w B A l) (h : K (a.put o.dst (.string (bs l))) w) : o.wp Tryd.prog a w K Q := by
  unfold Oper.wp execOp
  simp only [ho, hx, Sem.run_bind, Sem.run_pure, Result.andThen_ok, conv_str A c l w B hr]
  exact h
theorem wpList_str {w : World} {ops : Array Oper} {rest : List Oper} {o : Oper} {a : Act} {Q : Exit → Act → World → Prop} (hgd : o.guard = none) (s : Operand) (ho : o.op = .convert 35 9 s)
    (A : Option Addr) (c B : Nat) (l : List UInt8) (hx : a.eval s = .slice A l.length c) (hr : Rd w B A l) (h : wpList Tryd.prog ops Q rest (a.put o.dst (.string (bs l))) w) : wpList Tryd.prog ops Q (o :: rest) a w :=
  wpList_plain hgd fun _ hK => wp_str s ho A c B l hx hr (hK _ _ h)
theorem bs_list (l : List UInt8) : (bs l).toList = l := ByteArray.toList_mk l
end Go.Proofs.YtghakgepchlpgaaDoor
