/- WORDS for the law of what is held: pairs that the call owns; a cache that holds them. -/
import Derived.Test.YtghakgepchlpgaaQ
import Derived.Laws.OwnMore
namespace Go.Proofs.Ytghakgepchlpgaa
open Go.RowKit Go.Maps
/-- the cells of pairs -/
def flat : List (Int × Int) → List Value
  | [] => []
  | e :: l => .int .i64 e.1 :: .int .i64 e.2 :: flat l
theorem flat_length : ∀ l : List (Int × Int), (flat l).length = l.length * 2
  | [] => rfl
  | e :: l => by simp [flat, flat_length l]; omega
theorem flat_append : ∀ l m : List (Int × Int), flat (l ++ m) = flat l ++ flat m
  | [], _ => rfl
  | e :: l, m => by simp [flat, flat_append l m]
theorem flat_fst : ∀ (l : List (Int × Int)) (k : Nat), k < l.length → (flat l)[k * 2]? = some (.int .i64 (l.getD k (0, 0)).1)
  | [], k, h => by simp at h
  | e :: l, 0, _ => rfl
  | e :: l, k + 1, h => by
    rw [show (k + 1) * 2 = k * 2 + 1 + 1 by omega]
    simp only [flat, List.getElem?_cons_succ, List.getD_cons_succ]
    exact flat_fst l k (by simpa using h)
theorem flat_snd : ∀ (l : List (Int × Int)) (k : Nat), k < l.length → (flat l)[k * 2 + 1]? = some (.int .i64 (l.getD k (0, 0)).2)
  | [], k, h => by simp at h
  | e :: l, 0, _ => rfl
  | e :: l, k + 1, h => by
    rw [show (k + 1) * 2 + 1 = k * 2 + 1 + 1 + 1 by omega]
    simp only [flat, List.getElem?_cons_succ, List.getD_cons_succ]
    exact flat_snd l k (by simpa using h)
theorem flat_set : ∀ (l : List (Int × Int)) (k : Nat) (x : Int), k < l.length → (flat l).set (k * 2 + 1) (.int .i64 x) = flat (l.set k ((l.getD k (0, 0)).1, x))
  | [], k, _, h => by simp at h
  | e :: l, 0, _, _ => rfl
  | e :: l, k + 1, x, h => by
    rw [show (k + 1) * 2 + 1 = k * 2 + 1 + 1 + 1 by omega]
    simp only [flat, List.set_cons_succ, List.getD_cons_succ]
    rw [flat_set l k x (by simpa using h)]
theorem flat_one : ∀ (l : List (Int × Int)), ∀ u ∈ flat l, u.oneCell' = true
  | [], u, h => by simp [flat] at h
  | e :: l, u, h => by
    simp only [flat, List.mem_cons] at h
    rcases h with rfl | rfl | h
    · rfl
    · rfl
    · exact flat_one l u h
theorem info31 : (Try.prog.info? 31).map (fun i => (i.zero, i.size, i.bytes)) = some (some (.agg #[.int .i64 0, .int .i64 0]), 2, 16) := by kernel_rfl
/-- v owns just the pairs l -/
def OwnsU (w : World) (base : Nat) (v : Value) (l : List (Int × Int)) : Prop := w.ownsRow base 31 2 v l.length (flat l)
theorem OwnsU.nil (w : World) (base : Nat) : OwnsU w base (.slice none 0 0) [] := World.ownsRow_nil w base 31 2
theorem OwnsU.shape {w : World} {base : Nat} {v : Value} {l : List (Int × Int)} (h : OwnsU w base v l) : ∃ A c, v = .slice A l.length c ∧ l.length ≤ c := by
  rcases h.2 with ⟨hv, hn⟩ | ⟨g, cap, cur, hv, _, _, hnc, _⟩
  · exact ⟨none, 0, by rw [hv, hn], by omega⟩
  · exact ⟨some ⟨g, 0, none⟩, cap, hv, hnc⟩
theorem OwnsU.some_ {w : World} {base c n : Nat} {A : Option Addr} {l : List (Int × Int)} (h : OwnsU w base (.slice A n c) l) (hl : 0 < l.length) : ∃ g, A = some ⟨g, 0, none⟩ ∧ base ≤ g ∧ n = l.length := by
  rcases h.2 with ⟨_, hn⟩ | ⟨g, cap, cur, hv, hg, _⟩
  · omega
  · injection hv with hA h2 _
    exact ⟨g, hA, hg, h2⟩
theorem OwnsU.at_ {w : World} {base g c : Nat} {l : List (Int × Int)} (h : OwnsU w base (.slice (some ⟨g, 0, none⟩) l.length c) l) (k : Nat) (hk : k < l.length) :
    w.cell? ⟨g, k * 2, none⟩ = some (.int .i64 (l.getD k (0, 0)).1) ∧ w.cell? ⟨g, k * 2 + 1, none⟩ = some (.int .i64 (l.getD k (0, 0)).2) :=
  ⟨by rw [World.ownsRow.cellAt h (k * 2) (by omega)]; exact flat_fst l k hk, by rw [World.ownsRow.cellAt h (k * 2 + 1) (by omega)]; exact flat_snd l k hk⟩
theorem OwnsU.free {w : World} {base g c : Nat} {l : List (Int × Int)} (h : OwnsU w base (.slice (some ⟨g, 0, none⟩) l.length c) l) (k : Nat) : w.frozen? ⟨g, k, none⟩ = false := World.ownsRow.frozenAt h k
theorem OwnsU.put {w : World} {base g c : Nat} {l : List (Int × Int)} (h : OwnsU w base (.slice (some ⟨g, 0, none⟩) l.length c) l) (k : Nat) (hk : k < l.length) (x : Int) :
    OwnsU (w.setCell ⟨g, k * 2 + 1, none⟩ (.int .i64 x)) base (.slice (some ⟨g, 0, none⟩) l.length c) (l.set k ((l.getD k (0, 0)).1, x)) := by
  have := (World.ownsRow.stored h (k * 2 + 1) (.int .i64 x)).1
  rw [flat_set l k x hk] at this
  unfold OwnsU
  rw [List.length_set]
  exact this
theorem OwnsU.kept {w w' : World} {base : Nat} {v : Value} {l : List (Int × Int)} {S : Nat → Prop} (h : OwnsU w base v l) (hk : Kept S w w') (hs : ∀ g, v.ownBlock = some g → ¬ S g) : OwnsU w' base v l := by
  obtain ⟨h1, h2⟩ := h
  refine ⟨h1, ?_⟩
  rcases h2 with h2 | ⟨g, cap, cur, hv, hg, hh, r⟩
  · exact .inl h2
  · refine .inr ⟨g, cap, cur, hv, hg, ?_, r⟩
    subst hv
    have hlt : g < w.heap.size := by
      apply Nat.lt_of_not_le; intro hge; rw [Array.getElem?_eq_none hge] at hh; cases hh
    exact (hk.block g hlt (hs g rfl)).trans hh
theorem OwnsU.lt {w : World} {base : Nat} {v : Value} {l : List (Int × Int)} (h : OwnsU w base v l) : ∀ k, v.ownBlock = some k → base ≤ k ∧ k < w.heap.size := World.ownsRow.lt h
/-- append(v, x): a pair, laid down ahead of it -/
theorem wpList_append_pair {w : World} {ops : Array Oper} {rest : List Oper} {o : Oper} {a : Act} {Q : Exit → Act → World → Prop} (hgd : o.guard = none) (s x : Operand)
    (ho : o.op = .call { callee := .builtin .append, args := #[s, x], argTypes := #[23, 23] })
    (base : Nat) (v : Value) (l : List (Int × Int)) (z : Int × Int) (hs : a.eval s = v) (hown : OwnsU w base v l) (g c : Nat) (hx : a.eval x = .slice (some ⟨g, 0, none⟩) 1 c) (hr : Blk w g 31 #[.int .i64 z.1, .int .i64 z.2])
    (hb : (l.length + 1) * 16 ≤ 140737488355328) (hbase : base ≤ w.heap.size)
    (h : ∀ (A' : Option Addr) (c' : Nat) w' (r : List (Int × Int)), Hid (r = l ++ [z]) → r.length ≤ c' → OwnsU w' base (.slice A' r.length c') r → w.grownBy w' v.ownBlock → ((Value.slice A' r.length c').ownBlock = v.ownBlock ∨ (Value.slice A' r.length c').ownBlock = some w.heap.size) →
      wpList Try.prog ops Q rest (a.put o.dst (.slice A' r.length c')) w') : wpList Try.prog ops Q (o :: rest) a w := by
  refine wpList_plain hgd fun K hK => ?_
  obtain ⟨i0, hi, hz0, hz1, hz2⟩ := info_parts info31
  obtain ⟨v', w', hrun, h2, h3, _, h5⟩ := run_append_own_at (P := Try.prog) w base 23 o.type 31 i0 (.agg #[.int .i64 0, .int .i64 0]) 2 16 Try.underlying23 hi hz0 hz1 hz2 rfl (by omega) v l.length (flat l) hown ⟨g, 0, none⟩ 1 c (flat [z]) (by simp [flat]) (fun j u hj => by
      rw [Go.WideShapes.add_plain, Nat.zero_add, hr.cell j, ← hj]
      simp [flat]) (flat_one _) (by unfold maxLen; omega) (by omega) hbase
  have h2' : OwnsU w' base v' (l ++ [z]) := by
    unfold OwnsU
    rw [List.length_append, flat_append]
    exact h2
  obtain ⟨A', c', rfl, hlc⟩ := h2'.shape
  unfold Oper.wp
  unfold execOp
  simp only [ho, resolve, invoke, builtin, Sem.run_bind, Sem.run_pure, Result.andThen_ok, List.map_toArray, List.map_cons, List.map_nil, hs, hx, hrun]
  exact hK _ _ (h A' c' w' _ rfl hlc h2' h3 h5)
/-- what is held: it is there, as it was put in last -/
structure Sup (H : List (Int × Int)) (L : List Ent) : Prop where
  there : ∀ h ∈ H, ∃ e ∈ L, e.n = h.1 ∧ e.x = .int .i64 h.2 ∧ 0 < e.pin
  ints : ∀ e ∈ L, ∃ x : Int, e.x = .int .i64 x
/-- what the held ones are behind a Put -/
def upH (n x : Int) (H : List (Int × Int)) : List (Int × Int) := H.map fun h => if h.1 = n then (h.1, x) else h
theorem upH_none {n x : Int} {H : List (Int × Int)} (h : ∀ y ∈ H, y.1 ≠ n) : upH n x H = H := by
  unfold upH
  conv => rhs; rw [← List.map_id H]
  exact List.map_congr_left fun y hy => by rw [if_neg (h y hy)]; rfl
theorem ent_same {u v : List Ent} {e e2 : Ent} (hnd : ((u ++ e :: v).map (·.n)).Nodup) (he : e2 ∈ u ++ e :: v) (hn : e2.n = e.n) : e2 = e := by
  simp only [List.map_append, List.map_cons, List.nodup_append, List.nodup_cons, List.mem_map, List.mem_cons] at hnd
  rcases List.mem_append.1 he with hx | hx
  · exact absurd hn (hnd.2.2 _ ⟨e2, hx, rfl⟩ _ (.inl rfl))
  · rcases List.mem_cons.1 hx with hx | hx
    · exact hx
    · exact absurd ⟨e2, hx, hn⟩ hnd.2.1.1
theorem bl_snoc {w : World} {cb mb b : Nat} {L L' : List Ent} {n : Int} {x : Value} {p : Int} (hs : ∀ y ∈ L', y ∈ L) (hb : w.heap.size ≤ b) {k : Nat} (h : Bl cb mb (L' ++ [⟨b, n, x, p⟩]) k) : Bl cb mb L k ∨ w.heap.size ≤ k := by
  rcases h with h | h | ⟨y, hy, h⟩
  · exact .inl (.inl h)
  · exact .inl (.inr (.inl h))
  · simp only [List.mem_append, List.mem_singleton] at hy
    rcases hy with hy | rfl
    · exact .inl (.inr (.inr ⟨y, hs y hy, h⟩))
    · right; rw [← h]; exact hb
section
variable {w : World} {cb mb : Nat} {P hit miss : Int} {L : List Ent} {H : List (Int × Int)}
theorem put_held (h : CA 58 56 (.int .i64 0) w cb mb P hit miss L) (hs : Sup H L) (hl : (L.length : Int) ≤ P) (h1 : 1 ≤ P) (h2 : P ≤ 65536) (n x : Int) (hn : Wf n) : Calls Try.prog 11 #[.pointer (some ⟨cb, 0, none⟩), .int .i64 n, .int .i64 x] w fun r w' =>
    ∃ v L', r = .returned v ∧ CA 58 56 (.int .i64 0) w' cb mb P hit miss L' ∧ Sup (upH n x H) L' ∧ (L'.length : Int) ≤ P ∧ Kept (Bl cb mb L) w w' ∧ (∀ k, Bl cb mb L' k → Bl cb mb L k ∨ w.heap.size ≤ k) := by
  by_cases hm : n ∈ nms L
  · obtain ⟨u, e, v, rfl, rfl⟩ := split_at hm
    have hnd := h.nums
    refine (put_found h x).mono fun r w' ⟨hr, hc, hk⟩ => ⟨_, _, hr, hc, ⟨fun y hy => ?_, fun y hy => ?_⟩, by simp at hl ⊢; omega, hk, fun k hk => .inl (bl_move (e := e) (e' := { e with x := .int .i64 x }) rfl hk)⟩
    · obtain ⟨z, hz, rfl⟩ := List.mem_map.1 hy
      obtain ⟨e2, he2, hn2, hx2, hp2⟩ := hs.there z hz
      by_cases hzn : z.1 = e.n
      · have : e2 = e := ent_same hnd he2 (hn2.trans hzn)
        subst this
        rw [if_pos hzn]
        exact ⟨{ e2 with x := .int .i64 x }, by simp, hn2, rfl, hp2⟩
      · rw [if_neg hzn]
        refine ⟨e2, ?_, hn2, hx2, hp2⟩
        have : e2 ≠ e := fun h => hzn (by rw [← hn2, h])
        simp only [List.mem_append, List.mem_cons] at he2 ⊢
        rcases he2 with h | h | h
        · exact .inl (.inl h)
        · exact absurd h this
        · exact .inl (.inr h)
    · simp only [List.mem_append, List.mem_singleton] at hy
      rcases hy with (hy | hy) | rfl
      · exact hs.ints y (by simp [hy])
      · exact hs.ints y (by simp [hy])
      · exact ⟨x, rfl⟩
  · have hno : ∀ e ∈ L, e.n ≠ n := fun e he hen => hm (List.mem_map.2 ⟨e, he, hen⟩)
    have hH : ∀ y ∈ H, y.1 ≠ n := fun y hy hyn => by
      obtain ⟨e2, he2, hn2, _⟩ := hs.there y hy
      exact hno e2 he2 (hn2.trans hyn)
    rw [upH_none hH]
    by_cases hr : (L.length : Int) < P
    · refine (put_room h n x hn hno hr h2).mono fun r w' ⟨hr', b, hc, hk, hb⟩ => ⟨_, _, hr', hc, ⟨fun y hy => ?_, fun y hy => ?_⟩, by simp; omega, hk, fun k hk => bl_snoc (fun y hy => hy) hb hk⟩
      · obtain ⟨e2, he2, r⟩ := hs.there y hy
        exact ⟨e2, by simp [he2], r⟩
      · simp only [List.mem_append, List.mem_singleton] at hy
        rcases hy with hy | rfl
        · exact hs.ints y hy
        · exact ⟨x, rfl⟩
    · refine (put_full h n x hn hno (by omega) (by omega)).mono fun r w' hh => ?_
      rcases hh with ⟨u, e, v, rfl, hu, he, hr', b, hc, hk, hb⟩ | ⟨hu, hr', hc, hk⟩
      · have hsub : ∀ y ∈ u ++ v, y ∈ u ++ e :: v := fun y hy => by rcases List.mem_append.1 hy with h | h <;> simp [h]
        refine ⟨_, _, hr', hc, ⟨fun y hy => ?_, fun y hy => ?_⟩, by simp at hl ⊢; omega, hk, fun k hk => bl_snoc hsub hb hk⟩
        · obtain ⟨e2, he2, hn2, hx2, hp2⟩ := hs.there y hy
          refine ⟨e2, ?_, hn2, hx2, hp2⟩
          have : e2 ≠ e := fun h => by rw [h] at hp2; omega
          simp only [List.mem_append, List.mem_cons] at he2 ⊢
          rcases he2 with h | h | h
          · exact .inl (.inl h)
          · exact absurd h this
          · exact .inl (.inr h)
        · rcases List.mem_append.1 hy with hy | hy
          · exact hs.ints y (hsub y hy)
          · obtain rfl := List.mem_singleton.1 hy; exact ⟨x, rfl⟩
      · exact ⟨_, L, hr', hc, hs, hl, hk, fun k hk => .inl hk⟩
theorem get_held (h : CA 58 56 (.int .i64 0) w cb mb P hit miss L) (hs : Sup H L) (y : Int × Int) (hy : y ∈ H) : Calls Try.prog 10 #[.pointer (some ⟨cb, 0, none⟩), .int .i64 y.1] w fun r w' =>
    r = .returned (.tuple #[.int .i64 y.2, .bool true]) ∧ ∃ L' hit', CA 58 56 (.int .i64 0) w' cb mb P hit' miss L' ∧ Sup H L' ∧ L'.length = L.length ∧ Kept (Bl cb mb L) w w' ∧ (∀ k, Bl cb mb L' k → Bl cb mb L k) := by
  obtain ⟨e, he, hn, hx, _⟩ := hs.there y hy
  obtain ⟨u, v, rfl⟩ := List.append_of_mem he
  rw [← hn]
  refine (get_some h hx).mono fun r w' ⟨hr, hc, hk⟩ => ⟨by rw [hr, hx], _, _, hc, ⟨fun z hz => ?_, fun z hz => hs.ints z ((perm_move u v e).mem_iff.2 hz)⟩, (perm_move u v e).length_eq.symm, hk, fun k hk => bl_move rfl hk⟩
  obtain ⟨e2, he2, r2⟩ := hs.there z hz
  exact ⟨e2, (perm_move u v e).mem_iff.1 he2, r2⟩
/-- a thing is put in, and held: there is room -/
theorem sup_pin {b : Nat} {n x : Int} (hs : Sup H L) : Sup (H ++ [(n, x)]) (L ++ [⟨b, n, .int .i64 x, wrap64 (0 + 1)⟩]) := by
  refine ⟨fun y hy => ?_, fun y hy => ?_⟩
  · rcases List.mem_append.1 hy with hy | hy
    · obtain ⟨e2, he2, r⟩ := hs.there y hy
      exact ⟨e2, by simp [he2], r⟩
    · obtain rfl := List.mem_singleton.1 hy
      exact ⟨_, List.mem_append_right _ (List.mem_singleton.2 rfl), rfl, rfl, by show (0 : Int) < wrap64 (0 + 1); unfold wrap64; omega⟩
  · rcases List.mem_append.1 hy with hy | hy
    · exact hs.ints y hy
    · obtain rfl := List.mem_singleton.1 hy; exact ⟨x, rfl⟩
end
theorem OwnsU.below {w w' : World} {base : Nat} {v : Value} {l : List (Int × Int)} (h : OwnsU w base v l) (hb : Below w.heap.size w w') : OwnsU w' base v l := h.kept (S := fun _ => False) (Kept.of_below hb) (fun _ _ e => e)
/-- a cache and the list of what is held in it: H stands in memory, Hs is what the cache has -/
structure Hld (w0 w : World) (ca ma p : Nat) (L : List Ent) (hv : Value) (H Hs : List (Int × Int)) : Prop where
  here : ∃ h m, CA 58 56 (.int .i64 0) w ca ma (p : Int) h m L
  own : OwnsU w w0.heap.size hv H
  far : ∀ g, hv.ownBlock = some g → ¬ Bl ca ma L g
  low : ∀ k, Bl ca ma L k → w0.heap.size ≤ k
  len : L.length ≤ p
  sup : Sup Hs L
  bel : Below w0.heap.size w0 w
theorem Hld.below {w0 w w' : World} {ca ma p : Nat} {L : List Ent} {hv : Value} {H Hs : List (Int × Int)} (h : Hld w0 w ca ma p L hv H Hs) (hb : Below w.heap.size w w') : Hld w0 w' ca ma p L hv H Hs :=
  ⟨h.here.imp fun _ ⟨m, x⟩ => ⟨m, x.below hb⟩, h.own.below hb, h.far, h.low, h.len, h.sup, h.bel.trans (hb.mono h.bel.size)⟩
theorem Hld.step {w0 w w' : World} {ca ma p : Nat} {L L' : List Ent} {hv : Value} {H Hs Hs' : List (Int × Int)} (h : Hld w0 w ca ma p L hv H Hs) (hc : ∃ h m, CA 58 56 (.int .i64 0) w' ca ma (p : Int) h m L') (hs : Sup Hs' L') (hl : L'.length ≤ p)
    (hk : Kept (Bl ca ma L) w w') (he : ∀ k, Bl ca ma L' k → Bl ca ma L k ∨ w.heap.size ≤ k) : Hld w0 w' ca ma p L' hv H Hs' := by
  have s0 := h.bel.size
  refine ⟨hc, h.own.kept hk h.far, fun g hg hb => ?_, fun k hk' => ?_, hl, hs, h.bel.trans (hk.below h.low h.bel.size)⟩
  · rcases he g hb with e | e
    · exact h.far g hg e
    · have := (h.own.lt g hg).2; omega
  · rcases he k hk' with e | e
    · exact h.low k e
    · omega
/-- a pair of the list in memory is written -/
theorem Hld.put {w0 w : World} {ca ma p g c : Nat} {L : List Ent} {H Hs : List (Int × Int)} (h : Hld w0 w ca ma p L (.slice (some ⟨g, 0, none⟩) H.length c) H Hs) (k : Nat) (hk : k < H.length) (x : Int) :
    Hld w0 (w.setCell ⟨g, k * 2 + 1, none⟩ (.int .i64 x)) ca ma p L (.slice (some ⟨g, 0, none⟩) H.length c) (H.set k ((H.getD k (0, 0)).1, x)) Hs := by
  have hkp : Kept (fun j => j = g) w (w.setCell ⟨g, k * 2 + 1, none⟩ (.int .i64 x)) := (Kept.refl (fun j => j = g) w).setCell (p := ⟨g, k * 2 + 1, none⟩) rfl _
  have hfg := h.far g rfl
  refine ⟨h.here.imp fun _ ⟨m, y⟩ => ⟨m, y.kept hkp (fun q hq e => hfg (e ▸ hq))⟩, h.own.put k hk x, h.far, h.low, h.len, h.sup, h.bel.setCell (h.own.lt g rfl).1 _⟩
/-- the first k of them as they are behind a Put -/
def upK (n x : Int) (H : List (Int × Int)) (k : Nat) : List (Int × Int) := (upH n x H).take k ++ H.drop k
theorem upK_zero (n x : Int) (H : List (Int × Int)) : upK n x H 0 = H := rfl
theorem upK_all (n x : Int) (H : List (Int × Int)) : upK n x H H.length = upH n x H := by
  unfold upK upH
  rw [List.take_of_length_le (by simp), List.drop_length, List.append_nil]
theorem upK_len (n x : Int) (H : List (Int × Int)) (k : Nat) : (upK n x H k).length = H.length := by
  unfold upK upH; simp; omega
theorem upK_at (n x : Int) (H : List (Int × Int)) (k : Nat) (hk : k < H.length) : (upK n x H k).getD k (0, 0) = H.getD k (0, 0) := by
  unfold upK
  have hl : ((upH n x H).take k).length = k := by unfold upH; simp; omega
  rw [List.getD_eq_getElem?_getD, List.getElem?_append_right (by omega), hl, Nat.sub_self, List.getElem?_drop, Nat.add_zero, ← List.getD_eq_getElem?_getD]
theorem upK_succ (n x : Int) (H : List (Int × Int)) (k : Nat) (hk : k < H.length) : upK n x H (k + 1) = if (H.getD k (0, 0)).1 = n then (upK n x H k).set k ((H.getD k (0, 0)).1, x) else upK n x H k := by
  have hg : H.getD k (0, 0) = H[k] := by simp [List.getD, hk]
  have hl : ((upH n x H).take k).length = k := by unfold upH; simp; omega
  have hd : H.drop k = H[k] :: H.drop (k + 1) := List.drop_eq_getElem_cons hk
  have hu : (upH n x H).take (k + 1) = (upH n x H).take k ++ [if H[k].1 = n then (H[k].1, x) else H[k]] := by
    rw [List.take_succ_eq_append_getElem (by unfold upH; simpa using hk)]
    simp [upH]
  unfold upK
  rw [hu, hg]
  by_cases h : H[k].1 = n
  · rw [if_pos h, if_pos h, List.set_append_right _ _ (by omega), hl, Nat.sub_self, List.append_assoc]
    congr 1
    rw [hd]; rfl
  · rw [if_neg h, if_neg h, hd]; simp
end Go.Proofs.Ytghakgepchlpgaa
