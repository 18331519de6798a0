/- MARKS in blocks of ints; rows by number. -/
import Derived.Test.YtghakgepchlpgaaX8
import Derived.ArgAppend
namespace Go.Proofs.Ytghakgepchlpgaa
open Go.RowKit Go.Maps
theorem OwnsI.at_ {w : World} {base g n c : Nat} {l : List Int} (h : OwnsI w base (.slice (some ⟨g, 0, none⟩) n c) l) (k : Nat) (hk : k < l.length) : w.cell? ⟨g, k, none⟩ = some (.int .i64 (l.getD k 0)) := by
  rcases h.2 with ⟨hv, hn⟩ | ⟨g', cap, cur, hv, hg, hh, hnc, hm, hs, ht⟩
  · cases hv
  · injection hv with hA _ _
    injection hA with hA
    injection hA with hA _ _
    subst hA
    rw [cell_of_row w g k cur 3 (0, 0) hh, ← ints_get l k hk, ← ht]
    simp [hk]
theorem OwnsI.free {w : World} {base g n c : Nat} {l : List Int} (h : OwnsI w base (.slice (some ⟨g, 0, none⟩) n c) l) (k : Nat) : w.frozen? ⟨g, k, none⟩ = false := by
  rcases h.2 with ⟨hv, hn⟩ | ⟨g', cap, cur, hv, hg, hh, hnc, hm, hs, ht⟩
  · cases hv
  · injection hv with hA _ _
    injection hA with hA
    injection hA with hA _ _
    subst hA
    simp [World.frozen?, hh]
theorem OwnsI.put {w : World} {base g n c : Nat} {l : List Int} (h : OwnsI w base (.slice (some ⟨g, 0, none⟩) n c) l) (k : Nat) (x : Int) : OwnsI (w.setCell ⟨g, k, none⟩ (.int .i64 x)) base (.slice (some ⟨g, 0, none⟩) n c) (l.set k x) := by
  refine ⟨by simp, ?_⟩
  rcases h.2 with ⟨hv, hn⟩ | ⟨g', cap, cur, hv, hg, hh, hnc, hm, hs, ht⟩
  · cases hv
  · right
    injection hv with hA hn hc
    injection hA with hA
    injection hA with hA _ _
    subst hA hn hc
    refine ⟨g, c, cur.setIfInBounds k (.int .i64 x), by simp, hg, ?_, by simpa using hnc, hm, by simpa using hs, ?_⟩
    · exact Blk.put (t := 3) hh k _
    · rw [List.map_set, ← ht]
      simp [intV, List.take_set]
/-- nothing but some cells of bytes in block b, each now m, has turned -/
structure Tint (m : Int) (b : Option Nat) (w w' : World) : Prop where
  os : w'.os = w.os
  tape : w'.tape = w.tape
  output : w'.output = w.output
  size : w.heap.size ≤ w'.heap.size
  block : ∀ k, k < w.heap.size → b ≠ some k → w'.heap[k]? = w.heap[k]?
  own : ∀ (k : Nat) (cs : Array Value), b = some k → w.heap[k]? = some (Obj.cells cs 3 (0, 0)) → ∃ cs', w'.heap[k]? = some (Obj.cells cs' 3 (0, 0)) ∧ cs'.size = cs.size ∧ ∀ j : Nat, cs'[j]? = cs[j]? ∨ cs'[j]? = some (intV m)
theorem Tint.refl (m : Int) (b : Option Nat) (w : World) : Tint m b w w := ⟨rfl, rfl, rfl, Nat.le_refl _, fun _ _ _ => rfl, fun _ cs _ h => ⟨cs, h, rfl, fun _ => .inl rfl⟩⟩
theorem Tint.trans {m : Int} {b : Option Nat} {u v w : World} (h : Tint m b u v) (h' : Tint m b v w) : Tint m b u w := by
  refine ⟨h'.os.trans h.os, h'.tape.trans h.tape, h'.output.trans h.output, Nat.le_trans h.size h'.size, fun k hk hb => (h'.block k (Nat.lt_of_lt_of_le hk h.size) hb).trans (h.block k hk hb), fun k cs hb hg => ?_⟩
  obtain ⟨c1, g1, s1, j1⟩ := h.own k cs hb hg
  obtain ⟨c2, g2, s2, j2⟩ := h'.own k c1 hb g1
  refine ⟨c2, g2, s2.trans s1, fun j => ?_⟩
  rcases j2 j with e | e
  · rcases j1 j with e1 | e1
    · exact .inl (e.trans e1)
    · exact .inr (e.trans e1)
  · exact .inr e
theorem Tint.of_below {m : Int} {b : Option Nat} {w w' : World} (h : Below w.heap.size w w') : Tint m b w w' :=
  ⟨h.os, h.tape, h.output, h.size, fun k hk _ => h.block k hk, fun k cs _ hg => ⟨cs, (h.block k (Array.getElem?_eq_some_iff.1 hg).1).trans hg, rfl, fun _ => .inl rfl⟩⟩
/-- a turn in a block that was made since is no turn -/
theorem Tint.since {m : Int} {b b' : Option Nat} {u v w : World} (h : Tint m b u v) (h' : Tint m b' v w) (hb : ∀ k, b' = some k → b = some k ∨ u.heap.size ≤ k) : Tint m b u w := by
  refine ⟨h'.os.trans h.os, h'.tape.trans h.tape, h'.output.trans h.output, Nat.le_trans h.size h'.size, fun k hk hn => ?_, fun k cs hk hg => ?_⟩
  · refine (h'.block k (Nat.lt_of_lt_of_le hk h.size) fun e => ?_).trans (h.block k hk hn)
    rcases hb k e with e | e
    · exact hn e
    · omega
  · obtain ⟨c1, g1, s1, j1⟩ := h.own k cs hk hg
    by_cases e : b' = some k
    · obtain ⟨c2, g2, s2, j2⟩ := h'.own k c1 e g1
      refine ⟨c2, g2, s2.trans s1, fun j => ?_⟩
      rcases j2 j with e | e
      · rcases j1 j with e1 | e1
        · exact .inl (e.trans e1)
        · exact .inr (e.trans e1)
      · exact .inr e
    · exact ⟨c1, (h'.block k (Array.getElem?_eq_some_iff.1 g1).1 e).trans g1, s1, j1⟩
/-- a slice that bears one mark -/
theorem OwnsI.tint {m : Int} {b : Option Nat} {w w' : World} {B n c : Nat} {A : Option Addr} (h : OwnsI w B (.slice A n c) (List.replicate n m)) (ht : Tint m b w w') : OwnsI w' B (.slice A n c) (List.replicate n m) := by
  refine ⟨h.1, h.2.imp id ?_⟩
  rintro ⟨g, cap, cur, hv, hb, hg, hn, hc, hs, hk⟩
  by_cases e : b = some g
  · obtain ⟨c2, g2, s2, j2⟩ := ht.own g cur e hg
    refine ⟨g, cap, c2, hv, hb, g2, hn, hc, by omega, ?_⟩
    rw [List.length_replicate, Nat.mul_one] at hk ⊢
    rw [List.length_replicate] at hn
    apply List.ext_getElem?
    intro i
    have h1 := congrArg (fun q : List Value => q[i]?) hk
    simp only [List.getElem?_take, Array.getElem?_toList, List.map_replicate, List.getElem?_replicate] at h1 ⊢
    by_cases hi : i < n
    · rw [if_pos hi] at h1 ⊢
      rcases j2 i with e | e
      · rw [e, h1]
      · rw [e, if_pos hi]
    · rw [if_neg hi]
      rw [if_neg hi]
  · exact ⟨g, cap, cur, hv, hb, (ht.block g (Array.getElem?_eq_some_iff.1 hg).1 e).trans hg, hn, hc, hs, hk⟩
theorem OwnsI.far_tint {m : Int} {b : Option Nat} {w w' : World} {B : Nat} {v : Value} {l : List Int} (h : OwnsI w B v l) (ht : Tint m b w w') (hb : ∀ k, v.ownBlock = some k → b ≠ some k) : OwnsI w' B v l := by
  refine ⟨h.1, h.2.imp id ?_⟩
  rintro ⟨g, cap, cur, rfl, hB, hg, rest⟩
  exact ⟨g, cap, cur, rfl, hB, (ht.block g (Array.getElem?_eq_some_iff.1 hg).1 (hb g rfl)).trans hg, rest⟩
theorem rowTint {m : Int} {b : Option Nat} {w w' : World} {B e size n : Nat} {v : Value} {xs : List Value} (h : w.ownsRow B e size v n xs) (ht : Tint m b w w') (hb : ∀ k, v.ownBlock = some k → b ≠ some k) : w'.ownsRow B e size v n xs := by
  refine ⟨h.1, h.2.imp id ?_⟩
  rintro ⟨g, cap, cur, rfl, hB, hg, rest⟩
  exact ⟨g, cap, cur, rfl, hB, (ht.block g (Array.getElem?_eq_some_iff.1 hg).1 (hb g rfl)).trans hg, rest⟩
/-- an append of a mark to a slice that bears it -/
theorem run_append_tint (w : World) (B ty n c : Nat) (m : Int) (A : Option Addr) (ho : OwnsI w B (.slice A n c) (List.replicate n m)) (gb cb : Nat) (hr : Blk w gb 3 #[intV m]) (hn : n ≤ 1000000) (hB : B ≤ w.heap.size) :
    ∃ A' c' w', (Builtin.append_ #[29, 29] ty #[.slice A n c, .slice (some ⟨gb, 0, none⟩) 1 cb]).run Try.prog w = .ok (.slice A' (n + 1) c') w' ∧ OwnsI w' B (.slice A' (n + 1) c') (List.replicate (n + 1) m) ∧
      Tint m (Value.slice A n c).ownBlock w w' ∧ (∀ k, (Value.slice A' (n + 1) c').ownBlock = some k → (Value.slice A n c).ownBlock = some k ∨ w.heap.size ≤ k) := by
  obtain ⟨i0, hi, hz0, hz1, hz2⟩ := info_parts info3
  have hnews : ∀ (j : Nat) (u : Value), [intV m][j]? = some u → w.cell? ((⟨gb, 0, none⟩ : Addr).add j) = some u := fun j u hu => by
    rw [Go.WideShapes.add_plain, Nat.zero_add, hr.cell]; simpa using hu
  have hone : ∀ u ∈ [intV m], u.oneCell' = true := fun u hu => by rw [List.mem_singleton.1 hu]; rfl
  have hrep : (List.replicate n m).map intV ++ [intV m] = (List.replicate (n + 1) m).map intV := by rw [List.replicate_succ', List.map_append]; rfl
  have grown : ∀ v' w', w'.ownsRow B 3 1 v' (n + 1) ((List.replicate n m).map intV ++ [intV m]) → w.grownBy w' none → (∀ k, v'.ownBlock = some k → w.heap.size ≤ k) →
      ∃ A' c', v' = .slice A' (n + 1) c' ∧ OwnsI w' B (.slice A' (n + 1) c') (List.replicate (n + 1) m) ∧ Tint m (Value.slice A n c).ownBlock w w' ∧ (∀ k, (Value.slice A' (n + 1) c').ownBlock = some k → (Value.slice A n c).ownBlock = some k ∨ w.heap.size ≤ k) := by
    intro v' w' h1 h2 h3
    rw [hrep] at h1
    have hsh : ∃ A c, v' = .slice A (n + 1) c := by
      rcases h1.2 with ⟨rfl, h⟩ | ⟨g, cap, cur, rfl, _⟩
      · omega
      · exact ⟨_, _, rfl⟩
    obtain ⟨A', c', rfl⟩ := hsh
    refine ⟨A', c', rfl, ?_, Tint.of_below ⟨h2.os, h2.tape, h2.output, h2.size, fun k hk => h2.block k hk (by simp)⟩, fun k e => ?_⟩
    · unfold OwnsI
      rw [List.length_replicate]
      exact h1
    · exact .inr (h3 k e)
  have ho' := ho
  rcases ho.2 with ⟨hv, h0⟩ | ⟨g, cap, cur, hv, hb, hg, hnc, hcm, hcs, hk⟩
  · injection hv with h1 h2 h3
    subst h1 h2 h3
    obtain ⟨v', w', hrun, h2, h3, _, h5⟩ := run_append_own_at (P := Try.prog) w B 29 ty 3 i0 (.int .i64 0) 1 8 Try.underlying29 hi hz0 hz1 hz2 rfl (by omega) (.slice none 0 0) 0 [] (World.ownsRow_nil _ _ _ _) ⟨gb, 0, none⟩ 1 cb [intV m] rfl hnews hone
      (by unfold maxLen; omega) (by omega) hB
    obtain ⟨A', c', rfl, h6, h7, h8⟩ := grown v' w' h2 h3 (fun k e => by
      rcases h5 with h | h
      · rw [h] at e; simp [Value.ownBlock] at e
      · rw [h] at e; injection e with e; omega)
    exact ⟨A', c', w', hrun, h6, h7, h8⟩
  · injection hv with h1 h2 h3
    subst h1 h3
    rw [List.length_replicate, Nat.mul_one] at hk
    rw [List.length_replicate] at hnc
    by_cases hroom : n + 1 ≤ c
    · have hrun := run_append_room (P := Try.prog) w 29 ty 3 i0 Try.underlying29 hi g n c cur hg ⟨gb, 0, none⟩ 1 cb [intV m] (by rw [hz1]; rfl) hnews hone hroom (by rw [hz1]; simp; omega)
      rw [hz1] at hrun
      simp only [Nat.mul_one, List.length_singleton] at hrun
      have hsz : (cur.toList.take n ++ [intV m] ++ cur.toList.drop (n + 1)).toArray.size = cur.size := by
        simp only [List.size_toArray, List.length_append, List.length_take, List.length_drop, Array.length_toList, List.length_singleton]
        omega
      refine ⟨some ⟨g, 0, none⟩, c, _, hrun, ?_, ⟨rfl, rfl, rfl, by simp [World.setRow], fun k hk' hne => setRow_other w g k _ (fun e => hne (by rw [e]; rfl)), ?_⟩, fun k e => .inl e⟩
      · refine ⟨by simp, .inr ⟨g, c, _, by rw [List.length_replicate], hb, setRow_heap w g cur _ 3 (0, 0) hg, by rw [List.length_replicate]; exact hroom, hcm, by rw [hsz]; exact hcs, ?_⟩⟩
        rw [List.length_replicate, Nat.mul_one, ← hrep, ← hk]
        have hl : (cur.toList.take n ++ [intV m]).length = n + 1 := by
          simp only [List.length_append, List.length_take, Array.length_toList, List.length_singleton]
          omega
        rw [show (cur.toList.take n ++ [intV m] ++ cur.toList.drop (n + 1)).toArray.toList = cur.toList.take n ++ [intV m] ++ cur.toList.drop (n + 1) from rfl, ← hl]
        exact List.take_left
      · intro k cs hk' hcs'
        have hkg : g = k := by simpa [Value.ownBlock] using hk'
        subst hkg
        rw [hg] at hcs'
        injection hcs' with hcs'
        injection hcs' with hcs' _ _
        subst hcs'
        refine ⟨_, setRow_heap w g cur _ 3 (0, 0) hg, hsz, fun j => ?_⟩
        have hln : (cur.toList.take n).length = n := by simp only [List.length_take, Array.length_toList]; omega
        simp only [List.getElem?_toArray, List.append_assoc]
        by_cases hj : j < n
        · left
          rw [List.getElem?_append_left (by omega), List.getElem?_take, if_pos hj, Array.getElem?_toList]
        · by_cases hj2 : j = n
          · right
            subst hj2
            rw [List.getElem?_append_right (by omega), hln, Nat.sub_self]
            rfl
          · left
            rw [List.getElem?_append_right (by omega), hln, List.getElem?_append_right (by simp; omega), List.getElem?_drop, Array.getElem?_toList]
            congr 1
            simp
            omega
    · obtain ⟨v', w', hrun, h2, h3⟩ := run_append_arg_grows (P := Try.prog) w 29 ty 3 i0 (.int .i64 0) 1 8 Try.underlying29 hi hz0 hz1 hz2 rfl (by omega) ⟨g, 0, none⟩ n c ((List.replicate n m).map intV) (by simp)
        (fun j u hu => by
          rw [Go.WideShapes.add_plain, Nat.zero_add, cell_of_row w g j cur 3 (0, 0) hg]
          rw [← hk] at hu
          rw [List.getElem?_take] at hu
          split at hu
          · simpa using hu
          · cases hu) ⟨gb, 0, none⟩ 1 cb [intV m] rfl hnews (by omega) (by unfold maxLen; omega) (by omega)
      have h4 : w'.ownsRow B 3 1 v' (n + 1) ((List.replicate n m).map intV ++ [intV m]) := ⟨h2.1, h2.2.imp id fun ⟨g', cap', cur', e, hb', rest⟩ => ⟨g', cap', cur', e, Nat.le_trans hB hb', rest⟩⟩
      obtain ⟨A', c', rfl, h6, h7, h8⟩ := grown v' w' h4 h3 fun k e => (World.ownsRow.lt h2 k e).1
      exact ⟨A', c', w', hrun, h6, h7, h8⟩
theorem wpList_append_tint {w : World} {ops : Array Oper} {rest : List Oper} {o : Oper} {a : Act} {Q : Exit → Act → World → Prop} (hgd : o.guard = none) (s x : Operand)
    (hop : o.op = .call { callee := .builtin .append, args := #[s, x], argTypes := #[29, 29] })
    (B n c : Nat) (m : Int) (A : Option Addr) (hs : a.eval s = .slice A n c) (ho : OwnsI w B (.slice A n c) (List.replicate n m)) (gb cb : Nat) (hx : a.eval x = .slice (some ⟨gb, 0, none⟩) 1 cb) (hr : Blk w gb 3 #[intV m]) (hn : n ≤ 1000000) (hB : B ≤ w.heap.size)
    (h : ∀ A' c' w', OwnsI w' B (.slice A' (n + 1) c') (List.replicate (n + 1) m) → Tint m (Value.slice A n c).ownBlock w w' → (∀ k, (Value.slice A' (n + 1) c').ownBlock = some k → (Value.slice A n c).ownBlock = some k ∨ w.heap.size ≤ k) →
      wpList Try.prog ops Q rest (a.put o.dst (.slice A' (n + 1) c')) w') : wpList Try.prog ops Q (o :: rest) a w := by
  refine wpList_plain hgd fun K hK => ?_
  obtain ⟨A', c', w', hrun, h1, h2, h3⟩ := run_append_tint w B o.type n c m A ho gb cb hr hn hB
  unfold Oper.wp execOp
  simp only [hop, resolve, invoke, builtin, Sem.run_bind, Sem.run_pure, Result.andThen_ok, List.map_toArray, List.map_cons, List.map_nil, hs, hx, hrun]
  exact hK _ _ (h A' c' w' h1 h2 h3)
/-- the block of an address -/
def bk (A : Option Addr) : Option Nat := A.map (·.block)
theorem bk_eq (A : Option Addr) (n c : Nat) : (Value.slice A n c).ownBlock = bk A := by cases A <;> rfl
/-- rows by number -/
def rowL (N : Nat) (A : Nat → Option Addr) (n c : Nat → Nat) : List Value := (List.range N).map fun i => .slice (A i) (n i) (c i)
theorem rowL_length (N : Nat) (A : Nat → Option Addr) (n c : Nat → Nat) : (rowL N A n c).length = N := by simp [rowL]
theorem rowL_get (N : Nat) (A : Nat → Option Addr) (n c : Nat → Nat) (i : Nat) (hi : i < N) : (rowL N A n c)[i]? = some (.slice (A i) (n i) (c i)) := by simp [rowL, hi]
def Fm (w : World) (B N : Nat) (A : Nat → Option Addr) (n c : Nat → Nat) (L : Nat → List Int) : Prop := ∀ i, i < N → OwnsI w B (.slice (A i) (n i) (c i)) (L i) ∧ (L i).length = n i
def Ap (N : Nat) (A : Nat → Option Addr) : Prop := ∀ i j, i < N → j < N → i ≠ j → ∀ k, bk (A i) = some k → bk (A j) ≠ some k
def nilRow : Row := ⟨none, 0, []⟩
theorem getD_mem {α : Type} (l : List α) (d : α) (i : Nat) (h : i < l.length) : l.getD i d ∈ l := by
  rw [List.getD_eq_getElem?_getD, List.getElem?_eq_getElem h]
  exact List.getElem_mem ..
theorem map_rowL (rs : List Row) : rs.map Row.v = rowL rs.length (fun i => (rs.getD i nilRow).A) (fun i => (rs.getD i nilRow).l.length) (fun i => (rs.getD i nilRow).c) := by
  apply List.ext_getElem?
  intro i
  by_cases h : i < rs.length
  · rw [rowL_get _ _ _ _ _ h, List.getElem?_map, List.getD_eq_getElem?_getD, List.getElem?_eq_getElem h]
    rfl
  · rw [List.getElem?_eq_none (by simpa using h), List.getElem?_eq_none (by rw [rowL_length]; omega)]
theorem Wo.fn {w : World} {B gw N : Nat} {pt : Nat → Nat → Nat} {CV LV RV OV WV : Value} {rs ws : List Row} (h : Wo B w gw N pt CV LV RV OV WV rs ws) :
    ∃ (A A' : Nat → Option Addr) (n c c' : Nat → Nat) (L : Nat → List Int), w.ownsRow B 29 1 OV rs.length (rowL rs.length A n c) ∧ w.ownsRow B 29 1 WV rs.length (rowL rs.length A' n c') ∧
      Fm w B rs.length A n c L ∧ Fm w B rs.length A' n c' L ∧ Ap rs.length A ∧ ∀ i, i < rs.length → n i ≤ 65536 := by
  have hl : ws.length = rs.length := by
    have := congrArg List.length h.same
    simpa using this
  have hs : ∀ i, i < rs.length → (ws.getD i nilRow).l = (rs.getD i nilRow).l := fun i hi => by
    have := congrArg (fun q : List (List Int) => q[i]?) h.same
    simp only [List.getElem?_map] at this
    rw [List.getD_eq_getElem?_getD, List.getD_eq_getElem?_getD, List.getElem?_eq_getElem hi, List.getElem?_eq_getElem (by omega : i < ws.length)]
    rw [List.getElem?_eq_getElem hi, List.getElem?_eq_getElem (by omega : i < ws.length)] at this
    simpa using this
  refine ⟨fun i => (rs.getD i nilRow).A, fun i => (ws.getD i nilRow).A, fun i => (rs.getD i nilRow).l.length, fun i => (rs.getD i nilRow).c, fun i => (ws.getD i nilRow).c, fun i => (rs.getD i nilRow).l, ?_, ?_, ?_, ?_, ?_, ?_⟩
  · rw [← map_rowL]; exact h.ov
  · have hw := h.wv
    rw [map_rowL, hl] at hw
    have e : rowL rs.length (fun i => (ws.getD i nilRow).A) (fun i => (ws.getD i nilRow).l.length) (fun i => (ws.getD i nilRow).c) = rowL rs.length (fun i => (ws.getD i nilRow).A) (fun i => (rs.getD i nilRow).l.length) (fun i => (ws.getD i nilRow).c) := by
      unfold rowL
      apply List.map_congr_left
      intro i hi
      simp only [hs i (List.mem_range.1 hi)]
    rw [← e]
    exact hw
  · exact fun i hi => ⟨(h.rows _ (getD_mem rs nilRow i hi)).1, rfl⟩
  · intro i hi
    have := h.was _ (getD_mem ws nilRow i (by omega))
    unfold Row.v at this
    rw [hs i hi] at this
    exact ⟨this, rfl⟩
  · have key : ∀ i j, i < j → j < rs.length → ∀ k, bk (rs.getD i nilRow).A = some k → bk (rs.getD j nilRow).A ≠ some k := by
      intro i j hij hj k e
      have hp := List.pairwise_iff_getElem.1 h.apart i j (by omega) hj hij k
      simp only [Row.v, bk_eq] at hp
      rw [List.getD_eq_getElem?_getD, List.getElem?_eq_getElem (by omega : i < rs.length)] at e
      rw [List.getD_eq_getElem?_getD, List.getElem?_eq_getElem hj]
      exact hp e
    intro i j hi hj hne k e e'
    rcases Nat.lt_or_gt_of_ne hne with h1 | h1
    · exact key i j h1 hj k e e'
    · exact key j i h1 hi k e' e
  · exact fun i hi => (h.rows _ (getD_mem rs nilRow i hi)).2
theorem Fm.kept {S : Nat → Prop} {w w' : World} {B N : Nat} {A : Nat → Option Addr} {n c : Nat → Nat} {L : Nat → List Int} (h : Fm w B N A n c L) (k : Kept S w w') (hs : ∀ i, i < N → ∀ b, bk (A i) = some b → ¬ S b) : Fm w' B N A n c L :=
  fun i hi => ⟨rowKept (h i hi).1 k fun g e => hs i hi g (by rw [← bk_eq (A i) (n i) (c i)]; exact e), (h i hi).2⟩
theorem Fm.three {w w' : World} {B N : Nat} {A : Nat → Option Addr} {n c : Nat → Nat} {L : Nat → List Int} (h : Fm w B N A n c L) (k : Three w w') : Fm w' B N A n c L := fun i hi => ⟨(h i hi).1.three k, (h i hi).2⟩
/-- a byte is laid into a row -/
def updL (L : Nat → List Int) (i k : Nat) (x : Int) (j : Nat) : List Int := if j = i then (L i).set k x else L j
theorem Fm.put {w : World} {B N : Nat} {A : Nat → Option Addr} {n c : Nat → Nat} {L : Nat → List Int} (h : Fm w B N A n c L) (ha : Ap N A) (i k b : Nat) (x : Int) (hi : i < N) (hA : A i = some ⟨b, 0, none⟩) :
    Fm (w.setCell ⟨b, k, none⟩ (.int .i64 x)) B N A n c (updL L i k x) := by
  intro j hj
  by_cases e : j = i
  · subst e
    obtain ⟨h1, h2⟩ := h j hj
    unfold updL
    rw [if_pos rfl]
    rw [hA] at h1 ⊢
    exact ⟨h1.put k x, by rw [List.length_set]; exact h2⟩
  · obtain ⟨h1, h2⟩ := h j hj
    unfold updL
    rw [if_neg e]
    refine ⟨rowKept h1 (Kept.setCell (Kept.refl (fun k => k = b) w) (p := ⟨b, k, none⟩) rfl _) fun g hg hb => ?_, h2⟩
    subst hb
    rw [bk_eq] at hg
    exact ha j i hj hi e g hg (by rw [hA]; rfl)
theorem OwnsI.addr {w : World} {B n c : Nat} {A : Option Addr} {l : List Int} (h : OwnsI w B (.slice A n c) l) (hn : 0 < l.length) : ∃ b, A = some ⟨b, 0, none⟩ := by
  rcases h.2 with ⟨hv, h0⟩ | ⟨g, cap, cur, hv, _⟩
  · omega
  · injection hv with h1 _ _
    exact ⟨g, h1⟩
end Go.Proofs.Ytghakgepchlpgaa
