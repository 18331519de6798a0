/- WALKS: Copy, the program's and the document's. -/
import Derived.Test.YtghakgepchlpgaaDoorU
import Derived.Test.YtghakgepchlpgaaDoorT
import Derived.Great.Walk
namespace Go.Proofs.YtghakgepchlpgaaDoor
open Go.RowKit Spc

theorem info62 : (Tryd.prog.info? 62).map (·.size) = some 1026 := by kernel_rfl
theorem spA_one (N u : Int) (ws : Nat → BitVec 64) : (spA N u ws).all (·.oneCell') = true := arr_one _ _ fun i _ => by
  unfold spC
  split
  · rfl
  · split <;> rfl
theorem spA_size (N u : Int) (ws : Nat → BitVec 64) : (spA N u ws).size = 1026 := arr_size _ _
theorem zero62 : (Tryd.prog.info? 62).map (fun i => i.zero.map fun z => z.cells.size) = some (some 1026) := by kernel_rfl
theorem alloc62 (w : World) : ∃ zs : Array Value, zs.size = 1026 ∧ (Instr.alloc 62 true (.tuple #[])).run Tryd.prog w = .ok (.pointer (some ⟨w.heap.size, 0, none⟩)) (w.alloc (.cells zs 62)) := by
  have h := zero62
  cases hi : Tryd.prog.info? 62 with
  | none => rw [hi] at h; cases h
  | some i =>
    rw [hi] at h
    cases hz : i.zero with
    | none => rw [Option.map_some, hz] at h; cases h
    | some z =>
      rw [Option.map_some, hz, Option.map_some] at h
      refine ⟨z.cells, Option.some.inj (Option.some.inj h), ?_⟩
      simp [Instr.alloc, zeroValue, typeInfo, hi, hz, newVar, newRow, Sem.run_bind]
set_option maxHeartbeats 1000000 in
theorem copy_any (g N : Nat) (f : Nat → Bool) (w : World) (h : Sp w g N f) :
    Calls Tryd.prog 39 #[.pointer (some ⟨g, 0, none⟩)] w fun e w' => e = .returned (.pointer (some ⟨w.heap.size, 0, none⟩)) ∧ Sp w' w.heap.size N f ∧ Below w.heap.size w w' := by
  have hlt := h.lt
  obtain ⟨ws, h1, h2⟩ := h
  obtain ⟨cs, hcs⟩ : ∃ cs, cs = spA (N : Int) (cnt f N : Int) ws := ⟨_, rfl⟩
  have hsz : cs.size = 1026 := by rw [hcs]; exact spA_size _ _ _
  have hone : cs.all (·.oneCell') = true := by rw [hcs]; exact spA_one _ _ _
  rw [← hcs] at h1
  have H := Lib.hid (And.intro h1 (And.intro hsz hone))
  have H2 := Lib.hid (And.intro h2 hcs)
  clear h1 h2 hsz hone hcs
  go_enter Tryd.func39, Tryd.ntmps39
  go_upto_region 1 with fail
  iterate 7 go_step
  refine wpList_load_row rfl 62 (.tmp 5) rfl g rfl 62 cs (0, 0) _ H.out.1 Tryd.underlying62 rfl (by rw [info62, H.out.2.1]) ?_
  try simp only [Act.put, List.setIfInBounds_toArray, List.set_cons_zero, List.set_cons_succ]
  obtain ⟨zs, hzs, hrun⟩ := alloc62 w
  refine Great.wpList_allocTo rfl (some 3) rfl (.pointer (some ⟨w.heap.size, 0, none⟩)) (.cells zs 62) ?_ ?_
  · simp only [execOp, Sem.run_bind, hrun]
    rfl
  clear hrun
  try simp only [Act.put, List.setIfInBounds_toArray, List.set_cons_zero, List.set_cons_succ]
  have K1 := Lib.hid (Blk.new w 62 zs)
  have B1 := Lib.hid ((Below.refl w.heap.size w).alloc (Nat.le_refl _) (.cells zs 62))
  generalize World.alloc w _ = W1 at K1 B1 ⊢
  refine wpList_store_rowTo rfl 62 (.tmp 3) (.tmp 6) rfl rfl w.heap.size cs rfl rfl 62 zs K1.out (by rw [info62, H.out.2.1]) (by rw [hzs, H.out.2.1]) H.out.2.2 ?_
  have K2 := Lib.hid (K1.out.row cs)
  have B2 := Lib.hid (Below.row B1.out (Nat.le_refl _) cs)
  generalize World.setRow W1 _ _ = W2 at K2 B2 ⊢
  clear K1 B1 H hzs
  go_wp2_with fail
  go_ret
  exact ⟨rfl, ⟨ws, by rw [← H2.out.2]; exact K2.out, H2.out.1⟩, B2.out⟩
def boolL (N : Nat) (f : Nat → Bool) : List Value := (List.range N).map fun k => .bool (f k)
theorem boolL_get (N : Nat) (f : Nat → Bool) (k : Nat) (h : k < N) : (boolL N f)[k]? = some (.bool (f k)) := by simp [boolL, h]
theorem boolL_len (N : Nat) (f : Nat → Bool) : (boolL N f).length = N := by simp [boolL]
/-- append of a whole row of yes and no to none -/
theorem wpList_append_bools {w : World} {ops : Array Oper} {rest : List Oper} {o : Oper} {a : Act} {Q : Exit → Act → World → Prop} (hgd : o.guard = none) (s x : Operand)
    (ho : o.op = .call { callee := .builtin .append, args := #[s, x], argTypes := #[28, 28] })
    (N : Nat) (f : Nat → Bool) (hN : 0 < N) (hN2 : N ≤ 65536) (hs : a.eval s = .slice none 0 0) (gl c : Nat) (hx : a.eval x = .slice (some ⟨gl, 0, none⟩) N c) (hr : ∀ k, k < N → w.cell? ⟨gl, k, none⟩ = some (.bool (f k)))
    (h : ∀ (g c' : Nat) (cs : Array Value) w', Blk w' g 4 cs → (∀ i, i < N → cs[i]? = some (.bool (f i))) → N ≤ c' → w.heap.size ≤ g → Below w.heap.size w w' →
      wpList Tryd.prog ops Q rest (a.put o.dst (.slice (some ⟨g, 0, none⟩) N c')) w') : wpList Tryd.prog ops Q (o :: rest) a w := by
  refine wpList_plain hgd fun K hK => ?_
  obtain ⟨i0, hi, hz0, hz1, hz2⟩ := info_parts info4
  obtain ⟨v', w', hrun, h2, h3, _, h5⟩ := run_append_own_at (P := Tryd.prog) w w.heap.size 28 o.type 4 i0 (.bool false) 1 1 Tryd.underlying28 hi hz0 hz1 hz2 rfl (by omega) (.slice none 0 0) 0 [] (World.ownsRow_nil w _ 4 1) ⟨gl, 0, none⟩ N c (boolL N f) (by rw [boolL_len]; omega) (fun j u hj => by
      have hj' : j < N := by have := (List.getElem?_eq_some_iff.1 hj).1; rwa [boolL_len] at this
      rw [boolL_get N f j hj'] at hj
      rw [Go.WideShapes.add_plain, Nat.zero_add, hr j hj', ← hj]) (fun u hu => by
      obtain ⟨k, _, rfl⟩ := List.mem_map.1 hu
      rfl) (by unfold maxLen; omega) (by omega) (Nat.le_refl _)
  rcases h2.2 with ⟨hv, hn⟩ | ⟨g, cap, cur, hv, hg, hh, hnc, hm, hs2, ht⟩
  · omega
  subst hv
  rw [Nat.zero_add] at hnc
  unfold Oper.wp execOp
  simp only [ho, resolve, invoke, builtin, Sem.run_bind, Sem.run_pure, Result.andThen_ok, List.map_toArray, List.map_cons, List.map_nil, hs, hx, hrun]
  rw [Nat.zero_add]
  refine hK _ _ (h g cap cur w' hh (fun i hi => ?_) hnc hg ((Below.refl _ _).grown h3 (Nat.le_refl _) (fun k hk => by cases hk)))
  have e : (boolL N f)[i]? = some (.bool (f i)) := boolL_get N f i hi
  rw [List.nil_append] at ht
  rw [← ht] at e
  simp only [List.getElem?_take] at e
  split at e
  · simpa using e
  · cases e
set_option maxHeartbeats 1000000 in
theorem rcopy_any (gr gl N : Nat) (f : Nat → Bool) (w : World) (h : RSp w gr gl N f) :
    Calls Tryd.prog 40 #[.pointer (some ⟨gr, 0, none⟩)] w fun e w' => ∃ gr' gl', e = .returned (.pointer (some ⟨gr', 0, none⟩)) ∧ RSp w' gr' gl' N f ∧ (w.heap.size ≤ gr' ∧ w.heap.size ≤ gl') ∧ Below w.heap.size w w' := by
  obtain ⟨cap, c0, hcap, hc⟩ := h.cells
  have HN := Lib.hid h.bounds
  have HV := Lib.hid h.void
  have HC := Lib.hid fun k hk => (hc k hk).1
  clear h hc
  go_enter Tryd.func40, Tryd.ntmps40
  go_wp2_with (first
    | (at_builtin
       refine wpList_append_bools rfl (.tmp 4) (.tmp 8) rfl N f (by have := HN.out; omega) HN.out.2 rfl gl cap rfl HC.out ?_
       intro g2 c2 cs w2 k2 h2 hn2 hg2 b2
       have K2 := Lib.hid (And.intro k2 (And.intro h2 (And.intro hn2 hg2)))
       have B2 := Lib.hid b2
       have hlt := k2.lt
       clear k2 h2 hn2 hg2 b2))
  go_ret
  have hz := B2.out.size
  exact ⟨w2.heap.size, g2, rfl, ⟨c2, cs, ⟨Blk.new w2 71 _, K2.out.1.alloc _⟩, K2.out.2.2.1, K2.out.2.1, HV.out, HN.out.1, HN.out.2, by omega⟩, ⟨hz, K2.out.2.2.2⟩, B2.out.alloc hz _⟩
end Go.Proofs.YtghakgepchlpgaaDoor
