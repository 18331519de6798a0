/- APPEND of one-cell things; the world's fields. -/
import Derived.Test.YtghakgepchlpgaaX5
namespace Go.Proofs.Ytghakgepchlpgaa
open Go.RowKit Go.Maps
theorem run_append_one {ts e : TypeId} {zv : Value} {sz : Nat} (hu : Try.prog.underlying ts = some (.slice e)) (hz : (Try.prog.info? e).map (fun i => (i.zero, i.size, i.bytes)) = some (some zv, 1, sz)) (hcz : zv.cells.size = 1) (hsz : sz ≤ 24)
    (w : World) (base ty : Nat) (v : Value) (xs ys : List Value) (hown : w.ownsRow base e 1 v xs.length xs) (gb c : Nat) (hr : Blk w gb e ys.toArray) (h1 : ∀ u ∈ ys, u.oneCell' = true)
    (hb : xs.length + ys.length ≤ 1000000000) (hbase : base ≤ w.heap.size) :
    ∃ v' w', (Builtin.append_ #[ts, ts] ty #[v, .slice (some ⟨gb, 0, none⟩) ys.length c]).run Try.prog w = .ok v' w' ∧ w'.ownsRow base e 1 v' (xs ++ ys).length (xs ++ ys) ∧ Grew w w' v v' := by
  obtain ⟨i0, hi, hz0, hz1, hz2⟩ := info_parts hz
  have hbytes : (xs.length + ys.length) * sz ≤ 140737488355328 := Nat.le_trans (Nat.mul_le_mul hb hsz) (by decide)
  obtain ⟨v', w', hrun, h2, h3, _, h5⟩ := run_append_own_at (P := Try.prog) w base ts ty e i0 zv 1 sz hu hi hz0 hz1 hz2 hcz (by omega) v xs.length xs hown ⟨gb, 0, none⟩ ys.length c ys (by simp)
    (fun j u hu => by rw [Go.WideShapes.add_plain, Nat.zero_add, hr.cell]; simpa using hu) h1 (by unfold maxLen; omega) hbytes hbase
  exact ⟨v', w', hrun, by rw [List.length_append]; exact h2, h3, h5⟩
theorem wp_append_one {ts e : TypeId} {zv : Value} {sz : Nat} (hu : Try.prog.underlying ts = some (.slice e)) (hz : (Try.prog.info? e).map (fun i => (i.zero, i.size, i.bytes)) = some (some zv, 1, sz)) (hcz : zv.cells.size = 1) (hsz : sz ≤ 24)
    {w : World} {o : Oper} {a : Act} {K : Act → World → Prop} {Q : Exit → Act → World → Prop} (s x : Operand)
    (ho : o.op = .call { callee := .builtin .append, args := #[s, x], argTypes := #[ts, ts] })
    (base : Nat) (v : Value) (xs ys : List Value) (hs : a.eval s = v) (hown : w.ownsRow base e 1 v xs.length xs) (gb c : Nat) (hx : a.eval x = .slice (some ⟨gb, 0, none⟩) ys.length c) (hr : Blk w gb e ys.toArray) (h1 : ∀ u ∈ ys, u.oneCell' = true)
    (hb : xs.length + ys.length ≤ 1000000000) (hbase : base ≤ w.heap.size)
    (h : ∀ v' w', w'.ownsRow base e 1 v' (xs ++ ys).length (xs ++ ys) → Grew w w' v v' → K (a.put o.dst v') w') : o.wp Try.prog a w K Q := by
  obtain ⟨v', w', hrun, h2, h3⟩ := run_append_one hu hz hcz hsz w base o.type v xs ys hown gb c hr h1 hb hbase
  unfold Oper.wp execOp
  simp only [ho, resolve, invoke, builtin, Sem.run_bind, Sem.run_pure, Result.andThen_ok, List.map_toArray, List.map_cons, List.map_nil, hs, hx, hrun]
  exact h v' w' h2 h3
theorem wpList_append_one {ts e : TypeId} {zv : Value} {sz : Nat} (hu : Try.prog.underlying ts = some (.slice e)) (hz : (Try.prog.info? e).map (fun i => (i.zero, i.size, i.bytes)) = some (some zv, 1, sz)) (hcz : zv.cells.size = 1) (hsz : sz ≤ 24)
    {w : World} {ops : Array Oper} {rest : List Oper} {o : Oper} {a : Act} {Q : Exit → Act → World → Prop} (hgd : o.guard = none) (s x : Operand)
    (ho : o.op = .call { callee := .builtin .append, args := #[s, x], argTypes := #[ts, ts] })
    (base : Nat) (v : Value) (xs ys : List Value) (hs : a.eval s = v) (hown : w.ownsRow base e 1 v xs.length xs) (gb c : Nat) (hx : a.eval x = .slice (some ⟨gb, 0, none⟩) ys.length c) (hr : Blk w gb e ys.toArray) (h1 : ∀ u ∈ ys, u.oneCell' = true)
    (hb : xs.length + ys.length ≤ 1000000000) (hbase : base ≤ w.heap.size)
    (h : ∀ v' w', w'.ownsRow base e 1 v' (xs ++ ys).length (xs ++ ys) → Grew w w' v v' → wpList Try.prog ops Q rest (a.put o.dst v') w') : wpList Try.prog ops Q (o :: rest) a w :=
  wpList_plain hgd fun _ hK => wp_append_one hu hz hcz hsz s x ho base v xs ys hs hown gb c hx hr h1 hb hbase fun v' w' h1 h2 => hK _ _ (h v' w' h1 h2)
theorem info25 : (Try.prog.info? 25).map (fun i => (i.zero, i.size, i.bytes)) = some (some (.pointer none), 1, 8) := by kernel_rfl
theorem info63 : (Try.prog.info? 63).map (fun i => (i.zero, i.size, i.bytes)) = some (some (.pointer none), 1, 8) := by kernel_rfl
theorem info65 : (Try.prog.info? 65).map (fun i => (i.zero, i.size, i.bytes)) = some (some (.pointer none), 1, 8) := by kernel_rfl
theorem info29 : (Try.prog.info? 29).map (fun i => (i.zero, i.size, i.bytes)) = some (some (.slice none 0 0), 1, 24) := by kernel_rfl
theorem Kept.of_grown {S : Nat → Prop} {w w' : World} {row : Option Nat} (h : w.grownBy w' row) (hs : ∀ k, row = some k → S k) : Kept S w w' := (Kept.refl S w).grown h hs
theorem Kept.since {S T : Nat → Prop} {u v w : World} (h : Kept S u v) (h' : Kept T v w) (ht : ∀ k, T k → S k ∨ u.heap.size ≤ k) : Kept S u w :=
  ⟨h'.os.trans h.os, h'.tape.trans h.tape, h'.output.trans h.output, Nat.le_trans h.size h'.size, fun k hk hn => (h'.block k (Nat.lt_of_lt_of_le hk h.size) fun e => by
    rcases ht k e with e | e
    · exact hn e
    · omega).trans (h.block k hk hn)⟩
/-- a field of the world's block, amid an append -/
theorem field_mid {wa wb : World} {gw e B n : Nat} {cs : Array Value} {v v' : Value} {xs : List Value} {o : Obj} (hb : Blk wa gw 48 cs) (ho : wa.ownsRow B e 1 v n xs) (he : e ≠ 48) (g1 : Grew (wa.alloc o) wb v v') : Blk wb gw 48 cs :=
  Blk.kept (S := fun k => v.ownBlock = some k) hb (((Kept.refl _ wa).alloc o).trans (Kept.of_grown g1.1 fun _ h => h)) fun h => by
    obtain ⟨ds, hd⟩ := rowType ho gw h
    exact types_ne hb hd (fun h => he h.symm) rfl
theorem field_done {wa wb : World} {gw e B n m : Nat} {cs : Array Value} {v v' : Value} {xs ys : List Value} {o : Obj} (hb : Blk wa gw 48 cs) (ho : wa.ownsRow B e 1 v n xs) (he : e ≠ 48) (g1 : Grew (wa.alloc o) wb v v') (o1 : wb.ownsRow B e 1 v' m ys) (f : Nat) :
    Blk (wb.setCell ⟨gw, f, none⟩ v') gw 48 (cs.setIfInBounds f v') ∧ (wb.setCell ⟨gw, f, none⟩ v').ownsRow B e 1 v' m ys ∧ Kept (fun k => k = gw ∨ v.ownBlock = some k) wa (wb.setCell ⟨gw, f, none⟩ v') ∧ (∀ k, v'.ownBlock = some k → v.ownBlock = some k ∨ wa.heap.size ≤ k) := by
  have b1 := field_mid hb ho he g1
  refine ⟨b1.put f v', rowKept o1 (Kept.setCell (Kept.refl (fun k => k = gw) wb) (p := ⟨gw, f, none⟩) rfl v') fun g hg h => ?_, ?_, fun k hk => ?_⟩
  · subst h
    obtain ⟨ds, hd⟩ := rowType o1 g hg
    exact types_ne b1 hd (fun h => he h.symm) rfl
  · exact (((Kept.refl _ wa).alloc o).trans (Kept.of_grown g1.1 fun _ h => .inr h)).setCell (p := ⟨gw, f, none⟩) (.inl rfl) v'
  · rcases g1.2 with h | h
    · rw [h] at hk; exact .inl hk
    · rw [h] at hk
      simp at hk
      omega
theorem rowFar {w w' : World} {gw e e' B B' n n' : Nat} {v u : Value} {xs ys : List Value} {cs : Array Value} (h : w.ownsRow B e 1 v n xs) (hb : Blk w gw 48 cs) (ho : w.ownsRow B' e' 1 u n' ys) (he : e ≠ 48) (hne : e ≠ e') (k : Kept (fun k => k = gw ∨ u.ownBlock = some k) w w') : w'.ownsRow B e 1 v n xs := by
  refine rowKept h k fun g hg hs => ?_
  obtain ⟨ds, hd⟩ := rowType h g hg
  rcases hs with rfl | hs
  · exact types_ne hb hd (fun h => he h.symm) rfl
  · obtain ⟨ds', hd'⟩ := rowType ho g hs
    exact types_ne hd hd' hne rfl
theorem ptrL_snoc (N : Nat) (p p' : Nat → Nat) (q : Nat) (h : ∀ i, i < N → p' i = p i) (hq : p' N = q) : ptrL (N + 1) p' = ptrL N p ++ [.pointer (some ⟨q, 0, none⟩)] := by
  unfold ptrL
  rw [List.range_succ, List.map_append, List.map_singleton, hq]
  congr 1
  apply List.map_congr_left
  intro i hi
  rw [h i (List.mem_range.1 hi)]
section
variable {B gw N : Nat} {w w0 : World} {pt : Nat → Nat → Nat} {CV LV RV OV WV : Value} {rs ws : List Row} {ob : Nat → Nat → Ob}
def p3 (pt : Nat → Nat → Nat) (N a b c K i : Nat) : Nat := if i = N then (match K with | 0 => a | 1 => b | _ => c) else pt K i
def o3 (a b c : Ob) (K : Nat) : Ob := match K with | 0 => a | 1 => b | _ => c
theorem Md.made (h : Md B w0 w gw N pt CV LV RV OV WV rs ws ob) {w1 w2 w3 w6 : World} {pA pL pR : Nat} {P : Int} {CV' LV' RV' : Value}
    (hA : isA w1 ⟨pA, P, 0, 0, [], Gr (fun _ => False) w w1⟩) (bA : Below w.heap.size w w1) (hL : isL w2 ⟨pL, P, 0, 0, [], Gr (fun _ => False) w1 w2⟩) (bL : Below w1.heap.size w1 w2) (hR : isR w3 ⟨pR, P, 0, 0, [], Gr (fun _ => False) w2 w3⟩) (bR : Below w2.heap.size w2 w3)
    (k : Kept (fun k => k = gw ∨ CV.ownBlock = some k ∨ LV.ownBlock = some k ∨ RV.ownBlock = some k) w3 w6) (blk : Blk w6 gw 48 #[CV', LV', RV', OV, WV])
    (c : w6.ownsRow B 25 1 CV' (N + 1) (ptrL N (pt 0) ++ [.pointer (some ⟨pA, 0, none⟩)])) (l : w6.ownsRow B 63 1 LV' (N + 1) (ptrL N (pt 1) ++ [.pointer (some ⟨pL, 0, none⟩)])) (r : w6.ownsRow B 65 1 RV' (N + 1) (ptrL N (pt 2) ++ [.pointer (some ⟨pR, 0, none⟩)]))
    (nC : ∀ k, CV'.ownBlock = some k → CV.ownBlock = some k ∨ w3.heap.size ≤ k) (nL : ∀ k, LV'.ownBlock = some k → LV.ownBlock = some k ∨ w3.heap.size ≤ k) (nR : ∀ k, RV'.ownBlock = some k → RV.ownBlock = some k ∨ w3.heap.size ≤ k) :
    Md B w0 w6 gw (N + 1) (p3 pt N pA pL pR) CV' LV' RV' OV WV rs ws (fun K i => if i = N then o3 ⟨pA, P, 0, 0, [], Gr (fun _ => False) w w1⟩ ⟨pL, P, 0, 0, [], Gr (fun _ => False) w1 w2⟩ ⟨pR, P, 0, 0, [], Gr (fun _ => False) w2 w3⟩ K else ob K i) := by
  have kA : Kept (fun _ => False) w w1 := Kept.of_below bA
  have kL : Kept (fun _ => False) w1 w2 := Kept.of_below bL
  have kR : Kept (fun _ => False) w2 w3 := Kept.of_below bR
  have k13 : Kept (fun _ => False) w1 w3 := kL.trans kR
  have k03 : Kept (fun _ => False) w w3 := kA.trans k13
  have m3 := h.frame k03 fun _ _ e => e
  have sA := bA.size
  have sL := bL.size
  have sR := bR.size
  have sys3 : Sys B w3 (N + 1) _ (FWo gw CV LV RV OV WV rs ws) := m3.sys.more (o := o3 ⟨pA, P, 0, 0, [], Gr (fun _ => False) w w1⟩ ⟨pL, P, 0, 0, [], Gr (fun _ => False) w1 w2⟩ ⟨pR, P, 0, 0, [], Gr (fun _ => False) w2 w3⟩) (H := w.heap.size)
    (fun K hK => match K, hK with
      | 0, _ => isA.kept hA k13 fun _ _ e => e
      | 1, _ => isL.kept hL kR fun _ _ e => e
      | 2, _ => hR)
    (fun K hK => match K, hK with
      | 0, _ => fun k e => e.elim False.elim fun e => e.1
      | 1, _ => fun k e => e.elim False.elim fun e => by have := e.1; omega
      | 2, _ => fun k e => e.elim False.elim fun e => by have := e.1; omega)
    (fun K i hK hi k e => (h.sys.ok K i hK hi).lt k e) (fun k e => (h.wo.in_ k e).2) h.wo.size
    (fun K K' hK hK' hne k e e' => by
      match K, hK, K', hK' with
      | 0, _, 0, _ => exact hne rfl
      | 1, _, 1, _ => exact hne rfl
      | 2, _, 2, _ => exact hne rfl
      | 0, _, 1, _ => exact e.elim False.elim fun e => e'.elim False.elim fun e' => by have := e.2; have := e'.1; omega
      | 0, _, 2, _ => exact e.elim False.elim fun e => e'.elim False.elim fun e' => by have := e.2; have := e'.1; omega
      | 1, _, 0, _ => exact e.elim False.elim fun e => e'.elim False.elim fun e' => by have := e.1; have := e'.2; omega
      | 1, _, 2, _ => exact e.elim False.elim fun e => e'.elim False.elim fun e' => by have := e.2; have := e'.1; omega
      | 2, _, 0, _ => exact e.elim False.elim fun e => e'.elim False.elim fun e' => by have := e.1; have := e'.2; omega
      | 2, _, 1, _ => exact e.elim False.elim fun e => e'.elim False.elim fun e' => by have := e.1; have := e'.2; omega)
  have low : ∀ k, (k = gw ∨ CV.ownBlock = some k ∨ LV.ownBlock = some k ∨ RV.ownBlock = some k) → FWo gw CV LV RV OV WV rs ws k := by
    rintro k (e | e | e | e)
    · exact .inl e
    · exact .inr (.inl e)
    · exact .inr (.inr (.inl e))
    · exact .inr (.inr (.inr (.inl e)))
  -- a row of another type
  have far : ∀ {b e n : Nat} {v : Value} {xs : List Value}, w3.ownsRow b e 1 v n xs → e ≠ 48 → e ≠ 25 → e ≠ 63 → e ≠ 65 → w6.ownsRow b e 1 v n xs := fun {b e n v xs} ho e1 e2 e3 e4 => rowKept ho k fun g hg hs => by
    obtain ⟨ds, hd⟩ := rowType ho g hg
    rcases hs with rfl | hs | hs | hs
    · exact types_ne m3.wo.blk hd (fun h => e1 h.symm) rfl
    · obtain ⟨_, hd'⟩ := rowType m3.wo.c g hs
      exact types_ne hd hd' e2 rfl
    · obtain ⟨_, hd'⟩ := rowType m3.wo.l g hs
      exact types_ne hd hd' e3 rfl
    · obtain ⟨_, hd'⟩ := rowType m3.wo.r g hs
      exact types_ne hd hd' e4 rfl
  refine ⟨⟨blk, ?_, ?_, ?_, far m3.wo.ov (by decide) (by decide) (by decide) (by decide), far m3.wo.wv (by decide) (by decide) (by decide) (by decide), h.wo.ne, fun r hr => ⟨far (m3.wo.rows r hr).1 (by decide) (by decide) (by decide) (by decide), (m3.wo.rows r hr).2⟩, fun r hr => far (m3.wo.was r hr) (by decide) (by decide) (by decide) (by decide), h.wo.same, h.wo.apart, h.wo.low, Nat.le_trans m3.wo.size k.size⟩, sys3.frame k (fun q _ e => low q e) ?_, fun K i hK hi => ?_, ?_⟩
  · rw [ptrL_snoc N (pt 0) (p3 pt N pA pL pR 0) pA (fun i hi => if_neg (by omega)) (if_pos rfl)]; exact c
  · rw [ptrL_snoc N (pt 1) (p3 pt N pA pL pR 1) pL (fun i hi => if_neg (by omega)) (if_pos rfl)]; exact l
  · rw [ptrL_snoc N (pt 2) (p3 pt N pA pL pR 2) pR (fun i hi => if_neg (by omega)) (if_pos rfl)]; exact r
  · rintro q (e | e | e | e | e)
    · exact .inl (.inl e)
    · exact (nC q e).imp (fun e => .inr (.inl e)) id
    · exact (nL q e).imp (fun e => .inr (.inr (.inl e))) id
    · exact (nR q e).imp (fun e => .inr (.inr (.inr (.inl e)))) id
    · exact .inl (.inr (.inr (.inr (.inr e))))
  · unfold p3
    by_cases e : i = N
    · rw [if_pos e, if_pos e]
      match K, hK with
      | 0, _ => rfl
      | 1, _ => rfl
      | 2, _ => rfl
    · rw [if_neg e, if_neg e]
      exact h.pts K i hK (by omega)
  · exact m3.bel.trans (Kept.below k (fun q e => (m3.wo.in_ q (low q e)).1) m3.wo.size)
theorem Good.made {steps : Nat} (h : Good N steps ob) {oA oL oR : Ob} {P : Int} (h1 : 1 ≤ P) (h2 : P ≤ 65536) (hA : oA.P = P ∧ oA.hit = 0 ∧ oA.miss = 0 ∧ oA.M = []) (hL : oL.P = P ∧ oL.hit = 0 ∧ oL.miss = 0 ∧ oL.M = []) (hR : oR.P = P ∧ oR.hit = 0 ∧ oR.miss = 0 ∧ oR.M = []) :
    Good (N + 1) (steps + 1) (fun K i => if i = N then o3 oA oL oR K else ob K i) := ⟨fun j hj => by
  by_cases e : j = N
  · refine ⟨P, 0, 0, [], fun K hK => ?_, h1, h2, by simp; omega, fun t ht => by cases ht⟩
    simp only [if_pos e]
    match K, hK with
    | 0, _ => exact hA
    | 1, _ => exact hL
    | 2, _ => exact hR
  · obtain ⟨P, hit, miss, M, a, b, c, d, f⟩ := h.ok j (by omega)
    refine ⟨P, hit, miss, M, fun K hK => ?_, b, c, d, fun t ht => ⟨(f t ht).1, by have := (f t ht).2; omega⟩⟩
    simp only [if_neg e]
    exact a K hK⟩
end
end Go.Proofs.Ytghakgepchlpgaa
