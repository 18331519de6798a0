/- THE WALK of the world's keep. -/
import Derived.Test.YtghakgepchlpgaaX6
import Derived.Deep.Cut
namespace Go.Proofs.Ytghakgepchlpgaa
open Go.RowKit Go.Maps
theorem OwnsI.fresh (w : World) (base : Nat) (hb : base ≤ w.heap.size) : OwnsI (w.alloc (.cells #[] 3)) base (.slice (some ⟨w.heap.size, 0, none⟩) 0 0) [] :=
  ⟨rfl, .inr ⟨w.heap.size, 0, #[], rfl, hb, heap_alloc_new w _, Nat.le_refl _, by unfold maxLen; omega, rfl, rfl⟩⟩
/-- append(v, l...): any list, nothing too -/
theorem run_append_list (w : World) (base ty : Nat) (v : Value) (l m : List Int) (hown : OwnsI w base v l) (B : Nat) (A : Option Addr) (c : Nat) (hr : Ri w B A m)
    (hb : l.length + m.length ≤ 17592186044416) (hbase : base ≤ w.heap.size) :
    ∃ v' w', (Builtin.append_ #[29, 29] ty #[v, .slice A m.length c]).run Try.prog w = .ok v' w' ∧ OwnsI w' base v' (l ++ m) ∧ Grew w w' v v' := by
  by_cases hm : m = []
  · obtain ⟨i0, hi, hz0, hz1, hz2⟩ := info_parts info3
    subst hm
    cases A with
    | none =>
      refine ⟨v, w, ?_, by simpa using hown, ⟨⟨rfl, rfl, rfl, Nat.le_refl _, fun _ _ _ => rfl⟩, .inl rfl⟩⟩
      rcases hown.2 with ⟨rfl, hn⟩ | ⟨g, cap, cur, rfl, _, _, hnc, _⟩
      · simp [Builtin.append_, run_underlying Try.underlying29, sizeOf, typeInfo, hi, Builtin.lenOf, Builtin.firstCells]
      · simp [Builtin.append_, run_underlying Try.underlying29, sizeOf, typeInfo, hi, Builtin.lenOf, Builtin.firstCells, hnc, storeCells]
    | some ad =>
      obtain ⟨v', w', hrun, h2, h3, _, h5⟩ := run_append_own_at (P := Try.prog) w base 29 ty 3 i0 (.int .i64 0) 1 8 Try.underlying29 hi hz0 hz1 hz2 rfl (by omega) v l.length (l.map intV) hown ad 0 c [] (by simp) (fun j u hu => by simp at hu) (fun u hu => by cases hu)
        (by unfold maxLen; simp at hb; omega) (by simp at hb; omega) hbase
      refine ⟨v', w', hrun, ?_, h3, h5⟩
      unfold OwnsI
      rw [List.append_nil]
      rw [List.append_nil] at h2
      exact h2
  · exact run_append_ints w base ty v l m hown B A c hr hm hb hbase
theorem wp_append_list {w : World} {o : Oper} {a : Act} {K : Act → World → Prop} {Q : Exit → Act → World → Prop} (s x : Operand)
    (ho : o.op = .call { callee := .builtin .append, args := #[s, x], argTypes := #[29, 29] })
    (base : Nat) (v : Value) (l m : List Int) (hs : a.eval s = v) (hown : OwnsI w base v l) (B : Nat) (A : Option Addr) (c : Nat) (hx : a.eval x = .slice A m.length c) (hr : Ri w B A m)
    (hb : l.length + m.length ≤ 17592186044416) (hbase : base ≤ w.heap.size)
    (h : ∀ (A' : Option Addr) (c' : Nat) w' (r : List Int), Hid (r = l ++ m) → r.length ≤ c' → OwnsI w' base (.slice A' r.length c') r → Grew w w' v (.slice A' r.length c') → K (a.put o.dst (.slice A' r.length c')) w') : o.wp Try.prog a w K Q := by
  obtain ⟨v', w', hrun, h2, h3⟩ := run_append_list w base o.type v l m hown B A c hr hb hbase
  obtain ⟨A', c', rfl, hlc, _⟩ := h2.shape
  unfold Oper.wp execOp
  simp only [ho, resolve, invoke, builtin, Sem.run_bind, Sem.run_pure, Result.andThen_ok, List.map_toArray, List.map_cons, List.map_nil, hs, hx, hrun]
  exact h A' c' w' _ rfl hlc h2 h3
/-- no block of ints has turned -/
def Three (w w' : World) : Prop := ∀ (k : Nat) (cs : Array Value) (fr : Nat × Nat), w.heap[k]? = some (Obj.cells cs 3 fr) → w'.heap[k]? = some (Obj.cells cs 3 fr)
theorem Three.refl (w : World) : Three w w := fun _ _ _ h => h
theorem Three.trans {a b c : World} (h : Three a b) (h' : Three b c) : Three a c := fun k cs fr e => h' k cs fr (h k cs fr e)
theorem Kept.three {S : Nat → Prop} {w w' : World} (h : Kept S w w') (hs : ∀ (k : Nat) (cs : Array Value) (fr : Nat × Nat), w.heap[k]? = some (Obj.cells cs 3 fr) → ¬ S k) : Three w w' :=
  fun k cs fr e => (h.block k (Array.getElem?_eq_some_iff.1 e).1 (hs k cs fr e)).trans e
theorem OwnsI.three {w w' : World} {B : Nat} {v : Value} {l : List Int} (h : OwnsI w B v l) (f : Three w w') : OwnsI w' B v l := by
  refine ⟨h.1, h.2.imp id ?_⟩
  rintro ⟨g, cap, cur, rfl, hb, hg, rest⟩
  exact ⟨g, cap, cur, rfl, hb, f _ _ _ hg, rest⟩
/-- gw's field v (of another type than ints) has turned: no ints have -/
theorem field_three {w w' : World} {gw e B n : Nat} {cs : Array Value} {v : Value} {xs : List Value} (hb : Blk w gw 48 cs) (ho : w.ownsRow B e 1 v n xs) (he : e ≠ 3) (k : Kept (fun k => k = gw ∨ v.ownBlock = some k) w w') : Three w w' :=
  k.three fun q cs fr hq hs => by
    rcases hs with rfl | hs
    · exact types_ne hb hq (by decide) rfl
    · obtain ⟨_, hd⟩ := rowType ho q hs
      exact types_ne hd hq he rfl
theorem Sys.frame2 {B : Nat} {w w' : World} {N : Nat} {ob : Nat → Nat → Ob} {FW FW' : Nat → Prop} {S : Nat → Prop} (h : Sys B w N ob FW) (hk : Kept S w w') (hs : ∀ k, k < w.heap.size → S k → FW k) (hf : ∀ k, FW' k → FW k ∨ ∀ K i, K < 3 → i < N → ¬ (ob K i).F k) : Sys B w' N ob FW' := by
  have low : ∀ K' i' k, K' < 3 → i' < N → (ob K' i').F k → k < w.heap.size := fun K' i' k a b c => (h.ok K' i' a b).lt k c
  refine ⟨fun K i a b => (h.ok K i a b).kept hk fun k f1 f2 => h.fw K i a b k f1 (hs k (low K i k a b f1) f2), h.ap, fun K i a b k f1 f2 => ?_, h.lo⟩
  rcases hf k f2 with f2 | f2
  · exact h.fw K i a b k f1 f2
  · exact f2 K i a b f1
section
variable {B gw N : Nat} {w w0 : World} {pt : Nat → Nat → Nat} {CV LV RV OV WV : Value} {rs ws : List Row} {ob : Nat → Nat → Ob}
/-- what was laid down: the first of the two -/
structure Half (w w2 : World) (B gw : Nat) (CV LV RV OV OV' WV : Value) (m1 nW : Nat) (xs ys : List Value) : Prop where
  blk : Blk w2 gw 48 #[CV, LV, RV, OV', WV]
  row : w2.ownsRow B 29 1 OV' m1 xs
  kept : Kept (fun k => k = gw ∨ OV.ownBlock = some k) w w2
  new : ∀ k, OV'.ownBlock = some k → OV.ownBlock = some k ∨ w.heap.size ≤ k
theorem keep_post {A AO AW A1 A4 A6 : Option Addr} {c cO cW c1 c4 c6 n nO nW m1 m6 : Nat} {l : List Int} {w2 w4 w7 : World}
    (h : Md B w0 w gw N pt CV LV RV (.slice AO nO cO) (.slice AW nW cW) rs ws ob) (ho : OwnsI w B (.slice A l.length c) l) (hn : l.length = n) (hl : l.length ≤ 65536)
    (hap : ∀ r ∈ rs, ∀ k, r.v.ownBlock = some k → (Value.slice A l.length c).ownBlock ≠ some k) (hob : ∀ k, (Value.slice A l.length c).ownBlock = some k → ∀ K i, K < 3 → i < N → ¬ (ob K i).F k)
    (F2 : Blk w2 gw 48 #[CV, LV, RV, .slice A1 m1 c1, .slice AW nW cW] ∧ w2.ownsRow B 29 1 (.slice A1 m1 c1) m1 (rs.map Row.v ++ [.slice A n c]) ∧ (Kept (fun k => k = gw ∨ (Value.slice AO nO cO).ownBlock = some k) w w2 ∧ (∀ k, (Value.slice A1 m1 c1).ownBlock = some k → (Value.slice AO nO cO).ownBlock = some k ∨ w.heap.size ≤ k)) ∧ w2.ownsRow B 29 1 (.slice AW nW cW) (ws.map Row.v).length (ws.map Row.v) ∧ Three w w2)
    (k4 : Kept (fun k => k = w2.heap.size) w2 w4) (o4 : OwnsI w4 w2.heap.size (.slice A4 l.length c4) l)
    (F6 : Blk w7 gw 48 (#[CV, LV, RV, Value.slice A1 m1 c1, Value.slice AW nW cW].setIfInBounds 4 (.slice A6 m6 c6)) ∧ w7.ownsRow B 29 1 (.slice A6 m6 c6) m6 (ws.map Row.v ++ [.slice A4 l.length c4]) ∧ Kept (fun k => k = gw ∨ (Value.slice AW nW cW).ownBlock = some k) w4 w7 ∧ (∀ k, (Value.slice A6 m6 c6).ownBlock = some k → (Value.slice AW nW cW).ownBlock = some k ∨ w4.heap.size ≤ k))
    (hm1 : m1 = (rs.map Row.v ++ [Value.slice A n c]).length) (hm6 : m6 = (ws.map Row.v ++ [Value.slice A4 l.length c4]).length) :
    ∃ OV' WV' ws', Md B w0 w7 gw N pt CV LV RV OV' WV' (rs ++ [⟨A, c, l⟩]) ws' ob ∧ Three w w7 := by
  obtain ⟨b2, r2, ⟨k2, n2⟩, W2, t2⟩ := F2
  obtain ⟨b7, r7, k7, n7⟩ := F6
  have s2 := k2.size
  have s4 := k4.size
  have s7 := k7.size
  have W4 : w4.ownsRow B 29 1 (.slice AW nW cW) (ws.map Row.v).length (ws.map Row.v) := rowKept W2 k4 fun k e h => by
    have := (World.ownsRow.lt W2 k e).2
    omega
  have b4 : Blk w4 gw 48 #[CV, LV, RV, .slice A1 m1 c1, .slice AW nW cW] := b2.kept k4 fun e => by have := b2.lt; omega
  have t4 : Three w2 w4 := k4.three fun k cs fr hk e => by
    have := (Array.getElem?_eq_some_iff.1 hk).1
    omega
  have t7 : Three w4 w7 := field_three b4 W4 (by decide) k7
  have t : Three w w7 := t2.trans (t4.trans t7)
  have kk : Kept (fun k => k = gw ∨ (Value.slice AO nO cO).ownBlock = some k ∨ (Value.slice AW nW cW).ownBlock = some k) w w7 :=
    (((k2.mono (T := fun k => k = gw ∨ (Value.slice AO nO cO).ownBlock = some k ∨ (Value.slice AW nW cW).ownBlock = some k) fun k _ e => e.imp id .inl).since k4 fun k e => .inr (by rw [e]; exact s2)).since k7 fun k e => .inl (e.imp id .inr))
  have low : ∀ k, (k = gw ∨ (Value.slice AO nO cO).ownBlock = some k ∨ (Value.slice AW nW cW).ownBlock = some k) → FWo gw CV LV RV (.slice AO nO cO) (.slice AW nW cW) rs ws k := by
    rintro k (e | e | e)
    · exact .inl e
    · exact .inr (.inr (.inr (.inr (.inl e))))
    · exact .inr (.inr (.inr (.inr (.inr (.inl e)))))
  have far : ∀ {b e n : Nat} {v : Value} {xs : List Value}, w.ownsRow b e 1 v n xs → e ≠ 48 → e ≠ 29 → w7.ownsRow b e 1 v n xs := fun {b e n v xs} ho e1 e2 => rowKept ho kk fun g hg hs => by
    obtain ⟨ds, hd⟩ := rowType ho g hg
    rcases hs with rfl | hs | hs
    · exact types_ne h.wo.blk hd (fun h => e1 h.symm) rfl
    · obtain ⟨_, hd'⟩ := rowType h.wo.ov g hs
      exact types_ne hd hd' e2 rfl
    · obtain ⟨_, hd'⟩ := rowType h.wo.wv g hs
      exact types_ne hd hd' e2 rfl
  have hrow : (rs.map Row.v ++ [Value.slice A n c]) = (rs ++ [(⟨A, c, l⟩ : Row)]).map Row.v := by rw [List.map_append]; simp [Row.v, hn]
  have hwrow : (ws.map Row.v ++ [Value.slice A4 l.length c4]) = (ws ++ [(⟨A4, c4, l⟩ : Row)]).map Row.v := by rw [List.map_append]; simp [Row.v]
  have wlt : ∀ k, (Value.slice AW nW cW).ownBlock = some k → k < w.heap.size := fun k e => (World.ownsRow.lt h.wo.wv k e).2
  have O7 : w7.ownsRow B 29 1 (.slice A1 m1 c1) m1 (rs.map Row.v ++ [.slice A n c]) := rowKept (rowKept r2 k4 fun k e h => by have := (World.ownsRow.lt r2 k e).2; omega) k7 fun k e h' => by
    rcases h' with h' | h'
    · subst h'
      obtain ⟨_, hd⟩ := rowType r2 k e
      exact types_ne b2 hd (by decide) rfl
    · rcases n2 k e with e | e
      · exact h.wo.ne k e h'
      · have := wlt k h'
        omega
  refine ⟨_, _, ws ++ [⟨A4, c4, l⟩], ⟨⟨b7, far h.wo.c (by decide) (by decide), far h.wo.l (by decide) (by decide), far h.wo.r (by decide) (by decide), ?_, ?_, ?_, ?_, ?_, ?_, ?_, h.wo.low, Nat.le_trans h.wo.size kk.size⟩, h.sys.frame2 kk (fun k _ e => low k e) ?_, h.pts, h.bel.trans (Kept.below kk (fun k e => (h.wo.in_ k (low k e)).1) h.wo.size)⟩, t⟩
  · rw [hrow, List.length_map] at hm1
    rw [← hm1, ← hrow]
    exact O7
  · rw [hwrow, List.length_map] at hm6
    rw [← hm6, ← hwrow]
    exact r7
  · intro k e e'
    rcases n7 k e' with e' | e'
    · rcases n2 k e with e | e
      · exact h.wo.ne k e e'
      · have := wlt k e'
        omega
    · have := (World.ownsRow.lt r2 k e).2
      omega
  · intro r hr
    rcases List.mem_append.1 hr with hr | hr
    · exact ⟨(h.wo.rows r hr).1.three t, (h.wo.rows r hr).2⟩
    · rw [List.mem_singleton.1 hr]
      exact ⟨ho.three t, hl⟩
  · intro r hr
    rcases List.mem_append.1 hr with hr | hr
    · exact (h.wo.was r hr).three t
    · rw [List.mem_singleton.1 hr]
      exact (o4.three t7).mono (by have := h.wo.size; omega)
  · rw [List.map_append, List.map_append, h.wo.same]; rfl
  · refine List.pairwise_append.2 ⟨h.wo.apart, List.pairwise_singleton _ _, fun a ha b hb k e => ?_⟩
    rw [List.mem_singleton.1 hb]
    exact hap a ha k e
  · have new : ∀ k, w.heap.size ≤ k → ∀ K i, K < 3 → i < N → ¬ (ob K i).F k := fun k hk K i a b f => by
      have := (h.sys.ok K i a b).lt k f
      omega
    rintro k (e | e | e | e | e | e | ⟨r, hr, e⟩ | ⟨r, hr, e⟩)
    · exact .inl (.inl e)
    · exact .inl (.inr (.inl e))
    · exact .inl (.inr (.inr (.inl e)))
    · exact .inl (.inr (.inr (.inr (.inl e))))
    · exact (n2 k e).imp (fun e => .inr (.inr (.inr (.inr (.inl e))))) (new k)
    · exact (n7 k e).imp (fun e => .inr (.inr (.inr (.inr (.inr (.inl e)))))) fun e => new k (by omega)
    · rcases List.mem_append.1 hr with hr | hr
      · exact .inl (.inr (.inr (.inr (.inr (.inr (.inr (.inl ⟨r, hr, e⟩)))))))
      · rw [List.mem_singleton.1 hr] at e
        exact .inr (hob k e)
    · rcases List.mem_append.1 hr with hr | hr
      · exact .inl (.inr (.inr (.inr (.inr (.inr (.inr (.inr ⟨r, hr, e⟩)))))))
      · rw [List.mem_singleton.1 hr] at e
        have := (World.ownsRow.lt o4 k e).1
        exact .inr (new k (by omega))
set_option maxHeartbeats 4000000 in
set_option maxRecDepth 100000 in
theorem keep_any {A : Option Addr} {c n : Nat} {l : List Int} (h : Md B w0 w gw N pt CV LV RV OV WV rs ws ob) (ho : OwnsI w B (.slice A l.length c) l) (hn : l.length = n) (hl : l.length ≤ 65536)
    (hap : ∀ r ∈ rs, ∀ k, r.v.ownBlock = some k → (Value.slice A l.length c).ownBlock ≠ some k) (hob : ∀ k, (Value.slice A l.length c).ownBlock = some k → ∀ K i, K < 3 → i < N → ¬ (ob K i).F k) (hlen : rs.length ≤ 100000000) :
    Calls Try.prog 29 #[.pointer (some ⟨gw, 0, none⟩), .slice A n c] w fun e w' => e = .returned (.tuple #[]) ∧ ∃ OV' WV' ws', Md B w0 w' gw N pt CV LV RV OV' WV' (rs ++ [⟨A, c, l⟩]) ws' ob ∧ Three w w' := by
  obtain ⟨AO, cO, e0⟩ := rowShape h.wo.ov
  obtain ⟨AW, cW, e1⟩ := rowShape h.wo.wv
  obtain ⟨nO, hnO⟩ : ∃ x, x = rs.length := ⟨_, rfl⟩
  obtain ⟨nW, hnW⟩ : ∃ x, x = ws.length := ⟨_, rfl⟩
  rw [← hnO] at e0
  rw [← hnW] at e1
  subst e0 e1
  have hlw : ws.length ≤ 100000000 := by
    have := congrArg List.length h.wo.same
    simp only [List.length_map] at this
    omega
  have z3 : w.cell? ⟨gw, 3, none⟩ = some (.slice AO nO cO) := h.wo.blk.cell 3
  have H := Lib.hid h
  have HO := Lib.hid ho
  have HL := Lib.hid hl
  have HN := Lib.hid hn
  have HAP := Lib.hid hap
  have HOB := Lib.hid hob
  have HLEN := Lib.hid (And.intro hlen hlw)
  have O0 := Lib.hid (show w.ownsRow B 29 1 (.slice AO nO cO) (rs.map Row.v).length (rs.map Row.v) by rw [List.length_map]; exact h.wo.ov)
  have W0 := Lib.hid (show w.ownsRow B 29 1 (.slice AW nW cW) (ws.map Row.v).length (ws.map Row.v) by rw [List.length_map]; exact h.wo.wv)
  clear h ho hl hap hob hlen hn hnO hnW hlw
  go_enter Try.func29, Try.ntmps29
  go_upto_region 1 with (first
    | (at_builtin
       refine wpList_append_one (ts := 46) (e := 29) Try.underlying46 info29 rfl (by omega) rfl (.tmp 8) (.tmp 10) rfl B (.slice AO nO cO) (rs.map Row.v) [.slice A n c] rfl (rowKept O0.out ((Kept.refl (fun _ => False) w).alloc _) fun _ _ e => e) w.heap.size 1 rfl (Blk.new w 29 #[.slice A n c]) (by simp [Value.oneCell']) (by have := HLEN.out.1; simp; omega) (by have := H.out.wo.size; simp; omega) ?_
       intro v1 w1 o1 g1
       obtain ⟨A1, c1, rfl⟩ := rowShape o1
       obtain ⟨m1, hm1⟩ : ∃ m, m = (rs.map Row.v ++ [Value.slice A n c]).length := ⟨_, rfl⟩
       rw [← hm1] at o1 g1 ⊢
       have M1 := Lib.hid hm1
       have B1 := Lib.hid (field_mid H.out.wo.blk O0.out (by decide) g1)
       have F1 := Lib.hid (field_done H.out.wo.blk O0.out (by decide) g1 o1 3)
       have y1 : w1.cell? ⟨gw, 3, none⟩ = some (.slice AO nO cO) := B1.out.cell 3
       have x1 := B1.out.free 3
       clear o1 g1 z3 hm1)
    | fail)
  clear x1 y1 B1
  generalize World.setCell w1 _ _ = w2 at F1 ⊢
  have b2 := Lib.hid (show Blk w2 gw 48 #[CV, LV, RV, .slice A1 m1 c1, .slice AW nW cW] from F1.out.1)
  have F2 := Lib.hid (show Blk w2 gw 48 #[CV, LV, RV, .slice A1 m1 c1, .slice AW nW cW] ∧ w2.ownsRow B 29 1 (.slice A1 m1 c1) m1 (rs.map Row.v ++ [.slice A n c]) ∧ (Kept (fun k => k = gw ∨ (Value.slice AO nO cO).ownBlock = some k) w w2 ∧ (∀ k, (Value.slice A1 m1 c1).ownBlock = some k → (Value.slice AO nO cO).ownBlock = some k ∨ w.heap.size ≤ k)) ∧ w2.ownsRow B 29 1 (.slice AW nW cW) (ws.map Row.v).length (ws.map Row.v) ∧ Three w w2 from
    ⟨F1.out.1, F1.out.2.1, F1.out.2.2, rowKept W0.out F1.out.2.2.1 fun k e h => by
      rcases h with h | h
      · subst h
        obtain ⟨_, hd⟩ := rowType W0.out k e
        exact types_ne H.out.wo.blk hd (by decide) rfl
      · exact H.out.wo.ne k h e, field_three H.out.wo.blk O0.out (by decide) F1.out.2.2.1⟩)
  have HBZ := Lib.hid (show B ≤ w2.heap.size from Nat.le_trans H.out.wo.size F1.out.2.2.1.size)
  clear F1
  refine wp_region_held_drew (S := fun _ => True) (by kernel_rfl) (by exact trivial) (fun hHeld => ?_)
  refine takeTo (i := 0) (v := ?_) (some 14) rfl rfl (by kernel_rfl) (by kernel_rfl) (by kernel_rfl) (fun _ _ _ h => h) (Or.inl ⟨by rfl, ?_⟩) (by assumption) ?_
  rotate_left
  · (intro W7 hSw; (try dsimp only at hSw); go_simp; try with_reducible rfl)
  try simp only [Act.put, List.setIfInBounds_toArray, List.set_cons_zero, List.set_cons_succ]
  refine takeTo (i := 1) (v := ?_) (some 15) rfl rfl (by kernel_rfl) (by kernel_rfl) (by kernel_rfl) (fun _ _ _ h => h) (Or.inl ⟨by rfl, ?_⟩) (by assumption) ?_
  rotate_left
  · (intro W7 hSw; (try dsimp only at hSw); go_simp; try with_reducible rfl)
  try simp only [Act.put, List.setIfInBounds_toArray, List.set_cons_zero, List.set_cons_succ]
  refine takeTo (i := 2) (v := ?_) (some 16) rfl rfl (by kernel_rfl) (by kernel_rfl) (by kernel_rfl) (fun _ _ _ h => h) (Or.inl ⟨by rfl, ?_⟩) (by assumption) ?_
  rotate_left
  · (intro W7 hSw; (try dsimp only at hSw); go_simp; try with_reducible rfl)
  try simp only [Act.put, List.setIfInBounds_toArray, List.set_cons_zero, List.set_cons_succ]
  refine takeTo (i := 3) (v := ?_) (some 17) rfl rfl (by kernel_rfl) (by kernel_rfl) (by kernel_rfl) (fun _ _ _ h => h) (Or.inl ⟨by rfl, ?_⟩) (by assumption) ?_
  rotate_left
  · (intro W7 hSw; (try dsimp only at hSw); go_simp; try with_reducible rfl)
  try simp only [Act.put, List.setIfInBounds_toArray, List.set_cons_zero, List.set_cons_succ]
  refine takeTo (i := 6) (v := ?_) (some 20) rfl rfl (by kernel_rfl) (by kernel_rfl) (by kernel_rfl) (fun _ _ _ h => h) (Or.inl ⟨by rfl, ?_⟩) (by assumption) ?_
  rotate_left
  · (intro W7 hSw; (try dsimp only at hSw); go_simp; try with_reducible rfl)
  try simp only [Act.put, List.setIfInBounds_toArray, List.set_cons_zero, List.set_cons_succ]
  refine wpAnyH_ready (rs := [4, 5]) (by kernel_rfl) (by simp) ?_
  refine AllReadyH.cons rfl (fun K hK => ?_) (AllReadyH.cons rfl (fun K hK => ?_) AllReadyH.nil)
  ·
    rw [if_pos (by rfl)]
    have s4 : World.cell? w2.drew ⟨gw, 4, none⟩ = some (.slice AW nW cW) := (show Blk w2.drew gw 48 #[CV, LV, RV, .slice A1 m1 c1, .slice AW nW cW] from b2.out).cell 4
    go_wp2_with fail
    refine hK.out _ _ trivial (fun hHeld => ?_)
    clear hK K
    try simp only [Act.put, List.setIfInBounds_toArray, List.set_cons_zero, List.set_cons_succ]
    clear s4
    refine wpAnyH_ready (rs := [5]) (by kernel_rfl) (by simp) ?_
    refine AllReadyH.cons rfl (fun K hK => ?_) AllReadyH.nil
    rw [if_pos (by rfl)]
    go_wp2_with fail
    refine hK.out _ _ trivial (fun hHeld => ?_)
    clear hK K
    try simp only [Act.put, List.setIfInBounds_toArray, List.set_cons_zero, List.set_cons_succ]
    have b3 := Lib.hid (show Blk (w2.alloc (.cells #[] 3)).drew gw 48 #[CV, LV, RV, .slice A1 m1 c1, .slice AW nW cW] from b2.out.alloc _)
    have o3 := Lib.hid (show OwnsI (w2.alloc (.cells #[] 3)).drew w2.heap.size (.slice (some ⟨w2.heap.size, 0, none⟩) 0 0) [] from OwnsI.fresh w2 w2.heap.size (Nat.le_refl _))
    have k3 := Lib.hid (show Kept (fun _ => False) w2 (w2.alloc (.cells #[] 3)).drew from ((Kept.refl _ w2).alloc _).drew)
    generalize World.drew (w2.alloc _) = w3 at b3 o3 k3 ⊢
    refine wpAnyH_ready (rs := [7]) (by kernel_rfl) (by simp) ?_
    refine AllReadyH.cons rfl (fun K hK => ?_) AllReadyH.nil
    rw [if_pos (by rfl)]
    have R3 : Ri w3 w3.heap.size A l := ((OwnsI.three HO.out F2.out.2.2.2.2).three (k3.out.three fun _ _ _ _ h => h)).reads
    refine wp_append_list (.tmp 19) (.tmp 20) rfl w2.heap.size (.slice (some ⟨w2.heap.size, 0, none⟩) 0 0) [] l rfl o3.out w3.heap.size A c (by rw [HN.out]; rfl) R3 (by have := HL.out; simp; omega) k3.out.size ?_
    intro A4 c4 w4 r4 q4 rc4 o4' g4'
    have q4' : r4 = l := q4.out
    subst q4'
    refine hK.out _ _ trivial (fun hHeld => ?_)
    clear hK K
    try simp only [Act.put, List.setIfInBounds_toArray, List.set_cons_zero, List.set_cons_succ]
    have b4 := Lib.hid (show Blk w4 gw 48 #[CV, LV, RV, .slice A1 m1 c1, .slice AW nW cW] from b3.out.kept (Kept.of_grown (S := fun k => k = w2.heap.size) g4'.1 (by intro k e; simp [Value.ownBlock] at e; exact e.symm)) (by have := b2.out.lt; omega))
    have k4 := Lib.hid (show Kept (fun k => k = w2.heap.size) w2 w4 from (k3.out.mono fun _ _ h => h.elim).trans (Kept.of_grown g4'.1 (by intro k e; simp [Value.ownBlock] at e; exact e.symm)))
    have o4 := Lib.hid o4'
    clear o4' g4' q4 rc4 R3
    refine wpAnyH_ready (rs := [8]) (by kernel_rfl) (by simp) ?_
    refine AllReadyH.cons rfl (fun K hK => ?_) AllReadyH.nil
    rw [if_pos (by rfl)]
    go_wp2_with fail
    refine hK.out _ _ trivial (fun hHeld => ?_)
    clear hK K
    try simp only [Act.put, List.setIfInBounds_toArray, List.set_cons_zero, List.set_cons_succ]
    have b5 := Lib.hid (show Blk (w4.alloc (.cells #[.slice A4 r4.length c4] 29)) gw 48 #[CV, LV, RV, .slice A1 m1 c1, .slice AW nW cW] from b4.out.alloc _)
    have y5 := Lib.hid (Blk.new w4 29 #[.slice A4 r4.length c4])
    generalize h55 : World.alloc w4 _ = w5 at b5 y5 ⊢
    have H5 := Lib.hid h55
    clear h55
    refine wpAnyH_ready (rs := [9]) (by kernel_rfl) (by simp) ?_
    refine AllReadyH.cons rfl (fun K hK => ?_) AllReadyH.nil
    rw [if_pos (by rfl)]
    have W4 := rowKept F2.out.2.2.2.1 k4.out fun k e h => by
      have := (World.ownsRow.lt F2.out.2.2.2.1 k e).2
      omega
    have W5 : w5.ownsRow B 29 1 (.slice AW nW cW) (ws.map Row.v).length (ws.map Row.v) := by rw [← H5.out]; exact rowKept W4 ((Kept.refl (fun _ => False) w4).alloc _) fun _ _ e => e
    have z5 : w4.heap.size ≤ w5.heap.size := by rw [← H5.out]; simp
    refine wp_append_one (ts := 46) (e := 29) Try.underlying46 info29 rfl (by omega) (.tmp 18) (.tmp 22) rfl B (.slice AW nW cW) (ws.map Row.v) [.slice A4 r4.length c4] rfl W5 w4.heap.size 1 rfl y5.out (by simp [Value.oneCell']) (by have := HLEN.out.2; simp; omega) (Nat.le_trans (Nat.le_trans HBZ.out k4.out.size) z5) ?_
    intro v6 w6 o6' g6'
    obtain ⟨A6, c6, rfl⟩ := rowShape o6'
    obtain ⟨m6, hm6⟩ : ∃ m, m = (ws.map Row.v ++ [Value.slice A4 r4.length c4]).length := ⟨_, rfl⟩
    rw [← hm6] at o6' g6' ⊢
    have M6 := Lib.hid hm6
    refine hK.out _ _ trivial (fun hHeld => ?_)
    clear hK K
    try simp only [Act.put, List.setIfInBounds_toArray, List.set_cons_zero, List.set_cons_succ]
    have g6 := Lib.hid (show Grew (w4.alloc (.cells #[.slice A4 r4.length c4] 29)) w6 (.slice AW nW cW) (.slice A6 m6 c6) from by rw [H5.out]; exact g6')
    have F6 := Lib.hid (field_done b4.out W4 (by decide) g6.out o6' 4)
    have b6 := Lib.hid (field_mid b4.out W4 (by decide) g6.out)
    clear o6' g6' W4 W5 z5 hm6
    refine takeTo (i := 10) (v := ?_) (some 24) rfl rfl (by kernel_rfl) (by kernel_rfl) (by kernel_rfl) (fun _ _ _ h => h) (Or.inl ⟨by rfl, ?_⟩) (by assumption) ?_
    rotate_left
    · (intro W7 hSw; (try dsimp only at hSw); go_simp; try with_reducible rfl)
    try simp only [Act.put, List.setIfInBounds_toArray, List.set_cons_zero, List.set_cons_succ]
    refine takeTo (i := 11) (v := ?_) (some 25) rfl rfl (by kernel_rfl) (by kernel_rfl) (by kernel_rfl) (fun _ _ _ h => h) (Or.inl ⟨by rfl, ?_⟩) (by assumption) ?_
    rotate_left
    · (intro W7 hSw; (try dsimp only at hSw); go_simp; try with_reducible rfl)
    try simp only [Act.put, List.setIfInBounds_toArray, List.set_cons_zero, List.set_cons_succ]
    refine wpAnyH_ready (rs := [12]) (by kernel_rfl) (by simp) ?_
    refine AllReadyH.cons rfl (fun K hK => ?_) AllReadyH.nil
    rw [if_pos (by rfl)]
    have f6 := b6.out.free 4
    have d6 : w6.cell? ⟨gw, 4, none⟩ = some (.slice AW nW cW) := (show Blk w6 gw 48 #[CV, LV, RV, .slice A1 m1 c1, .slice AW nW cW] from b6.out).cell 4
    go_wp2_with fail
    refine hK.out _ _ trivial (fun hHeld => ?_)
    clear hK K
    try simp only [Act.put, List.setIfInBounds_toArray, List.set_cons_zero, List.set_cons_succ]
    clear f6 d6
    refine wpAnyH_done (by kernel_rfl) ?_ _
    go_wp2_with fail
    go_end0
    exact ⟨rfl, keep_post H.out HO.out HN.out HL.out HAP.out HOB.out F2.out k4.out o4.out F6.out M1.out M6.out⟩
  ·
    rw [if_pos (by rfl)]
    go_wp2_with fail
    refine hK.out _ _ trivial (fun hHeld => ?_)
    clear hK K
    try simp only [Act.put, List.setIfInBounds_toArray, List.set_cons_zero, List.set_cons_succ]
    have b3 := Lib.hid (show Blk (w2.alloc (.cells #[] 3)).drew gw 48 #[CV, LV, RV, .slice A1 m1 c1, .slice AW nW cW] from b2.out.alloc _)
    have o3 := Lib.hid (show OwnsI (w2.alloc (.cells #[] 3)).drew w2.heap.size (.slice (some ⟨w2.heap.size, 0, none⟩) 0 0) [] from OwnsI.fresh w2 w2.heap.size (Nat.le_refl _))
    have k3 := Lib.hid (show Kept (fun _ => False) w2 (w2.alloc (.cells #[] 3)).drew from ((Kept.refl _ w2).alloc _).drew)
    generalize World.drew (w2.alloc _) = w3 at b3 o3 k3 ⊢
    refine wpAnyH_ready (rs := [4, 7]) (by kernel_rfl) (by simp) ?_
    refine AllReadyH.cons rfl (fun K hK => ?_) (AllReadyH.cons rfl (fun K hK => ?_) AllReadyH.nil)
    ·
      rw [if_pos (by rfl)]
      have s4 : World.cell? w3 ⟨gw, 4, none⟩ = some (.slice AW nW cW) := (show Blk w3 gw 48 #[CV, LV, RV, .slice A1 m1 c1, .slice AW nW cW] from b3.out).cell 4
      go_wp2_with fail
      refine hK.out _ _ trivial (fun hHeld => ?_)
      clear hK K
      try simp only [Act.put, List.setIfInBounds_toArray, List.set_cons_zero, List.set_cons_succ]
      clear s4
      refine wpAnyH_ready (rs := [7]) (by kernel_rfl) (by simp) ?_
      refine AllReadyH.cons rfl (fun K hK => ?_) AllReadyH.nil
      rw [if_pos (by rfl)]
      have R3 : Ri w3 w3.heap.size A l := ((OwnsI.three HO.out F2.out.2.2.2.2).three (k3.out.three fun _ _ _ _ h => h)).reads
      refine wp_append_list (.tmp 19) (.tmp 20) rfl w2.heap.size (.slice (some ⟨w2.heap.size, 0, none⟩) 0 0) [] l rfl o3.out w3.heap.size A c (by rw [HN.out]; rfl) R3 (by have := HL.out; simp; omega) k3.out.size ?_
      intro A4 c4 w4 r4 q4 rc4 o4' g4'
      have q4' : r4 = l := q4.out
      subst q4'
      refine hK.out _ _ trivial (fun hHeld => ?_)
      clear hK K
      try simp only [Act.put, List.setIfInBounds_toArray, List.set_cons_zero, List.set_cons_succ]
      have b4 := Lib.hid (show Blk w4 gw 48 #[CV, LV, RV, .slice A1 m1 c1, .slice AW nW cW] from b3.out.kept (Kept.of_grown (S := fun k => k = w2.heap.size) g4'.1 (by intro k e; simp [Value.ownBlock] at e; exact e.symm)) (by have := b2.out.lt; omega))
      have k4 := Lib.hid (show Kept (fun k => k = w2.heap.size) w2 w4 from (k3.out.mono fun _ _ h => h.elim).trans (Kept.of_grown g4'.1 (by intro k e; simp [Value.ownBlock] at e; exact e.symm)))
      have o4 := Lib.hid o4'
      clear o4' g4' q4 rc4 R3
      refine wpAnyH_ready (rs := [8]) (by kernel_rfl) (by simp) ?_
      refine AllReadyH.cons rfl (fun K hK => ?_) AllReadyH.nil
      rw [if_pos (by rfl)]
      go_wp2_with fail
      refine hK.out _ _ trivial (fun hHeld => ?_)
      clear hK K
      try simp only [Act.put, List.setIfInBounds_toArray, List.set_cons_zero, List.set_cons_succ]
      have b5 := Lib.hid (show Blk (w4.alloc (.cells #[.slice A4 r4.length c4] 29)) gw 48 #[CV, LV, RV, .slice A1 m1 c1, .slice AW nW cW] from b4.out.alloc _)
      have y5 := Lib.hid (Blk.new w4 29 #[.slice A4 r4.length c4])
      generalize h55 : World.alloc w4 _ = w5 at b5 y5 ⊢
      have H5 := Lib.hid h55
      clear h55
      refine wpAnyH_ready (rs := [9]) (by kernel_rfl) (by simp) ?_
      refine AllReadyH.cons rfl (fun K hK => ?_) AllReadyH.nil
      rw [if_pos (by rfl)]
      have W4 := rowKept F2.out.2.2.2.1 k4.out fun k e h => by
        have := (World.ownsRow.lt F2.out.2.2.2.1 k e).2
        omega
      have W5 : w5.ownsRow B 29 1 (.slice AW nW cW) (ws.map Row.v).length (ws.map Row.v) := by rw [← H5.out]; exact rowKept W4 ((Kept.refl (fun _ => False) w4).alloc _) fun _ _ e => e
      have z5 : w4.heap.size ≤ w5.heap.size := by rw [← H5.out]; simp
      refine wp_append_one (ts := 46) (e := 29) Try.underlying46 info29 rfl (by omega) (.tmp 18) (.tmp 22) rfl B (.slice AW nW cW) (ws.map Row.v) [.slice A4 r4.length c4] rfl W5 w4.heap.size 1 rfl y5.out (by simp [Value.oneCell']) (by have := HLEN.out.2; simp; omega) (Nat.le_trans (Nat.le_trans HBZ.out k4.out.size) z5) ?_
      intro v6 w6 o6' g6'
      obtain ⟨A6, c6, rfl⟩ := rowShape o6'
      obtain ⟨m6, hm6⟩ : ∃ m, m = (ws.map Row.v ++ [Value.slice A4 r4.length c4]).length := ⟨_, rfl⟩
      rw [← hm6] at o6' g6' ⊢
      have M6 := Lib.hid hm6
      refine hK.out _ _ trivial (fun hHeld => ?_)
      clear hK K
      try simp only [Act.put, List.setIfInBounds_toArray, List.set_cons_zero, List.set_cons_succ]
      have g6 := Lib.hid (show Grew (w4.alloc (.cells #[.slice A4 r4.length c4] 29)) w6 (.slice AW nW cW) (.slice A6 m6 c6) from by rw [H5.out]; exact g6')
      have F6 := Lib.hid (field_done b4.out W4 (by decide) g6.out o6' 4)
      have b6 := Lib.hid (field_mid b4.out W4 (by decide) g6.out)
      clear o6' g6' W4 W5 z5 hm6
      refine takeTo (i := 10) (v := ?_) (some 24) rfl rfl (by kernel_rfl) (by kernel_rfl) (by kernel_rfl) (fun _ _ _ h => h) (Or.inl ⟨by rfl, ?_⟩) (by assumption) ?_
      rotate_left
      · (intro W7 hSw; (try dsimp only at hSw); go_simp; try with_reducible rfl)
      try simp only [Act.put, List.setIfInBounds_toArray, List.set_cons_zero, List.set_cons_succ]
      refine takeTo (i := 11) (v := ?_) (some 25) rfl rfl (by kernel_rfl) (by kernel_rfl) (by kernel_rfl) (fun _ _ _ h => h) (Or.inl ⟨by rfl, ?_⟩) (by assumption) ?_
      rotate_left
      · (intro W7 hSw; (try dsimp only at hSw); go_simp; try with_reducible rfl)
      try simp only [Act.put, List.setIfInBounds_toArray, List.set_cons_zero, List.set_cons_succ]
      refine wpAnyH_ready (rs := [12]) (by kernel_rfl) (by simp) ?_
      refine AllReadyH.cons rfl (fun K hK => ?_) AllReadyH.nil
      rw [if_pos (by rfl)]
      have f6 := b6.out.free 4
      have d6 : w6.cell? ⟨gw, 4, none⟩ = some (.slice AW nW cW) := (show Blk w6 gw 48 #[CV, LV, RV, .slice A1 m1 c1, .slice AW nW cW] from b6.out).cell 4
      go_wp2_with fail
      refine hK.out _ _ trivial (fun hHeld => ?_)
      clear hK K
      try simp only [Act.put, List.setIfInBounds_toArray, List.set_cons_zero, List.set_cons_succ]
      clear f6 d6
      refine wpAnyH_done (by kernel_rfl) ?_ _
      go_wp2_with fail
      go_end0
      exact ⟨rfl, keep_post H.out HO.out HN.out HL.out HAP.out HOB.out F2.out k4.out o4.out F6.out M1.out M6.out⟩
    ·
      rw [if_pos (by rfl)]
      have R3 : Ri w3 w3.heap.size A l := ((OwnsI.three HO.out F2.out.2.2.2.2).three (k3.out.three fun _ _ _ _ h => h)).reads
      refine wp_append_list (.tmp 19) (.tmp 20) rfl w2.heap.size (.slice (some ⟨w2.heap.size, 0, none⟩) 0 0) [] l rfl o3.out w3.heap.size A c (by rw [HN.out]; rfl) R3 (by have := HL.out; simp; omega) k3.out.size ?_
      intro A4 c4 w4 r4 q4 rc4 o4' g4'
      have q4' : r4 = l := q4.out
      subst q4'
      refine hK.out _ _ trivial (fun hHeld => ?_)
      clear hK K
      try simp only [Act.put, List.setIfInBounds_toArray, List.set_cons_zero, List.set_cons_succ]
      have b4 := Lib.hid (show Blk w4 gw 48 #[CV, LV, RV, .slice A1 m1 c1, .slice AW nW cW] from b3.out.kept (Kept.of_grown (S := fun k => k = w2.heap.size) g4'.1 (by intro k e; simp [Value.ownBlock] at e; exact e.symm)) (by have := b2.out.lt; omega))
      have k4 := Lib.hid (show Kept (fun k => k = w2.heap.size) w2 w4 from (k3.out.mono fun _ _ h => h.elim).trans (Kept.of_grown g4'.1 (by intro k e; simp [Value.ownBlock] at e; exact e.symm)))
      have o4 := Lib.hid o4'
      clear o4' g4' q4 rc4 R3
      refine wpAnyH_ready (rs := [4, 8]) (by kernel_rfl) (by simp) ?_
      refine AllReadyH.cons rfl (fun K hK => ?_) (AllReadyH.cons rfl (fun K hK => ?_) AllReadyH.nil)
      ·
        rw [if_pos (by rfl)]
        have s4 : World.cell? w4 ⟨gw, 4, none⟩ = some (.slice AW nW cW) := (show Blk w4 gw 48 #[CV, LV, RV, .slice A1 m1 c1, .slice AW nW cW] from b4.out).cell 4
        go_wp2_with fail
        refine hK.out _ _ trivial (fun hHeld => ?_)
        clear hK K
        try simp only [Act.put, List.setIfInBounds_toArray, List.set_cons_zero, List.set_cons_succ]
        clear s4
        refine wpAnyH_ready (rs := [8]) (by kernel_rfl) (by simp) ?_
        refine AllReadyH.cons rfl (fun K hK => ?_) AllReadyH.nil
        rw [if_pos (by rfl)]
        go_wp2_with fail
        refine hK.out _ _ trivial (fun hHeld => ?_)
        clear hK K
        try simp only [Act.put, List.setIfInBounds_toArray, List.set_cons_zero, List.set_cons_succ]
        have b5 := Lib.hid (show Blk (w4.alloc (.cells #[.slice A4 r4.length c4] 29)) gw 48 #[CV, LV, RV, .slice A1 m1 c1, .slice AW nW cW] from b4.out.alloc _)
        have y5 := Lib.hid (Blk.new w4 29 #[.slice A4 r4.length c4])
        generalize h55 : World.alloc w4 _ = w5 at b5 y5 ⊢
        have H5 := Lib.hid h55
        clear h55
        refine wpAnyH_ready (rs := [9]) (by kernel_rfl) (by simp) ?_
        refine AllReadyH.cons rfl (fun K hK => ?_) AllReadyH.nil
        rw [if_pos (by rfl)]
        have W4 := rowKept F2.out.2.2.2.1 k4.out fun k e h => by
          have := (World.ownsRow.lt F2.out.2.2.2.1 k e).2
          omega
        have W5 : w5.ownsRow B 29 1 (.slice AW nW cW) (ws.map Row.v).length (ws.map Row.v) := by rw [← H5.out]; exact rowKept W4 ((Kept.refl (fun _ => False) w4).alloc _) fun _ _ e => e
        have z5 : w4.heap.size ≤ w5.heap.size := by rw [← H5.out]; simp
        refine wp_append_one (ts := 46) (e := 29) Try.underlying46 info29 rfl (by omega) (.tmp 18) (.tmp 22) rfl B (.slice AW nW cW) (ws.map Row.v) [.slice A4 r4.length c4] rfl W5 w4.heap.size 1 rfl y5.out (by simp [Value.oneCell']) (by have := HLEN.out.2; simp; omega) (Nat.le_trans (Nat.le_trans HBZ.out k4.out.size) z5) ?_
        intro v6 w6 o6' g6'
        obtain ⟨A6, c6, rfl⟩ := rowShape o6'
        obtain ⟨m6, hm6⟩ : ∃ m, m = (ws.map Row.v ++ [Value.slice A4 r4.length c4]).length := ⟨_, rfl⟩
        rw [← hm6] at o6' g6' ⊢
        have M6 := Lib.hid hm6
        refine hK.out _ _ trivial (fun hHeld => ?_)
        clear hK K
        try simp only [Act.put, List.setIfInBounds_toArray, List.set_cons_zero, List.set_cons_succ]
        have g6 := Lib.hid (show Grew (w4.alloc (.cells #[.slice A4 r4.length c4] 29)) w6 (.slice AW nW cW) (.slice A6 m6 c6) from by rw [H5.out]; exact g6')
        have F6 := Lib.hid (field_done b4.out W4 (by decide) g6.out o6' 4)
        have b6 := Lib.hid (field_mid b4.out W4 (by decide) g6.out)
        clear o6' g6' W4 W5 z5 hm6
        refine takeTo (i := 10) (v := ?_) (some 24) rfl rfl (by kernel_rfl) (by kernel_rfl) (by kernel_rfl) (fun _ _ _ h => h) (Or.inl ⟨by rfl, ?_⟩) (by assumption) ?_
        rotate_left
        · (intro W7 hSw; (try dsimp only at hSw); go_simp; try with_reducible rfl)
        try simp only [Act.put, List.setIfInBounds_toArray, List.set_cons_zero, List.set_cons_succ]
        refine takeTo (i := 11) (v := ?_) (some 25) rfl rfl (by kernel_rfl) (by kernel_rfl) (by kernel_rfl) (fun _ _ _ h => h) (Or.inl ⟨by rfl, ?_⟩) (by assumption) ?_
        rotate_left
        · (intro W7 hSw; (try dsimp only at hSw); go_simp; try with_reducible rfl)
        try simp only [Act.put, List.setIfInBounds_toArray, List.set_cons_zero, List.set_cons_succ]
        refine wpAnyH_ready (rs := [12]) (by kernel_rfl) (by simp) ?_
        refine AllReadyH.cons rfl (fun K hK => ?_) AllReadyH.nil
        rw [if_pos (by rfl)]
        have f6 := b6.out.free 4
        have d6 : w6.cell? ⟨gw, 4, none⟩ = some (.slice AW nW cW) := (show Blk w6 gw 48 #[CV, LV, RV, .slice A1 m1 c1, .slice AW nW cW] from b6.out).cell 4
        go_wp2_with fail
        refine hK.out _ _ trivial (fun hHeld => ?_)
        clear hK K
        try simp only [Act.put, List.setIfInBounds_toArray, List.set_cons_zero, List.set_cons_succ]
        clear f6 d6
        refine wpAnyH_done (by kernel_rfl) ?_ _
        go_wp2_with fail
        go_end0
        exact ⟨rfl, keep_post H.out HO.out HN.out HL.out HAP.out HOB.out F2.out k4.out o4.out F6.out M1.out M6.out⟩
      ·
        rw [if_pos (by rfl)]
        go_wp2_with fail
        refine hK.out _ _ trivial (fun hHeld => ?_)
        clear hK K
        try simp only [Act.put, List.setIfInBounds_toArray, List.set_cons_zero, List.set_cons_succ]
        have b5 := Lib.hid (show Blk (w4.alloc (.cells #[.slice A4 r4.length c4] 29)) gw 48 #[CV, LV, RV, .slice A1 m1 c1, .slice AW nW cW] from b4.out.alloc _)
        have y5 := Lib.hid (Blk.new w4 29 #[.slice A4 r4.length c4])
        generalize h55 : World.alloc w4 _ = w5 at b5 y5 ⊢
        have H5 := Lib.hid h55
        clear h55
        refine wpAnyH_ready (rs := [4]) (by kernel_rfl) (by simp) ?_
        refine AllReadyH.cons rfl (fun K hK => ?_) AllReadyH.nil
        rw [if_pos (by rfl)]
        have s4 : World.cell? w5 ⟨gw, 4, none⟩ = some (.slice AW nW cW) := (show Blk w5 gw 48 #[CV, LV, RV, .slice A1 m1 c1, .slice AW nW cW] from b5.out).cell 4
        go_wp2_with fail
        refine hK.out _ _ trivial (fun hHeld => ?_)
        clear hK K
        try simp only [Act.put, List.setIfInBounds_toArray, List.set_cons_zero, List.set_cons_succ]
        clear s4
        refine wpAnyH_ready (rs := [9]) (by kernel_rfl) (by simp) ?_
        refine AllReadyH.cons rfl (fun K hK => ?_) AllReadyH.nil
        rw [if_pos (by rfl)]
        have W4 := rowKept F2.out.2.2.2.1 k4.out fun k e h => by
          have := (World.ownsRow.lt F2.out.2.2.2.1 k e).2
          omega
        have W5 : w5.ownsRow B 29 1 (.slice AW nW cW) (ws.map Row.v).length (ws.map Row.v) := by rw [← H5.out]; exact rowKept W4 ((Kept.refl (fun _ => False) w4).alloc _) fun _ _ e => e
        have z5 : w4.heap.size ≤ w5.heap.size := by rw [← H5.out]; simp
        refine wp_append_one (ts := 46) (e := 29) Try.underlying46 info29 rfl (by omega) (.tmp 18) (.tmp 22) rfl B (.slice AW nW cW) (ws.map Row.v) [.slice A4 r4.length c4] rfl W5 w4.heap.size 1 rfl y5.out (by simp [Value.oneCell']) (by have := HLEN.out.2; simp; omega) (Nat.le_trans (Nat.le_trans HBZ.out k4.out.size) z5) ?_
        intro v6 w6 o6' g6'
        obtain ⟨A6, c6, rfl⟩ := rowShape o6'
        obtain ⟨m6, hm6⟩ : ∃ m, m = (ws.map Row.v ++ [Value.slice A4 r4.length c4]).length := ⟨_, rfl⟩
        rw [← hm6] at o6' g6' ⊢
        have M6 := Lib.hid hm6
        refine hK.out _ _ trivial (fun hHeld => ?_)
        clear hK K
        try simp only [Act.put, List.setIfInBounds_toArray, List.set_cons_zero, List.set_cons_succ]
        have g6 := Lib.hid (show Grew (w4.alloc (.cells #[.slice A4 r4.length c4] 29)) w6 (.slice AW nW cW) (.slice A6 m6 c6) from by rw [H5.out]; exact g6')
        have F6 := Lib.hid (field_done b4.out W4 (by decide) g6.out o6' 4)
        have b6 := Lib.hid (field_mid b4.out W4 (by decide) g6.out)
        clear o6' g6' W4 W5 z5 hm6
        refine takeTo (i := 10) (v := ?_) (some 24) rfl rfl (by kernel_rfl) (by kernel_rfl) (by kernel_rfl) (fun _ _ _ h => h) (Or.inl ⟨by rfl, ?_⟩) (by assumption) ?_
        rotate_left
        · (intro W7 hSw; (try dsimp only at hSw); go_simp; try with_reducible rfl)
        try simp only [Act.put, List.setIfInBounds_toArray, List.set_cons_zero, List.set_cons_succ]
        refine takeTo (i := 11) (v := ?_) (some 25) rfl rfl (by kernel_rfl) (by kernel_rfl) (by kernel_rfl) (fun _ _ _ h => h) (Or.inl ⟨by rfl, ?_⟩) (by assumption) ?_
        rotate_left
        · (intro W7 hSw; (try dsimp only at hSw); go_simp; try with_reducible rfl)
        try simp only [Act.put, List.setIfInBounds_toArray, List.set_cons_zero, List.set_cons_succ]
        refine wpAnyH_ready (rs := [12]) (by kernel_rfl) (by simp) ?_
        refine AllReadyH.cons rfl (fun K hK => ?_) AllReadyH.nil
        rw [if_pos (by rfl)]
        have f6 := b6.out.free 4
        have d6 : w6.cell? ⟨gw, 4, none⟩ = some (.slice AW nW cW) := (show Blk w6 gw 48 #[CV, LV, RV, .slice A1 m1 c1, .slice AW nW cW] from b6.out).cell 4
        go_wp2_with fail
        refine hK.out _ _ trivial (fun hHeld => ?_)
        clear hK K
        try simp only [Act.put, List.setIfInBounds_toArray, List.set_cons_zero, List.set_cons_succ]
        clear f6 d6
        refine wpAnyH_done (by kernel_rfl) ?_ _
        go_wp2_with fail
        go_end0
        exact ⟨rfl, keep_post H.out HO.out HN.out HL.out HAP.out HOB.out F2.out k4.out o4.out F6.out M1.out M6.out⟩
end
end Go.Proofs.Ytghakgepchlpgaa
