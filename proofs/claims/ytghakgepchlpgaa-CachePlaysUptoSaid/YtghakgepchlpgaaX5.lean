/- THE WALKS of layer 12's World: gets, puts, held. -/
import Derived.Test.YtghakgepchlpgaaX4
namespace Go.Proofs.Ytghakgepchlpgaa
open Go.RowKit Go.Maps
theorem Md.step2 {B gw N : Nat} {w w' w0 : World} {pt : Nat → Nat → Nat} {CV LV RV OV WV : Value} {rs ws : List Row} {ob : Nat → Nat → Ob} (h : Md B w0 w gw N pt CV LV RV OV WV rs ws ob) {K i : Nat} (hK : K < 3) (hi : i < N) {a o' : Ob} (he : ob K i = a) (ho : isK K w' o') (hp : o'.p = pt K i) (hk : Kept a.F w w') (hnw : Nw a.F o'.F w) :
    Md B w0 w' gw N pt CV LV RV OV WV rs ws (upO ob K i o') := by subst he; exact h.step hK hi ho hp hk hnw
theorem Md.get {B gw N : Nat} {w w0 : World} {pt : Nat → Nat → Nat} {CV LV RV OV WV : Value} {rs ws : List Row} {ob : Nat → Nat → Ob} (h : Md B w0 w gw N pt CV LV RV OV WV rs ws ob) {K i : Nat} (hK : K < 3) (hi : i < N) {a : Ob} (he : ob K i = a) : isK K w a := he ▸ h.sys.ok K i hK hi
theorem gr3_nw (F : Nat → Prop) (w w' w1 : World) (q : Nat) (hq : w1.heap.size ≤ q) (hs : w1.heap.size ≤ w.heap.size) : Nw F (Gr (fun k => F k ∨ k = q) w w') w1 := fun k h => by
  rcases h with (h | h) | h
  · exact .inl h
  · right; omega
  · right; omega
theorem Md.good {B gw N steps : Nat} {w w0 : World} {pt : Nat → Nat → Nat} {CV LV RV OV WV : Value} {rs ws : List Row} {ob : Nat → Nat → Ob} {i : Nat} {oA oL oR : Ob} (m : Md B w0 w gw N pt CV LV RV OV WV rs ws (upO (upO (upO ob 0 i oA) 1 i oL) 2 i oR)) (hg : Good N steps ob) (P hit miss : Int) (M : List Th)
    (hA : oA.P = P ∧ oA.hit = hit ∧ oA.miss = miss ∧ oA.M = M) (hL : oL.P = P ∧ oL.hit = hit ∧ oL.miss = miss ∧ oL.M = M) (hR : oR.P = P ∧ oR.hit = hit ∧ oR.miss = miss ∧ oR.M = M)
    (h1 : 1 ≤ P) (h2 : P ≤ 65536) (h3 : (M.length : Int) ≤ P) (h4 : ∀ t ∈ M, 0 ≤ t.p ∧ t.p ≤ ((steps + 1 : Nat) : Int)) : Md B w0 w gw N pt CV LV RV OV WV rs ws (upO (upO (upO ob 0 i oA) 1 i oL) 2 i oR) ∧ Good N (steps + 1) (upO (upO (upO ob 0 i oA) 1 i oL) 2 i oR) :=
  ⟨m, hg.set hA hL hR h1 h2 h3 h4⟩
theorem e10 (ob : Nat → Nat → Ob) (i : Nat) (o : Ob) : upO ob 0 i o 1 i = ob 1 i := upO_other _ _ _ _ _ _ (.inl (by decide))
theorem e20 (ob : Nat → Nat → Ob) (i : Nat) (o o' : Ob) : upO (upO ob 0 i o) 1 i o' 2 i = ob 2 i := by rw [upO_other _ _ _ _ _ _ (.inl (by decide)), upO_other _ _ _ _ _ _ (.inl (by decide))]
theorem nodup_before {u v : List Th} {e : Th} (h : ((u ++ e :: v).map (·.n)).Nodup) : ∀ y ∈ u, y.n ≠ e.n := by
  intro y hy hn
  simp only [List.map_append, List.map_cons, List.nodup_append] at h
  exact h.2.2 y.n (List.mem_map.2 ⟨y, hy, rfl⟩) e.n (by simp) hn
theorem wrap64_id {a : Int} (h1 : -9223372036854775808 ≤ a) (h2 : a ≤ 9223372036854775807) : wrap64 a = a := by unfold wrap64; omega
theorem pins_keep {steps : Nat} {M M' : List Th} (h : ∀ t ∈ M, 0 ≤ t.p ∧ t.p ≤ (steps : Int)) (hm : ∀ t ∈ M', t ∈ M) : ∀ t ∈ M', 0 ≤ t.p ∧ t.p ≤ ((steps + 1 : Nat) : Int) := fun t ht => by
  have := h t (hm t ht)
  omega
theorem pins_move {steps : Nat} {u v : List Th} {e e' : Th} (h : ∀ t ∈ u ++ e :: v, 0 ≤ t.p ∧ t.p ≤ (steps : Int)) (he : e'.p = e.p) : ∀ t ∈ u ++ v ++ [e'], 0 ≤ t.p ∧ t.p ≤ ((steps + 1 : Nat) : Int) := by
  intro t ht
  rcases List.mem_append.1 ht with ht | ht
  · have := h t (by rcases List.mem_append.1 ht with h | h <;> simp [h])
    omega
  · rw [List.mem_singleton.1 ht, he]
    have := h e (by simp)
    omega
theorem pins_snoc {steps : Nat} {M : List Th} {n x : Int} (h : ∀ t ∈ M, 0 ≤ t.p ∧ t.p ≤ (steps : Int)) : ∀ t ∈ M ++ [⟨n, x, 0⟩], 0 ≤ t.p ∧ t.p ≤ ((steps + 1 : Nat) : Int) := by
  intro t ht
  rcases List.mem_append.1 ht with ht | ht
  · have := h t ht
    omega
  · rw [List.mem_singleton.1 ht]
    exact ⟨Int.le_refl _, Int.natCast_nonneg _⟩
theorem pins_full {steps : Nat} {u v : List Th} {e : Th} {n x : Int} (h : ∀ t ∈ u ++ e :: v, 0 ≤ t.p ∧ t.p ≤ (steps : Int)) : ∀ t ∈ u ++ v ++ [⟨n, x, 0⟩], 0 ≤ t.p ∧ t.p ≤ ((steps + 1 : Nat) : Int) := by
  intro t ht
  rcases List.mem_append.1 ht with ht | ht
  · have := h t (by rcases List.mem_append.1 ht with h | h <;> simp [h])
    omega
  · rw [List.mem_singleton.1 ht]
    exact ⟨Int.le_refl _, Int.natCast_nonneg _⟩
theorem pins_re {steps : Nat} {u v : List Th} {e : Th} {q : Int} (h : ∀ t ∈ u ++ e :: v, 0 ≤ t.p ∧ t.p ≤ (steps : Int)) (h1 : 0 ≤ q) (h2 : q ≤ ((steps + 1 : Nat) : Int)) : ∀ t ∈ u ++ { e with p := q } :: v, 0 ≤ t.p ∧ t.p ≤ ((steps + 1 : Nat) : Int) := by
  intro t ht
  rcases List.mem_append.1 ht with ht | ht
  · have := h t (by simp [ht])
    omega
  · rcases List.mem_cons.1 ht with rfl | ht
    · exact ⟨h1, h2⟩
    · have := h t (by simp [ht])
      omega
theorem pins_up {steps : Nat} {u v : List Th} {e : Th} (hst : steps ≤ 4611686018427387904) (h : ∀ t ∈ u ++ e :: v, 0 ≤ t.p ∧ t.p ≤ (steps : Int)) : ∀ t ∈ u ++ { e with p := wrap64 (e.p + 1) } :: v, 0 ≤ t.p ∧ t.p ≤ ((steps + 1 : Nat) : Int) := by
  have h0 := h e (by simp)
  rw [wrap64_id (by omega) (by omega)]
  exact pins_re h (by omega) (by omega)
theorem pins_down {steps : Nat} {u v : List Th} {e : Th} (hst : steps ≤ 4611686018427387904) (he : e.p ≠ 0) (h : ∀ t ∈ u ++ e :: v, 0 ≤ t.p ∧ t.p ≤ (steps : Int)) : ∀ t ∈ u ++ { e with p := wrap64 (e.p - 1) } :: v, 0 ≤ t.p ∧ t.p ≤ ((steps + 1 : Nat) : Int) := by
  have h0 := h e (by simp)
  rw [wrap64_id (by omega) (by omega)]
  exact pins_re h (by omega) (by omega)
set_option maxHeartbeats 2000000 in
set_option maxRecDepth 100000 in
theorem gets_some {B gw N steps i : Nat} {w w0 : World} {pt : Nat → Nat → Nat} {CV LV RV OV WV : Value} {rs ws : List Row} {ob : Nat → Nat → Ob} {P hit miss : Int} {u v : List Th} {e : Th} (h : Md B w0 w gw N pt CV LV RV OV WV rs ws ob) (hg : Good N steps ob) (hi : i < N) (ok : Ok3 ob i P hit miss (u ++ e :: v)) (h1 : 1 ≤ P) (h2 : P ≤ 65536) (h3 : (((u ++ e :: v)).length : Int) ≤ P) (h4 : ∀ t ∈ (u ++ e :: v), 0 ≤ t.p ∧ t.p ≤ steps) :
    Calls Try.prog 23 #[.pointer (some ⟨gw, 0, none⟩), .int .i64 (i : Int), .int .i64 e.n] w fun r w' => r = .returned (.bool true) ∧ ∃ ob', Md B w0 w' gw N pt CV LV RV OV WV rs ws ob' ∧ Good N (steps + 1) ob' := by
  obtain ⟨g0, c0, g1, c1, g2, c2, rfl, rfl, rfl⟩ := h.wo.three hi
  obtain ⟨oA1, oA2, oA3, oA4⟩ := ok 0 (by decide)
  obtain ⟨oL1, oL2, oL3, oL4⟩ := ok 1 (by decide)
  obtain ⟨oR1, oR2, oR3, oR4⟩ := ok 2 (by decide)
  have ptA := h.pts 0 i (by decide) hi
  have ptL := h.pts 1 i (by decide) hi
  have ptR := h.pts 2 i (by decide) hi
  have H := Lib.hid h
  have OK := Lib.hid (And.intro (And.intro oA1 (And.intro oA2 (And.intro oA3 oA4))) (And.intro (And.intro oL1 (And.intro oL2 (And.intro oL3 oL4))) (And.intro oR1 (And.intro oR2 (And.intro oR3 oR4)))))
  have PT := Lib.hid (And.intro ptA (And.intro ptL ptR))
  have hi63 : (i : Int) < (N : Int) := by omega
  have nd := (h.sys.ok 0 i (by decide) hi : isA w (ob 0 i)).nodup
  rw [oA4] at nd
  have ND := Lib.hid nd
  have LEN := Lib.hid (show ((u ++ e :: v)).length ≤ 65536 by omega)
  have HG := Lib.hid (And.intro hg (And.intro h1 (And.intro h2 (And.intro h3 h4))))
  have HA := Lib.hid (A_get_some (h.sys.ok 0 i (by decide) hi) oA4)
  rw [ptA] at HA
  obtain ⟨s0, s1⟩ := h.wo.at0 hi
  clear h hg ok h4 oA1 oA2 oA3 oA4 oL1 oL2 oL3 oL4 oR1 oR2 oR3 oR4 ptA ptL ptR nd 
  go_enter Try.func23, Try.ntmps23
  go_wp2_with fail
  refine HA.out.mono ?_
  rintro r w1 ⟨rfl, a1, k1⟩
  have m1 := H.out.step2 (K := 0) (by decide) hi rfl (a1 : isK 0 w1 _) rfl k1 (gr_nw _ _ _)
  have M1 := Lib.hid m1
  obtain ⟨s2, s3⟩ := m1.wo.at1 hi
  have x1 : isL w1 (ob 1 i) := m1.get (K := 1) (by decide) hi (e10 _ _ _)
  have X1 := Lib.hid x1
  clear a1 k1 m1 x1 s0 s1 HA
  have HL := Lib.hid (L_get_some X1.out OK.out.2.1.2.2.2)
  rw [PT.out.2.1] at HL
  go_wp2_with fail
  refine HL.out.mono ?_
  rintro r w2 ⟨q, rfl, a2, k2, b2, f2⟩
  have m2 := M1.out.step2 (K := 1) (by decide) hi (e10 _ _ _) (a2.weak : isK 1 w2 _) rfl k2 (gr2_nw _ _ _)
  have M2 := Lib.hid m2
  obtain ⟨s4, s5⟩ := m2.wo.at2 hi
  have x2 : isR w2 (ob 2 i) := m2.get (K := 2) (by decide) hi (e20 _ _ _ _)
  have HR := Lib.hid (R_get_some x2 OK.out.2.2.2.2.2 (nodup_before ND.out.1) (by rw [OK.out.2.2.2.2.2]; exact LEN.out))
  rw [PT.out.2.2] at HR
  have B2 := Lib.hid (And.intro b2 f2)
  clear a2 m2 x2 s2 s3 HL b2 f2 k2
  go_wp2_with fail
  refine HR.out.mono ?_
  rintro r w3 ⟨rfl, a3, k3⟩
  have m3 := M2.out.step2 (K := 2) (by decide) hi (e20 _ _ _ _) (a3 : isK 2 w3 _) rfl k3 (gr_nw _ _ _)
  have M3 := Lib.hid (m3.good HG.out.1 P (wrap64 (hit + 1)) (miss) (u ++ v ++ [e]) ⟨OK.out.1.1, congrArg (fun z => wrap64 (z + 1)) OK.out.1.2.1, OK.out.1.2.2.1, rfl⟩ ⟨OK.out.2.1.1, congrArg (fun z => wrap64 (z + 1)) OK.out.2.1.2.1, OK.out.2.1.2.2.1, rfl⟩ ⟨OK.out.2.2.1, congrArg (fun z => wrap64 (z + 1)) OK.out.2.2.2.1, OK.out.2.2.2.2.1, rfl⟩ h1 h2 (by have := h3; simp at this ⊢; omega) (fun t ht => by have := HG.out.2.2.2.2 t (by simp only [List.mem_append, List.mem_cons, List.not_mem_nil, or_false] at ht ⊢; rcases ht with (ht | ht) | ht <;> simp [ht]); omega))
  have b3 : Blk w3 q 3 #[.int .i64 e.x] := B2.out.1.kept k3 fun f => M1.out.sys.ap 1 i 2 i (by decide) hi (by decide) hi (.inl (by decide)) q (by rw [e10]; exact B2.out.2) (by rw [upO_other _ _ _ _ _ _ (.inl (by decide))]; exact f)
  have q0 : w3.cell? ⟨q, 0, none⟩ = some (.int .i64 e.x) := b3.cell 0
  have eqx : (e.x == e.x) = true := by simp
  clear b3
  clear a3 k3 m3 s4 s5 HR
  go_wp2_with fail
  go_ret
  exact ⟨rfl, _, M3.out⟩
set_option maxHeartbeats 2000000 in
set_option maxRecDepth 100000 in
theorem gets_none {B gw N steps i : Nat} {w w0 : World} {pt : Nat → Nat → Nat} {CV LV RV OV WV : Value} {rs ws : List Row} {ob : Nat → Nat → Ob} {P hit miss : Int} {M : List Th} {n : Int} (h : Md B w0 w gw N pt CV LV RV OV WV rs ws ob) (hg : Good N steps ob) (hi : i < N) (ok : Ok3 ob i P hit miss M) (h1 : 1 ≤ P) (h2 : P ≤ 65536) (h3 : ((M).length : Int) ≤ P) (h4 : ∀ t ∈ M, 0 ≤ t.p ∧ t.p ≤ steps) (hn : Wf n) (hno : ∀ y ∈ M, y.n ≠ n) :
    Calls Try.prog 23 #[.pointer (some ⟨gw, 0, none⟩), .int .i64 (i : Int), .int .i64 n] w fun r w' => r = .returned (.bool true) ∧ ∃ ob', Md B w0 w' gw N pt CV LV RV OV WV rs ws ob' ∧ Good N (steps + 1) ob' := by
  obtain ⟨g0, c0, g1, c1, g2, c2, rfl, rfl, rfl⟩ := h.wo.three hi
  obtain ⟨oA1, oA2, oA3, oA4⟩ := ok 0 (by decide)
  obtain ⟨oL1, oL2, oL3, oL4⟩ := ok 1 (by decide)
  obtain ⟨oR1, oR2, oR3, oR4⟩ := ok 2 (by decide)
  have ptA := h.pts 0 i (by decide) hi
  have ptL := h.pts 1 i (by decide) hi
  have ptR := h.pts 2 i (by decide) hi
  have H := Lib.hid h
  have OK := Lib.hid (And.intro (And.intro oA1 (And.intro oA2 (And.intro oA3 oA4))) (And.intro (And.intro oL1 (And.intro oL2 (And.intro oL3 oL4))) (And.intro oR1 (And.intro oR2 (And.intro oR3 oR4)))))
  have PT := Lib.hid (And.intro ptA (And.intro ptL ptR))
  have hi63 : (i : Int) < (N : Int) := by omega
  have nd := (h.sys.ok 0 i (by decide) hi : isA w (ob 0 i)).nodup
  rw [oA4] at nd
  have ND := Lib.hid nd
  have LEN := Lib.hid (show (M).length ≤ 65536 by omega)
  have HG := Lib.hid (And.intro hg (And.intro h1 (And.intro h2 (And.intro h3 h4))))
  have HA := Lib.hid (A_get_none (h.sys.ok 0 i (by decide) hi) n hn (by rw [oA4]; exact hno))
  rw [ptA] at HA
  obtain ⟨s0, s1⟩ := h.wo.at0 hi
  have NO := Lib.hid (And.intro hno hn)
  clear h hg ok h4 oA1 oA2 oA3 oA4 oL1 oL2 oL3 oL4 oR1 oR2 oR3 oR4 ptA ptL ptR nd hno hn
  go_enter Try.func23, Try.ntmps23
  go_wp2_with fail
  refine HA.out.mono ?_
  rintro r w1 ⟨rfl, a1, k1⟩
  have m1 := H.out.step2 (K := 0) (by decide) hi rfl (a1 : isK 0 w1 _) rfl k1 (gr_nw _ _ _)
  have M1 := Lib.hid m1
  obtain ⟨s2, s3⟩ := m1.wo.at1 hi
  have x1 : isL w1 (ob 1 i) := m1.get (K := 1) (by decide) hi (e10 _ _ _)
  have X1 := Lib.hid x1
  clear a1 k1 m1 x1 s0 s1 HA
  have HL := Lib.hid (L_get_none X1.out n NO.out.2 (by rw [OK.out.2.1.2.2.2]; exact NO.out.1))
  rw [PT.out.2.1] at HL
  go_wp2_with fail
  refine HL.out.mono ?_
  rintro r w2 ⟨rfl, a2, k2⟩
  have m2 := M1.out.step2 (K := 1) (by decide) hi (e10 _ _ _) (a2 : isK 1 w2 _) rfl k2 (gr2_nw _ _ _)
  have M2 := Lib.hid m2
  obtain ⟨s4, s5⟩ := m2.wo.at2 hi
  have x2 : isR w2 (ob 2 i) := m2.get (K := 2) (by decide) hi (e20 _ _ _ _)
  have HR := Lib.hid (R_get_none x2 n (by rw [OK.out.2.2.2.2.2]; exact NO.out.1) (by rw [OK.out.2.2.2.2.2]; exact LEN.out))
  rw [PT.out.2.2] at HR
  clear a2 m2 x2 s2 s3 HL k2
  go_wp2_with fail
  refine HR.out.mono ?_
  rintro r w3 ⟨rfl, a3, k3⟩
  have m3 := M2.out.step2 (K := 2) (by decide) hi (e20 _ _ _ _) (a3 : isK 2 w3 _) rfl k3 (gr_nw _ _ _)
  have M3 := Lib.hid (m3.good HG.out.1 P (hit) (wrap64 (miss + 1)) (M) ⟨OK.out.1.1, OK.out.1.2.1, congrArg (fun z => wrap64 (z + 1)) OK.out.1.2.2.1, OK.out.1.2.2.2⟩ ⟨OK.out.2.1.1, OK.out.2.1.2.1, congrArg (fun z => wrap64 (z + 1)) OK.out.2.1.2.2.1, OK.out.2.1.2.2.2⟩ ⟨OK.out.2.2.1, OK.out.2.2.2.1, congrArg (fun z => wrap64 (z + 1)) OK.out.2.2.2.2.1, OK.out.2.2.2.2.2⟩ h1 h2 h3 (fun t ht => by have := HG.out.2.2.2.2 t ht; omega))
  clear a3 k3 m3 s4 s5 HR
  go_wp2_with fail
  go_ret
  exact ⟨rfl, _, M3.out⟩
set_option maxHeartbeats 2000000 in
set_option maxRecDepth 100000 in
theorem puts_found {B gw N steps i : Nat} {w w0 : World} {pt : Nat → Nat → Nat} {CV LV RV OV WV : Value} {rs ws : List Row} {ob : Nat → Nat → Ob} {P hit miss : Int} {u v : List Th} {e : Th} (x : Int) (h : Md B w0 w gw N pt CV LV RV OV WV rs ws ob) (hg : Good N steps ob) (hi : i < N) (ok : Ok3 ob i P hit miss (u ++ e :: v)) (h1 : 1 ≤ P) (h2 : P ≤ 65536) (h3 : (((u ++ e :: v)).length : Int) ≤ P) (h4 : ∀ t ∈ (u ++ e :: v), 0 ≤ t.p ∧ t.p ≤ steps) :
    Calls Try.prog 24 #[.pointer (some ⟨gw, 0, none⟩), .int .i64 (i : Int), .int .i64 e.n, .int .i64 x] w fun r w' => r = .returned (.bool true) ∧ ∃ ob', Md B w0 w' gw N pt CV LV RV OV WV rs ws ob' ∧ Good N (steps + 1) ob' := by
  obtain ⟨g0, c0, g1, c1, g2, c2, rfl, rfl, rfl⟩ := h.wo.three hi
  obtain ⟨oA1, oA2, oA3, oA4⟩ := ok 0 (by decide)
  obtain ⟨oL1, oL2, oL3, oL4⟩ := ok 1 (by decide)
  obtain ⟨oR1, oR2, oR3, oR4⟩ := ok 2 (by decide)
  have ptA := h.pts 0 i (by decide) hi
  have ptL := h.pts 1 i (by decide) hi
  have ptR := h.pts 2 i (by decide) hi
  have H := Lib.hid h
  have OK := Lib.hid (And.intro (And.intro oA1 (And.intro oA2 (And.intro oA3 oA4))) (And.intro (And.intro oL1 (And.intro oL2 (And.intro oL3 oL4))) (And.intro oR1 (And.intro oR2 (And.intro oR3 oR4)))))
  have PT := Lib.hid (And.intro ptA (And.intro ptL ptR))
  have hi63 : (i : Int) < (N : Int) := by omega
  have nd := (h.sys.ok 0 i (by decide) hi : isA w (ob 0 i)).nodup
  rw [oA4] at nd
  have ND := Lib.hid nd
  have LEN := Lib.hid (show ((u ++ e :: v)).length ≤ 65536 by omega)
  have HG := Lib.hid (And.intro hg (And.intro h1 (And.intro h2 (And.intro h3 h4))))
  have HA := Lib.hid (A_put_found (h.sys.ok 0 i (by decide) hi) oA4 x)
  rw [ptA] at HA
  obtain ⟨s0, s1⟩ := h.wo.at0 hi
  clear h hg ok h4 oA1 oA2 oA3 oA4 oL1 oL2 oL3 oL4 oR1 oR2 oR3 oR4 ptA ptL ptR nd 
  go_enter Try.func24, Try.ntmps24
  go_wp2_with fail
  refine HA.out.mono ?_
  rintro r w1 ⟨rfl, a1, k1⟩
  have m1 := H.out.step2 (K := 0) (by decide) hi rfl (a1 : isK 0 w1 _) rfl k1 (gr_nw _ _ _)
  have M1 := Lib.hid m1
  obtain ⟨s2, s3⟩ := m1.wo.at1 hi
  have x1 : isL w1 (ob 1 i) := m1.get (K := 1) (by decide) hi (e10 _ _ _)
  have X1 := Lib.hid x1
  clear a1 k1 m1 x1 s0 s1 HA
  have XX := Lib.hid (show isL (w1.alloc (.cells #[.int .i64 x] 3)) (ob 1 i) from X1.out.kept (S := fun _ => False) ((Kept.refl _ _).alloc _) fun _ _ e => e)
  have HL := Lib.hid (L_put_found XX.out OK.out.2.1.2.2.2 x w1.heap.size (Blk.new w1 3 #[.int .i64 x]) (fun f => Nat.lt_irrefl _ (X1.out.lt _ f)))
  rw [PT.out.2.1] at HL
  go_wp2_with fail
  refine HL.out.mono ?_
  rintro r w2 ⟨rfl, a2, k2⟩
  have m2 := M1.out.step2 (K := 1) (by decide) hi (e10 _ _ _) (a2 : isK 1 w2 _) rfl (((Kept.refl (ob 1 i).F w1).alloc (.cells #[.int .i64 x] 3)).trans k2) (gr3_nw _ _ _ _ _ (Nat.le_refl _) (by simp))
  have M2 := Lib.hid m2
  obtain ⟨s4, s5⟩ := m2.wo.at2 hi
  have x2 : isR w2 (ob 2 i) := m2.get (K := 2) (by decide) hi (e20 _ _ _ _)
  have HR := Lib.hid (R_put_found x2 OK.out.2.2.2.2.2 (nodup_before ND.out.1) (by rw [OK.out.2.2.2.2.2]; exact LEN.out) x)
  rw [PT.out.2.2] at HR
  clear a2 m2 x2 s2 s3 HL k2 XX
  go_wp2_with fail
  refine HR.out.mono ?_
  rintro r w3 ⟨rfl, a3, k3⟩
  have m3 := M2.out.step2 (K := 2) (by decide) hi (e20 _ _ _ _) (a3 : isK 2 w3 _) rfl k3 (gr_nw _ _ _)
  have M3 := Lib.hid (m3.good HG.out.1 P (hit) (miss) (u ++ v ++ [{ e with x := x }]) ⟨OK.out.1.1, OK.out.1.2.1, OK.out.1.2.2.1, rfl⟩ ⟨OK.out.2.1.1, OK.out.2.1.2.1, OK.out.2.1.2.2.1, rfl⟩ ⟨OK.out.2.2.1, OK.out.2.2.2.1, OK.out.2.2.2.2.1, rfl⟩ h1 h2 (by have := h3; simp at this ⊢; omega) (pins_move HG.out.2.2.2.2 rfl))
  clear a3 k3 m3 s4 s5 HR
  go_wp2_with fail
  go_ret
  exact ⟨rfl, _, M3.out⟩
set_option maxHeartbeats 2000000 in
set_option maxRecDepth 100000 in
theorem puts_room {B gw N steps i : Nat} {w w0 : World} {pt : Nat → Nat → Nat} {CV LV RV OV WV : Value} {rs ws : List Row} {ob : Nat → Nat → Ob} {P hit miss : Int} {M : List Th} {n : Int} (x : Int) (h : Md B w0 w gw N pt CV LV RV OV WV rs ws ob) (hg : Good N steps ob) (hi : i < N) (ok : Ok3 ob i P hit miss M) (h1 : 1 ≤ P) (h2 : P ≤ 65536) (h3 : ((M).length : Int) ≤ P) (h4 : ∀ t ∈ M, 0 ≤ t.p ∧ t.p ≤ steps) (hn : Wf n) (hno : ∀ y ∈ M, y.n ≠ n) (hr : (M.length : Int) < P) :
    Calls Try.prog 24 #[.pointer (some ⟨gw, 0, none⟩), .int .i64 (i : Int), .int .i64 n, .int .i64 x] w fun r w' => r = .returned (.bool true) ∧ ∃ ob', Md B w0 w' gw N pt CV LV RV OV WV rs ws ob' ∧ Good N (steps + 1) ob' := by
  obtain ⟨g0, c0, g1, c1, g2, c2, rfl, rfl, rfl⟩ := h.wo.three hi
  obtain ⟨oA1, oA2, oA3, oA4⟩ := ok 0 (by decide)
  obtain ⟨oL1, oL2, oL3, oL4⟩ := ok 1 (by decide)
  obtain ⟨oR1, oR2, oR3, oR4⟩ := ok 2 (by decide)
  have ptA := h.pts 0 i (by decide) hi
  have ptL := h.pts 1 i (by decide) hi
  have ptR := h.pts 2 i (by decide) hi
  have H := Lib.hid h
  have OK := Lib.hid (And.intro (And.intro oA1 (And.intro oA2 (And.intro oA3 oA4))) (And.intro (And.intro oL1 (And.intro oL2 (And.intro oL3 oL4))) (And.intro oR1 (And.intro oR2 (And.intro oR3 oR4)))))
  have PT := Lib.hid (And.intro ptA (And.intro ptL ptR))
  have hi63 : (i : Int) < (N : Int) := by omega
  have nd := (h.sys.ok 0 i (by decide) hi : isA w (ob 0 i)).nodup
  rw [oA4] at nd
  have ND := Lib.hid nd
  have LEN := Lib.hid (show (M).length ≤ 65536 by omega)
  have HG := Lib.hid (And.intro hg (And.intro h1 (And.intro h2 (And.intro h3 h4))))
  have HA := Lib.hid (A_put_room (h.sys.ok 0 i (by decide) hi) n x hn (by rw [oA4]; exact hno) (by rw [oA4, oA1]; exact hr) (by rw [oA1]; exact h2))
  rw [ptA] at HA
  obtain ⟨s0, s1⟩ := h.wo.at0 hi
  have NO := Lib.hid (And.intro hno (And.intro hn hr))
  clear h hg ok h4 oA1 oA2 oA3 oA4 oL1 oL2 oL3 oL4 oR1 oR2 oR3 oR4 ptA ptL ptR nd hno hn hr
  go_enter Try.func24, Try.ntmps24
  go_wp2_with fail
  refine HA.out.mono ?_
  rintro r w1 ⟨rfl, a1, k1⟩
  have m1 := H.out.step2 (K := 0) (by decide) hi rfl (a1 : isK 0 w1 _) rfl k1 (gr_nw _ _ _)
  have M1 := Lib.hid m1
  obtain ⟨s2, s3⟩ := m1.wo.at1 hi
  have x1 : isL w1 (ob 1 i) := m1.get (K := 1) (by decide) hi (e10 _ _ _)
  have X1 := Lib.hid x1
  clear a1 k1 m1 x1 s0 s1 HA
  have XX := Lib.hid (show isL (w1.alloc (.cells #[.int .i64 x] 3)) (ob 1 i) from X1.out.kept (S := fun _ => False) ((Kept.refl _ _).alloc _) fun _ _ e => e)
  have HL := Lib.hid (L_put_room XX.out n x w1.heap.size (Blk.new w1 3 #[.int .i64 x]) (fun f => Nat.lt_irrefl _ (X1.out.lt _ f)) NO.out.2.1 (by rw [OK.out.2.1.2.2.2]; exact NO.out.1) (by rw [OK.out.2.1.2.2.2, OK.out.2.1.1]; exact NO.out.2.2) (by rw [OK.out.2.1.1]; exact h2))
  rw [PT.out.2.1] at HL
  go_wp2_with fail
  refine HL.out.mono ?_
  rintro r w2 ⟨rfl, a2, k2⟩
  have m2 := M1.out.step2 (K := 1) (by decide) hi (e10 _ _ _) (a2 : isK 1 w2 _) rfl (((Kept.refl (ob 1 i).F w1).alloc (.cells #[.int .i64 x] 3)).trans k2) (gr3_nw _ _ _ _ _ (Nat.le_refl _) (by simp))
  have M2 := Lib.hid m2
  obtain ⟨s4, s5⟩ := m2.wo.at2 hi
  have x2 : isR w2 (ob 2 i) := m2.get (K := 2) (by decide) hi (e20 _ _ _ _)
  have HR := Lib.hid (R_put_room x2 n x (by rw [OK.out.2.2.2.2.2]; exact NO.out.1) (by rw [OK.out.2.2.2.2.2]; exact LEN.out) (by rw [OK.out.2.2.2.2.2, OK.out.2.2.1]; exact NO.out.2.2))
  rw [PT.out.2.2] at HR
  clear a2 m2 x2 s2 s3 HL k2 XX
  go_wp2_with fail
  refine HR.out.mono ?_
  rintro r w3 ⟨rfl, a3, k3⟩
  have m3 := M2.out.step2 (K := 2) (by decide) hi (e20 _ _ _ _) (a3 : isK 2 w3 _) rfl k3 (gr_nw _ _ _)
  have M3 := Lib.hid (m3.good HG.out.1 P (hit) (miss) (M ++ [⟨n, x, 0⟩]) ⟨OK.out.1.1, OK.out.1.2.1, OK.out.1.2.2.1, congrArg (· ++ [_]) OK.out.1.2.2.2⟩ ⟨OK.out.2.1.1, OK.out.2.1.2.1, OK.out.2.1.2.2.1, congrArg (· ++ [_]) OK.out.2.1.2.2.2⟩ ⟨OK.out.2.2.1, OK.out.2.2.2.1, OK.out.2.2.2.2.1, congrArg (· ++ [_]) OK.out.2.2.2.2.2⟩ h1 h2 (by have := NO.out.2.2; simp at this ⊢; omega) (pins_snoc HG.out.2.2.2.2))
  clear a3 k3 m3 s4 s5 HR
  go_wp2_with fail
  go_ret
  exact ⟨rfl, _, M3.out⟩
set_option maxHeartbeats 2000000 in
set_option maxRecDepth 100000 in
theorem puts_full {B gw N steps i : Nat} {w w0 : World} {pt : Nat → Nat → Nat} {CV LV RV OV WV : Value} {rs ws : List Row} {ob : Nat → Nat → Ob} {P hit miss : Int} {u v : List Th} {e : Th} {n : Int} (x : Int) (h : Md B w0 w gw N pt CV LV RV OV WV rs ws ob) (hg : Good N steps ob) (hi : i < N) (ok : Ok3 ob i P hit miss (u ++ e :: v)) (h1 : 1 ≤ P) (h2 : P ≤ 65536) (h3 : (((u ++ e :: v)).length : Int) ≤ P) (h4 : ∀ t ∈ (u ++ e :: v), 0 ≤ t.p ∧ t.p ≤ steps) (hn : Wf n) (hno : ∀ y ∈ u ++ e :: v, y.n ≠ n) (hr : P ≤ ((u ++ e :: v).length : Int)) (hu : ∀ y ∈ u, 0 < y.p) (he : e.p = 0) :
    Calls Try.prog 24 #[.pointer (some ⟨gw, 0, none⟩), .int .i64 (i : Int), .int .i64 n, .int .i64 x] w fun r w' => r = .returned (.bool true) ∧ ∃ ob', Md B w0 w' gw N pt CV LV RV OV WV rs ws ob' ∧ Good N (steps + 1) ob' := by
  obtain ⟨g0, c0, g1, c1, g2, c2, rfl, rfl, rfl⟩ := h.wo.three hi
  obtain ⟨oA1, oA2, oA3, oA4⟩ := ok 0 (by decide)
  obtain ⟨oL1, oL2, oL3, oL4⟩ := ok 1 (by decide)
  obtain ⟨oR1, oR2, oR3, oR4⟩ := ok 2 (by decide)
  have ptA := h.pts 0 i (by decide) hi
  have ptL := h.pts 1 i (by decide) hi
  have ptR := h.pts 2 i (by decide) hi
  have H := Lib.hid h
  have OK := Lib.hid (And.intro (And.intro oA1 (And.intro oA2 (And.intro oA3 oA4))) (And.intro (And.intro oL1 (And.intro oL2 (And.intro oL3 oL4))) (And.intro oR1 (And.intro oR2 (And.intro oR3 oR4)))))
  have PT := Lib.hid (And.intro ptA (And.intro ptL ptR))
  have hi63 : (i : Int) < (N : Int) := by omega
  have nd := (h.sys.ok 0 i (by decide) hi : isA w (ob 0 i)).nodup
  rw [oA4] at nd
  have ND := Lib.hid nd
  have LEN := Lib.hid (show ((u ++ e :: v)).length ≤ 65536 by omega)
  have HG := Lib.hid (And.intro hg (And.intro h1 (And.intro h2 (And.intro h3 h4))))
  have HA := Lib.hid (A_put_full (h.sys.ok 0 i (by decide) hi) oA4 n x hn (by rw [oA4]; exact hno) (by rw [oA4, oA1]; exact hr) (by rw [oA4]; omega) hu (by omega))
  rw [ptA] at HA
  obtain ⟨s0, s1⟩ := h.wo.at0 hi
  have NO := Lib.hid (And.intro hno (And.intro hn (And.intro hr (And.intro hu he))))
  clear h hg ok h4 oA1 oA2 oA3 oA4 oL1 oL2 oL3 oL4 oR1 oR2 oR3 oR4 ptA ptL ptR nd hno hn hr hu he
  go_enter Try.func24, Try.ntmps24
  go_wp2_with fail
  refine HA.out.mono ?_
  rintro r w1 ⟨rfl, a1, k1⟩
  have m1 := H.out.step2 (K := 0) (by decide) hi rfl (a1 : isK 0 w1 _) rfl k1 (gr_nw _ _ _)
  have M1 := Lib.hid m1
  obtain ⟨s2, s3⟩ := m1.wo.at1 hi
  have x1 : isL w1 (ob 1 i) := m1.get (K := 1) (by decide) hi (e10 _ _ _)
  have X1 := Lib.hid x1
  clear a1 k1 m1 x1 s0 s1 HA
  have XX := Lib.hid (show isL (w1.alloc (.cells #[.int .i64 x] 3)) (ob 1 i) from X1.out.kept (S := fun _ => False) ((Kept.refl _ _).alloc _) fun _ _ e => e)
  have HL := Lib.hid (L_put_full XX.out OK.out.2.1.2.2.2 n x w1.heap.size (Blk.new w1 3 #[.int .i64 x]) (fun f => Nat.lt_irrefl _ (X1.out.lt _ f)) NO.out.2.1 (by rw [OK.out.2.1.2.2.2]; exact NO.out.1) (by rw [OK.out.2.1.2.2.2, OK.out.2.1.1]; exact NO.out.2.2.1) (by rw [OK.out.2.1.2.2.2]; exact LEN.out) NO.out.2.2.2.1 (by have := NO.out.2.2.2.2; omega))
  rw [PT.out.2.1] at HL
  go_wp2_with fail
  refine HL.out.mono ?_
  rintro r w2 ⟨rfl, a2, k2⟩
  have m2 := M1.out.step2 (K := 1) (by decide) hi (e10 _ _ _) (a2 : isK 1 w2 _) rfl (((Kept.refl (ob 1 i).F w1).alloc (.cells #[.int .i64 x] 3)).trans k2) (gr3_nw _ _ _ _ _ (Nat.le_refl _) (by simp))
  have M2 := Lib.hid m2
  obtain ⟨s4, s5⟩ := m2.wo.at2 hi
  have x2 : isR w2 (ob 2 i) := m2.get (K := 2) (by decide) hi (e20 _ _ _ _)
  have HR := Lib.hid (R_put_full x2 OK.out.2.2.2.2.2 n x (by rw [OK.out.2.2.2.2.2]; exact NO.out.1) (by rw [OK.out.2.2.2.2.2]; exact LEN.out) (by rw [OK.out.2.2.2.2.2, OK.out.2.2.1]; exact NO.out.2.2.1) (fun y hy => by have := NO.out.2.2.2.1 y hy; omega) NO.out.2.2.2.2)
  rw [PT.out.2.2] at HR
  clear a2 m2 x2 s2 s3 HL k2 XX
  go_wp2_with fail
  refine HR.out.mono ?_
  rintro r w3 ⟨rfl, a3, k3⟩
  have m3 := M2.out.step2 (K := 2) (by decide) hi (e20 _ _ _ _) (a3 : isK 2 w3 _) rfl k3 (gr_nw _ _ _)
  have M3 := Lib.hid (m3.good HG.out.1 P (hit) (miss) (u ++ v ++ [⟨n, x, 0⟩]) ⟨OK.out.1.1, OK.out.1.2.1, OK.out.1.2.2.1, rfl⟩ ⟨OK.out.2.1.1, OK.out.2.1.2.1, OK.out.2.1.2.2.1, rfl⟩ ⟨OK.out.2.2.1, OK.out.2.2.2.1, OK.out.2.2.2.2.1, rfl⟩ h1 h2 (by have := h3; simp at this ⊢; omega) (pins_full HG.out.2.2.2.2))
  have eqn : (e.n == e.n) = true := by simp
  clear a3 k3 m3 s4 s5 HR
  go_wp2_with fail
  go_ret
  exact ⟨rfl, _, M3.out⟩
set_option maxHeartbeats 2000000 in
set_option maxRecDepth 100000 in
theorem puts_held {B gw N steps i : Nat} {w w0 : World} {pt : Nat → Nat → Nat} {CV LV RV OV WV : Value} {rs ws : List Row} {ob : Nat → Nat → Ob} {P hit miss : Int} {M : List Th} {n : Int} (x : Int) (h : Md B w0 w gw N pt CV LV RV OV WV rs ws ob) (hg : Good N steps ob) (hi : i < N) (ok : Ok3 ob i P hit miss M) (h1 : 1 ≤ P) (h2 : P ≤ 65536) (h3 : ((M).length : Int) ≤ P) (h4 : ∀ t ∈ M, 0 ≤ t.p ∧ t.p ≤ steps) (hn : Wf n) (hno : ∀ y ∈ M, y.n ≠ n) (hr : P ≤ (M.length : Int)) (hu : ∀ y ∈ M, 0 < y.p) :
    Calls Try.prog 24 #[.pointer (some ⟨gw, 0, none⟩), .int .i64 (i : Int), .int .i64 n, .int .i64 x] w fun r w' => r = .returned (.bool true) ∧ ∃ ob', Md B w0 w' gw N pt CV LV RV OV WV rs ws ob' ∧ Good N (steps + 1) ob' := by
  obtain ⟨g0, c0, g1, c1, g2, c2, rfl, rfl, rfl⟩ := h.wo.three hi
  obtain ⟨oA1, oA2, oA3, oA4⟩ := ok 0 (by decide)
  obtain ⟨oL1, oL2, oL3, oL4⟩ := ok 1 (by decide)
  obtain ⟨oR1, oR2, oR3, oR4⟩ := ok 2 (by decide)
  have ptA := h.pts 0 i (by decide) hi
  have ptL := h.pts 1 i (by decide) hi
  have ptR := h.pts 2 i (by decide) hi
  have H := Lib.hid h
  have OK := Lib.hid (And.intro (And.intro oA1 (And.intro oA2 (And.intro oA3 oA4))) (And.intro (And.intro oL1 (And.intro oL2 (And.intro oL3 oL4))) (And.intro oR1 (And.intro oR2 (And.intro oR3 oR4)))))
  have PT := Lib.hid (And.intro ptA (And.intro ptL ptR))
  have hi63 : (i : Int) < (N : Int) := by omega
  have nd := (h.sys.ok 0 i (by decide) hi : isA w (ob 0 i)).nodup
  rw [oA4] at nd
  have ND := Lib.hid nd
  have LEN := Lib.hid (show (M).length ≤ 65536 by omega)
  have HG := Lib.hid (And.intro hg (And.intro h1 (And.intro h2 (And.intro h3 h4))))
  have HA := Lib.hid (A_put_held (h.sys.ok 0 i (by decide) hi) n x hn (by rw [oA4]; exact hno) (by rw [oA4, oA1]; exact hr) (by rw [oA4]; omega) (by rw [oA4]; exact hu))
  rw [ptA] at HA
  obtain ⟨s0, s1⟩ := h.wo.at0 hi
  have NO := Lib.hid (And.intro hno (And.intro hn (And.intro hr hu)))
  clear h hg ok h4 oA1 oA2 oA3 oA4 oL1 oL2 oL3 oL4 oR1 oR2 oR3 oR4 ptA ptL ptR nd hno hn hr hu
  go_enter Try.func24, Try.ntmps24
  go_wp2_with fail
  refine HA.out.mono ?_
  rintro r w1 ⟨rfl, a1, k1⟩
  have m1 := H.out.step2 (K := 0) (by decide) hi rfl (a1 : isK 0 w1 _) rfl k1 (gr_nw _ _ _)
  have M1 := Lib.hid m1
  obtain ⟨s2, s3⟩ := m1.wo.at1 hi
  have x1 : isL w1 (ob 1 i) := m1.get (K := 1) (by decide) hi (e10 _ _ _)
  have X1 := Lib.hid x1
  clear a1 k1 m1 x1 s0 s1 HA
  have XX := Lib.hid (show isL (w1.alloc (.cells #[.int .i64 x] 3)) (ob 1 i) from X1.out.kept (S := fun _ => False) ((Kept.refl _ _).alloc _) fun _ _ e => e)
  have HL := Lib.hid (L_put_held XX.out n w1.heap.size (by simp) NO.out.2.1 (by rw [OK.out.2.1.2.2.2]; exact NO.out.1) (by rw [OK.out.2.1.2.2.2, OK.out.2.1.1]; exact NO.out.2.2.1) (by rw [OK.out.2.1.2.2.2]; exact LEN.out) (by rw [OK.out.2.1.2.2.2]; exact NO.out.2.2.2))
  rw [PT.out.2.1] at HL
  go_wp2_with fail
  refine HL.out.mono ?_
  rintro r w2 ⟨rfl, a2, k2⟩
  have m2 := M1.out.step2 (K := 1) (by decide) hi (e10 _ _ _) (a2 : isK 1 w2 _) rfl (((Kept.refl (ob 1 i).F w1).alloc (.cells #[.int .i64 x] 3)).trans k2) (gr3_nw _ _ _ _ _ (Nat.le_refl _) (by simp))
  have M2 := Lib.hid m2
  obtain ⟨s4, s5⟩ := m2.wo.at2 hi
  have x2 : isR w2 (ob 2 i) := m2.get (K := 2) (by decide) hi (e20 _ _ _ _)
  have HR := Lib.hid (R_put_held x2 n x (by rw [OK.out.2.2.2.2.2]; exact NO.out.1) (by rw [OK.out.2.2.2.2.2]; exact LEN.out) (by rw [OK.out.2.2.2.2.2, OK.out.2.2.1]; exact NO.out.2.2.1) (fun y hy => by rw [OK.out.2.2.2.2.2] at hy; have := NO.out.2.2.2 y hy; omega))
  rw [PT.out.2.2] at HR
  clear a2 m2 x2 s2 s3 HL k2 XX
  go_wp2_with fail
  refine HR.out.mono ?_
  rintro r w3 ⟨rfl, a3, k3⟩
  have m3 := M2.out.step2 (K := 2) (by decide) hi (e20 _ _ _ _) (a3 : isK 2 w3 _) rfl k3 (gr_nw _ _ _)
  have M3 := Lib.hid (m3.good HG.out.1 P (hit) (miss) (M) ⟨OK.out.1.1, OK.out.1.2.1, OK.out.1.2.2.1, OK.out.1.2.2.2⟩ ⟨OK.out.2.1.1, OK.out.2.1.2.1, OK.out.2.1.2.2.1, OK.out.2.1.2.2.2⟩ ⟨OK.out.2.2.1, OK.out.2.2.2.1, OK.out.2.2.2.2.1, OK.out.2.2.2.2.2⟩ h1 h2 h3 (fun t ht => by have := HG.out.2.2.2.2 t ht; omega))
  have eqn : (n == n) = true := by simp
  clear a3 k3 m3 s4 s5 HR
  go_wp2_with fail
  go_ret
  exact ⟨rfl, _, M3.out⟩
set_option maxHeartbeats 2000000 in
set_option maxRecDepth 100000 in
theorem drop_in {B gw N steps i : Nat} {w w0 : World} {pt : Nat → Nat → Nat} {CV LV RV OV WV : Value} {rs ws : List Row} {ob : Nat → Nat → Ob} {P hit miss : Int} {u v : List Th} {e : Th} (h : Md B w0 w gw N pt CV LV RV OV WV rs ws ob) (hg : Good N steps ob) (hi : i < N) (ok : Ok3 ob i P hit miss (u ++ e :: v)) (h1 : 1 ≤ P) (h2 : P ≤ 65536) (h3 : (((u ++ e :: v)).length : Int) ≤ P) (h4 : ∀ t ∈ (u ++ e :: v), 0 ≤ t.p ∧ t.p ≤ steps) :
    Calls Try.prog 25 #[.pointer (some ⟨gw, 0, none⟩), .int .i64 4, .int .i64 (i : Int), .int .i64 e.n] w fun r w' => r = .returned (.bool true) ∧ ∃ ob', Md B w0 w' gw N pt CV LV RV OV WV rs ws ob' ∧ Good N (steps + 1) ob' := by
  obtain ⟨g0, c0, g1, c1, g2, c2, rfl, rfl, rfl⟩ := h.wo.three hi
  obtain ⟨oA1, oA2, oA3, oA4⟩ := ok 0 (by decide)
  obtain ⟨oL1, oL2, oL3, oL4⟩ := ok 1 (by decide)
  obtain ⟨oR1, oR2, oR3, oR4⟩ := ok 2 (by decide)
  have ptA := h.pts 0 i (by decide) hi
  have ptL := h.pts 1 i (by decide) hi
  have ptR := h.pts 2 i (by decide) hi
  have H := Lib.hid h
  have OK := Lib.hid (And.intro (And.intro oA1 (And.intro oA2 (And.intro oA3 oA4))) (And.intro (And.intro oL1 (And.intro oL2 (And.intro oL3 oL4))) (And.intro oR1 (And.intro oR2 (And.intro oR3 oR4)))))
  have PT := Lib.hid (And.intro ptA (And.intro ptL ptR))
  have hi63 : (i : Int) < (N : Int) := by omega
  have nd := (h.sys.ok 0 i (by decide) hi : isA w (ob 0 i)).nodup
  rw [oA4] at nd
  have ND := Lib.hid nd
  have LEN := Lib.hid (show ((u ++ e :: v)).length ≤ 65536 by omega)
  have HG := Lib.hid (And.intro hg (And.intro h1 (And.intro h2 (And.intro h3 h4))))
  have HA := Lib.hid (A_drop_some (h.sys.ok 0 i (by decide) hi) oA4)
  rw [ptA] at HA
  obtain ⟨s0, s1⟩ := h.wo.at0 hi
  clear h hg ok h4 oA1 oA2 oA3 oA4 oL1 oL2 oL3 oL4 oR1 oR2 oR3 oR4 ptA ptL ptR nd 
  go_enter Try.func25, Try.ntmps25
  go_wp2_with fail
  refine HA.out.mono ?_
  rintro r w1 ⟨rfl, a1, k1⟩
  have m1 := H.out.step2 (K := 0) (by decide) hi rfl (a1 : isK 0 w1 _) rfl k1 (gr_nw _ _ _)
  have M1 := Lib.hid m1
  obtain ⟨s2, s3⟩ := m1.wo.at1 hi
  have x1 : isL w1 (ob 1 i) := m1.get (K := 1) (by decide) hi (e10 _ _ _)
  have X1 := Lib.hid x1
  clear a1 k1 m1 x1 s0 s1 HA
  have HL := Lib.hid (L_drop_some X1.out OK.out.2.1.2.2.2)
  rw [PT.out.2.1] at HL
  go_wp2_with fail
  refine HL.out.mono ?_
  rintro r w2 ⟨rfl, a2, k2⟩
  have m2 := M1.out.step2 (K := 1) (by decide) hi (e10 _ _ _) (a2 : isK 1 w2 _) rfl k2 (gr2_nw _ _ _)
  have M2 := Lib.hid m2
  obtain ⟨s4, s5⟩ := m2.wo.at2 hi
  have x2 : isR w2 (ob 2 i) := m2.get (K := 2) (by decide) hi (e20 _ _ _ _)
  have HR := Lib.hid (R_drop_some x2 OK.out.2.2.2.2.2 (nodup_before ND.out.1) (by rw [OK.out.2.2.2.2.2]; exact LEN.out))
  rw [PT.out.2.2] at HR
  clear a2 m2 x2 s2 s3 HL k2
  go_wp2_with fail
  refine HR.out.mono ?_
  rintro r w3 ⟨rfl, a3, k3⟩
  have m3 := M2.out.step2 (K := 2) (by decide) hi (e20 _ _ _ _) (a3 : isK 2 w3 _) rfl k3 (gr_nw _ _ _)
  have M3 := Lib.hid (m3.good HG.out.1 P (hit) (miss) (u ++ v) ⟨OK.out.1.1, OK.out.1.2.1, OK.out.1.2.2.1, rfl⟩ ⟨OK.out.2.1.1, OK.out.2.1.2.1, OK.out.2.1.2.2.1, rfl⟩ ⟨OK.out.2.2.1, OK.out.2.2.2.1, OK.out.2.2.2.2.1, rfl⟩ h1 h2 (by have := h3; simp at this ⊢; omega) (fun t ht => by have := HG.out.2.2.2.2 t (by rcases List.mem_append.1 ht with h | h <;> simp [h]); omega))
  clear a3 k3 m3 s4 s5 HR
  go_wp2_with fail
  go_ret
  exact ⟨rfl, _, M3.out⟩
set_option maxHeartbeats 2000000 in
set_option maxRecDepth 100000 in
theorem pin_in {B gw N steps i : Nat} {w w0 : World} {pt : Nat → Nat → Nat} {CV LV RV OV WV : Value} {rs ws : List Row} {ob : Nat → Nat → Ob} {P hit miss : Int} {u v : List Th} {e : Th} (h : Md B w0 w gw N pt CV LV RV OV WV rs ws ob) (hg : Good N steps ob) (hi : i < N) (ok : Ok3 ob i P hit miss (u ++ e :: v)) (h1 : 1 ≤ P) (h2 : P ≤ 65536) (h3 : (((u ++ e :: v)).length : Int) ≤ P) (h4 : ∀ t ∈ (u ++ e :: v), 0 ≤ t.p ∧ t.p ≤ steps) (hst : steps ≤ 4611686018427387904) :
    Calls Try.prog 25 #[.pointer (some ⟨gw, 0, none⟩), .int .i64 5, .int .i64 (i : Int), .int .i64 e.n] w fun r w' => r = .returned (.bool true) ∧ ∃ ob', Md B w0 w' gw N pt CV LV RV OV WV rs ws ob' ∧ Good N (steps + 1) ob' := by
  obtain ⟨g0, c0, g1, c1, g2, c2, rfl, rfl, rfl⟩ := h.wo.three hi
  obtain ⟨oA1, oA2, oA3, oA4⟩ := ok 0 (by decide)
  obtain ⟨oL1, oL2, oL3, oL4⟩ := ok 1 (by decide)
  obtain ⟨oR1, oR2, oR3, oR4⟩ := ok 2 (by decide)
  have ptA := h.pts 0 i (by decide) hi
  have ptL := h.pts 1 i (by decide) hi
  have ptR := h.pts 2 i (by decide) hi
  have H := Lib.hid h
  have OK := Lib.hid (And.intro (And.intro oA1 (And.intro oA2 (And.intro oA3 oA4))) (And.intro (And.intro oL1 (And.intro oL2 (And.intro oL3 oL4))) (And.intro oR1 (And.intro oR2 (And.intro oR3 oR4)))))
  have PT := Lib.hid (And.intro ptA (And.intro ptL ptR))
  have hi63 : (i : Int) < (N : Int) := by omega
  have nd := (h.sys.ok 0 i (by decide) hi : isA w (ob 0 i)).nodup
  rw [oA4] at nd
  have ND := Lib.hid nd
  have LEN := Lib.hid (show ((u ++ e :: v)).length ≤ 65536 by omega)
  have HG := Lib.hid (And.intro hg (And.intro h1 (And.intro h2 (And.intro h3 h4))))
  have HA := Lib.hid (A_pin_some (h.sys.ok 0 i (by decide) hi) oA4)
  rw [ptA] at HA
  obtain ⟨s0, s1⟩ := h.wo.at0 hi
  clear h hg ok h4 oA1 oA2 oA3 oA4 oL1 oL2 oL3 oL4 oR1 oR2 oR3 oR4 ptA ptL ptR nd 
  go_enter Try.func25, Try.ntmps25
  go_wp2_with fail
  refine HA.out.mono ?_
  rintro r w1 ⟨rfl, a1, k1⟩
  have m1 := H.out.step2 (K := 0) (by decide) hi rfl (a1 : isK 0 w1 _) rfl k1 (gr_nw _ _ _)
  have M1 := Lib.hid m1
  obtain ⟨s2, s3⟩ := m1.wo.at1 hi
  have x1 : isL w1 (ob 1 i) := m1.get (K := 1) (by decide) hi (e10 _ _ _)
  have X1 := Lib.hid x1
  clear a1 k1 m1 x1 s0 s1 HA
  have HL := Lib.hid (L_pin_some X1.out OK.out.2.1.2.2.2)
  rw [PT.out.2.1] at HL
  go_wp2_with fail
  refine HL.out.mono ?_
  rintro r w2 ⟨rfl, a2, k2⟩
  have m2 := M1.out.step2 (K := 1) (by decide) hi (e10 _ _ _) (a2 : isK 1 w2 _) rfl k2 (gr2_nw _ _ _)
  have M2 := Lib.hid m2
  obtain ⟨s4, s5⟩ := m2.wo.at2 hi
  have x2 : isR w2 (ob 2 i) := m2.get (K := 2) (by decide) hi (e20 _ _ _ _)
  have HR := Lib.hid (R_pin_some x2 OK.out.2.2.2.2.2 (nodup_before ND.out.1) (by rw [OK.out.2.2.2.2.2]; exact LEN.out))
  rw [PT.out.2.2] at HR
  clear a2 m2 x2 s2 s3 HL k2
  go_wp2_with fail
  refine HR.out.mono ?_
  rintro r w3 ⟨rfl, a3, k3⟩
  have m3 := M2.out.step2 (K := 2) (by decide) hi (e20 _ _ _ _) (a3 : isK 2 w3 _) rfl k3 (gr_nw _ _ _)
  have M3 := Lib.hid (m3.good HG.out.1 P (hit) (miss) (u ++ { e with p := wrap64 (e.p + 1) } :: v) ⟨OK.out.1.1, OK.out.1.2.1, OK.out.1.2.2.1, rfl⟩ ⟨OK.out.2.1.1, OK.out.2.1.2.1, OK.out.2.1.2.2.1, rfl⟩ ⟨OK.out.2.2.1, OK.out.2.2.2.1, OK.out.2.2.2.2.1, rfl⟩ h1 h2 (by have := h3; simp at this ⊢; omega) (pins_up hst HG.out.2.2.2.2))
  clear a3 k3 m3 s4 s5 HR
  go_wp2_with fail
  go_ret
  exact ⟨rfl, _, M3.out⟩
set_option maxHeartbeats 2000000 in
set_option maxRecDepth 100000 in
theorem unpin_in {B gw N steps i : Nat} {w w0 : World} {pt : Nat → Nat → Nat} {CV LV RV OV WV : Value} {rs ws : List Row} {ob : Nat → Nat → Ob} {P hit miss : Int} {u v : List Th} {e : Th} (h : Md B w0 w gw N pt CV LV RV OV WV rs ws ob) (hg : Good N steps ob) (hi : i < N) (ok : Ok3 ob i P hit miss (u ++ e :: v)) (h1 : 1 ≤ P) (h2 : P ≤ 65536) (h3 : (((u ++ e :: v)).length : Int) ≤ P) (h4 : ∀ t ∈ (u ++ e :: v), 0 ≤ t.p ∧ t.p ≤ steps) (hst : steps ≤ 4611686018427387904) (he : e.p ≠ 0) :
    Calls Try.prog 25 #[.pointer (some ⟨gw, 0, none⟩), .int .i64 6, .int .i64 (i : Int), .int .i64 e.n] w fun r w' => r = .returned (.bool true) ∧ ∃ ob', Md B w0 w' gw N pt CV LV RV OV WV rs ws ob' ∧ Good N (steps + 1) ob' := by
  obtain ⟨g0, c0, g1, c1, g2, c2, rfl, rfl, rfl⟩ := h.wo.three hi
  obtain ⟨oA1, oA2, oA3, oA4⟩ := ok 0 (by decide)
  obtain ⟨oL1, oL2, oL3, oL4⟩ := ok 1 (by decide)
  obtain ⟨oR1, oR2, oR3, oR4⟩ := ok 2 (by decide)
  have ptA := h.pts 0 i (by decide) hi
  have ptL := h.pts 1 i (by decide) hi
  have ptR := h.pts 2 i (by decide) hi
  have H := Lib.hid h
  have OK := Lib.hid (And.intro (And.intro oA1 (And.intro oA2 (And.intro oA3 oA4))) (And.intro (And.intro oL1 (And.intro oL2 (And.intro oL3 oL4))) (And.intro oR1 (And.intro oR2 (And.intro oR3 oR4)))))
  have PT := Lib.hid (And.intro ptA (And.intro ptL ptR))
  have hi63 : (i : Int) < (N : Int) := by omega
  have nd := (h.sys.ok 0 i (by decide) hi : isA w (ob 0 i)).nodup
  rw [oA4] at nd
  have ND := Lib.hid nd
  have LEN := Lib.hid (show ((u ++ e :: v)).length ≤ 65536 by omega)
  have HG := Lib.hid (And.intro hg (And.intro h1 (And.intro h2 (And.intro h3 h4))))
  have HA := Lib.hid (A_unpin_some (h.sys.ok 0 i (by decide) hi) oA4 he)
  rw [ptA] at HA
  obtain ⟨s0, s1⟩ := h.wo.at0 hi
  have HE := Lib.hid he
  clear h hg ok h4 oA1 oA2 oA3 oA4 oL1 oL2 oL3 oL4 oR1 oR2 oR3 oR4 ptA ptL ptR nd he
  go_enter Try.func25, Try.ntmps25
  go_wp2_with fail
  refine HA.out.mono ?_
  rintro r w1 ⟨rfl, a1, k1⟩
  have m1 := H.out.step2 (K := 0) (by decide) hi rfl (a1 : isK 0 w1 _) rfl k1 (gr_nw _ _ _)
  have M1 := Lib.hid m1
  obtain ⟨s2, s3⟩ := m1.wo.at1 hi
  have x1 : isL w1 (ob 1 i) := m1.get (K := 1) (by decide) hi (e10 _ _ _)
  have X1 := Lib.hid x1
  clear a1 k1 m1 x1 s0 s1 HA
  have HL := Lib.hid (L_unpin_some X1.out OK.out.2.1.2.2.2 HE.out)
  rw [PT.out.2.1] at HL
  go_wp2_with fail
  refine HL.out.mono ?_
  rintro r w2 ⟨rfl, a2, k2⟩
  have m2 := M1.out.step2 (K := 1) (by decide) hi (e10 _ _ _) (a2 : isK 1 w2 _) rfl k2 (gr2_nw _ _ _)
  have M2 := Lib.hid m2
  obtain ⟨s4, s5⟩ := m2.wo.at2 hi
  have x2 : isR w2 (ob 2 i) := m2.get (K := 2) (by decide) hi (e20 _ _ _ _)
  have HR := Lib.hid (R_unpin_some x2 OK.out.2.2.2.2.2 (nodup_before ND.out.1) (by rw [OK.out.2.2.2.2.2]; exact LEN.out) HE.out)
  rw [PT.out.2.2] at HR
  clear a2 m2 x2 s2 s3 HL k2
  go_wp2_with fail
  refine HR.out.mono ?_
  rintro r w3 ⟨rfl, a3, k3⟩
  have m3 := M2.out.step2 (K := 2) (by decide) hi (e20 _ _ _ _) (a3 : isK 2 w3 _) rfl k3 (gr_nw _ _ _)
  have M3 := Lib.hid (m3.good HG.out.1 P (hit) (miss) (u ++ { e with p := wrap64 (e.p - 1) } :: v) ⟨OK.out.1.1, OK.out.1.2.1, OK.out.1.2.2.1, rfl⟩ ⟨OK.out.2.1.1, OK.out.2.1.2.1, OK.out.2.1.2.2.1, rfl⟩ ⟨OK.out.2.2.1, OK.out.2.2.2.1, OK.out.2.2.2.2.1, rfl⟩ h1 h2 (by have := h3; simp at this ⊢; omega) (pins_down hst HE.out HG.out.2.2.2.2))
  clear a3 k3 m3 s4 s5 HR
  go_wp2_with fail
  go_ret
  exact ⟨rfl, _, M3.out⟩
set_option maxHeartbeats 1000000 in
theorem drop_out {B gw N steps i : Nat} {w w0 : World} {pt : Nat → Nat → Nat} {CV LV RV OV WV : Value} {rs ws : List Row} {ob : Nat → Nat → Ob} {P hit miss : Int} {M : List Th} {n : Int} (h : Md B w0 w gw N pt CV LV RV OV WV rs ws ob) (hg : Good N steps ob) (hi : i < N) (ok : Ok3 ob i P hit miss M) (h2 : P ≤ 65536) (h3 : ((M).length : Int) ≤ P) (hn : Wf n) (hno : ∀ y ∈ M, y.n ≠ n) :
    Calls Try.prog 25 #[.pointer (some ⟨gw, 0, none⟩), .int .i64 4, .int .i64 (i : Int), .int .i64 n] w fun r w' => r = .returned (.bool true) ∧ ∃ ob', Md B w0 w' gw N pt CV LV RV OV WV rs ws ob' ∧ Good N (steps + 1) ob' := by
  obtain ⟨g0, c0, g1, c1, g2, c2, rfl, rfl, rfl⟩ := h.wo.three hi
  obtain ⟨oA1, oA2, oA3, oA4⟩ := ok 0 (by decide)
  obtain ⟨oL1, oL2, oL3, oL4⟩ := ok 1 (by decide)
  obtain ⟨oR1, oR2, oR3, oR4⟩ := ok 2 (by decide)
  have ptA := h.pts 0 i (by decide) hi
  have ptL := h.pts 1 i (by decide) hi
  have ptR := h.pts 2 i (by decide) hi
  have H := Lib.hid h
  have OK := Lib.hid (And.intro (And.intro oA1 (And.intro oA2 (And.intro oA3 oA4))) (And.intro (And.intro oL1 (And.intro oL2 (And.intro oL3 oL4))) (And.intro oR1 (And.intro oR2 (And.intro oR3 oR4)))))
  have PT := Lib.hid (And.intro ptA (And.intro ptL ptR))
  have hi63 : (i : Int) < (N : Int) := by omega
  have nd := (h.sys.ok 0 i (by decide) hi : isA w (ob 0 i)).nodup
  rw [oA4] at nd
  have HA := Lib.hid (A_drop_none (h.sys.ok 0 i (by decide) hi) n hn (by rw [oA4]; exact hno))
  have HL := Lib.hid (L_drop_none (h.sys.ok 1 i (by decide) hi) n hn (by rw [oL4]; exact hno))
  have HR := Lib.hid (R_drop_none (h.sys.ok 2 i (by decide) hi) n (by rw [oR4]; exact hno) (by rw [oR4]; omega))
  rw [ptA] at HA
  rw [ptL] at HL
  rw [ptR] at HR
  obtain ⟨s0, s1⟩ := h.wo.at0 hi
  obtain ⟨s2, s3⟩ := h.wo.at1 hi
  obtain ⟨s4, s5⟩ := h.wo.at2 hi
  have HG := Lib.hid (And.intro h hg.more)
  clear h hg ok oA1 oA2 oA3 oA4 oL1 oL2 oL3 oL4 oR1 oR2 oR3 oR4 ptA ptL ptR nd
  go_enter Try.func25, Try.ntmps25
  go_wp2_with fail
  refine HA.out.mono ?_
  rintro r w1 ⟨rfl, rfl⟩
  go_wp2_with fail
  refine HL.out.mono ?_
  rintro r w1 ⟨rfl, rfl⟩
  go_wp2_with fail
  refine HR.out.mono ?_
  rintro r w1 ⟨rfl, rfl⟩
  go_wp2_with fail
  go_ret
  exact ⟨rfl, ob, HG.out⟩
set_option maxHeartbeats 1000000 in
theorem pin_out {B gw N steps i : Nat} {w w0 : World} {pt : Nat → Nat → Nat} {CV LV RV OV WV : Value} {rs ws : List Row} {ob : Nat → Nat → Ob} {P hit miss : Int} {M : List Th} {n : Int} (h : Md B w0 w gw N pt CV LV RV OV WV rs ws ob) (hg : Good N steps ob) (hi : i < N) (ok : Ok3 ob i P hit miss M) (h2 : P ≤ 65536) (h3 : ((M).length : Int) ≤ P) (hn : Wf n) (hno : ∀ y ∈ M, y.n ≠ n) :
    Calls Try.prog 25 #[.pointer (some ⟨gw, 0, none⟩), .int .i64 5, .int .i64 (i : Int), .int .i64 n] w fun r w' => r = .returned (.bool true) ∧ ∃ ob', Md B w0 w' gw N pt CV LV RV OV WV rs ws ob' ∧ Good N (steps + 1) ob' := by
  obtain ⟨g0, c0, g1, c1, g2, c2, rfl, rfl, rfl⟩ := h.wo.three hi
  obtain ⟨oA1, oA2, oA3, oA4⟩ := ok 0 (by decide)
  obtain ⟨oL1, oL2, oL3, oL4⟩ := ok 1 (by decide)
  obtain ⟨oR1, oR2, oR3, oR4⟩ := ok 2 (by decide)
  have ptA := h.pts 0 i (by decide) hi
  have ptL := h.pts 1 i (by decide) hi
  have ptR := h.pts 2 i (by decide) hi
  have H := Lib.hid h
  have OK := Lib.hid (And.intro (And.intro oA1 (And.intro oA2 (And.intro oA3 oA4))) (And.intro (And.intro oL1 (And.intro oL2 (And.intro oL3 oL4))) (And.intro oR1 (And.intro oR2 (And.intro oR3 oR4)))))
  have PT := Lib.hid (And.intro ptA (And.intro ptL ptR))
  have hi63 : (i : Int) < (N : Int) := by omega
  have nd := (h.sys.ok 0 i (by decide) hi : isA w (ob 0 i)).nodup
  rw [oA4] at nd
  have HA := Lib.hid (A_pin_none (h.sys.ok 0 i (by decide) hi) n hn (by rw [oA4]; exact hno))
  have HL := Lib.hid (L_pin_none (h.sys.ok 1 i (by decide) hi) n hn (by rw [oL4]; exact hno))
  have HR := Lib.hid (R_pin_none (h.sys.ok 2 i (by decide) hi) n (by rw [oR4]; exact hno) (by rw [oR4]; omega))
  rw [ptA] at HA
  rw [ptL] at HL
  rw [ptR] at HR
  obtain ⟨s0, s1⟩ := h.wo.at0 hi
  obtain ⟨s2, s3⟩ := h.wo.at1 hi
  obtain ⟨s4, s5⟩ := h.wo.at2 hi
  have HG := Lib.hid (And.intro h hg.more)
  clear h hg ok oA1 oA2 oA3 oA4 oL1 oL2 oL3 oL4 oR1 oR2 oR3 oR4 ptA ptL ptR nd
  go_enter Try.func25, Try.ntmps25
  go_wp2_with fail
  refine HA.out.mono ?_
  rintro r w1 ⟨rfl, rfl⟩
  go_wp2_with fail
  refine HL.out.mono ?_
  rintro r w1 ⟨rfl, rfl⟩
  go_wp2_with fail
  refine HR.out.mono ?_
  rintro r w1 ⟨rfl, rfl⟩
  go_wp2_with fail
  go_ret
  exact ⟨rfl, ob, HG.out⟩
set_option maxHeartbeats 1000000 in
theorem unpin_out {B gw N steps i : Nat} {w w0 : World} {pt : Nat → Nat → Nat} {CV LV RV OV WV : Value} {rs ws : List Row} {ob : Nat → Nat → Ob} {P hit miss : Int} {M : List Th} {n : Int} (h : Md B w0 w gw N pt CV LV RV OV WV rs ws ob) (hg : Good N steps ob) (hi : i < N) (ok : Ok3 ob i P hit miss M) (h2 : P ≤ 65536) (h3 : ((M).length : Int) ≤ P) (hn : Wf n) (hno : ∀ y ∈ M, y.n ≠ n) :
    Calls Try.prog 25 #[.pointer (some ⟨gw, 0, none⟩), .int .i64 6, .int .i64 (i : Int), .int .i64 n] w fun r w' => r = .returned (.bool true) ∧ ∃ ob', Md B w0 w' gw N pt CV LV RV OV WV rs ws ob' ∧ Good N (steps + 1) ob' := by
  obtain ⟨g0, c0, g1, c1, g2, c2, rfl, rfl, rfl⟩ := h.wo.three hi
  obtain ⟨oA1, oA2, oA3, oA4⟩ := ok 0 (by decide)
  obtain ⟨oL1, oL2, oL3, oL4⟩ := ok 1 (by decide)
  obtain ⟨oR1, oR2, oR3, oR4⟩ := ok 2 (by decide)
  have ptA := h.pts 0 i (by decide) hi
  have ptL := h.pts 1 i (by decide) hi
  have ptR := h.pts 2 i (by decide) hi
  have H := Lib.hid h
  have OK := Lib.hid (And.intro (And.intro oA1 (And.intro oA2 (And.intro oA3 oA4))) (And.intro (And.intro oL1 (And.intro oL2 (And.intro oL3 oL4))) (And.intro oR1 (And.intro oR2 (And.intro oR3 oR4)))))
  have PT := Lib.hid (And.intro ptA (And.intro ptL ptR))
  have hi63 : (i : Int) < (N : Int) := by omega
  have nd := (h.sys.ok 0 i (by decide) hi : isA w (ob 0 i)).nodup
  rw [oA4] at nd
  have HA := Lib.hid (A_unpin_none (h.sys.ok 0 i (by decide) hi) n hn (by rw [oA4]; exact hno))
  have HL := Lib.hid (L_unpin_none (h.sys.ok 1 i (by decide) hi) n hn (by rw [oL4]; exact hno))
  have HR := Lib.hid (R_unpin_none (h.sys.ok 2 i (by decide) hi) n (by rw [oR4]; exact hno) (by rw [oR4]; omega))
  rw [ptA] at HA
  rw [ptL] at HL
  rw [ptR] at HR
  obtain ⟨s0, s1⟩ := h.wo.at0 hi
  obtain ⟨s2, s3⟩ := h.wo.at1 hi
  obtain ⟨s4, s5⟩ := h.wo.at2 hi
  have HG := Lib.hid (And.intro h hg.more)
  clear h hg ok oA1 oA2 oA3 oA4 oL1 oL2 oL3 oL4 oR1 oR2 oR3 oR4 ptA ptL ptR nd
  go_enter Try.func25, Try.ntmps25
  go_wp2_with fail
  refine HA.out.mono ?_
  rintro r w1 ⟨rfl, rfl⟩
  go_wp2_with fail
  refine HL.out.mono ?_
  rintro r w1 ⟨rfl, rfl⟩
  go_wp2_with fail
  refine HR.out.mono ?_
  rintro r w1 ⟨rfl, rfl⟩
  go_wp2_with fail
  go_ret
  exact ⟨rfl, ob, HG.out⟩
set_option maxHeartbeats 1000000 in
theorem unpin_zero_ {B gw N steps i : Nat} {w w0 : World} {pt : Nat → Nat → Nat} {CV LV RV OV WV : Value} {rs ws : List Row} {ob : Nat → Nat → Ob} {P hit miss : Int} {u v : List Th} {e : Th} (h : Md B w0 w gw N pt CV LV RV OV WV rs ws ob) (hg : Good N steps ob) (hi : i < N) (ok : Ok3 ob i P hit miss (u ++ e :: v)) (h2 : P ≤ 65536) (h3 : (((u ++ e :: v)).length : Int) ≤ P) (he : e.p = 0) :
    Calls Try.prog 25 #[.pointer (some ⟨gw, 0, none⟩), .int .i64 6, .int .i64 (i : Int), .int .i64 e.n] w fun r w' => r = .returned (.bool true) ∧ ∃ ob', Md B w0 w' gw N pt CV LV RV OV WV rs ws ob' ∧ Good N (steps + 1) ob' := by
  obtain ⟨g0, c0, g1, c1, g2, c2, rfl, rfl, rfl⟩ := h.wo.three hi
  obtain ⟨oA1, oA2, oA3, oA4⟩ := ok 0 (by decide)
  obtain ⟨oL1, oL2, oL3, oL4⟩ := ok 1 (by decide)
  obtain ⟨oR1, oR2, oR3, oR4⟩ := ok 2 (by decide)
  have ptA := h.pts 0 i (by decide) hi
  have ptL := h.pts 1 i (by decide) hi
  have ptR := h.pts 2 i (by decide) hi
  have H := Lib.hid h
  have OK := Lib.hid (And.intro (And.intro oA1 (And.intro oA2 (And.intro oA3 oA4))) (And.intro (And.intro oL1 (And.intro oL2 (And.intro oL3 oL4))) (And.intro oR1 (And.intro oR2 (And.intro oR3 oR4)))))
  have PT := Lib.hid (And.intro ptA (And.intro ptL ptR))
  have hi63 : (i : Int) < (N : Int) := by omega
  have nd := (h.sys.ok 0 i (by decide) hi : isA w (ob 0 i)).nodup
  rw [oA4] at nd
  have HA := Lib.hid (A_unpin_zero (h.sys.ok 0 i (by decide) hi) oA4 he)
  have HL := Lib.hid (L_unpin_zero (h.sys.ok 1 i (by decide) hi) oL4 he)
  have HR := Lib.hid (R_unpin_zero (h.sys.ok 2 i (by decide) hi) oR4 (nodup_before nd.1) (by rw [oR4]; omega) he)
  rw [ptA] at HA
  rw [ptL] at HL
  rw [ptR] at HR
  obtain ⟨s0, s1⟩ := h.wo.at0 hi
  obtain ⟨s2, s3⟩ := h.wo.at1 hi
  obtain ⟨s4, s5⟩ := h.wo.at2 hi
  have HG := Lib.hid (And.intro h hg.more)
  clear h hg ok oA1 oA2 oA3 oA4 oL1 oL2 oL3 oL4 oR1 oR2 oR3 oR4 ptA ptL ptR nd
  go_enter Try.func25, Try.ntmps25
  go_wp2_with fail
  refine HA.out.mono ?_
  rintro r w1 ⟨rfl, rfl⟩
  go_wp2_with fail
  refine HL.out.mono ?_
  rintro r w1 ⟨rfl, rfl⟩
  go_wp2_with fail
  refine HR.out.mono ?_
  rintro r w1 ⟨rfl, rfl⟩
  go_wp2_with fail
  go_ret
  exact ⟨rfl, ob, HG.out⟩
end Go.Proofs.Ytghakgepchlpgaa
