/- ANY gets, puts, held; what stays still; puts after a turn. -/
import Derived.Test.YtghakgepchlpgaaX9
namespace Go.Proofs.Ytghakgepchlpgaa
open Go.RowKit Go.Maps
/-- blocks of ints and of steps -/
def Thing (t : TypeId) : Prop := t = 3 ∨ t = 51
def Still (w w' : World) : Prop := ∀ (k : Nat) (cs : Array Value) (t : TypeId), Thing t → Blk w k t cs → Blk w' k t cs
theorem Still.refl (w : World) : Still w w := fun _ _ _ _ h => h
theorem Still.trans {a b c : World} (h : Still a b) (h' : Still b c) : Still a c := fun k cs t ht e => h' k cs t ht (h k cs t ht e)
theorem Still.alloc (w : World) (o : Obj) : Still w (w.alloc o) := fun _ _ _ _ h => h.alloc o
theorem Still.drew (w : World) : Still w w.drew := fun _ _ _ _ h => h
theorem Kept.still {S : Nat → Prop} {w w' : World} (h : Kept S w w') (hs : ∀ (k : Nat) (cs : Array Value) (t : TypeId), Thing t → Blk w k t cs → ¬ S k) : Still w w' := fun k cs t ht hb => hb.kept h (hs k cs t ht hb)
theorem notThing {TC TP : TypeId} {w : World} {cb mb : Nat} {P hit miss : Int} {L : List Ent} {zx : Value} (h1 : ∀ t, Thing t → TC ≠ t) (h2 : ∀ t, Thing t → TP ≠ t) (hc : CA TC TP zx w cb mb P hit miss L) {k : Nat} {cs : Array Value} {t : TypeId} (ht : Thing t) (hb : Blk w k t cs) : ¬ Bl cb mb L k := by
  rintro (rfl | rfl | ⟨e, he, rfl⟩)
  · obtain ⟨D, ⟨es, clock, h, -⟩, -⟩ := hc.map
    unfold Blk at hb
    rw [h] at hb
    cases hb
  · obtain ⟨nx, el, hl, -⟩ := hc.ex
    exact types_ne hl.cache hb (h1 t ht) rfl
  · obtain ⟨nx, el, hl, -⟩ := hc.ex
    exact types_ne (hl.place e he).2 hb (h2 t ht) rfl
theorem still_A {w w' : World} {cb mb : Nat} {P hit miss : Int} {L : List Ent} {zx : Value} (hc : CA 58 56 zx w cb mb P hit miss L) (hk : Kept (Bl cb mb L) w w') : Still w w' :=
  hk.still fun _ _ _ ht hb => notThing (fun t h => by rcases h with rfl | rfl <;> decide) (fun t h => by rcases h with rfl | rfl <;> decide) hc ht hb
theorem still_L {w w' : World} {cb mb : Nat} {P hit miss : Int} {L : List Ent} {zx : Value} (hc : CA 82 80 zx w cb mb P hit miss L) (hk : Kept (Bl cb mb L) w w') : Still w w' :=
  hk.still fun _ _ _ ht hb => notThing (fun t h => by rcases h with rfl | rfl <;> decide) (fun t h => by rcases h with rfl | rfl <;> decide) hc ht hb
theorem still_R {w w' : World} {cr : Nat} {P hit miss : Int} {LV : Value} {M : List Th} (hc : RC w cr P hit miss LV M) (hk : Kept (BR cr LV) w w') : Still w w' :=
  hk.still fun k cs t ht hb h => by
    rcases h with rfl | h
    · exact types_ne hc.blk hb (by rcases ht with rfl | rfl <;> decide) rfl
    · rcases hc.own.2 with ⟨rfl, _⟩ | ⟨g, cap, cur, rfl, _, hg, _⟩
      · simp [Value.ownBlock] at h
      · have : g = k := by simpa [Value.ownBlock] using h
        subst this
        exact types_ne hg hb (by rcases ht with rfl | rfl <;> decide) rfl
section
variable {w : World} {a : Ob} {u v : List Th} {e : Th}
theorem A_get_some_s (h : isA w a) (hM : a.M = u ++ e :: v) : Calls Try.prog 10 #[.pointer (some ⟨a.p, 0, none⟩), .int .i64 e.n] w fun r w' =>
    r = .returned (.tuple #[.int .i64 e.x, .bool true]) ∧ Still w w' ∧ isA w' ⟨a.p, a.P, wrap64 (a.hit + 1), a.miss, u ++ v ++ [e], Gr a.F w w'⟩ ∧ Kept a.F w w' := by
  obtain ⟨mb, L, hc, hL, hF, hb⟩ := h
  obtain ⟨Lu, le, Lv, rfl, h1, ⟨hn, hx, hp⟩, h2⟩ := splitA hL hM
  rw [← hn]
  refine (get_some hc hx).mono ?_
  rintro r w' ⟨rfl, hc', hk⟩
  refine ⟨by rw [hx], still_A hc hk, isA_mk hc' ?_ hk hF hb fun k h => .inl (bl_sub (fun b hb => ?_) h)⟩
  · simp only [List.map_append, List.map_cons, List.map_nil, h1, h2, keyE, keyA, hn, hx, hp]
  · simp only [List.map_append, List.map_cons, List.map_nil, List.mem_append, List.mem_cons, List.not_mem_nil, or_false] at hb ⊢
    rcases hb with (hb | hb) | hb <;> simp [hb]
theorem A_put_found_s (h : isA w a) (hM : a.M = u ++ e :: v) (x : Int) : Calls Try.prog 11 #[.pointer (some ⟨a.p, 0, none⟩), .int .i64 e.n, .int .i64 x] w fun r w' =>
    r = .returned (.tuple #[.int .i64 0, .bool false]) ∧ Still w w' ∧ isA w' ⟨a.p, a.P, a.hit, a.miss, u ++ v ++ [{ e with x := x }], Gr a.F w w'⟩ ∧ Kept a.F w w' := by
  obtain ⟨mb, L, hc, hL, hF, hb⟩ := h
  obtain ⟨Lu, le, Lv, rfl, h1, ⟨hn, hx, hp⟩, h2⟩ := splitA hL hM
  rw [← hn]
  refine (put_found hc x).mono ?_
  rintro r w' ⟨rfl, hc', hk⟩
  refine ⟨rfl, still_A hc hk, isA_mk hc' ?_ hk hF hb fun k h => .inl (bl_sub (fun b hb => ?_) h)⟩
  · simp only [List.map_append, List.map_cons, List.map_nil, h1, h2, keyE, keyA, hn, hp]
  · simp only [List.map_append, List.map_cons, List.map_nil, List.mem_append, List.mem_cons, List.not_mem_nil, or_false] at hb ⊢
    rcases hb with (hb | hb) | hb <;> simp [hb]
theorem L_get_some_s (h : isL w a) (hM : a.M = u ++ e :: v) : Calls Try.prog 26 #[.pointer (some ⟨a.p, 0, none⟩), .int .i64 e.n] w fun r w' =>
    ∃ q, r = .returned (.tuple #[.slice (some ⟨q, 0, none⟩) 1 1, .bool true]) ∧ Still w w' ∧ isLb w' ⟨a.p, a.P, wrap64 (a.hit + 1), a.miss, u ++ v ++ [e], Gr (fun k => a.F k ∨ False) w w'⟩ q ∧ Kept a.F w w' ∧ Blk w' q 3 #[.int .i64 e.x] ∧ a.F q := by
  obtain ⟨mb, L, Z, c⟩ := h
  have cc := c
  obtain ⟨hc, hkey, hmod, hval, hnd, hbl, hlt⟩ := c
  obtain ⟨Zu, q, Zv, Lu, le, Lv, rfl, rfl, z1, z2, k1, k2, hn, hx, hp⟩ := splitL hkey hmod hM
  rw [← hn]
  refine (Sl.get_some hc hx).mono ?_
  rintro r w' ⟨rfl, hc', hk⟩
  have hq := hval (e, q) (by simp)
  obtain ⟨r1, r2⟩ := cc.mk' (fun _ => False) (fun _ h => h.elim) hc' hk (fun k h => .inl (bl_sub (fun b hb => by
    simp only [List.map_append, List.map_cons, List.map_nil, List.mem_append, List.mem_cons, List.not_mem_nil, or_false] at hb ⊢
    rcases hb with (hb | hb) | hb <;> simp [hb]) h)) (Z' := Zu ++ Zv ++ [(e, q)]) (by
    simp only [List.map_append, List.map_cons, List.map_nil, k1, k2, keyE, keyL, hn, hx, hp]) (M' := u ++ v ++ [e]) (by simp only [List.map_append, List.map_cons, List.map_nil, z1, z2]) (fun z hz => by
    have hz' : z ∈ Zu ++ (e, q) :: Zv := by
      simp only [List.mem_append, List.mem_cons, List.not_mem_nil, or_false] at hz ⊢
      rcases hz with (hz | hz) | hz <;> simp [hz]
    exact ⟨(hval z hz').1, .inl (hval z hz').2⟩) (nodup_move _ Zu Zv (e, q) hnd)
  exact ⟨q, by rw [hx], still_L cc.ca hk, ⟨mb, _, Zu ++ Zv, e, r1⟩, r2, hq.1.kept hk (notVal cc.ca hq.1), hq.2⟩
theorem L_put_found_s (h : isL w a) (hM : a.M = u ++ e :: v) (x : Int) (q : Nat) (hq : Blk w q 3 #[.int .i64 x]) (hF : ¬ a.F q) : Calls Try.prog 36 #[.pointer (some ⟨a.p, 0, none⟩), .int .i64 e.n, .slice (some ⟨q, 0, none⟩) 1 1] w fun r w' =>
    r = .returned (.tuple #[.int .i64 0, .bool false]) ∧ Still w w' ∧ isL w' ⟨a.p, a.P, a.hit, a.miss, u ++ v ++ [{ e with x := x }], Gr (fun k => a.F k ∨ k = q) w w'⟩ ∧ Kept a.F w w' := by
  obtain ⟨mb, L, Z, c⟩ := h
  have cc := c
  obtain ⟨hc, hkey, hmod, hval, hnd, hbl, hlt⟩ := c
  obtain ⟨Zu, q0, Zv, Lu, le, Lv, rfl, rfl, z1, z2, k1, k2, hn, hx, hp⟩ := splitL hkey hmod hM
  have hcall := Sl.put_found hc (some ⟨q, 0, none⟩) 1 1
  rw [hn] at hcall
  refine hcall.mono ?_
  rintro r w' ⟨rfl, hc', hk⟩
  have hsub : ∀ z ∈ Zu ++ Zv, z ∈ Zu ++ (e, q0) :: Zv := fun z hz => by rcases List.mem_append.1 hz with h | h <;> simp [h]
  obtain ⟨r1, r2⟩ := cc.mk' (fun k => k = q) (fun k h => by rw [h]; exact hq.lt) hc' hk (fun k h => .inl (bl_sub (fun b hb => by
    simp only [List.map_append, List.map_cons, List.map_nil, List.mem_append, List.mem_cons, List.not_mem_nil, or_false] at hb ⊢
    rcases hb with (hb | hb) | hb <;> simp [hb]) h)) (Z' := Zu ++ Zv ++ [({ e with x := x }, q)]) (by
    simp only [List.map_append, List.map_cons, List.map_nil, k1, k2, keyE, keyL, hn, hp]) (M' := u ++ v ++ [{ e with x := x }]) (by simp only [List.map_append, List.map_cons, List.map_nil, z1, z2]) (fun z hz => by
    rcases List.mem_append.1 hz with hz | hz
    · exact ⟨(hval z (hsub z hz)).1, .inl (hval z (hsub z hz)).2⟩
    · rw [List.mem_singleton.1 hz]
      exact ⟨hq, .inr rfl⟩) (snd_snoc (snd_sub hnd) fun z hz e => hF (by rw [← e]; exact (hval z (hsub z hz)).2))
  exact ⟨rfl, still_L cc.ca hk, ⟨mb, _, _, r1⟩, r2⟩
theorem R_get_some_s (h : isR w a) (hM : a.M = u ++ e :: v) (hu : ∀ y ∈ u, y.n ≠ e.n) (hl : a.M.length ≤ 65536) : Calls Try.prog 27 #[.pointer (some ⟨a.p, 0, none⟩), .int .i64 e.n] w fun r w' =>
    r = .returned (.tuple #[.int .i64 e.x, .bool true]) ∧ Still w w' ∧ isR w' ⟨a.p, a.P, wrap64 (a.hit + 1), a.miss, u ++ v ++ [e], Gr a.F w w'⟩ ∧ Kept a.F w w' := by
  obtain ⟨LV, hc, hF, hb⟩ := h
  rw [hM] at hc hl
  refine (rget_some hc hu (by omega)).mono ?_
  rintro r w' ⟨rfl, LV', hc', hk, hn⟩
  exact ⟨rfl, still_R hc hk, isR_mk hc' hk hF hb hn⟩
theorem R_put_found_s (h : isR w a) (hM : a.M = u ++ e :: v) (hu : ∀ y ∈ u, y.n ≠ e.n) (hl : a.M.length ≤ 65536) (x : Int) : Calls Try.prog 37 #[.pointer (some ⟨a.p, 0, none⟩), .int .i64 e.n, .int .i64 x] w fun r w' =>
    r = .returned (.tuple #[.int .i64 0, .bool false]) ∧ Still w w' ∧ isR w' ⟨a.p, a.P, a.hit, a.miss, u ++ v ++ [{ e with x := x }], Gr a.F w w'⟩ ∧ Kept a.F w w' := by
  obtain ⟨LV, hc, hF, hb⟩ := h
  rw [hM] at hc hl
  refine (rput_found hc hu (by omega) x).mono ?_
  rintro r w' ⟨rfl, LV', hc', hk, hn⟩
  exact ⟨rfl, still_R hc hk, isR_mk hc' hk hF hb hn⟩
end
/-- what an object holds -/
def Is (o : Ob) (P hit miss : Int) (M : List Th) : Prop := o.P = P ∧ o.hit = hit ∧ o.miss = miss ∧ o.M = M
/-- all triples but one agree -/
def GoodBut (N steps i : Nat) (ob : Nat → Nat → Ob) : Prop :=
  ∀ j, j < N → j ≠ i → ∃ P hit miss M, Ok3 ob j P hit miss M ∧ 1 ≤ P ∧ P ≤ 65536 ∧ (M.length : Int) ≤ P ∧ ∀ t ∈ M, 0 ≤ t.p ∧ t.p ≤ steps
theorem Good.but {N steps i : Nat} {ob : Nat → Nat → Ob} (h : Good N steps ob) : GoodBut N steps i ob := fun j hj _ => h.ok j hj
theorem Good.to {N s s' : Nat} {ob : Nat → Nat → Ob} (h : Good N s ob) (hs : s ≤ s') : Good N s' ob := ⟨fun j hj => by
  obtain ⟨P, hit, miss, M, a, b, c, d, f⟩ := h.ok j hj
  exact ⟨P, hit, miss, M, a, b, c, d, fun t ht => ⟨(f t ht).1, by have := (f t ht).2; omega⟩⟩⟩
theorem GoodBut.set {N steps i : Nat} {ob : Nat → Nat → Ob} (h : GoodBut N steps i ob) {P hit miss : Int} {M : List Th} (ok : Ok3 ob i P hit miss M) (h1 : 1 ≤ P) (h2 : P ≤ 65536) (h3 : (M.length : Int) ≤ P) (h4 : ∀ t ∈ M, 0 ≤ t.p ∧ t.p ≤ ((steps + 1 : Nat) : Int)) : Good N (steps + 1) ob := ⟨fun j hj => by
  by_cases e : j = i
  · subst e
    exact ⟨P, hit, miss, M, ok, h1, h2, h3, h4⟩
  · obtain ⟨P, hit, miss, M, a, b, c, d, f⟩ := h j hj e
    exact ⟨P, hit, miss, M, a, b, c, d, fun t ht => ⟨(f t ht).1, by have := (f t ht).2; omega⟩⟩⟩
theorem GoodBut.up {N steps i : Nat} {ob : Nat → Nat → Ob} (h : GoodBut N steps i ob) (K : Nat) (o : Ob) : GoodBut N steps i (upO ob K i o) := fun j hj e => by
  obtain ⟨P, hit, miss, M, a, b⟩ := h j hj e
  refine ⟨P, hit, miss, M, fun K' hK' => ?_, b⟩
  rw [upO_other _ _ _ _ _ _ (.inr e)]
  exact a K' hK'
theorem Md.goodBut {B gw N steps : Nat} {w w0 : World} {pt : Nat → Nat → Nat} {CV LV RV OV WV : Value} {rs ws : List Row} {ob : Nat → Nat → Ob} {i : Nat} {oA oL oR : Ob} (m : Md B w0 w gw N pt CV LV RV OV WV rs ws (upO (upO (upO ob 0 i oA) 1 i oL) 2 i oR)) (hg : GoodBut N steps i ob) (P hit miss : Int) (M : List Th)
    (hA : oA.P = P ∧ oA.hit = hit ∧ oA.miss = miss ∧ oA.M = M) (hL : oL.P = P ∧ oL.hit = hit ∧ oL.miss = miss ∧ oL.M = M) (hR : oR.P = P ∧ oR.hit = hit ∧ oR.miss = miss ∧ oR.M = M)
    (h1 : 1 ≤ P) (h2 : P ≤ 65536) (h3 : (M.length : Int) ≤ P) (h4 : ∀ t ∈ M, 0 ≤ t.p ∧ t.p ≤ ((steps + 1 : Nat) : Int)) : Md B w0 w gw N pt CV LV RV OV WV rs ws (upO (upO (upO ob 0 i oA) 1 i oL) 2 i oR) ∧ Good N (steps + 1) (upO (upO (upO ob 0 i oA) 1 i oL) 2 i oR) := by
  refine ⟨m, (((hg.up 0 oA).up 1 oL).up 2 oR).set (P := P) (hit := hit) (miss := miss) (M := M) (fun K hK => ?_) h1 h2 h3 h4⟩
  match K, hK with
  | 0, _ => rw [upO_other _ _ _ _ _ _ (.inl (by decide)), upO_other _ _ _ _ _ _ (.inl (by decide)), upO_same]; exact hA
  | 1, _ => rw [upO_other _ _ _ _ _ _ (.inl (by decide)), upO_same]; exact hL
  | 2, _ => rw [upO_same]; exact hR
section
variable {B gw N : Nat} {w w' w0 : World} {pt : Nat → Nat → Nat} {CV LV RV OV WV : Value} {rs ws : List Row} {ob : Nat → Nat → Ob}
/-- one object has turned -/
theorem Md.go {K i steps : Nat} (h : Md B w0 w gw N pt CV LV RV OV WV rs ws ob) (g : GoodBut N steps i ob) (hK : K < 3) (hi : i < N) {o' : Ob} (ho : isK K w' o') (hp : o'.p = (ob K i).p) (hk : Kept (ob K i).F w w') (hnw : Nw (ob K i).F o'.F w) :
    ∃ ob', Md B w0 w' gw N pt CV LV RV OV WV rs ws ob' ∧ GoodBut N steps i ob' ∧ ob' K i = o' ∧ ∀ K', K' ≠ K → ob' K' i = ob K' i :=
  ⟨_, h.step hK hi ho (hp.trans (h.pts K i hK hi)) hk hnw, g.up K o', upO_same _ _ _ _, fun K' e => upO_other _ _ _ _ _ _ (.inl e)⟩
end
set_option maxHeartbeats 2000000 in
set_option maxRecDepth 100000 in
theorem puts_turn {B gw N steps i : Nat} {w w0 : World} {pt : Nat → Nat → Nat} {CV LV RV OV WV : Value} {rs ws : List Row} {ob : Nat → Nat → Ob} {P hit miss : Int} {u v : List Th} {e e2 : Th} (x : Int) (h : Md B w0 w gw N pt CV LV RV OV WV rs ws ob) (hg : GoodBut N steps i ob) (hi : i < N) (oA : Is (ob 0 i) P hit miss (u ++ e :: v)) (oL : Is (ob 1 i) P hit miss (u ++ e2 :: v)) (oR : Is (ob 2 i) P hit miss (u ++ e :: v)) (hen : e2.n = e.n) (hep : e2.p = e.p) (h1 : 1 ≤ P) (h2 : P ≤ 65536) (h3 : (((u ++ e :: v)).length : Int) ≤ P) (h4 : ∀ t ∈ (u ++ e :: v), 0 ≤ t.p ∧ t.p ≤ steps) :
    Calls Try.prog 24 #[.pointer (some ⟨gw, 0, none⟩), .int .i64 (i : Int), .int .i64 e.n, .int .i64 x] w fun r w' => r = .returned (.bool true) ∧ Still w w' ∧ ∃ ob', Md B w0 w' gw N pt CV LV RV OV WV rs ws ob' ∧ Good N (steps + 1) ob' := by
  obtain ⟨g0, c0, g1, c1, g2, c2, rfl, rfl, rfl⟩ := h.wo.three hi
  obtain ⟨oA1, oA2, oA3, oA4⟩ := oA
  obtain ⟨oL1, oL2, oL3, oL4⟩ := oL
  obtain ⟨oR1, oR2, oR3, oR4⟩ := oR
  have ptA := h.pts 0 i (by decide) hi
  have ptL := h.pts 1 i (by decide) hi
  have ptR := h.pts 2 i (by decide) hi
  have H := Lib.hid h
  have OK := Lib.hid (And.intro (And.intro oA1 (And.intro oA2 (And.intro oA3 oA4))) (And.intro (And.intro oL1 (And.intro oL2 (And.intro oL3 oL4))) (And.intro oR1 (And.intro oR2 (And.intro oR3 oR4)))))
  have PT := Lib.hid (And.intro ptA (And.intro ptL ptR))
  have hi63 : (i : Int) < (N : Int) := by omega
  have nd := (h.sys.ok 0 i (by decide) hi : isA w (ob 0 i)).nodup
  rw [oA4] at nd
  have ND := Lib.hid nd
  have HE := Lib.hid (And.intro hen hep)
  have LEN := Lib.hid (show ((u ++ e :: v)).length ≤ 65536 by omega)
  have HG := Lib.hid (And.intro hg (And.intro h1 (And.intro h2 (And.intro h3 h4))))
  have HA := Lib.hid (A_put_found_s (h.sys.ok 0 i (by decide) hi) oA4 x)
  rw [ptA] at HA
  obtain ⟨s0, s1⟩ := h.wo.at0 hi
  clear h hg hen hep h4 oA1 oA2 oA3 oA4 oL1 oL2 oL3 oL4 oR1 oR2 oR3 oR4 ptA ptL ptR nd 
  go_enter Try.func24, Try.ntmps24
  go_wp2_with fail
  refine HA.out.mono ?_
  rintro r w1 ⟨rfl, t1, a1, k1⟩
  have m1 := H.out.step2 (K := 0) (by decide) hi rfl (a1 : isK 0 w1 _) rfl k1 (gr_nw _ _ _)
  have M1 := Lib.hid m1
  have T1 := Lib.hid (t1.trans (Still.alloc w1 (.cells #[.int .i64 x] 3)))
  clear t1
  obtain ⟨s2, s3⟩ := m1.wo.at1 hi
  have x1 : isL w1 (ob 1 i) := m1.get (K := 1) (by decide) hi (e10 _ _ _)
  have X1 := Lib.hid x1
  clear a1 k1 m1 x1 s0 s1 HA
  have XX := Lib.hid (show isL (w1.alloc (.cells #[.int .i64 x] 3)) (ob 1 i) from X1.out.kept (S := fun _ => False) ((Kept.refl _ _).alloc _) fun _ _ e => e)
  have HL := Lib.hid (L_put_found_s XX.out OK.out.2.1.2.2.2 x w1.heap.size (Blk.new w1 3 #[.int .i64 x]) (fun f => Nat.lt_irrefl _ (X1.out.lt _ f)))
  rw [PT.out.2.1, HE.out.1, HE.out.2] at HL
  go_wp2_with fail
  refine HL.out.mono ?_
  rintro r w2 ⟨rfl, t2, a2, k2⟩
  have m2 := M1.out.step2 (K := 1) (by decide) hi (e10 _ _ _) (a2 : isK 1 w2 _) rfl (((Kept.refl (ob 1 i).F w1).alloc (.cells #[.int .i64 x] 3)).trans k2) (gr3_nw _ _ _ _ _ (Nat.le_refl _) (by simp))
  have M2 := Lib.hid m2
  have T2 := Lib.hid (T1.out.trans t2)
  clear t2
  obtain ⟨s4, s5⟩ := m2.wo.at2 hi
  have x2 : isR w2 (ob 2 i) := m2.get (K := 2) (by decide) hi (e20 _ _ _ _)
  have HR := Lib.hid (R_put_found_s x2 OK.out.2.2.2.2.2 (nodup_before ND.out.1) (by rw [OK.out.2.2.2.2.2]; exact LEN.out) x)
  rw [PT.out.2.2] at HR
  clear a2 m2 x2 s2 s3 HL k2 XX
  go_wp2_with fail
  refine HR.out.mono ?_
  rintro r w3 ⟨rfl, t3, a3, k3⟩
  have m3 := M2.out.step2 (K := 2) (by decide) hi (e20 _ _ _ _) (a3 : isK 2 w3 _) rfl k3 (gr_nw _ _ _)
  have M3 := Lib.hid (m3.goodBut HG.out.1 P (hit) (miss) (u ++ v ++ [{ e with x := x }]) ⟨OK.out.1.1, OK.out.1.2.1, OK.out.1.2.2.1, rfl⟩ ⟨OK.out.2.1.1, OK.out.2.1.2.1, OK.out.2.1.2.2.1, rfl⟩ ⟨OK.out.2.2.1, OK.out.2.2.2.1, OK.out.2.2.2.2.1, rfl⟩ h1 h2 (by have := h3; simp at this ⊢; omega) (pins_move HG.out.2.2.2.2 rfl))
  have T3 := Lib.hid (T2.out.trans t3)
  clear t3
  clear a3 k3 m3 s4 s5 HR
  go_wp2_with fail
  go_ret
  exact ⟨rfl, T3.out, _, M3.out⟩
theorem first_zero : ∀ M : List Th, (∀ t ∈ M, 0 ≤ t.p) → (∃ u e v, M = u ++ e :: v ∧ (∀ y ∈ u, 0 < y.p) ∧ e.p = 0) ∨ ∀ y ∈ M, 0 < y.p
  | [], _ => .inr fun y hy => by cases hy
  | t :: M, h => by
    by_cases h0 : t.p = 0
    · exact .inl ⟨[], t, M, rfl, (fun y hy => by cases hy), h0⟩
    · have ht : 0 < t.p := by
        have := h t (by simp)
        omega
      rcases first_zero M fun y hy => h y (by simp [hy]) with ⟨u, e, v, rfl, hu, he⟩ | hno
      · refine .inl ⟨t :: u, e, v, rfl, fun y hy => ?_, he⟩
        rcases List.mem_cons.1 hy with rfl | hy
        · exact ht
        · exact hu y hy
      · refine .inr fun y hy => ?_
        rcases List.mem_cons.1 hy with rfl | hy
        · exact ht
        · exact hno y hy
theorem gets_any {B gw N steps i : Nat} {w w0 : World} {pt : Nat → Nat → Nat} {CV LV RV OV WV : Value} {rs ws : List Row} {ob : Nat → Nat → Ob} (h : Md B w0 w gw N pt CV LV RV OV WV rs ws ob) (hg : Good N steps ob) (hi : i < N) (n : Int) (hn : Wf n) : Calls Try.prog 23 #[.pointer (some ⟨gw, 0, none⟩), .int .i64 (i : Int), .int .i64 n] w fun r w' => r = .returned (.bool true) ∧ ∃ ob', Md B w0 w' gw N pt CV LV RV OV WV rs ws ob' ∧ Good N (steps + 1) ob' := by
  obtain ⟨P, hit, miss, M, ok, h1, h2, h3, h4⟩ := hg.ok i hi
  rcases split_or M n with ⟨u, e, v, rfl, rfl, -⟩ | hno
  · exact gets_some h hg hi ok h1 h2 h3 h4
  · exact gets_none h hg hi ok h1 h2 h3 h4 hn hno
theorem puts_any {B gw N steps i : Nat} {w w0 : World} {pt : Nat → Nat → Nat} {CV LV RV OV WV : Value} {rs ws : List Row} {ob : Nat → Nat → Ob} (h : Md B w0 w gw N pt CV LV RV OV WV rs ws ob) (hg : Good N steps ob) (hi : i < N) (n x : Int) (hn : Wf n) : Calls Try.prog 24 #[.pointer (some ⟨gw, 0, none⟩), .int .i64 (i : Int), .int .i64 n, .int .i64 x] w fun r w' => r = .returned (.bool true) ∧ ∃ ob', Md B w0 w' gw N pt CV LV RV OV WV rs ws ob' ∧ Good N (steps + 1) ob' := by
  obtain ⟨P, hit, miss, M, ok, h1, h2, h3, h4⟩ := hg.ok i hi
  rcases split_or M n with ⟨u, e, v, rfl, rfl, -⟩ | hno
  · exact puts_found x h hg hi ok h1 h2 h3 h4
  · by_cases hr : (M.length : Int) < P
    · exact puts_room x h hg hi ok h1 h2 h3 h4 hn hno hr
    · rcases first_zero M fun t ht => (h4 t ht).1 with ⟨u, e, v, rfl, hu, he⟩ | hu
      · exact puts_full x h hg hi ok h1 h2 h3 h4 hn hno (by omega) hu he
      · exact puts_held x h hg hi ok h1 h2 h3 h4 hn hno (by omega) hu
theorem held_any {B gw N steps i : Nat} {w w0 : World} {pt : Nat → Nat → Nat} {CV LV RV OV WV : Value} {rs ws : List Row} {ob : Nat → Nat → Ob} (h : Md B w0 w gw N pt CV LV RV OV WV rs ws ob) (hg : Good N steps ob) (hi : i < N) (hst : steps ≤ 4611686018427387904) (k n : Int) (hk : k = 4 ∨ k = 5 ∨ k = 6) (hn : Wf n) : Calls Try.prog 25 #[.pointer (some ⟨gw, 0, none⟩), .int .i64 k, .int .i64 (i : Int), .int .i64 n] w fun r w' => r = .returned (.bool true) ∧ ∃ ob', Md B w0 w' gw N pt CV LV RV OV WV rs ws ob' ∧ Good N (steps + 1) ob' := by
  obtain ⟨P, hit, miss, M, ok, h1, h2, h3, h4⟩ := hg.ok i hi
  rcases hk with rfl | rfl | rfl
  · rcases split_or M n with ⟨u, e, v, rfl, rfl, -⟩ | hno
    · exact drop_in h hg hi ok h1 h2 h3 h4
    · exact drop_out h hg hi ok h2 h3 hn hno
  · rcases split_or M n with ⟨u, e, v, rfl, rfl, -⟩ | hno
    · exact pin_in h hg hi ok h1 h2 h3 h4 hst
    · exact pin_out h hg hi ok h2 h3 hn hno
  · rcases split_or M n with ⟨u, e, v, rfl, rfl, -⟩ | hno
    · by_cases he : e.p = 0
      · exact unpin_zero_ h hg hi ok h2 h3 he
      · exact unpin_in h hg hi ok h1 h2 h3 h4 hst he
    · exact unpin_out h hg hi ok h2 h3 hn hno
end Go.Proofs.Ytghakgepchlpgaa
