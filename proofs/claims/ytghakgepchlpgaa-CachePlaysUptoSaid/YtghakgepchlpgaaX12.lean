/- THE WALK of the world's step: the turn. -/
import Derived.Test.YtghakgepchlpgaaX11
namespace Go.Proofs.Ytghakgepchlpgaa
open Go.RowKit Go.Maps
section
variable {w : World} {a : Ob} {u v : List Th} {e : Th}
theorem A_get_none_s (h : isA w a) (n : Int) (hn : Wf n) (hno : ∀ y ∈ a.M, y.n ≠ n) : Calls Try.prog 10 #[.pointer (some ⟨a.p, 0, none⟩), .int .i64 n] w fun r w' =>
    r = .returned (.tuple #[.int .i64 0, .bool false]) ∧ Still w w' ∧ isA w' ⟨a.p, a.P, a.hit, wrap64 (a.miss + 1), a.M, Gr a.F w w'⟩ ∧ Kept a.F w w' := by
  obtain ⟨mb, L, hc, hL, hF, hb⟩ := h
  refine (get_none hc n hn (noA hL hno)).mono ?_
  rintro r w' ⟨rfl, hc', hk⟩
  exact ⟨rfl, still_A hc hk, isA_mk hc' hL hk hF hb fun k h => .inl h⟩
theorem L_get_none_s (h : isL w a) (n : Int) (hn : Wf n) (hno : ∀ y ∈ a.M, y.n ≠ n) : Calls Try.prog 26 #[.pointer (some ⟨a.p, 0, none⟩), .int .i64 n] w fun r w' =>
    r = .returned (.tuple #[.slice none 0 0, .bool false]) ∧ Still w w' ∧ isL w' ⟨a.p, a.P, a.hit, wrap64 (a.miss + 1), a.M, Gr (fun k => a.F k ∨ False) w w'⟩ ∧ Kept a.F w w' := by
  obtain ⟨mb, L, Z, c⟩ := h
  refine (Sl.get_none c.ca n hn (noL c.key c.mod hno)).mono ?_
  rintro r w' ⟨rfl, hc', hk⟩
  obtain ⟨r1, r2⟩ := c.mk' (fun _ => False) (fun _ h => h.elim) hc' hk (fun k h => .inl h) c.key c.mod (fun z hz => ⟨(c.val z hz).1, .inl (c.val z hz).2⟩) c.nd
  exact ⟨rfl, still_L c.ca hk, ⟨mb, _, _, r1⟩, r2⟩
theorem R_get_none_s (h : isR w a) (n : Int) (hno : ∀ y ∈ a.M, y.n ≠ n) (hl : a.M.length ≤ 65536) : Calls Try.prog 27 #[.pointer (some ⟨a.p, 0, none⟩), .int .i64 n] w fun r w' =>
    r = .returned (.tuple #[.int .i64 0, .bool false]) ∧ Still w w' ∧ isR w' ⟨a.p, a.P, a.hit, wrap64 (a.miss + 1), a.M, Gr a.F w w'⟩ ∧ Kept a.F w w' := by
  obtain ⟨LV, hc, hF, hb⟩ := h
  refine (rget_none hc n hno (by omega)).mono ?_
  rintro r w' ⟨rfl, hc', hk⟩
  exact ⟨rfl, still_R hc hk, isR_mk hc' hk hF hb fun k h => .inl h⟩
end
theorem is_get {o : Ob} {p : Nat} {P hit miss : Int} {M M' : List Th} {F : Nat → Prop} (h : Is o P hit miss M) : Is ⟨p, o.P, wrap64 (o.hit + 1), o.miss, M', F⟩ P (wrap64 (hit + 1)) miss M' :=
  ⟨h.1, congrArg (fun z => wrap64 (z + 1)) h.2.1, h.2.2.1, rfl⟩
theorem is_miss {o : Ob} {p : Nat} {P hit miss : Int} {M : List Th} {F : Nat → Prop} (h : Is o P hit miss M) : Is ⟨p, o.P, o.hit, wrap64 (o.miss + 1), o.M, F⟩ P hit (wrap64 (miss + 1)) M :=
  ⟨h.1, h.2.1, congrArg (fun z => wrap64 (z + 1)) h.2.2.1, h.2.2.2⟩
theorem is_lay {o : Ob} {P hit miss : Int} {M M' : List Th} (h : Is o P hit miss M) : Is { o with M := M' } P hit miss M' := ⟨h.1, h.2.1, h.2.2.1, rfl⟩
theorem nd_of {w : World} {o : Ob} {P hit miss : Int} {u v : List Th} {e : Th} (h : isA w o) (hs : Is o P hit miss (u ++ e :: v)) : ∀ y ∈ u, y.n ≠ e.n := by
  have := h.nodup.1
  rw [hs.2.2.2] at this
  exact nodup_before this
set_option maxHeartbeats 4000000 in
set_option maxRecDepth 100000 in
theorem step_turn_none {B gw N steps : Nat} {w w0 : World} {pt : Nat → Nat → Nat} {CV LV RV OV WV : Value} {rs ws : List Row} {ob : Nat → Nat → Ob} (h : Md B w0 w gw N pt CV LV RV OV WV rs ws ob) (hg : Good N steps ob) (hN : N ≤ 30) (on n x : Int) {i : Nat} (hi : i < N) (hp : pickN on (N : Int) = (i : Int)) (ho : -9223372036854775808 ≤ on ∧ on ≤ 9223372036854775807) {P hit miss : Int} {M : List Th} (ok : Ok3 ob i P hit miss M) (h1 : 1 ≤ P) (h2 : P ≤ 65536) (h3 : (M.length : Int) ≤ P) (h4 : ∀ t ∈ M, 0 ≤ t.p ∧ t.p ≤ (steps : Int)) (hn : Wf n) (hno : ∀ y ∈ M, y.n ≠ n) :
    Calls Try.prog 16 #[.pointer (some ⟨gw, 0, none⟩), .agg #[.int .i64 8, .int .i64 on, .int .i64 n, .int .i64 x]] w fun r w' => r = .returned (.bool true) ∧ StepOut B w0 w' gw steps rs.length := by
  have HM := Lib.hid (And.intro h1 (And.intro h2 (And.intro h3 (And.intro h4 (And.intro hn hno)))))
  obtain ⟨g0, c0, g1, c1, g2, c2, rfl, rfl, rfl⟩ := h.wo.three hi
  have d1 := h.frame (w' := w.alloc (.cells #[.int .i64 8, .int .i64 on, .int .i64 n, .int .i64 x] 51)) (S := fun _ => False) ((Kept.refl _ w).alloc _) fun _ _ e => e
  have b1 : Blk (w.alloc (.cells #[.int .i64 8, .int .i64 on, .int .i64 n, .int .i64 x] 51)) w.heap.size 51 #[.int .i64 8, .int .i64 on, .int .i64 n, .int .i64 x] := Blk.new w 51 _
  have s0 : (w.alloc (.cells #[.int .i64 8, .int .i64 on, .int .i64 n, .int .i64 x] 51)).cell? ⟨gw, 0, none⟩ = some (.slice (some ⟨g0, 0, none⟩) N c0) := d1.wo.blk.cell 0
  have t0 := b1.cell 0
  have t1 := b1.cell 1
  have t2 := b1.cell 2
  have t3 := b1.cell 3
  simp only [List.getElem?_toArray, List.getElem?_cons_zero, List.getElem?_cons_succ] at t0 t1 t2 t3
  have M1 := Lib.hid (And.intro d1 b1)
  have HG := Lib.hid (hg.but (i := i))
  have I2 := Lib.hid (And.intro (show Is (ob 0 i) _ _ _ _ from ok 0 (by decide)) (And.intro (show Is (ob 1 i) _ _ _ _ from ok 1 (by decide)) (show Is (ob 2 i) _ _ _ _ from ok 2 (by decide))))
  have HNN := Lib.hid (And.intro hN hi)
  have HP := Lib.hid (pick_any on (N : Int) (by omega))
  rw [hp] at HP
  have HO := Lib.hid ho
  have hN0 : ((N : Int) == 0) = false := by simp; omega
  clear d1 b1 h hg hN ho ok h1 h2 h3 h4 hn hno
  go_enter Try.func16, Try.ntmps16
  go_upto_region 5 with fail
  have S0 := Lib.hid (And.intro s0 t1)
  clear s0 t0 t1 t2 t3
  generalize World.alloc w _ = w1 at S0 M1 ⊢
  obtain ⟨q, hq⟩ : ∃ q, q = w.heap.size := ⟨_, rfl⟩
  rw [← hq] at S0 M1 ⊢
  clear hq
  refine wp_region_held_drew (S := fun W' => W'.cell? ⟨gw, 0, none⟩ = some (.slice (some ⟨g0, 0, none⟩) N c0) ∧ W'.cell? ⟨q, 1, none⟩ = some (.int .i64 on)) (by kernel_rfl) (by exact S0.out) (fun hHeld => ?_)
  change wpAnyH _ _ _ _ _ _ _ _ w1.drew
  have S1 := Lib.hid (show w1.drew.cell? ⟨gw, 0, none⟩ = some (.slice (some ⟨g0, 0, none⟩) N c0) ∧ w1.drew.cell? ⟨q, 1, none⟩ = some (.int .i64 on) from S0.out)
  have d2 := M1.out.1.frame (w' := w1.drew) (S := fun _ => False) (Kept.refl _ _).drew fun _ _ e => e
  have b2 : Blk w1.drew q 51 #[.int .i64 8, .int .i64 on, .int .i64 n, .int .i64 x] := M1.out.2
  have M2 := Lib.hid (And.intro d2 b2)
  clear d2 b2 hHeld M1 S0
  generalize World.drew w1 = w2 at M2 S1 ⊢
  refine takeTo (i := 0) (v := ?_) (some 28) rfl rfl (by kernel_rfl) (by kernel_rfl) (by kernel_rfl) (fun _ _ _ h => h) (Or.inl ⟨by rfl, ?_⟩) (by assumption) ?_
  rotate_left
  · (intro W7 hSw; (try dsimp only at hSw); go_simp; try with_reducible rfl)
  try simp only [Act.put, List.setIfInBounds_toArray, List.set_cons_zero, List.set_cons_succ]
  refine takeTo (i := 1) (v := ?_) (some 29) rfl rfl (by kernel_rfl) (by kernel_rfl) (by kernel_rfl) (fun _ _ _ h => h) (Or.inl ⟨by rfl, ?_⟩) (by assumption) ?_
  rotate_left
  · (intro W7 hSw; (try dsimp only at hSw); go_simp; try with_reducible rfl)
  try simp only [Act.put, List.setIfInBounds_toArray, List.set_cons_zero, List.set_cons_succ]
  refine takeTo (i := 2) (v := ?_) (some 30) rfl rfl (by kernel_rfl) (by kernel_rfl) (by kernel_rfl) (fun _ _ _ h => h) (Or.inl ⟨by rfl, ?_⟩) (by assumption) ?_
  rotate_left
  · (intro W7 hSw; (try dsimp only at hSw); go_simp; try with_reducible rfl)
  try simp only [Act.put, List.setIfInBounds_toArray, List.set_cons_zero, List.set_cons_succ]
  refine takeTo (i := 3) (v := ?_) (some 31) rfl rfl (by kernel_rfl) (by kernel_rfl) (by kernel_rfl) (fun _ _ _ h => h) (Or.inl ⟨by rfl, ?_⟩) (by assumption) ?_
  rotate_left
  · (intro W7 hSw; (try dsimp only at hSw); go_simp; try with_reducible rfl)
  try simp only [Act.put, List.setIfInBounds_toArray, List.set_cons_zero, List.set_cons_succ]
  refine takeTo (i := 4) (v := ?_) (some 32) rfl rfl (by kernel_rfl) (by kernel_rfl) (by kernel_rfl) (fun _ _ _ h => h) (Or.inl ⟨by rfl, ?_⟩) (by assumption) ?_
  rotate_left
  · (intro W7 hSw; (try dsimp only at hSw); go_simp; try with_reducible rfl)
  try simp only [Act.put, List.setIfInBounds_toArray, List.set_cons_zero, List.set_cons_succ]
  refine takeTo (i := 5) (v := ?_) (some 33) rfl rfl (by kernel_rfl) (by kernel_rfl) (by kernel_rfl) (fun _ _ _ h => h) (Or.inl ⟨by rfl, ?_⟩) (by assumption) ?_
  rotate_left
  · (intro W7 hSw; (try dsimp only at hSw); go_simp; try with_reducible rfl)
  try simp only [Act.put, List.setIfInBounds_toArray, List.set_cons_zero, List.set_cons_succ]
  refine takeTo (i := 6) (v := ?_) (some 34) rfl rfl (by kernel_rfl) (by kernel_rfl) (by kernel_rfl) (fun _ _ _ h => h) (Or.inl ⟨by rfl, ?_⟩) (by assumption) ?_
  rotate_left
  · (intro W7 hSw; (try dsimp only at hSw); go_simp; try with_reducible rfl)
  try simp only [Act.put, List.setIfInBounds_toArray, List.set_cons_zero, List.set_cons_succ]
  refine wpAnyH_ready (rs := [7]) (by kernel_rfl) (by simp) ?_
  refine AllReadyH.cons rfl (fun K hK => ?_) AllReadyH.nil
  rw [if_pos (by rfl)]
  go_wp2_with fail
  refine (HP.out w2 HO.out.1 HO.out.2).mono ?_
  rintro r w' ⟨rfl, rfl⟩
  refine hK.out _ _ S1.out (fun hHeld => ?_)
  clear hK K
  try simp only [Act.put, List.setIfInBounds_toArray, List.set_cons_zero, List.set_cons_succ]
  refine takeTo (i := 8) (v := ?_) (some 5) rfl rfl (by kernel_rfl) (by kernel_rfl) (by kernel_rfl) (fun _ _ _ h => h) (Or.inl ⟨by rfl, ?_⟩) (by assumption) ?_
  rotate_left
  · (intro W7 hSw; (try dsimp only at hSw); go_simp; try with_reducible rfl)
  try simp only [Act.put, List.setIfInBounds_toArray, List.set_cons_zero, List.set_cons_succ]
  refine wpAnyH_done (by kernel_rfl) ?_ _
  clear S1
  have t0 := M2.out.2.cell 0
  have t2 := M2.out.2.cell 2
  have t3 := M2.out.2.cell 3
  simp only [List.getElem?_toArray, List.getElem?_cons_zero, List.getElem?_cons_succ] at t0 t2 t3
  have hi63 : (i : Int) < (N : Int) := by omega
  have M2x := Lib.hid (And.intro M2.out.1 (And.intro M2.out.2 HG.out))
  clear HG
  go_upto_region 18 with fail
  clear t0 t2 t3 M2
  have M2 := M2x
  clear M2x
  go_upto_region 18 with fail
  have d2 := M2.out.1.frame (w' := w2.drew) (S := fun _ => False) (Kept.refl _ _).drew fun _ _ e => e
  have b2 : Blk w2.drew q 51 #[.int .i64 8, .int .i64 on, .int .i64 n, .int .i64 x] := M2.out.2.1
  obtain ⟨sa, sb⟩ := d2.wo.at1 hi
  have sc : w2.drew.cell? ⟨q, 2, none⟩ = some (.int .i64 n) := b2.cell 2
  have S2 := Lib.hid (And.intro sa (And.intro sb sc))
  have V2 := Lib.hid (And.intro d2 (And.intro b2 M2.out.2.2))
  clear d2 b2 sa sb sc M2
  refine wp_region_held_drew (S := fun W' => W'.cell? ⟨gw, 1, none⟩ = some (.slice (some ⟨g1, 0, none⟩) N c1) ∧ W'.cell? ⟨g1, i, none⟩ = some (.pointer (some ⟨pt 1 i, 0, none⟩)) ∧ W'.cell? ⟨q, 2, none⟩ = some (.int .i64 n)) (by kernel_rfl) (by exact S2.out) (fun hHeld => ?_)
  change wpAnyH _ _ _ _ _ _ _ _ w2.drew
  generalize World.drew w2 = v2 at S2 V2  ⊢
  clear hHeld
  have HC := Lib.hid (L_get_none_s (V2.out.1.sys.ok 1 i (by decide) hi) n HM.out.2.2.2.2.1 (by rw [I2.out.2.1.2.2.2]; exact HM.out.2.2.2.2.2))
  rw [V2.out.1.pts 1 i (by decide) hi] at HC
  try dsimp only at HC
  refine takeTo (i := 0) (v := ?_) (some 73) rfl rfl (by kernel_rfl) (by kernel_rfl) (by kernel_rfl) (fun _ _ _ h => h) (Or.inl ⟨by rfl, ?_⟩) (by assumption) ?_
  rotate_left
  · (intro W7 hSw; (try dsimp only at hSw); go_simp; try with_reducible rfl)
  try simp only [Act.put, List.setIfInBounds_toArray, List.set_cons_zero, List.set_cons_succ]
  refine takeTo (i := 1) (v := ?_) (some 74) rfl rfl (by kernel_rfl) (by kernel_rfl) (by kernel_rfl) (fun _ _ _ h => h) (Or.inl ⟨by rfl, ?_⟩) (by assumption) ?_
  rotate_left
  · (intro W7 hSw; (try dsimp only at hSw); go_simp; try with_reducible rfl)
  try simp only [Act.put, List.setIfInBounds_toArray, List.set_cons_zero, List.set_cons_succ]
  refine takeTo (i := 2) (v := ?_) (some 75) rfl rfl (by kernel_rfl) (by kernel_rfl) (by kernel_rfl) (fun _ _ _ h => h) (Or.inl ⟨by rfl, ?_⟩) (by assumption) ?_
  rotate_left
  · (intro W7 hSw; (try dsimp only at hSw); go_simp; try with_reducible rfl)
  try simp only [Act.put, List.setIfInBounds_toArray, List.set_cons_zero, List.set_cons_succ]
  refine takeTo (i := 3) (v := ?_) (some 76) rfl rfl (by kernel_rfl) (by kernel_rfl) (by kernel_rfl) (fun _ _ _ h => h) (Or.inl ⟨by rfl, ?_⟩) (by assumption) ?_
  rotate_left
  · (intro W7 hSw; (try dsimp only at hSw); go_simp; try with_reducible rfl)
  try simp only [Act.put, List.setIfInBounds_toArray, List.set_cons_zero, List.set_cons_succ]
  refine takeTo (i := 4) (v := ?_) (some 77) rfl rfl (by kernel_rfl) (by kernel_rfl) (by kernel_rfl) (fun _ _ _ h => h) (Or.inl ⟨by rfl, ?_⟩) (by assumption) ?_
  rotate_left
  · (intro W7 hSw; (try dsimp only at hSw); go_simp; try with_reducible rfl)
  try simp only [Act.put, List.setIfInBounds_toArray, List.set_cons_zero, List.set_cons_succ]
  refine takeTo (i := 5) (v := ?_) (some 78) rfl rfl (by kernel_rfl) (by kernel_rfl) (by kernel_rfl) (fun _ _ _ h => h) (Or.inl ⟨by rfl, ?_⟩) (by assumption) ?_
  rotate_left
  · (intro W7 hSw; (try dsimp only at hSw); go_simp; try with_reducible rfl)
  try simp only [Act.put, List.setIfInBounds_toArray, List.set_cons_zero, List.set_cons_succ]
  refine takeTo (i := 6) (v := ?_) (some 79) rfl rfl (by kernel_rfl) (by kernel_rfl) (by kernel_rfl) (fun _ _ _ h => h) (Or.inl ⟨by rfl, ?_⟩) (by assumption) ?_
  rotate_left
  · (intro W7 hSw; (try dsimp only at hSw); go_simp; try with_reducible rfl)
  try simp only [Act.put, List.setIfInBounds_toArray, List.set_cons_zero, List.set_cons_succ]
  refine takeTo (i := 7) (v := ?_) (some 80) rfl rfl (by kernel_rfl) (by kernel_rfl) (by kernel_rfl) (fun _ _ _ h => h) (Or.inl ⟨by rfl, ?_⟩) (by assumption) ?_
  rotate_left
  · (intro W7 hSw; (try dsimp only at hSw); go_simp; try with_reducible rfl)
  try simp only [Act.put, List.setIfInBounds_toArray, List.set_cons_zero, List.set_cons_succ]
  refine takeTo (i := 8) (v := ?_) (some 81) rfl rfl (by kernel_rfl) (by kernel_rfl) (by kernel_rfl) (fun _ _ _ h => h) (Or.inl ⟨by rfl, ?_⟩) (by assumption) ?_
  rotate_left
  · (intro W7 hSw; (try dsimp only at hSw); go_simp; try with_reducible rfl)
  try simp only [Act.put, List.setIfInBounds_toArray, List.set_cons_zero, List.set_cons_succ]
  refine wpAnyH_ready (rs := [9]) (by kernel_rfl) (by simp) ?_
  refine AllReadyH.cons rfl (fun K hK => ?_) AllReadyH.nil
  rw [if_pos (by rfl)]
  go_wp2_with fail
  refine HC.out.mono ?_
  rintro r w3 ⟨rfl, t, a, k⟩
  obtain ⟨ob3, m', g', e', f'⟩ := V2.out.1.go V2.out.2.2 (K := 1) (by decide) hi (o' := _) (show isK 1 w3 _ from a) (V2.out.1.pts 1 i (by decide) hi).symm k (gr2_nw _ _ _)
  have M3 := Lib.hid (And.intro m' (And.intro (t _ _ 51 (.inr rfl) V2.out.2.1) g'))
  have I3 := Lib.hid (And.intro (show Is (ob3 0 i) _ _ _ _ by rw [f' 0 (by decide)]; exact I2.out.1) (And.intro (show Is (ob3 1 i) _ _ _ _ by rw [e']; exact is_miss I2.out.2.1) (show Is (ob3 2 i) _ _ _ _ by rw [f' 2 (by decide)]; exact I2.out.2.2)))
  clear m' g' e' f' a k t
  obtain ⟨sa, sb⟩ := M3.out.1.wo.at1 hi
  have sc : w3.cell? ⟨q, 2, none⟩ = some (.int .i64 n) := M3.out.2.1.cell 2
  have SS2 := Lib.hid (And.intro sa (And.intro sb sc))
  clear sa sb sc HC S2 V2 I2 
  refine hK.out _ _ SS2.out (fun hHeld => ?_)
  clear hK K
  try simp only [Act.put, List.setIfInBounds_toArray, List.set_cons_zero, List.set_cons_succ]
  clear SS2
  refine takeTo (i := 10) (v := ?_) (some 72) rfl rfl (by kernel_rfl) (by kernel_rfl) (by kernel_rfl) (fun _ _ _ h => h) (Or.inl ⟨by rfl, ?_⟩) (by assumption) ?_
  rotate_left
  · (intro W7 hSw; (try dsimp only at hSw); go_simp; try with_reducible rfl)
  try simp only [Act.put, List.setIfInBounds_toArray, List.set_cons_zero, List.set_cons_succ]
  refine takeTo (i := 11) (v := ?_) (some 83) rfl rfl (by kernel_rfl) (by kernel_rfl) (by kernel_rfl) (fun _ _ _ h => h) (Or.inl ⟨by rfl, ?_⟩) (by assumption) ?_
  rotate_left
  · (intro W7 hSw; (try dsimp only at hSw); go_simp; try with_reducible rfl)
  try simp only [Act.put, List.setIfInBounds_toArray, List.set_cons_zero, List.set_cons_succ]
  refine takeTo (i := 12) (v := ?_) (some 84) rfl rfl (by kernel_rfl) (by kernel_rfl) (by kernel_rfl) (fun _ _ _ h => h) (Or.inl ⟨by rfl, ?_⟩) (by assumption) ?_
  rotate_left
  · (intro W7 hSw; (try dsimp only at hSw); go_simp; try with_reducible rfl)
  try simp only [Act.put, List.setIfInBounds_toArray, List.set_cons_zero, List.set_cons_succ]
  refine takeTo (i := 13) (v := ?_) (some 6) rfl rfl (by kernel_rfl) (by kernel_rfl) (by kernel_rfl) (fun _ _ _ h => h) (Or.inl ⟨by rfl, ?_⟩) (by assumption) ?_
  rotate_left
  · (intro W7 hSw; (try dsimp only at hSw); go_simp; try with_reducible rfl)
  try simp only [Act.put, List.setIfInBounds_toArray, List.set_cons_zero, List.set_cons_succ]
  refine takeTo (i := 14) (v := ?_) (some 7) rfl rfl (by kernel_rfl) (by kernel_rfl) (by kernel_rfl) (fun _ _ _ h => h) (Or.inl ⟨by rfl, ?_⟩) (by assumption) ?_
  rotate_left
  · (intro W7 hSw; (try dsimp only at hSw); go_simp; try with_reducible rfl)
  try simp only [Act.put, List.setIfInBounds_toArray, List.set_cons_zero, List.set_cons_succ]
  refine wpAnyH_done (by kernel_rfl) ?_ _
  clear hHeld
  go_upto_region 19 with fail
  have d3 := M3.out.1.frame (w' := w3.drew) (S := fun _ => False) (Kept.refl _ _).drew fun _ _ e => e
  have b3 : Blk w3.drew q 51 #[.int .i64 8, .int .i64 on, .int .i64 n, .int .i64 x] := M3.out.2.1
  obtain ⟨sa, sb⟩ := d3.wo.at0 hi
  have sc : w3.drew.cell? ⟨q, 2, none⟩ = some (.int .i64 n) := b3.cell 2
  have S3 := Lib.hid (And.intro sa (And.intro sb sc))
  have V3 := Lib.hid (And.intro d3 (And.intro b3 M3.out.2.2))
  clear d3 b3 sa sb sc M3
  refine wp_region_held_drew (S := fun W' => W'.cell? ⟨gw, 0, none⟩ = some (.slice (some ⟨g0, 0, none⟩) N c0) ∧ W'.cell? ⟨g0, i, none⟩ = some (.pointer (some ⟨pt 0 i, 0, none⟩)) ∧ W'.cell? ⟨q, 2, none⟩ = some (.int .i64 n)) (by kernel_rfl) (by exact S3.out) (fun hHeld => ?_)
  change wpAnyH _ _ _ _ _ _ _ _ w3.drew
  generalize World.drew w3 = v3 at S3 V3  ⊢
  clear hHeld
  have HC := Lib.hid (A_get_none_s (V3.out.1.sys.ok 0 i (by decide) hi) n HM.out.2.2.2.2.1 (by rw [I3.out.1.2.2.2]; exact HM.out.2.2.2.2.2))
  rw [V3.out.1.pts 0 i (by decide) hi] at HC
  try dsimp only at HC
  refine takeTo (i := 0) (v := ?_) (some 86) rfl rfl (by kernel_rfl) (by kernel_rfl) (by kernel_rfl) (fun _ _ _ h => h) (Or.inl ⟨by rfl, ?_⟩) (by assumption) ?_
  rotate_left
  · (intro W7 hSw; (try dsimp only at hSw); go_simp; try with_reducible rfl)
  try simp only [Act.put, List.setIfInBounds_toArray, List.set_cons_zero, List.set_cons_succ]
  refine takeTo (i := 1) (v := ?_) (some 87) rfl rfl (by kernel_rfl) (by kernel_rfl) (by kernel_rfl) (fun _ _ _ h => h) (Or.inl ⟨by rfl, ?_⟩) (by assumption) ?_
  rotate_left
  · (intro W7 hSw; (try dsimp only at hSw); go_simp; try with_reducible rfl)
  try simp only [Act.put, List.setIfInBounds_toArray, List.set_cons_zero, List.set_cons_succ]
  refine takeTo (i := 2) (v := ?_) (some 88) rfl rfl (by kernel_rfl) (by kernel_rfl) (by kernel_rfl) (fun _ _ _ h => h) (Or.inl ⟨by rfl, ?_⟩) (by assumption) ?_
  rotate_left
  · (intro W7 hSw; (try dsimp only at hSw); go_simp; try with_reducible rfl)
  try simp only [Act.put, List.setIfInBounds_toArray, List.set_cons_zero, List.set_cons_succ]
  refine takeTo (i := 3) (v := ?_) (some 89) rfl rfl (by kernel_rfl) (by kernel_rfl) (by kernel_rfl) (fun _ _ _ h => h) (Or.inl ⟨by rfl, ?_⟩) (by assumption) ?_
  rotate_left
  · (intro W7 hSw; (try dsimp only at hSw); go_simp; try with_reducible rfl)
  try simp only [Act.put, List.setIfInBounds_toArray, List.set_cons_zero, List.set_cons_succ]
  refine takeTo (i := 4) (v := ?_) (some 90) rfl rfl (by kernel_rfl) (by kernel_rfl) (by kernel_rfl) (fun _ _ _ h => h) (Or.inl ⟨by rfl, ?_⟩) (by assumption) ?_
  rotate_left
  · (intro W7 hSw; (try dsimp only at hSw); go_simp; try with_reducible rfl)
  try simp only [Act.put, List.setIfInBounds_toArray, List.set_cons_zero, List.set_cons_succ]
  refine takeTo (i := 5) (v := ?_) (some 91) rfl rfl (by kernel_rfl) (by kernel_rfl) (by kernel_rfl) (fun _ _ _ h => h) (Or.inl ⟨by rfl, ?_⟩) (by assumption) ?_
  rotate_left
  · (intro W7 hSw; (try dsimp only at hSw); go_simp; try with_reducible rfl)
  try simp only [Act.put, List.setIfInBounds_toArray, List.set_cons_zero, List.set_cons_succ]
  refine takeTo (i := 6) (v := ?_) (some 92) rfl rfl (by kernel_rfl) (by kernel_rfl) (by kernel_rfl) (fun _ _ _ h => h) (Or.inl ⟨by rfl, ?_⟩) (by assumption) ?_
  rotate_left
  · (intro W7 hSw; (try dsimp only at hSw); go_simp; try with_reducible rfl)
  try simp only [Act.put, List.setIfInBounds_toArray, List.set_cons_zero, List.set_cons_succ]
  refine takeTo (i := 7) (v := ?_) (some 93) rfl rfl (by kernel_rfl) (by kernel_rfl) (by kernel_rfl) (fun _ _ _ h => h) (Or.inl ⟨by rfl, ?_⟩) (by assumption) ?_
  rotate_left
  · (intro W7 hSw; (try dsimp only at hSw); go_simp; try with_reducible rfl)
  try simp only [Act.put, List.setIfInBounds_toArray, List.set_cons_zero, List.set_cons_succ]
  refine takeTo (i := 8) (v := ?_) (some 94) rfl rfl (by kernel_rfl) (by kernel_rfl) (by kernel_rfl) (fun _ _ _ h => h) (Or.inl ⟨by rfl, ?_⟩) (by assumption) ?_
  rotate_left
  · (intro W7 hSw; (try dsimp only at hSw); go_simp; try with_reducible rfl)
  try simp only [Act.put, List.setIfInBounds_toArray, List.set_cons_zero, List.set_cons_succ]
  refine wpAnyH_ready (rs := [9]) (by kernel_rfl) (by simp) ?_
  refine AllReadyH.cons rfl (fun K hK => ?_) AllReadyH.nil
  rw [if_pos (by rfl)]
  go_wp2_with fail
  refine HC.out.mono ?_
  rintro r w4 ⟨rfl, t, a, k⟩
  obtain ⟨ob4, m', g', e', f'⟩ := V3.out.1.go V3.out.2.2 (K := 0) (by decide) hi (o' := _) (show isK 0 w4 _ from a) (V3.out.1.pts 0 i (by decide) hi).symm k (gr_nw _ _ _)
  have M4 := Lib.hid (And.intro m' (And.intro (t _ _ 51 (.inr rfl) V3.out.2.1) g'))
  have I4 := Lib.hid (And.intro (show Is (ob4 0 i) _ _ _ _ by rw [e']; exact is_miss I3.out.1) (And.intro (show Is (ob4 1 i) _ _ _ _ by rw [f' 1 (by decide)]; exact I3.out.2.1) (show Is (ob4 2 i) _ _ _ _ by rw [f' 2 (by decide)]; exact I3.out.2.2)))
  clear m' g' e' f' a k t
  obtain ⟨sa, sb⟩ := M4.out.1.wo.at0 hi
  have sc : w4.cell? ⟨q, 2, none⟩ = some (.int .i64 n) := M4.out.2.1.cell 2
  have SS3 := Lib.hid (And.intro sa (And.intro sb sc))
  clear sa sb sc HC S3 V3 I3 
  refine hK.out _ _ SS3.out (fun hHeld => ?_)
  clear hK K
  try simp only [Act.put, List.setIfInBounds_toArray, List.set_cons_zero, List.set_cons_succ]
  clear SS3
  refine takeTo (i := 10) (v := ?_) (some 85) rfl rfl (by kernel_rfl) (by kernel_rfl) (by kernel_rfl) (fun _ _ _ h => h) (Or.inl ⟨by rfl, ?_⟩) (by assumption) ?_
  rotate_left
  · (intro W7 hSw; (try dsimp only at hSw); go_simp; try with_reducible rfl)
  try simp only [Act.put, List.setIfInBounds_toArray, List.set_cons_zero, List.set_cons_succ]
  refine takeTo (i := 11) (v := ?_) (some 96) rfl rfl (by kernel_rfl) (by kernel_rfl) (by kernel_rfl) (fun _ _ _ h => h) (Or.inl ⟨by rfl, ?_⟩) (by assumption) ?_
  rotate_left
  · (intro W7 hSw; (try dsimp only at hSw); go_simp; try with_reducible rfl)
  try simp only [Act.put, List.setIfInBounds_toArray, List.set_cons_zero, List.set_cons_succ]
  refine takeTo (i := 12) (v := ?_) (some 97) rfl rfl (by kernel_rfl) (by kernel_rfl) (by kernel_rfl) (fun _ _ _ h => h) (Or.inl ⟨by rfl, ?_⟩) (by assumption) ?_
  rotate_left
  · (intro W7 hSw; (try dsimp only at hSw); go_simp; try with_reducible rfl)
  try simp only [Act.put, List.setIfInBounds_toArray, List.set_cons_zero, List.set_cons_succ]
  refine takeTo (i := 13) (v := ?_) (some 8) rfl rfl (by kernel_rfl) (by kernel_rfl) (by kernel_rfl) (fun _ _ _ h => h) (Or.inl ⟨by rfl, ?_⟩) (by assumption) ?_
  rotate_left
  · (intro W7 hSw; (try dsimp only at hSw); go_simp; try with_reducible rfl)
  try simp only [Act.put, List.setIfInBounds_toArray, List.set_cons_zero, List.set_cons_succ]
  refine takeTo (i := 14) (v := ?_) (some 9) rfl rfl (by kernel_rfl) (by kernel_rfl) (by kernel_rfl) (fun _ _ _ h => h) (Or.inl ⟨by rfl, ?_⟩) (by assumption) ?_
  rotate_left
  · (intro W7 hSw; (try dsimp only at hSw); go_simp; try with_reducible rfl)
  try simp only [Act.put, List.setIfInBounds_toArray, List.set_cons_zero, List.set_cons_succ]
  refine wpAnyH_done (by kernel_rfl) ?_ _
  clear hHeld
  go_upto_region 20 with fail
  have d4 := M4.out.1.frame (w' := w4.drew) (S := fun _ => False) (Kept.refl _ _).drew fun _ _ e => e
  have b4 : Blk w4.drew q 51 #[.int .i64 8, .int .i64 on, .int .i64 n, .int .i64 x] := M4.out.2.1
  obtain ⟨sa, sb⟩ := d4.wo.at2 hi
  have sc : w4.drew.cell? ⟨q, 2, none⟩ = some (.int .i64 n) := b4.cell 2
  have S4 := Lib.hid (And.intro sa (And.intro sb sc))
  have V4 := Lib.hid (And.intro d4 (And.intro b4 M4.out.2.2))
  clear d4 b4 sa sb sc M4
  refine wp_region_held_drew (S := fun W' => W'.cell? ⟨gw, 2, none⟩ = some (.slice (some ⟨g2, 0, none⟩) N c2) ∧ W'.cell? ⟨g2, i, none⟩ = some (.pointer (some ⟨pt 2 i, 0, none⟩)) ∧ W'.cell? ⟨q, 2, none⟩ = some (.int .i64 n)) (by kernel_rfl) (by exact S4.out) (fun hHeld => ?_)
  change wpAnyH _ _ _ _ _ _ _ _ w4.drew
  generalize World.drew w4 = v4 at S4 V4  ⊢
  clear hHeld
  have HC := Lib.hid (R_get_none_s (V4.out.1.sys.ok 2 i (by decide) hi) n (by rw [I4.out.2.2.2.2.2]; exact HM.out.2.2.2.2.2) (by rw [I4.out.2.2.2.2.2]; have := HM.out.2.2.1; have := HM.out.2.1; omega))
  rw [V4.out.1.pts 2 i (by decide) hi] at HC
  try dsimp only at HC
  refine takeTo (i := 0) (v := ?_) (some 99) rfl rfl (by kernel_rfl) (by kernel_rfl) (by kernel_rfl) (fun _ _ _ h => h) (Or.inl ⟨by rfl, ?_⟩) (by assumption) ?_
  rotate_left
  · (intro W7 hSw; (try dsimp only at hSw); go_simp; try with_reducible rfl)
  try simp only [Act.put, List.setIfInBounds_toArray, List.set_cons_zero, List.set_cons_succ]
  refine takeTo (i := 1) (v := ?_) (some 100) rfl rfl (by kernel_rfl) (by kernel_rfl) (by kernel_rfl) (fun _ _ _ h => h) (Or.inl ⟨by rfl, ?_⟩) (by assumption) ?_
  rotate_left
  · (intro W7 hSw; (try dsimp only at hSw); go_simp; try with_reducible rfl)
  try simp only [Act.put, List.setIfInBounds_toArray, List.set_cons_zero, List.set_cons_succ]
  refine takeTo (i := 2) (v := ?_) (some 101) rfl rfl (by kernel_rfl) (by kernel_rfl) (by kernel_rfl) (fun _ _ _ h => h) (Or.inl ⟨by rfl, ?_⟩) (by assumption) ?_
  rotate_left
  · (intro W7 hSw; (try dsimp only at hSw); go_simp; try with_reducible rfl)
  try simp only [Act.put, List.setIfInBounds_toArray, List.set_cons_zero, List.set_cons_succ]
  refine takeTo (i := 3) (v := ?_) (some 102) rfl rfl (by kernel_rfl) (by kernel_rfl) (by kernel_rfl) (fun _ _ _ h => h) (Or.inl ⟨by rfl, ?_⟩) (by assumption) ?_
  rotate_left
  · (intro W7 hSw; (try dsimp only at hSw); go_simp; try with_reducible rfl)
  try simp only [Act.put, List.setIfInBounds_toArray, List.set_cons_zero, List.set_cons_succ]
  refine takeTo (i := 4) (v := ?_) (some 103) rfl rfl (by kernel_rfl) (by kernel_rfl) (by kernel_rfl) (fun _ _ _ h => h) (Or.inl ⟨by rfl, ?_⟩) (by assumption) ?_
  rotate_left
  · (intro W7 hSw; (try dsimp only at hSw); go_simp; try with_reducible rfl)
  try simp only [Act.put, List.setIfInBounds_toArray, List.set_cons_zero, List.set_cons_succ]
  refine takeTo (i := 5) (v := ?_) (some 104) rfl rfl (by kernel_rfl) (by kernel_rfl) (by kernel_rfl) (fun _ _ _ h => h) (Or.inl ⟨by rfl, ?_⟩) (by assumption) ?_
  rotate_left
  · (intro W7 hSw; (try dsimp only at hSw); go_simp; try with_reducible rfl)
  try simp only [Act.put, List.setIfInBounds_toArray, List.set_cons_zero, List.set_cons_succ]
  refine takeTo (i := 6) (v := ?_) (some 105) rfl rfl (by kernel_rfl) (by kernel_rfl) (by kernel_rfl) (fun _ _ _ h => h) (Or.inl ⟨by rfl, ?_⟩) (by assumption) ?_
  rotate_left
  · (intro W7 hSw; (try dsimp only at hSw); go_simp; try with_reducible rfl)
  try simp only [Act.put, List.setIfInBounds_toArray, List.set_cons_zero, List.set_cons_succ]
  refine takeTo (i := 7) (v := ?_) (some 106) rfl rfl (by kernel_rfl) (by kernel_rfl) (by kernel_rfl) (fun _ _ _ h => h) (Or.inl ⟨by rfl, ?_⟩) (by assumption) ?_
  rotate_left
  · (intro W7 hSw; (try dsimp only at hSw); go_simp; try with_reducible rfl)
  try simp only [Act.put, List.setIfInBounds_toArray, List.set_cons_zero, List.set_cons_succ]
  refine takeTo (i := 8) (v := ?_) (some 107) rfl rfl (by kernel_rfl) (by kernel_rfl) (by kernel_rfl) (fun _ _ _ h => h) (Or.inl ⟨by rfl, ?_⟩) (by assumption) ?_
  rotate_left
  · (intro W7 hSw; (try dsimp only at hSw); go_simp; try with_reducible rfl)
  try simp only [Act.put, List.setIfInBounds_toArray, List.set_cons_zero, List.set_cons_succ]
  refine wpAnyH_ready (rs := [9]) (by kernel_rfl) (by simp) ?_
  refine AllReadyH.cons rfl (fun K hK => ?_) AllReadyH.nil
  rw [if_pos (by rfl)]
  go_wp2_with fail
  refine HC.out.mono ?_
  rintro r w5 ⟨rfl, t, a, k⟩
  obtain ⟨ob5, m', g', e', f'⟩ := V4.out.1.go V4.out.2.2 (K := 2) (by decide) hi (o' := _) (show isK 2 w5 _ from a) (V4.out.1.pts 2 i (by decide) hi).symm k (gr_nw _ _ _)
  have M5 := Lib.hid (And.intro m' (And.intro (t _ _ 51 (.inr rfl) V4.out.2.1) g'))
  have I5 := Lib.hid (And.intro (show Is (ob5 0 i) _ _ _ _ by rw [f' 0 (by decide)]; exact I4.out.1) (And.intro (show Is (ob5 1 i) _ _ _ _ by rw [f' 1 (by decide)]; exact I4.out.2.1) (show Is (ob5 2 i) _ _ _ _ by rw [e']; exact is_miss I4.out.2.2)))
  clear m' g' e' f' a k t
  obtain ⟨sa, sb⟩ := M5.out.1.wo.at2 hi
  have sc : w5.cell? ⟨q, 2, none⟩ = some (.int .i64 n) := M5.out.2.1.cell 2
  have SS4 := Lib.hid (And.intro sa (And.intro sb sc))
  clear sa sb sc HC S4 V4 I4 
  refine hK.out _ _ SS4.out (fun hHeld => ?_)
  clear hK K
  try simp only [Act.put, List.setIfInBounds_toArray, List.set_cons_zero, List.set_cons_succ]
  clear SS4
  refine takeTo (i := 10) (v := ?_) (some 98) rfl rfl (by kernel_rfl) (by kernel_rfl) (by kernel_rfl) (fun _ _ _ h => h) (Or.inl ⟨by rfl, ?_⟩) (by assumption) ?_
  rotate_left
  · (intro W7 hSw; (try dsimp only at hSw); go_simp; try with_reducible rfl)
  try simp only [Act.put, List.setIfInBounds_toArray, List.set_cons_zero, List.set_cons_succ]
  refine takeTo (i := 11) (v := ?_) (some 109) rfl rfl (by kernel_rfl) (by kernel_rfl) (by kernel_rfl) (fun _ _ _ h => h) (Or.inl ⟨by rfl, ?_⟩) (by assumption) ?_
  rotate_left
  · (intro W7 hSw; (try dsimp only at hSw); go_simp; try with_reducible rfl)
  try simp only [Act.put, List.setIfInBounds_toArray, List.set_cons_zero, List.set_cons_succ]
  refine takeTo (i := 12) (v := ?_) (some 110) rfl rfl (by kernel_rfl) (by kernel_rfl) (by kernel_rfl) (fun _ _ _ h => h) (Or.inl ⟨by rfl, ?_⟩) (by assumption) ?_
  rotate_left
  · (intro W7 hSw; (try dsimp only at hSw); go_simp; try with_reducible rfl)
  try simp only [Act.put, List.setIfInBounds_toArray, List.set_cons_zero, List.set_cons_succ]
  refine takeTo (i := 13) (v := ?_) (some 10) rfl rfl (by kernel_rfl) (by kernel_rfl) (by kernel_rfl) (fun _ _ _ h => h) (Or.inl ⟨by rfl, ?_⟩) (by assumption) ?_
  rotate_left
  · (intro W7 hSw; (try dsimp only at hSw); go_simp; try with_reducible rfl)
  try simp only [Act.put, List.setIfInBounds_toArray, List.set_cons_zero, List.set_cons_succ]
  refine takeTo (i := 14) (v := ?_) (some 11) rfl rfl (by kernel_rfl) (by kernel_rfl) (by kernel_rfl) (fun _ _ _ h => h) (Or.inl ⟨by rfl, ?_⟩) (by assumption) ?_
  rotate_left
  · (intro W7 hSw; (try dsimp only at hSw); go_simp; try with_reducible rfl)
  try simp only [Act.put, List.setIfInBounds_toArray, List.set_cons_zero, List.set_cons_succ]
  refine wpAnyH_done (by kernel_rfl) ?_ _
  clear hHeld
  go_wp2_with fail
  go_ret
  refine ⟨rfl, N, pt, _, _, _, _, _, _, _, ob5, M5.out.1, (M5.out.2.2.set (P := P) (hit := hit) (miss := wrap64 (miss + 1)) (M := M) (fun K hK => ?_) HM.out.1 HM.out.2.1 HM.out.2.2.1 fun t ht => ?_).to (by omega), HNN.out.1, by omega⟩
  · match K, hK with
    | 0, _ => exact I5.out.1
    | 1, _ => exact I5.out.2.1
    | 2, _ => exact I5.out.2.2
  · have := HM.out.2.2.2.1 t ht
    omega
set_option maxHeartbeats 4000000 in
set_option maxRecDepth 100000 in
theorem step_turn_some {B gw N steps : Nat} {w w0 : World} {pt : Nat → Nat → Nat} {CV LV RV OV WV : Value} {rs ws : List Row} {ob : Nat → Nat → Ob} (h : Md B w0 w gw N pt CV LV RV OV WV rs ws ob) (hg : Good N steps ob) (hN : N ≤ 30) (on x : Int) {i : Nat} (hi : i < N) (hp : pickN on (N : Int) = (i : Int)) (ho : -9223372036854775808 ≤ on ∧ on ≤ 9223372036854775807) {P hit miss : Int} {u v : List Th} {e : Th} (ok : Ok3 ob i P hit miss (u ++ e :: v)) (h1 : 1 ≤ P) (h2 : P ≤ 65536) (h3 : ((u ++ e :: v).length : Int) ≤ P) (h4 : ∀ t ∈ u ++ e :: v, 0 ≤ t.p ∧ t.p ≤ (steps : Int)) :
    Calls Try.prog 16 #[.pointer (some ⟨gw, 0, none⟩), .agg #[.int .i64 8, .int .i64 on, .int .i64 e.n, .int .i64 x]] w fun r w' => r = .returned (.bool true) ∧ StepOut B w0 w' gw steps rs.length := by
  have HM := Lib.hid (And.intro h1 (And.intro h2 (And.intro h3 h4)))
  obtain ⟨g0, c0, g1, c1, g2, c2, rfl, rfl, rfl⟩ := h.wo.three hi
  have d1 := h.frame (w' := w.alloc (.cells #[.int .i64 8, .int .i64 on, .int .i64 e.n, .int .i64 x] 51)) (S := fun _ => False) ((Kept.refl _ w).alloc _) fun _ _ e => e
  have b1 : Blk (w.alloc (.cells #[.int .i64 8, .int .i64 on, .int .i64 e.n, .int .i64 x] 51)) w.heap.size 51 #[.int .i64 8, .int .i64 on, .int .i64 e.n, .int .i64 x] := Blk.new w 51 _
  have s0 : (w.alloc (.cells #[.int .i64 8, .int .i64 on, .int .i64 e.n, .int .i64 x] 51)).cell? ⟨gw, 0, none⟩ = some (.slice (some ⟨g0, 0, none⟩) N c0) := d1.wo.blk.cell 0
  have t0 := b1.cell 0
  have t1 := b1.cell 1
  have t2 := b1.cell 2
  have t3 := b1.cell 3
  simp only [List.getElem?_toArray, List.getElem?_cons_zero, List.getElem?_cons_succ] at t0 t1 t2 t3
  have M1 := Lib.hid (And.intro d1 b1)
  have HG := Lib.hid (hg.but (i := i))
  have I2 := Lib.hid (And.intro (show Is (ob 0 i) _ _ _ _ from ok 0 (by decide)) (And.intro (show Is (ob 1 i) _ _ _ _ from ok 1 (by decide)) (show Is (ob 2 i) _ _ _ _ from ok 2 (by decide))))
  have HNN := Lib.hid (And.intro hN hi)
  have HP := Lib.hid (pick_any on (N : Int) (by omega))
  rw [hp] at HP
  have HO := Lib.hid ho
  have hN0 : ((N : Int) == 0) = false := by simp; omega
  clear d1 b1 h hg hN ho ok h1 h2 h3 h4
  go_enter Try.func16, Try.ntmps16
  go_upto_region 5 with fail
  have S0 := Lib.hid (And.intro s0 t1)
  clear s0 t0 t1 t2 t3
  generalize World.alloc w _ = w1 at S0 M1 ⊢
  obtain ⟨q, hq⟩ : ∃ q, q = w.heap.size := ⟨_, rfl⟩
  rw [← hq] at S0 M1 ⊢
  clear hq
  refine wp_region_held_drew (S := fun W' => W'.cell? ⟨gw, 0, none⟩ = some (.slice (some ⟨g0, 0, none⟩) N c0) ∧ W'.cell? ⟨q, 1, none⟩ = some (.int .i64 on)) (by kernel_rfl) (by exact S0.out) (fun hHeld => ?_)
  change wpAnyH _ _ _ _ _ _ _ _ w1.drew
  have S1 := Lib.hid (show w1.drew.cell? ⟨gw, 0, none⟩ = some (.slice (some ⟨g0, 0, none⟩) N c0) ∧ w1.drew.cell? ⟨q, 1, none⟩ = some (.int .i64 on) from S0.out)
  have d2 := M1.out.1.frame (w' := w1.drew) (S := fun _ => False) (Kept.refl _ _).drew fun _ _ e => e
  have b2 : Blk w1.drew q 51 #[.int .i64 8, .int .i64 on, .int .i64 e.n, .int .i64 x] := M1.out.2
  have M2 := Lib.hid (And.intro d2 b2)
  clear d2 b2 hHeld M1 S0
  generalize World.drew w1 = w2 at M2 S1 ⊢
  refine takeTo (i := 0) (v := ?_) (some 28) rfl rfl (by kernel_rfl) (by kernel_rfl) (by kernel_rfl) (fun _ _ _ h => h) (Or.inl ⟨by rfl, ?_⟩) (by assumption) ?_
  rotate_left
  · (intro W7 hSw; (try dsimp only at hSw); go_simp; try with_reducible rfl)
  try simp only [Act.put, List.setIfInBounds_toArray, List.set_cons_zero, List.set_cons_succ]
  refine takeTo (i := 1) (v := ?_) (some 29) rfl rfl (by kernel_rfl) (by kernel_rfl) (by kernel_rfl) (fun _ _ _ h => h) (Or.inl ⟨by rfl, ?_⟩) (by assumption) ?_
  rotate_left
  · (intro W7 hSw; (try dsimp only at hSw); go_simp; try with_reducible rfl)
  try simp only [Act.put, List.setIfInBounds_toArray, List.set_cons_zero, List.set_cons_succ]
  refine takeTo (i := 2) (v := ?_) (some 30) rfl rfl (by kernel_rfl) (by kernel_rfl) (by kernel_rfl) (fun _ _ _ h => h) (Or.inl ⟨by rfl, ?_⟩) (by assumption) ?_
  rotate_left
  · (intro W7 hSw; (try dsimp only at hSw); go_simp; try with_reducible rfl)
  try simp only [Act.put, List.setIfInBounds_toArray, List.set_cons_zero, List.set_cons_succ]
  refine takeTo (i := 3) (v := ?_) (some 31) rfl rfl (by kernel_rfl) (by kernel_rfl) (by kernel_rfl) (fun _ _ _ h => h) (Or.inl ⟨by rfl, ?_⟩) (by assumption) ?_
  rotate_left
  · (intro W7 hSw; (try dsimp only at hSw); go_simp; try with_reducible rfl)
  try simp only [Act.put, List.setIfInBounds_toArray, List.set_cons_zero, List.set_cons_succ]
  refine takeTo (i := 4) (v := ?_) (some 32) rfl rfl (by kernel_rfl) (by kernel_rfl) (by kernel_rfl) (fun _ _ _ h => h) (Or.inl ⟨by rfl, ?_⟩) (by assumption) ?_
  rotate_left
  · (intro W7 hSw; (try dsimp only at hSw); go_simp; try with_reducible rfl)
  try simp only [Act.put, List.setIfInBounds_toArray, List.set_cons_zero, List.set_cons_succ]
  refine takeTo (i := 5) (v := ?_) (some 33) rfl rfl (by kernel_rfl) (by kernel_rfl) (by kernel_rfl) (fun _ _ _ h => h) (Or.inl ⟨by rfl, ?_⟩) (by assumption) ?_
  rotate_left
  · (intro W7 hSw; (try dsimp only at hSw); go_simp; try with_reducible rfl)
  try simp only [Act.put, List.setIfInBounds_toArray, List.set_cons_zero, List.set_cons_succ]
  refine takeTo (i := 6) (v := ?_) (some 34) rfl rfl (by kernel_rfl) (by kernel_rfl) (by kernel_rfl) (fun _ _ _ h => h) (Or.inl ⟨by rfl, ?_⟩) (by assumption) ?_
  rotate_left
  · (intro W7 hSw; (try dsimp only at hSw); go_simp; try with_reducible rfl)
  try simp only [Act.put, List.setIfInBounds_toArray, List.set_cons_zero, List.set_cons_succ]
  refine wpAnyH_ready (rs := [7]) (by kernel_rfl) (by simp) ?_
  refine AllReadyH.cons rfl (fun K hK => ?_) AllReadyH.nil
  rw [if_pos (by rfl)]
  go_wp2_with fail
  refine (HP.out w2 HO.out.1 HO.out.2).mono ?_
  rintro r w' ⟨rfl, rfl⟩
  refine hK.out _ _ S1.out (fun hHeld => ?_)
  clear hK K
  try simp only [Act.put, List.setIfInBounds_toArray, List.set_cons_zero, List.set_cons_succ]
  refine takeTo (i := 8) (v := ?_) (some 5) rfl rfl (by kernel_rfl) (by kernel_rfl) (by kernel_rfl) (fun _ _ _ h => h) (Or.inl ⟨by rfl, ?_⟩) (by assumption) ?_
  rotate_left
  · (intro W7 hSw; (try dsimp only at hSw); go_simp; try with_reducible rfl)
  try simp only [Act.put, List.setIfInBounds_toArray, List.set_cons_zero, List.set_cons_succ]
  refine wpAnyH_done (by kernel_rfl) ?_ _
  clear S1
  have t0 := M2.out.2.cell 0
  have t2 := M2.out.2.cell 2
  have t3 := M2.out.2.cell 3
  simp only [List.getElem?_toArray, List.getElem?_cons_zero, List.getElem?_cons_succ] at t0 t2 t3
  have hi63 : (i : Int) < (N : Int) := by omega
  have M2x := Lib.hid (And.intro M2.out.1 (And.intro M2.out.2 HG.out))
  clear HG
  go_upto_region 18 with fail
  clear t0 t2 t3 M2
  have M2 := M2x
  clear M2x
  have HLE := Lib.hid (show (u ++ e :: v).length ≤ 65536 by have := HM.out.2.2.1; have := HM.out.2.1; omega)
  have HND := Lib.hid (show isA w2 (ob 0 i) from M2.out.1.sys.ok 0 i (by decide) hi)
  have HIS := Lib.hid I2.out.1
  go_upto_region 18 with fail
  have d2 := M2.out.1.frame (w' := w2.drew) (S := fun _ => False) (Kept.refl _ _).drew fun _ _ e => e
  have b2 : Blk w2.drew q 51 #[.int .i64 8, .int .i64 on, .int .i64 e.n, .int .i64 x] := M2.out.2.1
  obtain ⟨sa, sb⟩ := d2.wo.at1 hi
  have sc : w2.drew.cell? ⟨q, 2, none⟩ = some (.int .i64 e.n) := b2.cell 2
  have S2 := Lib.hid (And.intro sa (And.intro sb sc))
  have V2 := Lib.hid (And.intro d2 (And.intro b2 M2.out.2.2))
  clear d2 b2 sa sb sc M2
  refine wp_region_held_drew (S := fun W' => W'.cell? ⟨gw, 1, none⟩ = some (.slice (some ⟨g1, 0, none⟩) N c1) ∧ W'.cell? ⟨g1, i, none⟩ = some (.pointer (some ⟨pt 1 i, 0, none⟩)) ∧ W'.cell? ⟨q, 2, none⟩ = some (.int .i64 e.n)) (by kernel_rfl) (by exact S2.out) (fun hHeld => ?_)
  change wpAnyH _ _ _ _ _ _ _ _ w2.drew
  generalize World.drew w2 = v2 at S2 V2  ⊢
  clear hHeld
  have HC := Lib.hid (L_get_some_s (V2.out.1.sys.ok 1 i (by decide) hi) I2.out.2.1.2.2.2)
  rw [V2.out.1.pts 1 i (by decide) hi] at HC
  try dsimp only at HC
  refine takeTo (i := 0) (v := ?_) (some 73) rfl rfl (by kernel_rfl) (by kernel_rfl) (by kernel_rfl) (fun _ _ _ h => h) (Or.inl ⟨by rfl, ?_⟩) (by assumption) ?_
  rotate_left
  · (intro W7 hSw; (try dsimp only at hSw); go_simp; try with_reducible rfl)
  try simp only [Act.put, List.setIfInBounds_toArray, List.set_cons_zero, List.set_cons_succ]
  refine takeTo (i := 1) (v := ?_) (some 74) rfl rfl (by kernel_rfl) (by kernel_rfl) (by kernel_rfl) (fun _ _ _ h => h) (Or.inl ⟨by rfl, ?_⟩) (by assumption) ?_
  rotate_left
  · (intro W7 hSw; (try dsimp only at hSw); go_simp; try with_reducible rfl)
  try simp only [Act.put, List.setIfInBounds_toArray, List.set_cons_zero, List.set_cons_succ]
  refine takeTo (i := 2) (v := ?_) (some 75) rfl rfl (by kernel_rfl) (by kernel_rfl) (by kernel_rfl) (fun _ _ _ h => h) (Or.inl ⟨by rfl, ?_⟩) (by assumption) ?_
  rotate_left
  · (intro W7 hSw; (try dsimp only at hSw); go_simp; try with_reducible rfl)
  try simp only [Act.put, List.setIfInBounds_toArray, List.set_cons_zero, List.set_cons_succ]
  refine takeTo (i := 3) (v := ?_) (some 76) rfl rfl (by kernel_rfl) (by kernel_rfl) (by kernel_rfl) (fun _ _ _ h => h) (Or.inl ⟨by rfl, ?_⟩) (by assumption) ?_
  rotate_left
  · (intro W7 hSw; (try dsimp only at hSw); go_simp; try with_reducible rfl)
  try simp only [Act.put, List.setIfInBounds_toArray, List.set_cons_zero, List.set_cons_succ]
  refine takeTo (i := 4) (v := ?_) (some 77) rfl rfl (by kernel_rfl) (by kernel_rfl) (by kernel_rfl) (fun _ _ _ h => h) (Or.inl ⟨by rfl, ?_⟩) (by assumption) ?_
  rotate_left
  · (intro W7 hSw; (try dsimp only at hSw); go_simp; try with_reducible rfl)
  try simp only [Act.put, List.setIfInBounds_toArray, List.set_cons_zero, List.set_cons_succ]
  refine takeTo (i := 5) (v := ?_) (some 78) rfl rfl (by kernel_rfl) (by kernel_rfl) (by kernel_rfl) (fun _ _ _ h => h) (Or.inl ⟨by rfl, ?_⟩) (by assumption) ?_
  rotate_left
  · (intro W7 hSw; (try dsimp only at hSw); go_simp; try with_reducible rfl)
  try simp only [Act.put, List.setIfInBounds_toArray, List.set_cons_zero, List.set_cons_succ]
  refine takeTo (i := 6) (v := ?_) (some 79) rfl rfl (by kernel_rfl) (by kernel_rfl) (by kernel_rfl) (fun _ _ _ h => h) (Or.inl ⟨by rfl, ?_⟩) (by assumption) ?_
  rotate_left
  · (intro W7 hSw; (try dsimp only at hSw); go_simp; try with_reducible rfl)
  try simp only [Act.put, List.setIfInBounds_toArray, List.set_cons_zero, List.set_cons_succ]
  refine takeTo (i := 7) (v := ?_) (some 80) rfl rfl (by kernel_rfl) (by kernel_rfl) (by kernel_rfl) (fun _ _ _ h => h) (Or.inl ⟨by rfl, ?_⟩) (by assumption) ?_
  rotate_left
  · (intro W7 hSw; (try dsimp only at hSw); go_simp; try with_reducible rfl)
  try simp only [Act.put, List.setIfInBounds_toArray, List.set_cons_zero, List.set_cons_succ]
  refine takeTo (i := 8) (v := ?_) (some 81) rfl rfl (by kernel_rfl) (by kernel_rfl) (by kernel_rfl) (fun _ _ _ h => h) (Or.inl ⟨by rfl, ?_⟩) (by assumption) ?_
  rotate_left
  · (intro W7 hSw; (try dsimp only at hSw); go_simp; try with_reducible rfl)
  try simp only [Act.put, List.setIfInBounds_toArray, List.set_cons_zero, List.set_cons_succ]
  refine wpAnyH_ready (rs := [9]) (by kernel_rfl) (by simp) ?_
  refine AllReadyH.cons rfl (fun K hK => ?_) AllReadyH.nil
  rw [if_pos (by rfl)]
  go_wp2_with fail
  refine HC.out.mono ?_
  rintro r w3 ⟨qy, rfl, t, a, k, b, fq⟩
  obtain ⟨ob3, m', g', e', f'⟩ := V2.out.1.go V2.out.2.2 (K := 1) (by decide) hi (o' := _) (show isK 1 w3 _ from a.weak) (V2.out.1.pts 1 i (by decide) hi).symm k (gr2_nw _ _ _)
  have M3 := Lib.hid (And.intro m' (And.intro (t _ _ 51 (.inr rfl) V2.out.2.1) g'))
  have I3 := Lib.hid (And.intro (show Is (ob3 0 i) _ _ _ _ by rw [f' 0 (by decide)]; exact I2.out.1) (And.intro (show Is (ob3 1 i) _ _ _ _ by rw [e']; exact is_get I2.out.2.1) (show Is (ob3 2 i) _ _ _ _ by rw [f' 2 (by decide)]; exact I2.out.2.2)))
  have Y3 := Lib.hid (And.intro (show isLb w3 (ob3 1 i) qy by rw [e']; exact a) b)
  clear m' g' e' f' a k t b fq
  obtain ⟨sa, sb⟩ := M3.out.1.wo.at1 hi
  have sc : w3.cell? ⟨q, 2, none⟩ = some (.int .i64 e.n) := M3.out.2.1.cell 2
  have SS2 := Lib.hid (And.intro sa (And.intro sb sc))
  clear sa sb sc HC S2 V2 I2 
  refine hK.out _ _ SS2.out (fun hHeld => ?_)
  clear hK K
  try simp only [Act.put, List.setIfInBounds_toArray, List.set_cons_zero, List.set_cons_succ]
  clear SS2
  refine takeTo (i := 10) (v := ?_) (some 72) rfl rfl (by kernel_rfl) (by kernel_rfl) (by kernel_rfl) (fun _ _ _ h => h) (Or.inl ⟨by rfl, ?_⟩) (by assumption) ?_
  rotate_left
  · (intro W7 hSw; (try dsimp only at hSw); go_simp; try with_reducible rfl)
  try simp only [Act.put, List.setIfInBounds_toArray, List.set_cons_zero, List.set_cons_succ]
  refine takeTo (i := 11) (v := ?_) (some 83) rfl rfl (by kernel_rfl) (by kernel_rfl) (by kernel_rfl) (fun _ _ _ h => h) (Or.inl ⟨by rfl, ?_⟩) (by assumption) ?_
  rotate_left
  · (intro W7 hSw; (try dsimp only at hSw); go_simp; try with_reducible rfl)
  try simp only [Act.put, List.setIfInBounds_toArray, List.set_cons_zero, List.set_cons_succ]
  refine takeTo (i := 12) (v := ?_) (some 84) rfl rfl (by kernel_rfl) (by kernel_rfl) (by kernel_rfl) (fun _ _ _ h => h) (Or.inl ⟨by rfl, ?_⟩) (by assumption) ?_
  rotate_left
  · (intro W7 hSw; (try dsimp only at hSw); go_simp; try with_reducible rfl)
  try simp only [Act.put, List.setIfInBounds_toArray, List.set_cons_zero, List.set_cons_succ]
  refine takeTo (i := 13) (v := ?_) (some 6) rfl rfl (by kernel_rfl) (by kernel_rfl) (by kernel_rfl) (fun _ _ _ h => h) (Or.inl ⟨by rfl, ?_⟩) (by assumption) ?_
  rotate_left
  · (intro W7 hSw; (try dsimp only at hSw); go_simp; try with_reducible rfl)
  try simp only [Act.put, List.setIfInBounds_toArray, List.set_cons_zero, List.set_cons_succ]
  refine takeTo (i := 14) (v := ?_) (some 7) rfl rfl (by kernel_rfl) (by kernel_rfl) (by kernel_rfl) (fun _ _ _ h => h) (Or.inl ⟨by rfl, ?_⟩) (by assumption) ?_
  rotate_left
  · (intro W7 hSw; (try dsimp only at hSw); go_simp; try with_reducible rfl)
  try simp only [Act.put, List.setIfInBounds_toArray, List.set_cons_zero, List.set_cons_succ]
  refine wpAnyH_done (by kernel_rfl) ?_ _
  clear hHeld
  go_upto_region 19 with fail
  have d3 := M3.out.1.frame (w' := w3.drew) (S := fun _ => False) (Kept.refl _ _).drew fun _ _ e => e
  have b3 : Blk w3.drew q 51 #[.int .i64 8, .int .i64 on, .int .i64 e.n, .int .i64 x] := M3.out.2.1
  have y3 := Y3.out.1.kept (w' := w3.drew) (S := fun _ => False) (Kept.refl _ _).drew fun _ _ e => e
  have z3 : Blk w3.drew qy 3 #[.int .i64 e.x] := Y3.out.2
  have YV3 := Lib.hid (And.intro y3 z3)
  clear y3 z3 Y3
  obtain ⟨sa, sb⟩ := d3.wo.at0 hi
  have sc : w3.drew.cell? ⟨q, 2, none⟩ = some (.int .i64 e.n) := b3.cell 2
  have S3 := Lib.hid (And.intro sa (And.intro sb sc))
  have V3 := Lib.hid (And.intro d3 (And.intro b3 M3.out.2.2))
  clear d3 b3 sa sb sc M3
  refine wp_region_held_drew (S := fun W' => W'.cell? ⟨gw, 0, none⟩ = some (.slice (some ⟨g0, 0, none⟩) N c0) ∧ W'.cell? ⟨g0, i, none⟩ = some (.pointer (some ⟨pt 0 i, 0, none⟩)) ∧ W'.cell? ⟨q, 2, none⟩ = some (.int .i64 e.n)) (by kernel_rfl) (by exact S3.out) (fun hHeld => ?_)
  change wpAnyH _ _ _ _ _ _ _ _ w3.drew
  generalize World.drew w3 = v3 at S3 V3 YV3 ⊢
  clear hHeld
  have HC := Lib.hid (A_get_some_s (V3.out.1.sys.ok 0 i (by decide) hi) I3.out.1.2.2.2)
  rw [V3.out.1.pts 0 i (by decide) hi] at HC
  try dsimp only at HC
  refine takeTo (i := 0) (v := ?_) (some 86) rfl rfl (by kernel_rfl) (by kernel_rfl) (by kernel_rfl) (fun _ _ _ h => h) (Or.inl ⟨by rfl, ?_⟩) (by assumption) ?_
  rotate_left
  · (intro W7 hSw; (try dsimp only at hSw); go_simp; try with_reducible rfl)
  try simp only [Act.put, List.setIfInBounds_toArray, List.set_cons_zero, List.set_cons_succ]
  refine takeTo (i := 1) (v := ?_) (some 87) rfl rfl (by kernel_rfl) (by kernel_rfl) (by kernel_rfl) (fun _ _ _ h => h) (Or.inl ⟨by rfl, ?_⟩) (by assumption) ?_
  rotate_left
  · (intro W7 hSw; (try dsimp only at hSw); go_simp; try with_reducible rfl)
  try simp only [Act.put, List.setIfInBounds_toArray, List.set_cons_zero, List.set_cons_succ]
  refine takeTo (i := 2) (v := ?_) (some 88) rfl rfl (by kernel_rfl) (by kernel_rfl) (by kernel_rfl) (fun _ _ _ h => h) (Or.inl ⟨by rfl, ?_⟩) (by assumption) ?_
  rotate_left
  · (intro W7 hSw; (try dsimp only at hSw); go_simp; try with_reducible rfl)
  try simp only [Act.put, List.setIfInBounds_toArray, List.set_cons_zero, List.set_cons_succ]
  refine takeTo (i := 3) (v := ?_) (some 89) rfl rfl (by kernel_rfl) (by kernel_rfl) (by kernel_rfl) (fun _ _ _ h => h) (Or.inl ⟨by rfl, ?_⟩) (by assumption) ?_
  rotate_left
  · (intro W7 hSw; (try dsimp only at hSw); go_simp; try with_reducible rfl)
  try simp only [Act.put, List.setIfInBounds_toArray, List.set_cons_zero, List.set_cons_succ]
  refine takeTo (i := 4) (v := ?_) (some 90) rfl rfl (by kernel_rfl) (by kernel_rfl) (by kernel_rfl) (fun _ _ _ h => h) (Or.inl ⟨by rfl, ?_⟩) (by assumption) ?_
  rotate_left
  · (intro W7 hSw; (try dsimp only at hSw); go_simp; try with_reducible rfl)
  try simp only [Act.put, List.setIfInBounds_toArray, List.set_cons_zero, List.set_cons_succ]
  refine takeTo (i := 5) (v := ?_) (some 91) rfl rfl (by kernel_rfl) (by kernel_rfl) (by kernel_rfl) (fun _ _ _ h => h) (Or.inl ⟨by rfl, ?_⟩) (by assumption) ?_
  rotate_left
  · (intro W7 hSw; (try dsimp only at hSw); go_simp; try with_reducible rfl)
  try simp only [Act.put, List.setIfInBounds_toArray, List.set_cons_zero, List.set_cons_succ]
  refine takeTo (i := 6) (v := ?_) (some 92) rfl rfl (by kernel_rfl) (by kernel_rfl) (by kernel_rfl) (fun _ _ _ h => h) (Or.inl ⟨by rfl, ?_⟩) (by assumption) ?_
  rotate_left
  · (intro W7 hSw; (try dsimp only at hSw); go_simp; try with_reducible rfl)
  try simp only [Act.put, List.setIfInBounds_toArray, List.set_cons_zero, List.set_cons_succ]
  refine takeTo (i := 7) (v := ?_) (some 93) rfl rfl (by kernel_rfl) (by kernel_rfl) (by kernel_rfl) (fun _ _ _ h => h) (Or.inl ⟨by rfl, ?_⟩) (by assumption) ?_
  rotate_left
  · (intro W7 hSw; (try dsimp only at hSw); go_simp; try with_reducible rfl)
  try simp only [Act.put, List.setIfInBounds_toArray, List.set_cons_zero, List.set_cons_succ]
  refine takeTo (i := 8) (v := ?_) (some 94) rfl rfl (by kernel_rfl) (by kernel_rfl) (by kernel_rfl) (fun _ _ _ h => h) (Or.inl ⟨by rfl, ?_⟩) (by assumption) ?_
  rotate_left
  · (intro W7 hSw; (try dsimp only at hSw); go_simp; try with_reducible rfl)
  try simp only [Act.put, List.setIfInBounds_toArray, List.set_cons_zero, List.set_cons_succ]
  refine wpAnyH_ready (rs := [9]) (by kernel_rfl) (by simp) ?_
  refine AllReadyH.cons rfl (fun K hK => ?_) AllReadyH.nil
  rw [if_pos (by rfl)]
  go_wp2_with fail
  refine HC.out.mono ?_
  rintro r w4 ⟨rfl, t, a, k⟩
  obtain ⟨ob4, m', g', e', f'⟩ := V3.out.1.go V3.out.2.2 (K := 0) (by decide) hi (o' := _) (show isK 0 w4 _ from a) (V3.out.1.pts 0 i (by decide) hi).symm k (gr_nw _ _ _)
  have M4 := Lib.hid (And.intro m' (And.intro (t _ _ 51 (.inr rfl) V3.out.2.1) g'))
  have I4 := Lib.hid (And.intro (show Is (ob4 0 i) _ _ _ _ by rw [e']; exact is_get I3.out.1) (And.intro (show Is (ob4 1 i) _ _ _ _ by rw [f' 1 (by decide)]; exact I3.out.2.1) (show Is (ob4 2 i) _ _ _ _ by rw [f' 2 (by decide)]; exact I3.out.2.2)))
  have Y4 := Lib.hid (And.intro (show isLb w4 (ob4 1 i) qy by rw [f' 1 (by decide)]; exact YV3.out.1.kept k fun k f => V3.out.1.sys.ap 1 i 0 i (by decide) hi (by decide) hi (.inl (by decide)) k f) (t _ _ 3 (.inl rfl) YV3.out.2))
  clear m' g' e' f' a k t
  obtain ⟨sa, sb⟩ := M4.out.1.wo.at0 hi
  have sc : w4.cell? ⟨q, 2, none⟩ = some (.int .i64 e.n) := M4.out.2.1.cell 2
  have SS3 := Lib.hid (And.intro sa (And.intro sb sc))
  clear sa sb sc HC S3 V3 I3 YV3
  refine hK.out _ _ SS3.out (fun hHeld => ?_)
  clear hK K
  try simp only [Act.put, List.setIfInBounds_toArray, List.set_cons_zero, List.set_cons_succ]
  clear SS3
  refine takeTo (i := 10) (v := ?_) (some 85) rfl rfl (by kernel_rfl) (by kernel_rfl) (by kernel_rfl) (fun _ _ _ h => h) (Or.inl ⟨by rfl, ?_⟩) (by assumption) ?_
  rotate_left
  · (intro W7 hSw; (try dsimp only at hSw); go_simp; try with_reducible rfl)
  try simp only [Act.put, List.setIfInBounds_toArray, List.set_cons_zero, List.set_cons_succ]
  refine takeTo (i := 11) (v := ?_) (some 96) rfl rfl (by kernel_rfl) (by kernel_rfl) (by kernel_rfl) (fun _ _ _ h => h) (Or.inl ⟨by rfl, ?_⟩) (by assumption) ?_
  rotate_left
  · (intro W7 hSw; (try dsimp only at hSw); go_simp; try with_reducible rfl)
  try simp only [Act.put, List.setIfInBounds_toArray, List.set_cons_zero, List.set_cons_succ]
  refine takeTo (i := 12) (v := ?_) (some 97) rfl rfl (by kernel_rfl) (by kernel_rfl) (by kernel_rfl) (fun _ _ _ h => h) (Or.inl ⟨by rfl, ?_⟩) (by assumption) ?_
  rotate_left
  · (intro W7 hSw; (try dsimp only at hSw); go_simp; try with_reducible rfl)
  try simp only [Act.put, List.setIfInBounds_toArray, List.set_cons_zero, List.set_cons_succ]
  refine takeTo (i := 13) (v := ?_) (some 8) rfl rfl (by kernel_rfl) (by kernel_rfl) (by kernel_rfl) (fun _ _ _ h => h) (Or.inl ⟨by rfl, ?_⟩) (by assumption) ?_
  rotate_left
  · (intro W7 hSw; (try dsimp only at hSw); go_simp; try with_reducible rfl)
  try simp only [Act.put, List.setIfInBounds_toArray, List.set_cons_zero, List.set_cons_succ]
  refine takeTo (i := 14) (v := ?_) (some 9) rfl rfl (by kernel_rfl) (by kernel_rfl) (by kernel_rfl) (fun _ _ _ h => h) (Or.inl ⟨by rfl, ?_⟩) (by assumption) ?_
  rotate_left
  · (intro W7 hSw; (try dsimp only at hSw); go_simp; try with_reducible rfl)
  try simp only [Act.put, List.setIfInBounds_toArray, List.set_cons_zero, List.set_cons_succ]
  refine wpAnyH_done (by kernel_rfl) ?_ _
  clear hHeld
  go_upto_region 20 with fail
  have d4 := M4.out.1.frame (w' := w4.drew) (S := fun _ => False) (Kept.refl _ _).drew fun _ _ e => e
  have b4 : Blk w4.drew q 51 #[.int .i64 8, .int .i64 on, .int .i64 e.n, .int .i64 x] := M4.out.2.1
  have y4 := Y4.out.1.kept (w' := w4.drew) (S := fun _ => False) (Kept.refl _ _).drew fun _ _ e => e
  have z4 : Blk w4.drew qy 3 #[.int .i64 e.x] := Y4.out.2
  have YV4 := Lib.hid (And.intro y4 z4)
  clear y4 z4 Y4
  obtain ⟨sa, sb⟩ := d4.wo.at2 hi
  have sc : w4.drew.cell? ⟨q, 2, none⟩ = some (.int .i64 e.n) := b4.cell 2
  have S4 := Lib.hid (And.intro sa (And.intro sb sc))
  have V4 := Lib.hid (And.intro d4 (And.intro b4 M4.out.2.2))
  clear d4 b4 sa sb sc M4
  refine wp_region_held_drew (S := fun W' => W'.cell? ⟨gw, 2, none⟩ = some (.slice (some ⟨g2, 0, none⟩) N c2) ∧ W'.cell? ⟨g2, i, none⟩ = some (.pointer (some ⟨pt 2 i, 0, none⟩)) ∧ W'.cell? ⟨q, 2, none⟩ = some (.int .i64 e.n)) (by kernel_rfl) (by exact S4.out) (fun hHeld => ?_)
  change wpAnyH _ _ _ _ _ _ _ _ w4.drew
  generalize World.drew w4 = v4 at S4 V4 YV4 ⊢
  clear hHeld
  have HC := Lib.hid (R_get_some_s (V4.out.1.sys.ok 2 i (by decide) hi) I4.out.2.2.2.2.2 (nd_of (u := u) (v := v) (e := e) (HND.out) HIS.out) (by rw [I4.out.2.2.2.2.2]; exact HLE.out))
  rw [V4.out.1.pts 2 i (by decide) hi] at HC
  try dsimp only at HC
  refine takeTo (i := 0) (v := ?_) (some 99) rfl rfl (by kernel_rfl) (by kernel_rfl) (by kernel_rfl) (fun _ _ _ h => h) (Or.inl ⟨by rfl, ?_⟩) (by assumption) ?_
  rotate_left
  · (intro W7 hSw; (try dsimp only at hSw); go_simp; try with_reducible rfl)
  try simp only [Act.put, List.setIfInBounds_toArray, List.set_cons_zero, List.set_cons_succ]
  refine takeTo (i := 1) (v := ?_) (some 100) rfl rfl (by kernel_rfl) (by kernel_rfl) (by kernel_rfl) (fun _ _ _ h => h) (Or.inl ⟨by rfl, ?_⟩) (by assumption) ?_
  rotate_left
  · (intro W7 hSw; (try dsimp only at hSw); go_simp; try with_reducible rfl)
  try simp only [Act.put, List.setIfInBounds_toArray, List.set_cons_zero, List.set_cons_succ]
  refine takeTo (i := 2) (v := ?_) (some 101) rfl rfl (by kernel_rfl) (by kernel_rfl) (by kernel_rfl) (fun _ _ _ h => h) (Or.inl ⟨by rfl, ?_⟩) (by assumption) ?_
  rotate_left
  · (intro W7 hSw; (try dsimp only at hSw); go_simp; try with_reducible rfl)
  try simp only [Act.put, List.setIfInBounds_toArray, List.set_cons_zero, List.set_cons_succ]
  refine takeTo (i := 3) (v := ?_) (some 102) rfl rfl (by kernel_rfl) (by kernel_rfl) (by kernel_rfl) (fun _ _ _ h => h) (Or.inl ⟨by rfl, ?_⟩) (by assumption) ?_
  rotate_left
  · (intro W7 hSw; (try dsimp only at hSw); go_simp; try with_reducible rfl)
  try simp only [Act.put, List.setIfInBounds_toArray, List.set_cons_zero, List.set_cons_succ]
  refine takeTo (i := 4) (v := ?_) (some 103) rfl rfl (by kernel_rfl) (by kernel_rfl) (by kernel_rfl) (fun _ _ _ h => h) (Or.inl ⟨by rfl, ?_⟩) (by assumption) ?_
  rotate_left
  · (intro W7 hSw; (try dsimp only at hSw); go_simp; try with_reducible rfl)
  try simp only [Act.put, List.setIfInBounds_toArray, List.set_cons_zero, List.set_cons_succ]
  refine takeTo (i := 5) (v := ?_) (some 104) rfl rfl (by kernel_rfl) (by kernel_rfl) (by kernel_rfl) (fun _ _ _ h => h) (Or.inl ⟨by rfl, ?_⟩) (by assumption) ?_
  rotate_left
  · (intro W7 hSw; (try dsimp only at hSw); go_simp; try with_reducible rfl)
  try simp only [Act.put, List.setIfInBounds_toArray, List.set_cons_zero, List.set_cons_succ]
  refine takeTo (i := 6) (v := ?_) (some 105) rfl rfl (by kernel_rfl) (by kernel_rfl) (by kernel_rfl) (fun _ _ _ h => h) (Or.inl ⟨by rfl, ?_⟩) (by assumption) ?_
  rotate_left
  · (intro W7 hSw; (try dsimp only at hSw); go_simp; try with_reducible rfl)
  try simp only [Act.put, List.setIfInBounds_toArray, List.set_cons_zero, List.set_cons_succ]
  refine takeTo (i := 7) (v := ?_) (some 106) rfl rfl (by kernel_rfl) (by kernel_rfl) (by kernel_rfl) (fun _ _ _ h => h) (Or.inl ⟨by rfl, ?_⟩) (by assumption) ?_
  rotate_left
  · (intro W7 hSw; (try dsimp only at hSw); go_simp; try with_reducible rfl)
  try simp only [Act.put, List.setIfInBounds_toArray, List.set_cons_zero, List.set_cons_succ]
  refine takeTo (i := 8) (v := ?_) (some 107) rfl rfl (by kernel_rfl) (by kernel_rfl) (by kernel_rfl) (fun _ _ _ h => h) (Or.inl ⟨by rfl, ?_⟩) (by assumption) ?_
  rotate_left
  · (intro W7 hSw; (try dsimp only at hSw); go_simp; try with_reducible rfl)
  try simp only [Act.put, List.setIfInBounds_toArray, List.set_cons_zero, List.set_cons_succ]
  refine wpAnyH_ready (rs := [9]) (by kernel_rfl) (by simp) ?_
  refine AllReadyH.cons rfl (fun K hK => ?_) AllReadyH.nil
  rw [if_pos (by rfl)]
  go_wp2_with fail
  refine HC.out.mono ?_
  rintro r w5 ⟨rfl, t, a, k⟩
  obtain ⟨ob5, m', g', e', f'⟩ := V4.out.1.go V4.out.2.2 (K := 2) (by decide) hi (o' := _) (show isK 2 w5 _ from a) (V4.out.1.pts 2 i (by decide) hi).symm k (gr_nw _ _ _)
  have M5 := Lib.hid (And.intro m' (And.intro (t _ _ 51 (.inr rfl) V4.out.2.1) g'))
  have I5 := Lib.hid (And.intro (show Is (ob5 0 i) _ _ _ _ by rw [f' 0 (by decide)]; exact I4.out.1) (And.intro (show Is (ob5 1 i) _ _ _ _ by rw [f' 1 (by decide)]; exact I4.out.2.1) (show Is (ob5 2 i) _ _ _ _ by rw [e']; exact is_get I4.out.2.2)))
  have Y5 := Lib.hid (And.intro (show isLb w5 (ob5 1 i) qy by rw [f' 1 (by decide)]; exact YV4.out.1.kept k fun k f => V4.out.1.sys.ap 1 i 2 i (by decide) hi (by decide) hi (.inl (by decide)) k f) (t _ _ 3 (.inl rfl) YV4.out.2))
  clear m' g' e' f' a k t
  obtain ⟨sa, sb⟩ := M5.out.1.wo.at2 hi
  have sc : w5.cell? ⟨q, 2, none⟩ = some (.int .i64 e.n) := M5.out.2.1.cell 2
  have SS4 := Lib.hid (And.intro sa (And.intro sb sc))
  clear sa sb sc HC S4 V4 I4 YV4
  refine hK.out _ _ SS4.out (fun hHeld => ?_)
  clear hK K
  try simp only [Act.put, List.setIfInBounds_toArray, List.set_cons_zero, List.set_cons_succ]
  clear SS4
  refine takeTo (i := 10) (v := ?_) (some 98) rfl rfl (by kernel_rfl) (by kernel_rfl) (by kernel_rfl) (fun _ _ _ h => h) (Or.inl ⟨by rfl, ?_⟩) (by assumption) ?_
  rotate_left
  · (intro W7 hSw; (try dsimp only at hSw); go_simp; try with_reducible rfl)
  try simp only [Act.put, List.setIfInBounds_toArray, List.set_cons_zero, List.set_cons_succ]
  refine takeTo (i := 11) (v := ?_) (some 109) rfl rfl (by kernel_rfl) (by kernel_rfl) (by kernel_rfl) (fun _ _ _ h => h) (Or.inl ⟨by rfl, ?_⟩) (by assumption) ?_
  rotate_left
  · (intro W7 hSw; (try dsimp only at hSw); go_simp; try with_reducible rfl)
  try simp only [Act.put, List.setIfInBounds_toArray, List.set_cons_zero, List.set_cons_succ]
  refine takeTo (i := 12) (v := ?_) (some 110) rfl rfl (by kernel_rfl) (by kernel_rfl) (by kernel_rfl) (fun _ _ _ h => h) (Or.inl ⟨by rfl, ?_⟩) (by assumption) ?_
  rotate_left
  · (intro W7 hSw; (try dsimp only at hSw); go_simp; try with_reducible rfl)
  try simp only [Act.put, List.setIfInBounds_toArray, List.set_cons_zero, List.set_cons_succ]
  refine takeTo (i := 13) (v := ?_) (some 10) rfl rfl (by kernel_rfl) (by kernel_rfl) (by kernel_rfl) (fun _ _ _ h => h) (Or.inl ⟨by rfl, ?_⟩) (by assumption) ?_
  rotate_left
  · (intro W7 hSw; (try dsimp only at hSw); go_simp; try with_reducible rfl)
  try simp only [Act.put, List.setIfInBounds_toArray, List.set_cons_zero, List.set_cons_succ]
  refine takeTo (i := 14) (v := ?_) (some 11) rfl rfl (by kernel_rfl) (by kernel_rfl) (by kernel_rfl) (fun _ _ _ h => h) (Or.inl ⟨by rfl, ?_⟩) (by assumption) ?_
  rotate_left
  · (intro W7 hSw; (try dsimp only at hSw); go_simp; try with_reducible rfl)
  try simp only [Act.put, List.setIfInBounds_toArray, List.set_cons_zero, List.set_cons_succ]
  refine wpAnyH_done (by kernel_rfl) ?_ _
  clear hHeld
  have cy : w5.cell? ⟨qy, 0, none⟩ = some (.int .i64 e.x) := Y5.out.2.cell 0
  have fy := Y5.out.2.free 0
  have t3 : w5.cell? ⟨q, 3, none⟩ = some (.int .i64 x) := M5.out.2.1.cell 3
  go_upto_region 27 with fail
  clear cy fy t3
  obtain ⟨w6, hw6⟩ : ∃ w6, w6 = w5.setCell ⟨qy, 0, none⟩ (.int .i64 x) := ⟨_, rfl⟩
  rw [← hw6]
  obtain ⟨a, k, b, fq⟩ := Y5.out.1.write (u := u ++ v) (t := e) I5.out.2.1.2.2.2 x
  rw [← hw6] at a k b
  have hq : q ≠ qy := types_ne M5.out.2.1 Y5.out.2 (by decide)
  have bx := M5.out.2.1.kept k hq
  obtain ⟨ob6, m', g', e', f'⟩ := M5.out.1.go M5.out.2.2 (K := 1) (by decide) hi (o' := _) (show isK 1 w6 _ from a) rfl (k.mono fun k _ e => by rw [e]; exact fq) fun k f => .inl f
  have M6 := Lib.hid (And.intro m' (And.intro bx g'))
  have I6 := Lib.hid (And.intro (show Is (ob6 0 i) _ _ _ _ by rw [f' 0 (by decide)]; exact I5.out.1) (And.intro (show Is (ob6 1 i) _ _ _ (u ++ v ++ ({ e with x := x } : Th) :: []) by rw [e']; exact is_lay I5.out.2.1) (show Is (ob6 2 i) _ _ _ _ by rw [f' 2 (by decide)]; exact I5.out.2.2)))
  have Y6 := Lib.hid b
  have HND2 := Lib.hid (show isA w6 (ob6 0 i) from m'.sys.ok 0 i (by decide) hi)
  have HIS2 := Lib.hid (show Is (ob6 0 i) _ _ _ (u ++ v ++ e :: []) from I6.out.1)
  have HLE2 := Lib.hid (show (u ++ v ++ e :: []).length ≤ 65536 by have := HLE.out; simp at this ⊢; omega)
  clear m' g' e' f' a k b fq bx hq hw6 M5 I5 Y5 HND HIS
  go_upto_region 27 with fail
  have d6 := M6.out.1.frame (w' := w6.drew) (S := fun _ => False) (Kept.refl _ _).drew fun _ _ e => e
  have b6 : Blk w6.drew q 51 #[.int .i64 8, .int .i64 on, .int .i64 e.n, .int .i64 x] := M6.out.2.1
  have z6 : Blk w6.drew qy 3 #[.int .i64 x] := Y6.out
  have YV6 := Lib.hid z6
  clear z6 Y6
  obtain ⟨sa, sb⟩ := d6.wo.at1 hi
  have sc : w6.drew.cell? ⟨q, 2, none⟩ = some (.int .i64 e.n) := b6.cell 2
  have S6 := Lib.hid (And.intro sa (And.intro sb sc))
  have V6 := Lib.hid (And.intro d6 (And.intro b6 M6.out.2.2))
  clear d6 b6 sa sb sc M6
  refine wp_region_held_drew (S := fun W' => W'.cell? ⟨gw, 1, none⟩ = some (.slice (some ⟨g1, 0, none⟩) N c1) ∧ W'.cell? ⟨g1, i, none⟩ = some (.pointer (some ⟨pt 1 i, 0, none⟩)) ∧ W'.cell? ⟨q, 2, none⟩ = some (.int .i64 e.n)) (by kernel_rfl) (by exact S6.out) (fun hHeld => ?_)
  change wpAnyH _ _ _ _ _ _ _ _ w6.drew
  generalize World.drew w6 = v6 at S6 V6 YV6 ⊢
  clear hHeld
  have HC := Lib.hid (L_get_some_s (V6.out.1.sys.ok 1 i (by decide) hi) I6.out.2.1.2.2.2)
  rw [V6.out.1.pts 1 i (by decide) hi] at HC
  try dsimp only at HC
  refine takeTo (i := 0) (v := ?_) (some 128) rfl rfl (by kernel_rfl) (by kernel_rfl) (by kernel_rfl) (fun _ _ _ h => h) (Or.inl ⟨by rfl, ?_⟩) (by assumption) ?_
  rotate_left
  · (intro W7 hSw; (try dsimp only at hSw); go_simp; try with_reducible rfl)
  try simp only [Act.put, List.setIfInBounds_toArray, List.set_cons_zero, List.set_cons_succ]
  refine takeTo (i := 1) (v := ?_) (some 129) rfl rfl (by kernel_rfl) (by kernel_rfl) (by kernel_rfl) (fun _ _ _ h => h) (Or.inl ⟨by rfl, ?_⟩) (by assumption) ?_
  rotate_left
  · (intro W7 hSw; (try dsimp only at hSw); go_simp; try with_reducible rfl)
  try simp only [Act.put, List.setIfInBounds_toArray, List.set_cons_zero, List.set_cons_succ]
  refine takeTo (i := 2) (v := ?_) (some 130) rfl rfl (by kernel_rfl) (by kernel_rfl) (by kernel_rfl) (fun _ _ _ h => h) (Or.inl ⟨by rfl, ?_⟩) (by assumption) ?_
  rotate_left
  · (intro W7 hSw; (try dsimp only at hSw); go_simp; try with_reducible rfl)
  try simp only [Act.put, List.setIfInBounds_toArray, List.set_cons_zero, List.set_cons_succ]
  refine takeTo (i := 3) (v := ?_) (some 131) rfl rfl (by kernel_rfl) (by kernel_rfl) (by kernel_rfl) (fun _ _ _ h => h) (Or.inl ⟨by rfl, ?_⟩) (by assumption) ?_
  rotate_left
  · (intro W7 hSw; (try dsimp only at hSw); go_simp; try with_reducible rfl)
  try simp only [Act.put, List.setIfInBounds_toArray, List.set_cons_zero, List.set_cons_succ]
  refine takeTo (i := 4) (v := ?_) (some 132) rfl rfl (by kernel_rfl) (by kernel_rfl) (by kernel_rfl) (fun _ _ _ h => h) (Or.inl ⟨by rfl, ?_⟩) (by assumption) ?_
  rotate_left
  · (intro W7 hSw; (try dsimp only at hSw); go_simp; try with_reducible rfl)
  try simp only [Act.put, List.setIfInBounds_toArray, List.set_cons_zero, List.set_cons_succ]
  refine takeTo (i := 5) (v := ?_) (some 133) rfl rfl (by kernel_rfl) (by kernel_rfl) (by kernel_rfl) (fun _ _ _ h => h) (Or.inl ⟨by rfl, ?_⟩) (by assumption) ?_
  rotate_left
  · (intro W7 hSw; (try dsimp only at hSw); go_simp; try with_reducible rfl)
  try simp only [Act.put, List.setIfInBounds_toArray, List.set_cons_zero, List.set_cons_succ]
  refine takeTo (i := 6) (v := ?_) (some 134) rfl rfl (by kernel_rfl) (by kernel_rfl) (by kernel_rfl) (fun _ _ _ h => h) (Or.inl ⟨by rfl, ?_⟩) (by assumption) ?_
  rotate_left
  · (intro W7 hSw; (try dsimp only at hSw); go_simp; try with_reducible rfl)
  try simp only [Act.put, List.setIfInBounds_toArray, List.set_cons_zero, List.set_cons_succ]
  refine takeTo (i := 7) (v := ?_) (some 135) rfl rfl (by kernel_rfl) (by kernel_rfl) (by kernel_rfl) (fun _ _ _ h => h) (Or.inl ⟨by rfl, ?_⟩) (by assumption) ?_
  rotate_left
  · (intro W7 hSw; (try dsimp only at hSw); go_simp; try with_reducible rfl)
  try simp only [Act.put, List.setIfInBounds_toArray, List.set_cons_zero, List.set_cons_succ]
  refine takeTo (i := 8) (v := ?_) (some 136) rfl rfl (by kernel_rfl) (by kernel_rfl) (by kernel_rfl) (fun _ _ _ h => h) (Or.inl ⟨by rfl, ?_⟩) (by assumption) ?_
  rotate_left
  · (intro W7 hSw; (try dsimp only at hSw); go_simp; try with_reducible rfl)
  try simp only [Act.put, List.setIfInBounds_toArray, List.set_cons_zero, List.set_cons_succ]
  refine wpAnyH_ready (rs := [9]) (by kernel_rfl) (by simp) ?_
  refine AllReadyH.cons rfl (fun K hK => ?_) AllReadyH.nil
  rw [if_pos (by rfl)]
  go_wp2_with fail
  refine HC.out.mono ?_
  rintro r w7 ⟨qz, rfl, t, a, k, b, fq⟩
  obtain ⟨ob7, m', g', e', f'⟩ := V6.out.1.go V6.out.2.2 (K := 1) (by decide) hi (o' := _) (show isK 1 w7 _ from a.weak) (V6.out.1.pts 1 i (by decide) hi).symm k (gr2_nw _ _ _)
  have M7 := Lib.hid (And.intro m' (And.intro (t _ _ 51 (.inr rfl) V6.out.2.1) g'))
  have I7 := Lib.hid (And.intro (show Is (ob7 0 i) _ _ _ _ by rw [f' 0 (by decide)]; exact I6.out.1) (And.intro (show Is (ob7 1 i) _ _ _ _ by rw [e']; exact is_get I6.out.2.1) (show Is (ob7 2 i) _ _ _ _ by rw [f' 2 (by decide)]; exact I6.out.2.2)))
  have Y7 := Lib.hid (And.intro (t _ _ 3 (.inl rfl) YV6.out) b)
  clear m' g' e' f' a k t b fq
  obtain ⟨sa, sb⟩ := M7.out.1.wo.at1 hi
  have sc : w7.cell? ⟨q, 2, none⟩ = some (.int .i64 e.n) := M7.out.2.1.cell 2
  have SS6 := Lib.hid (And.intro sa (And.intro sb sc))
  clear sa sb sc HC S6 V6 I6 YV6
  refine hK.out _ _ SS6.out (fun hHeld => ?_)
  clear hK K
  try simp only [Act.put, List.setIfInBounds_toArray, List.set_cons_zero, List.set_cons_succ]
  clear SS6
  refine takeTo (i := 10) (v := ?_) (some 127) rfl rfl (by kernel_rfl) (by kernel_rfl) (by kernel_rfl) (fun _ _ _ h => h) (Or.inl ⟨by rfl, ?_⟩) (by assumption) ?_
  rotate_left
  · (intro W7 hSw; (try dsimp only at hSw); go_simp; try with_reducible rfl)
  try simp only [Act.put, List.setIfInBounds_toArray, List.set_cons_zero, List.set_cons_succ]
  refine takeTo (i := 11) (v := ?_) (some 138) rfl rfl (by kernel_rfl) (by kernel_rfl) (by kernel_rfl) (fun _ _ _ h => h) (Or.inl ⟨by rfl, ?_⟩) (by assumption) ?_
  rotate_left
  · (intro W7 hSw; (try dsimp only at hSw); go_simp; try with_reducible rfl)
  try simp only [Act.put, List.setIfInBounds_toArray, List.set_cons_zero, List.set_cons_succ]
  refine takeTo (i := 12) (v := ?_) (some 139) rfl rfl (by kernel_rfl) (by kernel_rfl) (by kernel_rfl) (fun _ _ _ h => h) (Or.inl ⟨by rfl, ?_⟩) (by assumption) ?_
  rotate_left
  · (intro W7 hSw; (try dsimp only at hSw); go_simp; try with_reducible rfl)
  try simp only [Act.put, List.setIfInBounds_toArray, List.set_cons_zero, List.set_cons_succ]
  refine takeTo (i := 13) (v := ?_) (some 12) rfl rfl (by kernel_rfl) (by kernel_rfl) (by kernel_rfl) (fun _ _ _ h => h) (Or.inl ⟨by rfl, ?_⟩) (by assumption) ?_
  rotate_left
  · (intro W7 hSw; (try dsimp only at hSw); go_simp; try with_reducible rfl)
  try simp only [Act.put, List.setIfInBounds_toArray, List.set_cons_zero, List.set_cons_succ]
  refine takeTo (i := 14) (v := ?_) (some 13) rfl rfl (by kernel_rfl) (by kernel_rfl) (by kernel_rfl) (fun _ _ _ h => h) (Or.inl ⟨by rfl, ?_⟩) (by assumption) ?_
  rotate_left
  · (intro W7 hSw; (try dsimp only at hSw); go_simp; try with_reducible rfl)
  try simp only [Act.put, List.setIfInBounds_toArray, List.set_cons_zero, List.set_cons_succ]
  refine wpAnyH_done (by kernel_rfl) ?_ _
  clear hHeld
  go_upto_region 28 with fail
  have d7 := M7.out.1.frame (w' := w7.drew) (S := fun _ => False) (Kept.refl _ _).drew fun _ _ e => e
  have b7 : Blk w7.drew q 51 #[.int .i64 8, .int .i64 on, .int .i64 e.n, .int .i64 x] := M7.out.2.1
  have z7 : Blk w7.drew qy 3 #[.int .i64 x] ∧ Blk w7.drew qz 3 #[.int .i64 x] := Y7.out
  have YV7 := Lib.hid z7
  clear z7 Y7
  obtain ⟨sa, sb⟩ := d7.wo.at0 hi
  have sc : w7.drew.cell? ⟨q, 2, none⟩ = some (.int .i64 e.n) := b7.cell 2
  have S7 := Lib.hid (And.intro sa (And.intro sb sc))
  have V7 := Lib.hid (And.intro d7 (And.intro b7 M7.out.2.2))
  clear d7 b7 sa sb sc M7
  refine wp_region_held_drew (S := fun W' => W'.cell? ⟨gw, 0, none⟩ = some (.slice (some ⟨g0, 0, none⟩) N c0) ∧ W'.cell? ⟨g0, i, none⟩ = some (.pointer (some ⟨pt 0 i, 0, none⟩)) ∧ W'.cell? ⟨q, 2, none⟩ = some (.int .i64 e.n)) (by kernel_rfl) (by exact S7.out) (fun hHeld => ?_)
  change wpAnyH _ _ _ _ _ _ _ _ w7.drew
  generalize World.drew w7 = v7 at S7 V7 YV7 ⊢
  clear hHeld
  have HC := Lib.hid (A_get_some_s (V7.out.1.sys.ok 0 i (by decide) hi) (u := u ++ v) (e := e) (v := []) I7.out.1.2.2.2)
  rw [V7.out.1.pts 0 i (by decide) hi] at HC
  try dsimp only at HC
  refine takeTo (i := 0) (v := ?_) (some 140) rfl rfl (by kernel_rfl) (by kernel_rfl) (by kernel_rfl) (fun _ _ _ h => h) (Or.inl ⟨by rfl, ?_⟩) (by assumption) ?_
  rotate_left
  · (intro W7 hSw; (try dsimp only at hSw); go_simp; try with_reducible rfl)
  try simp only [Act.put, List.setIfInBounds_toArray, List.set_cons_zero, List.set_cons_succ]
  refine takeTo (i := 1) (v := ?_) (some 141) rfl rfl (by kernel_rfl) (by kernel_rfl) (by kernel_rfl) (fun _ _ _ h => h) (Or.inl ⟨by rfl, ?_⟩) (by assumption) ?_
  rotate_left
  · (intro W7 hSw; (try dsimp only at hSw); go_simp; try with_reducible rfl)
  try simp only [Act.put, List.setIfInBounds_toArray, List.set_cons_zero, List.set_cons_succ]
  refine takeTo (i := 2) (v := ?_) (some 142) rfl rfl (by kernel_rfl) (by kernel_rfl) (by kernel_rfl) (fun _ _ _ h => h) (Or.inl ⟨by rfl, ?_⟩) (by assumption) ?_
  rotate_left
  · (intro W7 hSw; (try dsimp only at hSw); go_simp; try with_reducible rfl)
  try simp only [Act.put, List.setIfInBounds_toArray, List.set_cons_zero, List.set_cons_succ]
  refine takeTo (i := 3) (v := ?_) (some 143) rfl rfl (by kernel_rfl) (by kernel_rfl) (by kernel_rfl) (fun _ _ _ h => h) (Or.inl ⟨by rfl, ?_⟩) (by assumption) ?_
  rotate_left
  · (intro W7 hSw; (try dsimp only at hSw); go_simp; try with_reducible rfl)
  try simp only [Act.put, List.setIfInBounds_toArray, List.set_cons_zero, List.set_cons_succ]
  refine takeTo (i := 4) (v := ?_) (some 144) rfl rfl (by kernel_rfl) (by kernel_rfl) (by kernel_rfl) (fun _ _ _ h => h) (Or.inl ⟨by rfl, ?_⟩) (by assumption) ?_
  rotate_left
  · (intro W7 hSw; (try dsimp only at hSw); go_simp; try with_reducible rfl)
  try simp only [Act.put, List.setIfInBounds_toArray, List.set_cons_zero, List.set_cons_succ]
  refine takeTo (i := 5) (v := ?_) (some 145) rfl rfl (by kernel_rfl) (by kernel_rfl) (by kernel_rfl) (fun _ _ _ h => h) (Or.inl ⟨by rfl, ?_⟩) (by assumption) ?_
  rotate_left
  · (intro W7 hSw; (try dsimp only at hSw); go_simp; try with_reducible rfl)
  try simp only [Act.put, List.setIfInBounds_toArray, List.set_cons_zero, List.set_cons_succ]
  refine takeTo (i := 6) (v := ?_) (some 146) rfl rfl (by kernel_rfl) (by kernel_rfl) (by kernel_rfl) (fun _ _ _ h => h) (Or.inl ⟨by rfl, ?_⟩) (by assumption) ?_
  rotate_left
  · (intro W7 hSw; (try dsimp only at hSw); go_simp; try with_reducible rfl)
  try simp only [Act.put, List.setIfInBounds_toArray, List.set_cons_zero, List.set_cons_succ]
  refine takeTo (i := 7) (v := ?_) (some 147) rfl rfl (by kernel_rfl) (by kernel_rfl) (by kernel_rfl) (fun _ _ _ h => h) (Or.inl ⟨by rfl, ?_⟩) (by assumption) ?_
  rotate_left
  · (intro W7 hSw; (try dsimp only at hSw); go_simp; try with_reducible rfl)
  try simp only [Act.put, List.setIfInBounds_toArray, List.set_cons_zero, List.set_cons_succ]
  refine takeTo (i := 8) (v := ?_) (some 148) rfl rfl (by kernel_rfl) (by kernel_rfl) (by kernel_rfl) (fun _ _ _ h => h) (Or.inl ⟨by rfl, ?_⟩) (by assumption) ?_
  rotate_left
  · (intro W7 hSw; (try dsimp only at hSw); go_simp; try with_reducible rfl)
  try simp only [Act.put, List.setIfInBounds_toArray, List.set_cons_zero, List.set_cons_succ]
  refine wpAnyH_ready (rs := [9]) (by kernel_rfl) (by simp) ?_
  refine AllReadyH.cons rfl (fun K hK => ?_) AllReadyH.nil
  rw [if_pos (by rfl)]
  go_wp2_with fail
  refine HC.out.mono ?_
  rintro r w8 ⟨rfl, t, a, k⟩
  obtain ⟨ob8, m', g', e', f'⟩ := V7.out.1.go V7.out.2.2 (K := 0) (by decide) hi (o' := _) (show isK 0 w8 _ from a) (V7.out.1.pts 0 i (by decide) hi).symm k (gr_nw _ _ _)
  have M8 := Lib.hid (And.intro m' (And.intro (t _ _ 51 (.inr rfl) V7.out.2.1) g'))
  have I8 := Lib.hid (And.intro (show Is (ob8 0 i) _ _ _ _ by rw [e']; exact is_get I7.out.1) (And.intro (show Is (ob8 1 i) _ _ _ _ by rw [f' 1 (by decide)]; exact I7.out.2.1) (show Is (ob8 2 i) _ _ _ _ by rw [f' 2 (by decide)]; exact I7.out.2.2)))
  have Y8 := Lib.hid (And.intro (t _ _ 3 (.inl rfl) YV7.out.1) (t _ _ 3 (.inl rfl) YV7.out.2))
  clear m' g' e' f' a k t
  obtain ⟨sa, sb⟩ := M8.out.1.wo.at0 hi
  have sc : w8.cell? ⟨q, 2, none⟩ = some (.int .i64 e.n) := M8.out.2.1.cell 2
  have SS7 := Lib.hid (And.intro sa (And.intro sb sc))
  clear sa sb sc HC S7 V7 I7 YV7
  refine hK.out _ _ SS7.out (fun hHeld => ?_)
  clear hK K
  try simp only [Act.put, List.setIfInBounds_toArray, List.set_cons_zero, List.set_cons_succ]
  clear SS7
  refine wpAnyH_done (by kernel_rfl) ?_ _
  clear hHeld
  go_upto_region 29 with fail
  have d8 := M8.out.1.frame (w' := w8.drew) (S := fun _ => False) (Kept.refl _ _).drew fun _ _ e => e
  have b8 : Blk w8.drew q 51 #[.int .i64 8, .int .i64 on, .int .i64 e.n, .int .i64 x] := M8.out.2.1
  have z8 : Blk w8.drew qy 3 #[.int .i64 x] ∧ Blk w8.drew qz 3 #[.int .i64 x] := Y8.out
  have YV8 := Lib.hid z8
  clear z8 Y8
  obtain ⟨sa, sb⟩ := d8.wo.at2 hi
  have sc : w8.drew.cell? ⟨q, 2, none⟩ = some (.int .i64 e.n) := b8.cell 2
  have S8 := Lib.hid (And.intro sa (And.intro sb sc))
  have V8 := Lib.hid (And.intro d8 (And.intro b8 M8.out.2.2))
  clear d8 b8 sa sb sc M8
  refine wp_region_held_drew (S := fun W' => W'.cell? ⟨gw, 2, none⟩ = some (.slice (some ⟨g2, 0, none⟩) N c2) ∧ W'.cell? ⟨g2, i, none⟩ = some (.pointer (some ⟨pt 2 i, 0, none⟩)) ∧ W'.cell? ⟨q, 2, none⟩ = some (.int .i64 e.n)) (by kernel_rfl) (by exact S8.out) (fun hHeld => ?_)
  change wpAnyH _ _ _ _ _ _ _ _ w8.drew
  generalize World.drew w8 = v8 at S8 V8 YV8 ⊢
  clear hHeld
  have HC := Lib.hid (R_get_some_s (V8.out.1.sys.ok 2 i (by decide) hi) (u := u ++ v) (e := e) (v := []) I8.out.2.2.2.2.2 (nd_of HND2.out HIS2.out) (by rw [I8.out.2.2.2.2.2]; exact HLE2.out))
  rw [V8.out.1.pts 2 i (by decide) hi] at HC
  try dsimp only at HC
  refine takeTo (i := 0) (v := ?_) (some 150) rfl rfl (by kernel_rfl) (by kernel_rfl) (by kernel_rfl) (fun _ _ _ h => h) (Or.inl ⟨by rfl, ?_⟩) (by assumption) ?_
  rotate_left
  · (intro W7 hSw; (try dsimp only at hSw); go_simp; try with_reducible rfl)
  try simp only [Act.put, List.setIfInBounds_toArray, List.set_cons_zero, List.set_cons_succ]
  refine takeTo (i := 1) (v := ?_) (some 151) rfl rfl (by kernel_rfl) (by kernel_rfl) (by kernel_rfl) (fun _ _ _ h => h) (Or.inl ⟨by rfl, ?_⟩) (by assumption) ?_
  rotate_left
  · (intro W7 hSw; (try dsimp only at hSw); go_simp; try with_reducible rfl)
  try simp only [Act.put, List.setIfInBounds_toArray, List.set_cons_zero, List.set_cons_succ]
  refine takeTo (i := 2) (v := ?_) (some 152) rfl rfl (by kernel_rfl) (by kernel_rfl) (by kernel_rfl) (fun _ _ _ h => h) (Or.inl ⟨by rfl, ?_⟩) (by assumption) ?_
  rotate_left
  · (intro W7 hSw; (try dsimp only at hSw); go_simp; try with_reducible rfl)
  try simp only [Act.put, List.setIfInBounds_toArray, List.set_cons_zero, List.set_cons_succ]
  refine takeTo (i := 3) (v := ?_) (some 153) rfl rfl (by kernel_rfl) (by kernel_rfl) (by kernel_rfl) (fun _ _ _ h => h) (Or.inl ⟨by rfl, ?_⟩) (by assumption) ?_
  rotate_left
  · (intro W7 hSw; (try dsimp only at hSw); go_simp; try with_reducible rfl)
  try simp only [Act.put, List.setIfInBounds_toArray, List.set_cons_zero, List.set_cons_succ]
  refine takeTo (i := 4) (v := ?_) (some 154) rfl rfl (by kernel_rfl) (by kernel_rfl) (by kernel_rfl) (fun _ _ _ h => h) (Or.inl ⟨by rfl, ?_⟩) (by assumption) ?_
  rotate_left
  · (intro W7 hSw; (try dsimp only at hSw); go_simp; try with_reducible rfl)
  try simp only [Act.put, List.setIfInBounds_toArray, List.set_cons_zero, List.set_cons_succ]
  refine takeTo (i := 5) (v := ?_) (some 155) rfl rfl (by kernel_rfl) (by kernel_rfl) (by kernel_rfl) (fun _ _ _ h => h) (Or.inl ⟨by rfl, ?_⟩) (by assumption) ?_
  rotate_left
  · (intro W7 hSw; (try dsimp only at hSw); go_simp; try with_reducible rfl)
  try simp only [Act.put, List.setIfInBounds_toArray, List.set_cons_zero, List.set_cons_succ]
  refine takeTo (i := 6) (v := ?_) (some 156) rfl rfl (by kernel_rfl) (by kernel_rfl) (by kernel_rfl) (fun _ _ _ h => h) (Or.inl ⟨by rfl, ?_⟩) (by assumption) ?_
  rotate_left
  · (intro W7 hSw; (try dsimp only at hSw); go_simp; try with_reducible rfl)
  try simp only [Act.put, List.setIfInBounds_toArray, List.set_cons_zero, List.set_cons_succ]
  refine takeTo (i := 7) (v := ?_) (some 157) rfl rfl (by kernel_rfl) (by kernel_rfl) (by kernel_rfl) (fun _ _ _ h => h) (Or.inl ⟨by rfl, ?_⟩) (by assumption) ?_
  rotate_left
  · (intro W7 hSw; (try dsimp only at hSw); go_simp; try with_reducible rfl)
  try simp only [Act.put, List.setIfInBounds_toArray, List.set_cons_zero, List.set_cons_succ]
  refine takeTo (i := 8) (v := ?_) (some 158) rfl rfl (by kernel_rfl) (by kernel_rfl) (by kernel_rfl) (fun _ _ _ h => h) (Or.inl ⟨by rfl, ?_⟩) (by assumption) ?_
  rotate_left
  · (intro W7 hSw; (try dsimp only at hSw); go_simp; try with_reducible rfl)
  try simp only [Act.put, List.setIfInBounds_toArray, List.set_cons_zero, List.set_cons_succ]
  refine wpAnyH_ready (rs := [9]) (by kernel_rfl) (by simp) ?_
  refine AllReadyH.cons rfl (fun K hK => ?_) AllReadyH.nil
  rw [if_pos (by rfl)]
  go_wp2_with fail
  refine HC.out.mono ?_
  rintro r w9 ⟨rfl, t, a, k⟩
  obtain ⟨ob9, m', g', e', f'⟩ := V8.out.1.go V8.out.2.2 (K := 2) (by decide) hi (o' := _) (show isK 2 w9 _ from a) (V8.out.1.pts 2 i (by decide) hi).symm k (gr_nw _ _ _)
  have M9 := Lib.hid (And.intro m' (And.intro (t _ _ 51 (.inr rfl) V8.out.2.1) g'))
  have I9 := Lib.hid (And.intro (show Is (ob9 0 i) _ _ _ _ by rw [f' 0 (by decide)]; exact I8.out.1) (And.intro (show Is (ob9 1 i) _ _ _ _ by rw [f' 1 (by decide)]; exact I8.out.2.1) (show Is (ob9 2 i) _ _ _ _ by rw [e']; exact is_get I8.out.2.2)))
  have Y9 := Lib.hid (And.intro (t _ _ 3 (.inl rfl) YV8.out.1) (t _ _ 3 (.inl rfl) YV8.out.2))
  clear m' g' e' f' a k t
  obtain ⟨sa, sb⟩ := M9.out.1.wo.at2 hi
  have sc : w9.cell? ⟨q, 2, none⟩ = some (.int .i64 e.n) := M9.out.2.1.cell 2
  have SS8 := Lib.hid (And.intro sa (And.intro sb sc))
  clear sa sb sc HC S8 V8 I8 YV8
  refine hK.out _ _ SS8.out (fun hHeld => ?_)
  clear hK K
  try simp only [Act.put, List.setIfInBounds_toArray, List.set_cons_zero, List.set_cons_succ]
  clear SS8
  refine wpAnyH_done (by kernel_rfl) ?_ _
  clear hHeld
  have HC := Lib.hid (puts_turn (u := u ++ v ++ []) (v := []) (e := e) (e2 := { e with x := x }) x M9.out.1 M9.out.2.2 hi I9.out.1 I9.out.2.1 I9.out.2.2 rfl rfl HM.out.1 HM.out.2.1 (by have := HM.out.2.2.1; simp at this ⊢; omega) (fun t ht => HM.out.2.2.2 t (by simp only [List.mem_append, List.mem_cons, List.not_mem_nil, or_false] at ht ⊢; rcases ht with (ht | ht) | ht <;> simp [ht])))
  have t2 : w9.cell? ⟨q, 2, none⟩ = some (.int .i64 e.n) := M9.out.2.1.cell 2
  have t3 : w9.cell? ⟨q, 3, none⟩ = some (.int .i64 x) := M9.out.2.1.cell 3
  go_upto_region 31 with (first
    | (go_at_call 24
       refine HC.out.mono ?_
       rintro r w10 ⟨rfl, t, ob10, m', g'⟩
       have MM := Lib.hid (And.intro m' g')
       have S10 := Lib.hid (And.intro ((t _ _ 51 (.inr rfl) M9.out.2.1).cell 3) (And.intro ((t _ _ 3 (.inl rfl) Y9.out.1).cell 0) ((t _ _ 3 (.inl rfl) Y9.out.2).cell 0)))
       clear m' g' t)
    | fail)
  clear t2 t3 HC M9 Y9 I9
  have qx : (x == x) = true := by simp
  refine wp_region_held_drew (S := fun W' => W'.cell? ⟨q, 3, none⟩ = some (.int .i64 x) ∧ W'.cell? ⟨qy, 0, none⟩ = some (.int .i64 x) ∧ W'.cell? ⟨qz, 0, none⟩ = some (.int .i64 x)) (by kernel_rfl) (by exact S10.out) (fun hHeld => ?_)
  refine takeTo (i := 0) (v := ?_) (some 167) rfl rfl (by kernel_rfl) (by kernel_rfl) (by kernel_rfl) (fun _ _ _ h => h) (Or.inl ⟨by rfl, ?_⟩) (by assumption) ?_
  rotate_left
  · (intro W7 hSw; (try dsimp only at hSw); go_simp; try with_reducible rfl)
  try simp only [Act.put, List.setIfInBounds_toArray, List.set_cons_zero, List.set_cons_succ]
  refine takeTo (i := 1) (v := ?_) (some 168) rfl rfl (by kernel_rfl) (by kernel_rfl) (by kernel_rfl) (fun _ _ _ h => h) (Or.inl ⟨by rfl, ?_⟩) (by assumption) ?_
  rotate_left
  · (intro W7 hSw; (try dsimp only at hSw); go_simp; try with_reducible rfl)
  try simp only [Act.put, List.setIfInBounds_toArray, List.set_cons_zero, List.set_cons_succ]
  refine takeTo (i := 2) (v := ?_) (some 169) rfl rfl (by kernel_rfl) (by kernel_rfl) (by kernel_rfl) (fun _ _ _ h => h) (Or.inl ⟨by rfl, ?_⟩) (by assumption) ?_
  rotate_left
  · (intro W7 hSw; (try dsimp only at hSw); go_simp; try with_reducible rfl)
  try simp only [Act.put, List.setIfInBounds_toArray, List.set_cons_zero, List.set_cons_succ]
  refine takeTo (i := 3) (v := ?_) (some 170) rfl rfl (by kernel_rfl) (by kernel_rfl) (by kernel_rfl) (fun _ _ _ h => h) (Or.inl ⟨by rfl, ?_⟩) (by assumption) ?_
  rotate_left
  · (intro W7 hSw; (try dsimp only at hSw); go_simp; try with_reducible rfl)
  try simp only [Act.put, List.setIfInBounds_toArray, List.set_cons_zero, List.set_cons_succ]
  refine takeTo (i := 4) (v := ?_) (some 171) rfl rfl (by kernel_rfl) (by kernel_rfl) (by kernel_rfl) (fun _ _ _ h => h) (Or.inl ⟨by rfl, ?_⟩) (by assumption) ?_
  rotate_left
  · (intro W7 hSw; (try dsimp only at hSw); go_simp; try with_reducible rfl)
  try simp only [Act.put, List.setIfInBounds_toArray, List.set_cons_zero, List.set_cons_succ]
  refine takeTo (i := 5) (v := ?_) (some 172) rfl rfl (by kernel_rfl) (by kernel_rfl) (by kernel_rfl) (fun _ _ _ h => h) (Or.inl ⟨by rfl, ?_⟩) (by assumption) ?_
  rotate_left
  · (intro W7 hSw; (try dsimp only at hSw); go_simp; try with_reducible rfl)
  try simp only [Act.put, List.setIfInBounds_toArray, List.set_cons_zero, List.set_cons_succ]
  refine takeTo (i := 6) (v := ?_) (some 173) rfl rfl (by kernel_rfl) (by kernel_rfl) (by kernel_rfl) (fun _ _ _ h => h) (Or.inl ⟨by rfl, ?_⟩) (by assumption) ?_
  rotate_left
  · (intro W7 hSw; (try dsimp only at hSw); go_simp; try with_reducible rfl)
  try simp only [Act.put, List.setIfInBounds_toArray, List.set_cons_zero, List.set_cons_succ]
  refine takeTo (i := 7) (v := ?_) (some 174) rfl rfl (by kernel_rfl) (by kernel_rfl) (by kernel_rfl) (fun _ _ _ h => h) (Or.inl ⟨by rfl, ?_⟩) (by assumption) ?_
  rotate_left
  · (intro W7 hSw; (try dsimp only at hSw); go_simp; try with_reducible rfl)
  try simp only [Act.put, List.setIfInBounds_toArray, List.set_cons_zero, List.set_cons_succ]
  refine takeTo (i := 8) (v := ?_) (some 175) rfl rfl (by kernel_rfl) (by kernel_rfl) (by kernel_rfl) (fun _ _ _ h => h) (Or.inl ⟨by rfl, ?_⟩) (by assumption) ?_
  rotate_left
  · (intro W7 hSw; (try dsimp only at hSw); go_simp; try with_reducible rfl)
  try simp only [Act.put, List.setIfInBounds_toArray, List.set_cons_zero, List.set_cons_succ]
  refine takeTo (i := 9) (v := ?_) (some 176) rfl rfl (by kernel_rfl) (by kernel_rfl) (by kernel_rfl) (fun _ _ _ h => h) (Or.inl ⟨by rfl, ?_⟩) (by assumption) ?_
  rotate_left
  · (intro W7 hSw; (try dsimp only at hSw); go_simp; try with_reducible rfl)
  try simp only [Act.put, List.setIfInBounds_toArray, List.set_cons_zero, List.set_cons_succ]
  refine takeTo (i := 10) (v := ?_) (some 177) rfl rfl (by kernel_rfl) (by kernel_rfl) (by kernel_rfl) (fun _ _ _ h => h) (Or.inl ⟨by rfl, ?_⟩) (by assumption) ?_
  rotate_left
  · (intro W7 hSw; (try dsimp only at hSw); go_simp; try with_reducible rfl)
  try simp only [Act.put, List.setIfInBounds_toArray, List.set_cons_zero, List.set_cons_succ]
  refine takeTo (i := 11) (v := ?_) (some 178) rfl rfl (by kernel_rfl) (by kernel_rfl) (by kernel_rfl) (fun _ _ _ h => h) (Or.inl ⟨by rfl, ?_⟩) (by assumption) ?_
  rotate_left
  · (intro W7 hSw; (try dsimp only at hSw); go_simp; try with_reducible rfl)
  try simp only [Act.put, List.setIfInBounds_toArray, List.set_cons_zero, List.set_cons_succ]
  refine takeTo (i := 12) (v := ?_) (some 179) rfl rfl (by kernel_rfl) (by kernel_rfl) (by kernel_rfl) (fun _ _ _ h => h) (Or.inl ⟨by rfl, ?_⟩) (by assumption) ?_
  rotate_left
  · (intro W7 hSw; (try dsimp only at hSw); go_simp; try with_reducible rfl)
  try simp only [Act.put, List.setIfInBounds_toArray, List.set_cons_zero, List.set_cons_succ]
  refine takeTo (i := 13) (v := ?_) (some 180) rfl rfl (by kernel_rfl) (by kernel_rfl) (by kernel_rfl) (fun _ _ _ h => h) (Or.inl ⟨by rfl, ?_⟩) (by assumption) ?_
  rotate_left
  · (intro W7 hSw; (try dsimp only at hSw); go_simp; try with_reducible rfl)
  try simp only [Act.put, List.setIfInBounds_toArray, List.set_cons_zero, List.set_cons_succ]
  refine takeTo (i := 14) (v := ?_) (some 181) rfl rfl (by kernel_rfl) (by kernel_rfl) (by kernel_rfl) (fun _ _ _ h => h) (Or.inl ⟨by rfl, ?_⟩) (by assumption) ?_
  rotate_left
  · (intro W7 hSw; (try dsimp only at hSw); go_simp; try with_reducible rfl)
  try simp only [Act.put, List.setIfInBounds_toArray, List.set_cons_zero, List.set_cons_succ]
  refine takeTo (i := 15) (v := ?_) (some 182) rfl rfl (by kernel_rfl) (by kernel_rfl) (by kernel_rfl) (fun _ _ _ h => h) (Or.inl ⟨by rfl, ?_⟩) (by assumption) ?_
  rotate_left
  · (intro W7 hSw; (try dsimp only at hSw); go_simp; try with_reducible rfl)
  try simp only [Act.put, List.setIfInBounds_toArray, List.set_cons_zero, List.set_cons_succ]
  refine takeTo (i := 16) (v := ?_) (some 183) rfl rfl (by kernel_rfl) (by kernel_rfl) (by kernel_rfl) (fun _ _ _ h => h) (Or.inl ⟨by rfl, ?_⟩) (by assumption) ?_
  rotate_left
  · (intro W7 hSw; (try dsimp only at hSw); go_simp; try with_reducible rfl)
  try simp only [Act.put, List.setIfInBounds_toArray, List.set_cons_zero, List.set_cons_succ]
  refine takeTo (i := 17) (v := ?_) (some 184) rfl rfl (by kernel_rfl) (by kernel_rfl) (by kernel_rfl) (fun _ _ _ h => h) (Or.inl ⟨by rfl, ?_⟩) (by assumption) ?_
  rotate_left
  · (intro W7 hSw; (try dsimp only at hSw); go_simp; try with_reducible rfl)
  try simp only [Act.put, List.setIfInBounds_toArray, List.set_cons_zero, List.set_cons_succ]
  refine takeTo (i := 18) (v := ?_) (some 185) rfl rfl (by kernel_rfl) (by kernel_rfl) (by kernel_rfl) (fun _ _ _ h => h) (Or.inl ⟨by rfl, ?_⟩) (by assumption) ?_
  rotate_left
  · (intro W7 hSw; (try dsimp only at hSw); go_simp; try with_reducible rfl)
  try simp only [Act.put, List.setIfInBounds_toArray, List.set_cons_zero, List.set_cons_succ]
  refine takeTo (i := 19) (v := ?_) (some 186) rfl rfl (by kernel_rfl) (by kernel_rfl) (by kernel_rfl) (fun _ _ _ h => h) (Or.inl ⟨by rfl, ?_⟩) (by assumption) ?_
  rotate_left
  · (intro W7 hSw; (try dsimp only at hSw); go_simp; try with_reducible rfl)
  try simp only [Act.put, List.setIfInBounds_toArray, List.set_cons_zero, List.set_cons_succ]
  refine takeTo (i := 20) (v := ?_) (some 187) rfl rfl (by kernel_rfl) (by kernel_rfl) (by kernel_rfl) (fun _ _ _ h => h) (Or.inl ⟨by rfl, ?_⟩) (by assumption) ?_
  rotate_left
  · (intro W7 hSw; (try dsimp only at hSw); go_simp; try with_reducible rfl)
  try simp only [Act.put, List.setIfInBounds_toArray, List.set_cons_zero, List.set_cons_succ]
  refine takeTo (i := 21) (v := ?_) (some 188) rfl rfl (by kernel_rfl) (by kernel_rfl) (by kernel_rfl) (fun _ _ _ h => h) (Or.inl ⟨by rfl, ?_⟩) (by assumption) ?_
  rotate_left
  · (intro W7 hSw; (try dsimp only at hSw); go_simp; try with_reducible rfl)
  try simp only [Act.put, List.setIfInBounds_toArray, List.set_cons_zero, List.set_cons_succ]
  refine takeTo (i := 22) (v := ?_) (some 189) rfl rfl (by kernel_rfl) (by kernel_rfl) (by kernel_rfl) (fun _ _ _ h => h) (Or.inl ⟨by rfl, ?_⟩) (by assumption) ?_
  rotate_left
  · (intro W7 hSw; (try dsimp only at hSw); go_simp; try with_reducible rfl)
  try simp only [Act.put, List.setIfInBounds_toArray, List.set_cons_zero, List.set_cons_succ]
  refine takeTo (i := 23) (v := ?_) (some 190) rfl rfl (by kernel_rfl) (by kernel_rfl) (by kernel_rfl) (fun _ _ _ h => h) (Or.inl ⟨by rfl, ?_⟩) (by assumption) ?_
  rotate_left
  · (intro W7 hSw; (try dsimp only at hSw); go_simp; try with_reducible rfl)
  try simp only [Act.put, List.setIfInBounds_toArray, List.set_cons_zero, List.set_cons_succ]
  refine takeTo (i := 24) (v := ?_) (some 191) rfl rfl (by kernel_rfl) (by kernel_rfl) (by kernel_rfl) (fun _ _ _ h => h) (Or.inl ⟨by rfl, ?_⟩) (by assumption) ?_
  rotate_left
  · (intro W7 hSw; (try dsimp only at hSw); go_simp; try with_reducible rfl)
  try simp only [Act.put, List.setIfInBounds_toArray, List.set_cons_zero, List.set_cons_succ]
  refine takeTo (i := 25) (v := ?_) (some 4) rfl rfl (by kernel_rfl) (by kernel_rfl) (by kernel_rfl) (fun _ _ _ h => h) (Or.inl ⟨by rfl, ?_⟩) (by assumption) ?_
  rotate_left
  · (intro W7 hSw; (try dsimp only at hSw); go_simp; try with_reducible rfl)
  try simp only [Act.put, List.setIfInBounds_toArray, List.set_cons_zero, List.set_cons_succ]
  refine wpAnyH_done (by kernel_rfl) ?_ _
  go_wp2_with fail
  go_ret
  exact ⟨rfl, N, pt, _, _, _, _, _, _, _, ob10, MM.out.1.frame (S := fun _ => False) (Kept.refl _ _).drew fun _ _ e => e, MM.out.2.to (by omega), HNN.out.1, by omega⟩
end Go.Proofs.Ytghakgepchlpgaa
