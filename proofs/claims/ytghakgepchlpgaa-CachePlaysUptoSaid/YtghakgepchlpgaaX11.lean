/- THE WALK of the world's step, but the turn. -/
import Derived.Test.YtghakgepchlpgaaX10
import Derived.Test.YtghakgepchlpgaaX7
namespace Go.Proofs.Ytghakgepchlpgaa
open Go.RowKit Go.Maps
def StepOut (B : Nat) (w0 w' : World) (gw steps n : Nat) : Prop :=
  ∃ N' pt' CV' LV' RV' OV' WV' rs' ws' ob', Md B w0 w' gw N' pt' CV' LV' RV' OV' WV' rs' ws' ob' ∧ Good N' (steps + 3) ob' ∧ N' ≤ 30 ∧ rs'.length ≤ n + 2
set_option maxHeartbeats 4000000 in
set_option maxRecDepth 100000 in
theorem step_new {B gw N steps : Nat} {w w0 : World} {pt : Nat → Nat → Nat} {CV LV RV OV WV : Value} {rs ws : List Row} {ob : Nat → Nat → Ob} (h : Md B w0 w gw N pt CV LV RV OV WV rs ws ob) (hg : Good N steps ob) (hN : N ≤ 30) (on n x : Int) :
    Calls Try.prog 16 #[.pointer (some ⟨gw, 0, none⟩), .agg #[.int .i64 1, .int .i64 on, .int .i64 n, .int .i64 x]] w fun r w' => r = .returned (.bool true) ∧ StepOut B w0 w' gw steps rs.length := by
  obtain ⟨A0, k0, rfl⟩ := rowShape h.wo.c
  have d1 := h.frame (w' := w.alloc (.cells #[.int .i64 1, .int .i64 on, .int .i64 n, .int .i64 x] 51)) (S := fun _ => False) ((Kept.refl _ w).alloc _) fun _ _ e => e
  have b1 : Blk (w.alloc (.cells #[.int .i64 1, .int .i64 on, .int .i64 n, .int .i64 x] 51)) w.heap.size 51 #[.int .i64 1, .int .i64 on, .int .i64 n, .int .i64 x] := Blk.new w 51 _
  have s0 : (w.alloc (.cells #[.int .i64 1, .int .i64 on, .int .i64 n, .int .i64 x] 51)).cell? ⟨gw, 0, none⟩ = some (.slice A0 N k0) := d1.wo.blk.cell 0
  have t0 := b1.cell 0
  have t1 := b1.cell 1
  have t2 := b1.cell 2
  have t3 := b1.cell 3
  simp only [List.getElem?_toArray, List.getElem?_cons_zero, List.getElem?_cons_succ] at t0 t1 t2 t3
  have M1 := Lib.hid d1
  have HC := Lib.hid (made_any d1 hg n hN)
  clear d1 b1 h hg hN
  go_enter Try.func16, Try.ntmps16
  go_wp2_with (first | (go_at_call 22; refine HC.out.mono ?_; rintro r w' ⟨rfl, N', pt', CV', LV', RV', ob', m', g', h'⟩; have MM := Lib.hid (And.intro m' (And.intro g' h')); clear m' g' h'))
  go_ret
  exact ⟨rfl, N', pt', CV', LV', RV', _, _, _, _, ob', MM.out.1, MM.out.2.1.to (by omega), MM.out.2.2, by omega⟩
set_option maxHeartbeats 4000000 in
set_option maxRecDepth 100000 in
theorem step_empty {B gw N steps : Nat} {w w0 : World} {pt : Nat → Nat → Nat} {CV LV RV OV WV : Value} {rs ws : List Row} {ob : Nat → Nat → Ob} (h : Md B w0 w gw N pt CV LV RV OV WV rs ws ob) (hg : Good N steps ob) (hN : N ≤ 30) (kd on n x : Int) (hk : kd ≠ 1) (hz : N = 0) :
    Calls Try.prog 16 #[.pointer (some ⟨gw, 0, none⟩), .agg #[.int .i64 kd, .int .i64 on, .int .i64 n, .int .i64 x]] w fun r w' => r = .returned (.bool true) ∧ StepOut B w0 w' gw steps rs.length := by
  subst hz
  obtain ⟨A0, k0, rfl⟩ := rowShape h.wo.c
  have d1 := h.frame (w' := w.alloc (.cells #[.int .i64 kd, .int .i64 on, .int .i64 n, .int .i64 x] 51)) (S := fun _ => False) ((Kept.refl _ w).alloc _) fun _ _ e => e
  have b1 : Blk (w.alloc (.cells #[.int .i64 kd, .int .i64 on, .int .i64 n, .int .i64 x] 51)) w.heap.size 51 #[.int .i64 kd, .int .i64 on, .int .i64 n, .int .i64 x] := Blk.new w 51 _
  have s0 : (w.alloc (.cells #[.int .i64 kd, .int .i64 on, .int .i64 n, .int .i64 x] 51)).cell? ⟨gw, 0, none⟩ = some (.slice A0 0 k0) := d1.wo.blk.cell 0
  have t0 := b1.cell 0
  have t1 := b1.cell 1
  have t2 := b1.cell 2
  have t3 := b1.cell 3
  simp only [List.getElem?_toArray, List.getElem?_cons_zero, List.getElem?_cons_succ] at t0 t1 t2 t3
  have M1 := Lib.hid d1
  have HG := Lib.hid hg
  have hk1 : (kd == 1) = false := by simp; omega
  clear d1 b1 h hg hN
  go_enter Try.func16, Try.ntmps16
  go_wp2_with fail
  go_ret
  exact ⟨rfl, 0, _, _, _, _, _, _, _, _, _, M1.out, HG.out.to (by omega), by omega, by omega⟩
set_option maxHeartbeats 4000000 in
set_option maxRecDepth 100000 in
theorem step_get {B gw N steps : Nat} {w w0 : World} {pt : Nat → Nat → Nat} {CV LV RV OV WV : Value} {rs ws : List Row} {ob : Nat → Nat → Ob} (h : Md B w0 w gw N pt CV LV RV OV WV rs ws ob) (hg : Good N steps ob) (hN : N ≤ 30) (on n x : Int) {i : Nat} (hi : i < N) (hp : pickN on (N : Int) = (i : Int)) (ho : -9223372036854775808 ≤ on ∧ on ≤ 9223372036854775807) (hn : Wf n) :
    Calls Try.prog 16 #[.pointer (some ⟨gw, 0, none⟩), .agg #[.int .i64 2, .int .i64 on, .int .i64 n, .int .i64 x]] w fun r w' => r = .returned (.bool true) ∧ StepOut B w0 w' gw steps rs.length := by
  have WN := Lib.hid hn
  obtain ⟨A0, k0, rfl⟩ := rowShape h.wo.c
  have d1 := h.frame (w' := w.alloc (.cells #[.int .i64 2, .int .i64 on, .int .i64 n, .int .i64 x] 51)) (S := fun _ => False) ((Kept.refl _ w).alloc _) fun _ _ e => e
  have b1 : Blk (w.alloc (.cells #[.int .i64 2, .int .i64 on, .int .i64 n, .int .i64 x] 51)) w.heap.size 51 #[.int .i64 2, .int .i64 on, .int .i64 n, .int .i64 x] := Blk.new w 51 _
  have s0 : (w.alloc (.cells #[.int .i64 2, .int .i64 on, .int .i64 n, .int .i64 x] 51)).cell? ⟨gw, 0, none⟩ = some (.slice A0 N k0) := d1.wo.blk.cell 0
  have t0 := b1.cell 0
  have t1 := b1.cell 1
  have t2 := b1.cell 2
  have t3 := b1.cell 3
  simp only [List.getElem?_toArray, List.getElem?_cons_zero, List.getElem?_cons_succ] at t0 t1 t2 t3
  have M1 := Lib.hid (And.intro d1 b1)
  have HG := Lib.hid hg
  have HNN := Lib.hid (And.intro hN hi)
  have HP := Lib.hid (pick_any on (N : Int) (by omega))
  rw [hp] at HP
  have HO := Lib.hid ho
  have hN0 : ((N : Int) == 0) = false := by simp; omega
  clear d1 b1 h hg hN ho
  go_enter Try.func16, Try.ntmps16
  go_upto_region 5 with fail
  have S0 := Lib.hid (And.intro s0 t1)
  clear s0 t0 t1 t2 t3
  generalize World.alloc w _ = w1 at S0 M1 ⊢
  obtain ⟨q, hq⟩ : ∃ q, q = w.heap.size := ⟨_, rfl⟩
  rw [← hq] at S0 M1 ⊢
  clear hq
  refine wp_region_held_drew (S := fun W' => W'.cell? ⟨gw, 0, none⟩ = some (.slice A0 N k0) ∧ W'.cell? ⟨q, 1, none⟩ = some (.int .i64 on)) (by kernel_rfl) (by exact S0.out) (fun hHeld => ?_)
  change wpAnyH _ _ _ _ _ _ _ _ w1.drew
  have S1 := Lib.hid (show w1.drew.cell? ⟨gw, 0, none⟩ = some (.slice A0 N k0) ∧ w1.drew.cell? ⟨q, 1, none⟩ = some (.int .i64 on) from S0.out)
  have d2 := M1.out.1.frame (w' := w1.drew) (S := fun _ => False) (Kept.refl _ _).drew fun _ _ e => e
  have b2 : Blk w1.drew q 51 #[.int .i64 2, .int .i64 on, .int .i64 n, .int .i64 x] := M1.out.2
  have M2 := Lib.hid (And.intro d2 b2)
  clear d2 b2 hHeld M1 S0
  generalize World.drew w1 = w2 at M2 S1 ⊢
  refine takeTo (i := 0) (v := ?_) (some 28) rfl rfl (by kernel_rfl) (by kernel_rfl) (by kernel_rfl) (fun _ _ _ h => h) (Or.inl ⟨by rfl, ?_⟩) (by assumption) ?_
  rotate_left
  · (intro W7 hSw; (try dsimp only at hSw); go_simp; try with_reducible rfl)
  try simp only [Act.put, List.setIfInBounds_toArray, List.set_cons_zero, List.set_cons_succ]
  refine takeTo (i := 1) (v := ?_) (some 29) rfl rfl (by kernel_rfl) (by kernel_rfl) (by kernel_rfl) (fun _ _ _ h => h) (Or.inl ⟨by rfl, ?_⟩) (by assumption) ?_
  rotate_left
  · (intro W7 hSw; (try dsimp only at hSw); go_simp; try with_reducible rfl)
  try simp only [Act.put, List.setIfInBounds_toArray, List.set_cons_zero, List.set_cons_succ]
  refine takeTo (i := 2) (v := ?_) (some 30) rfl rfl (by kernel_rfl) (by kernel_rfl) (by kernel_rfl) (fun _ _ _ h => h) (Or.inl ⟨by rfl, ?_⟩) (by assumption) ?_
  rotate_left
  · (intro W7 hSw; (try dsimp only at hSw); go_simp; try with_reducible rfl)
  try simp only [Act.put, List.setIfInBounds_toArray, List.set_cons_zero, List.set_cons_succ]
  refine takeTo (i := 3) (v := ?_) (some 31) rfl rfl (by kernel_rfl) (by kernel_rfl) (by kernel_rfl) (fun _ _ _ h => h) (Or.inl ⟨by rfl, ?_⟩) (by assumption) ?_
  rotate_left
  · (intro W7 hSw; (try dsimp only at hSw); go_simp; try with_reducible rfl)
  try simp only [Act.put, List.setIfInBounds_toArray, List.set_cons_zero, List.set_cons_succ]
  refine takeTo (i := 4) (v := ?_) (some 32) rfl rfl (by kernel_rfl) (by kernel_rfl) (by kernel_rfl) (fun _ _ _ h => h) (Or.inl ⟨by rfl, ?_⟩) (by assumption) ?_
  rotate_left
  · (intro W7 hSw; (try dsimp only at hSw); go_simp; try with_reducible rfl)
  try simp only [Act.put, List.setIfInBounds_toArray, List.set_cons_zero, List.set_cons_succ]
  refine takeTo (i := 5) (v := ?_) (some 33) rfl rfl (by kernel_rfl) (by kernel_rfl) (by kernel_rfl) (fun _ _ _ h => h) (Or.inl ⟨by rfl, ?_⟩) (by assumption) ?_
  rotate_left
  · (intro W7 hSw; (try dsimp only at hSw); go_simp; try with_reducible rfl)
  try simp only [Act.put, List.setIfInBounds_toArray, List.set_cons_zero, List.set_cons_succ]
  refine takeTo (i := 6) (v := ?_) (some 34) rfl rfl (by kernel_rfl) (by kernel_rfl) (by kernel_rfl) (fun _ _ _ h => h) (Or.inl ⟨by rfl, ?_⟩) (by assumption) ?_
  rotate_left
  · (intro W7 hSw; (try dsimp only at hSw); go_simp; try with_reducible rfl)
  try simp only [Act.put, List.setIfInBounds_toArray, List.set_cons_zero, List.set_cons_succ]
  refine wpAnyH_ready (rs := [7]) (by kernel_rfl) (by simp) ?_
  refine AllReadyH.cons rfl (fun K hK => ?_) AllReadyH.nil
  rw [if_pos (by rfl)]
  go_wp2_with fail
  refine (HP.out w2 HO.out.1 HO.out.2).mono ?_
  rintro r w' ⟨rfl, rfl⟩
  refine hK.out _ _ S1.out (fun hHeld => ?_)
  clear hK K
  try simp only [Act.put, List.setIfInBounds_toArray, List.set_cons_zero, List.set_cons_succ]
  refine takeTo (i := 8) (v := ?_) (some 5) rfl rfl (by kernel_rfl) (by kernel_rfl) (by kernel_rfl) (fun _ _ _ h => h) (Or.inl ⟨by rfl, ?_⟩) (by assumption) ?_
  rotate_left
  · (intro W7 hSw; (try dsimp only at hSw); go_simp; try with_reducible rfl)
  try simp only [Act.put, List.setIfInBounds_toArray, List.set_cons_zero, List.set_cons_succ]
  refine wpAnyH_done (by kernel_rfl) ?_ _
  clear S1
  have t0 := M2.out.2.cell 0
  have t2 := M2.out.2.cell 2
  have t3 := M2.out.2.cell 3
  simp only [List.getElem?_toArray, List.getElem?_cons_zero, List.getElem?_cons_succ] at t0 t2 t3
  have HC := Lib.hid (gets_any M2.out.1 HG.out HNN.out.2 n WN.out)
  go_wp2_with (first | (go_at_call 23; refine HC.out.mono ?_; rintro r w' ⟨rfl, ob', m', g'⟩; have MM := Lib.hid (And.intro m' g'); clear m' g'))
  go_ret
  exact ⟨rfl, _, _, _, _, _, _, _, _, _, ob', MM.out.1, MM.out.2.to (by omega), HNN.out.1, by omega⟩
set_option maxHeartbeats 4000000 in
set_option maxRecDepth 100000 in
theorem step_put {B gw N steps : Nat} {w w0 : World} {pt : Nat → Nat → Nat} {CV LV RV OV WV : Value} {rs ws : List Row} {ob : Nat → Nat → Ob} (h : Md B w0 w gw N pt CV LV RV OV WV rs ws ob) (hg : Good N steps ob) (hN : N ≤ 30) (on n x : Int) {i : Nat} (hi : i < N) (hp : pickN on (N : Int) = (i : Int)) (ho : -9223372036854775808 ≤ on ∧ on ≤ 9223372036854775807) (hn : Wf n) :
    Calls Try.prog 16 #[.pointer (some ⟨gw, 0, none⟩), .agg #[.int .i64 3, .int .i64 on, .int .i64 n, .int .i64 x]] w fun r w' => r = .returned (.bool true) ∧ StepOut B w0 w' gw steps rs.length := by
  have WN := Lib.hid hn
  obtain ⟨A0, k0, rfl⟩ := rowShape h.wo.c
  have d1 := h.frame (w' := w.alloc (.cells #[.int .i64 3, .int .i64 on, .int .i64 n, .int .i64 x] 51)) (S := fun _ => False) ((Kept.refl _ w).alloc _) fun _ _ e => e
  have b1 : Blk (w.alloc (.cells #[.int .i64 3, .int .i64 on, .int .i64 n, .int .i64 x] 51)) w.heap.size 51 #[.int .i64 3, .int .i64 on, .int .i64 n, .int .i64 x] := Blk.new w 51 _
  have s0 : (w.alloc (.cells #[.int .i64 3, .int .i64 on, .int .i64 n, .int .i64 x] 51)).cell? ⟨gw, 0, none⟩ = some (.slice A0 N k0) := d1.wo.blk.cell 0
  have t0 := b1.cell 0
  have t1 := b1.cell 1
  have t2 := b1.cell 2
  have t3 := b1.cell 3
  simp only [List.getElem?_toArray, List.getElem?_cons_zero, List.getElem?_cons_succ] at t0 t1 t2 t3
  have M1 := Lib.hid (And.intro d1 b1)
  have HG := Lib.hid hg
  have HNN := Lib.hid (And.intro hN hi)
  have HP := Lib.hid (pick_any on (N : Int) (by omega))
  rw [hp] at HP
  have HO := Lib.hid ho
  have hN0 : ((N : Int) == 0) = false := by simp; omega
  clear d1 b1 h hg hN ho
  go_enter Try.func16, Try.ntmps16
  go_upto_region 5 with fail
  have S0 := Lib.hid (And.intro s0 t1)
  clear s0 t0 t1 t2 t3
  generalize World.alloc w _ = w1 at S0 M1 ⊢
  obtain ⟨q, hq⟩ : ∃ q, q = w.heap.size := ⟨_, rfl⟩
  rw [← hq] at S0 M1 ⊢
  clear hq
  refine wp_region_held_drew (S := fun W' => W'.cell? ⟨gw, 0, none⟩ = some (.slice A0 N k0) ∧ W'.cell? ⟨q, 1, none⟩ = some (.int .i64 on)) (by kernel_rfl) (by exact S0.out) (fun hHeld => ?_)
  change wpAnyH _ _ _ _ _ _ _ _ w1.drew
  have S1 := Lib.hid (show w1.drew.cell? ⟨gw, 0, none⟩ = some (.slice A0 N k0) ∧ w1.drew.cell? ⟨q, 1, none⟩ = some (.int .i64 on) from S0.out)
  have d2 := M1.out.1.frame (w' := w1.drew) (S := fun _ => False) (Kept.refl _ _).drew fun _ _ e => e
  have b2 : Blk w1.drew q 51 #[.int .i64 3, .int .i64 on, .int .i64 n, .int .i64 x] := M1.out.2
  have M2 := Lib.hid (And.intro d2 b2)
  clear d2 b2 hHeld M1 S0
  generalize World.drew w1 = w2 at M2 S1 ⊢
  refine takeTo (i := 0) (v := ?_) (some 28) rfl rfl (by kernel_rfl) (by kernel_rfl) (by kernel_rfl) (fun _ _ _ h => h) (Or.inl ⟨by rfl, ?_⟩) (by assumption) ?_
  rotate_left
  · (intro W7 hSw; (try dsimp only at hSw); go_simp; try with_reducible rfl)
  try simp only [Act.put, List.setIfInBounds_toArray, List.set_cons_zero, List.set_cons_succ]
  refine takeTo (i := 1) (v := ?_) (some 29) rfl rfl (by kernel_rfl) (by kernel_rfl) (by kernel_rfl) (fun _ _ _ h => h) (Or.inl ⟨by rfl, ?_⟩) (by assumption) ?_
  rotate_left
  · (intro W7 hSw; (try dsimp only at hSw); go_simp; try with_reducible rfl)
  try simp only [Act.put, List.setIfInBounds_toArray, List.set_cons_zero, List.set_cons_succ]
  refine takeTo (i := 2) (v := ?_) (some 30) rfl rfl (by kernel_rfl) (by kernel_rfl) (by kernel_rfl) (fun _ _ _ h => h) (Or.inl ⟨by rfl, ?_⟩) (by assumption) ?_
  rotate_left
  · (intro W7 hSw; (try dsimp only at hSw); go_simp; try with_reducible rfl)
  try simp only [Act.put, List.setIfInBounds_toArray, List.set_cons_zero, List.set_cons_succ]
  refine takeTo (i := 3) (v := ?_) (some 31) rfl rfl (by kernel_rfl) (by kernel_rfl) (by kernel_rfl) (fun _ _ _ h => h) (Or.inl ⟨by rfl, ?_⟩) (by assumption) ?_
  rotate_left
  · (intro W7 hSw; (try dsimp only at hSw); go_simp; try with_reducible rfl)
  try simp only [Act.put, List.setIfInBounds_toArray, List.set_cons_zero, List.set_cons_succ]
  refine takeTo (i := 4) (v := ?_) (some 32) rfl rfl (by kernel_rfl) (by kernel_rfl) (by kernel_rfl) (fun _ _ _ h => h) (Or.inl ⟨by rfl, ?_⟩) (by assumption) ?_
  rotate_left
  · (intro W7 hSw; (try dsimp only at hSw); go_simp; try with_reducible rfl)
  try simp only [Act.put, List.setIfInBounds_toArray, List.set_cons_zero, List.set_cons_succ]
  refine takeTo (i := 5) (v := ?_) (some 33) rfl rfl (by kernel_rfl) (by kernel_rfl) (by kernel_rfl) (fun _ _ _ h => h) (Or.inl ⟨by rfl, ?_⟩) (by assumption) ?_
  rotate_left
  · (intro W7 hSw; (try dsimp only at hSw); go_simp; try with_reducible rfl)
  try simp only [Act.put, List.setIfInBounds_toArray, List.set_cons_zero, List.set_cons_succ]
  refine takeTo (i := 6) (v := ?_) (some 34) rfl rfl (by kernel_rfl) (by kernel_rfl) (by kernel_rfl) (fun _ _ _ h => h) (Or.inl ⟨by rfl, ?_⟩) (by assumption) ?_
  rotate_left
  · (intro W7 hSw; (try dsimp only at hSw); go_simp; try with_reducible rfl)
  try simp only [Act.put, List.setIfInBounds_toArray, List.set_cons_zero, List.set_cons_succ]
  refine wpAnyH_ready (rs := [7]) (by kernel_rfl) (by simp) ?_
  refine AllReadyH.cons rfl (fun K hK => ?_) AllReadyH.nil
  rw [if_pos (by rfl)]
  go_wp2_with fail
  refine (HP.out w2 HO.out.1 HO.out.2).mono ?_
  rintro r w' ⟨rfl, rfl⟩
  refine hK.out _ _ S1.out (fun hHeld => ?_)
  clear hK K
  try simp only [Act.put, List.setIfInBounds_toArray, List.set_cons_zero, List.set_cons_succ]
  refine takeTo (i := 8) (v := ?_) (some 5) rfl rfl (by kernel_rfl) (by kernel_rfl) (by kernel_rfl) (fun _ _ _ h => h) (Or.inl ⟨by rfl, ?_⟩) (by assumption) ?_
  rotate_left
  · (intro W7 hSw; (try dsimp only at hSw); go_simp; try with_reducible rfl)
  try simp only [Act.put, List.setIfInBounds_toArray, List.set_cons_zero, List.set_cons_succ]
  refine wpAnyH_done (by kernel_rfl) ?_ _
  clear S1
  have t0 := M2.out.2.cell 0
  have t2 := M2.out.2.cell 2
  have t3 := M2.out.2.cell 3
  simp only [List.getElem?_toArray, List.getElem?_cons_zero, List.getElem?_cons_succ] at t0 t2 t3
  have HC := Lib.hid (puts_any M2.out.1 HG.out HNN.out.2 n x WN.out)
  go_wp2_with (first | (go_at_call 24; refine HC.out.mono ?_; rintro r w' ⟨rfl, ob', m', g'⟩; have MM := Lib.hid (And.intro m' g'); clear m' g'))
  go_ret
  exact ⟨rfl, _, _, _, _, _, _, _, _, _, ob', MM.out.1, MM.out.2.to (by omega), HNN.out.1, by omega⟩
set_option maxHeartbeats 4000000 in
set_option maxRecDepth 100000 in
theorem step_held4 {B gw N steps : Nat} {w w0 : World} {pt : Nat → Nat → Nat} {CV LV RV OV WV : Value} {rs ws : List Row} {ob : Nat → Nat → Ob} (h : Md B w0 w gw N pt CV LV RV OV WV rs ws ob) (hg : Good N steps ob) (hN : N ≤ 30) (on n x : Int) {i : Nat} (hi : i < N) (hp : pickN on (N : Int) = (i : Int)) (ho : -9223372036854775808 ≤ on ∧ on ≤ 9223372036854775807) (hn : Wf n) (hst : steps ≤ 4611686018427387904) :
    Calls Try.prog 16 #[.pointer (some ⟨gw, 0, none⟩), .agg #[.int .i64 4, .int .i64 on, .int .i64 n, .int .i64 x]] w fun r w' => r = .returned (.bool true) ∧ StepOut B w0 w' gw steps rs.length := by
  have WN := Lib.hid (And.intro hn hst)
  obtain ⟨A0, k0, rfl⟩ := rowShape h.wo.c
  have d1 := h.frame (w' := w.alloc (.cells #[.int .i64 4, .int .i64 on, .int .i64 n, .int .i64 x] 51)) (S := fun _ => False) ((Kept.refl _ w).alloc _) fun _ _ e => e
  have b1 : Blk (w.alloc (.cells #[.int .i64 4, .int .i64 on, .int .i64 n, .int .i64 x] 51)) w.heap.size 51 #[.int .i64 4, .int .i64 on, .int .i64 n, .int .i64 x] := Blk.new w 51 _
  have s0 : (w.alloc (.cells #[.int .i64 4, .int .i64 on, .int .i64 n, .int .i64 x] 51)).cell? ⟨gw, 0, none⟩ = some (.slice A0 N k0) := d1.wo.blk.cell 0
  have t0 := b1.cell 0
  have t1 := b1.cell 1
  have t2 := b1.cell 2
  have t3 := b1.cell 3
  simp only [List.getElem?_toArray, List.getElem?_cons_zero, List.getElem?_cons_succ] at t0 t1 t2 t3
  have M1 := Lib.hid (And.intro d1 b1)
  have HG := Lib.hid hg
  have HNN := Lib.hid (And.intro hN hi)
  have HP := Lib.hid (pick_any on (N : Int) (by omega))
  rw [hp] at HP
  have HO := Lib.hid ho
  have hN0 : ((N : Int) == 0) = false := by simp; omega
  clear d1 b1 h hg hN ho
  go_enter Try.func16, Try.ntmps16
  go_upto_region 5 with fail
  have S0 := Lib.hid (And.intro s0 t1)
  clear s0 t0 t1 t2 t3
  generalize World.alloc w _ = w1 at S0 M1 ⊢
  obtain ⟨q, hq⟩ : ∃ q, q = w.heap.size := ⟨_, rfl⟩
  rw [← hq] at S0 M1 ⊢
  clear hq
  refine wp_region_held_drew (S := fun W' => W'.cell? ⟨gw, 0, none⟩ = some (.slice A0 N k0) ∧ W'.cell? ⟨q, 1, none⟩ = some (.int .i64 on)) (by kernel_rfl) (by exact S0.out) (fun hHeld => ?_)
  change wpAnyH _ _ _ _ _ _ _ _ w1.drew
  have S1 := Lib.hid (show w1.drew.cell? ⟨gw, 0, none⟩ = some (.slice A0 N k0) ∧ w1.drew.cell? ⟨q, 1, none⟩ = some (.int .i64 on) from S0.out)
  have d2 := M1.out.1.frame (w' := w1.drew) (S := fun _ => False) (Kept.refl _ _).drew fun _ _ e => e
  have b2 : Blk w1.drew q 51 #[.int .i64 4, .int .i64 on, .int .i64 n, .int .i64 x] := M1.out.2
  have M2 := Lib.hid (And.intro d2 b2)
  clear d2 b2 hHeld M1 S0
  generalize World.drew w1 = w2 at M2 S1 ⊢
  refine takeTo (i := 0) (v := ?_) (some 28) rfl rfl (by kernel_rfl) (by kernel_rfl) (by kernel_rfl) (fun _ _ _ h => h) (Or.inl ⟨by rfl, ?_⟩) (by assumption) ?_
  rotate_left
  · (intro W7 hSw; (try dsimp only at hSw); go_simp; try with_reducible rfl)
  try simp only [Act.put, List.setIfInBounds_toArray, List.set_cons_zero, List.set_cons_succ]
  refine takeTo (i := 1) (v := ?_) (some 29) rfl rfl (by kernel_rfl) (by kernel_rfl) (by kernel_rfl) (fun _ _ _ h => h) (Or.inl ⟨by rfl, ?_⟩) (by assumption) ?_
  rotate_left
  · (intro W7 hSw; (try dsimp only at hSw); go_simp; try with_reducible rfl)
  try simp only [Act.put, List.setIfInBounds_toArray, List.set_cons_zero, List.set_cons_succ]
  refine takeTo (i := 2) (v := ?_) (some 30) rfl rfl (by kernel_rfl) (by kernel_rfl) (by kernel_rfl) (fun _ _ _ h => h) (Or.inl ⟨by rfl, ?_⟩) (by assumption) ?_
  rotate_left
  · (intro W7 hSw; (try dsimp only at hSw); go_simp; try with_reducible rfl)
  try simp only [Act.put, List.setIfInBounds_toArray, List.set_cons_zero, List.set_cons_succ]
  refine takeTo (i := 3) (v := ?_) (some 31) rfl rfl (by kernel_rfl) (by kernel_rfl) (by kernel_rfl) (fun _ _ _ h => h) (Or.inl ⟨by rfl, ?_⟩) (by assumption) ?_
  rotate_left
  · (intro W7 hSw; (try dsimp only at hSw); go_simp; try with_reducible rfl)
  try simp only [Act.put, List.setIfInBounds_toArray, List.set_cons_zero, List.set_cons_succ]
  refine takeTo (i := 4) (v := ?_) (some 32) rfl rfl (by kernel_rfl) (by kernel_rfl) (by kernel_rfl) (fun _ _ _ h => h) (Or.inl ⟨by rfl, ?_⟩) (by assumption) ?_
  rotate_left
  · (intro W7 hSw; (try dsimp only at hSw); go_simp; try with_reducible rfl)
  try simp only [Act.put, List.setIfInBounds_toArray, List.set_cons_zero, List.set_cons_succ]
  refine takeTo (i := 5) (v := ?_) (some 33) rfl rfl (by kernel_rfl) (by kernel_rfl) (by kernel_rfl) (fun _ _ _ h => h) (Or.inl ⟨by rfl, ?_⟩) (by assumption) ?_
  rotate_left
  · (intro W7 hSw; (try dsimp only at hSw); go_simp; try with_reducible rfl)
  try simp only [Act.put, List.setIfInBounds_toArray, List.set_cons_zero, List.set_cons_succ]
  refine takeTo (i := 6) (v := ?_) (some 34) rfl rfl (by kernel_rfl) (by kernel_rfl) (by kernel_rfl) (fun _ _ _ h => h) (Or.inl ⟨by rfl, ?_⟩) (by assumption) ?_
  rotate_left
  · (intro W7 hSw; (try dsimp only at hSw); go_simp; try with_reducible rfl)
  try simp only [Act.put, List.setIfInBounds_toArray, List.set_cons_zero, List.set_cons_succ]
  refine wpAnyH_ready (rs := [7]) (by kernel_rfl) (by simp) ?_
  refine AllReadyH.cons rfl (fun K hK => ?_) AllReadyH.nil
  rw [if_pos (by rfl)]
  go_wp2_with fail
  refine (HP.out w2 HO.out.1 HO.out.2).mono ?_
  rintro r w' ⟨rfl, rfl⟩
  refine hK.out _ _ S1.out (fun hHeld => ?_)
  clear hK K
  try simp only [Act.put, List.setIfInBounds_toArray, List.set_cons_zero, List.set_cons_succ]
  refine takeTo (i := 8) (v := ?_) (some 5) rfl rfl (by kernel_rfl) (by kernel_rfl) (by kernel_rfl) (fun _ _ _ h => h) (Or.inl ⟨by rfl, ?_⟩) (by assumption) ?_
  rotate_left
  · (intro W7 hSw; (try dsimp only at hSw); go_simp; try with_reducible rfl)
  try simp only [Act.put, List.setIfInBounds_toArray, List.set_cons_zero, List.set_cons_succ]
  refine wpAnyH_done (by kernel_rfl) ?_ _
  clear S1
  have t0 := M2.out.2.cell 0
  have t2 := M2.out.2.cell 2
  have t3 := M2.out.2.cell 3
  simp only [List.getElem?_toArray, List.getElem?_cons_zero, List.getElem?_cons_succ] at t0 t2 t3
  have HC := Lib.hid (held_any M2.out.1 HG.out HNN.out.2 WN.out.2 4 n (by decide) WN.out.1)
  go_wp2_with (first | (go_at_call 25; refine HC.out.mono ?_; rintro r w' ⟨rfl, ob', m', g'⟩; have MM := Lib.hid (And.intro m' g'); clear m' g'))
  go_ret
  exact ⟨rfl, _, _, _, _, _, _, _, _, _, ob', MM.out.1, MM.out.2.to (by omega), HNN.out.1, by omega⟩
set_option maxHeartbeats 4000000 in
set_option maxRecDepth 100000 in
theorem step_held5 {B gw N steps : Nat} {w w0 : World} {pt : Nat → Nat → Nat} {CV LV RV OV WV : Value} {rs ws : List Row} {ob : Nat → Nat → Ob} (h : Md B w0 w gw N pt CV LV RV OV WV rs ws ob) (hg : Good N steps ob) (hN : N ≤ 30) (on n x : Int) {i : Nat} (hi : i < N) (hp : pickN on (N : Int) = (i : Int)) (ho : -9223372036854775808 ≤ on ∧ on ≤ 9223372036854775807) (hn : Wf n) (hst : steps ≤ 4611686018427387904) :
    Calls Try.prog 16 #[.pointer (some ⟨gw, 0, none⟩), .agg #[.int .i64 5, .int .i64 on, .int .i64 n, .int .i64 x]] w fun r w' => r = .returned (.bool true) ∧ StepOut B w0 w' gw steps rs.length := by
  have WN := Lib.hid (And.intro hn hst)
  obtain ⟨A0, k0, rfl⟩ := rowShape h.wo.c
  have d1 := h.frame (w' := w.alloc (.cells #[.int .i64 5, .int .i64 on, .int .i64 n, .int .i64 x] 51)) (S := fun _ => False) ((Kept.refl _ w).alloc _) fun _ _ e => e
  have b1 : Blk (w.alloc (.cells #[.int .i64 5, .int .i64 on, .int .i64 n, .int .i64 x] 51)) w.heap.size 51 #[.int .i64 5, .int .i64 on, .int .i64 n, .int .i64 x] := Blk.new w 51 _
  have s0 : (w.alloc (.cells #[.int .i64 5, .int .i64 on, .int .i64 n, .int .i64 x] 51)).cell? ⟨gw, 0, none⟩ = some (.slice A0 N k0) := d1.wo.blk.cell 0
  have t0 := b1.cell 0
  have t1 := b1.cell 1
  have t2 := b1.cell 2
  have t3 := b1.cell 3
  simp only [List.getElem?_toArray, List.getElem?_cons_zero, List.getElem?_cons_succ] at t0 t1 t2 t3
  have M1 := Lib.hid (And.intro d1 b1)
  have HG := Lib.hid hg
  have HNN := Lib.hid (And.intro hN hi)
  have HP := Lib.hid (pick_any on (N : Int) (by omega))
  rw [hp] at HP
  have HO := Lib.hid ho
  have hN0 : ((N : Int) == 0) = false := by simp; omega
  clear d1 b1 h hg hN ho
  go_enter Try.func16, Try.ntmps16
  go_upto_region 5 with fail
  have S0 := Lib.hid (And.intro s0 t1)
  clear s0 t0 t1 t2 t3
  generalize World.alloc w _ = w1 at S0 M1 ⊢
  obtain ⟨q, hq⟩ : ∃ q, q = w.heap.size := ⟨_, rfl⟩
  rw [← hq] at S0 M1 ⊢
  clear hq
  refine wp_region_held_drew (S := fun W' => W'.cell? ⟨gw, 0, none⟩ = some (.slice A0 N k0) ∧ W'.cell? ⟨q, 1, none⟩ = some (.int .i64 on)) (by kernel_rfl) (by exact S0.out) (fun hHeld => ?_)
  change wpAnyH _ _ _ _ _ _ _ _ w1.drew
  have S1 := Lib.hid (show w1.drew.cell? ⟨gw, 0, none⟩ = some (.slice A0 N k0) ∧ w1.drew.cell? ⟨q, 1, none⟩ = some (.int .i64 on) from S0.out)
  have d2 := M1.out.1.frame (w' := w1.drew) (S := fun _ => False) (Kept.refl _ _).drew fun _ _ e => e
  have b2 : Blk w1.drew q 51 #[.int .i64 5, .int .i64 on, .int .i64 n, .int .i64 x] := M1.out.2
  have M2 := Lib.hid (And.intro d2 b2)
  clear d2 b2 hHeld M1 S0
  generalize World.drew w1 = w2 at M2 S1 ⊢
  refine takeTo (i := 0) (v := ?_) (some 28) rfl rfl (by kernel_rfl) (by kernel_rfl) (by kernel_rfl) (fun _ _ _ h => h) (Or.inl ⟨by rfl, ?_⟩) (by assumption) ?_
  rotate_left
  · (intro W7 hSw; (try dsimp only at hSw); go_simp; try with_reducible rfl)
  try simp only [Act.put, List.setIfInBounds_toArray, List.set_cons_zero, List.set_cons_succ]
  refine takeTo (i := 1) (v := ?_) (some 29) rfl rfl (by kernel_rfl) (by kernel_rfl) (by kernel_rfl) (fun _ _ _ h => h) (Or.inl ⟨by rfl, ?_⟩) (by assumption) ?_
  rotate_left
  · (intro W7 hSw; (try dsimp only at hSw); go_simp; try with_reducible rfl)
  try simp only [Act.put, List.setIfInBounds_toArray, List.set_cons_zero, List.set_cons_succ]
  refine takeTo (i := 2) (v := ?_) (some 30) rfl rfl (by kernel_rfl) (by kernel_rfl) (by kernel_rfl) (fun _ _ _ h => h) (Or.inl ⟨by rfl, ?_⟩) (by assumption) ?_
  rotate_left
  · (intro W7 hSw; (try dsimp only at hSw); go_simp; try with_reducible rfl)
  try simp only [Act.put, List.setIfInBounds_toArray, List.set_cons_zero, List.set_cons_succ]
  refine takeTo (i := 3) (v := ?_) (some 31) rfl rfl (by kernel_rfl) (by kernel_rfl) (by kernel_rfl) (fun _ _ _ h => h) (Or.inl ⟨by rfl, ?_⟩) (by assumption) ?_
  rotate_left
  · (intro W7 hSw; (try dsimp only at hSw); go_simp; try with_reducible rfl)
  try simp only [Act.put, List.setIfInBounds_toArray, List.set_cons_zero, List.set_cons_succ]
  refine takeTo (i := 4) (v := ?_) (some 32) rfl rfl (by kernel_rfl) (by kernel_rfl) (by kernel_rfl) (fun _ _ _ h => h) (Or.inl ⟨by rfl, ?_⟩) (by assumption) ?_
  rotate_left
  · (intro W7 hSw; (try dsimp only at hSw); go_simp; try with_reducible rfl)
  try simp only [Act.put, List.setIfInBounds_toArray, List.set_cons_zero, List.set_cons_succ]
  refine takeTo (i := 5) (v := ?_) (some 33) rfl rfl (by kernel_rfl) (by kernel_rfl) (by kernel_rfl) (fun _ _ _ h => h) (Or.inl ⟨by rfl, ?_⟩) (by assumption) ?_
  rotate_left
  · (intro W7 hSw; (try dsimp only at hSw); go_simp; try with_reducible rfl)
  try simp only [Act.put, List.setIfInBounds_toArray, List.set_cons_zero, List.set_cons_succ]
  refine takeTo (i := 6) (v := ?_) (some 34) rfl rfl (by kernel_rfl) (by kernel_rfl) (by kernel_rfl) (fun _ _ _ h => h) (Or.inl ⟨by rfl, ?_⟩) (by assumption) ?_
  rotate_left
  · (intro W7 hSw; (try dsimp only at hSw); go_simp; try with_reducible rfl)
  try simp only [Act.put, List.setIfInBounds_toArray, List.set_cons_zero, List.set_cons_succ]
  refine wpAnyH_ready (rs := [7]) (by kernel_rfl) (by simp) ?_
  refine AllReadyH.cons rfl (fun K hK => ?_) AllReadyH.nil
  rw [if_pos (by rfl)]
  go_wp2_with fail
  refine (HP.out w2 HO.out.1 HO.out.2).mono ?_
  rintro r w' ⟨rfl, rfl⟩
  refine hK.out _ _ S1.out (fun hHeld => ?_)
  clear hK K
  try simp only [Act.put, List.setIfInBounds_toArray, List.set_cons_zero, List.set_cons_succ]
  refine takeTo (i := 8) (v := ?_) (some 5) rfl rfl (by kernel_rfl) (by kernel_rfl) (by kernel_rfl) (fun _ _ _ h => h) (Or.inl ⟨by rfl, ?_⟩) (by assumption) ?_
  rotate_left
  · (intro W7 hSw; (try dsimp only at hSw); go_simp; try with_reducible rfl)
  try simp only [Act.put, List.setIfInBounds_toArray, List.set_cons_zero, List.set_cons_succ]
  refine wpAnyH_done (by kernel_rfl) ?_ _
  clear S1
  have t0 := M2.out.2.cell 0
  have t2 := M2.out.2.cell 2
  have t3 := M2.out.2.cell 3
  simp only [List.getElem?_toArray, List.getElem?_cons_zero, List.getElem?_cons_succ] at t0 t2 t3
  have HC := Lib.hid (held_any M2.out.1 HG.out HNN.out.2 WN.out.2 5 n (by decide) WN.out.1)
  go_wp2_with (first | (go_at_call 25; refine HC.out.mono ?_; rintro r w' ⟨rfl, ob', m', g'⟩; have MM := Lib.hid (And.intro m' g'); clear m' g'))
  go_ret
  exact ⟨rfl, _, _, _, _, _, _, _, _, _, ob', MM.out.1, MM.out.2.to (by omega), HNN.out.1, by omega⟩
set_option maxHeartbeats 4000000 in
set_option maxRecDepth 100000 in
theorem step_held6 {B gw N steps : Nat} {w w0 : World} {pt : Nat → Nat → Nat} {CV LV RV OV WV : Value} {rs ws : List Row} {ob : Nat → Nat → Ob} (h : Md B w0 w gw N pt CV LV RV OV WV rs ws ob) (hg : Good N steps ob) (hN : N ≤ 30) (on n x : Int) {i : Nat} (hi : i < N) (hp : pickN on (N : Int) = (i : Int)) (ho : -9223372036854775808 ≤ on ∧ on ≤ 9223372036854775807) (hn : Wf n) (hst : steps ≤ 4611686018427387904) :
    Calls Try.prog 16 #[.pointer (some ⟨gw, 0, none⟩), .agg #[.int .i64 6, .int .i64 on, .int .i64 n, .int .i64 x]] w fun r w' => r = .returned (.bool true) ∧ StepOut B w0 w' gw steps rs.length := by
  have WN := Lib.hid (And.intro hn hst)
  obtain ⟨A0, k0, rfl⟩ := rowShape h.wo.c
  have d1 := h.frame (w' := w.alloc (.cells #[.int .i64 6, .int .i64 on, .int .i64 n, .int .i64 x] 51)) (S := fun _ => False) ((Kept.refl _ w).alloc _) fun _ _ e => e
  have b1 : Blk (w.alloc (.cells #[.int .i64 6, .int .i64 on, .int .i64 n, .int .i64 x] 51)) w.heap.size 51 #[.int .i64 6, .int .i64 on, .int .i64 n, .int .i64 x] := Blk.new w 51 _
  have s0 : (w.alloc (.cells #[.int .i64 6, .int .i64 on, .int .i64 n, .int .i64 x] 51)).cell? ⟨gw, 0, none⟩ = some (.slice A0 N k0) := d1.wo.blk.cell 0
  have t0 := b1.cell 0
  have t1 := b1.cell 1
  have t2 := b1.cell 2
  have t3 := b1.cell 3
  simp only [List.getElem?_toArray, List.getElem?_cons_zero, List.getElem?_cons_succ] at t0 t1 t2 t3
  have M1 := Lib.hid (And.intro d1 b1)
  have HG := Lib.hid hg
  have HNN := Lib.hid (And.intro hN hi)
  have HP := Lib.hid (pick_any on (N : Int) (by omega))
  rw [hp] at HP
  have HO := Lib.hid ho
  have hN0 : ((N : Int) == 0) = false := by simp; omega
  clear d1 b1 h hg hN ho
  go_enter Try.func16, Try.ntmps16
  go_upto_region 5 with fail
  have S0 := Lib.hid (And.intro s0 t1)
  clear s0 t0 t1 t2 t3
  generalize World.alloc w _ = w1 at S0 M1 ⊢
  obtain ⟨q, hq⟩ : ∃ q, q = w.heap.size := ⟨_, rfl⟩
  rw [← hq] at S0 M1 ⊢
  clear hq
  refine wp_region_held_drew (S := fun W' => W'.cell? ⟨gw, 0, none⟩ = some (.slice A0 N k0) ∧ W'.cell? ⟨q, 1, none⟩ = some (.int .i64 on)) (by kernel_rfl) (by exact S0.out) (fun hHeld => ?_)
  change wpAnyH _ _ _ _ _ _ _ _ w1.drew
  have S1 := Lib.hid (show w1.drew.cell? ⟨gw, 0, none⟩ = some (.slice A0 N k0) ∧ w1.drew.cell? ⟨q, 1, none⟩ = some (.int .i64 on) from S0.out)
  have d2 := M1.out.1.frame (w' := w1.drew) (S := fun _ => False) (Kept.refl _ _).drew fun _ _ e => e
  have b2 : Blk w1.drew q 51 #[.int .i64 6, .int .i64 on, .int .i64 n, .int .i64 x] := M1.out.2
  have M2 := Lib.hid (And.intro d2 b2)
  clear d2 b2 hHeld M1 S0
  generalize World.drew w1 = w2 at M2 S1 ⊢
  refine takeTo (i := 0) (v := ?_) (some 28) rfl rfl (by kernel_rfl) (by kernel_rfl) (by kernel_rfl) (fun _ _ _ h => h) (Or.inl ⟨by rfl, ?_⟩) (by assumption) ?_
  rotate_left
  · (intro W7 hSw; (try dsimp only at hSw); go_simp; try with_reducible rfl)
  try simp only [Act.put, List.setIfInBounds_toArray, List.set_cons_zero, List.set_cons_succ]
  refine takeTo (i := 1) (v := ?_) (some 29) rfl rfl (by kernel_rfl) (by kernel_rfl) (by kernel_rfl) (fun _ _ _ h => h) (Or.inl ⟨by rfl, ?_⟩) (by assumption) ?_
  rotate_left
  · (intro W7 hSw; (try dsimp only at hSw); go_simp; try with_reducible rfl)
  try simp only [Act.put, List.setIfInBounds_toArray, List.set_cons_zero, List.set_cons_succ]
  refine takeTo (i := 2) (v := ?_) (some 30) rfl rfl (by kernel_rfl) (by kernel_rfl) (by kernel_rfl) (fun _ _ _ h => h) (Or.inl ⟨by rfl, ?_⟩) (by assumption) ?_
  rotate_left
  · (intro W7 hSw; (try dsimp only at hSw); go_simp; try with_reducible rfl)
  try simp only [Act.put, List.setIfInBounds_toArray, List.set_cons_zero, List.set_cons_succ]
  refine takeTo (i := 3) (v := ?_) (some 31) rfl rfl (by kernel_rfl) (by kernel_rfl) (by kernel_rfl) (fun _ _ _ h => h) (Or.inl ⟨by rfl, ?_⟩) (by assumption) ?_
  rotate_left
  · (intro W7 hSw; (try dsimp only at hSw); go_simp; try with_reducible rfl)
  try simp only [Act.put, List.setIfInBounds_toArray, List.set_cons_zero, List.set_cons_succ]
  refine takeTo (i := 4) (v := ?_) (some 32) rfl rfl (by kernel_rfl) (by kernel_rfl) (by kernel_rfl) (fun _ _ _ h => h) (Or.inl ⟨by rfl, ?_⟩) (by assumption) ?_
  rotate_left
  · (intro W7 hSw; (try dsimp only at hSw); go_simp; try with_reducible rfl)
  try simp only [Act.put, List.setIfInBounds_toArray, List.set_cons_zero, List.set_cons_succ]
  refine takeTo (i := 5) (v := ?_) (some 33) rfl rfl (by kernel_rfl) (by kernel_rfl) (by kernel_rfl) (fun _ _ _ h => h) (Or.inl ⟨by rfl, ?_⟩) (by assumption) ?_
  rotate_left
  · (intro W7 hSw; (try dsimp only at hSw); go_simp; try with_reducible rfl)
  try simp only [Act.put, List.setIfInBounds_toArray, List.set_cons_zero, List.set_cons_succ]
  refine takeTo (i := 6) (v := ?_) (some 34) rfl rfl (by kernel_rfl) (by kernel_rfl) (by kernel_rfl) (fun _ _ _ h => h) (Or.inl ⟨by rfl, ?_⟩) (by assumption) ?_
  rotate_left
  · (intro W7 hSw; (try dsimp only at hSw); go_simp; try with_reducible rfl)
  try simp only [Act.put, List.setIfInBounds_toArray, List.set_cons_zero, List.set_cons_succ]
  refine wpAnyH_ready (rs := [7]) (by kernel_rfl) (by simp) ?_
  refine AllReadyH.cons rfl (fun K hK => ?_) AllReadyH.nil
  rw [if_pos (by rfl)]
  go_wp2_with fail
  refine (HP.out w2 HO.out.1 HO.out.2).mono ?_
  rintro r w' ⟨rfl, rfl⟩
  refine hK.out _ _ S1.out (fun hHeld => ?_)
  clear hK K
  try simp only [Act.put, List.setIfInBounds_toArray, List.set_cons_zero, List.set_cons_succ]
  refine takeTo (i := 8) (v := ?_) (some 5) rfl rfl (by kernel_rfl) (by kernel_rfl) (by kernel_rfl) (fun _ _ _ h => h) (Or.inl ⟨by rfl, ?_⟩) (by assumption) ?_
  rotate_left
  · (intro W7 hSw; (try dsimp only at hSw); go_simp; try with_reducible rfl)
  try simp only [Act.put, List.setIfInBounds_toArray, List.set_cons_zero, List.set_cons_succ]
  refine wpAnyH_done (by kernel_rfl) ?_ _
  clear S1
  have t0 := M2.out.2.cell 0
  have t2 := M2.out.2.cell 2
  have t3 := M2.out.2.cell 3
  simp only [List.getElem?_toArray, List.getElem?_cons_zero, List.getElem?_cons_succ] at t0 t2 t3
  have HC := Lib.hid (held_any M2.out.1 HG.out HNN.out.2 WN.out.2 6 n (by decide) WN.out.1)
  go_wp2_with (first | (go_at_call 25; refine HC.out.mono ?_; rintro r w' ⟨rfl, ob', m', g'⟩; have MM := Lib.hid (And.intro m' g'); clear m' g'))
  go_ret
  exact ⟨rfl, _, _, _, _, _, _, _, _, _, ob', MM.out.1, MM.out.2.to (by omega), HNN.out.1, by omega⟩
set_option maxHeartbeats 4000000 in
set_option maxRecDepth 100000 in
theorem step_tells {B gw N steps : Nat} {w w0 : World} {pt : Nat → Nat → Nat} {CV LV RV OV WV : Value} {rs ws : List Row} {ob : Nat → Nat → Ob} (h : Md B w0 w gw N pt CV LV RV OV WV rs ws ob) (hg : Good N steps ob) (hN : N ≤ 30) (on n x : Int) {i : Nat} (hi : i < N) (hp : pickN on (N : Int) = (i : Int)) (ho : -9223372036854775808 ≤ on ∧ on ≤ 9223372036854775807) (hlen : rs.length ≤ 99999990) :
    Calls Try.prog 16 #[.pointer (some ⟨gw, 0, none⟩), .agg #[.int .i64 7, .int .i64 on, .int .i64 n, .int .i64 x]] w fun r w' => r = .returned (.bool true) ∧ StepOut B w0 w' gw steps rs.length := by
  have WN := Lib.hid hlen
  obtain ⟨A0, k0, rfl⟩ := rowShape h.wo.c
  have d1 := h.frame (w' := w.alloc (.cells #[.int .i64 7, .int .i64 on, .int .i64 n, .int .i64 x] 51)) (S := fun _ => False) ((Kept.refl _ w).alloc _) fun _ _ e => e
  have b1 : Blk (w.alloc (.cells #[.int .i64 7, .int .i64 on, .int .i64 n, .int .i64 x] 51)) w.heap.size 51 #[.int .i64 7, .int .i64 on, .int .i64 n, .int .i64 x] := Blk.new w 51 _
  have s0 : (w.alloc (.cells #[.int .i64 7, .int .i64 on, .int .i64 n, .int .i64 x] 51)).cell? ⟨gw, 0, none⟩ = some (.slice A0 N k0) := d1.wo.blk.cell 0
  have t0 := b1.cell 0
  have t1 := b1.cell 1
  have t2 := b1.cell 2
  have t3 := b1.cell 3
  simp only [List.getElem?_toArray, List.getElem?_cons_zero, List.getElem?_cons_succ] at t0 t1 t2 t3
  have M1 := Lib.hid (And.intro d1 b1)
  have HG := Lib.hid hg
  have HNN := Lib.hid (And.intro hN hi)
  have HP := Lib.hid (pick_any on (N : Int) (by omega))
  rw [hp] at HP
  have HO := Lib.hid ho
  have hN0 : ((N : Int) == 0) = false := by simp; omega
  clear d1 b1 h hg hN ho
  go_enter Try.func16, Try.ntmps16
  go_upto_region 5 with fail
  have S0 := Lib.hid (And.intro s0 t1)
  clear s0 t0 t1 t2 t3
  generalize World.alloc w _ = w1 at S0 M1 ⊢
  obtain ⟨q, hq⟩ : ∃ q, q = w.heap.size := ⟨_, rfl⟩
  rw [← hq] at S0 M1 ⊢
  clear hq
  refine wp_region_held_drew (S := fun W' => W'.cell? ⟨gw, 0, none⟩ = some (.slice A0 N k0) ∧ W'.cell? ⟨q, 1, none⟩ = some (.int .i64 on)) (by kernel_rfl) (by exact S0.out) (fun hHeld => ?_)
  change wpAnyH _ _ _ _ _ _ _ _ w1.drew
  have S1 := Lib.hid (show w1.drew.cell? ⟨gw, 0, none⟩ = some (.slice A0 N k0) ∧ w1.drew.cell? ⟨q, 1, none⟩ = some (.int .i64 on) from S0.out)
  have d2 := M1.out.1.frame (w' := w1.drew) (S := fun _ => False) (Kept.refl _ _).drew fun _ _ e => e
  have b2 : Blk w1.drew q 51 #[.int .i64 7, .int .i64 on, .int .i64 n, .int .i64 x] := M1.out.2
  have M2 := Lib.hid (And.intro d2 b2)
  clear d2 b2 hHeld M1 S0
  generalize World.drew w1 = w2 at M2 S1 ⊢
  refine takeTo (i := 0) (v := ?_) (some 28) rfl rfl (by kernel_rfl) (by kernel_rfl) (by kernel_rfl) (fun _ _ _ h => h) (Or.inl ⟨by rfl, ?_⟩) (by assumption) ?_
  rotate_left
  · (intro W7 hSw; (try dsimp only at hSw); go_simp; try with_reducible rfl)
  try simp only [Act.put, List.setIfInBounds_toArray, List.set_cons_zero, List.set_cons_succ]
  refine takeTo (i := 1) (v := ?_) (some 29) rfl rfl (by kernel_rfl) (by kernel_rfl) (by kernel_rfl) (fun _ _ _ h => h) (Or.inl ⟨by rfl, ?_⟩) (by assumption) ?_
  rotate_left
  · (intro W7 hSw; (try dsimp only at hSw); go_simp; try with_reducible rfl)
  try simp only [Act.put, List.setIfInBounds_toArray, List.set_cons_zero, List.set_cons_succ]
  refine takeTo (i := 2) (v := ?_) (some 30) rfl rfl (by kernel_rfl) (by kernel_rfl) (by kernel_rfl) (fun _ _ _ h => h) (Or.inl ⟨by rfl, ?_⟩) (by assumption) ?_
  rotate_left
  · (intro W7 hSw; (try dsimp only at hSw); go_simp; try with_reducible rfl)
  try simp only [Act.put, List.setIfInBounds_toArray, List.set_cons_zero, List.set_cons_succ]
  refine takeTo (i := 3) (v := ?_) (some 31) rfl rfl (by kernel_rfl) (by kernel_rfl) (by kernel_rfl) (fun _ _ _ h => h) (Or.inl ⟨by rfl, ?_⟩) (by assumption) ?_
  rotate_left
  · (intro W7 hSw; (try dsimp only at hSw); go_simp; try with_reducible rfl)
  try simp only [Act.put, List.setIfInBounds_toArray, List.set_cons_zero, List.set_cons_succ]
  refine takeTo (i := 4) (v := ?_) (some 32) rfl rfl (by kernel_rfl) (by kernel_rfl) (by kernel_rfl) (fun _ _ _ h => h) (Or.inl ⟨by rfl, ?_⟩) (by assumption) ?_
  rotate_left
  · (intro W7 hSw; (try dsimp only at hSw); go_simp; try with_reducible rfl)
  try simp only [Act.put, List.setIfInBounds_toArray, List.set_cons_zero, List.set_cons_succ]
  refine takeTo (i := 5) (v := ?_) (some 33) rfl rfl (by kernel_rfl) (by kernel_rfl) (by kernel_rfl) (fun _ _ _ h => h) (Or.inl ⟨by rfl, ?_⟩) (by assumption) ?_
  rotate_left
  · (intro W7 hSw; (try dsimp only at hSw); go_simp; try with_reducible rfl)
  try simp only [Act.put, List.setIfInBounds_toArray, List.set_cons_zero, List.set_cons_succ]
  refine takeTo (i := 6) (v := ?_) (some 34) rfl rfl (by kernel_rfl) (by kernel_rfl) (by kernel_rfl) (fun _ _ _ h => h) (Or.inl ⟨by rfl, ?_⟩) (by assumption) ?_
  rotate_left
  · (intro W7 hSw; (try dsimp only at hSw); go_simp; try with_reducible rfl)
  try simp only [Act.put, List.setIfInBounds_toArray, List.set_cons_zero, List.set_cons_succ]
  refine wpAnyH_ready (rs := [7]) (by kernel_rfl) (by simp) ?_
  refine AllReadyH.cons rfl (fun K hK => ?_) AllReadyH.nil
  rw [if_pos (by rfl)]
  go_wp2_with fail
  refine (HP.out w2 HO.out.1 HO.out.2).mono ?_
  rintro r w' ⟨rfl, rfl⟩
  refine hK.out _ _ S1.out (fun hHeld => ?_)
  clear hK K
  try simp only [Act.put, List.setIfInBounds_toArray, List.set_cons_zero, List.set_cons_succ]
  refine takeTo (i := 8) (v := ?_) (some 5) rfl rfl (by kernel_rfl) (by kernel_rfl) (by kernel_rfl) (fun _ _ _ h => h) (Or.inl ⟨by rfl, ?_⟩) (by assumption) ?_
  rotate_left
  · (intro W7 hSw; (try dsimp only at hSw); go_simp; try with_reducible rfl)
  try simp only [Act.put, List.setIfInBounds_toArray, List.set_cons_zero, List.set_cons_succ]
  refine wpAnyH_done (by kernel_rfl) ?_ _
  clear S1
  have t0 := M2.out.2.cell 0
  have t2 := M2.out.2.cell 2
  have t3 := M2.out.2.cell 3
  simp only [List.getElem?_toArray, List.getElem?_cons_zero, List.getElem?_cons_succ] at t0 t2 t3
  have HC := Lib.hid (tells_any M2.out.1 HG.out HNN.out.2 WN.out)
  go_wp2_with (first | (go_at_call 17; refine HC.out.mono ?_; rintro r w' ⟨rfl, OV', WV', rs', ws', m', l'⟩; have MM := Lib.hid (And.intro m' l'); clear m' l'))
  go_ret
  exact ⟨rfl, _, _, _, _, _, _, _, _, _, _, MM.out.1, HG.out.to (by omega), HNN.out.1, by rw [MM.out.2]; omega⟩
set_option maxHeartbeats 4000000 in
set_option maxRecDepth 100000 in
theorem step_other {B gw N steps : Nat} {w w0 : World} {pt : Nat → Nat → Nat} {CV LV RV OV WV : Value} {rs ws : List Row} {ob : Nat → Nat → Ob} (h : Md B w0 w gw N pt CV LV RV OV WV rs ws ob) (hg : Good N steps ob) (hN : N ≤ 30) (kd on n x : Int) {i : Nat} (hi : i < N) (hp : pickN on (N : Int) = (i : Int)) (ho : -9223372036854775808 ≤ on ∧ on ≤ 9223372036854775807) (hk : kd ≠ 1 ∧ kd ≠ 2 ∧ kd ≠ 3 ∧ kd ≠ 4 ∧ kd ≠ 5 ∧ kd ≠ 6 ∧ kd ≠ 7 ∧ kd ≠ 8) :
    Calls Try.prog 16 #[.pointer (some ⟨gw, 0, none⟩), .agg #[.int .i64 kd, .int .i64 on, .int .i64 n, .int .i64 x]] w fun r w' => r = .returned (.bool true) ∧ StepOut B w0 w' gw steps rs.length := by
  have hk1 : (kd == 1) = false := by simp; omega
  have hk2 : (kd == 2) = false := by simp; omega
  have hk3 : (kd == 3) = false := by simp; omega
  have hk4 : (kd == 4) = false := by simp; omega
  have hk5 : (kd == 5) = false := by simp; omega
  have hk6 : (kd == 6) = false := by simp; omega
  have hk7 : (kd == 7) = false := by simp; omega
  have hk8 : (kd == 8) = false := by simp; omega
  obtain ⟨A0, k0, rfl⟩ := rowShape h.wo.c
  have d1 := h.frame (w' := w.alloc (.cells #[.int .i64 kd, .int .i64 on, .int .i64 n, .int .i64 x] 51)) (S := fun _ => False) ((Kept.refl _ w).alloc _) fun _ _ e => e
  have b1 : Blk (w.alloc (.cells #[.int .i64 kd, .int .i64 on, .int .i64 n, .int .i64 x] 51)) w.heap.size 51 #[.int .i64 kd, .int .i64 on, .int .i64 n, .int .i64 x] := Blk.new w 51 _
  have s0 : (w.alloc (.cells #[.int .i64 kd, .int .i64 on, .int .i64 n, .int .i64 x] 51)).cell? ⟨gw, 0, none⟩ = some (.slice A0 N k0) := d1.wo.blk.cell 0
  have t0 := b1.cell 0
  have t1 := b1.cell 1
  have t2 := b1.cell 2
  have t3 := b1.cell 3
  simp only [List.getElem?_toArray, List.getElem?_cons_zero, List.getElem?_cons_succ] at t0 t1 t2 t3
  have M1 := Lib.hid (And.intro d1 b1)
  have HG := Lib.hid hg
  have HNN := Lib.hid (And.intro hN hi)
  have HP := Lib.hid (pick_any on (N : Int) (by omega))
  rw [hp] at HP
  have HO := Lib.hid ho
  have hN0 : ((N : Int) == 0) = false := by simp; omega
  clear d1 b1 h hg hN ho
  go_enter Try.func16, Try.ntmps16
  go_upto_region 5 with fail
  have S0 := Lib.hid (And.intro s0 t1)
  clear s0 t0 t1 t2 t3
  generalize World.alloc w _ = w1 at S0 M1 ⊢
  obtain ⟨q, hq⟩ : ∃ q, q = w.heap.size := ⟨_, rfl⟩
  rw [← hq] at S0 M1 ⊢
  clear hq
  refine wp_region_held_drew (S := fun W' => W'.cell? ⟨gw, 0, none⟩ = some (.slice A0 N k0) ∧ W'.cell? ⟨q, 1, none⟩ = some (.int .i64 on)) (by kernel_rfl) (by exact S0.out) (fun hHeld => ?_)
  change wpAnyH _ _ _ _ _ _ _ _ w1.drew
  have S1 := Lib.hid (show w1.drew.cell? ⟨gw, 0, none⟩ = some (.slice A0 N k0) ∧ w1.drew.cell? ⟨q, 1, none⟩ = some (.int .i64 on) from S0.out)
  have d2 := M1.out.1.frame (w' := w1.drew) (S := fun _ => False) (Kept.refl _ _).drew fun _ _ e => e
  have b2 : Blk w1.drew q 51 #[.int .i64 kd, .int .i64 on, .int .i64 n, .int .i64 x] := M1.out.2
  have M2 := Lib.hid (And.intro d2 b2)
  clear d2 b2 hHeld M1 S0
  generalize World.drew w1 = w2 at M2 S1 ⊢
  refine takeTo (i := 0) (v := ?_) (some 28) rfl rfl (by kernel_rfl) (by kernel_rfl) (by kernel_rfl) (fun _ _ _ h => h) (Or.inl ⟨by rfl, ?_⟩) (by assumption) ?_
  rotate_left
  · (intro W7 hSw; (try dsimp only at hSw); go_simp; try with_reducible rfl)
  try simp only [Act.put, List.setIfInBounds_toArray, List.set_cons_zero, List.set_cons_succ]
  refine takeTo (i := 1) (v := ?_) (some 29) rfl rfl (by kernel_rfl) (by kernel_rfl) (by kernel_rfl) (fun _ _ _ h => h) (Or.inl ⟨by rfl, ?_⟩) (by assumption) ?_
  rotate_left
  · (intro W7 hSw; (try dsimp only at hSw); go_simp; try with_reducible rfl)
  try simp only [Act.put, List.setIfInBounds_toArray, List.set_cons_zero, List.set_cons_succ]
  refine takeTo (i := 2) (v := ?_) (some 30) rfl rfl (by kernel_rfl) (by kernel_rfl) (by kernel_rfl) (fun _ _ _ h => h) (Or.inl ⟨by rfl, ?_⟩) (by assumption) ?_
  rotate_left
  · (intro W7 hSw; (try dsimp only at hSw); go_simp; try with_reducible rfl)
  try simp only [Act.put, List.setIfInBounds_toArray, List.set_cons_zero, List.set_cons_succ]
  refine takeTo (i := 3) (v := ?_) (some 31) rfl rfl (by kernel_rfl) (by kernel_rfl) (by kernel_rfl) (fun _ _ _ h => h) (Or.inl ⟨by rfl, ?_⟩) (by assumption) ?_
  rotate_left
  · (intro W7 hSw; (try dsimp only at hSw); go_simp; try with_reducible rfl)
  try simp only [Act.put, List.setIfInBounds_toArray, List.set_cons_zero, List.set_cons_succ]
  refine takeTo (i := 4) (v := ?_) (some 32) rfl rfl (by kernel_rfl) (by kernel_rfl) (by kernel_rfl) (fun _ _ _ h => h) (Or.inl ⟨by rfl, ?_⟩) (by assumption) ?_
  rotate_left
  · (intro W7 hSw; (try dsimp only at hSw); go_simp; try with_reducible rfl)
  try simp only [Act.put, List.setIfInBounds_toArray, List.set_cons_zero, List.set_cons_succ]
  refine takeTo (i := 5) (v := ?_) (some 33) rfl rfl (by kernel_rfl) (by kernel_rfl) (by kernel_rfl) (fun _ _ _ h => h) (Or.inl ⟨by rfl, ?_⟩) (by assumption) ?_
  rotate_left
  · (intro W7 hSw; (try dsimp only at hSw); go_simp; try with_reducible rfl)
  try simp only [Act.put, List.setIfInBounds_toArray, List.set_cons_zero, List.set_cons_succ]
  refine takeTo (i := 6) (v := ?_) (some 34) rfl rfl (by kernel_rfl) (by kernel_rfl) (by kernel_rfl) (fun _ _ _ h => h) (Or.inl ⟨by rfl, ?_⟩) (by assumption) ?_
  rotate_left
  · (intro W7 hSw; (try dsimp only at hSw); go_simp; try with_reducible rfl)
  try simp only [Act.put, List.setIfInBounds_toArray, List.set_cons_zero, List.set_cons_succ]
  refine wpAnyH_ready (rs := [7]) (by kernel_rfl) (by simp) ?_
  refine AllReadyH.cons rfl (fun K hK => ?_) AllReadyH.nil
  rw [if_pos (by rfl)]
  go_wp2_with fail
  refine (HP.out w2 HO.out.1 HO.out.2).mono ?_
  rintro r w' ⟨rfl, rfl⟩
  refine hK.out _ _ S1.out (fun hHeld => ?_)
  clear hK K
  try simp only [Act.put, List.setIfInBounds_toArray, List.set_cons_zero, List.set_cons_succ]
  refine takeTo (i := 8) (v := ?_) (some 5) rfl rfl (by kernel_rfl) (by kernel_rfl) (by kernel_rfl) (fun _ _ _ h => h) (Or.inl ⟨by rfl, ?_⟩) (by assumption) ?_
  rotate_left
  · (intro W7 hSw; (try dsimp only at hSw); go_simp; try with_reducible rfl)
  try simp only [Act.put, List.setIfInBounds_toArray, List.set_cons_zero, List.set_cons_succ]
  refine wpAnyH_done (by kernel_rfl) ?_ _
  clear S1
  have t0 := M2.out.2.cell 0
  have t2 := M2.out.2.cell 2
  have t3 := M2.out.2.cell 3
  simp only [List.getElem?_toArray, List.getElem?_cons_zero, List.getElem?_cons_succ] at t0 t2 t3
  go_wp2_with fail
  go_ret
  exact ⟨rfl, _, _, _, _, _, _, _, _, _, _, M2.out.1, HG.out.to (by omega), HNN.out.1, by omega⟩
end Go.Proofs.Ytghakgepchlpgaa
