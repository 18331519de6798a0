/- WALKS: the law's play, for each kind of step. -/
import Derived.Test.YtghakgepchlpgaaDoorX
namespace Go.Proofs.YtghakgepchlpgaaDoor
open Go.RowKit Spc

def PlayPost (B gw : Nat) (w : World) (e : Ending) (w' : World) : Prop := e = .returned (.bool true) ∧ (∃ s x y N f, Wld B gw s x y N f w') ∧ Below B w w'
/-- a step as it came in -/
def opV (k : Bool) (c z : Int) (A : Option Addr) (nb cb : Nat) : Value := .agg #[.bool k, .int .i64 c, .int .i64 z, .slice A nb cb]
set_option maxHeartbeats 2000000 in
set_option maxRecDepth 100000 in
theorem play_alloc (B gw : Nat) (k : Bool) (s x y N : Bool → Nat) (f : Bool → Nat → Bool) (z : Int) (A : Option Addr) (nb cb : Nat) (w : World) (h : Wld B gw s x y N f w) (hT : Tab w) (hB0 : 0 < B) :
    Calls Tryd.prog 23 #[.pointer (some ⟨gw, 0, none⟩), .agg #[.bool k, .int .i64 1, .int .i64 z, .slice A nb cb]] w (PlayPost B gw w) := by
  obtain ⟨bp, hbp⟩ : ∃ bp, bp = w.heap.size := ⟨_, rfl⟩
  have hlt := h.all_lt
  have hgw : gw < bp := by rw [hbp]; exact hlt.1
  have hsb : s k < bp := by rw [hbp]; exact (hlt.2 k).1
  have hyb : y k < bp := by rw [hbp]; exact (hlt.2 k).2.2
  have HB := Lib.hid (show Below B w (w.alloc (.cells #[.bool k, .int .i64 1, .int .i64 z, .slice A nb cb] 56)) from (Below.refl B w).alloc h.size _)
  have KB := Lib.hid (show Blk (w.alloc (.cells #[.bool k, .int .i64 1, .int .i64 z, .slice A nb cb] 56)) bp 56 #[.bool k, .int .i64 1, .int .i64 z, .slice A nb cb] by rw [hbp]; exact Blk.new w 56 _)
  have HW := Lib.hid (show Wld B gw s x y N f (w.alloc (.cells #[.bool k, .int .i64 1, .int .i64 z, .slice A nb cb] 56)) from h.below ((Below.refl w.heap.size w).alloc (Nat.le_refl _) _))
  clear h hlt
  cases k
  case false =>
    go_enter Tryd.func23, Tryd.ntmps23
    go_upto_region 1 with fail
    rw [← hbp]
    generalize World.alloc w _ = W at HB KB HW ⊢
    obtain ⟨c0, c1, c2, c3⟩ := wcells HW.out.blk
    have p0 := KB.out.cell 0
    have p1 := KB.out.cell 1
    have p2 := KB.out.cell 2
    have p3 := KB.out.cell 3
    simp only [List.getElem?_toArray, List.getElem?_cons_zero, List.getElem?_cons_succ] at p0 p1 p2 p3
    clear hbp
    have HT := Lib.hid (hT.below HB.out hB0)
    go_wp2_with fail
    refine (show Calls Tryd.prog 36 #[.pointer (some ⟨gw, 0, none⟩), .int .i64 0] W _ from walloc_any B gw false s x y N f W HW.out HT.out).mono ?_
    rintro e w1 ⟨rfl, h1, b1, -⟩
    have Q1 := Lib.hid (And.intro h1 b1)
    clear h1 b1
    go_wp2_with fail
    go_ret
    obtain ⟨f', hf⟩ := Q1.out.1
    exact ⟨rfl, ⟨s, x, y, N, f', hf⟩, HB.out.trans Q1.out.2⟩
  case true =>
    go_enter Tryd.func23, Tryd.ntmps23
    go_upto_region 1 with fail
    rw [← hbp]
    generalize World.alloc w _ = W at HB KB HW ⊢
    obtain ⟨c0, c1, c2, c3⟩ := wcells HW.out.blk
    have p0 := KB.out.cell 0
    have p1 := KB.out.cell 1
    have p2 := KB.out.cell 2
    have p3 := KB.out.cell 3
    simp only [List.getElem?_toArray, List.getElem?_cons_zero, List.getElem?_cons_succ] at p0 p1 p2 p3
    clear hbp
    have HT := Lib.hid (hT.below HB.out hB0)
    go_wp2_with fail
    refine (show Calls Tryd.prog 36 #[.pointer (some ⟨gw, 0, none⟩), .int .i64 1] W _ from walloc_any B gw true s x y N f W HW.out HT.out).mono ?_
    rintro e w1 ⟨rfl, h1, b1, -⟩
    have Q1 := Lib.hid (And.intro h1 b1)
    clear h1 b1
    go_wp2_with fail
    go_ret
    obtain ⟨f', hf⟩ := Q1.out.1
    exact ⟨rfl, ⟨s, x, y, N, f', hf⟩, HB.out.trans Q1.out.2⟩
set_option maxHeartbeats 2000000 in
set_option maxRecDepth 100000 in
theorem play_take (B gw : Nat) (k : Bool) (s x y N : Bool → Nat) (f : Bool → Nat → Bool) (z : Int) (A : Option Addr) (nb cb : Nat) (w : World) (h : Wld B gw s x y N f w) :
    Calls Tryd.prog 23 #[.pointer (some ⟨gw, 0, none⟩), .agg #[.bool k, .int .i64 2, .int .i64 z, .slice A nb cb]] w (PlayPost B gw w) := by
  obtain ⟨bp, hbp⟩ : ∃ bp, bp = w.heap.size := ⟨_, rfl⟩
  have hlt := h.all_lt
  have hgw : gw < bp := by rw [hbp]; exact hlt.1
  have hsb : s k < bp := by rw [hbp]; exact (hlt.2 k).1
  have hyb : y k < bp := by rw [hbp]; exact (hlt.2 k).2.2
  have HB := Lib.hid (show Below B w (w.alloc (.cells #[.bool k, .int .i64 2, .int .i64 z, .slice A nb cb] 56)) from (Below.refl B w).alloc h.size _)
  have KB := Lib.hid (show Blk (w.alloc (.cells #[.bool k, .int .i64 2, .int .i64 z, .slice A nb cb] 56)) bp 56 #[.bool k, .int .i64 2, .int .i64 z, .slice A nb cb] by rw [hbp]; exact Blk.new w 56 _)
  have HW := Lib.hid (show Wld B gw s x y N f (w.alloc (.cells #[.bool k, .int .i64 2, .int .i64 z, .slice A nb cb] 56)) from h.below ((Below.refl w.heap.size w).alloc (Nat.le_refl _) _))
  clear h hlt
  cases k
  case false =>
    go_enter Tryd.func23, Tryd.ntmps23
    go_upto_region 1 with fail
    rw [← hbp]
    generalize World.alloc w _ = W at HB KB HW ⊢
    obtain ⟨c0, c1, c2, c3⟩ := wcells HW.out.blk
    have p0 := KB.out.cell 0
    have p1 := KB.out.cell 1
    have p2 := KB.out.cell 2
    have p3 := KB.out.cell 3
    simp only [List.getElem?_toArray, List.getElem?_cons_zero, List.getElem?_cons_succ] at p0 p1 p2 p3
    clear hbp
    have HD := Lib.hid (HW.out.below (w' := W.drew) (Below.refl W.heap.size W).drew)
    have KD := Lib.hid (show Blk W.drew bp 56 #[.bool false, .int .i64 2, .int .i64 z, .slice A nb cb] from KB.out)
    obtain ⟨Ev, hEv⟩ : ∃ Ev, Ev = takeE (f false) (N false) z := ⟨_, rfl⟩
    have T1 := Lib.hid (take_any (s false) (N false) z (f false) W.drew (HD.out.sp false))
    have T2 := Lib.hid fun w1 (k1 : Kept (fun b => b = s false) W.drew w1) => rtake_any (x false) (y false) (N false) z (f false) w1 ((HD.out.rsp false).kept k1 (fun e => (HD.out.ne false false).2.2.2.1 e.symm) (fun e => (HD.out.ne false false).2.2.2.2.1 e.symm))
    rw [← hEv] at T1 T2
    clear hEv
    go_upto_region 10 with fail
    refine wp_region_held_drew (S := fun W' => W'.cell? ⟨bp, 2, none⟩ = some (.int .i64 z)) (by kernel_rfl) (by exact p2) (fun hHeld => ?_)
    refine takeTo (i := 0) (v := ?_) (some 32) rfl rfl (by kernel_rfl) (by kernel_rfl) (by kernel_rfl) (fun _ _ _ h => h) (Or.inl ⟨by rfl, ?_⟩) (by assumption) ?_
    rotate_left
    · (intro W7 hSw; (try dsimp only at hSw); go_simp; try with_reducible rfl)
    try simp only [Act.put, List.setIfInBounds_toArray, List.set_cons_zero, List.set_cons_succ]
    refine takeTo (i := 1) (v := ?_) (some 33) rfl rfl (by kernel_rfl) (by kernel_rfl) (by kernel_rfl) (fun _ _ _ h => h) (Or.inl ⟨by rfl, ?_⟩) (by assumption) ?_
    rotate_left
    · (intro W7 hSw; (try dsimp only at hSw); go_simp; try with_reducible rfl)
    try simp only [Act.put, List.setIfInBounds_toArray, List.set_cons_zero, List.set_cons_succ]
    refine takeTo (i := 2) (v := ?_) (some 34) rfl rfl (by kernel_rfl) (by kernel_rfl) (by kernel_rfl) (fun _ _ _ h => h) (Or.inl ⟨by rfl, ?_⟩) (by assumption) ?_
    rotate_left
    · (intro W7 hSw; (try dsimp only at hSw); go_simp; try with_reducible rfl)
    try simp only [Act.put, List.setIfInBounds_toArray, List.set_cons_zero, List.set_cons_succ]
    refine takeTo (i := 4) (v := ?_) (some 36) rfl rfl (by kernel_rfl) (by kernel_rfl) (by kernel_rfl) (fun _ _ _ h => h) (Or.inl ⟨by rfl, ?_⟩) (by assumption) ?_
    rotate_left
    · (intro W7 hSw; (try dsimp only at hSw); go_simp; try with_reducible rfl)
    try simp only [Act.put, List.setIfInBounds_toArray, List.set_cons_zero, List.set_cons_succ]
    refine takeTo (i := 5) (v := ?_) (some 37) rfl rfl (by kernel_rfl) (by kernel_rfl) (by kernel_rfl) (fun _ _ _ h => h) (Or.inl ⟨by rfl, ?_⟩) (by assumption) ?_
    rotate_left
    · (intro W7 hSw; (try dsimp only at hSw); go_simp; try with_reducible rfl)
    try simp only [Act.put, List.setIfInBounds_toArray, List.set_cons_zero, List.set_cons_succ]
    refine takeTo (i := 6) (v := ?_) (some 38) rfl rfl (by kernel_rfl) (by kernel_rfl) (by kernel_rfl) (fun _ _ _ h => h) (Or.inl ⟨by rfl, ?_⟩) (by assumption) ?_
    rotate_left
    · (intro W7 hSw; (try dsimp only at hSw); go_simp; try with_reducible rfl)
    try simp only [Act.put, List.setIfInBounds_toArray, List.set_cons_zero, List.set_cons_succ]
    refine wpAnyH_ready (rs := [3]) (by kernel_rfl) (by simp) ?_
    refine AllReadyH.cons rfl (fun K hK => ?_) AllReadyH.nil
    rw [if_pos (by rfl)]
    go_wp2_with fail
    refine T1.out.mono ?_
    rintro e w1 ⟨rfl, s1, k1⟩
    have K1 := Lib.hid (And.intro s1 k1)
    have B1 := Lib.hid (KD.out.kept k1 (by omega))
    clear s1 k1
    refine hK.out _ _ (B1.out.cell 2) (fun hHeld => ?_)
    clear hK K
    try simp only [Act.put, List.setIfInBounds_toArray, List.set_cons_zero, List.set_cons_succ]
    refine wpAnyH_ready (rs := [7]) (by kernel_rfl) (by simp) ?_
    refine AllReadyH.cons rfl (fun K hK => ?_) AllReadyH.nil
    rw [if_pos (by rfl)]
    go_wp2_with fail
    refine (T2.out w1 K1.out.2).mono ?_
    rintro e w2 ⟨rfl, s2, k2⟩
    have K2 := Lib.hid (And.intro s2 k2)
    have B2 := Lib.hid (B1.out.kept k2 (by omega))
    clear s2 k2
    refine hK.out _ _ (B2.out.cell 2) (fun hHeld => ?_)
    clear hK K
    try simp only [Act.put, List.setIfInBounds_toArray, List.set_cons_zero, List.set_cons_succ]
    refine takeTo (i := 8) (v := ?_) (some 40) rfl rfl (by kernel_rfl) (by kernel_rfl) (by kernel_rfl) (fun _ _ _ h => h) (Or.inl ⟨by rfl, ?_⟩) (by assumption) ?_
    rotate_left
    · (intro W7 hSw; (try dsimp only at hSw); go_simp; try with_reducible rfl)
    try simp only [Act.put, List.setIfInBounds_toArray, List.set_cons_zero, List.set_cons_succ]
    refine takeTo (i := 9) (v := ?_) (some 4) rfl rfl (by kernel_rfl) (by kernel_rfl) (by kernel_rfl) (fun _ _ _ h => h) (Or.inl ⟨by rfl, ?_⟩) (by assumption) ?_
    rotate_left
    · (intro W7 hSw; (try dsimp only at hSw); go_simp; try with_reducible rfl)
    try simp only [Act.put, List.setIfInBounds_toArray, List.set_cons_zero, List.set_cons_succ]
    refine wpAnyH_done (by kernel_rfl) ?_ _
    go_wp2_with fail
    go_ret
    have ht := HD.out.two false _ K1.out.1 K1.out.2 K2.out.1 K2.out.2
    exact ⟨rfl, ⟨s, x, y, N, _, ht.1⟩, HB.out.drew.trans ht.2.1⟩
  case true =>
    go_enter Tryd.func23, Tryd.ntmps23
    go_upto_region 1 with fail
    rw [← hbp]
    generalize World.alloc w _ = W at HB KB HW ⊢
    obtain ⟨c0, c1, c2, c3⟩ := wcells HW.out.blk
    have p0 := KB.out.cell 0
    have p1 := KB.out.cell 1
    have p2 := KB.out.cell 2
    have p3 := KB.out.cell 3
    simp only [List.getElem?_toArray, List.getElem?_cons_zero, List.getElem?_cons_succ] at p0 p1 p2 p3
    clear hbp
    have HD := Lib.hid (HW.out.below (w' := W.drew) (Below.refl W.heap.size W).drew)
    have KD := Lib.hid (show Blk W.drew bp 56 #[.bool true, .int .i64 2, .int .i64 z, .slice A nb cb] from KB.out)
    obtain ⟨Ev, hEv⟩ : ∃ Ev, Ev = takeE (f true) (N true) z := ⟨_, rfl⟩
    have T1 := Lib.hid (take_any (s true) (N true) z (f true) W.drew (HD.out.sp true))
    have T2 := Lib.hid fun w1 (k1 : Kept (fun b => b = s true) W.drew w1) => rtake_any (x true) (y true) (N true) z (f true) w1 ((HD.out.rsp true).kept k1 (fun e => (HD.out.ne true true).2.2.2.1 e.symm) (fun e => (HD.out.ne true true).2.2.2.2.1 e.symm))
    rw [← hEv] at T1 T2
    clear hEv
    go_upto_region 10 with fail
    refine wp_region_held_drew (S := fun W' => W'.cell? ⟨bp, 2, none⟩ = some (.int .i64 z)) (by kernel_rfl) (by exact p2) (fun hHeld => ?_)
    refine takeTo (i := 0) (v := ?_) (some 32) rfl rfl (by kernel_rfl) (by kernel_rfl) (by kernel_rfl) (fun _ _ _ h => h) (Or.inl ⟨by rfl, ?_⟩) (by assumption) ?_
    rotate_left
    · (intro W7 hSw; (try dsimp only at hSw); go_simp; try with_reducible rfl)
    try simp only [Act.put, List.setIfInBounds_toArray, List.set_cons_zero, List.set_cons_succ]
    refine takeTo (i := 1) (v := ?_) (some 33) rfl rfl (by kernel_rfl) (by kernel_rfl) (by kernel_rfl) (fun _ _ _ h => h) (Or.inl ⟨by rfl, ?_⟩) (by assumption) ?_
    rotate_left
    · (intro W7 hSw; (try dsimp only at hSw); go_simp; try with_reducible rfl)
    try simp only [Act.put, List.setIfInBounds_toArray, List.set_cons_zero, List.set_cons_succ]
    refine takeTo (i := 2) (v := ?_) (some 34) rfl rfl (by kernel_rfl) (by kernel_rfl) (by kernel_rfl) (fun _ _ _ h => h) (Or.inl ⟨by rfl, ?_⟩) (by assumption) ?_
    rotate_left
    · (intro W7 hSw; (try dsimp only at hSw); go_simp; try with_reducible rfl)
    try simp only [Act.put, List.setIfInBounds_toArray, List.set_cons_zero, List.set_cons_succ]
    refine takeTo (i := 4) (v := ?_) (some 36) rfl rfl (by kernel_rfl) (by kernel_rfl) (by kernel_rfl) (fun _ _ _ h => h) (Or.inl ⟨by rfl, ?_⟩) (by assumption) ?_
    rotate_left
    · (intro W7 hSw; (try dsimp only at hSw); go_simp; try with_reducible rfl)
    try simp only [Act.put, List.setIfInBounds_toArray, List.set_cons_zero, List.set_cons_succ]
    refine takeTo (i := 5) (v := ?_) (some 37) rfl rfl (by kernel_rfl) (by kernel_rfl) (by kernel_rfl) (fun _ _ _ h => h) (Or.inl ⟨by rfl, ?_⟩) (by assumption) ?_
    rotate_left
    · (intro W7 hSw; (try dsimp only at hSw); go_simp; try with_reducible rfl)
    try simp only [Act.put, List.setIfInBounds_toArray, List.set_cons_zero, List.set_cons_succ]
    refine takeTo (i := 6) (v := ?_) (some 38) rfl rfl (by kernel_rfl) (by kernel_rfl) (by kernel_rfl) (fun _ _ _ h => h) (Or.inl ⟨by rfl, ?_⟩) (by assumption) ?_
    rotate_left
    · (intro W7 hSw; (try dsimp only at hSw); go_simp; try with_reducible rfl)
    try simp only [Act.put, List.setIfInBounds_toArray, List.set_cons_zero, List.set_cons_succ]
    refine wpAnyH_ready (rs := [3]) (by kernel_rfl) (by simp) ?_
    refine AllReadyH.cons rfl (fun K hK => ?_) AllReadyH.nil
    rw [if_pos (by rfl)]
    go_wp2_with fail
    refine T1.out.mono ?_
    rintro e w1 ⟨rfl, s1, k1⟩
    have K1 := Lib.hid (And.intro s1 k1)
    have B1 := Lib.hid (KD.out.kept k1 (by omega))
    clear s1 k1
    refine hK.out _ _ (B1.out.cell 2) (fun hHeld => ?_)
    clear hK K
    try simp only [Act.put, List.setIfInBounds_toArray, List.set_cons_zero, List.set_cons_succ]
    refine wpAnyH_ready (rs := [7]) (by kernel_rfl) (by simp) ?_
    refine AllReadyH.cons rfl (fun K hK => ?_) AllReadyH.nil
    rw [if_pos (by rfl)]
    go_wp2_with fail
    refine (T2.out w1 K1.out.2).mono ?_
    rintro e w2 ⟨rfl, s2, k2⟩
    have K2 := Lib.hid (And.intro s2 k2)
    have B2 := Lib.hid (B1.out.kept k2 (by omega))
    clear s2 k2
    refine hK.out _ _ (B2.out.cell 2) (fun hHeld => ?_)
    clear hK K
    try simp only [Act.put, List.setIfInBounds_toArray, List.set_cons_zero, List.set_cons_succ]
    refine takeTo (i := 8) (v := ?_) (some 40) rfl rfl (by kernel_rfl) (by kernel_rfl) (by kernel_rfl) (fun _ _ _ h => h) (Or.inl ⟨by rfl, ?_⟩) (by assumption) ?_
    rotate_left
    · (intro W7 hSw; (try dsimp only at hSw); go_simp; try with_reducible rfl)
    try simp only [Act.put, List.setIfInBounds_toArray, List.set_cons_zero, List.set_cons_succ]
    refine takeTo (i := 9) (v := ?_) (some 4) rfl rfl (by kernel_rfl) (by kernel_rfl) (by kernel_rfl) (fun _ _ _ h => h) (Or.inl ⟨by rfl, ?_⟩) (by assumption) ?_
    rotate_left
    · (intro W7 hSw; (try dsimp only at hSw); go_simp; try with_reducible rfl)
    try simp only [Act.put, List.setIfInBounds_toArray, List.set_cons_zero, List.set_cons_succ]
    refine wpAnyH_done (by kernel_rfl) ?_ _
    go_wp2_with fail
    go_ret
    have ht := HD.out.two true _ K1.out.1 K1.out.2 K2.out.1 K2.out.2
    exact ⟨rfl, ⟨s, x, y, N, _, ht.1⟩, HB.out.drew.trans ht.2.1⟩
set_option maxHeartbeats 2000000 in
set_option maxRecDepth 100000 in
theorem play_free (B gw : Nat) (k : Bool) (s x y N : Bool → Nat) (f : Bool → Nat → Bool) (z : Int) (A : Option Addr) (nb cb : Nat) (w : World) (h : Wld B gw s x y N f w) :
    Calls Tryd.prog 23 #[.pointer (some ⟨gw, 0, none⟩), .agg #[.bool k, .int .i64 3, .int .i64 z, .slice A nb cb]] w (PlayPost B gw w) := by
  obtain ⟨bp, hbp⟩ : ∃ bp, bp = w.heap.size := ⟨_, rfl⟩
  have hlt := h.all_lt
  have hgw : gw < bp := by rw [hbp]; exact hlt.1
  have hsb : s k < bp := by rw [hbp]; exact (hlt.2 k).1
  have hyb : y k < bp := by rw [hbp]; exact (hlt.2 k).2.2
  have HB := Lib.hid (show Below B w (w.alloc (.cells #[.bool k, .int .i64 3, .int .i64 z, .slice A nb cb] 56)) from (Below.refl B w).alloc h.size _)
  have KB := Lib.hid (show Blk (w.alloc (.cells #[.bool k, .int .i64 3, .int .i64 z, .slice A nb cb] 56)) bp 56 #[.bool k, .int .i64 3, .int .i64 z, .slice A nb cb] by rw [hbp]; exact Blk.new w 56 _)
  have HW := Lib.hid (show Wld B gw s x y N f (w.alloc (.cells #[.bool k, .int .i64 3, .int .i64 z, .slice A nb cb] 56)) from h.below ((Below.refl w.heap.size w).alloc (Nat.le_refl _) _))
  clear h hlt
  cases k
  case false =>
    go_enter Tryd.func23, Tryd.ntmps23
    go_upto_region 1 with fail
    rw [← hbp]
    generalize World.alloc w _ = W at HB KB HW ⊢
    obtain ⟨c0, c1, c2, c3⟩ := wcells HW.out.blk
    have p0 := KB.out.cell 0
    have p1 := KB.out.cell 1
    have p2 := KB.out.cell 2
    have p3 := KB.out.cell 3
    simp only [List.getElem?_toArray, List.getElem?_cons_zero, List.getElem?_cons_succ] at p0 p1 p2 p3
    clear hbp
    have HD := Lib.hid (HW.out.below (w' := W.drew) (Below.refl W.heap.size W).drew)
    have KD := Lib.hid (show Blk W.drew bp 56 #[.bool false, .int .i64 3, .int .i64 z, .slice A nb cb] from KB.out)
    obtain ⟨Ev, hEv⟩ : ∃ Ev, Ev = freeE (f false) (N false) z := ⟨_, rfl⟩
    have T1 := Lib.hid (free_any (s false) (N false) z (f false) W.drew (HD.out.sp false))
    have T2 := Lib.hid fun w1 (k1 : Kept (fun b => b = s false) W.drew w1) => rfree_any (x false) (y false) (N false) z (f false) w1 ((HD.out.rsp false).kept k1 (fun e => (HD.out.ne false false).2.2.2.1 e.symm) (fun e => (HD.out.ne false false).2.2.2.2.1 e.symm))
    rw [← hEv] at T1 T2
    clear hEv
    go_upto_region 12 with fail
    refine wp_region_held_drew (S := fun W' => W'.cell? ⟨bp, 2, none⟩ = some (.int .i64 z)) (by kernel_rfl) (by exact p2) (fun hHeld => ?_)
    refine takeTo (i := 0) (v := ?_) (some 43) rfl rfl (by kernel_rfl) (by kernel_rfl) (by kernel_rfl) (fun _ _ _ h => h) (Or.inl ⟨by rfl, ?_⟩) (by assumption) ?_
    rotate_left
    · (intro W7 hSw; (try dsimp only at hSw); go_simp; try with_reducible rfl)
    try simp only [Act.put, List.setIfInBounds_toArray, List.set_cons_zero, List.set_cons_succ]
    refine takeTo (i := 1) (v := ?_) (some 44) rfl rfl (by kernel_rfl) (by kernel_rfl) (by kernel_rfl) (fun _ _ _ h => h) (Or.inl ⟨by rfl, ?_⟩) (by assumption) ?_
    rotate_left
    · (intro W7 hSw; (try dsimp only at hSw); go_simp; try with_reducible rfl)
    try simp only [Act.put, List.setIfInBounds_toArray, List.set_cons_zero, List.set_cons_succ]
    refine takeTo (i := 2) (v := ?_) (some 45) rfl rfl (by kernel_rfl) (by kernel_rfl) (by kernel_rfl) (fun _ _ _ h => h) (Or.inl ⟨by rfl, ?_⟩) (by assumption) ?_
    rotate_left
    · (intro W7 hSw; (try dsimp only at hSw); go_simp; try with_reducible rfl)
    try simp only [Act.put, List.setIfInBounds_toArray, List.set_cons_zero, List.set_cons_succ]
    refine takeTo (i := 4) (v := ?_) (some 47) rfl rfl (by kernel_rfl) (by kernel_rfl) (by kernel_rfl) (fun _ _ _ h => h) (Or.inl ⟨by rfl, ?_⟩) (by assumption) ?_
    rotate_left
    · (intro W7 hSw; (try dsimp only at hSw); go_simp; try with_reducible rfl)
    try simp only [Act.put, List.setIfInBounds_toArray, List.set_cons_zero, List.set_cons_succ]
    refine takeTo (i := 5) (v := ?_) (some 48) rfl rfl (by kernel_rfl) (by kernel_rfl) (by kernel_rfl) (fun _ _ _ h => h) (Or.inl ⟨by rfl, ?_⟩) (by assumption) ?_
    rotate_left
    · (intro W7 hSw; (try dsimp only at hSw); go_simp; try with_reducible rfl)
    try simp only [Act.put, List.setIfInBounds_toArray, List.set_cons_zero, List.set_cons_succ]
    refine takeTo (i := 6) (v := ?_) (some 49) rfl rfl (by kernel_rfl) (by kernel_rfl) (by kernel_rfl) (fun _ _ _ h => h) (Or.inl ⟨by rfl, ?_⟩) (by assumption) ?_
    rotate_left
    · (intro W7 hSw; (try dsimp only at hSw); go_simp; try with_reducible rfl)
    try simp only [Act.put, List.setIfInBounds_toArray, List.set_cons_zero, List.set_cons_succ]
    refine wpAnyH_ready (rs := [3]) (by kernel_rfl) (by simp) ?_
    refine AllReadyH.cons rfl (fun K hK => ?_) AllReadyH.nil
    rw [if_pos (by rfl)]
    go_wp2_with fail
    refine T1.out.mono ?_
    rintro e w1 ⟨rfl, s1, k1⟩
    have K1 := Lib.hid (And.intro s1 k1)
    have B1 := Lib.hid (KD.out.kept k1 (by omega))
    clear s1 k1
    refine hK.out _ _ (B1.out.cell 2) (fun hHeld => ?_)
    clear hK K
    try simp only [Act.put, List.setIfInBounds_toArray, List.set_cons_zero, List.set_cons_succ]
    refine wpAnyH_ready (rs := [7]) (by kernel_rfl) (by simp) ?_
    refine AllReadyH.cons rfl (fun K hK => ?_) AllReadyH.nil
    rw [if_pos (by rfl)]
    go_wp2_with fail
    refine (T2.out w1 K1.out.2).mono ?_
    rintro e w2 ⟨rfl, s2, k2⟩
    have K2 := Lib.hid (And.intro s2 k2)
    have B2 := Lib.hid (B1.out.kept k2 (by omega))
    clear s2 k2
    refine hK.out _ _ (B2.out.cell 2) (fun hHeld => ?_)
    clear hK K
    try simp only [Act.put, List.setIfInBounds_toArray, List.set_cons_zero, List.set_cons_succ]
    refine takeTo (i := 8) (v := ?_) (some 51) rfl rfl (by kernel_rfl) (by kernel_rfl) (by kernel_rfl) (fun _ _ _ h => h) (Or.inl ⟨by rfl, ?_⟩) (by assumption) ?_
    rotate_left
    · (intro W7 hSw; (try dsimp only at hSw); go_simp; try with_reducible rfl)
    try simp only [Act.put, List.setIfInBounds_toArray, List.set_cons_zero, List.set_cons_succ]
    refine takeTo (i := 9) (v := ?_) (some 4) rfl rfl (by kernel_rfl) (by kernel_rfl) (by kernel_rfl) (fun _ _ _ h => h) (Or.inl ⟨by rfl, ?_⟩) (by assumption) ?_
    rotate_left
    · (intro W7 hSw; (try dsimp only at hSw); go_simp; try with_reducible rfl)
    try simp only [Act.put, List.setIfInBounds_toArray, List.set_cons_zero, List.set_cons_succ]
    refine wpAnyH_done (by kernel_rfl) ?_ _
    go_wp2_with fail
    go_ret
    have ht := HD.out.two false _ K1.out.1 K1.out.2 K2.out.1 K2.out.2
    exact ⟨rfl, ⟨s, x, y, N, _, ht.1⟩, HB.out.drew.trans ht.2.1⟩
  case true =>
    go_enter Tryd.func23, Tryd.ntmps23
    go_upto_region 1 with fail
    rw [← hbp]
    generalize World.alloc w _ = W at HB KB HW ⊢
    obtain ⟨c0, c1, c2, c3⟩ := wcells HW.out.blk
    have p0 := KB.out.cell 0
    have p1 := KB.out.cell 1
    have p2 := KB.out.cell 2
    have p3 := KB.out.cell 3
    simp only [List.getElem?_toArray, List.getElem?_cons_zero, List.getElem?_cons_succ] at p0 p1 p2 p3
    clear hbp
    have HD := Lib.hid (HW.out.below (w' := W.drew) (Below.refl W.heap.size W).drew)
    have KD := Lib.hid (show Blk W.drew bp 56 #[.bool true, .int .i64 3, .int .i64 z, .slice A nb cb] from KB.out)
    obtain ⟨Ev, hEv⟩ : ∃ Ev, Ev = freeE (f true) (N true) z := ⟨_, rfl⟩
    have T1 := Lib.hid (free_any (s true) (N true) z (f true) W.drew (HD.out.sp true))
    have T2 := Lib.hid fun w1 (k1 : Kept (fun b => b = s true) W.drew w1) => rfree_any (x true) (y true) (N true) z (f true) w1 ((HD.out.rsp true).kept k1 (fun e => (HD.out.ne true true).2.2.2.1 e.symm) (fun e => (HD.out.ne true true).2.2.2.2.1 e.symm))
    rw [← hEv] at T1 T2
    clear hEv
    go_upto_region 12 with fail
    refine wp_region_held_drew (S := fun W' => W'.cell? ⟨bp, 2, none⟩ = some (.int .i64 z)) (by kernel_rfl) (by exact p2) (fun hHeld => ?_)
    refine takeTo (i := 0) (v := ?_) (some 43) rfl rfl (by kernel_rfl) (by kernel_rfl) (by kernel_rfl) (fun _ _ _ h => h) (Or.inl ⟨by rfl, ?_⟩) (by assumption) ?_
    rotate_left
    · (intro W7 hSw; (try dsimp only at hSw); go_simp; try with_reducible rfl)
    try simp only [Act.put, List.setIfInBounds_toArray, List.set_cons_zero, List.set_cons_succ]
    refine takeTo (i := 1) (v := ?_) (some 44) rfl rfl (by kernel_rfl) (by kernel_rfl) (by kernel_rfl) (fun _ _ _ h => h) (Or.inl ⟨by rfl, ?_⟩) (by assumption) ?_
    rotate_left
    · (intro W7 hSw; (try dsimp only at hSw); go_simp; try with_reducible rfl)
    try simp only [Act.put, List.setIfInBounds_toArray, List.set_cons_zero, List.set_cons_succ]
    refine takeTo (i := 2) (v := ?_) (some 45) rfl rfl (by kernel_rfl) (by kernel_rfl) (by kernel_rfl) (fun _ _ _ h => h) (Or.inl ⟨by rfl, ?_⟩) (by assumption) ?_
    rotate_left
    · (intro W7 hSw; (try dsimp only at hSw); go_simp; try with_reducible rfl)
    try simp only [Act.put, List.setIfInBounds_toArray, List.set_cons_zero, List.set_cons_succ]
    refine takeTo (i := 4) (v := ?_) (some 47) rfl rfl (by kernel_rfl) (by kernel_rfl) (by kernel_rfl) (fun _ _ _ h => h) (Or.inl ⟨by rfl, ?_⟩) (by assumption) ?_
    rotate_left
    · (intro W7 hSw; (try dsimp only at hSw); go_simp; try with_reducible rfl)
    try simp only [Act.put, List.setIfInBounds_toArray, List.set_cons_zero, List.set_cons_succ]
    refine takeTo (i := 5) (v := ?_) (some 48) rfl rfl (by kernel_rfl) (by kernel_rfl) (by kernel_rfl) (fun _ _ _ h => h) (Or.inl ⟨by rfl, ?_⟩) (by assumption) ?_
    rotate_left
    · (intro W7 hSw; (try dsimp only at hSw); go_simp; try with_reducible rfl)
    try simp only [Act.put, List.setIfInBounds_toArray, List.set_cons_zero, List.set_cons_succ]
    refine takeTo (i := 6) (v := ?_) (some 49) rfl rfl (by kernel_rfl) (by kernel_rfl) (by kernel_rfl) (fun _ _ _ h => h) (Or.inl ⟨by rfl, ?_⟩) (by assumption) ?_
    rotate_left
    · (intro W7 hSw; (try dsimp only at hSw); go_simp; try with_reducible rfl)
    try simp only [Act.put, List.setIfInBounds_toArray, List.set_cons_zero, List.set_cons_succ]
    refine wpAnyH_ready (rs := [3]) (by kernel_rfl) (by simp) ?_
    refine AllReadyH.cons rfl (fun K hK => ?_) AllReadyH.nil
    rw [if_pos (by rfl)]
    go_wp2_with fail
    refine T1.out.mono ?_
    rintro e w1 ⟨rfl, s1, k1⟩
    have K1 := Lib.hid (And.intro s1 k1)
    have B1 := Lib.hid (KD.out.kept k1 (by omega))
    clear s1 k1
    refine hK.out _ _ (B1.out.cell 2) (fun hHeld => ?_)
    clear hK K
    try simp only [Act.put, List.setIfInBounds_toArray, List.set_cons_zero, List.set_cons_succ]
    refine wpAnyH_ready (rs := [7]) (by kernel_rfl) (by simp) ?_
    refine AllReadyH.cons rfl (fun K hK => ?_) AllReadyH.nil
    rw [if_pos (by rfl)]
    go_wp2_with fail
    refine (T2.out w1 K1.out.2).mono ?_
    rintro e w2 ⟨rfl, s2, k2⟩
    have K2 := Lib.hid (And.intro s2 k2)
    have B2 := Lib.hid (B1.out.kept k2 (by omega))
    clear s2 k2
    refine hK.out _ _ (B2.out.cell 2) (fun hHeld => ?_)
    clear hK K
    try simp only [Act.put, List.setIfInBounds_toArray, List.set_cons_zero, List.set_cons_succ]
    refine takeTo (i := 8) (v := ?_) (some 51) rfl rfl (by kernel_rfl) (by kernel_rfl) (by kernel_rfl) (fun _ _ _ h => h) (Or.inl ⟨by rfl, ?_⟩) (by assumption) ?_
    rotate_left
    · (intro W7 hSw; (try dsimp only at hSw); go_simp; try with_reducible rfl)
    try simp only [Act.put, List.setIfInBounds_toArray, List.set_cons_zero, List.set_cons_succ]
    refine takeTo (i := 9) (v := ?_) (some 4) rfl rfl (by kernel_rfl) (by kernel_rfl) (by kernel_rfl) (fun _ _ _ h => h) (Or.inl ⟨by rfl, ?_⟩) (by assumption) ?_
    rotate_left
    · (intro W7 hSw; (try dsimp only at hSw); go_simp; try with_reducible rfl)
    try simp only [Act.put, List.setIfInBounds_toArray, List.set_cons_zero, List.set_cons_succ]
    refine wpAnyH_done (by kernel_rfl) ?_ _
    go_wp2_with fail
    go_ret
    have ht := HD.out.two true _ K1.out.1 K1.out.2 K2.out.1 K2.out.2
    exact ⟨rfl, ⟨s, x, y, N, _, ht.1⟩, HB.out.drew.trans ht.2.1⟩
set_option maxHeartbeats 2000000 in
set_option maxRecDepth 100000 in
theorem play_ask (B gw : Nat) (k : Bool) (s x y N : Bool → Nat) (f : Bool → Nat → Bool) (z : Int) (A : Option Addr) (nb cb : Nat) (w : World) (h : Wld B gw s x y N f w) :
    Calls Tryd.prog 23 #[.pointer (some ⟨gw, 0, none⟩), .agg #[.bool k, .int .i64 4, .int .i64 z, .slice A nb cb]] w (PlayPost B gw w) := by
  obtain ⟨bp, hbp⟩ : ∃ bp, bp = w.heap.size := ⟨_, rfl⟩
  have hlt := h.all_lt
  have hgw : gw < bp := by rw [hbp]; exact hlt.1
  have hsb : s k < bp := by rw [hbp]; exact (hlt.2 k).1
  have hyb : y k < bp := by rw [hbp]; exact (hlt.2 k).2.2
  have HB := Lib.hid (show Below B w (w.alloc (.cells #[.bool k, .int .i64 4, .int .i64 z, .slice A nb cb] 56)) from (Below.refl B w).alloc h.size _)
  have KB := Lib.hid (show Blk (w.alloc (.cells #[.bool k, .int .i64 4, .int .i64 z, .slice A nb cb] 56)) bp 56 #[.bool k, .int .i64 4, .int .i64 z, .slice A nb cb] by rw [hbp]; exact Blk.new w 56 _)
  have HW := Lib.hid (show Wld B gw s x y N f (w.alloc (.cells #[.bool k, .int .i64 4, .int .i64 z, .slice A nb cb] 56)) from h.below ((Below.refl w.heap.size w).alloc (Nat.le_refl _) _))
  clear h hlt
  cases k
  case false =>
    go_enter Tryd.func23, Tryd.ntmps23
    go_upto_region 1 with fail
    rw [← hbp]
    generalize World.alloc w _ = W at HB KB HW ⊢
    obtain ⟨c0, c1, c2, c3⟩ := wcells HW.out.blk
    have p0 := KB.out.cell 0
    have p1 := KB.out.cell 1
    have p2 := KB.out.cell 2
    have p3 := KB.out.cell 3
    simp only [List.getElem?_toArray, List.getElem?_cons_zero, List.getElem?_cons_succ] at p0 p1 p2 p3
    clear hbp
    have HD := Lib.hid (HW.out.below (w' := W.drew) (Below.refl W.heap.size W).drew)
    have KD := Lib.hid (show Blk W.drew bp 56 #[.bool false, .int .i64 4, .int .i64 z, .slice A nb cb] from KB.out)
    have A1 := Lib.hid (has_any (s false) (N false) z (f false) W.drew (HD.out.sp false))
    have A2 := Lib.hid (rhas_any (x false) (y false) (N false) z (f false) W.drew (HD.out.rsp false))
    have A3 := Lib.hid (used_any (s false) (N false) (f false) W.drew (HD.out.sp false))
    have A4 := Lib.hid (rused_any (x false) (y false) (N false) (f false) W.drew (HD.out.rsp false))
    have A5 := Lib.hid (left_any (s false) (N false) (f false) W.drew (HD.out.sp false))
    have A6 := Lib.hid fun w1 (b1 : Below W.drew.heap.size W.drew w1) => rleft_any (x false) (y false) (N false) (f false) w1 ((HD.out.rsp false).below b1)
    obtain ⟨hv, hhv⟩ : ∃ v, v = hasB (f false) z := ⟨_, rfl⟩
    obtain ⟨uv, huv⟩ : ∃ v : Int, v = (cnt (f false) (N false) : Int) := ⟨_, rfl⟩
    rw [← hhv] at A1 A2
    rw [← huv] at A3 A4 A5 A6
    obtain ⟨lv, hlv⟩ : ∃ v : Int, v = (N false : Int) - uv := ⟨_, rfl⟩
    rw [← hlv] at A5 A6
    clear hhv huv hlv
    go_upto_region 14 with fail
    refine wp_region_held_drew (S := fun W' => W'.cell? ⟨bp, 2, none⟩ = some (.int .i64 z)) (by kernel_rfl) (by exact p2) (fun hHeld => ?_)
    refine takeTo (i := 0) (v := ?_) (some 54) rfl rfl (by kernel_rfl) (by kernel_rfl) (by kernel_rfl) (fun _ _ _ h => h) (Or.inl ⟨by rfl, ?_⟩) (by assumption) ?_
    rotate_left
    · (intro W7 hSw; (try dsimp only at hSw); go_simp; try with_reducible rfl)
    try simp only [Act.put, List.setIfInBounds_toArray, List.set_cons_zero, List.set_cons_succ]
    refine takeTo (i := 1) (v := ?_) (some 55) rfl rfl (by kernel_rfl) (by kernel_rfl) (by kernel_rfl) (fun _ _ _ h => h) (Or.inl ⟨by rfl, ?_⟩) (by assumption) ?_
    rotate_left
    · (intro W7 hSw; (try dsimp only at hSw); go_simp; try with_reducible rfl)
    try simp only [Act.put, List.setIfInBounds_toArray, List.set_cons_zero, List.set_cons_succ]
    refine takeTo (i := 2) (v := ?_) (some 56) rfl rfl (by kernel_rfl) (by kernel_rfl) (by kernel_rfl) (fun _ _ _ h => h) (Or.inl ⟨by rfl, ?_⟩) (by assumption) ?_
    rotate_left
    · (intro W7 hSw; (try dsimp only at hSw); go_simp; try with_reducible rfl)
    try simp only [Act.put, List.setIfInBounds_toArray, List.set_cons_zero, List.set_cons_succ]
    refine takeTo (i := 4) (v := ?_) (some 58) rfl rfl (by kernel_rfl) (by kernel_rfl) (by kernel_rfl) (fun _ _ _ h => h) (Or.inl ⟨by rfl, ?_⟩) (by assumption) ?_
    rotate_left
    · (intro W7 hSw; (try dsimp only at hSw); go_simp; try with_reducible rfl)
    try simp only [Act.put, List.setIfInBounds_toArray, List.set_cons_zero, List.set_cons_succ]
    refine takeTo (i := 5) (v := ?_) (some 59) rfl rfl (by kernel_rfl) (by kernel_rfl) (by kernel_rfl) (fun _ _ _ h => h) (Or.inl ⟨by rfl, ?_⟩) (by assumption) ?_
    rotate_left
    · (intro W7 hSw; (try dsimp only at hSw); go_simp; try with_reducible rfl)
    try simp only [Act.put, List.setIfInBounds_toArray, List.set_cons_zero, List.set_cons_succ]
    refine takeTo (i := 6) (v := ?_) (some 60) rfl rfl (by kernel_rfl) (by kernel_rfl) (by kernel_rfl) (fun _ _ _ h => h) (Or.inl ⟨by rfl, ?_⟩) (by assumption) ?_
    rotate_left
    · (intro W7 hSw; (try dsimp only at hSw); go_simp; try with_reducible rfl)
    try simp only [Act.put, List.setIfInBounds_toArray, List.set_cons_zero, List.set_cons_succ]
    refine wpAnyH_ready (rs := [3]) (by kernel_rfl) (by simp) ?_
    refine AllReadyH.cons rfl (fun K hK => ?_) AllReadyH.nil
    rw [if_pos (by rfl)]
    go_wp2_with fail
    refine A1.out.mono ?_
    rintro e w1 ⟨rfl, rfl⟩
    refine hK.out _ _ p2 (fun hHeld => ?_)
    clear hK K
    try simp only [Act.put, List.setIfInBounds_toArray, List.set_cons_zero, List.set_cons_succ]
    refine wpAnyH_ready (rs := [7]) (by kernel_rfl) (by simp) ?_
    refine AllReadyH.cons rfl (fun K hK => ?_) AllReadyH.nil
    rw [if_pos (by rfl)]
    go_wp2_with fail
    refine A2.out.mono ?_
    rintro e w1 ⟨rfl, rfl⟩
    refine hK.out _ _ p2 (fun hHeld => ?_)
    clear hK K
    try simp only [Act.put, List.setIfInBounds_toArray, List.set_cons_zero, List.set_cons_succ]
    refine takeTo (i := 8) (v := ?_) (some 62) rfl rfl (by kernel_rfl) (by kernel_rfl) (by kernel_rfl) (fun _ _ _ h => h) (Or.inl ⟨by rfl, ?_⟩) (by assumption) ?_
    rotate_left
    · (intro W7 hSw; (try dsimp only at hSw); go_simp; try with_reducible rfl)
    try simp only [Act.put, List.setIfInBounds_toArray, List.set_cons_zero, List.set_cons_succ]
    refine takeTo (i := 9) (v := ?_) (some 63) rfl rfl (by kernel_rfl) (by kernel_rfl) (by kernel_rfl) (fun _ _ _ h => h) (Or.inl ⟨by rfl, ?_⟩) (by assumption) ?_
    rotate_left
    · (intro W7 hSw; (try dsimp only at hSw); go_simp; try with_reducible rfl)
    try simp only [Act.put, List.setIfInBounds_toArray, List.set_cons_zero, List.set_cons_succ]
    refine takeTo (i := 10) (v := ?_) (some 64) rfl rfl (by kernel_rfl) (by kernel_rfl) (by kernel_rfl) (fun _ _ _ h => h) (Or.inl ⟨by rfl, ?_⟩) (by assumption) ?_
    rotate_left
    · (intro W7 hSw; (try dsimp only at hSw); go_simp; try with_reducible rfl)
    try simp only [Act.put, List.setIfInBounds_toArray, List.set_cons_zero, List.set_cons_succ]
    refine takeTo (i := 12) (v := ?_) (some 66) rfl rfl (by kernel_rfl) (by kernel_rfl) (by kernel_rfl) (fun _ _ _ h => h) (Or.inl ⟨by rfl, ?_⟩) (by assumption) ?_
    rotate_left
    · (intro W7 hSw; (try dsimp only at hSw); go_simp; try with_reducible rfl)
    try simp only [Act.put, List.setIfInBounds_toArray, List.set_cons_zero, List.set_cons_succ]
    refine wpAnyH_ready (rs := [11]) (by kernel_rfl) (by simp) ?_
    refine AllReadyH.cons rfl (fun K hK => ?_) AllReadyH.nil
    rw [if_pos (by rfl)]
    go_wp2_with fail
    refine A3.out.mono ?_
    rintro e w1 ⟨rfl, rfl⟩
    refine hK.out _ _ p2 (fun hHeld => ?_)
    clear hK K
    try simp only [Act.put, List.setIfInBounds_toArray, List.set_cons_zero, List.set_cons_succ]
    refine wpAnyH_ready (rs := [13]) (by kernel_rfl) (by simp) ?_
    refine AllReadyH.cons rfl (fun K hK => ?_) AllReadyH.nil
    rw [if_pos (by rfl)]
    go_wp2_with fail
    refine A4.out.mono ?_
    rintro e w1 ⟨rfl, rfl⟩
    refine hK.out _ _ p2 (fun hHeld => ?_)
    clear hK K
    try simp only [Act.put, List.setIfInBounds_toArray, List.set_cons_zero, List.set_cons_succ]
    refine takeTo (i := 14) (v := ?_) (some 68) rfl rfl (by kernel_rfl) (by kernel_rfl) (by kernel_rfl) (fun _ _ _ h => h) (Or.inl ⟨by rfl, ?_⟩) (by assumption) ?_
    rotate_left
    · (intro W7 hSw; (try dsimp only at hSw); go_simp; try with_reducible rfl)
    try simp only [Act.put, List.setIfInBounds_toArray, List.set_cons_zero, List.set_cons_succ]
    refine takeTo (i := 15) (v := ?_) (some 69) rfl rfl (by kernel_rfl) (by kernel_rfl) (by kernel_rfl) (fun _ _ _ h => h) (Or.inl ⟨by rfl, ?_⟩) (by assumption) ?_
    rotate_left
    · (intro W7 hSw; (try dsimp only at hSw); go_simp; try with_reducible rfl)
    try simp only [Act.put, List.setIfInBounds_toArray, List.set_cons_zero, List.set_cons_succ]
    refine takeTo (i := 16) (v := ?_) (some 70) rfl rfl (by kernel_rfl) (by kernel_rfl) (by kernel_rfl) (fun _ _ _ h => h) (Or.inl ⟨by rfl, ?_⟩) (by assumption) ?_
    rotate_left
    · (intro W7 hSw; (try dsimp only at hSw); go_simp; try with_reducible rfl)
    try simp only [Act.put, List.setIfInBounds_toArray, List.set_cons_zero, List.set_cons_succ]
    refine takeTo (i := 17) (v := ?_) (some 71) rfl rfl (by kernel_rfl) (by kernel_rfl) (by kernel_rfl) (fun _ _ _ h => h) (Or.inl ⟨by rfl, ?_⟩) (by assumption) ?_
    rotate_left
    · (intro W7 hSw; (try dsimp only at hSw); go_simp; try with_reducible rfl)
    try simp only [Act.put, List.setIfInBounds_toArray, List.set_cons_zero, List.set_cons_succ]
    refine takeTo (i := 19) (v := ?_) (some 73) rfl rfl (by kernel_rfl) (by kernel_rfl) (by kernel_rfl) (fun _ _ _ h => h) (Or.inl ⟨by rfl, ?_⟩) (by assumption) ?_
    rotate_left
    · (intro W7 hSw; (try dsimp only at hSw); go_simp; try with_reducible rfl)
    try simp only [Act.put, List.setIfInBounds_toArray, List.set_cons_zero, List.set_cons_succ]
    refine wpAnyH_ready (rs := [18]) (by kernel_rfl) (by simp) ?_
    refine AllReadyH.cons rfl (fun K hK => ?_) AllReadyH.nil
    rw [if_pos (by rfl)]
    go_wp2_with fail
    refine A5.out.mono ?_
    rintro e w1 ⟨rfl, b1⟩
    have B1 := Lib.hid (show Below W.drew.heap.size W.drew w1 from b1)
    clear b1
    refine hK.out _ _ ((KD.out.below B1.out KD.out.lt).cell 2) (fun hHeld => ?_)
    clear hK K
    try simp only [Act.put, List.setIfInBounds_toArray, List.set_cons_zero, List.set_cons_succ]
    refine wpAnyH_ready (rs := [20]) (by kernel_rfl) (by simp) ?_
    refine AllReadyH.cons rfl (fun K hK => ?_) AllReadyH.nil
    rw [if_pos (by rfl)]
    go_wp2_with fail
    refine (A6.out w1 B1.out).mono ?_
    rintro e w2 ⟨rfl, b2⟩
    have B2 := Lib.hid (B1.out.trans (b2.mono B1.out.size))
    clear b2
    refine hK.out _ _ ((KD.out.below B2.out KD.out.lt).cell 2) (fun hHeld => ?_)
    clear hK K
    try simp only [Act.put, List.setIfInBounds_toArray, List.set_cons_zero, List.set_cons_succ]
    refine takeTo (i := 21) (v := ?_) (some 75) rfl rfl (by kernel_rfl) (by kernel_rfl) (by kernel_rfl) (fun _ _ _ h => h) (Or.inl ⟨by rfl, ?_⟩) (by assumption) ?_
    rotate_left
    · (intro W7 hSw; (try dsimp only at hSw); go_simp; try with_reducible rfl)
    try simp only [Act.put, List.setIfInBounds_toArray, List.set_cons_zero, List.set_cons_succ]
    refine takeTo (i := 22) (v := ?_) (some 76) rfl rfl (by kernel_rfl) (by kernel_rfl) (by kernel_rfl) (fun _ _ _ h => h) (Or.inl ⟨by rfl, ?_⟩) (by assumption) ?_
    rotate_left
    · (intro W7 hSw; (try dsimp only at hSw); go_simp; try with_reducible rfl)
    try simp only [Act.put, List.setIfInBounds_toArray, List.set_cons_zero, List.set_cons_succ]
    refine takeTo (i := 23) (v := ?_) (some 4) rfl rfl (by kernel_rfl) (by kernel_rfl) (by kernel_rfl) (fun _ _ _ h => h) (Or.inl ⟨by rfl, ?_⟩) (by assumption) ?_
    rotate_left
    · (intro W7 hSw; (try dsimp only at hSw); go_simp; try with_reducible rfl)
    try simp only [Act.put, List.setIfInBounds_toArray, List.set_cons_zero, List.set_cons_succ]
    refine wpAnyH_done (by kernel_rfl) ?_ _
    go_wp2_with fail
    go_ret
    exact ⟨rfl, ⟨s, x, y, N, f, HD.out.below B2.out⟩, HB.out.drew.trans (B2.out.mono HD.out.size)⟩
  case true =>
    go_enter Tryd.func23, Tryd.ntmps23
    go_upto_region 1 with fail
    rw [← hbp]
    generalize World.alloc w _ = W at HB KB HW ⊢
    obtain ⟨c0, c1, c2, c3⟩ := wcells HW.out.blk
    have p0 := KB.out.cell 0
    have p1 := KB.out.cell 1
    have p2 := KB.out.cell 2
    have p3 := KB.out.cell 3
    simp only [List.getElem?_toArray, List.getElem?_cons_zero, List.getElem?_cons_succ] at p0 p1 p2 p3
    clear hbp
    have HD := Lib.hid (HW.out.below (w' := W.drew) (Below.refl W.heap.size W).drew)
    have KD := Lib.hid (show Blk W.drew bp 56 #[.bool true, .int .i64 4, .int .i64 z, .slice A nb cb] from KB.out)
    have A1 := Lib.hid (has_any (s true) (N true) z (f true) W.drew (HD.out.sp true))
    have A2 := Lib.hid (rhas_any (x true) (y true) (N true) z (f true) W.drew (HD.out.rsp true))
    have A3 := Lib.hid (used_any (s true) (N true) (f true) W.drew (HD.out.sp true))
    have A4 := Lib.hid (rused_any (x true) (y true) (N true) (f true) W.drew (HD.out.rsp true))
    have A5 := Lib.hid (left_any (s true) (N true) (f true) W.drew (HD.out.sp true))
    have A6 := Lib.hid fun w1 (b1 : Below W.drew.heap.size W.drew w1) => rleft_any (x true) (y true) (N true) (f true) w1 ((HD.out.rsp true).below b1)
    obtain ⟨hv, hhv⟩ : ∃ v, v = hasB (f true) z := ⟨_, rfl⟩
    obtain ⟨uv, huv⟩ : ∃ v : Int, v = (cnt (f true) (N true) : Int) := ⟨_, rfl⟩
    rw [← hhv] at A1 A2
    rw [← huv] at A3 A4 A5 A6
    obtain ⟨lv, hlv⟩ : ∃ v : Int, v = (N true : Int) - uv := ⟨_, rfl⟩
    rw [← hlv] at A5 A6
    clear hhv huv hlv
    go_upto_region 14 with fail
    refine wp_region_held_drew (S := fun W' => W'.cell? ⟨bp, 2, none⟩ = some (.int .i64 z)) (by kernel_rfl) (by exact p2) (fun hHeld => ?_)
    refine takeTo (i := 0) (v := ?_) (some 54) rfl rfl (by kernel_rfl) (by kernel_rfl) (by kernel_rfl) (fun _ _ _ h => h) (Or.inl ⟨by rfl, ?_⟩) (by assumption) ?_
    rotate_left
    · (intro W7 hSw; (try dsimp only at hSw); go_simp; try with_reducible rfl)
    try simp only [Act.put, List.setIfInBounds_toArray, List.set_cons_zero, List.set_cons_succ]
    refine takeTo (i := 1) (v := ?_) (some 55) rfl rfl (by kernel_rfl) (by kernel_rfl) (by kernel_rfl) (fun _ _ _ h => h) (Or.inl ⟨by rfl, ?_⟩) (by assumption) ?_
    rotate_left
    · (intro W7 hSw; (try dsimp only at hSw); go_simp; try with_reducible rfl)
    try simp only [Act.put, List.setIfInBounds_toArray, List.set_cons_zero, List.set_cons_succ]
    refine takeTo (i := 2) (v := ?_) (some 56) rfl rfl (by kernel_rfl) (by kernel_rfl) (by kernel_rfl) (fun _ _ _ h => h) (Or.inl ⟨by rfl, ?_⟩) (by assumption) ?_
    rotate_left
    · (intro W7 hSw; (try dsimp only at hSw); go_simp; try with_reducible rfl)
    try simp only [Act.put, List.setIfInBounds_toArray, List.set_cons_zero, List.set_cons_succ]
    refine takeTo (i := 4) (v := ?_) (some 58) rfl rfl (by kernel_rfl) (by kernel_rfl) (by kernel_rfl) (fun _ _ _ h => h) (Or.inl ⟨by rfl, ?_⟩) (by assumption) ?_
    rotate_left
    · (intro W7 hSw; (try dsimp only at hSw); go_simp; try with_reducible rfl)
    try simp only [Act.put, List.setIfInBounds_toArray, List.set_cons_zero, List.set_cons_succ]
    refine takeTo (i := 5) (v := ?_) (some 59) rfl rfl (by kernel_rfl) (by kernel_rfl) (by kernel_rfl) (fun _ _ _ h => h) (Or.inl ⟨by rfl, ?_⟩) (by assumption) ?_
    rotate_left
    · (intro W7 hSw; (try dsimp only at hSw); go_simp; try with_reducible rfl)
    try simp only [Act.put, List.setIfInBounds_toArray, List.set_cons_zero, List.set_cons_succ]
    refine takeTo (i := 6) (v := ?_) (some 60) rfl rfl (by kernel_rfl) (by kernel_rfl) (by kernel_rfl) (fun _ _ _ h => h) (Or.inl ⟨by rfl, ?_⟩) (by assumption) ?_
    rotate_left
    · (intro W7 hSw; (try dsimp only at hSw); go_simp; try with_reducible rfl)
    try simp only [Act.put, List.setIfInBounds_toArray, List.set_cons_zero, List.set_cons_succ]
    refine wpAnyH_ready (rs := [3]) (by kernel_rfl) (by simp) ?_
    refine AllReadyH.cons rfl (fun K hK => ?_) AllReadyH.nil
    rw [if_pos (by rfl)]
    go_wp2_with fail
    refine A1.out.mono ?_
    rintro e w1 ⟨rfl, rfl⟩
    refine hK.out _ _ p2 (fun hHeld => ?_)
    clear hK K
    try simp only [Act.put, List.setIfInBounds_toArray, List.set_cons_zero, List.set_cons_succ]
    refine wpAnyH_ready (rs := [7]) (by kernel_rfl) (by simp) ?_
    refine AllReadyH.cons rfl (fun K hK => ?_) AllReadyH.nil
    rw [if_pos (by rfl)]
    go_wp2_with fail
    refine A2.out.mono ?_
    rintro e w1 ⟨rfl, rfl⟩
    refine hK.out _ _ p2 (fun hHeld => ?_)
    clear hK K
    try simp only [Act.put, List.setIfInBounds_toArray, List.set_cons_zero, List.set_cons_succ]
    refine takeTo (i := 8) (v := ?_) (some 62) rfl rfl (by kernel_rfl) (by kernel_rfl) (by kernel_rfl) (fun _ _ _ h => h) (Or.inl ⟨by rfl, ?_⟩) (by assumption) ?_
    rotate_left
    · (intro W7 hSw; (try dsimp only at hSw); go_simp; try with_reducible rfl)
    try simp only [Act.put, List.setIfInBounds_toArray, List.set_cons_zero, List.set_cons_succ]
    refine takeTo (i := 9) (v := ?_) (some 63) rfl rfl (by kernel_rfl) (by kernel_rfl) (by kernel_rfl) (fun _ _ _ h => h) (Or.inl ⟨by rfl, ?_⟩) (by assumption) ?_
    rotate_left
    · (intro W7 hSw; (try dsimp only at hSw); go_simp; try with_reducible rfl)
    try simp only [Act.put, List.setIfInBounds_toArray, List.set_cons_zero, List.set_cons_succ]
    refine takeTo (i := 10) (v := ?_) (some 64) rfl rfl (by kernel_rfl) (by kernel_rfl) (by kernel_rfl) (fun _ _ _ h => h) (Or.inl ⟨by rfl, ?_⟩) (by assumption) ?_
    rotate_left
    · (intro W7 hSw; (try dsimp only at hSw); go_simp; try with_reducible rfl)
    try simp only [Act.put, List.setIfInBounds_toArray, List.set_cons_zero, List.set_cons_succ]
    refine takeTo (i := 12) (v := ?_) (some 66) rfl rfl (by kernel_rfl) (by kernel_rfl) (by kernel_rfl) (fun _ _ _ h => h) (Or.inl ⟨by rfl, ?_⟩) (by assumption) ?_
    rotate_left
    · (intro W7 hSw; (try dsimp only at hSw); go_simp; try with_reducible rfl)
    try simp only [Act.put, List.setIfInBounds_toArray, List.set_cons_zero, List.set_cons_succ]
    refine wpAnyH_ready (rs := [11]) (by kernel_rfl) (by simp) ?_
    refine AllReadyH.cons rfl (fun K hK => ?_) AllReadyH.nil
    rw [if_pos (by rfl)]
    go_wp2_with fail
    refine A3.out.mono ?_
    rintro e w1 ⟨rfl, rfl⟩
    refine hK.out _ _ p2 (fun hHeld => ?_)
    clear hK K
    try simp only [Act.put, List.setIfInBounds_toArray, List.set_cons_zero, List.set_cons_succ]
    refine wpAnyH_ready (rs := [13]) (by kernel_rfl) (by simp) ?_
    refine AllReadyH.cons rfl (fun K hK => ?_) AllReadyH.nil
    rw [if_pos (by rfl)]
    go_wp2_with fail
    refine A4.out.mono ?_
    rintro e w1 ⟨rfl, rfl⟩
    refine hK.out _ _ p2 (fun hHeld => ?_)
    clear hK K
    try simp only [Act.put, List.setIfInBounds_toArray, List.set_cons_zero, List.set_cons_succ]
    refine takeTo (i := 14) (v := ?_) (some 68) rfl rfl (by kernel_rfl) (by kernel_rfl) (by kernel_rfl) (fun _ _ _ h => h) (Or.inl ⟨by rfl, ?_⟩) (by assumption) ?_
    rotate_left
    · (intro W7 hSw; (try dsimp only at hSw); go_simp; try with_reducible rfl)
    try simp only [Act.put, List.setIfInBounds_toArray, List.set_cons_zero, List.set_cons_succ]
    refine takeTo (i := 15) (v := ?_) (some 69) rfl rfl (by kernel_rfl) (by kernel_rfl) (by kernel_rfl) (fun _ _ _ h => h) (Or.inl ⟨by rfl, ?_⟩) (by assumption) ?_
    rotate_left
    · (intro W7 hSw; (try dsimp only at hSw); go_simp; try with_reducible rfl)
    try simp only [Act.put, List.setIfInBounds_toArray, List.set_cons_zero, List.set_cons_succ]
    refine takeTo (i := 16) (v := ?_) (some 70) rfl rfl (by kernel_rfl) (by kernel_rfl) (by kernel_rfl) (fun _ _ _ h => h) (Or.inl ⟨by rfl, ?_⟩) (by assumption) ?_
    rotate_left
    · (intro W7 hSw; (try dsimp only at hSw); go_simp; try with_reducible rfl)
    try simp only [Act.put, List.setIfInBounds_toArray, List.set_cons_zero, List.set_cons_succ]
    refine takeTo (i := 17) (v := ?_) (some 71) rfl rfl (by kernel_rfl) (by kernel_rfl) (by kernel_rfl) (fun _ _ _ h => h) (Or.inl ⟨by rfl, ?_⟩) (by assumption) ?_
    rotate_left
    · (intro W7 hSw; (try dsimp only at hSw); go_simp; try with_reducible rfl)
    try simp only [Act.put, List.setIfInBounds_toArray, List.set_cons_zero, List.set_cons_succ]
    refine takeTo (i := 19) (v := ?_) (some 73) rfl rfl (by kernel_rfl) (by kernel_rfl) (by kernel_rfl) (fun _ _ _ h => h) (Or.inl ⟨by rfl, ?_⟩) (by assumption) ?_
    rotate_left
    · (intro W7 hSw; (try dsimp only at hSw); go_simp; try with_reducible rfl)
    try simp only [Act.put, List.setIfInBounds_toArray, List.set_cons_zero, List.set_cons_succ]
    refine wpAnyH_ready (rs := [18]) (by kernel_rfl) (by simp) ?_
    refine AllReadyH.cons rfl (fun K hK => ?_) AllReadyH.nil
    rw [if_pos (by rfl)]
    go_wp2_with fail
    refine A5.out.mono ?_
    rintro e w1 ⟨rfl, b1⟩
    have B1 := Lib.hid (show Below W.drew.heap.size W.drew w1 from b1)
    clear b1
    refine hK.out _ _ ((KD.out.below B1.out KD.out.lt).cell 2) (fun hHeld => ?_)
    clear hK K
    try simp only [Act.put, List.setIfInBounds_toArray, List.set_cons_zero, List.set_cons_succ]
    refine wpAnyH_ready (rs := [20]) (by kernel_rfl) (by simp) ?_
    refine AllReadyH.cons rfl (fun K hK => ?_) AllReadyH.nil
    rw [if_pos (by rfl)]
    go_wp2_with fail
    refine (A6.out w1 B1.out).mono ?_
    rintro e w2 ⟨rfl, b2⟩
    have B2 := Lib.hid (B1.out.trans (b2.mono B1.out.size))
    clear b2
    refine hK.out _ _ ((KD.out.below B2.out KD.out.lt).cell 2) (fun hHeld => ?_)
    clear hK K
    try simp only [Act.put, List.setIfInBounds_toArray, List.set_cons_zero, List.set_cons_succ]
    refine takeTo (i := 21) (v := ?_) (some 75) rfl rfl (by kernel_rfl) (by kernel_rfl) (by kernel_rfl) (fun _ _ _ h => h) (Or.inl ⟨by rfl, ?_⟩) (by assumption) ?_
    rotate_left
    · (intro W7 hSw; (try dsimp only at hSw); go_simp; try with_reducible rfl)
    try simp only [Act.put, List.setIfInBounds_toArray, List.set_cons_zero, List.set_cons_succ]
    refine takeTo (i := 22) (v := ?_) (some 76) rfl rfl (by kernel_rfl) (by kernel_rfl) (by kernel_rfl) (fun _ _ _ h => h) (Or.inl ⟨by rfl, ?_⟩) (by assumption) ?_
    rotate_left
    · (intro W7 hSw; (try dsimp only at hSw); go_simp; try with_reducible rfl)
    try simp only [Act.put, List.setIfInBounds_toArray, List.set_cons_zero, List.set_cons_succ]
    refine takeTo (i := 23) (v := ?_) (some 4) rfl rfl (by kernel_rfl) (by kernel_rfl) (by kernel_rfl) (fun _ _ _ h => h) (Or.inl ⟨by rfl, ?_⟩) (by assumption) ?_
    rotate_left
    · (intro W7 hSw; (try dsimp only at hSw); go_simp; try with_reducible rfl)
    try simp only [Act.put, List.setIfInBounds_toArray, List.set_cons_zero, List.set_cons_succ]
    refine wpAnyH_done (by kernel_rfl) ?_ _
    go_wp2_with fail
    go_ret
    exact ⟨rfl, ⟨s, x, y, N, f, HD.out.below B2.out⟩, HB.out.drew.trans (B2.out.mono HD.out.size)⟩
set_option maxHeartbeats 2000000 in
set_option maxRecDepth 100000 in
theorem play_runs (B gw : Nat) (k : Bool) (s x y N : Bool → Nat) (f : Bool → Nat → Bool) (z : Int) (A : Option Addr) (nb cb : Nat) (w : World) (h : Wld B gw s x y N f w) :
    Calls Tryd.prog 23 #[.pointer (some ⟨gw, 0, none⟩), .agg #[.bool k, .int .i64 5, .int .i64 z, .slice A nb cb]] w (PlayPost B gw w) := by
  obtain ⟨bp, hbp⟩ : ∃ bp, bp = w.heap.size := ⟨_, rfl⟩
  have hlt := h.all_lt
  have hgw : gw < bp := by rw [hbp]; exact hlt.1
  have hsb : s k < bp := by rw [hbp]; exact (hlt.2 k).1
  have hyb : y k < bp := by rw [hbp]; exact (hlt.2 k).2.2
  have HB := Lib.hid (show Below B w (w.alloc (.cells #[.bool k, .int .i64 5, .int .i64 z, .slice A nb cb] 56)) from (Below.refl B w).alloc h.size _)
  have KB := Lib.hid (show Blk (w.alloc (.cells #[.bool k, .int .i64 5, .int .i64 z, .slice A nb cb] 56)) bp 56 #[.bool k, .int .i64 5, .int .i64 z, .slice A nb cb] by rw [hbp]; exact Blk.new w 56 _)
  have HW := Lib.hid (show Wld B gw s x y N f (w.alloc (.cells #[.bool k, .int .i64 5, .int .i64 z, .slice A nb cb] 56)) from h.below ((Below.refl w.heap.size w).alloc (Nat.le_refl _) _))
  clear h hlt
  cases k
  case false =>
    go_enter Tryd.func23, Tryd.ntmps23
    go_upto_region 1 with fail
    rw [← hbp]
    generalize World.alloc w _ = W at HB KB HW ⊢
    obtain ⟨c0, c1, c2, c3⟩ := wcells HW.out.blk
    have p0 := KB.out.cell 0
    have p1 := KB.out.cell 1
    have p2 := KB.out.cell 2
    have p3 := KB.out.cell 3
    simp only [List.getElem?_toArray, List.getElem?_cons_zero, List.getElem?_cons_succ] at p0 p1 p2 p3
    clear hbp
    go_wp2_with fail
    refine (rruns_any (x false) (y false) (N false) (f false) W (HW.out.rsp false)).mono ?_
    rintro e w1 ⟨A1, c1, r1, q1, rfl, o1, hc1, b1⟩
    have R1 := Lib.hid (And.intro o1.reads b1)
    clear o1 b1
    go_wp2_with fail
    refine (runs_true (s false) (N false) (f false) A1 c1 r1.length r1 w1 ((HW.out.sp false).below R1.out.2) q1.out rfl R1.out.1).mono ?_
    rintro e w2 ⟨rfl, b2⟩
    have B2 := Lib.hid (show Below W.heap.size W w2 from R1.out.2.trans (b2.mono R1.out.2.size))
    clear b2
    go_wp2_with fail
    go_ret
    exact ⟨rfl, ⟨s, x, y, N, f, HW.out.below B2.out⟩, HB.out.trans (B2.out.mono HW.out.size)⟩
  case true =>
    go_enter Tryd.func23, Tryd.ntmps23
    go_upto_region 1 with fail
    rw [← hbp]
    generalize World.alloc w _ = W at HB KB HW ⊢
    obtain ⟨c0, c1, c2, c3⟩ := wcells HW.out.blk
    have p0 := KB.out.cell 0
    have p1 := KB.out.cell 1
    have p2 := KB.out.cell 2
    have p3 := KB.out.cell 3
    simp only [List.getElem?_toArray, List.getElem?_cons_zero, List.getElem?_cons_succ] at p0 p1 p2 p3
    clear hbp
    go_wp2_with fail
    refine (rruns_any (x true) (y true) (N true) (f true) W (HW.out.rsp true)).mono ?_
    rintro e w1 ⟨A1, c1, r1, q1, rfl, o1, hc1, b1⟩
    have R1 := Lib.hid (And.intro o1.reads b1)
    clear o1 b1
    go_wp2_with fail
    refine (runs_true (s true) (N true) (f true) A1 c1 r1.length r1 w1 ((HW.out.sp true).below R1.out.2) q1.out rfl R1.out.1).mono ?_
    rintro e w2 ⟨rfl, b2⟩
    have B2 := Lib.hid (show Below W.heap.size W w2 from R1.out.2.trans (b2.mono R1.out.2.size))
    clear b2
    go_wp2_with fail
    go_ret
    exact ⟨rfl, ⟨s, x, y, N, f, HW.out.below B2.out⟩, HB.out.trans (B2.out.mono HW.out.size)⟩
set_option maxHeartbeats 2000000 in
set_option maxRecDepth 100000 in
theorem play_bytes (B gw : Nat) (k : Bool) (s x y N : Bool → Nat) (f : Bool → Nat → Bool) (z : Int) (A : Option Addr) (nb cb : Nat) (w : World) (h : Wld B gw s x y N f w) :
    Calls Tryd.prog 23 #[.pointer (some ⟨gw, 0, none⟩), .agg #[.bool k, .int .i64 6, .int .i64 z, .slice A nb cb]] w (PlayPost B gw w) := by
  obtain ⟨bp, hbp⟩ : ∃ bp, bp = w.heap.size := ⟨_, rfl⟩
  have hlt := h.all_lt
  have hgw : gw < bp := by rw [hbp]; exact hlt.1
  have hsb : s k < bp := by rw [hbp]; exact (hlt.2 k).1
  have hyb : y k < bp := by rw [hbp]; exact (hlt.2 k).2.2
  have HB := Lib.hid (show Below B w (w.alloc (.cells #[.bool k, .int .i64 6, .int .i64 z, .slice A nb cb] 56)) from (Below.refl B w).alloc h.size _)
  have KB := Lib.hid (show Blk (w.alloc (.cells #[.bool k, .int .i64 6, .int .i64 z, .slice A nb cb] 56)) bp 56 #[.bool k, .int .i64 6, .int .i64 z, .slice A nb cb] by rw [hbp]; exact Blk.new w 56 _)
  have HW := Lib.hid (show Wld B gw s x y N f (w.alloc (.cells #[.bool k, .int .i64 6, .int .i64 z, .slice A nb cb] 56)) from h.below ((Below.refl w.heap.size w).alloc (Nat.le_refl _) _))
  clear h hlt
  cases k
  case false =>
    go_enter Tryd.func23, Tryd.ntmps23
    go_upto_region 1 with fail
    rw [← hbp]
    generalize World.alloc w _ = W at HB KB HW ⊢
    obtain ⟨c0, c1, c2, c3⟩ := wcells HW.out.blk
    have p0 := KB.out.cell 0
    have p1 := KB.out.cell 1
    have p2 := KB.out.cell 2
    have p3 := KB.out.cell 3
    simp only [List.getElem?_toArray, List.getElem?_cons_zero, List.getElem?_cons_succ] at p0 p1 p2 p3
    clear hbp
    go_wp2_with fail
    refine (rencode_any (x false) (y false) (N false) (f false) W (HW.out.rsp false)).mono ?_
    rintro e w1 ⟨A1, c1, r1, q1, rfl, o1, hc1, b1⟩
    have hcv := conv_str A1 c1 r1 w1 w1.heap.size o1.reads
    have R1 := Lib.hid b1
    clear o1 b1
    go_wp2_with fail
    refine (bytes_true (s false) (N false) (f false) r1 w1 ((HW.out.sp false).below R1.out) q1.out).mono ?_
    rintro e w2 ⟨rfl, b2⟩
    have B2 := Lib.hid (show Below W.heap.size W w2 from R1.out.trans (b2.mono R1.out.size))
    clear b2
    go_wp2_with fail
    go_ret
    exact ⟨rfl, ⟨s, x, y, N, f, HW.out.below B2.out⟩, HB.out.trans (B2.out.mono HW.out.size)⟩
  case true =>
    go_enter Tryd.func23, Tryd.ntmps23
    go_upto_region 1 with fail
    rw [← hbp]
    generalize World.alloc w _ = W at HB KB HW ⊢
    obtain ⟨c0, c1, c2, c3⟩ := wcells HW.out.blk
    have p0 := KB.out.cell 0
    have p1 := KB.out.cell 1
    have p2 := KB.out.cell 2
    have p3 := KB.out.cell 3
    simp only [List.getElem?_toArray, List.getElem?_cons_zero, List.getElem?_cons_succ] at p0 p1 p2 p3
    clear hbp
    go_wp2_with fail
    refine (rencode_any (x true) (y true) (N true) (f true) W (HW.out.rsp true)).mono ?_
    rintro e w1 ⟨A1, c1, r1, q1, rfl, o1, hc1, b1⟩
    have hcv := conv_str A1 c1 r1 w1 w1.heap.size o1.reads
    have R1 := Lib.hid b1
    clear o1 b1
    go_wp2_with fail
    refine (bytes_true (s true) (N true) (f true) r1 w1 ((HW.out.sp true).below R1.out) q1.out).mono ?_
    rintro e w2 ⟨rfl, b2⟩
    have B2 := Lib.hid (show Below W.heap.size W w2 from R1.out.trans (b2.mono R1.out.size))
    clear b2
    go_wp2_with fail
    go_ret
    exact ⟨rfl, ⟨s, x, y, N, f, HW.out.below B2.out⟩, HB.out.trans (B2.out.mono HW.out.size)⟩
set_option maxHeartbeats 2000000 in
set_option maxRecDepth 100000 in
theorem play_copy (B gw : Nat) (k : Bool) (s x y N : Bool → Nat) (f : Bool → Nat → Bool) (z : Int) (A : Option Addr) (nb cb : Nat) (w : World) (h : Wld B gw s x y N f w) :
    Calls Tryd.prog 23 #[.pointer (some ⟨gw, 0, none⟩), .agg #[.bool k, .int .i64 7, .int .i64 z, .slice A nb cb]] w (PlayPost B gw w) := by
  obtain ⟨bp, hbp⟩ : ∃ bp, bp = w.heap.size := ⟨_, rfl⟩
  have hlt := h.all_lt
  have hgw : gw < bp := by rw [hbp]; exact hlt.1
  have hsb : s k < bp := by rw [hbp]; exact (hlt.2 k).1
  have hyb : y k < bp := by rw [hbp]; exact (hlt.2 k).2.2
  have HB := Lib.hid (show Below B w (w.alloc (.cells #[.bool k, .int .i64 7, .int .i64 z, .slice A nb cb] 56)) from (Below.refl B w).alloc h.size _)
  have KB := Lib.hid (show Blk (w.alloc (.cells #[.bool k, .int .i64 7, .int .i64 z, .slice A nb cb] 56)) bp 56 #[.bool k, .int .i64 7, .int .i64 z, .slice A nb cb] by rw [hbp]; exact Blk.new w 56 _)
  have HW := Lib.hid (show Wld B gw s x y N f (w.alloc (.cells #[.bool k, .int .i64 7, .int .i64 z, .slice A nb cb] 56)) from h.below ((Below.refl w.heap.size w).alloc (Nat.le_refl _) _))
  clear h hlt
  cases k
  case false =>
    go_enter Tryd.func23, Tryd.ntmps23
    go_upto_region 1 with fail
    rw [← hbp]
    generalize World.alloc w _ = W at HB KB HW ⊢
    obtain ⟨c0, c1, c2, c3⟩ := wcells HW.out.blk
    have p0 := KB.out.cell 0
    have p1 := KB.out.cell 1
    have p2 := KB.out.cell 2
    have p3 := KB.out.cell 3
    simp only [List.getElem?_toArray, List.getElem?_cons_zero, List.getElem?_cons_succ] at p0 p1 p2 p3
    clear hbp
    have HD := Lib.hid (HW.out.below (w' := W.drew) (Below.refl W.heap.size W).drew)
    have hw0 : IntKind.i64.wrap 0 = 0 := by decide
    have hw1 : IntKind.i64.wrap 1 = 1 := by decide
    have HBW := Lib.hid (show Below W.heap.size W W.drew from (Below.refl W.heap.size W).drew)
    have T1 := Lib.hid (copy_any (s false) (N false) (f false) W.drew (HD.out.sp false))
    go_upto_region 20 with fail
    refine wp_region_held_drew (S := fun _ => True) (by kernel_rfl) (by exact trivial) (fun hHeld => ?_)
    refine takeTo (i := 0) (v := ?_) (some 92) rfl rfl (by kernel_rfl) (by kernel_rfl) (by kernel_rfl) (fun _ _ _ h => h) (Or.inl ⟨by rfl, ?_⟩) (by assumption) ?_
    rotate_left
    · (intro W7 hSw; (try dsimp only at hSw); go_simp; try with_reducible rfl)
    try simp only [Act.put, List.setIfInBounds_toArray, List.set_cons_zero, List.set_cons_succ]
    refine takeTo (i := 1) (v := ?_) (some 93) rfl rfl (by kernel_rfl) (by kernel_rfl) (by kernel_rfl) (fun _ _ _ h => h) (Or.inl ⟨by rfl, ?_⟩) (by assumption) ?_
    rotate_left
    · (intro W7 hSw; (try dsimp only at hSw); go_simp; try with_reducible rfl)
    try simp only [Act.put, List.setIfInBounds_toArray, List.set_cons_zero, List.set_cons_succ]
    refine takeTo (i := 2) (v := ?_) (some 94) rfl rfl (by kernel_rfl) (by kernel_rfl) (by kernel_rfl) (fun _ _ _ h => h) (Or.inl ⟨by rfl, ?_⟩) (by assumption) ?_
    rotate_left
    · (intro W7 hSw; (try dsimp only at hSw); go_simp; try with_reducible rfl)
    try simp only [Act.put, List.setIfInBounds_toArray, List.set_cons_zero, List.set_cons_succ]
    refine takeTo (i := 3) (v := ?_) (some 95) rfl rfl (by kernel_rfl) (by kernel_rfl) (by kernel_rfl) (fun _ _ _ h => h) (Or.inl ⟨by rfl, ?_⟩) (by assumption) ?_
    rotate_left
    · (intro W7 hSw; (try dsimp only at hSw); go_simp; try with_reducible rfl)
    try simp only [Act.put, List.setIfInBounds_toArray, List.set_cons_zero, List.set_cons_succ]
    refine takeTo (i := 5) (v := ?_) (some 97) rfl rfl (by kernel_rfl) (by kernel_rfl) (by kernel_rfl) (fun _ _ _ h => h) (Or.inl ⟨by rfl, ?_⟩) (by assumption) ?_
    rotate_left
    · (intro W7 hSw; (try dsimp only at hSw); go_simp; try with_reducible rfl)
    try simp only [Act.put, List.setIfInBounds_toArray, List.set_cons_zero, List.set_cons_succ]
    refine takeTo (i := 6) (v := ?_) (some 98) rfl rfl (by kernel_rfl) (by kernel_rfl) (by kernel_rfl) (fun _ _ _ h => h) (Or.inl ⟨by rfl, ?_⟩) (by assumption) ?_
    rotate_left
    · (intro W7 hSw; (try dsimp only at hSw); go_simp; try with_reducible rfl)
    try simp only [Act.put, List.setIfInBounds_toArray, List.set_cons_zero, List.set_cons_succ]
    refine wpAnyH_ready (rs := [4]) (by kernel_rfl) (by simp) ?_
    refine AllReadyH.cons rfl (fun K hK => ?_) AllReadyH.nil
    rw [if_pos (by rfl)]
    go_wp2_with fail
    refine T1.out.mono ?_
    rintro e w1 ⟨rfl, s1, b1⟩
    obtain ⟨g, hg⟩ : ∃ g, g = W.drew.heap.size := ⟨_, rfl⟩
    rw [← hg] at s1 ⊢
    have hgW : W.heap.size = g := by rw [hg]; rfl
    have B1 := Lib.hid (show Below W.heap.size W w1 from HBW.out.trans b1)
    have S1 := Lib.hid s1
    have hgl : g < w1.heap.size := s1.lt
    clear b1 s1 hg
    refine hK.out _ _ trivial (fun hHeld => ?_)
    clear hK K
    try simp only [Act.put, List.setIfInBounds_toArray, List.set_cons_zero, List.set_cons_succ]
    refine takeTo (i := 7) (v := ?_) (some 99) rfl rfl (by kernel_rfl) (by kernel_rfl) (by kernel_rfl) (fun _ _ _ h => h) (Or.inl ⟨by rfl, ?_⟩) (by assumption) ?_
    rotate_left
    · (intro W7 hSw; (try dsimp only at hSw); go_simp; try with_reducible rfl)
    try simp only [Act.put, List.setIfInBounds_toArray, List.set_cons_zero, List.set_cons_succ]
    obtain ⟨d0, d1, d2, d3⟩ := wcells (HW.out.below B1.out).blk
    have f0 := (HW.out.below B1.out).blk.free 1
    refine wpAnyH_ready (rs := [8]) (by kernel_rfl) (by simp) ?_
    refine AllReadyH.cons rfl (fun K hK => ?_) AllReadyH.nil
    rw [if_pos (by rfl)]
    go_wp2_with fail
    refine hK.out _ _ trivial (fun hHeld => ?_)
    clear hK K
    try simp only [Act.put, List.setIfInBounds_toArray, List.set_cons_zero, List.set_cons_succ]
    have A1 := HW.out.all_lt
    have hgwW := A1.1
    have K2 := Lib.hid ((Kept.refl (fun b => b = gw) w1).setCell (p := ⟨gw, 1, none⟩) rfl (.pointer (some ⟨g, 0, none⟩)))
    have BK2 := Lib.hid (show Blk (w1.setCell ⟨gw, 1, none⟩ (.pointer (some ⟨g, 0, none⟩))) gw 53 _ from (HW.out.below B1.out).blk.put 1 (ptr g))
    generalize hW2 : w1.setCell _ _ = W2 at K2 BK2 ⊢
    clear hW2 d0 d1 d2 d3 f0
    refine wpAnyH_done (by kernel_rfl) ?_ _
    have R2 := Lib.hid (((HW.out.below B1.out).rsp false).kept K2.out (by have := HW.out.ne false false; exact this.2.1) (by have := HW.out.ne false false; exact this.2.2.1))
    have T2 := Lib.hid (rcopy_any (x false) (y false) (N false) (f false) W2.drew (R2.out.kept ((Kept.refl (fun _ => False) W2).drew) (fun e => e) (fun e => e)))
    go_upto_region 21 with fail
    refine wp_region_held_drew (S := fun _ => True) (by kernel_rfl) (by exact trivial) (fun hHeld => ?_)
    refine takeTo (i := 0) (v := ?_) (some 100) rfl rfl (by kernel_rfl) (by kernel_rfl) (by kernel_rfl) (fun _ _ _ h => h) (Or.inl ⟨by rfl, ?_⟩) (by assumption) ?_
    rotate_left
    · (intro W7 hSw; (try dsimp only at hSw); go_simp; try with_reducible rfl)
    try simp only [Act.put, List.setIfInBounds_toArray, List.set_cons_zero, List.set_cons_succ]
    refine takeTo (i := 1) (v := ?_) (some 101) rfl rfl (by kernel_rfl) (by kernel_rfl) (by kernel_rfl) (fun _ _ _ h => h) (Or.inl ⟨by rfl, ?_⟩) (by assumption) ?_
    rotate_left
    · (intro W7 hSw; (try dsimp only at hSw); go_simp; try with_reducible rfl)
    try simp only [Act.put, List.setIfInBounds_toArray, List.set_cons_zero, List.set_cons_succ]
    refine takeTo (i := 2) (v := ?_) (some 102) rfl rfl (by kernel_rfl) (by kernel_rfl) (by kernel_rfl) (fun _ _ _ h => h) (Or.inl ⟨by rfl, ?_⟩) (by assumption) ?_
    rotate_left
    · (intro W7 hSw; (try dsimp only at hSw); go_simp; try with_reducible rfl)
    try simp only [Act.put, List.setIfInBounds_toArray, List.set_cons_zero, List.set_cons_succ]
    refine takeTo (i := 3) (v := ?_) (some 103) rfl rfl (by kernel_rfl) (by kernel_rfl) (by kernel_rfl) (fun _ _ _ h => h) (Or.inl ⟨by rfl, ?_⟩) (by assumption) ?_
    rotate_left
    · (intro W7 hSw; (try dsimp only at hSw); go_simp; try with_reducible rfl)
    try simp only [Act.put, List.setIfInBounds_toArray, List.set_cons_zero, List.set_cons_succ]
    refine takeTo (i := 5) (v := ?_) (some 105) rfl rfl (by kernel_rfl) (by kernel_rfl) (by kernel_rfl) (fun _ _ _ h => h) (Or.inl ⟨by rfl, ?_⟩) (by assumption) ?_
    rotate_left
    · (intro W7 hSw; (try dsimp only at hSw); go_simp; try with_reducible rfl)
    try simp only [Act.put, List.setIfInBounds_toArray, List.set_cons_zero, List.set_cons_succ]
    refine takeTo (i := 6) (v := ?_) (some 106) rfl rfl (by kernel_rfl) (by kernel_rfl) (by kernel_rfl) (fun _ _ _ h => h) (Or.inl ⟨by rfl, ?_⟩) (by assumption) ?_
    rotate_left
    · (intro W7 hSw; (try dsimp only at hSw); go_simp; try with_reducible rfl)
    try simp only [Act.put, List.setIfInBounds_toArray, List.set_cons_zero, List.set_cons_succ]
    refine wpAnyH_ready (rs := [4]) (by kernel_rfl) (by simp) ?_
    refine AllReadyH.cons rfl (fun K hK => ?_) AllReadyH.nil
    rw [if_pos (by rfl)]
    go_wp2_with fail
    refine T2.out.mono ?_
    rintro e w3 ⟨gr, gl, rfl, s3, hgg, b3⟩
    have B3 := Lib.hid (show Below W2.heap.size W2 w3 from (Below.refl W2.heap.size W2).drew.trans b3)
    have hg3 : W2.heap.size ≤ gr ∧ W2.heap.size ≤ gl := hgg
    have hW2s := K2.out.size
    have S3 := Lib.hid s3
    have hne3 := s3.ne
    have BK3 := BK2.out.below B3.out BK2.out.lt
    clear b3 s3 hgg
    refine hK.out _ _ trivial (fun hHeld => ?_)
    clear hK K
    try simp only [Act.put, List.setIfInBounds_toArray, List.set_cons_zero, List.set_cons_succ]
    refine takeTo (i := 7) (v := ?_) (some 107) rfl rfl (by kernel_rfl) (by kernel_rfl) (by kernel_rfl) (fun _ _ _ h => h) (Or.inl ⟨by rfl, ?_⟩) (by assumption) ?_
    rotate_left
    · (intro W7 hSw; (try dsimp only at hSw); go_simp; try with_reducible rfl)
    try simp only [Act.put, List.setIfInBounds_toArray, List.set_cons_zero, List.set_cons_succ]
    obtain ⟨d0, d1, d2, d3⟩ := wcells (a := _) (b := _) (c := _) (d := _) BK3
    have f0 := BK3.free 3
    refine wpAnyH_ready (rs := [8]) (by kernel_rfl) (by simp) ?_
    refine AllReadyH.cons rfl (fun K hK => ?_) AllReadyH.nil
    rw [if_pos (by rfl)]
    go_wp2_with fail
    refine hK.out _ _ trivial (fun hHeld => ?_)
    clear hK K
    try simp only [Act.put, List.setIfInBounds_toArray, List.set_cons_zero, List.set_cons_succ]
    have K4 := Lib.hid ((Kept.refl (fun b => b = gw) w3).setCell (p := ⟨gw, 3, none⟩) rfl (.pointer (some ⟨gr, 0, none⟩)))
    have BK4 := Lib.hid (show Blk (w3.setCell ⟨gw, 3, none⟩ (.pointer (some ⟨gr, 0, none⟩))) gw 53 _ from BK3.put 3 (ptr gr))
    generalize hW4 : w3.setCell _ _ = W4 at K4 BK4 ⊢
    clear hW4 d0 d1 d2 d3 f0 BK3
    refine wpAnyH_done (by kernel_rfl) ?_ _
    have hgp : W4.cell? ⟨gw, 1, none⟩ = some (.pointer (some ⟨g, 0, none⟩)) := BK4.out.cell 1
    go_wp2_with fail
    go_ret
    have B1s := B1.out.size
    have hM := HW.out.all_lt
    have hMj := hM.2
    have SW : ∀ q, Sp W4 (s q) (N q) (f q) := fun q => ((((HW.out.below B1.out).sp q).kept K2.out (by have := HW.out.ne q q; exact this.1)).below B3.out).kept K4.out (by have := HW.out.ne q q; exact this.1)
    have RW : ∀ q, RSp W4 (x q) (y q) (N q) (f q) := fun q => ((((HW.out.below B1.out).rsp q).kept K2.out (by have := HW.out.ne q q; exact this.2.1) (by have := HW.out.ne q q; exact this.2.2.1)).below B3.out).kept K4.out (by have := HW.out.ne q q; exact this.2.1) (by have := HW.out.ne q q; exact this.2.2.1)
    have h5 := HW.out.swap (M := W.heap.size) true g gr gl (N false) (f false) BK4.out (((S1.out.kept K2.out (by omega)).below B3.out).kept K4.out (by omega)) (S3.out.kept K4.out (by omega) (by omega)) SW RW hM HW.out.size (by omega) (by omega)
    refine ⟨rfl, ⟨_, _, _, _, _, h5⟩, ?_⟩
    have q1 : Below B w1 W2 := K2.out.below (fun b e => by rw [e]; exact HW.out.low.1) (Nat.le_trans HW.out.size B1s)
    have q2 : Below B w3 W4 := K4.out.below (fun b e => by rw [e]; exact HW.out.low.1) (Nat.le_trans (Nat.le_trans HW.out.size B1s) (Nat.le_trans hW2s B3.out.size))
    exact ((((HB.out.trans (B1.out.mono HW.out.size)).trans q1).trans (B3.out.mono (Nat.le_trans (Nat.le_trans HW.out.size B1s) hW2s))).trans q2)
  case true =>
    go_enter Tryd.func23, Tryd.ntmps23
    go_upto_region 1 with fail
    rw [← hbp]
    generalize World.alloc w _ = W at HB KB HW ⊢
    obtain ⟨c0, c1, c2, c3⟩ := wcells HW.out.blk
    have p0 := KB.out.cell 0
    have p1 := KB.out.cell 1
    have p2 := KB.out.cell 2
    have p3 := KB.out.cell 3
    simp only [List.getElem?_toArray, List.getElem?_cons_zero, List.getElem?_cons_succ] at p0 p1 p2 p3
    clear hbp
    have HD := Lib.hid (HW.out.below (w' := W.drew) (Below.refl W.heap.size W).drew)
    have hw0 : IntKind.i64.wrap 0 = 0 := by decide
    have hw1 : IntKind.i64.wrap 1 = 1 := by decide
    have HBW := Lib.hid (show Below W.heap.size W W.drew from (Below.refl W.heap.size W).drew)
    have T1 := Lib.hid (copy_any (s true) (N true) (f true) W.drew (HD.out.sp true))
    go_upto_region 20 with fail
    refine wp_region_held_drew (S := fun _ => True) (by kernel_rfl) (by exact trivial) (fun hHeld => ?_)
    refine takeTo (i := 0) (v := ?_) (some 92) rfl rfl (by kernel_rfl) (by kernel_rfl) (by kernel_rfl) (fun _ _ _ h => h) (Or.inl ⟨by rfl, ?_⟩) (by assumption) ?_
    rotate_left
    · (intro W7 hSw; (try dsimp only at hSw); go_simp; try with_reducible rfl)
    try simp only [Act.put, List.setIfInBounds_toArray, List.set_cons_zero, List.set_cons_succ]
    refine takeTo (i := 1) (v := ?_) (some 93) rfl rfl (by kernel_rfl) (by kernel_rfl) (by kernel_rfl) (fun _ _ _ h => h) (Or.inl ⟨by rfl, ?_⟩) (by assumption) ?_
    rotate_left
    · (intro W7 hSw; (try dsimp only at hSw); go_simp; try with_reducible rfl)
    try simp only [Act.put, List.setIfInBounds_toArray, List.set_cons_zero, List.set_cons_succ]
    refine takeTo (i := 2) (v := ?_) (some 94) rfl rfl (by kernel_rfl) (by kernel_rfl) (by kernel_rfl) (fun _ _ _ h => h) (Or.inl ⟨by rfl, ?_⟩) (by assumption) ?_
    rotate_left
    · (intro W7 hSw; (try dsimp only at hSw); go_simp; try with_reducible rfl)
    try simp only [Act.put, List.setIfInBounds_toArray, List.set_cons_zero, List.set_cons_succ]
    refine takeTo (i := 3) (v := ?_) (some 95) rfl rfl (by kernel_rfl) (by kernel_rfl) (by kernel_rfl) (fun _ _ _ h => h) (Or.inl ⟨by rfl, ?_⟩) (by assumption) ?_
    rotate_left
    · (intro W7 hSw; (try dsimp only at hSw); go_simp; try with_reducible rfl)
    try simp only [Act.put, List.setIfInBounds_toArray, List.set_cons_zero, List.set_cons_succ]
    refine takeTo (i := 5) (v := ?_) (some 97) rfl rfl (by kernel_rfl) (by kernel_rfl) (by kernel_rfl) (fun _ _ _ h => h) (Or.inl ⟨by rfl, ?_⟩) (by assumption) ?_
    rotate_left
    · (intro W7 hSw; (try dsimp only at hSw); go_simp; try with_reducible rfl)
    try simp only [Act.put, List.setIfInBounds_toArray, List.set_cons_zero, List.set_cons_succ]
    refine takeTo (i := 6) (v := ?_) (some 98) rfl rfl (by kernel_rfl) (by kernel_rfl) (by kernel_rfl) (fun _ _ _ h => h) (Or.inl ⟨by rfl, ?_⟩) (by assumption) ?_
    rotate_left
    · (intro W7 hSw; (try dsimp only at hSw); go_simp; try with_reducible rfl)
    try simp only [Act.put, List.setIfInBounds_toArray, List.set_cons_zero, List.set_cons_succ]
    refine wpAnyH_ready (rs := [4]) (by kernel_rfl) (by simp) ?_
    refine AllReadyH.cons rfl (fun K hK => ?_) AllReadyH.nil
    rw [if_pos (by rfl)]
    go_wp2_with fail
    refine T1.out.mono ?_
    rintro e w1 ⟨rfl, s1, b1⟩
    obtain ⟨g, hg⟩ : ∃ g, g = W.drew.heap.size := ⟨_, rfl⟩
    rw [← hg] at s1 ⊢
    have hgW : W.heap.size = g := by rw [hg]; rfl
    have B1 := Lib.hid (show Below W.heap.size W w1 from HBW.out.trans b1)
    have S1 := Lib.hid s1
    have hgl : g < w1.heap.size := s1.lt
    clear b1 s1 hg
    refine hK.out _ _ trivial (fun hHeld => ?_)
    clear hK K
    try simp only [Act.put, List.setIfInBounds_toArray, List.set_cons_zero, List.set_cons_succ]
    refine takeTo (i := 7) (v := ?_) (some 99) rfl rfl (by kernel_rfl) (by kernel_rfl) (by kernel_rfl) (fun _ _ _ h => h) (Or.inl ⟨by rfl, ?_⟩) (by assumption) ?_
    rotate_left
    · (intro W7 hSw; (try dsimp only at hSw); go_simp; try with_reducible rfl)
    try simp only [Act.put, List.setIfInBounds_toArray, List.set_cons_zero, List.set_cons_succ]
    obtain ⟨d0, d1, d2, d3⟩ := wcells (HW.out.below B1.out).blk
    have f0 := (HW.out.below B1.out).blk.free 0
    refine wpAnyH_ready (rs := [8]) (by kernel_rfl) (by simp) ?_
    refine AllReadyH.cons rfl (fun K hK => ?_) AllReadyH.nil
    rw [if_pos (by rfl)]
    go_wp2_with fail
    refine hK.out _ _ trivial (fun hHeld => ?_)
    clear hK K
    try simp only [Act.put, List.setIfInBounds_toArray, List.set_cons_zero, List.set_cons_succ]
    have A1 := HW.out.all_lt
    have hgwW := A1.1
    have K2 := Lib.hid ((Kept.refl (fun b => b = gw) w1).setCell (p := ⟨gw, 0, none⟩) rfl (.pointer (some ⟨g, 0, none⟩)))
    have BK2 := Lib.hid (show Blk (w1.setCell ⟨gw, 0, none⟩ (.pointer (some ⟨g, 0, none⟩))) gw 53 _ from (HW.out.below B1.out).blk.put 0 (ptr g))
    generalize hW2 : w1.setCell _ _ = W2 at K2 BK2 ⊢
    clear hW2 d0 d1 d2 d3 f0
    refine wpAnyH_done (by kernel_rfl) ?_ _
    have R2 := Lib.hid (((HW.out.below B1.out).rsp true).kept K2.out (by have := HW.out.ne true true; exact this.2.1) (by have := HW.out.ne true true; exact this.2.2.1))
    have T2 := Lib.hid (rcopy_any (x true) (y true) (N true) (f true) W2.drew (R2.out.kept ((Kept.refl (fun _ => False) W2).drew) (fun e => e) (fun e => e)))
    go_upto_region 21 with fail
    refine wp_region_held_drew (S := fun _ => True) (by kernel_rfl) (by exact trivial) (fun hHeld => ?_)
    refine takeTo (i := 0) (v := ?_) (some 100) rfl rfl (by kernel_rfl) (by kernel_rfl) (by kernel_rfl) (fun _ _ _ h => h) (Or.inl ⟨by rfl, ?_⟩) (by assumption) ?_
    rotate_left
    · (intro W7 hSw; (try dsimp only at hSw); go_simp; try with_reducible rfl)
    try simp only [Act.put, List.setIfInBounds_toArray, List.set_cons_zero, List.set_cons_succ]
    refine takeTo (i := 1) (v := ?_) (some 101) rfl rfl (by kernel_rfl) (by kernel_rfl) (by kernel_rfl) (fun _ _ _ h => h) (Or.inl ⟨by rfl, ?_⟩) (by assumption) ?_
    rotate_left
    · (intro W7 hSw; (try dsimp only at hSw); go_simp; try with_reducible rfl)
    try simp only [Act.put, List.setIfInBounds_toArray, List.set_cons_zero, List.set_cons_succ]
    refine takeTo (i := 2) (v := ?_) (some 102) rfl rfl (by kernel_rfl) (by kernel_rfl) (by kernel_rfl) (fun _ _ _ h => h) (Or.inl ⟨by rfl, ?_⟩) (by assumption) ?_
    rotate_left
    · (intro W7 hSw; (try dsimp only at hSw); go_simp; try with_reducible rfl)
    try simp only [Act.put, List.setIfInBounds_toArray, List.set_cons_zero, List.set_cons_succ]
    refine takeTo (i := 3) (v := ?_) (some 103) rfl rfl (by kernel_rfl) (by kernel_rfl) (by kernel_rfl) (fun _ _ _ h => h) (Or.inl ⟨by rfl, ?_⟩) (by assumption) ?_
    rotate_left
    · (intro W7 hSw; (try dsimp only at hSw); go_simp; try with_reducible rfl)
    try simp only [Act.put, List.setIfInBounds_toArray, List.set_cons_zero, List.set_cons_succ]
    refine takeTo (i := 5) (v := ?_) (some 105) rfl rfl (by kernel_rfl) (by kernel_rfl) (by kernel_rfl) (fun _ _ _ h => h) (Or.inl ⟨by rfl, ?_⟩) (by assumption) ?_
    rotate_left
    · (intro W7 hSw; (try dsimp only at hSw); go_simp; try with_reducible rfl)
    try simp only [Act.put, List.setIfInBounds_toArray, List.set_cons_zero, List.set_cons_succ]
    refine takeTo (i := 6) (v := ?_) (some 106) rfl rfl (by kernel_rfl) (by kernel_rfl) (by kernel_rfl) (fun _ _ _ h => h) (Or.inl ⟨by rfl, ?_⟩) (by assumption) ?_
    rotate_left
    · (intro W7 hSw; (try dsimp only at hSw); go_simp; try with_reducible rfl)
    try simp only [Act.put, List.setIfInBounds_toArray, List.set_cons_zero, List.set_cons_succ]
    refine wpAnyH_ready (rs := [4]) (by kernel_rfl) (by simp) ?_
    refine AllReadyH.cons rfl (fun K hK => ?_) AllReadyH.nil
    rw [if_pos (by rfl)]
    go_wp2_with fail
    refine T2.out.mono ?_
    rintro e w3 ⟨gr, gl, rfl, s3, hgg, b3⟩
    have B3 := Lib.hid (show Below W2.heap.size W2 w3 from (Below.refl W2.heap.size W2).drew.trans b3)
    have hg3 : W2.heap.size ≤ gr ∧ W2.heap.size ≤ gl := hgg
    have hW2s := K2.out.size
    have S3 := Lib.hid s3
    have hne3 := s3.ne
    have BK3 := BK2.out.below B3.out BK2.out.lt
    clear b3 s3 hgg
    refine hK.out _ _ trivial (fun hHeld => ?_)
    clear hK K
    try simp only [Act.put, List.setIfInBounds_toArray, List.set_cons_zero, List.set_cons_succ]
    refine takeTo (i := 7) (v := ?_) (some 107) rfl rfl (by kernel_rfl) (by kernel_rfl) (by kernel_rfl) (fun _ _ _ h => h) (Or.inl ⟨by rfl, ?_⟩) (by assumption) ?_
    rotate_left
    · (intro W7 hSw; (try dsimp only at hSw); go_simp; try with_reducible rfl)
    try simp only [Act.put, List.setIfInBounds_toArray, List.set_cons_zero, List.set_cons_succ]
    obtain ⟨d0, d1, d2, d3⟩ := wcells (a := _) (b := _) (c := _) (d := _) BK3
    have f0 := BK3.free 2
    refine wpAnyH_ready (rs := [8]) (by kernel_rfl) (by simp) ?_
    refine AllReadyH.cons rfl (fun K hK => ?_) AllReadyH.nil
    rw [if_pos (by rfl)]
    go_wp2_with fail
    refine hK.out _ _ trivial (fun hHeld => ?_)
    clear hK K
    try simp only [Act.put, List.setIfInBounds_toArray, List.set_cons_zero, List.set_cons_succ]
    have K4 := Lib.hid ((Kept.refl (fun b => b = gw) w3).setCell (p := ⟨gw, 2, none⟩) rfl (.pointer (some ⟨gr, 0, none⟩)))
    have BK4 := Lib.hid (show Blk (w3.setCell ⟨gw, 2, none⟩ (.pointer (some ⟨gr, 0, none⟩))) gw 53 _ from BK3.put 2 (ptr gr))
    generalize hW4 : w3.setCell _ _ = W4 at K4 BK4 ⊢
    clear hW4 d0 d1 d2 d3 f0 BK3
    refine wpAnyH_done (by kernel_rfl) ?_ _
    have hgp : W4.cell? ⟨gw, 0, none⟩ = some (.pointer (some ⟨g, 0, none⟩)) := BK4.out.cell 0
    go_wp2_with fail
    go_ret
    have B1s := B1.out.size
    have hM := HW.out.all_lt
    have hMj := hM.2
    have SW : ∀ q, Sp W4 (s q) (N q) (f q) := fun q => ((((HW.out.below B1.out).sp q).kept K2.out (by have := HW.out.ne q q; exact this.1)).below B3.out).kept K4.out (by have := HW.out.ne q q; exact this.1)
    have RW : ∀ q, RSp W4 (x q) (y q) (N q) (f q) := fun q => ((((HW.out.below B1.out).rsp q).kept K2.out (by have := HW.out.ne q q; exact this.2.1) (by have := HW.out.ne q q; exact this.2.2.1)).below B3.out).kept K4.out (by have := HW.out.ne q q; exact this.2.1) (by have := HW.out.ne q q; exact this.2.2.1)
    have h5 := HW.out.swap (M := W.heap.size) false g gr gl (N true) (f true) BK4.out (((S1.out.kept K2.out (by omega)).below B3.out).kept K4.out (by omega)) (S3.out.kept K4.out (by omega) (by omega)) SW RW hM HW.out.size (by omega) (by omega)
    refine ⟨rfl, ⟨_, _, _, _, _, h5⟩, ?_⟩
    have q1 : Below B w1 W2 := K2.out.below (fun b e => by rw [e]; exact HW.out.low.1) (Nat.le_trans HW.out.size B1s)
    have q2 : Below B w3 W4 := K4.out.below (fun b e => by rw [e]; exact HW.out.low.1) (Nat.le_trans (Nat.le_trans HW.out.size B1s) (Nat.le_trans hW2s B3.out.size))
    exact ((((HB.out.trans (B1.out.mono HW.out.size)).trans q1).trans (B3.out.mono (Nat.le_trans (Nat.le_trans HW.out.size B1s) hW2s))).trans q2)
set_option maxHeartbeats 2000000 in
set_option maxRecDepth 100000 in
theorem play_again (B gw : Nat) (k : Bool) (s x y N : Bool → Nat) (f : Bool → Nat → Bool) (z : Int) (A : Option Addr) (nb cb : Nat) (w : World) (h : Wld B gw s x y N f w) :
    Calls Tryd.prog 23 #[.pointer (some ⟨gw, 0, none⟩), .agg #[.bool k, .int .i64 8, .int .i64 z, .slice A nb cb]] w (PlayPost B gw w) := by
  obtain ⟨bp, hbp⟩ : ∃ bp, bp = w.heap.size := ⟨_, rfl⟩
  have hlt := h.all_lt
  have hgw : gw < bp := by rw [hbp]; exact hlt.1
  have hsb : s k < bp := by rw [hbp]; exact (hlt.2 k).1
  have hyb : y k < bp := by rw [hbp]; exact (hlt.2 k).2.2
  have HB := Lib.hid (show Below B w (w.alloc (.cells #[.bool k, .int .i64 8, .int .i64 z, .slice A nb cb] 56)) from (Below.refl B w).alloc h.size _)
  have KB := Lib.hid (show Blk (w.alloc (.cells #[.bool k, .int .i64 8, .int .i64 z, .slice A nb cb] 56)) bp 56 #[.bool k, .int .i64 8, .int .i64 z, .slice A nb cb] by rw [hbp]; exact Blk.new w 56 _)
  have HW := Lib.hid (show Wld B gw s x y N f (w.alloc (.cells #[.bool k, .int .i64 8, .int .i64 z, .slice A nb cb] 56)) from h.below ((Below.refl w.heap.size w).alloc (Nat.le_refl _) _))
  clear h hlt
  cases k
  case false =>
    go_enter Tryd.func23, Tryd.ntmps23
    go_upto_region 1 with fail
    rw [← hbp]
    generalize World.alloc w _ = W at HB KB HW ⊢
    obtain ⟨c0, c1, c2, c3⟩ := wcells HW.out.blk
    have p0 := KB.out.cell 0
    have p1 := KB.out.cell 1
    have p2 := KB.out.cell 2
    have p3 := KB.out.cell 3
    simp only [List.getElem?_toArray, List.getElem?_cons_zero, List.getElem?_cons_succ] at p0 p1 p2 p3
    clear hbp
    go_wp2_with fail
    refine (rencode_any (x false) (y false) (N false) (f false) W (HW.out.rsp false)).mono ?_
    rintro e w1 ⟨A1, c1, r1, q1, rfl, o1, hc1, b1⟩
    have R1 := Lib.hid (And.intro o1.reads b1)
    have hr1 : r1.length ≤ 140737488351232 := by rw [q1.out, enc_len]; have := runs_len (f false) (N false); have := (HW.out.sp false).bounds; omega
    clear o1 b1
    go_wp2_with fail
    refine (show Calls Tryd.prog 41 #[.pointer (some ⟨gw, 0, none⟩), .int .i64 0, .slice A1 r1.length c1] w1 _ from decoded_any B gw false s x y N f A1 c1 r1.length r1 w1 (HW.out.below R1.out.2) R1.out.1 rfl hc1 hr1).mono ?_
    rintro e w2 ⟨rfl, h2, b2⟩
    have B2 := Lib.hid (show Below B W w2 from (R1.out.2.mono HW.out.size).trans b2)
    have H2 := Lib.hid h2
    clear b2 h2
    go_wp2_with fail
    go_ret
    exact ⟨rfl, H2.out, HB.out.trans B2.out⟩
  case true =>
    go_enter Tryd.func23, Tryd.ntmps23
    go_upto_region 1 with fail
    rw [← hbp]
    generalize World.alloc w _ = W at HB KB HW ⊢
    obtain ⟨c0, c1, c2, c3⟩ := wcells HW.out.blk
    have p0 := KB.out.cell 0
    have p1 := KB.out.cell 1
    have p2 := KB.out.cell 2
    have p3 := KB.out.cell 3
    simp only [List.getElem?_toArray, List.getElem?_cons_zero, List.getElem?_cons_succ] at p0 p1 p2 p3
    clear hbp
    go_wp2_with fail
    refine (rencode_any (x true) (y true) (N true) (f true) W (HW.out.rsp true)).mono ?_
    rintro e w1 ⟨A1, c1, r1, q1, rfl, o1, hc1, b1⟩
    have R1 := Lib.hid (And.intro o1.reads b1)
    have hr1 : r1.length ≤ 140737488351232 := by rw [q1.out, enc_len]; have := runs_len (f true) (N true); have := (HW.out.sp true).bounds; omega
    clear o1 b1
    go_wp2_with fail
    refine (show Calls Tryd.prog 41 #[.pointer (some ⟨gw, 0, none⟩), .int .i64 1, .slice A1 r1.length c1] w1 _ from decoded_any B gw true s x y N f A1 c1 r1.length r1 w1 (HW.out.below R1.out.2) R1.out.1 rfl hc1 hr1).mono ?_
    rintro e w2 ⟨rfl, h2, b2⟩
    have B2 := Lib.hid (show Below B W w2 from (R1.out.2.mono HW.out.size).trans b2)
    have H2 := Lib.hid h2
    clear b2 h2
    go_wp2_with fail
    go_ret
    exact ⟨rfl, H2.out, HB.out.trans B2.out⟩
set_option maxHeartbeats 2000000 in
set_option maxRecDepth 100000 in
theorem play_decode (B gw : Nat) (k : Bool) (s x y N : Bool → Nat) (f : Bool → Nat → Bool) (z : Int) (A : Option Addr) (nb cb : Nat) (w : World) (h : Wld B gw s x y N f w) (l : List UInt8) (hr : Rd w w.heap.size A l) (hn : nb = l.length) (hlc : l.length ≤ cb) (hl : l.length ≤ 140737488351232) :
    Calls Tryd.prog 23 #[.pointer (some ⟨gw, 0, none⟩), .agg #[.bool k, .int .i64 9, .int .i64 z, .slice A nb cb]] w (PlayPost B gw w) := by
  obtain ⟨bp, hbp⟩ : ∃ bp, bp = w.heap.size := ⟨_, rfl⟩
  have hlt := h.all_lt
  have hgw : gw < bp := by rw [hbp]; exact hlt.1
  have hsb : s k < bp := by rw [hbp]; exact (hlt.2 k).1
  have hyb : y k < bp := by rw [hbp]; exact (hlt.2 k).2.2
  have HB := Lib.hid (show Below B w (w.alloc (.cells #[.bool k, .int .i64 9, .int .i64 z, .slice A nb cb] 56)) from (Below.refl B w).alloc h.size _)
  have KB := Lib.hid (show Blk (w.alloc (.cells #[.bool k, .int .i64 9, .int .i64 z, .slice A nb cb] 56)) bp 56 #[.bool k, .int .i64 9, .int .i64 z, .slice A nb cb] by rw [hbp]; exact Blk.new w 56 _)
  have HW := Lib.hid (show Wld B gw s x y N f (w.alloc (.cells #[.bool k, .int .i64 9, .int .i64 z, .slice A nb cb] 56)) from h.below ((Below.refl w.heap.size w).alloc (Nat.le_refl _) _))
  have HR := Lib.hid (show Rd (w.alloc (.cells #[.bool k, .int .i64 9, .int .i64 z, .slice A nb cb] 56)) (w.alloc (.cells #[.bool k, .int .i64 9, .int .i64 z, .slice A nb cb] 56)).heap.size A l from (hr.below ((Below.refl w.heap.size w).alloc (Nat.le_refl _) _) (Nat.le_refl _)).mono (by simp))
  have HL := Lib.hid (And.intro hn (And.intro hlc hl))
  clear hr hn hlc hl
  clear h hlt
  cases k
  case false =>
    go_enter Tryd.func23, Tryd.ntmps23
    go_upto_region 1 with fail
    rw [← hbp]
    generalize World.alloc w _ = W at HB KB HW HR ⊢
    obtain ⟨c0, c1, c2, c3⟩ := wcells HW.out.blk
    have p0 := KB.out.cell 0
    have p1 := KB.out.cell 1
    have p2 := KB.out.cell 2
    have p3 := KB.out.cell 3
    simp only [List.getElem?_toArray, List.getElem?_cons_zero, List.getElem?_cons_succ] at p0 p1 p2 p3
    clear hbp
    go_wp2_with fail
    refine (show Calls Tryd.prog 41 #[.pointer (some ⟨gw, 0, none⟩), .int .i64 0, .slice A nb cb] W _ from decoded_any B gw false s x y N f A cb nb l W HW.out HR.out HL.out.1 HL.out.2.1 HL.out.2.2).mono ?_
    rintro e w2 ⟨rfl, h2, b2⟩
    have B2 := Lib.hid b2
    have H2 := Lib.hid h2
    clear b2 h2
    go_wp2_with fail
    go_ret
    exact ⟨rfl, H2.out, HB.out.trans B2.out⟩
  case true =>
    go_enter Tryd.func23, Tryd.ntmps23
    go_upto_region 1 with fail
    rw [← hbp]
    generalize World.alloc w _ = W at HB KB HW HR ⊢
    obtain ⟨c0, c1, c2, c3⟩ := wcells HW.out.blk
    have p0 := KB.out.cell 0
    have p1 := KB.out.cell 1
    have p2 := KB.out.cell 2
    have p3 := KB.out.cell 3
    simp only [List.getElem?_toArray, List.getElem?_cons_zero, List.getElem?_cons_succ] at p0 p1 p2 p3
    clear hbp
    go_wp2_with fail
    refine (show Calls Tryd.prog 41 #[.pointer (some ⟨gw, 0, none⟩), .int .i64 1, .slice A nb cb] W _ from decoded_any B gw true s x y N f A cb nb l W HW.out HR.out HL.out.1 HL.out.2.1 HL.out.2.2).mono ?_
    rintro e w2 ⟨rfl, h2, b2⟩
    have B2 := Lib.hid b2
    have H2 := Lib.hid h2
    clear b2 h2
    go_wp2_with fail
    go_ret
    exact ⟨rfl, H2.out, HB.out.trans B2.out⟩
set_option maxHeartbeats 2000000 in
set_option maxRecDepth 100000 in
theorem play_many (B gw : Nat) (k : Bool) (s x y N : Bool → Nat) (f : Bool → Nat → Bool) (z : Int) (A : Option Addr) (nb cb : Nat) (w : World) (h : Wld B gw s x y N f w) (hT : Tab w) (hB0 : 0 < B) :
    Calls Tryd.prog 23 #[.pointer (some ⟨gw, 0, none⟩), .agg #[.bool k, .int .i64 10, .int .i64 z, .slice A nb cb]] w (PlayPost B gw w) := by
  obtain ⟨bp, hbp⟩ : ∃ bp, bp = w.heap.size := ⟨_, rfl⟩
  have hlt := h.all_lt
  have hgw : gw < bp := by rw [hbp]; exact hlt.1
  have hsb : s k < bp := by rw [hbp]; exact (hlt.2 k).1
  have hyb : y k < bp := by rw [hbp]; exact (hlt.2 k).2.2
  have HB := Lib.hid (show Below B w (w.alloc (.cells #[.bool k, .int .i64 10, .int .i64 z, .slice A nb cb] 56)) from (Below.refl B w).alloc h.size _)
  have KB := Lib.hid (show Blk (w.alloc (.cells #[.bool k, .int .i64 10, .int .i64 z, .slice A nb cb] 56)) bp 56 #[.bool k, .int .i64 10, .int .i64 z, .slice A nb cb] by rw [hbp]; exact Blk.new w 56 _)
  have HW := Lib.hid (show Wld B gw s x y N f (w.alloc (.cells #[.bool k, .int .i64 10, .int .i64 z, .slice A nb cb] 56)) from h.below ((Below.refl w.heap.size w).alloc (Nat.le_refl _) _))
  clear h hlt
  cases k
  case false =>
    go_enter Tryd.func23, Tryd.ntmps23
    go_upto_region 1 with fail
    rw [← hbp]
    generalize World.alloc w _ = W at HB KB HW ⊢
    obtain ⟨c0, c1, c2, c3⟩ := wcells HW.out.blk
    have p0 := KB.out.cell 0
    have p1 := KB.out.cell 1
    have p2 := KB.out.cell 2
    have p3 := KB.out.cell 3
    simp only [List.getElem?_toArray, List.getElem?_cons_zero, List.getElem?_cons_succ] at p0 p1 p2 p3
    clear hbp
    have HT := Lib.hid (hT.below HB.out hB0)
    go_wp2_with fail
    go_loopw [8] (fun iv wr => ∃ (i : Nat) (f' : Bool → Nat → Bool), i ≤ 65537 ∧ iv = .int .i64 (i : Int) ∧ Wld B gw s x y N f' wr ∧ Below B W wr ∧ Kept (fun b => b = s false ∨ b = y false) W wr) (fun iv _ => 65537 - (intOf iv).toNat)
    case atStart => exact ⟨0, f, by omega, rfl, HW.out, Below.refl _ _, Kept.refl _ _⟩
    case round =>
      obtain ⟨i, f', hi, rfl, hw, hb, hk⟩ := hrel
      have HR := Lib.hid (And.intro hw (And.intro hb hk))
      have r2 : wr.cell? ⟨bp, 2, none⟩ = some (.int .i64 z) := (KB.out.kept hk (by omega)).cell 2
      clear hw hb hk
      by_cases h1 : (i : Int) < z
      · have d1 : decide ((i : Int) < z) = true := by simpa using h1
        by_cases h2 : i < 65537
        · have d2 : decide ((i : Int) < 65537) = true := by simp; omega
          have d3 : decide (i < 65537) = true := by simp; omega
          go_wp2_with fail
          refine (show Calls Tryd.prog 36 #[.pointer (some ⟨gw, 0, none⟩), .int .i64 0] wr _ from walloc_any B gw false s x y N f' wr HR.out.1 (HT.out.below HR.out.2.1 hB0)).mono ?_
          rintro e w1 ⟨rfl, ⟨f2, g1⟩, b1, k1⟩
          have Q1 := Lib.hid (And.intro g1 (And.intro (HR.out.2.1.trans b1) (HR.out.2.2.trans k1)))
          clear g1 b1 k1
          go_wp2_with fail
          go_roundw
          case rel => exact ⟨i + 1, f2, by omega, by go_num, Q1.out⟩
          case measure => simp [intOf] <;> omega
        · have d2 : decide ((i : Int) < 65537) = false := by simp; omega
          have d3 : decide (i < 65537) = false := by simp; omega
          go_wp2_with fail
          go_ret
          exact ⟨rfl, ⟨s, x, y, N, f', HR.out.1⟩, HB.out.trans HR.out.2.1⟩
      · have d1 : decide ((i : Int) < z) = false := by simp; omega
        go_wp2_with fail
        go_ret
        exact ⟨rfl, ⟨s, x, y, N, f', HR.out.1⟩, HB.out.trans HR.out.2.1⟩
  case true =>
    go_enter Tryd.func23, Tryd.ntmps23
    go_upto_region 1 with fail
    rw [← hbp]
    generalize World.alloc w _ = W at HB KB HW ⊢
    obtain ⟨c0, c1, c2, c3⟩ := wcells HW.out.blk
    have p0 := KB.out.cell 0
    have p1 := KB.out.cell 1
    have p2 := KB.out.cell 2
    have p3 := KB.out.cell 3
    simp only [List.getElem?_toArray, List.getElem?_cons_zero, List.getElem?_cons_succ] at p0 p1 p2 p3
    clear hbp
    have HT := Lib.hid (hT.below HB.out hB0)
    go_wp2_with fail
    go_loopw [8] (fun iv wr => ∃ (i : Nat) (f' : Bool → Nat → Bool), i ≤ 65537 ∧ iv = .int .i64 (i : Int) ∧ Wld B gw s x y N f' wr ∧ Below B W wr ∧ Kept (fun b => b = s true ∨ b = y true) W wr) (fun iv _ => 65537 - (intOf iv).toNat)
    case atStart => exact ⟨0, f, by omega, rfl, HW.out, Below.refl _ _, Kept.refl _ _⟩
    case round =>
      obtain ⟨i, f', hi, rfl, hw, hb, hk⟩ := hrel
      have HR := Lib.hid (And.intro hw (And.intro hb hk))
      have r2 : wr.cell? ⟨bp, 2, none⟩ = some (.int .i64 z) := (KB.out.kept hk (by omega)).cell 2
      clear hw hb hk
      by_cases h1 : (i : Int) < z
      · have d1 : decide ((i : Int) < z) = true := by simpa using h1
        by_cases h2 : i < 65537
        · have d2 : decide ((i : Int) < 65537) = true := by simp; omega
          have d3 : decide (i < 65537) = true := by simp; omega
          go_wp2_with fail
          refine (show Calls Tryd.prog 36 #[.pointer (some ⟨gw, 0, none⟩), .int .i64 1] wr _ from walloc_any B gw true s x y N f' wr HR.out.1 (HT.out.below HR.out.2.1 hB0)).mono ?_
          rintro e w1 ⟨rfl, ⟨f2, g1⟩, b1, k1⟩
          have Q1 := Lib.hid (And.intro g1 (And.intro (HR.out.2.1.trans b1) (HR.out.2.2.trans k1)))
          clear g1 b1 k1
          go_wp2_with fail
          go_roundw
          case rel => exact ⟨i + 1, f2, by omega, by go_num, Q1.out⟩
          case measure => simp [intOf] <;> omega
        · have d2 : decide ((i : Int) < 65537) = false := by simp; omega
          have d3 : decide (i < 65537) = false := by simp; omega
          go_wp2_with fail
          go_ret
          exact ⟨rfl, ⟨s, x, y, N, f', HR.out.1⟩, HB.out.trans HR.out.2.1⟩
      · have d1 : decide ((i : Int) < z) = false := by simp; omega
        go_wp2_with fail
        go_ret
        exact ⟨rfl, ⟨s, x, y, N, f', HR.out.1⟩, HB.out.trans HR.out.2.1⟩
set_option maxHeartbeats 2000000 in
set_option maxRecDepth 100000 in
theorem play_other (B gw : Nat) (k : Bool) (s x y N : Bool → Nat) (f : Bool → Nat → Bool) (c z : Int) (A : Option Addr) (nb cb : Nat) (w : World) (h : Wld B gw s x y N f w) (hc : c < 1 ∨ 10 < c) :
    Calls Tryd.prog 23 #[.pointer (some ⟨gw, 0, none⟩), .agg #[.bool k, .int .i64 c, .int .i64 z, .slice A nb cb]] w (PlayPost B gw w) := by
  obtain ⟨bp, hbp⟩ : ∃ bp, bp = w.heap.size := ⟨_, rfl⟩
  have hlt := h.all_lt
  have hgw : gw < bp := by rw [hbp]; exact hlt.1
  have hsb : s k < bp := by rw [hbp]; exact (hlt.2 k).1
  have hyb : y k < bp := by rw [hbp]; exact (hlt.2 k).2.2
  have HB := Lib.hid (show Below B w (w.alloc (.cells #[.bool k, .int .i64 c, .int .i64 z, .slice A nb cb] 56)) from (Below.refl B w).alloc h.size _)
  have KB := Lib.hid (show Blk (w.alloc (.cells #[.bool k, .int .i64 c, .int .i64 z, .slice A nb cb] 56)) bp 56 #[.bool k, .int .i64 c, .int .i64 z, .slice A nb cb] by rw [hbp]; exact Blk.new w 56 _)
  have HW := Lib.hid (show Wld B gw s x y N f (w.alloc (.cells #[.bool k, .int .i64 c, .int .i64 z, .slice A nb cb] 56)) from h.below ((Below.refl w.heap.size w).alloc (Nat.le_refl _) _))
  have q1 : (c == 1) = false := by simp; omega
  have q2 : (c == 2) = false := by simp; omega
  have q3 : (c == 3) = false := by simp; omega
  have q4 : (c == 4) = false := by simp; omega
  have q5 : (c == 5) = false := by simp; omega
  have q6 : (c == 6) = false := by simp; omega
  have q7 : (c == 7) = false := by simp; omega
  have q8 : (c == 8) = false := by simp; omega
  have q9 : (c == 9) = false := by simp; omega
  have q10 : (c == 10) = false := by simp; omega
  clear hc
  clear h hlt
  cases k
  case false =>
    go_enter Tryd.func23, Tryd.ntmps23
    go_upto_region 1 with fail
    rw [← hbp]
    generalize World.alloc w _ = W at HB KB HW ⊢
    obtain ⟨c0, c1, c2, c3⟩ := wcells HW.out.blk
    have p0 := KB.out.cell 0
    have p1 := KB.out.cell 1
    have p2 := KB.out.cell 2
    have p3 := KB.out.cell 3
    simp only [List.getElem?_toArray, List.getElem?_cons_zero, List.getElem?_cons_succ] at p0 p1 p2 p3
    clear hbp
    go_wp2_with fail
    go_ret
    exact ⟨rfl, ⟨s, x, y, N, f, HW.out⟩, HB.out⟩
  case true =>
    go_enter Tryd.func23, Tryd.ntmps23
    go_upto_region 1 with fail
    rw [← hbp]
    generalize World.alloc w _ = W at HB KB HW ⊢
    obtain ⟨c0, c1, c2, c3⟩ := wcells HW.out.blk
    have p0 := KB.out.cell 0
    have p1 := KB.out.cell 1
    have p2 := KB.out.cell 2
    have p3 := KB.out.cell 3
    simp only [List.getElem?_toArray, List.getElem?_cons_zero, List.getElem?_cons_succ] at p0 p1 p2 p3
    clear hbp
    go_wp2_with fail
    go_ret
    exact ⟨rfl, ⟨s, x, y, N, f, HW.out⟩, HB.out⟩
end Go.Proofs.YtghakgepchlpgaaDoor
