/- THE WALK of the world's tells. -/
import Derived.Test.YtghakgepchlpgaaX8
namespace Go.Proofs.Ytghakgepchlpgaa
open Go.RowKit Go.Maps
theorem own_new {w w' : World} {A : Option Addr} {n c : Nat} {l : List Int} (h : OwnsI w' w.heap.size (.slice A n c) l) : ∀ k, (Value.slice A n c).ownBlock = some k → w.heap.size ≤ k ∧ k < w'.heap.size := fun k e => World.ownsRow.lt h k e
theorem Kept.drewEq {S : Nat → Prop} {w w' : World} {q : Nat} (h : w' = w.drewN q) : Kept S w w' := by subst h; exact (Kept.refl S w).drewN q
section
variable {B gw N : Nat} {w w0 : World} {pt : Nat → Nat → Nat} {CV LV RV OV WV : Value} {rs ws : List Row} {ob : Nat → Nat → Ob}
theorem Md.below_ {w' : World} (h : Md B w0 w gw N pt CV LV RV OV WV rs ws ob) (b : Below w.heap.size w w') : Md B w0 w' gw N pt CV LV RV OV WV rs ws ob := h.frame (Kept.of_below (S := fun _ => False) b) fun _ _ e => e
theorem Md.drew_ {w' : World} {q : Nat} (h : Md B w0 w gw N pt CV LV RV OV WV rs ws ob) (e : w' = w.drewN q) : Md B w0 w' gw N pt CV LV RV OV WV rs ws ob := h.frame (Kept.drewEq (S := fun _ => False) e) fun _ _ e => e
theorem numA {m : Nat} {a : Ob} {l : List Int} (h : isA w a) (hm : a.M.length = m) (hl : a.M.map (·.n) = l) (h6 : m ≤ 65536) : Calls Try.prog 13 #[.pointer (some ⟨a.p, 0, none⟩)] w fun r w' =>
    ∃ A c, r = .returned (.slice A m c) ∧ OwnsI w' w.heap.size (.slice A l.length c) l ∧ Below w.heap.size w w' := by
  subst hm hl
  rw [show (a.M.map (·.n)).length = a.M.length from List.length_map _]
  exact A_numbers h h6
theorem numL {m : Nat} {a : Ob} {l : List Int} (h : isL w a) (hm : a.M.length = m) (hl : a.M.map (·.n) = l) (h6 : m ≤ 65536) : Calls Try.prog 28 #[.pointer (some ⟨a.p, 0, none⟩)] w fun r w' =>
    ∃ A c, r = .returned (.slice A m c) ∧ OwnsI w' w.heap.size (.slice A l.length c) l ∧ Below w.heap.size w w' := by
  subst hm hl
  rw [show (a.M.map (·.n)).length = a.M.length from List.length_map _]
  exact L_numbers h h6
theorem numR {m : Nat} {a : Ob} {l : List Int} (h : isR w a) (hm : a.M.length = m) (hl : a.M.map (·.n) = l) (h6 : m ≤ 65536) : Calls Try.prog 32 #[.pointer (some ⟨a.p, 0, none⟩)] w fun r w' =>
    ∃ A c, r = .returned (.slice A m c) ∧ OwnsI w' w.heap.size (.slice A l.length c) l ∧ Below w.heap.size w w' := by
  subst hm hl
  rw [show (a.M.map (·.n)).length = a.M.length from List.length_map _]
  exact R_numbers h h6
theorem same_list (A A' : Option Addr) (c c' m : Nat) (l : List Int) (w : World) (hm : l.length = m) (h : Ri w w.heap.size A l) (h' : Ri w w.heap.size A' l) (h6 : m ≤ 65536) :
    Calls Try.prog 12 #[.slice A m c, .slice A' m c'] w fun e w' => e = .returned (.bool true) ∧ Below w.heap.size w w' := by
  subst hm
  refine (sameInts_any A A' c c' l l w _ _ h h' (by omega)).mono ?_
  rintro e w' ⟨rfl, hb⟩
  exact ⟨by simp, hb⟩
theorem isR.cells {a : Ob} (h : isR w a) : w.cell? ⟨a.p, 1, none⟩ = some (.int .i64 a.hit) ∧ w.cell? ⟨a.p, 2, none⟩ = some (.int .i64 a.miss) ∧ ∃ A c, w.cell? ⟨a.p, 3, none⟩ = some (.slice A a.M.length c) := by
  obtain ⟨LV, hc, -, -⟩ := h
  obtain ⟨A, c, rfl, -⟩ := hc.own.shape
  exact ⟨hc.blk.cell 1, hc.blk.cell 2, A, c, hc.blk.cell 3⟩
set_option maxHeartbeats 4000000 in
set_option maxRecDepth 100000 in
theorem tells_any {i steps : Nat} (h : Md B w0 w gw N pt CV LV RV OV WV rs ws ob) (hg : Good N steps ob) (hi : i < N) (hlen : rs.length ≤ 99999990) :
    Calls Try.prog 17 #[.pointer (some ⟨gw, 0, none⟩), .int .i64 (i : Int)] w fun r w' => r = .returned (.bool true) ∧ ∃ OV' WV' rs' ws', Md B w0 w' gw N pt CV LV RV OV' WV' rs' ws' ob ∧ rs'.length = rs.length + 2 := by
  obtain ⟨P, hit, miss, M, ok, h1, h2, h3, -⟩ := hg.ok i hi
  obtain ⟨g0, c0, g1, c1, g2, c2, rfl, rfl, rfl⟩ := h.wo.three hi
  obtain ⟨-, oA2, oA3, oA4⟩ := ok 0 (by decide)
  obtain ⟨-, oL2, oL3, oL4⟩ := ok 1 (by decide)
  obtain ⟨-, oR2, oR3, oR4⟩ := ok 2 (by decide)
  have ptA := h.pts 0 i (by decide) hi
  have ptL := h.pts 1 i (by decide) hi
  have ptR := h.pts 2 i (by decide) hi
  obtain ⟨l, hl⟩ : ∃ l, M.map (·.n) = l := ⟨_, rfl⟩
  obtain ⟨m, hm⟩ : ∃ m, M.length = m := ⟨_, rfl⟩
  have hlm : l.length = m := by rw [← hl, List.length_map]; exact hm
  have H := Lib.hid h
  have LM := Lib.hid hlm
  have M6 := Lib.hid (show m ≤ 65536 by omega)
  have LL := Lib.hid hlen
  have AM := Lib.hid (show (ob 0 i).M.length = m ∧ (ob 0 i).M.map (·.n) = l by rw [oA4]; exact ⟨hm, hl⟩)
  have BM := Lib.hid (show (ob 1 i).M.length = m ∧ (ob 1 i).M.map (·.n) = l by rw [oL4]; exact ⟨hm, hl⟩)
  have RM := Lib.hid (show (ob 2 i).M.length = m ∧ (ob 2 i).M.map (·.n) = l by rw [oR4]; exact ⟨hm, hl⟩)
  have PT := Lib.hid (And.intro ptA (And.intro ptL ptR))
  have HM := Lib.hid (And.intro oA2 (And.intro oA3 (And.intro oL2 (And.intro oL3 (And.intro oR2 oR3)))))
  have hi63 : (i : Int) < (N : Int) := by omega
  have HA := Lib.hid (numA (h.sys.ok 0 i (by decide) hi) AM.out.1 AM.out.2 M6.out)
  rw [ptA] at HA
  obtain ⟨s0, s1⟩ := h.wo.at0 hi
  obtain ⟨s4, s5⟩ := h.wo.at2 hi
  clear h hg ok h1 h2 h3 oA2 oA3 oA4 oL2 oL3 oL4 oR2 oR3 oR4 ptA ptL ptR hl hm hlm hlen
  go_enter Try.func17, Try.ntmps17
  go_wp2_with fail
  refine HA.out.mono ?_
  rintro r w1 ⟨A1, k1, rfl, o1, b1⟩
  have m1 := Lib.hid (H.out.below_ b1)
  have O1 := Lib.hid (And.intro o1 b1)
  obtain ⟨s2, s3⟩ := m1.out.wo.at1 hi
  have HL := Lib.hid (numL (m1.out.sys.ok 1 i (by decide) hi) BM.out.1 BM.out.2 M6.out)
  rw [PT.out.2.1] at HL
  clear o1 b1 HA s0 s1 s4 s5
  go_wp2_with fail
  refine HL.out.mono ?_
  rintro r w2 ⟨A2, k2, rfl, o2, b2⟩
  have m2 := Lib.hid (m1.out.below_ b2)
  have O2 := Lib.hid (And.intro o2 b2)
  have hA1 : ∀ k, (Value.slice A1 l.length k1).ownBlock = some k → w.heap.size ≤ k ∧ k < w1.heap.size := fun k e => World.ownsRow.lt O1.out.1 k e
  have hA2 : ∀ k, (Value.slice A2 l.length k2).ownBlock = some k → w1.heap.size ≤ k ∧ k < w2.heap.size := fun k e => World.ownsRow.lt O2.out.1 k e
  have HK := Lib.hid (keep_any (n := m) m2.out ((OwnsI.below O1.out.1 b2).mono H.out.wo.size) LM.out (by rw [LM.out]; exact M6.out)
    (fun r hr k e e' => by
      have := (hA1 k e').1
      have := (World.ownsRow.lt (H.out.wo.rows r hr).1 k e).2
      omega)
    (fun k e K i a b f => by
      have := (hA1 k e).1
      have := (H.out.sys.ok K i a b).lt k f
      omega) (by have := LL.out; omega))
  have BA := Lib.hid (And.intro hA1 hA2)
  clear o2 b2 HL s2 s3 hA1 hA2
  go_wp2_with fail
  refine HK.out.mono ?_
  rintro r w3 ⟨rfl, OV3, WV3, ws3, d3, t3⟩
  have m3 := Lib.hid d3
  have HK2 := Lib.hid (keep_any (n := m) d3 ((OwnsI.three O2.out.1 t3).mono (Nat.le_trans H.out.wo.size O1.out.2.size)) LM.out (by rw [LM.out]; exact M6.out)
    (fun r hr k e e' => by
      have h2 := (BA.out.2 k e').1
      have h0 := O1.out.2.size
      rcases List.mem_append.1 hr with hr | hr
      · have := (World.ownsRow.lt (H.out.wo.rows r hr).1 k e).2
        omega
      · rw [List.mem_singleton.1 hr] at e
        have := (BA.out.1 k e).2
        omega)
    (fun k e K i a b f => by
      have := (BA.out.2 k e).1
      have h0 := O1.out.2.size
      have := (H.out.sys.ok K i a b).lt k f
      omega) (by have := LL.out; simp; omega))
  clear d3 t3 HK
  go_wp2_with fail
  refine HK2.out.mono ?_
  rintro r w4 ⟨rfl, OV4, WV4, ws4, d4, -⟩
  have m4 := Lib.hid d4
  obtain ⟨s0, s1⟩ := d4.wo.at0 hi
  have HA := Lib.hid (A_hits (m4.out.sys.ok 0 i (by decide) hi))
  rw [PT.out.1, HM.out.1, HM.out.2.1] at HA
  clear d4 HK2
  go_wp2_with fail
  refine HA.out.mono ?_
  rintro r w5 ⟨rfl, q5, hq⟩
  have m5 := Lib.hid (m4.out.drew_ hq)
  clear hq HA s0 s1
  obtain ⟨s2, s3⟩ := m5.out.wo.at1 hi
  have HL := Lib.hid (L_hits (m5.out.sys.ok 1 i (by decide) hi))
  rw [PT.out.2.1, HM.out.2.2.1, HM.out.2.2.2.1] at HL
  go_wp2_with fail
  refine HL.out.mono ?_
  rintro r w6 ⟨rfl, q6, hq⟩
  have m6 := Lib.hid (m5.out.drew_ hq)
  clear hq HL s2 s3
  have HR := Lib.hid (numR (m6.out.sys.ok 2 i (by decide) hi) RM.out.1 RM.out.2 M6.out)
  rw [PT.out.2.2] at HR
  go_wp2_with fail
  refine HR.out.mono ?_
  rintro r w7 ⟨A7, k7, rfl, o7, b7⟩
  have m7 := Lib.hid (m6.out.below_ b7)
  have HS := Lib.hid (same_list A1 A7 k1 k7 m l w7 LM.out (OwnsI.reads (m7.out.wo.rows ⟨A1, k1, l⟩ (by simp)).1) o7.reads M6.out)
  clear o7 b7 HR
  go_wp2_with fail
  refine HS.out.mono ?_
  rintro r w8 ⟨rfl, b8⟩
  have m8 := Lib.hid (m7.out.below_ b8)
  clear b8 HS
  have HR := Lib.hid (numR (m8.out.sys.ok 2 i (by decide) hi) RM.out.1 RM.out.2 M6.out)
  rw [PT.out.2.2] at HR
  go_wp2_with fail
  refine HR.out.mono ?_
  rintro r w9 ⟨A9, k9, rfl, o9, b9⟩
  have m9 := Lib.hid (m8.out.below_ b9)
  have HS := Lib.hid (same_list A2 A9 k2 k9 m l w9 LM.out (OwnsI.reads (m9.out.wo.rows ⟨A2, k2, l⟩ (by simp)).1) o9.reads M6.out)
  clear o9 b9 HR
  go_wp2_with fail
  refine HS.out.mono ?_
  rintro r w10 ⟨rfl, b10⟩
  have m10 := Lib.hid (m9.out.below_ b10)
  clear b10 HS
  go_upto_region 10 with fail
  have d10 := m10.out.frame (w' := w10.drew) (S := fun _ => False) (Kept.refl _ _).drew fun _ _ e => e
  obtain ⟨s0, s1⟩ := d10.wo.at0 hi
  obtain ⟨s2, s3⟩ := d10.wo.at1 hi
  obtain ⟨r1, r2, AR, cR, r3⟩ := isR.cells (d10.sys.ok 2 i (by decide) hi)
  rw [PT.out.2.2, HM.out.2.2.2.2.1] at r1
  rw [PT.out.2.2, HM.out.2.2.2.2.2] at r2
  rw [PT.out.2.2, RM.out.1] at r3
  have HC := Lib.hid (A_count (d10.sys.ok 0 i (by decide) hi))
  rw [PT.out.1, AM.out.1] at HC
  have HD := Lib.hid (L_count (d10.sys.ok 1 i (by decide) hi))
  rw [PT.out.2.1, BM.out.1] at HD
  have S0 := Lib.hid (And.intro s0 (And.intro s1 (And.intro s2 (And.intro s3 (And.intro r1 (And.intro r2 r3))))))
  have m11 := Lib.hid d10
  have q1 : (hit == hit) = true := by simp
  have q2 : (miss == miss) = true := by simp
  have q3 : ((m : Int) == (m : Int)) = true := by simp
  clear d10 s0 s1 s2 s3 r1 r2 r3
  refine wp_region_held_drew (S := fun W' => W'.cell? ⟨gw, 0, none⟩ = some (.slice (some ⟨g0, 0, none⟩) N c0) ∧ W'.cell? ⟨g0, i, none⟩ = some (.pointer (some ⟨pt 0 i, 0, none⟩)) ∧ W'.cell? ⟨gw, 1, none⟩ = some (.slice (some ⟨g1, 0, none⟩) N c1) ∧ W'.cell? ⟨g1, i, none⟩ = some (.pointer (some ⟨pt 1 i, 0, none⟩)) ∧
    W'.cell? ⟨pt 2 i, 1, none⟩ = some (.int .i64 hit) ∧ W'.cell? ⟨pt 2 i, 2, none⟩ = some (.int .i64 miss) ∧ W'.cell? ⟨pt 2 i, 3, none⟩ = some (.slice AR m cR)) (by kernel_rfl) (by exact S0.out) (fun hHeld => ?_)
  change wpAnyH _ _ _ _ _ _ _ _ w10.drew
  generalize World.drew w10 = w11 at HC HD S0 m11 ⊢
  refine takeTo (i := 0) (v := ?_) (some 73) rfl rfl (by kernel_rfl) (by kernel_rfl) (by kernel_rfl) (fun _ _ _ h => h) (Or.inl ⟨by rfl, ?_⟩) (by assumption) ?_
  rotate_left
  · (intro W7 hSw; (try dsimp only at hSw); go_simp; try with_reducible rfl)
  try simp only [Act.put, List.setIfInBounds_toArray, List.set_cons_zero, List.set_cons_succ]
  refine takeTo (i := 1) (v := ?_) (some 74) rfl rfl (by kernel_rfl) (by kernel_rfl) (by kernel_rfl) (fun _ _ _ h => h) (Or.inl ⟨by rfl, ?_⟩) (by assumption) ?_
  rotate_left
  · (intro W7 hSw; (try dsimp only at hSw); go_simp; try with_reducible rfl)
  try simp only [Act.put, List.setIfInBounds_toArray, List.set_cons_zero, List.set_cons_succ]
  refine takeTo (i := 2) (v := ?_) (some 75) rfl rfl (by kernel_rfl) (by kernel_rfl) (by kernel_rfl) (fun _ _ _ h => h) (Or.inl ⟨by rfl, ?_⟩) (by assumption) ?_
  rotate_left
  · (intro W7 hSw; (try dsimp only at hSw); go_simp; try with_reducible rfl)
  try simp only [Act.put, List.setIfInBounds_toArray, List.set_cons_zero, List.set_cons_succ]
  refine takeTo (i := 3) (v := ?_) (some 76) rfl rfl (by kernel_rfl) (by kernel_rfl) (by kernel_rfl) (fun _ _ _ h => h) (Or.inl ⟨by rfl, ?_⟩) (by assumption) ?_
  rotate_left
  · (intro W7 hSw; (try dsimp only at hSw); go_simp; try with_reducible rfl)
  try simp only [Act.put, List.setIfInBounds_toArray, List.set_cons_zero, List.set_cons_succ]
  refine takeTo (i := 4) (v := ?_) (some 77) rfl rfl (by kernel_rfl) (by kernel_rfl) (by kernel_rfl) (fun _ _ _ h => h) (Or.inl ⟨by rfl, ?_⟩) (by assumption) ?_
  rotate_left
  · (intro W7 hSw; (try dsimp only at hSw); go_simp; try with_reducible rfl)
  try simp only [Act.put, List.setIfInBounds_toArray, List.set_cons_zero, List.set_cons_succ]
  refine takeTo (i := 5) (v := ?_) (some 78) rfl rfl (by kernel_rfl) (by kernel_rfl) (by kernel_rfl) (fun _ _ _ h => h) (Or.inl ⟨by rfl, ?_⟩) (by assumption) ?_
  rotate_left
  · (intro W7 hSw; (try dsimp only at hSw); go_simp; try with_reducible rfl)
  try simp only [Act.put, List.setIfInBounds_toArray, List.set_cons_zero, List.set_cons_succ]
  refine takeTo (i := 6) (v := ?_) (some 79) rfl rfl (by kernel_rfl) (by kernel_rfl) (by kernel_rfl) (fun _ _ _ h => h) (Or.inl ⟨by rfl, ?_⟩) (by assumption) ?_
  rotate_left
  · (intro W7 hSw; (try dsimp only at hSw); go_simp; try with_reducible rfl)
  try simp only [Act.put, List.setIfInBounds_toArray, List.set_cons_zero, List.set_cons_succ]
  refine takeTo (i := 7) (v := ?_) (some 80) rfl rfl (by kernel_rfl) (by kernel_rfl) (by kernel_rfl) (fun _ _ _ h => h) (Or.inl ⟨by rfl, ?_⟩) (by assumption) ?_
  rotate_left
  · (intro W7 hSw; (try dsimp only at hSw); go_simp; try with_reducible rfl)
  try simp only [Act.put, List.setIfInBounds_toArray, List.set_cons_zero, List.set_cons_succ]
  refine takeTo (i := 8) (v := ?_) (some 81) rfl rfl (by kernel_rfl) (by kernel_rfl) (by kernel_rfl) (fun _ _ _ h => h) (Or.inl ⟨by rfl, ?_⟩) (by assumption) ?_
  rotate_left
  · (intro W7 hSw; (try dsimp only at hSw); go_simp; try with_reducible rfl)
  try simp only [Act.put, List.setIfInBounds_toArray, List.set_cons_zero, List.set_cons_succ]
  refine takeTo (i := 9) (v := ?_) (some 82) rfl rfl (by kernel_rfl) (by kernel_rfl) (by kernel_rfl) (fun _ _ _ h => h) (Or.inl ⟨by rfl, ?_⟩) (by assumption) ?_
  rotate_left
  · (intro W7 hSw; (try dsimp only at hSw); go_simp; try with_reducible rfl)
  try simp only [Act.put, List.setIfInBounds_toArray, List.set_cons_zero, List.set_cons_succ]
  refine takeTo (i := 10) (v := ?_) (some 83) rfl rfl (by kernel_rfl) (by kernel_rfl) (by kernel_rfl) (fun _ _ _ h => h) (Or.inl ⟨by rfl, ?_⟩) (by assumption) ?_
  rotate_left
  · (intro W7 hSw; (try dsimp only at hSw); go_simp; try with_reducible rfl)
  try simp only [Act.put, List.setIfInBounds_toArray, List.set_cons_zero, List.set_cons_succ]
  refine takeTo (i := 11) (v := ?_) (some 84) rfl rfl (by kernel_rfl) (by kernel_rfl) (by kernel_rfl) (fun _ _ _ h => h) (Or.inl ⟨by rfl, ?_⟩) (by assumption) ?_
  rotate_left
  · (intro W7 hSw; (try dsimp only at hSw); go_simp; try with_reducible rfl)
  try simp only [Act.put, List.setIfInBounds_toArray, List.set_cons_zero, List.set_cons_succ]
  refine takeTo (i := 12) (v := ?_) (some 85) rfl rfl (by kernel_rfl) (by kernel_rfl) (by kernel_rfl) (fun _ _ _ h => h) (Or.inl ⟨by rfl, ?_⟩) (by assumption) ?_
  rotate_left
  · (intro W7 hSw; (try dsimp only at hSw); go_simp; try with_reducible rfl)
  try simp only [Act.put, List.setIfInBounds_toArray, List.set_cons_zero, List.set_cons_succ]
  refine takeTo (i := 13) (v := ?_) (some 86) rfl rfl (by kernel_rfl) (by kernel_rfl) (by kernel_rfl) (fun _ _ _ h => h) (Or.inl ⟨by rfl, ?_⟩) (by assumption) ?_
  rotate_left
  · (intro W7 hSw; (try dsimp only at hSw); go_simp; try with_reducible rfl)
  try simp only [Act.put, List.setIfInBounds_toArray, List.set_cons_zero, List.set_cons_succ]
  refine takeTo (i := 14) (v := ?_) (some 87) rfl rfl (by kernel_rfl) (by kernel_rfl) (by kernel_rfl) (fun _ _ _ h => h) (Or.inl ⟨by rfl, ?_⟩) (by assumption) ?_
  rotate_left
  · (intro W7 hSw; (try dsimp only at hSw); go_simp; try with_reducible rfl)
  try simp only [Act.put, List.setIfInBounds_toArray, List.set_cons_zero, List.set_cons_succ]
  refine takeTo (i := 15) (v := ?_) (some 88) rfl rfl (by kernel_rfl) (by kernel_rfl) (by kernel_rfl) (fun _ _ _ h => h) (Or.inl ⟨by rfl, ?_⟩) (by assumption) ?_
  rotate_left
  · (intro W7 hSw; (try dsimp only at hSw); go_simp; try with_reducible rfl)
  try simp only [Act.put, List.setIfInBounds_toArray, List.set_cons_zero, List.set_cons_succ]
  refine takeTo (i := 16) (v := ?_) (some 89) rfl rfl (by kernel_rfl) (by kernel_rfl) (by kernel_rfl) (fun _ _ _ h => h) (Or.inl ⟨by rfl, ?_⟩) (by assumption) ?_
  rotate_left
  · (intro W7 hSw; (try dsimp only at hSw); go_simp; try with_reducible rfl)
  try simp only [Act.put, List.setIfInBounds_toArray, List.set_cons_zero, List.set_cons_succ]
  refine takeTo (i := 17) (v := ?_) (some 90) rfl rfl (by kernel_rfl) (by kernel_rfl) (by kernel_rfl) (fun _ _ _ h => h) (Or.inl ⟨by rfl, ?_⟩) (by assumption) ?_
  rotate_left
  · (intro W7 hSw; (try dsimp only at hSw); go_simp; try with_reducible rfl)
  try simp only [Act.put, List.setIfInBounds_toArray, List.set_cons_zero, List.set_cons_succ]
  refine takeTo (i := 18) (v := ?_) (some 91) rfl rfl (by kernel_rfl) (by kernel_rfl) (by kernel_rfl) (fun _ _ _ h => h) (Or.inl ⟨by rfl, ?_⟩) (by assumption) ?_
  rotate_left
  · (intro W7 hSw; (try dsimp only at hSw); go_simp; try with_reducible rfl)
  try simp only [Act.put, List.setIfInBounds_toArray, List.set_cons_zero, List.set_cons_succ]
  refine takeTo (i := 19) (v := ?_) (some 92) rfl rfl (by kernel_rfl) (by kernel_rfl) (by kernel_rfl) (fun _ _ _ h => h) (Or.inl ⟨by rfl, ?_⟩) (by assumption) ?_
  rotate_left
  · (intro W7 hSw; (try dsimp only at hSw); go_simp; try with_reducible rfl)
  try simp only [Act.put, List.setIfInBounds_toArray, List.set_cons_zero, List.set_cons_succ]
  refine takeTo (i := 20) (v := ?_) (some 93) rfl rfl (by kernel_rfl) (by kernel_rfl) (by kernel_rfl) (fun _ _ _ h => h) (Or.inl ⟨by rfl, ?_⟩) (by assumption) ?_
  rotate_left
  · (intro W7 hSw; (try dsimp only at hSw); go_simp; try with_reducible rfl)
  try simp only [Act.put, List.setIfInBounds_toArray, List.set_cons_zero, List.set_cons_succ]
  refine takeTo (i := 21) (v := ?_) (some 94) rfl rfl (by kernel_rfl) (by kernel_rfl) (by kernel_rfl) (fun _ _ _ h => h) (Or.inl ⟨by rfl, ?_⟩) (by assumption) ?_
  rotate_left
  · (intro W7 hSw; (try dsimp only at hSw); go_simp; try with_reducible rfl)
  try simp only [Act.put, List.setIfInBounds_toArray, List.set_cons_zero, List.set_cons_succ]
  refine takeTo (i := 22) (v := ?_) (some 95) rfl rfl (by kernel_rfl) (by kernel_rfl) (by kernel_rfl) (fun _ _ _ h => h) (Or.inl ⟨by rfl, ?_⟩) (by assumption) ?_
  rotate_left
  · (intro W7 hSw; (try dsimp only at hSw); go_simp; try with_reducible rfl)
  try simp only [Act.put, List.setIfInBounds_toArray, List.set_cons_zero, List.set_cons_succ]
  refine takeTo (i := 23) (v := ?_) (some 96) rfl rfl (by kernel_rfl) (by kernel_rfl) (by kernel_rfl) (fun _ _ _ h => h) (Or.inl ⟨by rfl, ?_⟩) (by assumption) ?_
  rotate_left
  · (intro W7 hSw; (try dsimp only at hSw); go_simp; try with_reducible rfl)
  try simp only [Act.put, List.setIfInBounds_toArray, List.set_cons_zero, List.set_cons_succ]
  refine takeTo (i := 24) (v := ?_) (some 97) rfl rfl (by kernel_rfl) (by kernel_rfl) (by kernel_rfl) (fun _ _ _ h => h) (Or.inl ⟨by rfl, ?_⟩) (by assumption) ?_
  rotate_left
  · (intro W7 hSw; (try dsimp only at hSw); go_simp; try with_reducible rfl)
  try simp only [Act.put, List.setIfInBounds_toArray, List.set_cons_zero, List.set_cons_succ]
  refine takeTo (i := 25) (v := ?_) (some 98) rfl rfl (by kernel_rfl) (by kernel_rfl) (by kernel_rfl) (fun _ _ _ h => h) (Or.inl ⟨by rfl, ?_⟩) (by assumption) ?_
  rotate_left
  · (intro W7 hSw; (try dsimp only at hSw); go_simp; try with_reducible rfl)
  try simp only [Act.put, List.setIfInBounds_toArray, List.set_cons_zero, List.set_cons_succ]
  refine takeTo (i := 26) (v := ?_) (some 99) rfl rfl (by kernel_rfl) (by kernel_rfl) (by kernel_rfl) (fun _ _ _ h => h) (Or.inl ⟨by rfl, ?_⟩) (by assumption) ?_
  rotate_left
  · (intro W7 hSw; (try dsimp only at hSw); go_simp; try with_reducible rfl)
  try simp only [Act.put, List.setIfInBounds_toArray, List.set_cons_zero, List.set_cons_succ]
  refine takeTo (i := 27) (v := ?_) (some 100) rfl rfl (by kernel_rfl) (by kernel_rfl) (by kernel_rfl) (fun _ _ _ h => h) (Or.inl ⟨by rfl, ?_⟩) (by assumption) ?_
  rotate_left
  · (intro W7 hSw; (try dsimp only at hSw); go_simp; try with_reducible rfl)
  try simp only [Act.put, List.setIfInBounds_toArray, List.set_cons_zero, List.set_cons_succ]
  refine takeTo (i := 28) (v := ?_) (some 101) rfl rfl (by kernel_rfl) (by kernel_rfl) (by kernel_rfl) (fun _ _ _ h => h) (Or.inl ⟨by rfl, ?_⟩) (by assumption) ?_
  rotate_left
  · (intro W7 hSw; (try dsimp only at hSw); go_simp; try with_reducible rfl)
  try simp only [Act.put, List.setIfInBounds_toArray, List.set_cons_zero, List.set_cons_succ]
  refine takeTo (i := 29) (v := ?_) (some 102) rfl rfl (by kernel_rfl) (by kernel_rfl) (by kernel_rfl) (fun _ _ _ h => h) (Or.inl ⟨by rfl, ?_⟩) (by assumption) ?_
  rotate_left
  · (intro W7 hSw; (try dsimp only at hSw); go_simp; try with_reducible rfl)
  try simp only [Act.put, List.setIfInBounds_toArray, List.set_cons_zero, List.set_cons_succ]
  refine takeTo (i := 30) (v := ?_) (some 103) rfl rfl (by kernel_rfl) (by kernel_rfl) (by kernel_rfl) (fun _ _ _ h => h) (Or.inl ⟨by rfl, ?_⟩) (by assumption) ?_
  rotate_left
  · (intro W7 hSw; (try dsimp only at hSw); go_simp; try with_reducible rfl)
  try simp only [Act.put, List.setIfInBounds_toArray, List.set_cons_zero, List.set_cons_succ]
  refine takeTo (i := 31) (v := ?_) (some 104) rfl rfl (by kernel_rfl) (by kernel_rfl) (by kernel_rfl) (fun _ _ _ h => h) (Or.inl ⟨by rfl, ?_⟩) (by assumption) ?_
  rotate_left
  · (intro W7 hSw; (try dsimp only at hSw); go_simp; try with_reducible rfl)
  try simp only [Act.put, List.setIfInBounds_toArray, List.set_cons_zero, List.set_cons_succ]
  refine takeTo (i := 32) (v := ?_) (some 105) rfl rfl (by kernel_rfl) (by kernel_rfl) (by kernel_rfl) (fun _ _ _ h => h) (Or.inl ⟨by rfl, ?_⟩) (by assumption) ?_
  rotate_left
  · (intro W7 hSw; (try dsimp only at hSw); go_simp; try with_reducible rfl)
  try simp only [Act.put, List.setIfInBounds_toArray, List.set_cons_zero, List.set_cons_succ]
  refine takeTo (i := 33) (v := ?_) (some 106) rfl rfl (by kernel_rfl) (by kernel_rfl) (by kernel_rfl) (fun _ _ _ h => h) (Or.inl ⟨by rfl, ?_⟩) (by assumption) ?_
  rotate_left
  · (intro W7 hSw; (try dsimp only at hSw); go_simp; try with_reducible rfl)
  try simp only [Act.put, List.setIfInBounds_toArray, List.set_cons_zero, List.set_cons_succ]
  refine takeTo (i := 34) (v := ?_) (some 107) rfl rfl (by kernel_rfl) (by kernel_rfl) (by kernel_rfl) (fun _ _ _ h => h) (Or.inl ⟨by rfl, ?_⟩) (by assumption) ?_
  rotate_left
  · (intro W7 hSw; (try dsimp only at hSw); go_simp; try with_reducible rfl)
  try simp only [Act.put, List.setIfInBounds_toArray, List.set_cons_zero, List.set_cons_succ]
  refine takeTo (i := 35) (v := ?_) (some 108) rfl rfl (by kernel_rfl) (by kernel_rfl) (by kernel_rfl) (fun _ _ _ h => h) (Or.inl ⟨by rfl, ?_⟩) (by assumption) ?_
  rotate_left
  · (intro W7 hSw; (try dsimp only at hSw); go_simp; try with_reducible rfl)
  try simp only [Act.put, List.setIfInBounds_toArray, List.set_cons_zero, List.set_cons_succ]
  refine takeTo (i := 36) (v := ?_) (some 109) rfl rfl (by kernel_rfl) (by kernel_rfl) (by kernel_rfl) (fun _ _ _ h => h) (Or.inl ⟨by rfl, ?_⟩) (by assumption) ?_
  rotate_left
  · (intro W7 hSw; (try dsimp only at hSw); go_simp; try with_reducible rfl)
  try simp only [Act.put, List.setIfInBounds_toArray, List.set_cons_zero, List.set_cons_succ]
  refine takeTo (i := 37) (v := ?_) (some 110) rfl rfl (by kernel_rfl) (by kernel_rfl) (by kernel_rfl) (fun _ _ _ h => h) (Or.inl ⟨by rfl, ?_⟩) (by assumption) ?_
  rotate_left
  · (intro W7 hSw; (try dsimp only at hSw); go_simp; try with_reducible rfl)
  try simp only [Act.put, List.setIfInBounds_toArray, List.set_cons_zero, List.set_cons_succ]
  refine takeTo (i := 38) (v := ?_) (some 111) rfl rfl (by kernel_rfl) (by kernel_rfl) (by kernel_rfl) (fun _ _ _ h => h) (Or.inl ⟨by rfl, ?_⟩) (by assumption) ?_
  rotate_left
  · (intro W7 hSw; (try dsimp only at hSw); go_simp; try with_reducible rfl)
  try simp only [Act.put, List.setIfInBounds_toArray, List.set_cons_zero, List.set_cons_succ]
  refine takeTo (i := 39) (v := ?_) (some 112) rfl rfl (by kernel_rfl) (by kernel_rfl) (by kernel_rfl) (fun _ _ _ h => h) (Or.inl ⟨by rfl, ?_⟩) (by assumption) ?_
  rotate_left
  · (intro W7 hSw; (try dsimp only at hSw); go_simp; try with_reducible rfl)
  try simp only [Act.put, List.setIfInBounds_toArray, List.set_cons_zero, List.set_cons_succ]
  refine takeTo (i := 40) (v := ?_) (some 113) rfl rfl (by kernel_rfl) (by kernel_rfl) (by kernel_rfl) (fun _ _ _ h => h) (Or.inl ⟨by rfl, ?_⟩) (by assumption) ?_
  rotate_left
  · (intro W7 hSw; (try dsimp only at hSw); go_simp; try with_reducible rfl)
  try simp only [Act.put, List.setIfInBounds_toArray, List.set_cons_zero, List.set_cons_succ]
  refine takeTo (i := 41) (v := ?_) (some 114) rfl rfl (by kernel_rfl) (by kernel_rfl) (by kernel_rfl) (fun _ _ _ h => h) (Or.inl ⟨by rfl, ?_⟩) (by assumption) ?_
  rotate_left
  · (intro W7 hSw; (try dsimp only at hSw); go_simp; try with_reducible rfl)
  try simp only [Act.put, List.setIfInBounds_toArray, List.set_cons_zero, List.set_cons_succ]
  refine takeTo (i := 42) (v := ?_) (some 115) rfl rfl (by kernel_rfl) (by kernel_rfl) (by kernel_rfl) (fun _ _ _ h => h) (Or.inl ⟨by rfl, ?_⟩) (by assumption) ?_
  rotate_left
  · (intro W7 hSw; (try dsimp only at hSw); go_simp; try with_reducible rfl)
  try simp only [Act.put, List.setIfInBounds_toArray, List.set_cons_zero, List.set_cons_succ]
  refine takeTo (i := 43) (v := ?_) (some 116) rfl rfl (by kernel_rfl) (by kernel_rfl) (by kernel_rfl) (fun _ _ _ h => h) (Or.inl ⟨by rfl, ?_⟩) (by assumption) ?_
  rotate_left
  · (intro W7 hSw; (try dsimp only at hSw); go_simp; try with_reducible rfl)
  try simp only [Act.put, List.setIfInBounds_toArray, List.set_cons_zero, List.set_cons_succ]
  refine takeTo (i := 45) (v := ?_) (some 118) rfl rfl (by kernel_rfl) (by kernel_rfl) (by kernel_rfl) (fun _ _ _ h => h) (Or.inl ⟨by rfl, ?_⟩) (by assumption) ?_
  rotate_left
  · (intro W7 hSw; (try dsimp only at hSw); go_simp; try with_reducible rfl)
  try simp only [Act.put, List.setIfInBounds_toArray, List.set_cons_zero, List.set_cons_succ]
  refine takeTo (i := 46) (v := ?_) (some 119) rfl rfl (by kernel_rfl) (by kernel_rfl) (by kernel_rfl) (fun _ _ _ h => h) (Or.inl ⟨by rfl, ?_⟩) (by assumption) ?_
  rotate_left
  · (intro W7 hSw; (try dsimp only at hSw); go_simp; try with_reducible rfl)
  try simp only [Act.put, List.setIfInBounds_toArray, List.set_cons_zero, List.set_cons_succ]
  refine takeTo (i := 47) (v := ?_) (some 120) rfl rfl (by kernel_rfl) (by kernel_rfl) (by kernel_rfl) (fun _ _ _ h => h) (Or.inl ⟨by rfl, ?_⟩) (by assumption) ?_
  rotate_left
  · (intro W7 hSw; (try dsimp only at hSw); go_simp; try with_reducible rfl)
  try simp only [Act.put, List.setIfInBounds_toArray, List.set_cons_zero, List.set_cons_succ]
  refine takeTo (i := 48) (v := ?_) (some 121) rfl rfl (by kernel_rfl) (by kernel_rfl) (by kernel_rfl) (fun _ _ _ h => h) (Or.inl ⟨by rfl, ?_⟩) (by assumption) ?_
  rotate_left
  · (intro W7 hSw; (try dsimp only at hSw); go_simp; try with_reducible rfl)
  try simp only [Act.put, List.setIfInBounds_toArray, List.set_cons_zero, List.set_cons_succ]
  refine takeTo (i := 49) (v := ?_) (some 122) rfl rfl (by kernel_rfl) (by kernel_rfl) (by kernel_rfl) (fun _ _ _ h => h) (Or.inl ⟨by rfl, ?_⟩) (by assumption) ?_
  rotate_left
  · (intro W7 hSw; (try dsimp only at hSw); go_simp; try with_reducible rfl)
  try simp only [Act.put, List.setIfInBounds_toArray, List.set_cons_zero, List.set_cons_succ]
  refine wpAnyH_ready (rs := [44]) (by kernel_rfl) (by simp) ?_
  refine AllReadyH.cons rfl (fun K hK => ?_) AllReadyH.nil
  rw [if_pos (by rfl)]
  go_wp2_with fail
  refine HC.out.mono ?_
  rintro r w' ⟨rfl, rfl⟩
  refine hK.out _ _ S0.out (fun hHeld => ?_)
  clear hK K
  try simp only [Act.put, List.setIfInBounds_toArray, List.set_cons_zero, List.set_cons_succ]
  refine takeTo (i := 50) (v := ?_) (some 123) rfl rfl (by kernel_rfl) (by kernel_rfl) (by kernel_rfl) (fun _ _ _ h => h) (Or.inl ⟨by rfl, ?_⟩) (by assumption) ?_
  rotate_left
  · (intro W7 hSw; (try dsimp only at hSw); go_simp; try with_reducible rfl)
  try simp only [Act.put, List.setIfInBounds_toArray, List.set_cons_zero, List.set_cons_succ]
  refine takeTo (i := 51) (v := ?_) (some 124) rfl rfl (by kernel_rfl) (by kernel_rfl) (by kernel_rfl) (fun _ _ _ h => h) (Or.inl ⟨by rfl, ?_⟩) (by assumption) ?_
  rotate_left
  · (intro W7 hSw; (try dsimp only at hSw); go_simp; try with_reducible rfl)
  try simp only [Act.put, List.setIfInBounds_toArray, List.set_cons_zero, List.set_cons_succ]
  refine takeTo (i := 52) (v := ?_) (some 125) rfl rfl (by kernel_rfl) (by kernel_rfl) (by kernel_rfl) (fun _ _ _ h => h) (Or.inl ⟨by rfl, ?_⟩) (by assumption) ?_
  rotate_left
  · (intro W7 hSw; (try dsimp only at hSw); go_simp; try with_reducible rfl)
  try simp only [Act.put, List.setIfInBounds_toArray, List.set_cons_zero, List.set_cons_succ]
  refine takeTo (i := 53) (v := ?_) (some 126) rfl rfl (by kernel_rfl) (by kernel_rfl) (by kernel_rfl) (fun _ _ _ h => h) (Or.inl ⟨by rfl, ?_⟩) (by assumption) ?_
  rotate_left
  · (intro W7 hSw; (try dsimp only at hSw); go_simp; try with_reducible rfl)
  try simp only [Act.put, List.setIfInBounds_toArray, List.set_cons_zero, List.set_cons_succ]
  refine takeTo (i := 54) (v := ?_) (some 127) rfl rfl (by kernel_rfl) (by kernel_rfl) (by kernel_rfl) (fun _ _ _ h => h) (Or.inl ⟨by rfl, ?_⟩) (by assumption) ?_
  rotate_left
  · (intro W7 hSw; (try dsimp only at hSw); go_simp; try with_reducible rfl)
  try simp only [Act.put, List.setIfInBounds_toArray, List.set_cons_zero, List.set_cons_succ]
  refine takeTo (i := 55) (v := ?_) (some 128) rfl rfl (by kernel_rfl) (by kernel_rfl) (by kernel_rfl) (fun _ _ _ h => h) (Or.inl ⟨by rfl, ?_⟩) (by assumption) ?_
  rotate_left
  · (intro W7 hSw; (try dsimp only at hSw); go_simp; try with_reducible rfl)
  try simp only [Act.put, List.setIfInBounds_toArray, List.set_cons_zero, List.set_cons_succ]
  refine takeTo (i := 56) (v := ?_) (some 129) rfl rfl (by kernel_rfl) (by kernel_rfl) (by kernel_rfl) (fun _ _ _ h => h) (Or.inl ⟨by rfl, ?_⟩) (by assumption) ?_
  rotate_left
  · (intro W7 hSw; (try dsimp only at hSw); go_simp; try with_reducible rfl)
  try simp only [Act.put, List.setIfInBounds_toArray, List.set_cons_zero, List.set_cons_succ]
  refine takeTo (i := 57) (v := ?_) (some 130) rfl rfl (by kernel_rfl) (by kernel_rfl) (by kernel_rfl) (fun _ _ _ h => h) (Or.inl ⟨by rfl, ?_⟩) (by assumption) ?_
  rotate_left
  · (intro W7 hSw; (try dsimp only at hSw); go_simp; try with_reducible rfl)
  try simp only [Act.put, List.setIfInBounds_toArray, List.set_cons_zero, List.set_cons_succ]
  refine takeTo (i := 58) (v := ?_) (some 131) rfl rfl (by kernel_rfl) (by kernel_rfl) (by kernel_rfl) (fun _ _ _ h => h) (Or.inl ⟨by rfl, ?_⟩) (by assumption) ?_
  rotate_left
  · (intro W7 hSw; (try dsimp only at hSw); go_simp; try with_reducible rfl)
  try simp only [Act.put, List.setIfInBounds_toArray, List.set_cons_zero, List.set_cons_succ]
  refine takeTo (i := 59) (v := ?_) (some 132) rfl rfl (by kernel_rfl) (by kernel_rfl) (by kernel_rfl) (fun _ _ _ h => h) (Or.inl ⟨by rfl, ?_⟩) (by assumption) ?_
  rotate_left
  · (intro W7 hSw; (try dsimp only at hSw); go_simp; try with_reducible rfl)
  try simp only [Act.put, List.setIfInBounds_toArray, List.set_cons_zero, List.set_cons_succ]
  refine takeTo (i := 61) (v := ?_) (some 134) rfl rfl (by kernel_rfl) (by kernel_rfl) (by kernel_rfl) (fun _ _ _ h => h) (Or.inl ⟨by rfl, ?_⟩) (by assumption) ?_
  rotate_left
  · (intro W7 hSw; (try dsimp only at hSw); go_simp; try with_reducible rfl)
  try simp only [Act.put, List.setIfInBounds_toArray, List.set_cons_zero, List.set_cons_succ]
  refine takeTo (i := 62) (v := ?_) (some 135) rfl rfl (by kernel_rfl) (by kernel_rfl) (by kernel_rfl) (fun _ _ _ h => h) (Or.inl ⟨by rfl, ?_⟩) (by assumption) ?_
  rotate_left
  · (intro W7 hSw; (try dsimp only at hSw); go_simp; try with_reducible rfl)
  try simp only [Act.put, List.setIfInBounds_toArray, List.set_cons_zero, List.set_cons_succ]
  refine takeTo (i := 63) (v := ?_) (some 136) rfl rfl (by kernel_rfl) (by kernel_rfl) (by kernel_rfl) (fun _ _ _ h => h) (Or.inl ⟨by rfl, ?_⟩) (by assumption) ?_
  rotate_left
  · (intro W7 hSw; (try dsimp only at hSw); go_simp; try with_reducible rfl)
  try simp only [Act.put, List.setIfInBounds_toArray, List.set_cons_zero, List.set_cons_succ]
  refine takeTo (i := 64) (v := ?_) (some 137) rfl rfl (by kernel_rfl) (by kernel_rfl) (by kernel_rfl) (fun _ _ _ h => h) (Or.inl ⟨by rfl, ?_⟩) (by assumption) ?_
  rotate_left
  · (intro W7 hSw; (try dsimp only at hSw); go_simp; try with_reducible rfl)
  try simp only [Act.put, List.setIfInBounds_toArray, List.set_cons_zero, List.set_cons_succ]
  refine takeTo (i := 65) (v := ?_) (some 138) rfl rfl (by kernel_rfl) (by kernel_rfl) (by kernel_rfl) (fun _ _ _ h => h) (Or.inl ⟨by rfl, ?_⟩) (by assumption) ?_
  rotate_left
  · (intro W7 hSw; (try dsimp only at hSw); go_simp; try with_reducible rfl)
  try simp only [Act.put, List.setIfInBounds_toArray, List.set_cons_zero, List.set_cons_succ]
  refine wpAnyH_ready (rs := [60]) (by kernel_rfl) (by simp) ?_
  refine AllReadyH.cons rfl (fun K hK => ?_) AllReadyH.nil
  rw [if_pos (by rfl)]
  go_wp2_with fail
  refine HD.out.mono ?_
  rintro r w' ⟨rfl, rfl⟩
  refine hK.out _ _ S0.out (fun hHeld => ?_)
  clear hK K
  try simp only [Act.put, List.setIfInBounds_toArray, List.set_cons_zero, List.set_cons_succ]
  refine takeTo (i := 66) (v := ?_) (some 139) rfl rfl (by kernel_rfl) (by kernel_rfl) (by kernel_rfl) (fun _ _ _ h => h) (Or.inl ⟨by rfl, ?_⟩) (by assumption) ?_
  rotate_left
  · (intro W7 hSw; (try dsimp only at hSw); go_simp; try with_reducible rfl)
  try simp only [Act.put, List.setIfInBounds_toArray, List.set_cons_zero, List.set_cons_succ]
  refine takeTo (i := 67) (v := ?_) (some 140) rfl rfl (by kernel_rfl) (by kernel_rfl) (by kernel_rfl) (fun _ _ _ h => h) (Or.inl ⟨by rfl, ?_⟩) (by assumption) ?_
  rotate_left
  · (intro W7 hSw; (try dsimp only at hSw); go_simp; try with_reducible rfl)
  try simp only [Act.put, List.setIfInBounds_toArray, List.set_cons_zero, List.set_cons_succ]
  refine takeTo (i := 68) (v := ?_) (some 4) rfl rfl (by kernel_rfl) (by kernel_rfl) (by kernel_rfl) (fun _ _ _ h => h) (Or.inl ⟨by rfl, ?_⟩) (by assumption) ?_
  rotate_left
  · (intro W7 hSw; (try dsimp only at hSw); go_simp; try with_reducible rfl)
  try simp only [Act.put, List.setIfInBounds_toArray, List.set_cons_zero, List.set_cons_succ]
  refine wpAnyH_done (by kernel_rfl) ?_ _
  go_wp2_with fail
  go_ret
  exact ⟨rfl, OV4, WV4, _, ws4, m11.out, by simp⟩
end
end Go.Proofs.Ytghakgepchlpgaa
