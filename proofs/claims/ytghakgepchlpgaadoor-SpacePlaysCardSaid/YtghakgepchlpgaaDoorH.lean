/- WALK: SpaceOnce, whole. -/
import Derived.Test.YtghakgepchlpgaaDoorG
namespace Go.Proofs.YtghakgepchlpgaaDoor
open Go.RowKit Spc

/-- may a number be given back -/
def mayB (f : Nat → Bool) (N : Nat) (z : Int) : Bool := decide (0 ≤ z) && decide (z < (N : Int)) && f z.toNat
set_option maxHeartbeats 4000000 in
set_option maxRecDepth 100000 in
theorem spaceOnce_good (A : Option Addr) (c N u : Nat) (l : List Int) (w : World) (hT : Tab w) (hr : RdI w w.heap.size A l) (hl : l.length ≤ 9223372036854775807) (h : 16 ≤ N) (h' : N ≤ 65536) (hu : u ≤ N) :
    Calls Tryd.prog 4 #[.int .i64 (N : Int), .int .i64 (u : Int), .slice A l.length c] w fun e w' => e = .returned (.bool true) ∧ Below w.heap.size w w' := by
  have HA := Lib.hid (alive_true w hT)
  have HN := Lib.hid fun W => new_ok N u W h h' hu
  have HT := Lib.hid hT
  have HR := Lib.hid hr
  have HP := Lib.hid hT.pos
  have hmk := make_bools N (by omega)
  clear hT hr
  go_enter Tryd.func4, Tryd.ntmps4
  go_wp2_with (first
    | (go_at_call 8; refine HA.out.mono ?_; rintro e w1 ⟨rfl, b1⟩; have B1 := Lib.hid b1; clear b1)
    | (go_at_call 9; refine (HN.out _).mono ?_; rintro e w2 ⟨rfl, s2, b2⟩; have S2 := Lib.hid s2; have B2 := Lib.hid (B1.out.trans (b2.mono B1.out.size)); clear s2 b2))
  obtain ⟨g, hg⟩ : ∃ g, g = w1.heap.size := ⟨_, rfl⟩
  have hwg : w.heap.size ≤ g := by rw [hg]; exact B1.out.size
  rw [← hg] at S2 ⊢
  obtain ⟨hb, hhb⟩ : ∃ hb, hb = w2.heap.size := ⟨_, rfl⟩
  have hgb : g < hb := by rw [hhb]; exact S2.out.lt
  have S3 := Lib.hid (S2.out.alloc (.cells (arr N fun _ => .bool false) 4))
  have B3 := Lib.hid (B2.out.alloc B2.out.size (.cells (arr N fun _ => .bool false) 4))
  have K3 := Lib.hid (show Blk (w2.alloc (.cells (arr N fun _ => .bool false) 4)) hb 4 (bools N (first 0)) by rw [bools_first]; exact Blk.new_at hhb)
  rw [← hhb]
  generalize w2.alloc _ = W3 at S3 B3 K3 ⊢
  clear S2 B2 B1 hg hhb hmk
  clear w2 w1
  go_loopw [11] (fun iv wr => ∃ k : Nat, k ≤ u ∧ iv = .int .i64 k ∧ Sp wr g N (first u) ∧ Blk wr hb 4 (bools N (first k)) ∧ Below w.heap.size w wr) (fun iv _ => u - (intOf iv).toNat)
  case atStart => exact ⟨0, by omega, rfl, S3.out, K3.out, B3.out⟩
  case round =>
    obtain ⟨k, hk, rfl, hs, hbl, hbel⟩ := hrel
    by_cases hlt : k < u
    · have hc : wr.cell? ⟨hb, k, none⟩ = some (.bool (first k k)) := by rw [hbl.cell]; exact bools_get _ _ _ (by omega)
      have hf := hbl.free k
      have HS := Lib.hid (And.intro hs (And.intro hbl hbel))
      have hd : decide ((k : Int) < (u : Int)) = true := by simp; omega
      have hd2 : decide (k < u) = true := by simp; omega
      have hkN : k < N := by omega
      clear hs hbl hbel
      go_wp2_with fail
      go_roundw
      case rel =>
        refine ⟨k + 1, by omega, by go_num, HS.out.1.kept (kept_one _ hb k _) (fun e => by omega), ?_, HS.out.2.2.setCell (by show _ ≤ hb; omega) _⟩
        have := HS.out.2.1.put k (.bool true)
        rw [bools_put, first_succ] at this
        exact this
      case measure => simp [intOf]; omega
    · obtain rfl : k = u := by omega
      have HS := Lib.hid (And.intro hs (And.intro hbl hbel))
      clear hs hbl hbel S3 K3 B3
      go_wp2_with fail
      have CK := cnt_first k N (by omega)
      go_loopw [12, 13] (fun nv iv wr => ∃ (i : Nat) (f : Nat → Bool), i ≤ l.length ∧ iv = .int .i64 (i : Int) ∧ nv = .int .i64 (cnt f N : Int) ∧ Sp wr g N f ∧ Blk wr hb 4 (bools N f) ∧ Below w.heap.size w wr) (fun _ iv _ => l.length - (intOf iv).toNat)
      case atStart => exact ⟨0, first k, by omega, rfl, by rw [CK], HS.out.1, HS.out.2.1, HS.out.2.2⟩
      case round =>
        clear HS CK
        obtain ⟨i, f, hi, rfl, rfl, hs, hbl, hbel⟩ := hrel
        by_cases hlt : i < l.length
        · obtain ⟨b, off, rfl, hbw, hcells⟩ : ∃ b off, A = some ⟨b, off, none⟩ ∧ b < w.heap.size ∧ ∀ k, k < l.length → w.cell? ⟨b, off + k, none⟩ = some (.int .i64 (l.getD k 0)) := by
            rcases HR.out with h | h
            · rw [h] at hlt; simp at hlt
            · exact h
          have hcz := hcells i hlt
          obtain ⟨z, hz⟩ : ∃ z, z = l.getD i 0 := ⟨_, rfl⟩
          rw [← hz] at hcz
          have HZ := Lib.hid hcz
          have HS := Lib.hid (And.intro hs (And.intro hbl hbel))
          have HTT := Lib.hid (HT.out.below hbel HP.out)
          have hd : decide ((i : Int) < (l.length : Int)) = true := by simp; omega
          have hd2 : decide (i < l.length) = true := by simp; omega
          have hcn := cnt_le f N
          clear hcells hcz hz hs hbl hbel
          -- what Alloc does
          rcases least_or f N with ⟨m, hm⟩ | hfull
          case' inl =>
            have HAL := Lib.hid (alloc_least g N m f wr HS.out.1 HTT.out hm)
            have hmN := hm.1
            have hd3 : decide ((m : Int) < 0) = false := by simp
            have hd4 : decide ((N : Int) ≤ (m : Int)) = false := by simp; omega
            have hcs := cnt_set f m hm.2.1 N hm.1
            have HM := Lib.hid hm
            have HCS := Lib.hid hcs
            clear hm hcs
            go_upto_region 22 with (first
              | (go_at_call 10; refine HAL.out.mono ?_; rintro e w1 ⟨rfl, s1, k1⟩
                 have Q1 := Lib.hid (And.intro s1 (And.intro (HS.out.2.1.kept k1 (by omega)) (below_kept HS.out.2.2 k1 (fun b e => by omega) HS.out.2.2.size)))
                 have hcm : w1.cell? ⟨hb, m, none⟩ = some (.bool false) := by rw [Q1.out.2.1.cell, bools_get _ _ _ hmN, HM.out.2.1]
                 have hfm := Q1.out.2.1.free m
                 clear s1 k1)
              | (go_at_call 11; refine (has_any g N (m : Int) _ w1 Q1.out.1).mono ?_; rintro e w2 ⟨rfl, rfl⟩; rw [(hasB_nat _ m).trans (upd_same f m true)]))
            obtain ⟨f1, hf1⟩ : ∃ f1, f1 = upd f m true := ⟨_, rfl⟩
            have B4 := Q1.out.2.1.put m (.bool true)
            rw [bools_put, ← hf1] at B4
            have Q4 := Lib.hid (And.intro (show Sp (w1.setCell ⟨hb, m, none⟩ (.bool true)) g N f1 by rw [hf1]; exact Q1.out.1.kept (kept_one _ hb m _) (fun e => by omega)) (And.intro B4 (Q1.out.2.2.setCell (p := ⟨hb, m, none⟩) (by show _ ≤ hb; omega) (.bool true))))
            obtain ⟨c1, hc1⟩ : ∃ c1 : Nat, (cnt f N : Int) + 1 = (c1 : Int) := ⟨_, rfl⟩
            have C1 := Lib.hid (show c1 = cnt f1 N by rw [hf1, HCS.out]; omega)
            try rw [hc1]
            generalize w1.setCell _ _ = W4 at Q4 ⊢
            clear hcm hfm hc1 hd3 hd4 B4
            clear Q1
          case' inr =>
            have HAL := Lib.hid (alloc_full g N f wr HS.out.1 HTT.out hfull)
            have hcn2 : cnt f N = N := cnt_all f N hfull
            have HFU := Lib.hid hfull
            obtain ⟨c1, hc1⟩ : ∃ c1 : Nat, c1 = cnt f N := ⟨_, rfl⟩
            have hc2 : ((c1 : Int) != (N : Int)) = false := by rw [hc1, hcn2]; simp
            have C1 := Lib.hid hc1
            rw [← hc1]
            rw [← hc1] at hcn
            clear hfull hcn2 hc1
            go_upto_region 22 with (go_at_call 10; refine HAL.out.mono ?_; rintro e w1 ⟨rfl, rfl⟩)
            obtain ⟨f1, hf1⟩ : ∃ f1, f1 = f := ⟨_, rfl⟩
            have Q4 := Lib.hid HS.out
            rw [← hf1] at C1 Q4
            generalize wr = W4 at Q4 ⊢
          all_goals
            have hcz : W4.cell? ⟨b, off + i, none⟩ = some (.int .i64 z) := (Q4.out.2.2.cell (p := ⟨b, off + i, none⟩) hbw).trans HZ.out
            have HF0 := Lib.hid (free_any g N z f1 W4 Q4.out.1)
            have hc1N : c1 ≤ N := by rw [C1.out]; exact cnt_le _ _
            have hbhb : b ≠ hb := by omega
            by_cases hz0 : z < 0
            · have hq0 : decide (0 ≤ z) = false := by simp; omega
              have HF := Lib.hid (show Calls Tryd.prog 12 #[.pointer (some ⟨g, 0, none⟩), .int .i64 z] W4 fun e w' => e = .returned (.int .i64 91) ∧ Sp w' g N f1 ∧ Kept (fun b => b = g) W4 w' from by
                have := HF0.out; rw [freeE, if_pos (.inl hz0), freeF, if_pos (.inl hz0)] at this; exact this)
              clear HF0
              go_wp2_with (first
                | (go_at_call 12; refine HF.out.mono ?_; rintro e w5 ⟨rfl, s5, k5⟩
                   have Q5 := Lib.hid (And.intro s5 (And.intro (Q4.out.2.1.kept k5 (by omega)) (below_kept Q4.out.2.2 k5 (fun b e => by omega) Q4.out.2.2.size)))
                   have hcz5 : w5.cell? ⟨b, off + i, none⟩ = some (.int .i64 z) := (Q5.out.2.2.cell (p := ⟨b, off + i, none⟩) hbw).trans HZ.out
                   clear s5 k5)
                | (go_at_call 13; refine (used_any g N f1 _ Q5.out.1).mono ?_; rintro e w6 ⟨rfl, rfl⟩; rw [← C1.out])
                | (go_at_call 14; refine (left_any g N f1 _ Q5.out.1).mono ?_; rintro e w7 ⟨rfl, b7⟩; rw [← C1.out]
                   have Q7 := Lib.hid (And.intro (Q5.out.1.below b7) (And.intro (Q5.out.2.1.below b7 Q5.out.2.1.lt) (Q5.out.2.2.trans (b7.mono Q5.out.2.2.size))))
                   clear b7))
              go_roundw
              case rel => exact ⟨i + 1, f1, by omega, by go_num, by rw [C1.out], Q7.out.1, Q7.out.2.1, Q7.out.2.2⟩
              case measure => simp [intOf]; omega
            obtain ⟨zn, rfl⟩ : ∃ zn : Nat, z = (zn : Int) := ⟨z.toNat, by omega⟩
            have hq0 : decide (0 ≤ (zn : Int)) = true := by simp
            by_cases hzN : N ≤ zn
            · have hq1 : decide ((zn : Int) < (N : Int)) = false := by simp; omega
              have hq2 : decide (zn < N) = false := by simp; omega
              have HF := Lib.hid (show Calls Tryd.prog 12 #[.pointer (some ⟨g, 0, none⟩), .int .i64 (zn : Int)] W4 fun e w' => e = .returned (.int .i64 91) ∧ Sp w' g N f1 ∧ Kept (fun b => b = g) W4 w' from by
                have := HF0.out; rw [freeE, if_pos (.inr (by omega)), freeF, if_pos (.inr (by omega))] at this; exact this)
              clear HF0
              go_wp2_with (first
                | (go_at_call 12; refine HF.out.mono ?_; rintro e w5 ⟨rfl, s5, k5⟩
                   have Q5 := Lib.hid (And.intro s5 (And.intro (Q4.out.2.1.kept k5 (by omega)) (below_kept Q4.out.2.2 k5 (fun b e => by omega) Q4.out.2.2.size)))
                   have hcz5 : w5.cell? ⟨b, off + i, none⟩ = some (.int .i64 (zn : Int)) := (Q5.out.2.2.cell (p := ⟨b, off + i, none⟩) hbw).trans HZ.out
                   clear s5 k5)
                | (go_at_call 13; refine (used_any g N f1 _ Q5.out.1).mono ?_; rintro e w6 ⟨rfl, rfl⟩; rw [← C1.out])
                | (go_at_call 14; refine (left_any g N f1 _ Q5.out.1).mono ?_; rintro e w7 ⟨rfl, b7⟩; rw [← C1.out]
                   have Q7 := Lib.hid (And.intro (Q5.out.1.below b7) (And.intro (Q5.out.2.1.below b7 Q5.out.2.1.lt) (Q5.out.2.2.trans (b7.mono Q5.out.2.2.size))))
                   clear b7))
              go_roundw
              case rel => exact ⟨i + 1, f1, by omega, by go_num, by rw [C1.out], Q7.out.1, Q7.out.2.1, Q7.out.2.2⟩
              case measure => simp [intOf]; omega
            have hzN' : zn < N := by omega
            have hq1 : decide ((zn : Int) < (N : Int)) = true := by simp; omega
            have hq2 : decide (zn < N) = true := by simp; omega
            by_cases hfz : f1 zn = true
            · have HF := Lib.hid (show Calls Tryd.prog 12 #[.pointer (some ⟨g, 0, none⟩), .int .i64 (zn : Int)] W4 fun e w' => e = .returned (.int .i64 0) ∧ Sp w' g N (upd f1 zn false) ∧ Kept (fun b => b = g) W4 w' from by
                have := HF0.out; rw [freeE, if_neg (by omega), if_pos (by simpa using hfz), freeF, if_neg (by omega)] at this; exact this)
              have hcl := cnt_clear f1 zn hfz N hzN'
              obtain ⟨c2, hc2⟩ : ∃ c2, c2 = cnt (upd f1 zn false) N := ⟨_, rfl⟩
              have hc3 : (c1 : Int) - 1 = (c2 : Int) := by rw [hc2, C1.out]; omega
              have hc4 : 1 ≤ c1 := by rw [C1.out]; omega
              have C2 := Lib.hid hc2
              have HFZ := Lib.hid hfz
              clear HF0 hcl hfz hc2
              go_wp2_with (first
                | (go_at_call 12; refine HF.out.mono ?_; rintro e w5 ⟨rfl, s5, k5⟩
                   have Q5 := Lib.hid (And.intro s5 (And.intro (Q4.out.2.1.kept k5 (by omega)) (below_kept Q4.out.2.2 k5 (fun b e => by omega) Q4.out.2.2.size)))
                   have hcz5 : w5.cell? ⟨b, off + i, none⟩ = some (.int .i64 (zn : Int)) := (Q5.out.2.2.cell (p := ⟨b, off + i, none⟩) hbw).trans HZ.out
                   have hch5 : w5.cell? ⟨hb, zn, none⟩ = some (.bool true) := by rw [Q5.out.2.1.cell, bools_get _ _ _ hzN', HFZ.out]
                   have hfh5 := Q5.out.2.1.free zn
                   clear s5 k5)
                | (go_at_call 13; refine (used_any g N (upd f1 zn false) _ (Q5.out.1.kept (kept_one _ hb zn _) (fun e => by omega))).mono ?_; rintro e w6 ⟨rfl, rfl⟩; rw [← C2.out])
                | (go_at_call 14; refine (left_any g N (upd f1 zn false) _ (Q5.out.1.kept (kept_one _ hb zn _) (fun e => by omega))).mono ?_; rintro e w7 ⟨rfl, b7⟩; rw [← C2.out]
                   have B6 := Q5.out.2.1.put zn (.bool false)
                   rw [bools_put] at B6
                   have Q7 := Lib.hid (And.intro ((Q5.out.1.kept (kept_one _ hb zn (.bool false)) (fun e => by omega)).below b7) (And.intro (B6.below b7 B6.lt) ((Q5.out.2.2.setCell (p := ⟨hb, zn, none⟩) (by show _ ≤ hb; omega) (.bool false)).trans (b7.mono (Q5.out.2.2.setCell (p := ⟨hb, zn, none⟩) (by show _ ≤ hb; omega) (.bool false)).size))))
                   clear b7 B6))
              go_roundw
              case rel => exact ⟨i + 1, upd f1 zn false, by omega, by go_num, by rw [C2.out], Q7.out.1, Q7.out.2.1, Q7.out.2.2⟩
              case measure => simp [intOf]; omega
            · have hfz' : f1 zn = false := by simpa using hfz
              have HF := Lib.hid (show Calls Tryd.prog 12 #[.pointer (some ⟨g, 0, none⟩), .int .i64 (zn : Int)] W4 fun e w' => e = .returned (.int .i64 92) ∧ Sp w' g N f1 ∧ Kept (fun b => b = g) W4 w' from by
                have := HF0.out; rw [freeE, if_neg (by omega), if_neg (by simpa using hfz), freeF, if_neg (by omega), show (zn : Int).toNat = zn from rfl, upd_id _ _ _ hfz'] at this; exact this)
              have HFZ := Lib.hid hfz'
              clear HF0 hfz hfz'
              go_wp2_with (first
                | (go_at_call 12; refine HF.out.mono ?_; rintro e w5 ⟨rfl, s5, k5⟩
                   have Q5 := Lib.hid (And.intro s5 (And.intro (Q4.out.2.1.kept k5 (by omega)) (below_kept Q4.out.2.2 k5 (fun b e => by omega) Q4.out.2.2.size)))
                   have hcz5 : w5.cell? ⟨b, off + i, none⟩ = some (.int .i64 (zn : Int)) := (Q5.out.2.2.cell (p := ⟨b, off + i, none⟩) hbw).trans HZ.out
                   have hch5 : w5.cell? ⟨hb, zn, none⟩ = some (.bool false) := by rw [Q5.out.2.1.cell, bools_get _ _ _ hzN', HFZ.out]
                   clear s5 k5)
                | (go_at_call 13; refine (used_any g N f1 _ Q5.out.1).mono ?_; rintro e w6 ⟨rfl, rfl⟩; rw [← C1.out])
                | (go_at_call 14; refine (left_any g N f1 _ Q5.out.1).mono ?_; rintro e w7 ⟨rfl, b7⟩; rw [← C1.out]
                   have Q7 := Lib.hid (And.intro (Q5.out.1.below b7) (And.intro (Q5.out.2.1.below b7 Q5.out.2.1.lt) (Q5.out.2.2.trans (b7.mono Q5.out.2.2.size))))
                   clear b7))
              go_roundw
              case rel => exact ⟨i + 1, f1, by omega, by go_num, by rw [C1.out], Q7.out.1, Q7.out.2.1, Q7.out.2.2⟩
              case measure => simp [intOf]; omega
        · obtain rfl : i = l.length := by omega
          have HS := Lib.hid (And.intro hs (And.intro hbl hbel))
          clear hs hbl hbel
          go_wp2_with fail
          go_ret
          exact ⟨rfl, HS.out.2.2⟩
end Go.Proofs.YtghakgepchlpgaaDoor
