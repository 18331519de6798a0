/- WALK: the document's Decode. -/
import Derived.Test.YtghakgepchlpgaaDoorS
namespace Go.Proofs.YtghakgepchlpgaaDoor
open Go.RowKit Spc

/-- the document's answer -/
def RDecPost (w : World) (N : Nat) (l : List UInt8) (e : Ending) (w' : World) : Prop :=
  (∃ f gr gl, decd N l = some f ∧ e = .returned (.tuple #[.pointer (some ⟨gr, 0, none⟩), .int .i64 0]) ∧ RSp w' gr gl N f ∧ (w.heap.size ≤ gr ∧ w.heap.size ≤ gl) ∧ Below w.heap.size w w') ∨
  (decd N l = none ∧ e = .returned (.tuple #[.pointer none, .int .i64 93]) ∧ Below w.heap.size w w')
theorem rdecode_bad (A : Option Addr) (n c : Nat) (b : Int) (w : World) (h : b < 16 ∨ 65536 < b) : Calls Tryd.prog 16 #[.int .i64 b, .slice A n c] w fun r w' => r = .returned (.tuple #[.pointer none, .int .i64 1]) ∧ w = w' := by
  have HB := Lib.hid (rnew_bad b 0 w (by omega))
  clear h
  go_enter Tryd.func16, Tryd.ntmps16
  go_wp2_with (go_at_call 22; refine HB.out.mono ?_; rintro e w2 ⟨rfl, rfl⟩)
  go_ret2
  exact ⟨rfl, rfl⟩
set_option maxHeartbeats 2000000 in
set_option maxRecDepth 100000 in
theorem rdecode_any (A : Option Addr) (c N : Nat) (l : List UInt8) (w : World) (h : 16 ≤ N) (h' : N ≤ 65536) (hr : Rd w w.heap.size A l) (hlc : l.length ≤ c) (hl : l.length ≤ 9223372036854775807) :
    Calls Tryd.prog 16 #[.int .i64 (N : Int), .slice A l.length c] w (RDecPost w N l) := by
  have HN := Lib.hid (show Calls Tryd.prog 22 #[.int .i64 (N : Int), .int .i64 0] w _ from rnew_ok N 0 w h h' (Nat.zero_le _))
  have HR := Lib.hid hr
  obtain ⟨n, hn⟩ : ∃ n, n = l.length := ⟨_, rfl⟩
  rw [← hn] at hlc hl ⊢
  obtain ⟨g, hg⟩ : ∃ g, g = w.heap.size := ⟨_, rfl⟩
  rw [← hg] at HN HR
  have HG := Lib.hid hg
  have HNN := Lib.hid hn
  clear hr hg
  by_cases h4 : n < 4
  · have HD := Lib.hid (show decd N l = none from decd_no fun hf => by have := hf.1; omega)
    clear hn
    go_enter Tryd.func16, Tryd.ntmps16
    go_wp2_with (go_at_call 22; refine HN.out.mono ?_; rintro e w2 ⟨rfl, s2, b2⟩; have Q2 := Lib.hid (And.intro s2 b2); clear s2 b2)
    go_ret2
    exact .inr ⟨HD.out, rfl, by rw [← HG.out]; exact Q2.out.2⟩
  have d4 : decide ((n : Int) < 4) = false := by simp; omega
  by_cases h8 : n % 8 = 4
  · have d8 : ((n : Int) % 8 != 4) = false := by simp; omega
    obtain ⟨q, hq⟩ : ∃ q, n = 8 * q + 4 := ⟨n / 8, by omega⟩
    have hq60 : q ≤ 1152921504606846976 := by omega
    obtain ⟨b, off, rfl, hbg, hcl⟩ : ∃ b off, A = some ⟨b, off, none⟩ ∧ b < g ∧ ∀ k, k < n → w.cell? ⟨b, off + k, none⟩ = some (.int .u8 ((l.getD k 0).toNat : Int)) := by
      rcases HR.out with h | ⟨b, off, hA, hb, hc⟩
      · rw [h] at hn; simp at hn; omega
      · exact ⟨b, off, hA, hb, fun k hk => hc k (by omega)⟩
    have HC := Lib.hid (show ∀ W, Below g w W → ∀ k, k < n → W.cell? ⟨b, off + k, none⟩ = some (.int .u8 ((l.getD k 0).toNat : Int)) from fun W hW k hk => (hW.cell (p := ⟨b, off + k, none⟩) hbg).trans (hcl k hk))
    have HQ := Lib.hid hq
    have HZ := Lib.hid (show ∀ W, Below g w W → g ≤ W.heap.size from fun W hW => by have := hW.size; rw [← HG.out] at this; exact this)
    clear hn hcl hq
    have HNUM := Lib.hid fun (i cc : Nat) (hi : 4 * i + 4 ≤ n) (W : World) (hW : Below g w W) => told_any b (off + 4 * i) cc i l W (fun k hk => by rw [Nat.add_assoc]; exact HC.out W hW (4 * i + k) (by omega))
    go_enter Tryd.func16, Tryd.ntmps16
    go_wp2_with (go_at_call 22; refine HN.out.mono ?_; rintro e w2 ⟨rfl, s2, b2⟩; have Q2 := Lib.hid (And.intro s2 b2); clear s2 b2)
    have HP := Lib.hid (show RSp w2 (g + 1) g N (fun _ => false) ∧ Below g w w2 from ⟨by
      have := Q2.out.1; rw [show first 0 = fun _ => false from funext first_zero] at this; exact this, Q2.out.2⟩)
    clear Q2 HN d8 d4
    go_loopw [8] (fun av wr => ∃ (i : Nat) (f : Nat → Bool), i ≤ q ∧ av = .int .i64 (4 + 8 * (i : Int)) ∧ Hid (R N (pairs l i) = some f) ∧ RSp wr (g + 1) g N f ∧ Below g w wr) (fun av _ => n + 8 - (intOf av).toNat)
    case atStart => exact ⟨0, fun _ => false, by omega, rfl, Lib.hid rfl, HP.out.1, HP.out.2⟩
    case round =>
      obtain ⟨i, f, hi, rfl, hD, hs, hbel⟩ := hrel
      have HS := Lib.hid (And.intro hs hbel)
      clear hs hbel
      obtain ⟨j, hj⟩ : ∃ j, j = 4 + 8 * i := ⟨_, rfl⟩
      have ej : 4 + 8 * (i : Int) = (j : Int) := by omega
      rw [ej]
      by_cases hlt : i < q
      · have hjn : j + 8 ≤ n := by have := HQ.out; omega
        have hd : decide ((j : Int) < (n : Int)) = true := by simp; omega
        have hd2 : decide (j < n) = true := by simp; omega
        obtain ⟨a, ha⟩ : ∃ a : Int, a = (n4 l (1 + 2 * i) : Int) := ⟨_, rfl⟩
        obtain ⟨m, hm⟩ : ∃ m : Int, m = (n4 l (2 + 2 * i) : Int) := ⟨_, rfl⟩
        have hal : a < 4294967296 := by rw [ha]; have := n4_lt l (1 + 2 * i); omega
        have hml : m < 4294967296 := by rw [hm]; have := n4_lt l (2 + 2 * i); omega
        have ha0 : 0 ≤ a := by rw [ha]; omega
        have hm0 : 0 ≤ m := by rw [hm]; omega
        have N1 := Lib.hid fun cc => HNUM.out (1 + 2 * i) cc (by have := HQ.out; omega)
        have N2 := Lib.hid fun cc => HNUM.out (2 + 2 * i) cc (by have := HQ.out; omega)
        rw [← ha, show 4 * (1 + 2 * i) = j by omega] at N1
        rw [← hm, show 4 * (2 + 2 * i) = j + 4 by omega] at N2
        have HP1 := Lib.hid (show R N (pairs l (i + 1)) = rstep N (some f) (a, m) by rw [pairs_succ, R_snoc, hD.out, ha, hm])
        have hpm := pairs_more l (i + 1) q (by omega)
        have HPM := Lib.hid hpm
        have HBAD := Lib.hid (show R N (pairs l (i + 1)) = none → decd N l = none from fun h0 => by
          cases hdd : decd N l with
          | none => rfl
          | some f' =>
            have h1 := R_of_decd hdd
            obtain ⟨m', hm'⟩ := HPM.out
            rw [← HNN.out, show n / 8 = q by have := HQ.out; omega, hm', R_none _ _ _ h0] at h1
            cases h1)
        have hjc : ¬ (j = c) ∧ ¬ (j + 4 = c) := by omega
        obtain ⟨hjc1, hjc2⟩ := hjc
        have HJ := Lib.hid hj
        clear ha hm hpm hj ej
        by_cases k3 : (N : Int) < a
        · have d3 : decide ((N : Int) < a) = true := by simpa using k3
          go_wp2_with fail
          refine (N1.out (c - j) _ HS.out.2).mono ?_
          rintro e w4 ⟨rfl, b4⟩
          have Q4 := Lib.hid (And.intro (HS.out.1.below b4) (HS.out.2.trans (b4.mono (HZ.out _ HS.out.2))))
          clear b4
          go_wp2_with fail
          refine (N2.out (c - (j + 4)) _ Q4.out.2).mono ?_
          rintro e w5 ⟨rfl, b5⟩
          have Q5 := Lib.hid (And.intro (Q4.out.1.below b5) (Q4.out.2.trans (b5.mono (HZ.out _ Q4.out.2))))
          clear b5
          go_wp2_with fail
          go_ret2
          refine .inr ⟨HBAD.out (HP1.out.trans ?_), rfl, by rw [← HG.out]; exact Q5.out.2⟩
          simp only [rstep]
          rw [if_neg (by rintro ⟨h1, h2, -⟩; omega)]
        have d3 : decide ((N : Int) < a) = false := by simpa using k3
        by_cases k4 : (N : Int) - a < m
        · have d4 : decide ((N : Int) - a < m) = true := by simpa using k4
          go_wp2_with fail
          refine (N1.out (c - j) _ HS.out.2).mono ?_
          rintro e w4 ⟨rfl, b4⟩
          have Q4 := Lib.hid (And.intro (HS.out.1.below b4) (HS.out.2.trans (b4.mono (HZ.out _ HS.out.2))))
          clear b4
          go_wp2_with fail
          refine (N2.out (c - (j + 4)) _ Q4.out.2).mono ?_
          rintro e w5 ⟨rfl, b5⟩
          have Q5 := Lib.hid (And.intro (Q4.out.1.below b5) (Q4.out.2.trans (b5.mono (HZ.out _ Q4.out.2))))
          clear b5
          go_wp2_with fail
          go_ret2
          refine .inr ⟨HBAD.out (HP1.out.trans ?_), rfl, by rw [← HG.out]; exact Q5.out.2⟩
          simp only [rstep]
          rw [if_neg (by rintro ⟨h1, h2, -⟩; omega)]
        have d4 : decide ((N : Int) - a < m) = false := by simpa using k4
        have HKK := Lib.hid (show a + m ≤ (N : Int) ∧ a ≤ (N : Int) from ⟨by omega, by omega⟩)
        clear k3 k4
        go_wp2_with fail
        refine (N1.out (c - j) _ HS.out.2).mono ?_
        rintro e w4 ⟨rfl, b4⟩
        have Q4 := Lib.hid (And.intro (HS.out.1.below b4) (HS.out.2.trans (b4.mono (HZ.out _ HS.out.2))))
        clear b4
        go_wp2_with fail
        refine (N2.out (c - (j + 4)) _ Q4.out.2).mono ?_
        rintro e w5 ⟨rfl, b5⟩
        have Q5 := Lib.hid (And.intro (Q4.out.1.below b5) (Q4.out.2.trans (b5.mono (HZ.out _ Q4.out.2))))
        clear b5
        go_wp2_with fail
        clear d3 d4 N1 N2 HNUM
        obtain ⟨an, rfl⟩ : ∃ an : Nat, a = (an : Int) := ⟨a.toNat, by omega⟩
        obtain ⟨mn, rfl⟩ : ∃ mn : Nat, m = (mn : Int) := ⟨m.toNat, by omega⟩
        have HK := Lib.hid (show an + mn ≤ N by have := HKK.out.1; omega)
        have HI := Lib.hid (And.intro (show RSp w5 (g + 1) g N (updR f an 0) by rw [updR_zero]; exact Q5.out.1) Q5.out.2)
        clear Q5 Q4
        go_loopw [11] (fun tv wr => ∃ k : Nat, k ≤ mn ∧ tv = .int .i64 ((an : Int) + (k : Int)) ∧ (∀ k', k' < k → f (an + k') = false) ∧ RSp wr (g + 1) g N (updR f an k) ∧ Below g w wr) (fun tv _ => (an : Int).toNat + mn - (intOf tv).toNat)
        case atStart => exact ⟨0, by omega, by simp, fun k' hk' => absurd hk' (by omega), HI.out.1, HI.out.2⟩
        case round =>
          obtain ⟨k, hk, rfl, hall, hs2, hbel2⟩ := hrel
          obtain ⟨x, hx⟩ : ∃ x : Nat, x = an + k := ⟨_, rfl⟩
          have ex : (an : Int) + (k : Int) = (x : Int) := by omega
          obtain ⟨y, hy⟩ : ∃ y : Nat, y = an + mn := ⟨_, rfl⟩
          have ey : (an : Int) + (mn : Int) = (y : Int) := by omega
          rw [ex]
          have hyN : y ≤ N := by rw [hy]; exact HK.out
          by_cases hlt2 : k < mn
          · have hxN : x < N := by have := HK.out; omega
            have hd5 : decide ((x : Int) < (y : Int)) = true := by simp; omega
            have hd6 : decide (x < y) = true := by simp; omega
            have HT := rtake_any (g + 1) g N (x : Int) (updR f an k) _ hs2
            have hfx : updR f an k x = f x := updR_out f (by omega)
            by_cases hfu : f x = true
            · have HT := Lib.hid (show Calls Tryd.prog 32 #[.pointer (some ⟨g + 1, 0, none⟩), .int .i64 (x : Int)] wr fun e w' => e = .returned (.int .i64 94) ∧ Kept (fun b => b = g) wr w' from by
                rw [takeE, if_neg (by omega), if_pos (by rw [Int.toNat_natCast, hfx, hfu])] at HT
                exact HT.mono fun e w' h => ⟨h.1, h.2.2⟩)
              have HB2 := Lib.hid hbel2
              have HBD := Lib.hid (show decd N l = none from HBAD.out (HP1.out.trans (by
                simp only [rstep]
                rw [if_neg (by rintro ⟨-, -, h3⟩; have := h3 k (by omega); simp only [Int.toNat_natCast] at this; rw [← hx, hfu] at this; cases this)])))
              clear hs2 hbel2 hx hy hfx hfu hall ex
              go_wp2_with (first
                | (go_at_call 32; refine HT.out.mono ?_; rintro e w6 ⟨rfl, k6⟩
                   have Q6 := Lib.hid (below_kept HB2.out k6 (fun b e => by omega) (HZ.out _ HB2.out)); clear k6))
              go_ret2
              exact .inr ⟨HBD.out, rfl, by rw [← HG.out]; exact Q6.out⟩
            · have hfu' : f x = false := by simpa using hfu
              have HT := Lib.hid (show Calls Tryd.prog 32 #[.pointer (some ⟨g + 1, 0, none⟩), .int .i64 (x : Int)] wr fun e w' => e = .returned (.int .i64 0) ∧ RSp w' (g + 1) g N (updR f an (k + 1)) ∧ Kept (fun b => b = g) wr w' from by
                rw [takeE, if_neg (by omega), if_neg (by rw [Int.toNat_natCast, hfx, hfu']; simp), takeF, if_neg (by omega), Int.toNat_natCast, hx, ← updR_succ, ← hx] at HT
                exact HT)
              have HB2 := Lib.hid hbel2
              have HX := Lib.hid (And.intro hx (And.intro hall hfu'))
              clear hs2 hbel2 hx hy hfx hfu hfu' hall ex
              go_wp2_with (first
                | (go_at_call 32; refine HT.out.mono ?_; rintro e w6 ⟨rfl, s6, k6⟩
                   have Q6 := Lib.hid (And.intro s6 (below_kept HB2.out k6 (fun b e => by omega) (HZ.out _ HB2.out))); clear s6 k6))
              go_roundw
              case rel => exact ⟨k + 1, by omega, by congr 1; have := HX.out.1; omega, fun k' hk' => by
                by_cases e : k' = k
                · rw [e, ← HX.out.1]; exact HX.out.2.2
                · exact HX.out.2.1 k' (by omega), Q6.out.1, Q6.out.2⟩
              case measure => have := HX.out.1; simp [intOf] <;> omega
          · obtain rfl : k = mn := by omega
            have HE := Lib.hid (And.intro hs2 hbel2)
            have HX := Lib.hid (And.intro hx (And.intro hall hy))
            have hd5 : decide ((x : Int) < (y : Int)) = false := by simp; omega
            have hd6 : decide (x < y) = false := by simp; omega
            clear hs2 hbel2 hx hy hall ex
            go_wp2_with fail
            go_roundw
            case rel => exact ⟨i + 1, updR f an k, by omega, by congr 1; have := HJ.out; omega, Lib.hid (HP1.out.trans (by
              simp only [rstep, Int.toNat_natCast]
              rw [if_pos ⟨HKK.out.2, by have := HKK.out.1; omega, HX.out.2.1⟩])), HE.out.1, HE.out.2⟩
            case measure => have := HJ.out; simp [intOf] <;> omega
      · obtain rfl : i = q := by omega
        have hd : decide ((j : Int) < (n : Int)) = false := by have := HQ.out; simp; omega
        have hd2 : decide (j < n) = false := by have := HQ.out; simp; omega
        obtain ⟨E, hE⟩ : ∃ E, E = enc f N := ⟨_, rfl⟩
        have HE := Lib.hid hE
        have RDW := Lib.hid (show ∀ W, Below g w W → Rd W g (some ⟨b, off, none⟩) l from fun W hW => HR.out.keep fun p hp => hW.cell hp)
        have hcv : ∀ W, Below g w W → (convert 35 9 (.slice (some ⟨b, off, none⟩) n c)).run Tryd.prog W = .ok (.string (bs l)) W := fun W hW => by
          have := conv_str (some ⟨b, off, none⟩) c l W g (RDW.out W hW)
          rw [← HNN.out] at this
          exact this
        have HCV := Lib.hid hcv
        clear hj ej hE hcv
        go_upto_region 19 with fail
        have s0 := HCV.out wr.drew HS.out.2.drew
        refine wp_region_held_drew (S := fun W' => (convert 35 9 (.slice (some ⟨b, off, none⟩) n c)).run Tryd.prog W' = .ok (.string (bs l)) W') (by kernel_rfl) (by exact s0) (fun hHeld => ?_)
        refine takeTo (i := 0) (v := ?_) (some 72) rfl rfl (by kernel_rfl) (by kernel_rfl) (by kernel_rfl) (fun _ _ _ h => h) (Or.inl ⟨by rfl, ?_⟩) (by assumption) ?_
        rotate_left
        · (intro W7 hSw; (try dsimp only at hSw); go_simp; try with_reducible rfl)
        try simp only [Act.put, List.setIfInBounds_toArray, List.set_cons_zero, List.set_cons_succ]
        refine takeTo (i := 3) (v := ?_) (some 75) rfl rfl (by kernel_rfl) (by kernel_rfl) (by kernel_rfl) (fun _ _ _ h => h) (Or.inl ⟨by rfl, ?_⟩) (by assumption) ?_
        rotate_left
        · (intro W7 hSw; (try dsimp only at hSw); go_simp; try with_reducible rfl)
        try simp only [Act.put, List.setIfInBounds_toArray, List.set_cons_zero, List.set_cons_succ]
        refine takeTo (i := 4) (v := ?_) (some 76) rfl rfl (by kernel_rfl) (by kernel_rfl) (by kernel_rfl) (fun _ _ _ h => h) (Or.inl ⟨by rfl, ?_⟩) (by assumption) ?_
        rotate_left
        · (intro W7 hSw; (try dsimp only at hSw); go_simp; try with_reducible rfl)
        try simp only [Act.put, List.setIfInBounds_toArray, List.set_cons_zero, List.set_cons_succ]
        refine wpAnyH_ready (rs := [1]) (by kernel_rfl) (by simp) ?_
        refine AllReadyH.cons rfl (fun K hK => ?_) AllReadyH.nil
        rw [if_pos (by rfl)]
        go_wp2_with fail
        refine (rencode_any (g + 1) g N f wr.drew HS.out.1).mono ?_
        rintro e w3 ⟨A3, c3, r3, q3, rfl, o3, hc3, b3⟩
        obtain rfl : r3 = E := q3.out.trans HE.out.symm
        have B3 := Lib.hid (show Below g w w3 from HS.out.2.drew.trans (b3.mono (HZ.out _ HS.out.2.drew)))
        have O3 := Lib.hid o3
        have BW := Lib.hid (show Below wr.heap.size wr w3 from (Below.refl wr.heap.size wr).drew.trans b3)
        clear b3 o3 hc3 q3
        refine hK.out _ _ (HCV.out _ B3.out) (fun hHeld => ?_)
        clear hK K
        try simp only [Act.put, List.setIfInBounds_toArray, List.set_cons_zero, List.set_cons_succ]
        have hcv3 := conv_str A3 c3 r3 w3 w3.heap.size O3.out.reads
        refine wpAnyH_ready (rs := [2]) (by kernel_rfl) (by simp) ?_
        refine AllReadyH.cons rfl (fun K hK => ?_) AllReadyH.nil
        rw [if_pos (by rfl)]
        go_wp2_with fail
        refine hK.out _ _ (HCV.out _ B3.out) (fun hHeld => ?_)
        clear hK K
        try simp only [Act.put, List.setIfInBounds_toArray, List.set_cons_zero, List.set_cons_succ]
        by_cases hEq : r3 = l
        · have hq1 : ((bs r3).toList == (bs l).toList) = true := by rw [hEq]; simp
          have hq2 : (!((bs r3).toList == (bs l).toList)) = false := by rw [hq1]; rfl
          have HEQ := Lib.hid hEq
          clear hEq
          refine takeTo (i := 5) (v := ?_) (some 77) rfl rfl (by kernel_rfl) (by kernel_rfl) (by kernel_rfl) (fun _ _ _ h => h) (Or.inl ⟨by rfl, ?_⟩) (by assumption) ?_
          rotate_left
          · (intro W7 hSw; (try dsimp only at hSw); go_simp; try with_reducible rfl)
          try simp only [Act.put, List.setIfInBounds_toArray, List.set_cons_zero, List.set_cons_succ]
          refine wpAnyH_done (by kernel_rfl) ?_ _
          go_wp2_with fail
          go_ret2
          refine .inl ⟨f, g + 1, g, (decd_iff h').2 ⟨HE.out.symm.trans HEQ.out, HS.out.1.void⟩, rfl, ?_, ⟨by rw [HG.out]; omega, by rw [HG.out]; exact Nat.le_refl _⟩, by rw [← HG.out]; exact B3.out⟩
          exact HS.out.1.below BW.out
        · have hq1 : ((bs r3).toList == (bs l).toList) = false := by rw [bs_list, bs_list]; simpa using hEq
          have hq2 : (!((bs r3).toList == (bs l).toList)) = true := by rw [hq1]; rfl
          have HEQ := Lib.hid hEq
          clear hEq
          refine takeTo (i := 5) (v := ?_) (some 77) rfl rfl (by kernel_rfl) (by kernel_rfl) (by kernel_rfl) (fun _ _ _ h => h) (Or.inl ⟨by rfl, ?_⟩) (by assumption) ?_
          rotate_left
          · (intro W7 hSw; (try dsimp only at hSw); go_simp; try with_reducible rfl)
          try simp only [Act.put, List.setIfInBounds_toArray, List.set_cons_zero, List.set_cons_succ]
          refine wpAnyH_done (by kernel_rfl) ?_ _
          go_wp2_with fail
          go_ret2
          refine .inr ⟨?_, rfl, by rw [← HG.out]; exact B3.out⟩
          cases hdd : decd N l with
          | none => rfl
          | some f' =>
            have h1 := R_of_decd hdd
            rw [← HNN.out, show n / 8 = i by have := HQ.out; omega, hD.out] at h1
            obtain rfl : f = f' := Option.some.inj h1
            exact absurd (HE.out.trans (enc_of_decd hdd).1) HEQ.out
  · have HD := Lib.hid (show decd N l = none from decd_no fun hf => by have := hf.2.1; omega)
    have d8 : ((n : Int) % 8 != 4) = true := by simp; omega
    clear hn
    go_enter Tryd.func16, Tryd.ntmps16
    go_wp2_with (go_at_call 22; refine HN.out.mono ?_; rintro e w2 ⟨rfl, s2, b2⟩; have Q2 := Lib.hid (And.intro s2 b2); clear s2 b2)
    go_ret2
    exact .inr ⟨HD.out, rfl, by rw [← HG.out]; exact Q2.out.2⟩
end Go.Proofs.YtghakgepchlpgaaDoor
