/- WALK: space.Decode. -/
import Derived.Test.YtghakgepchlpgaaDoorP
namespace Go.Proofs.YtghakgepchlpgaaDoor
open Go.RowKit Spc

/-- are the bytes' length and first number as they must be? -/
def Formed (l : List UInt8) : Prop := 4 ≤ l.length ∧ l.length % 8 = 4 ∧ n4 l 0 = l.length / 8
theorem decd_yes {N : Nat} {l : List UInt8} (h : Formed l) : decd N l = (D N (pairs l (l.length / 8))).map (·.1) := by
  unfold decd; exact if_pos h
theorem decd_no {N : Nat} {l : List UInt8} (h : ¬ Formed l) : decd N l = none := by
  unfold decd; exact if_neg h
/-- Decode's answer -/
def DecPost (w : World) (N : Nat) (l : List UInt8) (e : Ending) (w' : World) : Prop :=
  (∃ f g, decd N l = some f ∧ e = .returned (.tuple #[.pointer (some ⟨g, 0, none⟩), .int .i64 0]) ∧ Sp w' g N f ∧ w.heap.size ≤ g ∧ Below w.heap.size w w') ∨
  (decd N l = none ∧ e = .returned (.tuple #[.pointer none, .int .i64 93]) ∧ Below w.heap.size w w')
theorem decode_bad (A : Option Addr) (n c : Nat) (b : Int) (w : World) (h : b < 16 ∨ 65536 < b) : Calls Tryd.prog 15 #[.int .i64 b, .slice A n c] w fun r w' => r = .returned (.tuple #[.pointer none, .int .i64 1]) ∧ w = w' := by
  have HB := Lib.hid (new_bad b 0 w (by omega))
  clear h
  go_enter Tryd.func15, Tryd.ntmps15
  go_wp2_with (go_at_call 9; refine HB.out.mono ?_; rintro e w2 ⟨rfl, rfl⟩)
  go_ret2
  exact ⟨rfl, rfl⟩
set_option maxHeartbeats 2000000 in
set_option maxRecDepth 100000 in
theorem decode_any (A : Option Addr) (c N : Nat) (l : List UInt8) (w : World) (h : 16 ≤ N) (h' : N ≤ 65536) (hr : Rd w w.heap.size A l) (hlc : l.length ≤ c) (hl : l.length ≤ 9223372036854775807) :
    Calls Tryd.prog 15 #[.int .i64 (N : Int), .slice A l.length c] w (DecPost w N l) := by
  have HN := Lib.hid (show Calls Tryd.prog 9 #[.int .i64 (N : Int), .int .i64 0] w _ from new_ok N 0 w h h' (Nat.zero_le _))
  have HR := Lib.hid hr
  obtain ⟨n, hn⟩ : ∃ n, n = l.length := ⟨_, rfl⟩
  rw [← hn] at hlc hl ⊢
  obtain ⟨g, hg⟩ : ∃ g, g = w.heap.size := ⟨_, rfl⟩
  rw [← hg] at HN HR
  have HG := Lib.hid hg
  have HNN := Lib.hid hn
  clear hr hg
  by_cases h4 : n < 4
  · have HD := Lib.hid (show decd N l = none from decd_no fun hf => by have := hf.1; omega)
    clear hn
    go_enter Tryd.func15, Tryd.ntmps15
    go_wp2_with (go_at_call 9; refine HN.out.mono ?_; rintro e w2 ⟨rfl, s2, b2⟩; have Q2 := Lib.hid (And.intro s2 b2); clear s2 b2)
    go_ret2
    exact .inr ⟨HD.out, rfl, by rw [← HG.out]; exact Q2.out.2⟩
  have d4 : decide ((n : Int) < 4) = false := by simp; omega
  by_cases h8 : n % 8 = 4
  · have d8 : ((n : Int) % 8 != 4) = false := by simp; omega
    obtain ⟨q, hq⟩ : ∃ q, n = 8 * q + 4 := ⟨n / 8, by omega⟩
    have e8 : (n : Int) / 8 = (q : Int) := by omega
    have hq60 : q ≤ 1152921504606846976 := by omega
    obtain ⟨b, off, rfl, hbg, hcl⟩ : ∃ b off, A = some ⟨b, off, none⟩ ∧ b < g ∧ ∀ k, k < n → w.cell? ⟨b, off + k, none⟩ = some (.int .u8 ((l.getD k 0).toNat : Int)) := by
      rcases HR.out with h | ⟨b, off, hA, hb, hc⟩
      · rw [h] at hn; simp at hn; omega
      · exact ⟨b, off, hA, hb, fun k hk => hc k (by omega)⟩
    have HC := Lib.hid (show ∀ W, Below g w W → ∀ k, k < n → W.cell? ⟨b, off + k, none⟩ = some (.int .u8 ((l.getD k 0).toNat : Int)) from fun W hW k hk => (hW.cell (p := ⟨b, off + k, none⟩) hbg).trans (hcl k hk))
    have HQ := Lib.hid hq
    have HZ := Lib.hid (show ∀ W, Below g w W → g ≤ W.heap.size from fun W hW => by have := hW.size; rw [← HG.out] at this; exact this)
    clear hn hcl
    have HNUM := Lib.hid fun (i : Nat) (hi : 4 * i + 4 ≤ n) (W : World) (hW : Below g w W) => number_any b off c n i l W hlc hi hl (HC.out W hW)
    by_cases h0 : n4 l 0 = q
    · have h00 : ((q : Int) != (q : Int)) = false := by simp
      have H0 := Lib.hid h0
      have HF := Lib.hid (show Formed l from ⟨by have := HNN.out; omega, by have := HNN.out; omega, by have := HNN.out; omega⟩)
      clear h0 hq
      go_enter Tryd.func15, Tryd.ntmps15
      go_wp2_with (first
        | (go_at_call 9; refine HN.out.mono ?_; rintro e w2 ⟨rfl, s2, b2⟩; have Q2 := Lib.hid (And.intro s2 b2); clear s2 b2)
        | (go_at_call 30; refine (HNUM.out 0 (by omega) _ Q2.out.2).mono ?_; rintro e w3 ⟨rfl, b3⟩; rw [H0.out]
           have Q3 := Lib.hid (And.intro (Q2.out.1.below b3) (Q2.out.2.trans (b3.mono (by have := Q2.out.2.size; rw [← HG.out] at this; exact this)))); clear b3))
      have HP := Lib.hid (show Sp w3 g N (fun _ => false) ∧ Below g w w3 from ⟨by
        have := Q3.out.1; rw [show first 0 = fun _ => false from funext first_zero] at this; exact this, Q3.out.2⟩)
      clear Q3 Q2 HN H0 h00 d8 e8 d4
      clear w2
      go_loopw [8, 41] (fun fv iv wr => ∃ (i : Nat) (f : Nat → Bool) (free : Int), i ≤ q ∧ iv = .int .i64 (i : Int) ∧ fv = .int .i64 free ∧ Hid (D N (pairs l i) = some (f, free)) ∧ Sp wr g N f ∧ Below g w wr) (fun _ iv _ => q - (intOf iv).toNat)
      case atStart => exact ⟨0, fun _ => false, 0, by omega, rfl, rfl, Lib.hid rfl, HP.out.1, HP.out.2⟩
      case round =>
        obtain ⟨i, f, free, hi, rfl, rfl, hD, hs, hbel⟩ := hrel
        have hds := D_some N _ _ _ hD.out
        have hfr : 0 ≤ free ∧ free ≤ (N : Int) + 1 := ⟨hds.2.1, hds.2.2.1⟩
        obtain ⟨hfr0, hfr1⟩ := hfr
        have HDS := Lib.hid hds
        have HS := Lib.hid (And.intro hs hbel)
        clear hs hbel hds
        by_cases hlt : i < q
        · have hd : decide ((i : Int) < (q : Int)) = true := by simp; omega
          have hd2 : decide (i < q) = true := by simp; omega
          obtain ⟨j1, hj1⟩ : ∃ j1, j1 = 1 + 2 * i := ⟨_, rfl⟩
          obtain ⟨j2, hj2⟩ : ∃ j2, j2 = 2 + 2 * i := ⟨_, rfl⟩
          have e1 : 1 + 2 * (i : Int) = (j1 : Int) := by omega
          have e2 : 2 + 2 * (i : Int) = (j2 : Int) := by omega
          obtain ⟨a, ha⟩ : ∃ a : Int, a = (n4 l j1 : Int) := ⟨_, rfl⟩
          obtain ⟨m, hm⟩ : ∃ m : Int, m = (n4 l j2 : Int) := ⟨_, rfl⟩
          have hal : a < 4294967296 := by rw [ha]; have := n4_lt l j1; omega
          have hml : m < 4294967296 := by rw [hm]; have := n4_lt l j2; omega
          have ha0 : 0 ≤ a := by rw [ha]; omega
          have hm0 : 0 ≤ m := by rw [hm]; omega
          have N1 := Lib.hid (HNUM.out j1 (by have := HQ.out; omega))
          have N2 := Lib.hid (HNUM.out j2 (by have := HQ.out; omega))
          rw [← ha] at N1
          rw [← hm] at N2
          have HP1 := Lib.hid (show D N (pairs l (i + 1)) = Spc.step N (some (f, free)) (a, m) by rw [pairs_succ, D_snoc, hD.out, ha, hm, hj1, hj2])
          have hpm := pairs_more l (i + 1) q (by omega)
          have HPM := Lib.hid hpm
          have hji : (j1 : Int) ≠ (j2 : Int) := by omega
          clear ha hm hj1 hj2 hpm
          by_cases k1 : a < free
          · have d1 : decide (a < free) = true := by simpa using k1
            have HBAD := Lib.hid (show D N (pairs l q) = none by
              obtain ⟨m', hm'⟩ := HPM.out
              rw [hm']; exact D_none _ _ _ (HP1.out.trans (step_bad (by omega))))
            go_wp2_with (first
              | (go_at_call_of 30 (Value.int .i64 (j1 : Int)); refine (N1.out _ HS.out.2).mono ?_; rintro e w4 ⟨rfl, b4⟩
                 have Q4 := Lib.hid (And.intro (HS.out.1.below b4) (HS.out.2.trans (b4.mono (HZ.out _ HS.out.2)))); clear b4)
              | (go_at_call 30; refine (N2.out _ Q4.out.2).mono ?_; rintro e w5 ⟨rfl, b5⟩
                 have Q5 := Lib.hid (And.intro (Q4.out.1.below b5) (Q4.out.2.trans (b5.mono (HZ.out _ Q4.out.2)))); clear b5))
            go_ret2
            refine .inr ⟨?_, rfl, by rw [← HG.out]; exact Q5.out.2⟩
            rw [decd_yes HF.out, ← HNN.out, show n / 8 = q by have := HQ.out; omega, HBAD.out]
            rfl
          have d1 : decide (a < free) = false := by simpa using k1
          by_cases k2 : m < 1
          · have d2 : decide (m < 1) = true := by simpa using k2
            have HBAD := Lib.hid (show D N (pairs l q) = none by
              obtain ⟨m', hm'⟩ := HPM.out
              rw [hm']; exact D_none _ _ _ (HP1.out.trans (step_bad (by omega))))
            go_wp2_with (first
              | (go_at_call_of 30 (Value.int .i64 (j1 : Int)); refine (N1.out _ HS.out.2).mono ?_; rintro e w4 ⟨rfl, b4⟩
                 have Q4 := Lib.hid (And.intro (HS.out.1.below b4) (HS.out.2.trans (b4.mono (HZ.out _ HS.out.2)))); clear b4)
              | (go_at_call 30; refine (N2.out _ Q4.out.2).mono ?_; rintro e w5 ⟨rfl, b5⟩
                 have Q5 := Lib.hid (And.intro (Q4.out.1.below b5) (Q4.out.2.trans (b5.mono (HZ.out _ Q4.out.2)))); clear b5))
            go_ret2
            refine .inr ⟨?_, rfl, by rw [← HG.out]; exact Q5.out.2⟩
            rw [decd_yes HF.out, ← HNN.out, show n / 8 = q by have := HQ.out; omega, HBAD.out]
            rfl
          have d2 : decide (m < 1) = false := by simpa using k2
          by_cases k3 : (N : Int) < a
          · have d3 : decide ((N : Int) < a) = true := by simpa using k3
            have HBAD := Lib.hid (show D N (pairs l q) = none by
              obtain ⟨m', hm'⟩ := HPM.out
              rw [hm']; exact D_none _ _ _ (HP1.out.trans (step_bad (by omega))))
            go_wp2_with (first
              | (go_at_call_of 30 (Value.int .i64 (j1 : Int)); refine (N1.out _ HS.out.2).mono ?_; rintro e w4 ⟨rfl, b4⟩
                 have Q4 := Lib.hid (And.intro (HS.out.1.below b4) (HS.out.2.trans (b4.mono (HZ.out _ HS.out.2)))); clear b4)
              | (go_at_call 30; refine (N2.out _ Q4.out.2).mono ?_; rintro e w5 ⟨rfl, b5⟩
                 have Q5 := Lib.hid (And.intro (Q4.out.1.below b5) (Q4.out.2.trans (b5.mono (HZ.out _ Q4.out.2)))); clear b5))
            go_ret2
            refine .inr ⟨?_, rfl, by rw [← HG.out]; exact Q5.out.2⟩
            rw [decd_yes HF.out, ← HNN.out, show n / 8 = q by have := HQ.out; omega, HBAD.out]
            rfl
          have d3 : decide ((N : Int) < a) = false := by simpa using k3
          by_cases k4 : (N : Int) - a < m
          · have d4 : decide ((N : Int) - a < m) = true := by simpa using k4
            have HBAD := Lib.hid (show D N (pairs l q) = none by
              obtain ⟨m', hm'⟩ := HPM.out
              rw [hm']; exact D_none _ _ _ (HP1.out.trans (step_bad (by omega))))
            go_wp2_with (first
              | (go_at_call_of 30 (Value.int .i64 (j1 : Int)); refine (N1.out _ HS.out.2).mono ?_; rintro e w4 ⟨rfl, b4⟩
                 have Q4 := Lib.hid (And.intro (HS.out.1.below b4) (HS.out.2.trans (b4.mono (HZ.out _ HS.out.2)))); clear b4)
              | (go_at_call 30; refine (N2.out _ Q4.out.2).mono ?_; rintro e w5 ⟨rfl, b5⟩
                 have Q5 := Lib.hid (And.intro (Q4.out.1.below b5) (Q4.out.2.trans (b5.mono (HZ.out _ Q4.out.2)))); clear b5))
            go_ret2
            refine .inr ⟨?_, rfl, by rw [← HG.out]; exact Q5.out.2⟩
            rw [decd_yes HF.out, ← HNN.out, show n / 8 = q by have := HQ.out; omega, HBAD.out]
            rfl
          have d4 : decide ((N : Int) - a < m) = false := by simpa using k4
          have HOK := Lib.hid (HP1.out.trans (step_some (by omega)))
          have HFR := Lib.hid (show ∀ k : Nat, free ≤ (k : Int) + 1 → f k = false from HDS.out.2.2.2.1)
          have HKK := Lib.hid (show free ≤ a ∧ a + m ≤ (N : Int) ∧ 1 ≤ m from ⟨by omega, by omega, by omega⟩)
          clear k1 k2 k3 k4
          go_wp2_with (first
                | (go_at_call_of 30 (Value.int .i64 (j1 : Int)); refine (N1.out _ HS.out.2).mono ?_; rintro e w4 ⟨rfl, b4⟩
                   have Q4 := Lib.hid (And.intro (HS.out.1.below b4) (HS.out.2.trans (b4.mono (HZ.out _ HS.out.2)))); clear b4)
                | (go_at_call 30; refine (N2.out _ Q4.out.2).mono ?_; rintro e w5 ⟨rfl, b5⟩
                   have Q5 := Lib.hid (And.intro (Q4.out.1.below b5) (Q4.out.2.trans (b5.mono (HZ.out _ Q4.out.2)))); clear b5))
          clear d1 d2 d3 d4 hji e1 e2 N1 N2 HP1 HPM
          obtain ⟨an, rfl⟩ : ∃ an : Nat, a = (an : Int) := ⟨a.toNat, by omega⟩
          obtain ⟨mn, rfl⟩ : ∃ mn : Nat, m = (mn : Int) := ⟨m.toNat, by omega⟩
          have HK := Lib.hid (show free ≤ (an : Int) ∧ an + mn ≤ N ∧ 1 ≤ mn from ⟨HKK.out.1, by have := HKK.out.2.1; omega, by have := HKK.out.2.2; omega⟩)
          have HI := Lib.hid (And.intro (show Sp w5 g N (updR f an 0) by rw [updR_zero]; exact Q5.out.1) Q5.out.2)
          clear Q5 Q4
          go_loopw [74] (fun tv wq => ∃ k : Nat, k ≤ mn ∧ tv = .int .i64 (k : Int) ∧ Sp wq g N (updR f an k) ∧ Below g w wq) (fun tv _ => mn - (intOf tv).toNat)
          case atStart => exact ⟨0, by omega, rfl, HI.out.1, HI.out.2⟩
          case round =>
            obtain ⟨k, hk, rfl, hs2, hbel2⟩ := hrel
            by_cases hlt2 : k < mn
            · obtain ⟨x, hx⟩ : ∃ x : Nat, x = an + k := ⟨_, rfl⟩
              have ex : (an : Int) + (k : Int) = (x : Int) := by omega
              have HSS := set_any g N x (updR f an k) _ hs2 (by have := HK.out; omega) (by rw [updR_out f (by omega)]; exact HFR.out x (by have := HK.out; omega))
              rw [hx, ← updR_succ, ← hx] at HSS
              have HSS := Lib.hid HSS
              have HB2 := Lib.hid hbel2
              have hd5 : decide ((k : Int) < (mn : Int)) = true := by simp; omega
              have hd6 : decide (k < mn) = true := by simp; omega
              have HX := Lib.hid hx
              clear hs2 hbel2 hx
              go_wp2_with (go_at_call 27; refine HSS.out.mono ?_; rintro e w6 ⟨rfl, s6, k6⟩
                           have Q6 := Lib.hid (And.intro s6 (below_kept HB2.out k6 (fun b e => by omega) (HZ.out _ HB2.out))); clear s6 k6)
              go_roundw
              case rel => exact ⟨k + 1, by omega, by go_num, Q6.out.1, Q6.out.2⟩
              case measure => simp [intOf]; omega
            · obtain rfl : k = mn := by omega
              have HE := Lib.hid (And.intro hs2 hbel2)
              clear hs2 hbel2
              go_wp2_with fail
              go_roundw
              case rel => exact ⟨i + 1, updR f an k, (an : Int) + k + 1, by omega, by go_num, rfl, HOK, HE.out.1, HE.out.2⟩
              case measure => simp [intOf]; omega
        · obtain rfl : i = q := by omega
          go_wp2_with fail
          go_ret2
          refine .inl ⟨f, g, ?_, rfl, HS.out.1, by rw [HG.out]; exact Nat.le_refl _, by rw [← HG.out]; exact HS.out.2⟩
          rw [decd_yes HF.out, ← HNN.out, show n / 8 = i by have := HQ.out; omega, hD.out]
          rfl
    · have h00 : ((n4 l 0 : Int) != (q : Int)) = true := by simp; omega
      have HF := Lib.hid (show decd N l = none from decd_no fun hf => by have := hf.2.2; have := HNN.out; omega)
      clear h0 hq
      go_enter Tryd.func15, Tryd.ntmps15
      go_wp2_with (first
        | (go_at_call 9; refine HN.out.mono ?_; rintro e w2 ⟨rfl, s2, b2⟩; have Q2 := Lib.hid (And.intro s2 b2); clear s2 b2)
        | (go_at_call 30; refine (HNUM.out 0 (by omega) _ Q2.out.2).mono ?_; rintro e w3 ⟨rfl, b3⟩
           have Q3 := Lib.hid (Q2.out.2.trans (b3.mono (by have := Q2.out.2.size; rw [← HG.out] at this; exact this))); clear b3))
      go_ret2
      exact .inr ⟨HF.out, rfl, by rw [← HG.out]; exact Q3.out⟩
  · have HD := Lib.hid (show decd N l = none from decd_no fun hf => by have := hf.2.1; omega)
    have d8 : ((n : Int) % 8 != 4) = true := by simp; omega
    clear hn
    go_enter Tryd.func15, Tryd.ntmps15
    go_wp2_with (go_at_call 9; refine HN.out.mono ?_; rintro e w2 ⟨rfl, s2, b2⟩; have Q2 := Lib.hid (And.intro s2 b2); clear s2 b2)
    go_ret2
    exact .inr ⟨HD.out, rfl, by rw [← HG.out]; exact Q2.out.2⟩
end Go.Proofs.YtghakgepchlpgaaDoor
