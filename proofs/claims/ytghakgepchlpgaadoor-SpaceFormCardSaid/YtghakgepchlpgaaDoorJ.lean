/- WALK: SpaceForm. -/
import Derived.Test.YtghakgepchlpgaaDoorQ
import Derived.Test.YtghakgepchlpgaaDoorO
namespace Go.Proofs.YtghakgepchlpgaaDoor
open Go.RowKit Spc

/-- the first j used, the others as f tells -/
def mixF (f : Nat → Bool) (j : Nat) : Nat → Bool := fun n => if n < j then true else f n
theorem mixF_all (f : Nat → Bool) (N : Nat) (h : ∀ n, N ≤ n → f n = false) : mixF f N = first N := by
  funext n; unfold mixF first
  by_cases e : n < N
  · rw [if_pos e]; simp [e]
  · rw [if_neg e, h n (by omega)]; simp [e]
theorem mixF_zero (f : Nat → Bool) : mixF f 0 = f := by
  funext n; unfold mixF; rw [if_neg (by omega)]
theorem mixF_at (f : Nat → Bool) (k : Nat) : mixF f (k + 1) k = true := by unfold mixF; rw [if_pos (by omega)]
theorem mixF_yes (f : Nat → Bool) (k : Nat) (h : f k = true) : mixF f (k + 1) = mixF f k := by
  funext n; unfold mixF
  by_cases e : n < k
  · rw [if_pos e, if_pos (by omega)]
  · rw [if_neg e]
    by_cases e2 : n = k
    · subst e2; rw [if_pos (by omega), h]
    · rw [if_neg (by omega)]
theorem mixF_no (f : Nat → Bool) (k : Nat) (h : f k = false) : upd (mixF f (k + 1)) k false = mixF f k := by
  funext n
  show (if n = k then false else if n < k + 1 then true else f n) = if n < k then true else f n
  by_cases e : n = k
  · subst e; rw [if_pos rfl, if_neg (by omega), h]
  · rw [if_neg e]
    by_cases e2 : n < k
    · rw [if_pos e2, if_pos (by omega)]
    · rw [if_neg e2, if_neg (by omega)]
/-- Encode, and what its bytes are as a string -/
theorem encode_str (g N : Nat) (f : Nat → Bool) (E : List UInt8) (w : World) (h : Sp w g N f) (hE : E = enc f N) :
    Calls Tryd.prog 21 #[.pointer (some ⟨g, 0, none⟩)] w fun e w' => ∃ A c, e = .returned (.slice A E.length c) ∧ E.length ≤ c ∧ Rd w' w'.heap.size A E ∧
      (∀ W, Below w'.heap.size w' W → (convert 35 9 (.slice A E.length c)).run Tryd.prog W = .ok (.string (bs E)) W) ∧ Below w.heap.size w w' := by
  refine (encode_any g N f w h).mono ?_
  rintro e w' ⟨A, c, r, q, rfl, o, hc, b⟩
  obtain rfl : r = E := q.out.trans hE.symm
  exact ⟨A, c, rfl, hc, o.reads, fun W hW => conv_str A c r W w'.heap.size (o.reads.below hW (Nat.le_refl _)), b⟩
theorem decode_yes (A : Option Addr) (c N : Nat) (l : List UInt8) (f : Nat → Bool) (w : World) (h : 16 ≤ N) (h' : N ≤ 65536) (hr : Rd w w.heap.size A l) (hlc : l.length ≤ c) (hl : l.length ≤ 9223372036854775807) (hd : decd N l = some f) :
    Calls Tryd.prog 15 #[.int .i64 (N : Int), .slice A l.length c] w fun e w' => ∃ g, e = .returned (.tuple #[.pointer (some ⟨g, 0, none⟩), .int .i64 0]) ∧ Sp w' g N f ∧ w.heap.size ≤ g ∧ Below w.heap.size w w' := by
  refine (decode_any A c N l w h h' hr hlc hl).mono ?_
  rintro e w' (⟨f', g, h1, rfl, h3, h4, h5⟩ | ⟨h1, -⟩)
  · obtain rfl : f' = f := Option.some.inj (h1.symm.trans hd)
    exact ⟨g, rfl, h3, h4, h5⟩
  · rw [hd] at h1; cases h1
set_option maxRecDepth 100000 in
theorem form_bad (A : Option Addr) (c : Nat) (b : Int) (n : Nat) (w : World) (hT : Tab w) (h : b < 16 ∨ 65536 < b) :
    Calls Tryd.prog 6 #[.int .i64 b, .slice A n c] w fun e w' => e = .returned (.bool true) ∧ Below w.heap.size w w' := by
  have HA := Lib.hid (alive_true w hT)
  have HB := Lib.hid fun W => new_bad b 0 W (by omega)
  have HB2 := Lib.hid fun W => new_bad b b W (by rcases h with h | h; exact .inl h; exact .inr (.inl h))
  clear h
  go_enter Tryd.func6, Tryd.ntmps6
  go_wp2_with (first
    | (go_at_call 8; refine HA.out.mono ?_; rintro e w1 ⟨rfl, b1⟩; have B1 := Lib.hid b1; clear b1)
    | (go_at_call_of 9 (Value.int .i64 0); refine (HB.out _).mono ?_; rintro e w2 ⟨rfl, rfl⟩)
    | (go_at_call 9; refine (HB2.out _).mono ?_; rintro e w2 ⟨rfl, rfl⟩))
  go_ret
  exact ⟨rfl, B1.out⟩
set_option maxHeartbeats 4000000 in
set_option maxRecDepth 100000 in
theorem form_good (A : Option Addr) (c N : Nat) (l : List Int) (w : World) (hT : Tab w) (hr : RdI w w.heap.size A l) (hl : l.length ≤ 9223372036854775807) (h : 16 ≤ N) (h' : N ≤ 65536) :
    Calls Tryd.prog 6 #[.int .i64 (N : Int), .slice A l.length c] w fun e w' => e = .returned (.bool true) ∧ Below w.heap.size w w' := by
  have HA := Lib.hid (alive_true w hT)
  have HN0 := Lib.hid fun W => (show Calls Tryd.prog 9 #[.int .i64 (N : Int), .int .i64 0] W _ from new_ok N 0 W h h' (Nat.zero_le _))
  have HNN := Lib.hid fun W => new_ok N N W h h' (Nat.le_refl _)
  have HT := Lib.hid hT
  have HR := Lib.hid hr
  have HP := Lib.hid hT.pos
  obtain ⟨g0, hg0⟩ : ∃ g0, g0 = w.heap.size := ⟨_, rfl⟩
  rw [← hg0] at HP
  have HG := Lib.hid hg0
  have hN0 : (N : Int) ≠ 0 := by omega
  clear hT hr hg0
  go_enter Tryd.func6, Tryd.ntmps6
  go_wp2_with (first
    | (go_at_call 8; refine HA.out.mono ?_; rintro e w1 ⟨rfl, b1⟩; have B1 := Lib.hid b1; clear b1)
    | (go_at_call_of 9 (Value.int .i64 0); refine (HN0.out _).mono ?_; rintro e w2 ⟨rfl, s2, b2⟩
       obtain ⟨ga, hga⟩ : ∃ ga, ga = w1.heap.size := ⟨_, rfl⟩
       rw [← hga] at s2 ⊢
       have Q2 := Lib.hid (And.intro s2 (And.intro (B1.out.trans (b2.mono B1.out.size)) (show w.heap.size ≤ ga by rw [hga]; exact B1.out.size)))
       clear s2 b2 hga)
    | (go_at_call 9; refine (HNN.out _).mono ?_; rintro e w3 ⟨rfl, s3, b3⟩
       obtain ⟨gb, hgb⟩ : ∃ gb, gb = w2.heap.size := ⟨_, rfl⟩
       have hab : ga < gb := by rw [hgb]; exact Q2.out.1.lt
       have Q3 := Lib.hid (And.intro (Q2.out.1.below b3) (And.intro (show Sp w3 gb N (first N) by rw [hgb]; exact s3) (Q2.out.2.1.trans (b3.mono Q2.out.2.1.size))))
       rw [← hgb]
       clear s3 b3 hgb))
  have hga : g0 ≤ ga := by rw [HG.out]; exact Q2.out.2.2
  have hgb : g0 ≤ gb := by omega
  clear HN0 HNN HA B1 Q2
  clear w2 w1
  go_loopw [10] (fun iv wr => ∃ (i : Nat) (f : Nat → Bool), i ≤ l.length ∧ iv = .int .i64 (i : Int) ∧ Sp wr ga N f ∧ Sp wr gb N (first N) ∧ Below w.heap.size w wr) (fun iv _ => l.length - (intOf iv).toNat)
  case atStart => exact ⟨0, first 0, by omega, rfl, Q3.out.1, Q3.out.2.1, Q3.out.2.2⟩
  case round =>
    obtain ⟨i, f, hi, rfl, hs, hs2, hbel⟩ := hrel
    have HS := Lib.hid (And.intro hs (And.intro hs2 hbel))
    clear hs hs2 hbel
    by_cases hlt : i < l.length
    · obtain ⟨b, off, rfl, hbw, hcells⟩ : ∃ b off, A = some ⟨b, off, none⟩ ∧ b < w.heap.size ∧ ∀ k, k < l.length → w.cell? ⟨b, off + k, none⟩ = some (.int .i64 (l.getD k 0)) := by
        rcases HR.out with h | h
        · rw [h] at hlt; simp at hlt
        · exact h
      have hcz := (HS.out.2.2.cell (p := ⟨b, off + i, none⟩) hbw).trans (hcells i hlt)
      obtain ⟨z, hz⟩ : ∃ z, z = l.getD i 0 := ⟨_, rfl⟩
      rw [← hz] at hcz
      have hd : decide ((i : Int) < (l.length : Int)) = true := by simp; omega
      have hd2 : decide (i < l.length) = true := by simp; omega
      have HTK := Lib.hid (take_any ga N z f wr HS.out.1)
      clear hcells hz
      go_wp2_with (go_at_call 20; refine HTK.out.mono ?_; rintro e w5 ⟨rfl, s5, k5⟩
                   have Q5 := Lib.hid (And.intro s5 (And.intro (HS.out.2.1.kept k5 (by omega)) (below_kept HS.out.2.2 k5 (fun b e => by have := HG.out; omega) HS.out.2.2.size)))
                   clear s5 k5)
      go_roundw
      case rel => exact ⟨i + 1, takeF f N z, by omega, by go_num, Q5.out.1, Q5.out.2.1, Q5.out.2.2⟩
      case measure => simp [intOf] <;> omega
    · obtain rfl : i = l.length := by omega
      clear Q3 w3
      have HF0 := Lib.hid HS.out.1.none
      go_wp2_with fail
      go_loopw [11] (fun iv wr => ∃ j : Nat, j ≤ N ∧ iv = .int .i64 ((j : Int) - 1) ∧ Sp wr ga N f ∧ Sp wr gb N (mixF f j) ∧ Below w.heap.size w wr) (fun iv _ => (intOf iv + 1).toNat)
      case atStart => exact ⟨N, by omega, rfl, HS.out.1, by rw [mixF_all f N HF0.out]; exact HS.out.2.1, HS.out.2.2⟩
      case round =>
        clear HS
        obtain ⟨j, hj, rfl, hs, hs2, hbel⟩ := hrel
        have HS := Lib.hid (And.intro hs (And.intro hs2 hbel))
        clear hs hs2 hbel
        by_cases hj0 : 0 < j
        · obtain ⟨k, rfl⟩ : ∃ k, j = k + 1 := ⟨j - 1, by omega⟩
          have ek : ((k + 1 : Nat) : Int) - 1 = (k : Int) := by omega
          rw [ek]
          have HH := Lib.hid (has_any ga N (k : Int) f wr HS.out.1)
          by_cases hfk : f k = true
          · have H1 := Lib.hid ((hasB_nat f k).trans hfk)
            have H2 := Lib.hid (mixF_yes f k hfk)
            clear hfk
            go_wp2_with (go_at_call 11; refine HH.out.mono ?_; rintro e w5 ⟨rfl, rfl⟩; rw [H1.out])
            go_roundw
            case rel => exact ⟨k, by omega, by go_num, HS.out.1, by rw [← H2.out]; exact HS.out.2.1, HS.out.2.2⟩
            case measure => simp [intOf] <;> omega
          · have hfk' : f k = false := by simpa using hfk
            have H1 := Lib.hid ((hasB_nat f k).trans hfk')
            have H2 := Lib.hid (mixF_no f k hfk')
            have HFR := Lib.hid (show Calls Tryd.prog 12 #[.pointer (some ⟨gb, 0, none⟩), .int .i64 (k : Int)] wr fun e w' => e = .returned (.int .i64 0) ∧ Sp w' gb N (mixF f k) ∧ Kept (fun b => b = gb) wr w' from by
              have := free_any gb N (k : Int) (mixF f (k + 1)) wr HS.out.2.1
              rw [freeE, if_neg (by omega), if_pos (by simpa using mixF_at f k), freeF, if_neg (by omega), show (k : Int).toNat = k from rfl, H2.out] at this; exact this)
            clear hfk hfk'
            go_wp2_with (first
              | (go_at_call 11; refine HH.out.mono ?_; rintro e w5 ⟨rfl, rfl⟩; rw [H1.out])
              | (go_at_call 12; refine HFR.out.mono ?_; rintro e w5 ⟨rfl, s5, k5⟩
                 have Q5 := Lib.hid (And.intro (HS.out.1.kept k5 (by omega)) (And.intro s5 (below_kept HS.out.2.2 k5 (fun b e => by have := HG.out; omega) HS.out.2.2.size)))
                 clear s5 k5))
            go_roundw
            case rel => exact ⟨k, by omega, by go_num, Q5.out.1, Q5.out.2.1, Q5.out.2.2⟩
            case measure => simp [intOf] <;> omega
        · obtain rfl : j = 0 := by omega
          rw [mixF_zero] at HS
          rw [show ((0 : Nat) : Int) - 1 = -1 from rfl]
          obtain ⟨E, hE⟩ : ∃ E, E = enc f N := ⟨_, rfl⟩
          have HE := Lib.hid hE
          have HD := Lib.hid (show decd N E = some f by rw [hE]; exact decd_of_enc h' HF0.out)
          have hEl : E.length ≤ 600000 := by rw [hE, enc_len]; have := runs_len f N; omega
          clear hE
          obtain ⟨g1, hg1⟩ : ∃ g1, g1 = wr.heap.size := ⟨_, rfl⟩
          have hag : ga < g1 := by rw [hg1]; exact HS.out.1.lt
          have hbg : gb < g1 := by rw [hg1]; exact HS.out.2.1.lt
          have H0 := Lib.hid (show Sp wr ga N f ∧ Sp wr gb N f ∧ Below g1 wr wr from ⟨HS.out.1, HS.out.2.1, Below.refl _ _⟩)
          have HZ := Lib.hid (show ∀ W, Below g1 wr W → g1 ≤ W.heap.size from fun W hW => by rw [hg1]; exact hW.size)
          have HSP := Lib.hid (show ∀ W, Below g1 wr W → Sp W ga N f ∧ Sp W gb N f from fun W hW => ⟨HS.out.1.below (by rw [← hg1]; exact hW), HS.out.2.1.below (by rw [← hg1]; exact hW)⟩)
          have HW := Lib.hid (And.intro HS.out.2.2 hg1)
          clear HS hg1
          go_wp2_with fail
          refine (encode_str ga N f E wr ((HSP.out _ (Below.refl _ _)).1) HE.out).mono ?_
          rintro e w5 ⟨A5, c5, rfl, hc5, r5, k5, b5⟩
          have Q5 := Lib.hid (show Below g1 wr w5 from (Below.refl g1 wr).trans (b5.mono (HZ.out _ (Below.refl g1 wr))))
          have k50 := k5 w5 (Below.refl _ _)
          have R5 := Lib.hid (And.intro hc5 r5)
          clear k5 r5 b5 hc5
          go_wp2_with fail
          refine (encode_str ga N f E w5 ((HSP.out _ Q5.out).1) HE.out).mono ?_
          rintro e w6 ⟨A6, c6, rfl, hc6, r6, k6, b6⟩
          have Q6 := Lib.hid (show Below g1 wr w6 from Q5.out.trans (b6.mono (HZ.out _ Q5.out)))
          have k60 := k6 w6 (Below.refl _ _)
          have R6 := Lib.hid (And.intro hc6 r6)
          clear k6 r6 b6 hc6
          go_wp2_with fail
          refine (decode_yes A6 c6 N E f w6 h h' R6.out.2 R6.out.1 (by omega) HD.out).mono ?_
          rintro e w7 ⟨g3, rfl, s7, hg3, b7⟩
          have hg13 : g1 ≤ g3 := Nat.le_trans (HZ.out _ Q6.out) hg3
          have Q7 := Lib.hid (show Below g1 wr w7 from Q6.out.trans (b7.mono (HZ.out _ Q6.out)))
          have S7 := Lib.hid s7
          clear s7 b7 hg3
          go_wp2_with fail
          refine (encode_str gb N f E w7 ((HSP.out _ Q7.out).2) HE.out).mono ?_
          rintro e w8 ⟨A8, c8, rfl, hc8, r8, k8, b8⟩
          have Q8 := Lib.hid (show Below g1 wr w8 from Q7.out.trans (b8.mono (HZ.out _ Q7.out)))
          have k80 := k8 w8 (Below.refl _ _)
          have R8 := Lib.hid (And.intro hc8 r8)
          have S8 := Lib.hid (S7.out.below b8)
          clear k8 r8 b8 hc8
          go_wp2_with fail
          refine (encode_str g3 N f E w8 S8.out HE.out).mono ?_
          rintro e w9 ⟨A9, c9, rfl, hc9, r9, k9, b9⟩
          have Q9 := Lib.hid (show Below g1 wr w9 from Q8.out.trans (b9.mono (HZ.out _ Q8.out)))
          have k90 := k9 w9 (Below.refl _ _)
          have S9 := Lib.hid (And.intro (HSP.out _ Q9.out) (S8.out.below b9))
          clear k9 r9 b9 hc9 S8 S7 R5 R6 R8
          go_wp2_with fail
          have HF := Lib.hid (show Sp w9 ga N f ∧ Sp w9 gb N f ∧ Sp w9 g3 N f ∧ Below w.heap.size w w9 from ⟨S9.out.1.1, S9.out.1.2, S9.out.2, HW.out.1.trans (Q9.out.mono (by rw [HW.out.2]; exact HW.out.1.size))⟩)
          have hwa : w.heap.size ≤ ga := by rw [← HG.out]; exact hga
          clear S9 Q9 Q8 Q7 Q6 Q5 HD HE H0 HZ HSP HW hEl k50 k60 k80 k90
          go_loopw [15] (fun iv wr => ∃ (i : Nat) (f : Nat → Bool), i ≤ 3 ∧ iv = .int .i64 (i : Int) ∧ Sp wr ga N f ∧ Sp wr gb N f ∧ Sp wr g3 N f ∧ Below w.heap.size w wr) (fun iv _ => 3 - (intOf iv).toNat)
          case atStart => exact ⟨0, f, by omega, rfl, HF.out⟩
          case round =>
            clear HF
            obtain ⟨i, f, hi, rfl, hs1, hs2, hs3, hbel⟩ := hrel
            have HS := Lib.hid (And.intro hs1 (And.intro hs2 (And.intro hs3 hbel)))
            clear hs1 hs2 hs3 hbel
            by_cases hlt : i < 3
            · have hd : decide ((i : Int) < 3) = true := by simp; omega
              have hd2 : decide (i < 3) = true := by simp; omega
              rcases least_or f N with ⟨m, hm⟩ | hfull
              · have HM := Lib.hid hm
                clear hm
                go_wp2_with fail
                refine (alloc_least ga N m f wr HS.out.1 (HT.out.below HS.out.2.2.2 (by rw [← HG.out]; exact HP.out)) HM.out).mono ?_
                rintro e w1 ⟨rfl, s1, k1⟩
                have HS1 := Lib.hid (And.intro s1 (And.intro (HS.out.2.1.kept k1 (by omega)) (And.intro (HS.out.2.2.1.kept k1 (by omega)) (below_kept HS.out.2.2.2 k1 (fun b e => by omega) HS.out.2.2.2.size))))
                clear s1 k1
                go_wp2_with fail
                refine (alloc_least gb N m f w1 HS1.out.2.1 (HT.out.below HS1.out.2.2.2 (by rw [← HG.out]; exact HP.out)) HM.out).mono ?_
                rintro e w2 ⟨rfl, s2, k2⟩
                have HS2 := Lib.hid (And.intro (HS1.out.1.kept k2 (by omega)) (And.intro s2 (And.intro (HS1.out.2.2.1.kept k2 (by omega)) (below_kept HS1.out.2.2.2 k2 (fun b e => by omega) HS1.out.2.2.2.size))))
                clear s2 k2
                go_wp2_with fail
                refine (alloc_least g3 N m f w2 HS2.out.2.2.1 (HT.out.below HS2.out.2.2.2 (by rw [← HG.out]; exact HP.out)) HM.out).mono ?_
                rintro e w4 ⟨rfl, s4, k4⟩
                have HS4 := Lib.hid (And.intro (HS2.out.1.kept k4 (by omega)) (And.intro (HS2.out.2.1.kept k4 (by omega)) (And.intro s4 (below_kept HS2.out.2.2.2 k4 (fun b e => by omega) HS2.out.2.2.2.size))))
                clear s4 k4
                go_wp2_with fail
                go_roundw
                case rel => exact ⟨i + 1, upd f m true, by omega, by go_num, HS4.out⟩
                case measure => simp [intOf] <;> omega
              · have HM := Lib.hid hfull
                clear hfull
                go_wp2_with fail
                refine (alloc_full ga N f wr HS.out.1 (HT.out.below HS.out.2.2.2 (by rw [← HG.out]; exact HP.out)) HM.out).mono ?_
                rintro e w1 ⟨rfl, rfl⟩
                go_wp2_with fail
                refine (alloc_full gb N f wr HS.out.2.1 (HT.out.below HS.out.2.2.2 (by rw [← HG.out]; exact HP.out)) HM.out).mono ?_
                rintro e w2 ⟨rfl, rfl⟩
                go_wp2_with fail
                refine (alloc_full g3 N f wr HS.out.2.2.1 (HT.out.below HS.out.2.2.2 (by rw [← HG.out]; exact HP.out)) HM.out).mono ?_
                rintro e w4 ⟨rfl, rfl⟩
                go_wp2_with fail
                go_roundw
                case rel => exact ⟨i + 1, f, by omega, by go_num, HS.out⟩
                case measure => simp [intOf] <;> omega
            · obtain rfl : i = 3 := by omega
              obtain ⟨E, hE⟩ : ∃ E, E = enc f N := ⟨_, rfl⟩
              obtain ⟨g4, hg4⟩ : ∃ g4, g4 = wr.heap.size := ⟨_, rfl⟩
              have HC : Hid (∀ W, Below g4 wr W → Sp W ga N f ∧ Sp W gb N f ∧ Sp W g3 N f ∧ g4 ≤ W.heap.size) := Lib.hid fun W hW => by
                have hW' := hW
                rw [hg4] at hW'
                exact ⟨HS.out.1.below hW', HS.out.2.1.below hW', HS.out.2.2.1.below hW', by rw [hg4]; exact hW.size⟩
              have HE := Lib.hid hE
              have HW := Lib.hid (And.intro HS.out.2.2.2 hg4)
              clear hE hg4 HS
              go_wp2_with fail
              have Q0 := Lib.hid (show Below g4 wr wr.drew from (Below.refl g4 wr).drew)
              go_region_with (first
                | (go_at_call_of 21 (Value.pointer (some ⟨g3, 0, none⟩))
                   refine (encode_str g3 N f E _ (HC.out _ Q3.out).2.2.1 HE.out).mono ?_
                   rintro e w4 ⟨A4, c4, rfl, hc4, r4, k4, b4⟩
                   have Q4 := Lib.hid (show Below g4 wr w4 from Q3.out.trans (b4.mono (HC.out _ Q3.out).2.2.2))
                   have k30 := K3.out w4 (b4.mono (Nat.le_refl _))
                   have k40 := k4 w4 (Below.refl _ _)
                   clear k4 r4 b4 hc4)
                | (go_at_call_of 21 (Value.pointer (some ⟨gb, 0, none⟩))
                   refine (encode_str gb N f E _ (HC.out _ Q1.out).2.1 HE.out).mono ?_
                   rintro e w2 ⟨A2, c2, rfl, hc2, r2, k2, b2⟩
                   have Q2 := Lib.hid (show Below g4 wr w2 from Q1.out.trans (b2.mono (HC.out _ Q1.out).2.2.2))
                   have k10 := K1.out w2 (b2.mono (Nat.le_refl _))
                   have k20 := k2 w2 (Below.refl _ _)
                   clear k2 r2 b2 hc2)
                | (go_at_call_of 21 (Value.pointer (some ⟨ga, 0, none⟩))
                   refine (encode_str ga N f E _ (HC.out _ Q2.out).1 HE.out).mono ?_
                   rintro e w3 ⟨A3, c3, rfl, hc3, r3, k3, b3⟩
                   have Q3 := Lib.hid (show Below g4 wr w3 from Q2.out.trans (b3.mono (HC.out _ Q2.out).2.2.2))
                   have k30 := k3 w3 (Below.refl _ _)
                   have K3 := Lib.hid k3
                   clear k3 r3 b3 hc3)
                | (go_at_call_of 21 (Value.pointer (some ⟨ga, 0, none⟩))
                   refine (encode_str ga N f E _ (HC.out _ Q0.out).1 HE.out).mono ?_
                   rintro e w1 ⟨A1, c1, rfl, hc1, r1, k1, b1⟩
                   have Q1 := Lib.hid (show Below g4 wr w1 from Q0.out.trans (b1.mono (HC.out _ Q0.out).2.2.2))
                   have k10 := k1 w1 (Below.refl _ _)
                   have K1 := Lib.hid k1
                   clear k1 r1 b1 hc1))
              all_goals
                go_wp2_with fail
                go_ret
                exact ⟨rfl, HW.out.1.trans (Q4.out.mono (by rw [HW.out.2]; exact HW.out.1.size))⟩
theorem spaceForm_walk (A : Option Addr) (c : Nat) (a : Int) (l : List Int) (w : World) (hT : Tab w) (hr : RdI w w.heap.size A l) (hl : l.length ≤ maxLen) :
    Calls Tryd.prog 6 #[.int .i64 a, .slice A l.length c] w fun e w' => e = .returned (.bool true) ∧ Below w.heap.size w w' := by
  by_cases h : a < 16 ∨ 65536 < a
  · exact form_bad A c a l.length w hT h
  · obtain ⟨N, rfl⟩ : ∃ N : Nat, a = (N : Int) := ⟨a.toNat, by omega⟩
    exact form_good A c N l w hT hr (by unfold maxLen at hl; omega) (by omega) (by omega)
end Go.Proofs.YtghakgepchlpgaaDoor
