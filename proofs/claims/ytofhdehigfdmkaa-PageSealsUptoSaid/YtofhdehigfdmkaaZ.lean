/- THE WALK OF PageTurned. -/
import Derived.Test.YtofhdehigfdmkaaX
import Derived.Test.YtofhdehigfdmkaaMath4
namespace Go.Proofs.Ytofhdehigfdmkaa
open Go.RowKit
theorem bs_list (l : List UInt8) : (bs l).toList = l := ByteArray.toList_mk l
set_option maxHeartbeats 1000000 in
set_option maxRecDepth 100000 in
theorem pageTurned_walk (A : Option Addr) (c : Nat) (s k m at_ : Int) (gen : Nat) (run : BitVec 64) (l : List UInt8) (w : World) (hr : Rd w w.heap.size A l) (hlc : l.length ≤ c) (hl : l.length ≤ 9223372036854775807)
    (hs : -9223372036854775808 ≤ s ∧ s ≤ 9223372036854775807) (hk : -9223372036854775808 ≤ k ∧ k ≤ 9223372036854775807) (hm : -9223372036854775808 ≤ m ∧ m ≤ 9223372036854775807) (hat : -9223372036854775808 ≤ at_ ∧ at_ ≤ 9223372036854775807) (hg : gen < 18446744073709551616) :
    Calls Try.prog 14 #[.int .i64 s, .agg #[.int .i64 k, .int .i64 m, .int .u64 (gen : Int)], .slice A l.length c, .int .i64 at_, .int .u64 (run.toNat : Int)] w fun e w' => e = .returned (.bool true) ∧ Below w.heap.size w w' := by
  have HM := Lib.hid (fun W => may3_any A c l.length s k m (gen : Int) W hs hk hm hlc hl)
  obtain ⟨M, hM⟩ : ∃ M, M = min l.length (sizeN s - 32) := ⟨_, rfl⟩
  have FI : Page.Fits (sizeN s) (kindN k) (numN m) gen (l.take M) := ⟨sizeN_sized s, (kindN_in k).1, (kindN_in k).2, numN_in m, hg, by rw [List.length_take]; omega⟩
  have LM : M = (l.take M).length := by rw [List.length_take]; omega
  have HR := Lib.hid (fun (W : World) (h : Below w.heap.size w W) => (hr.below h (Nat.le_refl _)).take M)
  rw [← hM] at HM
  obtain ⟨g1, g2⟩ := Page.sized_512 (sizeN_sized s)
  have HP := Lib.hid (fun W => pick3_any at_ (8 * (sizeN s : Int)) (by omega) W hat.1 hat.2)
  obtain ⟨p1, p2⟩ := pickN_in at_ (8 * (sizeN s : Int)) (by omega)
  obtain ⟨f, hf⟩ : ∃ f : Nat, pickN at_ (8 * (sizeN s : Int)) = (f : Int) := ⟨(pickN at_ (8 * (sizeN s : Int))).toNat, (Int.toNat_of_nonneg p1).symm⟩
  rw [hf] at HP p1 p2
  clear hf
  generalize sizeN s = S at *
  generalize kindN k = KK at *
  generalize numN m = NN at *
  generalize l.take M = p at *
  have HF := Lib.hid FI
  have HL := Lib.hid LM
  obtain ⟨n, hn⟩ : ∃ n, n = l.length := ⟨_, rfl⟩
  rw [← hn] at HM ⊢
  clear FI LM hs hk hm hM hr hn hlc hl hat
  go_enter Try.func14, Try.ntmps14
  go_wp2_with fail
  refine (alive_true _).mono ?_
  rintro e w2 ⟨rfl, b2⟩
  have B2 := Lib.hid (((Below.refl w.heap.size w).alloc (Nat.le_refl _) (.cells #[.int .i64 k, .int .i64 m, .int .u64 (gen : Int)] 39)).trans (b2.mono (by simp)))
  have K2 := Lib.hid ((Blk.new w 39 #[.int .i64 k, .int .i64 m, .int .u64 (gen : Int)]).below b2 (by simp))
  clear b2
  go_wp2_with (refine wpList_load_row rfl 39 _ rfl _ rfl 39 _ (0, 0) _ K2.out Try.underlying39 rfl (by rw [info39]; rfl) ?_)
  refine (HM.out _).mono ?_
  rintro e w3 ⟨rfl, b3⟩
  have B3 := Lib.hid ((B2.out.trans (b3.mono B2.out.size)).alloc (B2.out.trans (b3.mono B2.out.size)).size (.cells #[.int .i64 (KK : Int), .int .i64 (NN : Int), .int .u64 (gen : Int)] 39))
  have K3 := Lib.hid (Blk.new w3 39 #[.int .i64 (KK : Int), .int .i64 (NN : Int), .int .u64 (gen : Int)])
  clear b3 K2 B2 HM
  go_wp2_with (refine wpList_load_row rfl 39 _ rfl _ rfl 39 _ (0, 0) _ K3.out Try.underlying39 rfl (by rw [info39]; rfl) ?_)
  obtain ⟨hx, hhx⟩ : ∃ x, x = w3.heap.size := ⟨_, rfl⟩
  rw [← hhx] at K3 ⊢
  generalize World.alloc w3 _ = W3 at B3 K3 ⊢
  clear hhx w3
  refine (seal_ok A c S KK NN gen M p W3 HF.out HL.out.symm ((HR.out W3 B3.out).mono B3.out.size)).mono ?_
  rintro e w4 ⟨g, rfl, hg0, hgb, b4⟩
  have B4 := Lib.hid (B3.out.trans (b4.mono B3.out.size))
  have K4 := Lib.hid (K3.out.below b4 K3.out.lt)
  have G4 := Lib.hid hgb
  obtain ⟨pl, hpl⟩ : ∃ pl, pl = Page.pageL S KK NN gen p := ⟨_, rfl⟩
  have HPL := Lib.hid hpl
  have hll : pl.length = S := by rw [hpl]; exact Page.pageL_length _ _ _ _ _
  have HLL := Lib.hid hll
  have R4 := Lib.hid (show Rd w4 w4.heap.size (some ⟨g, 0, none⟩) pl from Rd.of_byF _ hgb (by omega) (fun i hi => by rw [hpl, Page.pageL, Page.rl_get _ _ _ (by omega)]) hgb.lt)
  clear b4 hgb hg0 K3 B3 hpl hll
  have BA := Lib.hid ((Below.refl w4.heap.size w4).alloc (Nat.le_refl _) (.cells #[] 5))
  go_wp2_with (first
    | (at_builtin; refine wpList_append_bytes rfl (.tmp 51) (.tmp 52) rfl w4.heap.size _ [] pl rfl (Owns.fresh w4 w4.heap.size (Nat.le_refl _)) w4.heap.size (some ⟨g, 0, none⟩) S (by rw [HLL.out]; rfl) (R4.out.below BA.out (Nat.le_refl _)) (by rw [HLL.out]; simp; omega) BA.out.size ?_
       intro A5 c5 w5 r5 q5 rc5 o5 g5
       have C5 := Lib.hid (Below.grew BA.out g5 BA.out.size (Owns.from_ (Owns.fresh w4 w4.heap.size (Nat.le_refl _))))
       have O5 := Lib.hid o5
       have Q5 := Lib.hid (show r5 = pl from q5.out)
       have L5 := Lib.hid (show r5.length = S by rw [Q5.out, HLL.out])
       have CC5 := Lib.hid rc5
       clear g5 o5 BA q5 rc5))
  obtain ⟨gc, hgc⟩ := O5.out.some_ (by intro h; have := L5.out; rw [h] at this; simp at this; omega)
  subst hgc
  have O6 := Lib.hid (show Owns w5 w4.heap.size (.slice (some ⟨gc, 0, none⟩) S c5) pl by have h1 := O5.out; rw [L5.out] at h1; rw [Q5.out] at h1; exact h1)
  have hc5 : S ≤ c5 := by have := CC5.out; rw [L5.out] at this; exact this
  have L6 := L5.out
  rw [L6]
  clear O5 L5 Q5 CC5
  refine (HP.out _).mono ?_
  rintro e w' ⟨rfl, rfl⟩
  go_wp2_with fail
  go_loopw [19] (fun iv wr => ∃ j : Nat, j ≤ 64 ∧ iv = .int .i64 j ∧ Owns wr w4.heap.size (.slice (some ⟨gc, 0, none⟩) S c5) (Crc.flips pl f run j) ∧ Below w4.heap.size w4 wr) (fun iv _ => 64 - (intOf iv).toNat)
  case atStart => exact ⟨0, by omega, rfl, O6.out, C5.out⟩
  case round =>
    obtain ⟨j, hj, rfl, hO, hbel⟩ := hrel
    have HB := Lib.hid (And.intro hO hbel)
    clear hO hbel
    by_cases hgo : j < 64 ∧ f + j < 8 * S
    · obtain ⟨hlt, hin'⟩ := hgo
      have hd : decide ((j : Int) < 64) = true := by simp; omega
      obtain ⟨q, hq⟩ : ∃ q : Nat, q = f + j := ⟨_, rfl⟩
      have hin : q < 8 * S := by omega
      have ej : (f : Int) + (j : Int) = (q : Int) := by omega
      have hd2 : decide ((q : Int) < 8 * (S : Int)) = true := by simp; omega
      have e0 := shift_bit run j
      have HT : Hid (Crc.turns? S f run j = bitb run j) := by
        show _ = _
        unfold Crc.turns? bitb
        rw [decide_eq_true hin', Bool.true_and]
      clear hin'
      cases hb : bitb run j
      · rw [hb, show ((bitN false : Nat) : Int) = 0 from rfl] at e0
        have HF := Lib.hid (show Crc.flips pl f run (j + 1) = Crc.flips pl f run j by rw [Crc.flips, HLL.out, HT.out, hb]; rfl)
        clear hq hb HT
        go_wp2
        go_roundw
        case rel => exact ⟨j + 1, by omega, by go_num, by rw [HF.out]; exact HB.out.1, HB.out.2⟩
        case measure => simp [intOf] <;> omega
      · rw [hb, show ((bitN true : Nat) : Int) = 1 from rfl] at e0
        have HF := Lib.hid (show Crc.flips pl f run (j + 1) = Crc.flipBit (Crc.flips pl f run j) q by rw [Crc.flips, HLL.out, HT.out, hb, hq]; rfl)
        have hlb : (Crc.flips pl f run j).length = S := by rw [Crc.flips_length, HLL.out]
        have hc := HB.out.1.at_ (q / 8) (by omega)
        have hfz := HB.out.1.free (q / 8)
        have E1 := Lib.hid (bit_word (q % 8) (by omega))
        obtain ⟨x, hx'⟩ : ∃ x, x = (Crc.flips pl f run j).getD (q / 8) 0 := ⟨_, rfl⟩
        rw [← hx'] at hc
        have HX := Lib.hid hx'
        clear hq hb hlb HT hx'
        go_wp2_with fail
        go_region
        go_wp2
        go_roundw
        case rel =>
          refine ⟨j + 1, by omega, by go_num, ?_, (HB.out.2.setCell HB.out.1.low _).drew⟩
          rw [HF.out]
          refine (HB.out.1.put (q / 8) _ _ ?_).drew
          have := E1.out
          rw [IntKind.wrap_u8'] at this
          rw [this, b_xor', HX.out]
        case measure => simp [intOf] <;> omega
    · have HF := Lib.hid (show Crc.flips pl f run j = Crc.flips pl f run 64 by
        by_cases h : j < 64
        · exact (Crc.flips_stop pl f run j 64 (by omega) (by rw [HLL.out]; omega)).symm
        · rw [show j = 64 by omega])
      have O4 := HB.out.1
      have B7 := Lib.hid HB.out.2
      rw [HF.out] at O4
      have O7 := Lib.hid O4
      have HD := Lib.hid hgo
      clear O4 hgo HF HB
      have hlb : (Crc.flips pl f run 64).length = S := by rw [Crc.flips_length, HLL.out]
      have K7 := Lib.hid (K4.out.below B7.out K4.out.lt)
      have n7 : wr.cell? ⟨hx, 1, none⟩ = some (.int .i64 (NN : Int)) := K7.out.cell 1
      have R7 := Lib.hid (show Rd wr wr.heap.size (some ⟨gc, 0, none⟩) (Crc.flips pl f run 64) by have h := O7.out; rw [← hlb] at h; exact h.reads)
      have OP := Lib.hid (open_rd (some ⟨gc, 0, none⟩) c5 S wr.heap.size (NN : Int) (Crc.flips pl f run 64) wr hlb hc5 (Nat.le_refl _) R7.out)
      have hj64 : decide ((j : Int) < 64) = false ∨ (decide ((j : Int) < 64) = true ∧ ∃ q : Nat, (f : Int) + (j : Int) = (q : Int) ∧ decide ((q : Int) < 8 * (S : Int)) = false) := by
        by_cases h : j < 64
        · right
          have hn : ¬ f + j < 8 * S := fun h2 => HD.out ⟨h, h2⟩
          exact ⟨by simp; omega, f + j, by omega, by simp; omega⟩
        · left; simp; omega
      obtain ⟨fl, hfl⟩ : ∃ fl, fl = Crc.flips pl f run 64 := ⟨_, rfl⟩
      obtain ⟨tt, htt⟩ : ∃ tt, tt = Crc.flipped S f run 64 := ⟨_, rfl⟩
      rw [← hfl] at OP R7 hlb
      have HFL := Lib.hid hfl
      have HTT := Lib.hid htt
      have HLB := Lib.hid hlb
      clear hlb HD O7 hfl htt
      rcases hj64 with hd | ⟨hd, q, ej, hd2⟩
      · go_wp2_with fail
        refine OP.out.mono ?_
        rintro e w8 ⟨v, rfl, hv, b8⟩
        have C8 := Lib.hid (B7.out.trans (b8.mono B7.out.size))
        have B8 := Lib.hid (B4.out.trans (C8.out.mono B4.out.size))
        have RC := Lib.hid (R7.out.below b8 (Nat.le_refl _))
        have RB := Lib.hid (R4.out.below C8.out (Nat.le_refl _))
        have RP := Lib.hid (HR.out w8 B8.out)
        have K8 := Lib.hid (K4.out.below C8.out K4.out.lt)
        have hcvf : ∀ W : World, Below w8.heap.size w8 W → (convert 22 9 (.slice (some ⟨gc, 0, none⟩) S c5)).run Try.prog W = .ok (.string (bs fl)) W := fun W h => by
          have := conv_str (some ⟨gc, 0, none⟩) c5 fl W wr.heap.size (RC.out.below h b8.size)
          rw [HLB.out] at this
          exact this
        have hcvp : ∀ W : World, Below w8.heap.size w8 W → (convert 22 9 (.slice (some ⟨g, 0, none⟩) S S)).run Try.prog W = .ok (.string (bs pl)) W := fun W h => by
          have := conv_str (some ⟨g, 0, none⟩) S pl W w4.heap.size (RB.out.below h C8.out.size)
          rw [HLL.out] at this
          exact this
        cases tt
        · have hfl : fl = pl := HFL.out.trans (Crc.flips_none pl f run 64 (by rw [HLL.out]; exact HTT.out.symm))
          have hv' := hv
          rw [hfl, HPL.out] at hv'
          rcases open_page_post HF.out hv' with ⟨h, _⟩ | ⟨_, A9, c9, rfl, hc9, ho⟩
          · exact absurd rfl h
          have hcv1 := hcvf (w8.alloc (.cells #[.int .i64 (KK : Int), .int .i64 (NN : Int), .int .u64 (gen : Int)] 39)) ((Below.refl w8.heap.size w8).alloc (Nat.le_refl _) _)
          have hcv2 := hcvp (w8.alloc (.cells #[.int .i64 (KK : Int), .int .i64 (NN : Int), .int .u64 (gen : Int)] 39)) ((Below.refl w8.heap.size w8).alloc (Nat.le_refl _) _)
          rw [hfl] at hcv1
          have hcv3 : (convert 22 9 (.slice A9 M c9)).run Try.prog (w8.alloc (.cells #[.int .i64 (KK : Int), .int .i64 (NN : Int), .int .u64 (gen : Int)] 39)) = .ok (.string (bs p)) (w8.alloc (.cells #[.int .i64 (KK : Int), .int .i64 (NN : Int), .int .u64 (gen : Int)] 39)) := by
            have h2 := conv_str A9 c9 p (w8.alloc (.cells #[.int .i64 (KK : Int), .int .i64 (NN : Int), .int .u64 (gen : Int)] 39)) _ (Owns.reads (show Owns (w8.alloc (.cells #[.int .i64 (KK : Int), .int .i64 (NN : Int), .int .u64 (gen : Int)] 39)) wr.heap.size (.slice A9 p.length c9) p from World.ownsRow.alloc ho _))
            rw [← HL.out] at h2
            exact h2
          have hcv4 : (convert 22 9 (.slice A M c)).run Try.prog (w8.alloc (.cells #[.int .i64 (KK : Int), .int .i64 (NN : Int), .int .u64 (gen : Int)] 39)) = .ok (.string (bs p)) (w8.alloc (.cells #[.int .i64 (KK : Int), .int .i64 (NN : Int), .int .u64 (gen : Int)] 39)) := by
            have h2 := conv_str A c p (w8.alloc (.cells #[.int .i64 (KK : Int), .int .i64 (NN : Int), .int .u64 (gen : Int)] 39)) w.heap.size (RP.out.below ((Below.refl w8.heap.size w8).alloc (Nat.le_refl _) _) B8.out.size)
            rw [← HL.out] at h2
            exact h2
          have x0 : (w8.alloc (.cells #[.int .i64 (KK : Int), .int .i64 (NN : Int), .int .u64 (gen : Int)] 39)).cell? ⟨hx, 0, none⟩ = some (.int .i64 (KK : Int)) := (K8.out.alloc _).cell 0
          have x1 : (w8.alloc (.cells #[.int .i64 (KK : Int), .int .i64 (NN : Int), .int .u64 (gen : Int)] 39)).cell? ⟨hx, 1, none⟩ = some (.int .i64 (NN : Int)) := (K8.out.alloc _).cell 1
          have x2 : (w8.alloc (.cells #[.int .i64 (KK : Int), .int .i64 (NN : Int), .int .u64 (gen : Int)] 39)).cell? ⟨hx, 2, none⟩ = some (.int .u64 (gen : Int)) := (K8.out.alloc _).cell 2
          have B9 := Lib.hid (B8.out.alloc B8.out.size (.cells #[.int .i64 (KK : Int), .int .i64 (NN : Int), .int .u64 (gen : Int)] 39))
          rw [← HL.out]
          clear hcvf hcvp hfl hv hv' ho hc9 b8 n7
          go_wp2_with fail
          go_ret
          exact ⟨ret_bool (by simp), B9.out⟩
        · have hne : fl ≠ pl := by rw [HFL.out]; exact Page.flips_ne pl f run (by rw [HLL.out]; exact HTT.out.symm)
          have hnl : ((bs fl).toList == (bs pl).toList) = false := by rw [bs_list, bs_list]; simpa using hne
          have hno : ¬ Page.SumOk fl := fun h => by
            have hs : Page.SumOk pl := by rw [HPL.out]; exact Page.page_sum S KK NN gen p (by omega)
            rw [HFL.out] at h
            have h2 := Page.turned_sum pl (by rw [HLL.out]; omega) hs f run h
            rw [HLL.out, ← HTT.out] at h2
            cases h2
          have B9 := Lib.hid (B8.out.alloc B8.out.size (.cells #[.int .i64 0, .int .i64 0, .int .u64 0] 39))
          rcases hv with ⟨_, rfl⟩ | ⟨_, _, rfl⟩ | ⟨_, h2, _⟩ | ⟨_, h2, _⟩
          · clear b8 n7
            have hcv1 := hcvf (w8.alloc (.cells #[.int .i64 0, .int .i64 0, .int .u64 0] 39)) ((Below.refl w8.heap.size w8).alloc (Nat.le_refl _) _)
            have hcv2 := hcvp (w8.alloc (.cells #[.int .i64 0, .int .i64 0, .int .u64 0] 39)) ((Below.refl w8.heap.size w8).alloc (Nat.le_refl _) _)
            rw [openBad]
            generalize bs fl = sc at hcv1 hnl
            generalize bs pl = sb at hcv2 hnl
            clear hcvf hcvp
            go_wp2_with fail
            go_ret
            exact ⟨ret_bool (by simp), B9.out⟩
          · clear b8 n7
            have hcv1 := hcvf (w8.alloc (.cells #[.int .i64 0, .int .i64 0, .int .u64 0] 39)) ((Below.refl w8.heap.size w8).alloc (Nat.le_refl _) _)
            have hcv2 := hcvp (w8.alloc (.cells #[.int .i64 0, .int .i64 0, .int .u64 0] 39)) ((Below.refl w8.heap.size w8).alloc (Nat.le_refl _) _)
            rw [openBad]
            generalize bs fl = sc at hcv1 hnl
            generalize bs pl = sb at hcv2 hnl
            clear hcvf hcvp
            go_wp2_with fail
            go_ret
            exact ⟨ret_bool (by simp), B9.out⟩
          · exact absurd h2 hno
          · exact absurd h2 hno
      · go_wp2_with fail
        refine OP.out.mono ?_
        rintro e w8 ⟨v, rfl, hv, b8⟩
        have C8 := Lib.hid (B7.out.trans (b8.mono B7.out.size))
        have B8 := Lib.hid (B4.out.trans (C8.out.mono B4.out.size))
        have RC := Lib.hid (R7.out.below b8 (Nat.le_refl _))
        have RB := Lib.hid (R4.out.below C8.out (Nat.le_refl _))
        have RP := Lib.hid (HR.out w8 B8.out)
        have K8 := Lib.hid (K4.out.below C8.out K4.out.lt)
        have hcvf : ∀ W : World, Below w8.heap.size w8 W → (convert 22 9 (.slice (some ⟨gc, 0, none⟩) S c5)).run Try.prog W = .ok (.string (bs fl)) W := fun W h => by
          have := conv_str (some ⟨gc, 0, none⟩) c5 fl W wr.heap.size (RC.out.below h b8.size)
          rw [HLB.out] at this
          exact this
        have hcvp : ∀ W : World, Below w8.heap.size w8 W → (convert 22 9 (.slice (some ⟨g, 0, none⟩) S S)).run Try.prog W = .ok (.string (bs pl)) W := fun W h => by
          have := conv_str (some ⟨g, 0, none⟩) S pl W w4.heap.size (RB.out.below h C8.out.size)
          rw [HLL.out] at this
          exact this
        cases tt
        · have hfl : fl = pl := HFL.out.trans (Crc.flips_none pl f run 64 (by rw [HLL.out]; exact HTT.out.symm))
          have hv' := hv
          rw [hfl, HPL.out] at hv'
          rcases open_page_post HF.out hv' with ⟨h, _⟩ | ⟨_, A9, c9, rfl, hc9, ho⟩
          · exact absurd rfl h
          have hcv1 := hcvf (w8.alloc (.cells #[.int .i64 (KK : Int), .int .i64 (NN : Int), .int .u64 (gen : Int)] 39)) ((Below.refl w8.heap.size w8).alloc (Nat.le_refl _) _)
          have hcv2 := hcvp (w8.alloc (.cells #[.int .i64 (KK : Int), .int .i64 (NN : Int), .int .u64 (gen : Int)] 39)) ((Below.refl w8.heap.size w8).alloc (Nat.le_refl _) _)
          rw [hfl] at hcv1
          have hcv3 : (convert 22 9 (.slice A9 M c9)).run Try.prog (w8.alloc (.cells #[.int .i64 (KK : Int), .int .i64 (NN : Int), .int .u64 (gen : Int)] 39)) = .ok (.string (bs p)) (w8.alloc (.cells #[.int .i64 (KK : Int), .int .i64 (NN : Int), .int .u64 (gen : Int)] 39)) := by
            have h2 := conv_str A9 c9 p (w8.alloc (.cells #[.int .i64 (KK : Int), .int .i64 (NN : Int), .int .u64 (gen : Int)] 39)) _ (Owns.reads (show Owns (w8.alloc (.cells #[.int .i64 (KK : Int), .int .i64 (NN : Int), .int .u64 (gen : Int)] 39)) wr.heap.size (.slice A9 p.length c9) p from World.ownsRow.alloc ho _))
            rw [← HL.out] at h2
            exact h2
          have hcv4 : (convert 22 9 (.slice A M c)).run Try.prog (w8.alloc (.cells #[.int .i64 (KK : Int), .int .i64 (NN : Int), .int .u64 (gen : Int)] 39)) = .ok (.string (bs p)) (w8.alloc (.cells #[.int .i64 (KK : Int), .int .i64 (NN : Int), .int .u64 (gen : Int)] 39)) := by
            have h2 := conv_str A c p (w8.alloc (.cells #[.int .i64 (KK : Int), .int .i64 (NN : Int), .int .u64 (gen : Int)] 39)) w.heap.size (RP.out.below ((Below.refl w8.heap.size w8).alloc (Nat.le_refl _) _) B8.out.size)
            rw [← HL.out] at h2
            exact h2
          have x0 : (w8.alloc (.cells #[.int .i64 (KK : Int), .int .i64 (NN : Int), .int .u64 (gen : Int)] 39)).cell? ⟨hx, 0, none⟩ = some (.int .i64 (KK : Int)) := (K8.out.alloc _).cell 0
          have x1 : (w8.alloc (.cells #[.int .i64 (KK : Int), .int .i64 (NN : Int), .int .u64 (gen : Int)] 39)).cell? ⟨hx, 1, none⟩ = some (.int .i64 (NN : Int)) := (K8.out.alloc _).cell 1
          have x2 : (w8.alloc (.cells #[.int .i64 (KK : Int), .int .i64 (NN : Int), .int .u64 (gen : Int)] 39)).cell? ⟨hx, 2, none⟩ = some (.int .u64 (gen : Int)) := (K8.out.alloc _).cell 2
          have B9 := Lib.hid (B8.out.alloc B8.out.size (.cells #[.int .i64 (KK : Int), .int .i64 (NN : Int), .int .u64 (gen : Int)] 39))
          rw [← HL.out]
          clear hcvf hcvp hfl hv hv' ho hc9 b8 n7
          go_wp2_with fail
          go_ret
          exact ⟨ret_bool (by simp), B9.out⟩
        · have hne : fl ≠ pl := by rw [HFL.out]; exact Page.flips_ne pl f run (by rw [HLL.out]; exact HTT.out.symm)
          have hnl : ((bs fl).toList == (bs pl).toList) = false := by rw [bs_list, bs_list]; simpa using hne
          have hno : ¬ Page.SumOk fl := fun h => by
            have hs : Page.SumOk pl := by rw [HPL.out]; exact Page.page_sum S KK NN gen p (by omega)
            rw [HFL.out] at h
            have h2 := Page.turned_sum pl (by rw [HLL.out]; omega) hs f run h
            rw [HLL.out, ← HTT.out] at h2
            cases h2
          have B9 := Lib.hid (B8.out.alloc B8.out.size (.cells #[.int .i64 0, .int .i64 0, .int .u64 0] 39))
          rcases hv with ⟨_, rfl⟩ | ⟨_, _, rfl⟩ | ⟨_, h2, _⟩ | ⟨_, h2, _⟩
          · clear b8 n7
            have hcv1 := hcvf (w8.alloc (.cells #[.int .i64 0, .int .i64 0, .int .u64 0] 39)) ((Below.refl w8.heap.size w8).alloc (Nat.le_refl _) _)
            have hcv2 := hcvp (w8.alloc (.cells #[.int .i64 0, .int .i64 0, .int .u64 0] 39)) ((Below.refl w8.heap.size w8).alloc (Nat.le_refl _) _)
            rw [openBad]
            generalize bs fl = sc at hcv1 hnl
            generalize bs pl = sb at hcv2 hnl
            clear hcvf hcvp
            go_wp2_with fail
            go_ret
            exact ⟨ret_bool (by simp), B9.out⟩
          · clear b8 n7
            have hcv1 := hcvf (w8.alloc (.cells #[.int .i64 0, .int .i64 0, .int .u64 0] 39)) ((Below.refl w8.heap.size w8).alloc (Nat.le_refl _) _)
            have hcv2 := hcvp (w8.alloc (.cells #[.int .i64 0, .int .i64 0, .int .u64 0] 39)) ((Below.refl w8.heap.size w8).alloc (Nat.le_refl _) _)
            rw [openBad]
            generalize bs fl = sc at hcv1 hnl
            generalize bs pl = sb at hcv2 hnl
            clear hcvf hcvp
            go_wp2_with fail
            go_ret
            exact ⟨ret_bool (by simp), B9.out⟩
          · exact absurd h2 hno
          · exact absurd h2 hno
end Go.Proofs.Ytofhdehigfdmkaa
