/- THE WALK OF CacheLast. -/
import Derived.Test.YtghakgepchlpgaaO
namespace Go.Proofs.Ytghakgepchlpgaa
open Go.RowKit Go.Maps
theorem owns_some {w : World} {base c : Nat} {A : Option Addr} {l : List Int} (h : OwnsI w base (.slice A l.length c) l) (hl : l ≠ []) : ∃ g, A = some ⟨g, 0, none⟩ ∧ base ≤ g := by
  rcases h.2 with ⟨_, hn⟩ | ⟨g, cap, cur, hv, hg, _⟩
  · exact absurd (List.eq_nil_of_length_eq_zero hn) hl
  · injection hv with hA _ _
    exact ⟨g, hA, hg⟩
set_option maxHeartbeats 8000000 in
set_option maxRecDepth 100000 in
theorem cacheLast_walk (A : Option Addr) (c : Nat) (s m : Int) (l : List (Int × Int)) (w : World) (hs : -9223372036854775808 ≤ s ∧ s ≤ 9223372036854775807) (hm : -9223372036854775808 ≤ m ∧ m ≤ 9223372036854775807)
    (hr : Ru w w.heap.size A l) (hl : l.length ≤ 9223372036854775807) (hw : ∀ e ∈ l, Wf e.1) :
    Calls Try.prog 4 #[.int .i64 s, .int .i64 m, .slice A l.length c] w fun e w' => e = .returned (.bool true) ∧ Below w.heap.size w w' := by
  have HR := Lib.hid (fun (W : World) (h : Below w.heap.size w W) => hr.below h (Nat.le_refl _))
  have P1 := Lib.hid (fun W => pick_any s 40 (by omega) W hs.1 hs.2)
  have P2 := Lib.hid (fun W => pick_any m 40 (by omega) W hm.1 hm.2)
  obtain ⟨a1, a2⟩ := pickN_in s 40 (by omega)
  obtain ⟨b1, b2⟩ := pickN_in m 40 (by omega)
  obtain ⟨pl, hpl⟩ : ∃ x : Nat, (1 : Int) + pickN s 40 = (x : Int) := ⟨(1 + pickN s 40).toNat, by omega⟩
  obtain ⟨mo, hmo⟩ : ∃ x : Nat, (pl : Int) + pickN m 40 = (x : Int) := ⟨((pl : Int) + pickN m 40).toNat, by omega⟩
  have hp1 : 1 ≤ pl := by omega
  have hp2 : pl ≤ 40 := by omega
  have hq1 : pl ≤ mo := by omega
  have hq2 : mo ≤ 80 := by omega
  generalize pickN s 40 = ps at *
  generalize pickN m 40 = pm at *
  have HW := Lib.hid hw
  obtain ⟨n, hn⟩ : ∃ n, n = l.length := ⟨_, rfl⟩
  rw [← hn] at hl ⊢
  have HN := Lib.hid hn
  clear hr hw hs hm hn
  go_enter Try.func4, Try.ntmps4
  go_wp2_with fail
  refine (shown_true w).mono ?_
  rintro e w1 ⟨rfl, b0⟩
  have B1 := Lib.hid b0
  clear b0
  go_wp2_with fail
  refine (P1.out _).mono ?_
  rintro e w' ⟨rfl, rfl⟩
  go_wp2_with fail
  refine (P2.out _).mono ?_
  rintro e w' ⟨rfl, rfl⟩
  go_wp2_with fail
  clear a1 a2 b1 b2 hpl hmo P1 P2
  refine (new_int (pl : Int) w1 (by omega) (by omega)).mono ?_
  rintro e w2 ⟨rfl, ca1, b2⟩
  have BB2 := Lib.hid (B1.out.trans (b2.mono B1.out.size))
  have CA1 := Lib.hid ca1
  obtain ⟨ca, hca⟩ : ∃ x, x = w1.heap.size + 1 := ⟨_, rfl⟩
  obtain ⟨ma, hma⟩ : ∃ x, x = w1.heap.size := ⟨_, rfl⟩
  rw [← hca, ← hma] at CA1
  have lt1 : w1.heap.size + 1 < w2.heap.size := ca1.lt _ (.inr (.inl rfl))
  have HA := Lib.hid (And.intro hca (And.intro hma (And.intro lt1 B1.out.size)))
  rw [← hca]
  clear ca1 b2 lt1 hca hma
  go_wp2_with fail
  refine (new_int (mo : Int) w2 (by omega) (by omega)).mono ?_
  rintro e w3 ⟨rfl, cb1, b3⟩
  have BB3 := Lib.hid (BB2.out.trans (b3.mono BB2.out.size))
  obtain ⟨cb, hcb⟩ : ∃ x, x = w2.heap.size + 1 := ⟨_, rfl⟩
  obtain ⟨mb, hmb⟩ : ∃ x, x = w2.heap.size := ⟨_, rfl⟩
  have HT0 := Lib.hid (show Two w w3 ca ma cb mb pl mo [] [] by
    have := HA.out
    refine ⟨⟨0, 0, CA1.out.below b3⟩, ⟨0, 0, by rw [hcb, hmb]; exact cb1⟩, (fun e he => nomatch he), (fun e he => nomatch he), ⟨List.Sublist.refl _, .nil, by simp [nms], by simp [nms], .inr rfl⟩, ?_, ?_, ?_, BB3.out⟩
    · rintro k (h | h | ⟨e, he, _⟩) (h' | h' | ⟨e', he', _⟩)
      · omega
      · omega
      · nomatch he'
      · omega
      · omega
      · nomatch he'
      · nomatch he
      · nomatch he
      · nomatch he
    · rintro k (h | h | ⟨e, he, _⟩)
      · omega
      · omega
      · nomatch he
    · rintro k (h | h | ⟨e, he, _⟩)
      · omega
      · omega
      · nomatch he)
  rw [← hcb]
  clear cb1 b3 hcb hmb HA CA1 BB2 BB3 B1
  go_wp2_with fail
  go_loopw [12, 13] (fun lv iv wr => ∃ (k : Nat) (La Lb : List Ent) (A1 : Option Addr) (c1 : Nat), k ≤ n ∧ iv = .int .i64 k ∧ lv = .slice A1 (nms La).length c1 ∧ (nms La).length ≤ c1 ∧ Ri wr wr.heap.size A1 (nms La) ∧ Far ca ma cb mb La Lb A1 ∧ Two w wr ca ma cb mb pl mo La Lb) (fun _ iv _ => n - (intOf iv).toNat)
  case atStart => exact ⟨0, [], [], none, 0, by omega, rfl, rfl, Nat.le_refl _, .inl rfl, (fun _ _ _ h => nomatch h), HT0.out⟩
  case round =>
    obtain ⟨k, La, Lb, A1, c1, hk, rfl, rfl, hc1, hR, hF, hT⟩ := hrel
    by_cases hlt : k < n
    · have R1 := HR.out wr hT.bel
      rcases R1 with R1 | ⟨b, off, rfl, hb, hc⟩
      · have := HN.out; rw [R1] at this; simp at this; omega
      obtain ⟨d1, d2⟩ := hc k (by rw [← HN.out]; exact hlt)
      have hwf : Wf (l.getD k (0, 0)).1 := HW.out _ (by
        have hk' : k < l.length := by rw [← HN.out]; exact hlt
        simp [List.getD, hk'])
      obtain ⟨x, hx⟩ : ∃ x, x = (l.getD k (0, 0)).1 := ⟨_, rfl⟩
      obtain ⟨y, hy⟩ : ∃ y, y = (l.getD k (0, 0)).2 := ⟨_, rfl⟩
      rw [← hx] at d1 hwf
      rw [← hy] at d2
      clear hx hy hc
      have hd : decide ((k : Int) < (n : Int)) = true := by simp; omega
      have hd2 : decide (k < n) = true := by simp; omega
      have wk : IntKind.i64.wrap ((k : Int) + 1) = ((k + 1 : Nat) : Int) := by rw [IntKind.wrap_i64]; omega
      obtain ⟨ll, hll⟩ : ∃ ll, ll = nms La := ⟨_, rfl⟩
      obtain ⟨q, hq⟩ : ∃ q, q = ll.length := ⟨_, rfl⟩
      rw [← hll] at hR
      rw [← hll, ← hq]
      have HQ := Lib.hid hq
      have HLL := Lib.hid hll
      have HT := Lib.hid (And.intro hT (And.intro hR hF))
      have HWF := Lib.hid hwf
      have hqp : q ≤ pl := by rw [hq, hll]; exact hT.inv.la
      have HC1 := Lib.hid (show q ≤ c1 by rw [hq, hll]; exact hc1)
      clear hT hR hc1 hF hwf hll hq
      generalize hyq : (y == 0) = yq
      cases yq
      · go_wp2_with fail
        obtain ⟨_, _, cA⟩ := HT.out.1.a
        refine (put_last cA HT.out.1.la (by have := HT.out.1.inv.la; simp [nms] at this; omega) (by omega) (by omega) x y HWF.out).mono ?_
        rintro e w1 ⟨v1, La', rfl, cA1, la1, na1, ka1, ea1⟩
        have S1 := Lib.hid (And.intro cA1 (And.intro la1 (And.intro na1 (And.intro ka1 ea1))))
        obtain ⟨_, _, cB⟩ := HT.out.1.caB ka1
        have d2' : w1.cell? ⟨b, off + k * 2 + 1, none⟩ = some (.int .i64 y) := ((ka1.below HT.out.1.lowA HT.out.1.bel.size).cell (p := ⟨b, off + k * 2 + 1, none⟩) hb).trans d2
        clear cA cA1 la1 na1 ka1 ea1
        go_wp2_with fail
        refine (put_last cB HT.out.1.lb (by have := HT.out.1.inv.lb; simp [nms] at this; omega) (by omega) (by omega) x y HWF.out).mono ?_
        rintro e W1 ⟨v2, Lb', rfl, cB1, lb1, nb1, kb1, eb1⟩
        rw [Int.toNat_natCast] at nb1
        have hna := S1.out.2.2.1
        rw [Int.toNat_natCast] at hna
        have HT1 := Lib.hid (HT.out.1.step ⟨_, _, S1.out.1⟩ S1.out.2.1 S1.out.2.2.2.1 S1.out.2.2.2.2 ⟨_, _, cB1⟩ lb1 kb1 eb1 (by rw [hna, nb1]; exact HT.out.1.inv.put hp1 hq1 x))
        have HR1 := Lib.hid (((HT.out.2.1.kept (Nat.le_refl _) S1.out.2.2.2.1 (fun b o v e => (HT.out.2.2 b o v e).1)).mono S1.out.2.2.2.1.size).kept (Nat.le_refl _) kb1 (fun b o v e => (HT.out.2.2 b o v e).2))
        have HR1 := Lib.hid (HR1.out.mono kb1.size)
        have HCUT := Lib.hid (show Lru.cut pl (Lru.mv x ll) = nms La' by
          rw [hna, HLL.out]
          exact Lru.put_cut hp1 (HT.out.1.inv.nd.sublist HT.out.1.inv.sub) HT.out.1.inv.la)
        clear cB cB1 lb1 nb1 kb1 eb1 S1 hna HT
        go_wp2_with fail
        go_loopw [19, 20] (fun nv jv wr => ∃ (j : Nat) (An : Option Addr) (cn : Nat), j ≤ q ∧ jv = .int .i64 j ∧ nv = .slice An (Flt x ll j).length cn ∧ OwnsI wr W1.heap.size (.slice An (Flt x ll j).length cn) (Flt x ll j) ∧ Below W1.heap.size W1 wr) (fun _ jv _ => q - (intOf jv).toNat)
        case atStart => exact ⟨0, none, 0, by omega, rfl, rfl, OwnsI.nil _ _, Below.refl _ _⟩
        case round =>
          obtain ⟨j, An, cn, hj, rfl, rfl, hO, hbx⟩ := hrel
          have hfl := flt_len x ll j
          have HO := Lib.hid (And.intro hO hbx)
          by_cases hjq : j < q
          · rcases HR1.out with R | ⟨bl, ol, hA1, hbl, hcl⟩
            · have := HQ.out; rw [R] at this; simp at this; omega
            subst hA1
            have hcj : wr.cell? ⟨bl, ol + j, none⟩ = some (.int .i64 (ll.getD j 0)) := World.cell_below_some hbx (Nat.le_refl _) (hcl j (by rw [← HQ.out]; exact hjq))
            have hfs := flt_succ x ll j (by rw [← HQ.out]; exact hjq)
            obtain ⟨z, hz⟩ : ∃ z, z = ll.getD j 0 := ⟨_, rfl⟩
            rw [← hz] at hcj hfs
            have HFS := Lib.hid hfs
            have hdj : decide ((j : Int) < (q : Int)) = true := by simp; omega
            have hdj2 : decide (j < q) = true := by simp; omega
            have wj : IntKind.i64.wrap ((j : Int) + 1) = ((j + 1 : Nat) : Int) := by rw [IntKind.wrap_i64]; omega
            have B2 := Lib.hid (hbx.alloc hbx.size (.cells #[.int .i64 z] 3))
            have O2 := Lib.hid (hO.alloc (.cells #[.int .i64 z] 3))
            have hfl2 : (Flt x ll j).length + 1 ≤ 17592186044416 := by have := HQ.out; omega
            have HFL := Lib.hid hfl2
            have HFR := Lib.hid (World.ownsRow.lt hO)
            clear hz hO hbx hcl hfs hfl hfl2
            by_cases hzx : z = x
            · have hzq : (z != x) = false := by simpa using hzx
              go_wp2_with fail
              go_roundw
              case rel => exact ⟨j + 1, An, cn, by omega, by go_num, by rw [HFS.out, if_pos hzx], by rw [HFS.out, if_pos hzx]; exact HO.out.1, HO.out.2⟩
              case measure => simp [intOf] <;> omega
            · have hzq : (z != x) = true := by simpa using hzx
              go_wp2_with (first
                | (at_builtin
                   refine wpList_append_int rfl (.tmp 122) (.tmp 127) rfl W1.heap.size _ _ z rfl O2.out wr.heap.size 1 rfl (by have := (Blk.new wr 3 #[.int .i64 z]).cell 0; exact this) HFL.out B2.out.size ?_
                   intro A3 c3 w3 r3 q3 rc3 o3 g3
                   have B3 := Lib.hid (Below.grew B2.out g3 B2.out.size (fun k hk => (HFR.out k hk).1))
                   have O3 := Lib.hid o3
                   have Q3 := Lib.hid (show r3 = Flt x ll (j + 1) by rw [q3.out, HFS.out, if_neg hzx])
                   clear g3 o3 q3 rc3))
              go_roundw
              case rel => exact ⟨j + 1, A3, c3, by omega, by go_num, by rw [← Q3.out], by have h := O3.out; rw [Q3.out] at h; exact h, B3.out⟩
              case measure => simp [intOf] <;> omega
          · obtain rfl : j = q := by omega
            have hdj : decide ((j : Int) < (j : Int)) = false := by simp
            have B2 := Lib.hid (hbx.alloc hbx.size (.cells #[.int .i64 x] 3))
            have O2 := Lib.hid (hO.alloc (.cells #[.int .i64 x] 3))
            have HFL := Lib.hid (show (Flt x ll j).length + 1 ≤ 17592186044416 by have := HQ.out; omega)
            have HFR := Lib.hid (World.ownsRow.lt hO)
            clear hO hbx hfl
            by_cases hlen : pl < (Lru.mv x ll).length
            · go_wp2_with (first
                | (at_builtin
                   refine wpList_append_int rfl (.tmp 129) (.tmp 131) rfl W1.heap.size _ _ x rfl O2.out wr.heap.size 1 rfl (by have := (Blk.new wr 3 #[.int .i64 x]).cell 0; exact this) HFL.out B2.out.size ?_
                   intro A3 c3 w3 r3 q3 rc3 o3 g3
                   have B3 := Lib.hid (Below.grew B2.out g3 B2.out.size (fun k hk => (HFR.out k hk).1))
                   have Q3 := Lib.hid (show r3 = Lru.mv x ll by rw [q3.out, HQ.out, flt_all])
                   have O3 := Lib.hid o3
                   obtain ⟨g3', hA3, lt3⟩ : ∃ g, A3 = some ⟨g, 0, none⟩ ∧ W1.heap.size ≤ g := owns_some o3 (by intro h; rw [h] at Q3; have := Q3.out; rw [← this] at hlen; simp at hlen)
                   subst hA3
                   have hlen3 : pl < r3.length := by rw [Q3.out]; exact hlen
                   obtain ⟨n3, hn3⟩ : ∃ n3, n3 = r3.length := ⟨_, rfl⟩
                   have HN3 := Lib.hid hn3
                   rw [← hn3] at hlen3 rc3 ⊢
                   obtain ⟨d3, hd3⟩ : ∃ d3, d3 = n3 - pl := ⟨_, rfl⟩
                   have eq3 : (n3 : Int) - (pl : Int) = (d3 : Int) := by omega
                   have hb3 : n3 ≤ 17592186044416 := by rw [hn3, q3.out, List.length_append]; exact HFL.out
                   have f1 : (n3 : Int) ≤ (c3 : Int) := by omega
                   have f2 : (d3 : Int) ≤ (n3 : Int) := by omega
                   have f3 : ¬ c3 = d3 := by omega
                   have f4 : decide ((pl : Int) < (n3 : Int)) = true := by simp; omega
                   have HD3 := Lib.hid (And.intro hd3 (And.intro lt3 hlen3))
                   clear g3 o3 q3 hn3 hd3 lt3))
              have T3 := Lib.hid (HT1.out.below B3.out)
              obtain ⟨rr, hrr⟩ : ∃ rr, rr = Lru.cut pl (Lru.mv x ll) := ⟨_, rfl⟩
              have QR := Lib.hid (show rr = nms La' from hrr.trans HCUT.out)
              have hdrop : rr = r3.drop d3 := by rw [hrr, Lru.cut, ← Q3.out, ← HN3.out, HD3.out.1]
              have LR := Lib.hid (show n3 - d3 = rr.length by rw [hdrop, List.length_drop, ← HN3.out])
              have RL3 := Lib.hid (show Ri w3 w3.heap.size (some ⟨g3', d3, none⟩) rr from (by
                have h1 := O3.out
                rw [← Q3.out] at hlen
                have h2 := OwnsI.reads h1
                rcases h2 with h2 | ⟨bb, oo, hAA, hbb, hcc⟩
                · rw [h2] at hlen; simp at hlen
                · injection hAA with hAA; injection hAA with e1 e2 e3; subst e1; subst e2
                  refine .inr ⟨g3', d3, rfl, hbb, fun i hi => ?_⟩
                  rw [hdrop, List.length_drop] at hi
                  have := hcc (d3 + i) (by omega)
                  rw [Nat.zero_add] at this
                  rw [this, hdrop]; simp [List.getD]))
              have hs3 : (n3 - d3) ≤ c3 - d3 := by have := f1; omega
              clear O3 hdrop hrr
              go_wp2_with fail
              refine (numbers_int T3.out.a.choose_spec.choose_spec (by have := T3.out.inv.la; simp [nms] at this; omega)).mono ?_
              rintro e w4 ⟨A4, c4, rfl, o4, b4⟩
              have T4 := Lib.hid (T3.out.below b4)
              have O4 := Lib.hid (OwnsI.reads o4)
              have RL4 := Lib.hid (RL3.out.below b4 (Nat.le_refl _))
              have FO := sameInts_any A4 (some ⟨g3', d3, none⟩) c4 (c3 - d3) (nms La') rr w4 _ _ O4.out RL4.out (by have := T3.out.inv.la; omega)
              rw [show (nms La').length = La'.length by simp [nms], show rr.length = n3 - d3 from LR.out.symm] at FO
              have SZ4 := Lib.hid b4.size
              clear o4 b4
              go_wp2_with fail
              refine FO.mono ?_
              rintro e w5 ⟨rfl, b5⟩
              have T5 := Lib.hid (T4.out.below b5)
              have RL5 := Lib.hid (RL4.out.below b5 SZ4.out)
              have SZ5 := Lib.hid b5.size
              rw [decide_eq_true QR.out.symm]
              have LA' := Lib.hid (show La'.length = n3 - d3 by rw [LR.out, QR.out]; simp [nms])
              clear FO b5 T4 O4 RL4
              go_wp2_with fail
              refine (count_int T5.out.a.choose_spec.choose_spec).mono ?_
              rintro e w' ⟨rfl, rfl⟩
              rw [LA'.out]
              go_wp2_with fail
              refine (count_int T5.out.b.choose_spec.choose_spec).mono ?_
              rintro e w' ⟨rfl, rfl⟩
              have LBB : ¬ (mo : Int) < (Lb'.length : Int) := by have := T5.out.inv.lb; simp [nms] at this; omega
              go_wp2_with fail
              go_roundw
              case rel =>
                refine ⟨k + 1, La', Lb', _, _, by omega, by go_num, by rw [show (nms La').length = n3 - d3 by rw [← QR.out]; exact LR.out.symm], ?_, by have h := RL5.out.mono (show w3.heap.size ≤ w5.heap.size by have := SZ4.out; have := SZ5.out; omega); rw [QR.out] at h; exact h, ?_, T5.out⟩
                · rw [show (nms La').length = La'.length by simp [nms], LA'.out]; omega
                · intro bb oo vv hh
                  injection hh with hh; injection hh with e1 e2 e3; subst e1
                  obtain ⟨_, _, xA⟩ := HT1.out.a
                  obtain ⟨_, _, xB⟩ := HT1.out.b
                  exact ⟨fun h => by have := xA.lt _ h; have := HD3.out.2.1; omega, fun h => by have := xB.lt _ h; have := HD3.out.2.1; omega⟩
              case measure => simp [intOf] <;> omega
            · go_wp2_with (first
                | (at_builtin
                   refine wpList_append_int rfl (.tmp 129) (.tmp 131) rfl W1.heap.size _ _ x rfl O2.out wr.heap.size 1 rfl (by have := (Blk.new wr 3 #[.int .i64 x]).cell 0; exact this) HFL.out B2.out.size ?_
                   intro A3 c3 w3 r3 q3 rc3 o3 g3
                   have B3 := Lib.hid (Below.grew B2.out g3 B2.out.size (fun k hk => (HFR.out k hk).1))
                   have Q3 := Lib.hid (show r3 = Lru.mv x ll by rw [q3.out, HQ.out, flt_all])
                   have O3 := Lib.hid o3
                   obtain ⟨g3', hA3, lt3⟩ : ∃ g, A3 = some ⟨g, 0, none⟩ ∧ W1.heap.size ≤ g := owns_some o3 (by intro h; rw [h] at Q3; have := Q3.out; unfold Lru.mv at this; simp at this)
                   subst hA3
                   have hlen3 : ¬ pl < r3.length := by rw [Q3.out]; exact hlen
                   obtain ⟨n3, hn3⟩ : ∃ n3, n3 = r3.length := ⟨_, rfl⟩
                   have HN3 := Lib.hid hn3
                   rw [← hn3] at hlen3 rc3 ⊢
                   have hb3 : n3 ≤ 17592186044416 := by rw [hn3, q3.out, List.length_append]; exact HFL.out
                   have f4 : decide ((pl : Int) < (n3 : Int)) = false := by simp; omega
                   have HD3 := Lib.hid lt3
                   clear g3 o3 q3 hn3 lt3))
              have T3 := Lib.hid (HT1.out.below B3.out)
              have QR := Lib.hid (show r3 = nms La' by
                rw [← HCUT.out, Lru.cut, ← Q3.out, ← HN3.out, show n3 - pl = 0 by omega, List.drop_zero])
              obtain ⟨rr, hrr⟩ : ∃ rr, rr = r3 := ⟨_, rfl⟩
              rw [← hrr] at QR
              have LR := Lib.hid (show n3 = rr.length by rw [hrr, HN3.out])
              have RL3 := Lib.hid (show Ri w3 w3.heap.size (some ⟨g3', 0, none⟩) rr by rw [hrr]; exact OwnsI.reads O3.out)
              clear O3 hrr
              go_wp2_with fail
              refine (numbers_int T3.out.a.choose_spec.choose_spec (by have := T3.out.inv.la; simp [nms] at this; omega)).mono ?_
              rintro e w4 ⟨A4, c4, rfl, o4, b4⟩
              have T4 := Lib.hid (T3.out.below b4)
              have O4 := Lib.hid (OwnsI.reads o4)
              have RL4 := Lib.hid (RL3.out.below b4 (Nat.le_refl _))
              have FO := sameInts_any A4 (some ⟨g3', 0, none⟩) c4 c3 (nms La') rr w4 _ _ O4.out RL4.out (by have := T3.out.inv.la; omega)
              rw [show (nms La').length = La'.length by simp [nms], show rr.length = n3 from LR.out.symm] at FO
              have SZ4 := Lib.hid b4.size
              clear o4 b4
              go_wp2_with fail
              refine FO.mono ?_
              rintro e w5 ⟨rfl, b5⟩
              have T5 := Lib.hid (T4.out.below b5)
              have RL5 := Lib.hid (RL4.out.below b5 SZ4.out)
              have SZ5 := Lib.hid b5.size
              rw [decide_eq_true QR.out.symm]
              have LA' := Lib.hid (show La'.length = n3 by rw [LR.out, QR.out]; simp [nms])
              clear FO b5 T4 O4 RL4
              go_wp2_with fail
              refine (count_int T5.out.a.choose_spec.choose_spec).mono ?_
              rintro e w' ⟨rfl, rfl⟩
              rw [LA'.out]
              go_wp2_with fail
              refine (count_int T5.out.b.choose_spec.choose_spec).mono ?_
              rintro e w' ⟨rfl, rfl⟩
              have LBB : ¬ (mo : Int) < (Lb'.length : Int) := by have := T5.out.inv.lb; simp [nms] at this; omega
              go_wp2_with fail
              go_roundw
              case rel =>
                refine ⟨k + 1, La', Lb', _, _, by omega, by go_num, by rw [show (nms La').length = n3 by rw [← QR.out]; exact LR.out.symm], ?_, by have h := RL5.out.mono (show w3.heap.size ≤ w5.heap.size by have := SZ4.out; have := SZ5.out; omega); rw [QR.out] at h; exact h, ?_, T5.out⟩
                · rw [show (nms La').length = La'.length by simp [nms], LA'.out]; omega
                · intro bb oo vv hh
                  injection hh with hh; injection hh with e1 e2 e3; subst e1
                  obtain ⟨_, _, xA⟩ := HT1.out.a
                  obtain ⟨_, _, xB⟩ := HT1.out.b
                  exact ⟨fun h => by have := xA.lt _ h; have := HD3.out; omega, fun h => by have := xB.lt _ h; have := HD3.out; omega⟩
              case measure => simp [intOf] <;> omega
      · go_wp2_with fail
        obtain ⟨_, _, cA⟩ := HT.out.1.a
        refine (get_last cA HT.out.1.la x HWF.out).mono ?_
        rintro e w1 ⟨v1, La', h1', m1', rfl, cA1, la1, na1, ka1, ea1⟩
        have S1 := Lib.hid (And.intro cA1 (And.intro la1 (And.intro na1 (And.intro ka1 ea1))))
        obtain ⟨_, _, cB⟩ := HT.out.1.caB ka1
        by_cases hmem : x ∈ nms La
        · rw [decide_eq_true hmem]
          clear cA cA1 la1 na1 ka1 ea1
          go_wp2_with fail
          refine (get_last cB HT.out.1.lb x HWF.out).mono ?_
          rintro e W1 ⟨v2, Lb', h2', m2', rfl, cB1, lb1, nb1, kb1, eb1⟩
          have hmB : x ∈ nms Lb := HT.out.1.inv.sub.subset hmem
          rw [decide_eq_true hmB]
          have hna := S1.out.2.2.1
          rw [if_pos hmem] at hna
          rw [if_pos hmB] at nb1
          have HT1 := Lib.hid (HT.out.1.step ⟨_, _, S1.out.1⟩ S1.out.2.1 S1.out.2.2.2.1 (fun k hk => .inl (S1.out.2.2.2.2 k hk)) ⟨_, _, cB1⟩ lb1 kb1 (fun k hk => .inl (eb1 k hk)) (by rw [hna, nb1]; exact HT.out.1.inv.hit hmem))
          have HR1 := Lib.hid (((HT.out.2.1.kept (Nat.le_refl _) S1.out.2.2.2.1 (fun b o v e => (HT.out.2.2 b o v e).1)).mono S1.out.2.2.2.1.size).kept (Nat.le_refl _) kb1 (fun b o v e => (HT.out.2.2 b o v e).2))
          have HR1 := Lib.hid (HR1.out.mono kb1.size)
          have HCUT := Lib.hid (show Lru.cut pl (Lru.mv x ll) = nms La' by
            rw [hna, HLL.out]
            exact Lru.hit_cut (HT.out.1.inv.nd.sublist HT.out.1.inv.sub) hmem HT.out.1.inv.la)
          clear cB cB1 lb1 nb1 kb1 eb1 S1 hna HT hmem hmB
          go_wp2_with fail
          go_loopw [19, 20] (fun nv jv wr => ∃ (j : Nat) (An : Option Addr) (cn : Nat), j ≤ q ∧ jv = .int .i64 j ∧ nv = .slice An (Flt x ll j).length cn ∧ OwnsI wr W1.heap.size (.slice An (Flt x ll j).length cn) (Flt x ll j) ∧ Below W1.heap.size W1 wr) (fun _ jv _ => q - (intOf jv).toNat)
          case atStart => exact ⟨0, none, 0, by omega, rfl, rfl, OwnsI.nil _ _, Below.refl _ _⟩
          case round =>
            obtain ⟨j, An, cn, hj, rfl, rfl, hO, hbx⟩ := hrel
            have hfl := flt_len x ll j
            have HO := Lib.hid (And.intro hO hbx)
            by_cases hjq : j < q
            · rcases HR1.out with R | ⟨bl, ol, hA1, hbl, hcl⟩
              · have := HQ.out; rw [R] at this; simp at this; omega
              subst hA1
              have hcj : wr.cell? ⟨bl, ol + j, none⟩ = some (.int .i64 (ll.getD j 0)) := World.cell_below_some hbx (Nat.le_refl _) (hcl j (by rw [← HQ.out]; exact hjq))
              have hfs := flt_succ x ll j (by rw [← HQ.out]; exact hjq)
              obtain ⟨z, hz⟩ : ∃ z, z = ll.getD j 0 := ⟨_, rfl⟩
              rw [← hz] at hcj hfs
              have HFS := Lib.hid hfs
              have hdj : decide ((j : Int) < (q : Int)) = true := by simp; omega
              have hdj2 : decide (j < q) = true := by simp; omega
              have wj : IntKind.i64.wrap ((j : Int) + 1) = ((j + 1 : Nat) : Int) := by rw [IntKind.wrap_i64]; omega
              have B2 := Lib.hid (hbx.alloc hbx.size (.cells #[.int .i64 z] 3))
              have O2 := Lib.hid (hO.alloc (.cells #[.int .i64 z] 3))
              have hfl2 : (Flt x ll j).length + 1 ≤ 17592186044416 := by have := HQ.out; omega
              have HFL := Lib.hid hfl2
              have HFR := Lib.hid (World.ownsRow.lt hO)
              clear hz hO hbx hcl hfs hfl hfl2
              by_cases hzx : z = x
              · have hzq : (z != x) = false := by simpa using hzx
                go_wp2_with fail
                go_roundw
                case rel => exact ⟨j + 1, An, cn, by omega, by go_num, by rw [HFS.out, if_pos hzx], by rw [HFS.out, if_pos hzx]; exact HO.out.1, HO.out.2⟩
                case measure => simp [intOf] <;> omega
              · have hzq : (z != x) = true := by simpa using hzx
                go_wp2_with (first
                  | (at_builtin
                     refine wpList_append_int rfl (.tmp 122) (.tmp 127) rfl W1.heap.size _ _ z rfl O2.out wr.heap.size 1 rfl (by have := (Blk.new wr 3 #[.int .i64 z]).cell 0; exact this) HFL.out B2.out.size ?_
                     intro A3 c3 w3 r3 q3 rc3 o3 g3
                     have B3 := Lib.hid (Below.grew B2.out g3 B2.out.size (fun k hk => (HFR.out k hk).1))
                     have O3 := Lib.hid o3
                     have Q3 := Lib.hid (show r3 = Flt x ll (j + 1) by rw [q3.out, HFS.out, if_neg hzx])
                     clear g3 o3 q3 rc3))
                go_roundw
                case rel => exact ⟨j + 1, A3, c3, by omega, by go_num, by rw [← Q3.out], by have h := O3.out; rw [Q3.out] at h; exact h, B3.out⟩
                case measure => simp [intOf] <;> omega
            · obtain rfl : j = q := by omega
              have hdj : decide ((j : Int) < (j : Int)) = false := by simp
              have B2 := Lib.hid (hbx.alloc hbx.size (.cells #[.int .i64 x] 3))
              have O2 := Lib.hid (hO.alloc (.cells #[.int .i64 x] 3))
              have HFL := Lib.hid (show (Flt x ll j).length + 1 ≤ 17592186044416 by have := HQ.out; omega)
              have HFR := Lib.hid (World.ownsRow.lt hO)
              clear hO hbx hfl
              by_cases hlen : pl < (Lru.mv x ll).length
              · go_wp2_with (first
                  | (at_builtin
                     refine wpList_append_int rfl (.tmp 129) (.tmp 131) rfl W1.heap.size _ _ x rfl O2.out wr.heap.size 1 rfl (by have := (Blk.new wr 3 #[.int .i64 x]).cell 0; exact this) HFL.out B2.out.size ?_
                     intro A3 c3 w3 r3 q3 rc3 o3 g3
                     have B3 := Lib.hid (Below.grew B2.out g3 B2.out.size (fun k hk => (HFR.out k hk).1))
                     have Q3 := Lib.hid (show r3 = Lru.mv x ll by rw [q3.out, HQ.out, flt_all])
                     have O3 := Lib.hid o3
                     obtain ⟨g3', hA3, lt3⟩ : ∃ g, A3 = some ⟨g, 0, none⟩ ∧ W1.heap.size ≤ g := owns_some o3 (by intro h; rw [h] at Q3; have := Q3.out; rw [← this] at hlen; simp at hlen)
                     subst hA3
                     have hlen3 : pl < r3.length := by rw [Q3.out]; exact hlen
                     obtain ⟨n3, hn3⟩ : ∃ n3, n3 = r3.length := ⟨_, rfl⟩
                     have HN3 := Lib.hid hn3
                     rw [← hn3] at hlen3 rc3 ⊢
                     obtain ⟨d3, hd3⟩ : ∃ d3, d3 = n3 - pl := ⟨_, rfl⟩
                     have eq3 : (n3 : Int) - (pl : Int) = (d3 : Int) := by omega
                     have hb3 : n3 ≤ 17592186044416 := by rw [hn3, q3.out, List.length_append]; exact HFL.out
                     have f1 : (n3 : Int) ≤ (c3 : Int) := by omega
                     have f2 : (d3 : Int) ≤ (n3 : Int) := by omega
                     have f3 : ¬ c3 = d3 := by omega
                     have f4 : decide ((pl : Int) < (n3 : Int)) = true := by simp; omega
                     have HD3 := Lib.hid (And.intro hd3 (And.intro lt3 hlen3))
                     clear g3 o3 q3 hn3 hd3 lt3))
                have T3 := Lib.hid (HT1.out.below B3.out)
                obtain ⟨rr, hrr⟩ : ∃ rr, rr = Lru.cut pl (Lru.mv x ll) := ⟨_, rfl⟩
                have QR := Lib.hid (show rr = nms La' from hrr.trans HCUT.out)
                have hdrop : rr = r3.drop d3 := by rw [hrr, Lru.cut, ← Q3.out, ← HN3.out, HD3.out.1]
                have LR := Lib.hid (show n3 - d3 = rr.length by rw [hdrop, List.length_drop, ← HN3.out])
                have RL3 := Lib.hid (show Ri w3 w3.heap.size (some ⟨g3', d3, none⟩) rr from (by
                  have h1 := O3.out
                  rw [← Q3.out] at hlen
                  have h2 := OwnsI.reads h1
                  rcases h2 with h2 | ⟨bb, oo, hAA, hbb, hcc⟩
                  · rw [h2] at hlen; simp at hlen
                  · injection hAA with hAA; injection hAA with e1 e2 e3; subst e1; subst e2
                    refine .inr ⟨g3', d3, rfl, hbb, fun i hi => ?_⟩
                    rw [hdrop, List.length_drop] at hi
                    have := hcc (d3 + i) (by omega)
                    rw [Nat.zero_add] at this
                    rw [this, hdrop]; simp [List.getD]))
                have hs3 : (n3 - d3) ≤ c3 - d3 := by have := f1; omega
                clear O3 hdrop hrr
                go_wp2_with fail
                refine (numbers_int T3.out.a.choose_spec.choose_spec (by have := T3.out.inv.la; simp [nms] at this; omega)).mono ?_
                rintro e w4 ⟨A4, c4, rfl, o4, b4⟩
                have T4 := Lib.hid (T3.out.below b4)
                have O4 := Lib.hid (OwnsI.reads o4)
                have RL4 := Lib.hid (RL3.out.below b4 (Nat.le_refl _))
                have FO := sameInts_any A4 (some ⟨g3', d3, none⟩) c4 (c3 - d3) (nms La') rr w4 _ _ O4.out RL4.out (by have := T3.out.inv.la; omega)
                rw [show (nms La').length = La'.length by simp [nms], show rr.length = n3 - d3 from LR.out.symm] at FO
                have SZ4 := Lib.hid b4.size
                clear o4 b4
                go_wp2_with fail
                refine FO.mono ?_
                rintro e w5 ⟨rfl, b5⟩
                have T5 := Lib.hid (T4.out.below b5)
                have RL5 := Lib.hid (RL4.out.below b5 SZ4.out)
                have SZ5 := Lib.hid b5.size
                rw [decide_eq_true QR.out.symm]
                have LA' := Lib.hid (show La'.length = n3 - d3 by rw [LR.out, QR.out]; simp [nms])
                clear FO b5 T4 O4 RL4
                go_wp2_with fail
                refine (count_int T5.out.a.choose_spec.choose_spec).mono ?_
                rintro e w' ⟨rfl, rfl⟩
                rw [LA'.out]
                go_wp2_with fail
                refine (count_int T5.out.b.choose_spec.choose_spec).mono ?_
                rintro e w' ⟨rfl, rfl⟩
                have LBB : ¬ (mo : Int) < (Lb'.length : Int) := by have := T5.out.inv.lb; simp [nms] at this; omega
                go_wp2_with fail
                go_roundw
                case rel =>
                  refine ⟨k + 1, La', Lb', _, _, by omega, by go_num, by rw [show (nms La').length = n3 - d3 by rw [← QR.out]; exact LR.out.symm], ?_, by have h := RL5.out.mono (show w3.heap.size ≤ w5.heap.size by have := SZ4.out; have := SZ5.out; omega); rw [QR.out] at h; exact h, ?_, T5.out⟩
                  · rw [show (nms La').length = La'.length by simp [nms], LA'.out]; omega
                  · intro bb oo vv hh
                    injection hh with hh; injection hh with e1 e2 e3; subst e1
                    obtain ⟨_, _, xA⟩ := HT1.out.a
                    obtain ⟨_, _, xB⟩ := HT1.out.b
                    exact ⟨fun h => by have := xA.lt _ h; have := HD3.out.2.1; omega, fun h => by have := xB.lt _ h; have := HD3.out.2.1; omega⟩
                case measure => simp [intOf] <;> omega
              · go_wp2_with (first
                  | (at_builtin
                     refine wpList_append_int rfl (.tmp 129) (.tmp 131) rfl W1.heap.size _ _ x rfl O2.out wr.heap.size 1 rfl (by have := (Blk.new wr 3 #[.int .i64 x]).cell 0; exact this) HFL.out B2.out.size ?_
                     intro A3 c3 w3 r3 q3 rc3 o3 g3
                     have B3 := Lib.hid (Below.grew B2.out g3 B2.out.size (fun k hk => (HFR.out k hk).1))
                     have Q3 := Lib.hid (show r3 = Lru.mv x ll by rw [q3.out, HQ.out, flt_all])
                     have O3 := Lib.hid o3
                     obtain ⟨g3', hA3, lt3⟩ : ∃ g, A3 = some ⟨g, 0, none⟩ ∧ W1.heap.size ≤ g := owns_some o3 (by intro h; rw [h] at Q3; have := Q3.out; unfold Lru.mv at this; simp at this)
                     subst hA3
                     have hlen3 : ¬ pl < r3.length := by rw [Q3.out]; exact hlen
                     obtain ⟨n3, hn3⟩ : ∃ n3, n3 = r3.length := ⟨_, rfl⟩
                     have HN3 := Lib.hid hn3
                     rw [← hn3] at hlen3 rc3 ⊢
                     have hb3 : n3 ≤ 17592186044416 := by rw [hn3, q3.out, List.length_append]; exact HFL.out
                     have f4 : decide ((pl : Int) < (n3 : Int)) = false := by simp; omega
                     have HD3 := Lib.hid lt3
                     clear g3 o3 q3 hn3 lt3))
                have T3 := Lib.hid (HT1.out.below B3.out)
                have QR := Lib.hid (show r3 = nms La' by
                  rw [← HCUT.out, Lru.cut, ← Q3.out, ← HN3.out, show n3 - pl = 0 by omega, List.drop_zero])
                obtain ⟨rr, hrr⟩ : ∃ rr, rr = r3 := ⟨_, rfl⟩
                rw [← hrr] at QR
                have LR := Lib.hid (show n3 = rr.length by rw [hrr, HN3.out])
                have RL3 := Lib.hid (show Ri w3 w3.heap.size (some ⟨g3', 0, none⟩) rr by rw [hrr]; exact OwnsI.reads O3.out)
                clear O3 hrr
                go_wp2_with fail
                refine (numbers_int T3.out.a.choose_spec.choose_spec (by have := T3.out.inv.la; simp [nms] at this; omega)).mono ?_
                rintro e w4 ⟨A4, c4, rfl, o4, b4⟩
                have T4 := Lib.hid (T3.out.below b4)
                have O4 := Lib.hid (OwnsI.reads o4)
                have RL4 := Lib.hid (RL3.out.below b4 (Nat.le_refl _))
                have FO := sameInts_any A4 (some ⟨g3', 0, none⟩) c4 c3 (nms La') rr w4 _ _ O4.out RL4.out (by have := T3.out.inv.la; omega)
                rw [show (nms La').length = La'.length by simp [nms], show rr.length = n3 from LR.out.symm] at FO
                have SZ4 := Lib.hid b4.size
                clear o4 b4
                go_wp2_with fail
                refine FO.mono ?_
                rintro e w5 ⟨rfl, b5⟩
                have T5 := Lib.hid (T4.out.below b5)
                have RL5 := Lib.hid (RL4.out.below b5 SZ4.out)
                have SZ5 := Lib.hid b5.size
                rw [decide_eq_true QR.out.symm]
                have LA' := Lib.hid (show La'.length = n3 by rw [LR.out, QR.out]; simp [nms])
                clear FO b5 T4 O4 RL4
                go_wp2_with fail
                refine (count_int T5.out.a.choose_spec.choose_spec).mono ?_
                rintro e w' ⟨rfl, rfl⟩
                rw [LA'.out]
                go_wp2_with fail
                refine (count_int T5.out.b.choose_spec.choose_spec).mono ?_
                rintro e w' ⟨rfl, rfl⟩
                have LBB : ¬ (mo : Int) < (Lb'.length : Int) := by have := T5.out.inv.lb; simp [nms] at this; omega
                go_wp2_with fail
                go_roundw
                case rel =>
                  refine ⟨k + 1, La', Lb', _, _, by omega, by go_num, by rw [show (nms La').length = n3 by rw [← QR.out]; exact LR.out.symm], ?_, by have h := RL5.out.mono (show w3.heap.size ≤ w5.heap.size by have := SZ4.out; have := SZ5.out; omega); rw [QR.out] at h; exact h, ?_, T5.out⟩
                  · rw [show (nms La').length = La'.length by simp [nms], LA'.out]; omega
                  · intro bb oo vv hh
                    injection hh with hh; injection hh with e1 e2 e3; subst e1
                    obtain ⟨_, _, xA⟩ := HT1.out.a
                    obtain ⟨_, _, xB⟩ := HT1.out.b
                    exact ⟨fun h => by have := xA.lt _ h; have := HD3.out; omega, fun h => by have := xB.lt _ h; have := HD3.out; omega⟩
                case measure => simp [intOf] <;> omega
        · rw [decide_eq_false hmem]
          clear cA cA1 la1 na1 ka1 ea1
          go_wp2_with fail
          refine (get_last cB HT.out.1.lb x HWF.out).mono ?_
          rintro e W1 ⟨v2, Lb', h2', m2', rfl, cB1, lb1, nb1, kb1, eb1⟩
          have hna := S1.out.2.2.1
          rw [if_neg hmem] at hna
          have HT1 := Lib.hid (HT.out.1.step ⟨_, _, S1.out.1⟩ S1.out.2.1 S1.out.2.2.2.1 (fun k hk => .inl (S1.out.2.2.2.2 k hk)) ⟨_, _, cB1⟩ lb1 kb1 (fun k hk => .inl (eb1 k hk)) (by
            rw [hna, nb1]
            by_cases hmB : x ∈ nms Lb
            · rw [if_pos hmB]; exact HT.out.1.inv.far hmem hmB
            · rw [if_neg hmB]; exact HT.out.1.inv))
          have HR1 := Lib.hid (((HT.out.2.1.kept (Nat.le_refl _) S1.out.2.2.2.1 (fun b o v e => (HT.out.2.2 b o v e).1)).mono S1.out.2.2.2.1.size).kept (Nat.le_refl _) kb1 (fun b o v e => (HT.out.2.2 b o v e).2))
          have HR1 := Lib.hid (HR1.out.mono kb1.size)
          have HF1 := Lib.hid (show Far ca ma cb mb La' Lb' A1 from fun b o v e => ⟨fun h => (HT.out.2.2 b o v e).1 (S1.out.2.2.2.2 _ h), fun h => (HT.out.2.2 b o v e).2 (eb1 _ h)⟩)
          have HNA := Lib.hid hna
          clear cB cB1 lb1 nb1 kb1 eb1 S1 hna HT hmem
          go_wp2_with fail
          go_roundw
          case rel => exact ⟨k + 1, La', Lb', A1, c1, by omega, by go_num, by rw [HNA.out, ← HLL.out, HQ.out], by rw [HNA.out, ← HLL.out, ← HQ.out]; exact HC1.out, by rw [HNA.out, ← HLL.out]; exact HR1.out, HF1.out, HT1.out⟩
          case measure => simp [intOf] <;> omega
    · obtain rfl : k = n := by omega
      have hd : decide ((k : Int) < (k : Int)) = false := by simp
      have HB := Lib.hid hT.bel
      clear hT hR hF
      go_wp2_with fail
      go_ret
      exact ⟨rfl, HB.out⟩
end Go.Proofs.Ytghakgepchlpgaa
