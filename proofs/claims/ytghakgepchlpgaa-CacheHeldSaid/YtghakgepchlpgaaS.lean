/- THE WALK OF CacheHeld. -/
import Derived.Test.YtghakgepchlpgaaR
import Derived.StillTailTactics
namespace Go.Proofs.Ytghakgepchlpgaa
open Go.RowKit Go.Maps
/-- is a number among the first j? -/
def among (x : Int) (H : List (Int × Int)) (j : Nat) : Bool := (H.take j).any fun h => h.1 == x
theorem among_succ (x : Int) (H : List (Int × Int)) (j : Nat) (hj : j < H.length) : among x H (j + 1) = (among x H j || ((H.getD j (0, 0)).1 == x)) := by
  unfold among
  rw [List.take_succ_eq_append_getElem hj, List.any_append]
  simp [List.getD, hj]
theorem among_all (x : Int) (H : List (Int × Int)) : among x H H.length = true ↔ ∃ h ∈ H, h.1 = x := by
  unfold among
  rw [List.take_length, List.any_eq_true]
  simp
theorem Hld.append {w0 w w' : World} {ca ma p : Nat} {L : List Ent} {hv hv' : Value} {H H' Hs : List (Int × Int)} (h : Hld w0 w ca ma p L hv H Hs) (hg : w.grownBy w' hv.ownBlock) (own : OwnsU w' w0.heap.size hv' H') (loc : hv'.ownBlock = hv.ownBlock ∨ hv'.ownBlock = some w.heap.size) :
    Hld w0 w' ca ma p L hv' H' Hs := by
  have hk : Kept (fun k => hv.ownBlock = some k) w w' := (Kept.refl _ w).grown hg (fun k hk => hk)
  refine ⟨h.here.imp fun _ ⟨m, x⟩ => ⟨m, x.kept hk (fun q hq e => h.far q e hq)⟩, own, fun g hgv hb => ?_, h.low, h.len, h.sup, h.bel.trans (hk.below (fun k hk => (h.own.lt k hk).1) h.bel.size)⟩
  rcases loc with e | e
  · exact h.far g (e ▸ hgv) hb
  · rw [e] at hgv
    injection hgv with hgv
    obtain ⟨_, _, hc⟩ := h.here
    have := hc.lt g hb
    omega
set_option maxHeartbeats 8000000 in
set_option maxRecDepth 100000 in
theorem cacheHeld_walk (A B : Option Addr) (c d : Nat) (s : Int) (pins l : List (Int × Int)) (w : World) (hs : -9223372036854775808 ≤ s ∧ s ≤ 9223372036854775807)
    (hrp : Ru w w.heap.size A pins) (hlp : pins.length ≤ 9223372036854775807) (hwp : ∀ e ∈ pins, Wf e.1) (hr : Ru w w.heap.size B l) (hl : l.length ≤ 9223372036854775807) (hw : ∀ e ∈ l, Wf e.1) :
    Calls Try.prog 5 #[.int .i64 s, .slice A pins.length c, .slice B l.length d] w fun e w' => e = .returned (.bool true) ∧ Below w.heap.size w w' := by
  have HRP := Lib.hid (fun (W : World) (h : Below w.heap.size w W) => hrp.below h (Nat.le_refl _))
  have HR := Lib.hid (fun (W : World) (h : Below w.heap.size w W) => hr.below h (Nat.le_refl _))
  have P1 := Lib.hid (fun W => pick_any s 20 (by omega) W hs.1 hs.2)
  obtain ⟨a1, a2⟩ := pickN_in s 20 (by omega)
  obtain ⟨pl, hpl⟩ : ∃ x : Nat, (1 : Int) + pickN s 20 = (x : Int) := ⟨(1 + pickN s 20).toNat, by omega⟩
  have hp1 : 1 ≤ pl := by omega
  have hp2 : pl ≤ 20 := by omega
  generalize pickN s 20 = ps at *
  have HWP := Lib.hid hwp
  have HW := Lib.hid hw
  obtain ⟨np, hnp⟩ : ∃ n, n = pins.length := ⟨_, rfl⟩
  obtain ⟨n, hn⟩ : ∃ n, n = l.length := ⟨_, rfl⟩
  rw [← hn] at hl ⊢
  rw [← hnp] at hlp ⊢
  have HN := Lib.hid (And.intro hnp hn)
  clear hr hw hs hn hrp hwp hnp
  go_enter Try.func5, Try.ntmps5
  go_wp2_with fail
  refine (shown_true w).mono ?_
  rintro e w1 ⟨rfl, b0⟩
  have B1 := Lib.hid b0
  clear b0
  go_wp2_with fail
  refine (P1.out _).mono ?_
  rintro e w' ⟨rfl, rfl⟩
  go_wp2_with fail
  clear a1 a2 hpl P1
  refine (new_int (pl : Int) w1 (by omega) (by omega)).mono ?_
  rintro e w2 ⟨rfl, ca1, b2⟩
  obtain ⟨ca, hca⟩ : ∃ x, x = w1.heap.size + 1 := ⟨_, rfl⟩
  obtain ⟨ma, hma⟩ : ∃ x, x = w1.heap.size := ⟨_, rfl⟩
  have HT0 := Lib.hid (show Hld w w2 ca ma pl [] (.slice none 0 0) [] [] by
    have s1 := B1.out.size
    refine ⟨⟨0, 0, by rw [hca, hma]; exact ca1⟩, OwnsU.nil _ _, (fun g hg => nomatch hg), ?_, by simp, ⟨(fun h hh => nomatch hh), (fun h hh => nomatch hh)⟩, B1.out.trans (b2.mono B1.out.size)⟩
    rintro k (h | h | ⟨e, he, _⟩)
    · omega
    · omega
    · nomatch he)
  rw [← hca]
  clear ca1 b2 hca hma B1
  go_wp2_with fail
  go_loopw [10, 11] (fun hv iv wr => ∃ (k : Nat) (L : List Ent) (A1 : Option Addr) (c1 : Nat) (H : List (Int × Int)), k ≤ np ∧ iv = .int .i64 k ∧ hv = .slice A1 H.length c1 ∧ nms L = H.map (·.1) ∧ Hld w wr ca ma pl L (.slice A1 H.length c1) H H) (fun _ iv _ => np - (intOf iv).toNat)
  case atStart => exact ⟨0, [], none, 0, [], by omega, rfl, rfl, rfl, HT0.out⟩
  case round =>
    obtain ⟨k, L, A1, c1, H, hk, rfl, rfl, hnm, hT⟩ := hrel
    have hHL : H.length = L.length := by have := congrArg List.length hnm; simp [nms] at this; omega
    obtain ⟨q, hq⟩ : ∃ q, q = H.length := ⟨_, rfl⟩
    have hql : q ≤ pl := by have := hT.len; omega
    rw [← hq]
    have HQ := Lib.hid (And.intro hq hHL)
    have HT := Lib.hid (And.intro hT hnm)
    by_cases hgo : k < np ∧ q < pl
    · obtain ⟨hlt, hqp⟩ := hgo
      have R1 := HRP.out wr hT.bel
      rcases R1 with R1 | ⟨b, off, rfl, hb, hc⟩
      · have := HN.out.1; rw [R1] at this; simp at this; omega
      obtain ⟨d1, d2⟩ := hc k (by rw [← HN.out.1]; exact hlt)
      have hwf : Wf (pins.getD k (0, 0)).1 := HWP.out _ (by
        have hk' : k < pins.length := by rw [← HN.out.1]; exact hlt
        simp [List.getD, hk'])
      obtain ⟨z, hz⟩ : ∃ z, z = pins.getD k (0, 0) := ⟨_, rfl⟩
      rw [← hz] at d1 d2 hwf
      obtain ⟨x, hx⟩ : ∃ x, x = z.1 := ⟨_, rfl⟩
      obtain ⟨y, hy⟩ : ∃ y, y = z.2 := ⟨_, rfl⟩
      rw [← hx] at d1 hwf
      rw [← hy] at d2
      have HWF := Lib.hid hwf
      have HXY := Lib.hid (And.intro hx hy)
      clear hz hc hwf hx hy hT hnm hq hHL
      have hd : decide ((k : Int) < (np : Int)) = true := by simp; omega
      have hdq : decide ((q : Int) < (pl : Int)) = true := by simp; omega
      have wk : IntKind.i64.wrap ((k : Int) + 1) = ((k + 1 : Nat) : Int) := by rw [IntKind.wrap_i64]; omega
      obtain ⟨W0, hW0⟩ : ∃ W, W = wr := ⟨_, rfl⟩
      subst hW0
      go_wp2_with fail
      go_loopw [12, 13] (fun tv jv wx => ∃ j : Nat, j ≤ q ∧ jv = .int .i64 j ∧ tv = .bool (among x H j) ∧ Below W0.heap.size W0 wx) (fun _ jv _ => q - (intOf jv).toNat)
      case atStart => exact ⟨0, by omega, rfl, rfl, Below.refl _ _⟩
      case round =>
        obtain ⟨j, hj, rfl, rfl, hbx⟩ := hrel
        by_cases hjq : j < q
        · obtain ⟨g, hg, hgb, _⟩ := HT.out.1.own.some_ (by rw [← HQ.out.1]; omega)
          have hg' := hg
          have own := HT.out.1.own
          subst hg
          have e1 := (own.at_ j (by rw [← HQ.out.1]; exact hjq)).1
          have e1' : wr.cell? ⟨g, j * 2, none⟩ = some (.int .i64 (H.getD j (0, 0)).1) := World.cell_below_some hbx (Nat.le_refl _) e1
          have d1' : wr.cell? ⟨b, off + k * 2, none⟩ = some (.int .i64 x) := World.cell_below_some hbx (Nat.le_refl _) d1
          have ham := among_succ x H j (by rw [← HQ.out.1]; exact hjq)
          obtain ⟨u, hu⟩ : ∃ u, u = (H.getD j (0, 0)).1 := ⟨_, rfl⟩
          rw [← hu] at e1' ham
          obtain ⟨t, ht⟩ : ∃ t, t = among x H j := ⟨_, rfl⟩
          rw [← ht] at ham ⊢
          have HAM := Lib.hid ham
          have HBX := Lib.hid hbx
          have hdj : decide ((j : Int) < (q : Int)) = true := by simp; omega
          have hdj2 : decide (j < q) = true := by simp; omega
          have wj : IntKind.i64.wrap ((j : Int) + 1) = ((j + 1 : Nat) : Int) := by rw [IntKind.wrap_i64]; omega
          clear hbx e1 hu ht ham own
          cases t
          · go_wp2_with fail
            go_quiet (fail)
            go_wp2_with fail
            go_roundw
            case rel => exact ⟨j + 1, by omega, by go_num, by rw [HAM.out]; simp, below_drewN HBX.out _⟩
            case measure => simp [intOf] <;> omega
          · go_wp2_with fail
            go_quiet (fail)
            go_wp2_with fail
            go_roundw
            case rel => exact ⟨j + 1, by omega, by go_num, by rw [HAM.out]; simp, below_drewN HBX.out _⟩
            case measure => simp [intOf] <;> omega
        · obtain rfl : j = q := by omega
          have hdj : decide ((j : Int) < (j : Int)) = false := by simp
          have HT2 := Lib.hid (HT.out.1.below hbx)
          have HAL := Lib.hid (among_all x H)
          have hjl := HQ.out.1
          obtain ⟨t, ht⟩ : ∃ t, t = among x H j := ⟨_, rfl⟩
          have HTT := Lib.hid ht
          rw [← ht]
          have d1' : wr.cell? ⟨b, off + k * 2, none⟩ = some (.int .i64 x) := World.cell_below_some hbx (Nat.le_refl _) d1
          have d2' : wr.cell? ⟨b, off + k * 2 + 1, none⟩ = some (.int .i64 y) := World.cell_below_some hbx (Nat.le_refl _) d2
          have HLOW := Lib.hid (And.intro hb HT.out.1.bel.size)
          have HBX0 := Lib.hid hbx
          clear hbx ht hjl
          cases t
          · have hnoH : ∀ h ∈ H, h.1 ≠ x := fun h hh he => by
              have := HAL.out.2 ⟨h, hh, he⟩
              rw [← HQ.out.1, ← HTT.out] at this
              cases this
            have hnoL : ∀ e ∈ L, e.n ≠ x := fun e he hen => by
              have : x ∈ nms L := List.mem_map.2 ⟨e, he, hen⟩
              rw [HT.out.2] at this
              obtain ⟨h, hh, hx⟩ := List.mem_map.1 this
              exact hnoH h hh hx
            have HNO := Lib.hid (And.intro hnoH hnoL)
            have W1 := Lib.hid (HT2.out.below (w' := wr.drew) (Below.refl _ _).drew)
            clear hnoH hnoL
            go_wp2_with fail
            go_still_tail 11, (by kernel_rfl)
            change wpList _ _ _ _ _ wr.drew
            have HBD := Lib.hid ((Below.refl w.heap.size wr).drew)
            have e1 : wr.drew.cell? ⟨b, off + k * 2, none⟩ = some (.int .i64 x) := d1'
            have e2 : wr.drew.cell? ⟨b, off + k * 2 + 1, none⟩ = some (.int .i64 y) := d2'
            clear d1' d2'
            generalize World.drew wr = W2 at W1 e1 e2 HBD ⊢
            go_wp2_with fail
            obtain ⟨hh, mm, cA⟩ := W1.out.here
            refine (put_room cA x y HWF.out HNO.out.2 (by have h1 := HQ.out.1; have h2 := HQ.out.2; omega) (by omega)).mono ?_
            rintro e w5 ⟨rfl, bn, c5, k5, hbn⟩
            have be5 := k5.below W1.out.low W1.out.bel.size
            have f1 : w5.cell? ⟨b, off + k * 2, none⟩ = some (.int .i64 x) := (be5.cell (p := ⟨b, off + k * 2, none⟩) HLOW.out.1).trans e1
            have f2 : w5.cell? ⟨b, off + k * 2 + 1, none⟩ = some (.int .i64 y) := (be5.cell (p := ⟨b, off + k * 2 + 1, none⟩) HLOW.out.1).trans e2
            have C5 := Lib.hid (And.intro c5 (And.intro k5 hbn))
            clear cA c5 k5 hbn be5 e1 e2
            go_wp2_with fail
            refine (pin_some (u := L) (v := []) (e := ⟨bn, x, .int .i64 y, 0⟩) C5.out.1).mono ?_
            rintro e w6 ⟨rfl, c6, k6⟩
            have k56 : Kept (Bl ca ma L) W2 w6 := C5.out.2.1.trans' (S := Bl ca ma L) (T := Bl ca ma L) (g := bn) (n := bn) (k6.mono (fun k _ hk => by
              rcases hk with hk | hk | ⟨e, he, hk⟩
              · exact .inr (.inl hk)
              · exact .inr (.inr (.inl hk))
              · rcases List.mem_append.1 he with he | he
                · exact .inr (.inr (.inr ⟨e, he, hk⟩))
                · obtain rfl := List.mem_singleton.1 he; exact .inl hk.symm)) rfl C5.out.2.2 (fun k hk => hk)
            have H6 := Lib.hid (W1.out.step ⟨_, _, c6⟩ (sup_pin (b := bn) (n := x) (x := y) W1.out.sup) (by have h1 := HQ.out.1; have h2 := HQ.out.2; simp; omega) k56 (fun k hk => bl_snoc (w := W2) (fun y hy => hy) C5.out.2.2 hk))
            have be6 := k56.below W1.out.low W1.out.bel.size
            have g1 : w6.cell? ⟨b, off + k * 2, none⟩ = some (.int .i64 x) := (be6.cell (p := ⟨b, off + k * 2, none⟩) HLOW.out.1).trans ((HBD.out.cell (p := ⟨b, off + k * 2, none⟩) HLOW.out.1).trans (World.cell_below_some HBX0.out (Nat.le_refl _) d1))
            have g2 : w6.cell? ⟨b, off + k * 2 + 1, none⟩ = some (.int .i64 y) := (be6.cell (p := ⟨b, off + k * 2 + 1, none⟩) HLOW.out.1).trans ((HBD.out.cell (p := ⟨b, off + k * 2 + 1, none⟩) HLOW.out.1).trans (World.cell_below_some HBX0.out (Nat.le_refl _) d2))
            have hjl2 : (H.length + 1) * 16 ≤ 140737488355328 := by have h1 := HQ.out.1; omega
            have HJL := Lib.hid hjl2
            have eqj := HQ.out.1
            subst eqj
            have H7 := Lib.hid (H6.out.below ((Below.refl w6.heap.size w6).alloc (Nat.le_refl _) (.cells #[.int .i64 x, .int .i64 y] 31)))
            clear c6 k6 k56 be6 hjl2 f1 f2
            go_wp2_with (first
              | (at_builtin
                 refine wpList_append_pair rfl (.tmp 94) (.tmp 99) rfl w.heap.size _ H (x, y) rfl H7.out.own w6.heap.size 1 rfl (Blk.new w6 31 #[.int .i64 x, .int .i64 y]) HJL.out H7.out.bel.size ?_
                 intro A3 c3 w7 r3 q3 rc3 o3 g3 l3
                 have H8 := Lib.hid (H7.out.append g3 o3 l3)
                 have Q3 := Lib.hid (show r3 = H ++ [(x, y)] from q3.out)
                 clear g3 o3 q3 rc3 l3))
            go_roundw
            case rel => exact ⟨k + 1, L ++ [⟨bn, x, .int .i64 y, wrap64 (0 + 1)⟩], A3, c3, r3, by omega, by go_num, rfl, by rw [Q3.out, nms, List.map_append, List.map_append, ← HT.out.2]; simp [nms], by have h := H8.out; rw [← Q3.out] at h; exact h⟩
            case measure => simp [intOf] <;> omega
          · go_wp2_with fail
            go_roundw
            case rel => exact ⟨k + 1, L, A1, c1, H, by omega, by go_num, by rw [← HQ.out.1], HT.out.2, HT2.out⟩
            case measure => simp [intOf] <;> omega
    · by_cases hlt : k < np
      · have hqp : ¬ q < pl := fun h => hgo ⟨hlt, h⟩
        have hd : decide ((k : Int) < (np : Int)) = true := by simp; omega
        have hdq : decide ((q : Int) < (pl : Int)) = false := by simp; omega
        have HT9 := Lib.hid (show Hld w wr ca ma pl L (.slice A1 q c1) H H by rw [hq]; exact hT)
        clear hT hnm hHL hq HT hgo
        go_wp2_with fail
        clear hdq hqp
        go_loopw [14] (fun iv wx => ∃ (k : Nat) (L : List Ent) (H : List (Int × Int)), k ≤ n ∧ iv = .int .i64 k ∧ H.length = q ∧ Hld w wx ca ma pl L (.slice A1 q c1) H H) (fun iv _ => n - (intOf iv).toNat)
        case atStart => exact ⟨0, L, H, by omega, rfl, HQ.out.1.symm, HT9.out⟩
        case round =>
          obtain ⟨k, L, H, hk, rfl, hqH, hT⟩ := hrel
          by_cases hlt : k < n
          · have R1 := HR.out wr hT.bel
            rcases R1 with R1 | ⟨b, off, hB, hb, hc⟩
            · have := HN.out.2; rw [R1] at this; simp at this; omega
            subst hB
            obtain ⟨d1, d2⟩ := hc k (by rw [← HN.out.2]; exact hlt)
            have hwf : Wf (l.getD k (0, 0)).1 := HW.out _ (by
              have hk' : k < l.length := by rw [← HN.out.2]; exact hlt
              simp [List.getD, hk'])
            obtain ⟨x, hx⟩ : ∃ x, x = (l.getD k (0, 0)).1 := ⟨_, rfl⟩
            obtain ⟨y, hy⟩ : ∃ y, y = (l.getD k (0, 0)).2 := ⟨_, rfl⟩
            rw [← hx] at d1 hwf
            rw [← hy] at d2
            have HWF := Lib.hid hwf
            have HXL := Lib.hid (show ∀ W : World, Below w.heap.size w W → W.cell? ⟨b, off + k * 2, none⟩ = some (.int .i64 x) ∧ W.cell? ⟨b, off + k * 2 + 1, none⟩ = some (.int .i64 y) from fun W hW => by
              rcases HR.out W hW with R | ⟨b', off', hB', _, hc'⟩
              · have := HN.out.2; rw [R] at this; simp at this; omega
              · injection hB' with hB'; injection hB' with e1 e2 e3; subst e1; subst e2
                obtain ⟨p1, p2⟩ := hc' k (by rw [← HN.out.2]; exact hlt)
                rw [hx, hy]; exact ⟨p1, p2⟩)
            clear hwf hx hy hc
            have hd : decide ((k : Int) < (n : Int)) = true := by simp; omega
            have wk : IntKind.i64.wrap ((k : Int) + 1) = ((k + 1 : Nat) : Int) := by rw [IntKind.wrap_i64]; omega
            have W1 := Lib.hid (hT.below (w' := wr.drew) (Below.refl _ _).drew)
            have HQH := Lib.hid hqH
            clear hT hqH
            go_wp2_with fail
            go_still_tail 11, (by kernel_rfl)
            change wpList _ _ _ _ _ wr.drew
            have e1 : wr.drew.cell? ⟨b, off + k * 2, none⟩ = some (.int .i64 x) := d1
            have e2 : wr.drew.cell? ⟨b, off + k * 2 + 1, none⟩ = some (.int .i64 y) := d2
            clear d1 d2
            generalize World.drew wr = W2 at W1 e1 e2 ⊢
            go_wp2_with fail
            obtain ⟨hh, mm, cA⟩ := W1.out.here
            refine (put_held cA W1.out.sup (by have := W1.out.len; omega) (by omega) (by omega) x y HWF.out).mono ?_
            rintro e w5 ⟨v5, L5, rfl, c5, s5, l5, k5, x5⟩
            have H5 := Lib.hid (W1.out.step ⟨_, _, c5⟩ s5 (by omega) k5 x5)
            clear cA c5 s5 l5 k5 x5 e1 e2
            go_wp2_with fail
            go_loopw [15] (fun jv wx => ∃ j : Nat, j ≤ q ∧ jv = .int .i64 j ∧ Hld w wx ca ma pl L5 (.slice A1 q c1) (upK x y H j) (upH x y H)) (fun jv _ => q - (intOf jv).toNat)
            case atStart => exact ⟨0, by omega, rfl, H5.out⟩
            case round =>
              obtain ⟨j, hj, rfl, hJ⟩ := hrel
              by_cases hjq : j < q
              · obtain ⟨g, hg, hgb, -⟩ := hJ.own.some_ (by rw [upK_len, HQH.out]; omega)
                subst hg
                have hq' : q = (upK x y H j).length := by rw [upK_len, HQH.out]
                have own := hJ.own
                have HJ := Lib.hid hJ
                conv at own => arg 3; rw [hq']
                have e1 := (own.at_ j (by rw [← hq']; exact hjq)).1
                have e2 := (own.at_ j (by rw [← hq']; exact hjq)).2
                have fz := own.free (j * 2 + 1)
                rw [upK_at x y H j (by rw [HQH.out]; exact hjq)] at e1
                obtain ⟨f1, f2⟩ := HXL.out wr hJ.bel
                obtain ⟨u, hu⟩ : ∃ u, u = (H.getD j (0, 0)).1 := ⟨_, rfl⟩
                rw [← hu] at e1
                have hus := upK_succ x y H j (by rw [HQH.out]; exact hjq)
                rw [← hu] at hus
                have HUS := Lib.hid (And.intro hus (And.intro hu hq'))
                generalize ((upK x y H j).getD j (0, 0)).2 = oldx at e2
                have hdj : decide ((j : Int) < (q : Int)) = true := by simp; omega
                have hdj2 : decide (j < q) = true := by simp; omega
                have wj : IntKind.i64.wrap ((j : Int) + 1) = ((j + 1 : Nat) : Int) := by rw [IntKind.wrap_i64]; omega
                clear hJ own hus hu hq'
                by_cases hux : u = x
                · have huq : (u == x) = true := by simpa using hux
                  go_wp2_with fail
                  go_quiet (fail)
                  have e2' : (wr.drewN nq).cell? ⟨g, j * 2 + 1, none⟩ = some (.int .i64 oldx) := e2
                  have f2' : (wr.drewN nq).cell? ⟨b, off + k * 2 + 1, none⟩ = some (.int .i64 y) := f2
                  have fz' : (wr.drewN nq).frozen? ⟨g, j * 2 + 1, none⟩ = false := fz
                  have HJ2 := Lib.hid (HJ.out.below (w' := wr.drewN nq) (below_drewN (Below.refl _ _) nq))
                  generalize World.drewN wr nq = W7 at e2' f2' fz' HJ2 ⊢
                  go_wp2_with fail
                  go_roundw
                  case rel =>
                    refine ⟨j + 1, by omega, by go_num, ?_⟩
                    have h7 := HJ2.out
                    conv at h7 => arg 7; rw [HUS.out.2.2]
                    have h8 := h7.put j (by rw [← HUS.out.2.2]; exact hjq) y
                    rw [upK_at x y H j (by rw [HQH.out]; exact hjq), ← HUS.out.2.1] at h8
                    rw [HUS.out.1, if_pos hux]
                    rw [← HUS.out.2.2] at h8
                    exact h8
                  case measure => simp [intOf] <;> omega
                · have huq : (u == x) = false := by simpa using hux
                  go_wp2_with fail
                  go_quiet (fail)
                  go_wp2_with fail
                  go_roundw
                  case rel => exact ⟨j + 1, by omega, by go_num, by rw [HUS.out.1, if_neg hux]; exact HJ.out.below (below_drewN (Below.refl _ _) _)⟩
                  case measure => simp [intOf] <;> omega
              · obtain rfl : j = q := by omega
                have hJ2 := hJ
                rw [show upK x y H j = upH x y H by conv => lhs; arg 4; rw [← HQH.out]
                                                    exact upK_all x y H] at hJ2
                have HJ := Lib.hid hJ2
                have hdj : decide ((j : Int) < (j : Int)) = false := by simp
                have LH := Lib.hid (show (upH x y H).length = j by unfold upH; simp; exact HQH.out)
                clear hJ hJ2
                obtain ⟨hh8, mm8, cA8⟩ := HJ.out.here
                go_wp2_with fail
                refine (count_int cA8).mono ?_
                rintro e w' ⟨rfl, rfl⟩
                have hcl := HJ.out.len
                have hcd : ¬ (pl : Int) < (L5.length : Int) := by omega
                clear cA8
                by_cases hj0 : ¬ 0 < j
                · have hjd : ¬ (0 : Int) < (j : Int) := by omega
                  have hjd3 : decide (0 < j) = false := by simpa using hj0
                  go_wp2_with fail
                  go_roundw
                  case rel => exact ⟨k + 1, L5, upH x y H, by omega, by go_num, LH.out, HJ.out⟩
                  case measure => simp [intOf] <;> omega
                · have hjd : (0 : Int) < (j : Int) := by omega
                  have hjd2 : 0 < j := by omega
                  obtain ⟨kk, hkk⟩ : ∃ kk : Nat, kk = k % j := ⟨_, rfl⟩
                  have hkq : kk < j := by rw [hkk]; exact Nat.mod_lt _ hjd2
                  have ekk : (k : Int) % (j : Int) = (kk : Int) := by rw [hkk]; exact (Int.natCast_emod k j).symm
                  have HKK := Lib.hid hkk
                  clear hkk
                  obtain ⟨g, hg, hgb, -⟩ := HJ.out.own.some_ (by rw [LH.out]; omega)
                  subst hg
                  have hq' : j = (upH x y H).length := LH.out.symm
                  have own := HJ.out.own
                  conv at own => arg 3; rw [hq']
                  have e1 := (own.at_ kk (by rw [← hq']; exact hkq)).1
                  obtain ⟨z, hz⟩ : ∃ z, z = (upH x y H).getD kk (0, 0) := ⟨_, rfl⟩
                  rw [← hz] at e1
                  have hzm : z ∈ upH x y H := by
                    have hk' : kk < (upH x y H).length := by rw [← hq']; exact hkq
                    rw [hz, List.getD_eq_getElem?_getD, List.getElem?_eq_getElem hk']
                    exact List.getElem_mem hk'
                  have HZ := Lib.hid (And.intro hz (And.intro hzm hq'))
                  obtain ⟨z1, hz1⟩ : ∃ z1, z1 = z.1 := ⟨_, rfl⟩
                  obtain ⟨z2, hz2⟩ : ∃ z2, z2 = z.2 := ⟨_, rfl⟩
                  rw [← hz1] at e1
                  have HZ12 := Lib.hid (And.intro hz1 hz2)
                  clear own hz hzm hq' hz1 hz2
                  go_wp2_with fail
                  obtain ⟨hh9, mm9, cA9⟩ := HJ.out.here
                  have FG := get_held cA9 HJ.out.sup z HZ.out.2.1
                  rw [← HZ12.out.1, ← HZ12.out.2] at FG
                  refine FG.mono ?_
                  rintro e w9 ⟨rfl, L9, hit9, c9, s9, l9, k9, x9⟩
                  have H9 := Lib.hid (HJ.out.step ⟨_, _, c9⟩ s9 (by rw [l9]; exact HJ.out.len) k9 (fun k hk => .inl (x9 k hk)))
                  have own9 := H9.out.own
                  conv at own9 => arg 3; rw [HZ.out.2.2]
                  have e9 := (own9.at_ kk (by rw [← HZ.out.2.2]; exact hkq)).2
                  rw [← HZ.out.1, ← HZ12.out.2] at e9
                  clear FG cA9 c9 s9 l9 k9 x9 own9
                  go_wp2_with fail
                  go_roundw
                  case rel => exact ⟨k + 1, L9, upH x y H, by omega, by go_num, LH.out, H9.out⟩
                  case measure => simp [intOf] <;> omega
          · obtain rfl : k = n := by omega
            have hd : decide ((k : Int) < (k : Int)) = false := by simp
            have HT3 := Lib.hid hT
            have HQH := Lib.hid hqH
            clear hT hqH
            go_wp2_with fail
            go_loopw [19] (fun jv wx => ∃ (j : Nat) (L : List Ent), j ≤ q ∧ jv = .int .i64 j ∧ Hld w wx ca ma pl L (.slice A1 q c1) H H) (fun jv _ => q - (intOf jv).toNat)
            case atStart => exact ⟨0, L, by omega, rfl, HT3.out⟩
            case round =>
              obtain ⟨j, L, hj, rfl, hJ⟩ := hrel
              have HJ := Lib.hid hJ
              clear hJ
              by_cases hjq : j < q
              · have hdj : decide ((j : Int) < (q : Int)) = true := by simp; omega
                have hdj2 : decide (j < q) = true := by simp; omega
                have wj : IntKind.i64.wrap ((j : Int) + 1) = ((j + 1 : Nat) : Int) := by rw [IntKind.wrap_i64]; omega
                obtain ⟨g, hg, hgb, -⟩ := HJ.out.own.some_ (by rw [HQH.out]; omega)
                subst hg
                have hq' : q = (H).length := HQH.out.symm
                have own := HJ.out.own
                conv at own => arg 3; rw [hq']
                have e1 := (own.at_ j (by rw [← hq']; exact hjq)).1
                obtain ⟨z, hz⟩ : ∃ z, z = (H).getD j (0, 0) := ⟨_, rfl⟩
                rw [← hz] at e1
                have hzm : z ∈ H := by
                  have hk' : j < (H).length := by rw [← hq']; exact hjq
                  rw [hz, List.getD_eq_getElem?_getD, List.getElem?_eq_getElem hk']
                  exact List.getElem_mem hk'
                have HZ := Lib.hid (And.intro hz (And.intro hzm hq'))
                obtain ⟨z1, hz1⟩ : ∃ z1, z1 = z.1 := ⟨_, rfl⟩
                obtain ⟨z2, hz2⟩ : ∃ z2, z2 = z.2 := ⟨_, rfl⟩
                rw [← hz1] at e1
                have HZ12 := Lib.hid (And.intro hz1 hz2)
                clear own hz hzm hq' hz1 hz2
                go_wp2_with fail
                obtain ⟨hh9, mm9, cA9⟩ := HJ.out.here
                have FG := get_held cA9 HJ.out.sup z HZ.out.2.1
                rw [← HZ12.out.1, ← HZ12.out.2] at FG
                refine FG.mono ?_
                rintro e w9 ⟨rfl, L9, hit9, c9, s9, l9, k9, x9⟩
                have H9 := Lib.hid (HJ.out.step ⟨_, _, c9⟩ s9 (by rw [l9]; exact HJ.out.len) k9 (fun k hk => .inl (x9 k hk)))
                have own9 := H9.out.own
                conv at own9 => arg 3; rw [HZ.out.2.2]
                have e9 := (own9.at_ j (by rw [← HZ.out.2.2]; exact hjq)).2
                rw [← HZ.out.1, ← HZ12.out.2] at e9
                clear FG cA9 c9 s9 l9 k9 x9 own9
                go_wp2_with fail
                go_roundw
                case rel => exact ⟨j + 1, L9, by omega, by go_num, H9.out⟩
                case measure => simp [intOf] <;> omega
              · obtain rfl : j = q := by omega
                have hdj : decide ((j : Int) < (j : Int)) = false := by simp
                have HB := Lib.hid HJ.out.bel
                go_wp2_with fail
                go_ret
                exact ⟨rfl, HB.out⟩
      · have hd : decide ((k : Int) < (np : Int)) = false := by simp; omega
        have HT9 := Lib.hid (show Hld w wr ca ma pl L (.slice A1 q c1) H H by rw [hq]; exact hT)
        clear hT hnm hHL hq HT hgo
        go_wp2_with fail
        go_loopw [14] (fun iv wx => ∃ (k : Nat) (L : List Ent) (H : List (Int × Int)), k ≤ n ∧ iv = .int .i64 k ∧ H.length = q ∧ Hld w wx ca ma pl L (.slice A1 q c1) H H) (fun iv _ => n - (intOf iv).toNat)
        case atStart => exact ⟨0, L, H, by omega, rfl, HQ.out.1.symm, HT9.out⟩
        case round =>
          obtain ⟨k, L, H, hk, rfl, hqH, hT⟩ := hrel
          by_cases hlt : k < n
          · have R1 := HR.out wr hT.bel
            rcases R1 with R1 | ⟨b, off, hB, hb, hc⟩
            · have := HN.out.2; rw [R1] at this; simp at this; omega
            subst hB
            obtain ⟨d1, d2⟩ := hc k (by rw [← HN.out.2]; exact hlt)
            have hwf : Wf (l.getD k (0, 0)).1 := HW.out _ (by
              have hk' : k < l.length := by rw [← HN.out.2]; exact hlt
              simp [List.getD, hk'])
            obtain ⟨x, hx⟩ : ∃ x, x = (l.getD k (0, 0)).1 := ⟨_, rfl⟩
            obtain ⟨y, hy⟩ : ∃ y, y = (l.getD k (0, 0)).2 := ⟨_, rfl⟩
            rw [← hx] at d1 hwf
            rw [← hy] at d2
            have HWF := Lib.hid hwf
            have HXL := Lib.hid (show ∀ W : World, Below w.heap.size w W → W.cell? ⟨b, off + k * 2, none⟩ = some (.int .i64 x) ∧ W.cell? ⟨b, off + k * 2 + 1, none⟩ = some (.int .i64 y) from fun W hW => by
              rcases HR.out W hW with R | ⟨b', off', hB', _, hc'⟩
              · have := HN.out.2; rw [R] at this; simp at this; omega
              · injection hB' with hB'; injection hB' with e1 e2 e3; subst e1; subst e2
                obtain ⟨p1, p2⟩ := hc' k (by rw [← HN.out.2]; exact hlt)
                rw [hx, hy]; exact ⟨p1, p2⟩)
            clear hwf hx hy hc
            have hd : decide ((k : Int) < (n : Int)) = true := by simp; omega
            have wk : IntKind.i64.wrap ((k : Int) + 1) = ((k + 1 : Nat) : Int) := by rw [IntKind.wrap_i64]; omega
            have W1 := Lib.hid (hT.below (w' := wr.drew) (Below.refl _ _).drew)
            have HQH := Lib.hid hqH
            clear hT hqH
            go_wp2_with fail
            go_still_tail 11, (by kernel_rfl)
            change wpList _ _ _ _ _ wr.drew
            have e1 : wr.drew.cell? ⟨b, off + k * 2, none⟩ = some (.int .i64 x) := d1
            have e2 : wr.drew.cell? ⟨b, off + k * 2 + 1, none⟩ = some (.int .i64 y) := d2
            clear d1 d2
            generalize World.drew wr = W2 at W1 e1 e2 ⊢
            go_wp2_with fail
            obtain ⟨hh, mm, cA⟩ := W1.out.here
            refine (put_held cA W1.out.sup (by have := W1.out.len; omega) (by omega) (by omega) x y HWF.out).mono ?_
            rintro e w5 ⟨v5, L5, rfl, c5, s5, l5, k5, x5⟩
            have H5 := Lib.hid (W1.out.step ⟨_, _, c5⟩ s5 (by omega) k5 x5)
            clear cA c5 s5 l5 k5 x5 e1 e2
            go_wp2_with fail
            go_loopw [15] (fun jv wx => ∃ j : Nat, j ≤ q ∧ jv = .int .i64 j ∧ Hld w wx ca ma pl L5 (.slice A1 q c1) (upK x y H j) (upH x y H)) (fun jv _ => q - (intOf jv).toNat)
            case atStart => exact ⟨0, by omega, rfl, H5.out⟩
            case round =>
              obtain ⟨j, hj, rfl, hJ⟩ := hrel
              by_cases hjq : j < q
              · obtain ⟨g, hg, hgb, -⟩ := hJ.own.some_ (by rw [upK_len, HQH.out]; omega)
                subst hg
                have hq' : q = (upK x y H j).length := by rw [upK_len, HQH.out]
                have own := hJ.own
                have HJ := Lib.hid hJ
                conv at own => arg 3; rw [hq']
                have e1 := (own.at_ j (by rw [← hq']; exact hjq)).1
                have e2 := (own.at_ j (by rw [← hq']; exact hjq)).2
                have fz := own.free (j * 2 + 1)
                rw [upK_at x y H j (by rw [HQH.out]; exact hjq)] at e1
                obtain ⟨f1, f2⟩ := HXL.out wr hJ.bel
                obtain ⟨u, hu⟩ : ∃ u, u = (H.getD j (0, 0)).1 := ⟨_, rfl⟩
                rw [← hu] at e1
                have hus := upK_succ x y H j (by rw [HQH.out]; exact hjq)
                rw [← hu] at hus
                have HUS := Lib.hid (And.intro hus (And.intro hu hq'))
                generalize ((upK x y H j).getD j (0, 0)).2 = oldx at e2
                have hdj : decide ((j : Int) < (q : Int)) = true := by simp; omega
                have hdj2 : decide (j < q) = true := by simp; omega
                have wj : IntKind.i64.wrap ((j : Int) + 1) = ((j + 1 : Nat) : Int) := by rw [IntKind.wrap_i64]; omega
                clear hJ own hus hu hq'
                by_cases hux : u = x
                · have huq : (u == x) = true := by simpa using hux
                  go_wp2_with fail
                  go_quiet (fail)
                  have e2' : (wr.drewN nq).cell? ⟨g, j * 2 + 1, none⟩ = some (.int .i64 oldx) := e2
                  have f2' : (wr.drewN nq).cell? ⟨b, off + k * 2 + 1, none⟩ = some (.int .i64 y) := f2
                  have fz' : (wr.drewN nq).frozen? ⟨g, j * 2 + 1, none⟩ = false := fz
                  have HJ2 := Lib.hid (HJ.out.below (w' := wr.drewN nq) (below_drewN (Below.refl _ _) nq))
                  generalize World.drewN wr nq = W7 at e2' f2' fz' HJ2 ⊢
                  go_wp2_with fail
                  go_roundw
                  case rel =>
                    refine ⟨j + 1, by omega, by go_num, ?_⟩
                    have h7 := HJ2.out
                    conv at h7 => arg 7; rw [HUS.out.2.2]
                    have h8 := h7.put j (by rw [← HUS.out.2.2]; exact hjq) y
                    rw [upK_at x y H j (by rw [HQH.out]; exact hjq), ← HUS.out.2.1] at h8
                    rw [HUS.out.1, if_pos hux]
                    rw [← HUS.out.2.2] at h8
                    exact h8
                  case measure => simp [intOf] <;> omega
                · have huq : (u == x) = false := by simpa using hux
                  go_wp2_with fail
                  go_quiet (fail)
                  go_wp2_with fail
                  go_roundw
                  case rel => exact ⟨j + 1, by omega, by go_num, by rw [HUS.out.1, if_neg hux]; exact HJ.out.below (below_drewN (Below.refl _ _) _)⟩
                  case measure => simp [intOf] <;> omega
              · obtain rfl : j = q := by omega
                have hJ2 := hJ
                rw [show upK x y H j = upH x y H by conv => lhs; arg 4; rw [← HQH.out]
                                                    exact upK_all x y H] at hJ2
                have HJ := Lib.hid hJ2
                have hdj : decide ((j : Int) < (j : Int)) = false := by simp
                have LH := Lib.hid (show (upH x y H).length = j by unfold upH; simp; exact HQH.out)
                clear hJ hJ2
                obtain ⟨hh8, mm8, cA8⟩ := HJ.out.here
                go_wp2_with fail
                refine (count_int cA8).mono ?_
                rintro e w' ⟨rfl, rfl⟩
                have hcl := HJ.out.len
                have hcd : ¬ (pl : Int) < (L5.length : Int) := by omega
                clear cA8
                by_cases hj0 : ¬ 0 < j
                · have hjd : ¬ (0 : Int) < (j : Int) := by omega
                  have hjd3 : decide (0 < j) = false := by simpa using hj0
                  go_wp2_with fail
                  go_roundw
                  case rel => exact ⟨k + 1, L5, upH x y H, by omega, by go_num, LH.out, HJ.out⟩
                  case measure => simp [intOf] <;> omega
                · have hjd : (0 : Int) < (j : Int) := by omega
                  have hjd2 : 0 < j := by omega
                  obtain ⟨kk, hkk⟩ : ∃ kk : Nat, kk = k % j := ⟨_, rfl⟩
                  have hkq : kk < j := by rw [hkk]; exact Nat.mod_lt _ hjd2
                  have ekk : (k : Int) % (j : Int) = (kk : Int) := by rw [hkk]; exact (Int.natCast_emod k j).symm
                  have HKK := Lib.hid hkk
                  clear hkk
                  obtain ⟨g, hg, hgb, -⟩ := HJ.out.own.some_ (by rw [LH.out]; omega)
                  subst hg
                  have hq' : j = (upH x y H).length := LH.out.symm
                  have own := HJ.out.own
                  conv at own => arg 3; rw [hq']
                  have e1 := (own.at_ kk (by rw [← hq']; exact hkq)).1
                  obtain ⟨z, hz⟩ : ∃ z, z = (upH x y H).getD kk (0, 0) := ⟨_, rfl⟩
                  rw [← hz] at e1
                  have hzm : z ∈ upH x y H := by
                    have hk' : kk < (upH x y H).length := by rw [← hq']; exact hkq
                    rw [hz, List.getD_eq_getElem?_getD, List.getElem?_eq_getElem hk']
                    exact List.getElem_mem hk'
                  have HZ := Lib.hid (And.intro hz (And.intro hzm hq'))
                  obtain ⟨z1, hz1⟩ : ∃ z1, z1 = z.1 := ⟨_, rfl⟩
                  obtain ⟨z2, hz2⟩ : ∃ z2, z2 = z.2 := ⟨_, rfl⟩
                  rw [← hz1] at e1
                  have HZ12 := Lib.hid (And.intro hz1 hz2)
                  clear own hz hzm hq' hz1 hz2
                  go_wp2_with fail
                  obtain ⟨hh9, mm9, cA9⟩ := HJ.out.here
                  have FG := get_held cA9 HJ.out.sup z HZ.out.2.1
                  rw [← HZ12.out.1, ← HZ12.out.2] at FG
                  refine FG.mono ?_
                  rintro e w9 ⟨rfl, L9, hit9, c9, s9, l9, k9, x9⟩
                  have H9 := Lib.hid (HJ.out.step ⟨_, _, c9⟩ s9 (by rw [l9]; exact HJ.out.len) k9 (fun k hk => .inl (x9 k hk)))
                  have own9 := H9.out.own
                  conv at own9 => arg 3; rw [HZ.out.2.2]
                  have e9 := (own9.at_ kk (by rw [← HZ.out.2.2]; exact hkq)).2
                  rw [← HZ.out.1, ← HZ12.out.2] at e9
                  clear FG cA9 c9 s9 l9 k9 x9 own9
                  go_wp2_with fail
                  go_roundw
                  case rel => exact ⟨k + 1, L9, upH x y H, by omega, by go_num, LH.out, H9.out⟩
                  case measure => simp [intOf] <;> omega
          · obtain rfl : k = n := by omega
            have hd : decide ((k : Int) < (k : Int)) = false := by simp
            have HT3 := Lib.hid hT
            have HQH := Lib.hid hqH
            clear hT hqH
            go_wp2_with fail
            go_loopw [19] (fun jv wx => ∃ (j : Nat) (L : List Ent), j ≤ q ∧ jv = .int .i64 j ∧ Hld w wx ca ma pl L (.slice A1 q c1) H H) (fun jv _ => q - (intOf jv).toNat)
            case atStart => exact ⟨0, L, by omega, rfl, HT3.out⟩
            case round =>
              obtain ⟨j, L, hj, rfl, hJ⟩ := hrel
              have HJ := Lib.hid hJ
              clear hJ
              by_cases hjq : j < q
              · have hdj : decide ((j : Int) < (q : Int)) = true := by simp; omega
                have hdj2 : decide (j < q) = true := by simp; omega
                have wj : IntKind.i64.wrap ((j : Int) + 1) = ((j + 1 : Nat) : Int) := by rw [IntKind.wrap_i64]; omega
                obtain ⟨g, hg, hgb, -⟩ := HJ.out.own.some_ (by rw [HQH.out]; omega)
                subst hg
                have hq' : q = (H).length := HQH.out.symm
                have own := HJ.out.own
                conv at own => arg 3; rw [hq']
                have e1 := (own.at_ j (by rw [← hq']; exact hjq)).1
                obtain ⟨z, hz⟩ : ∃ z, z = (H).getD j (0, 0) := ⟨_, rfl⟩
                rw [← hz] at e1
                have hzm : z ∈ H := by
                  have hk' : j < (H).length := by rw [← hq']; exact hjq
                  rw [hz, List.getD_eq_getElem?_getD, List.getElem?_eq_getElem hk']
                  exact List.getElem_mem hk'
                have HZ := Lib.hid (And.intro hz (And.intro hzm hq'))
                obtain ⟨z1, hz1⟩ : ∃ z1, z1 = z.1 := ⟨_, rfl⟩
                obtain ⟨z2, hz2⟩ : ∃ z2, z2 = z.2 := ⟨_, rfl⟩
                rw [← hz1] at e1
                have HZ12 := Lib.hid (And.intro hz1 hz2)
                clear own hz hzm hq' hz1 hz2
                go_wp2_with fail
                obtain ⟨hh9, mm9, cA9⟩ := HJ.out.here
                have FG := get_held cA9 HJ.out.sup z HZ.out.2.1
                rw [← HZ12.out.1, ← HZ12.out.2] at FG
                refine FG.mono ?_
                rintro e w9 ⟨rfl, L9, hit9, c9, s9, l9, k9, x9⟩
                have H9 := Lib.hid (HJ.out.step ⟨_, _, c9⟩ s9 (by rw [l9]; exact HJ.out.len) k9 (fun k hk => .inl (x9 k hk)))
                have own9 := H9.out.own
                conv at own9 => arg 3; rw [HZ.out.2.2]
                have e9 := (own9.at_ j (by rw [← HZ.out.2.2]; exact hjq)).2
                rw [← HZ.out.1, ← HZ12.out.2] at e9
                clear FG cA9 c9 s9 l9 k9 x9 own9
                go_wp2_with fail
                go_roundw
                case rel => exact ⟨j + 1, L9, by omega, by go_num, H9.out⟩
                case measure => simp [intOf] <;> omega
              · obtain rfl : j = q := by omega
                have hdj : decide ((j : Int) < (j : Int)) = false := by simp
                have HB := Lib.hid HJ.out.bel
                go_wp2_with fail
                go_ret
                exact ⟨rfl, HB.out⟩
end Go.Proofs.Ytghakgepchlpgaa
