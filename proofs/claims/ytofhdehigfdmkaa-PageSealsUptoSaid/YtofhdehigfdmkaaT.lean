/- THE WALK OF page.Open: what it answers, of any bytes. -/
import Derived.Test.YtofhdehigfdmkaaS
import Derived.Test.YtofhdehigfdmkaaN
namespace Go.Proofs.Ytofhdehigfdmkaa
open Go.RowKit
theorem exec39 {w : World} {g : Nat} {x y z : Value} {a : Act} {o : Oper} (p : Operand) (ho : o.op = .load 39 p) (hx : a.eval p = .pointer (some ⟨g, 0, none⟩)) (h : Blk w g 39 #[x, y, z]) :
    (execOp a.eval o).run Try.prog w = .ok (.value (.agg #[x, y, z])) w := by
  simp [execOp, ho, hx, Instr.loadAt, Instr.sureAddr, load39 h, Result.andThen]
/-- make([]byte, 0, n) -/
theorem make_cap (n : Nat) (h : n ≤ 281474976710656) (u : World) :
    (Instr.makeSlice 22 (.int .i64 0) (.int .i64 (n : Int))).run Try.prog u = .ok (.slice (some ⟨u.heap.size, 0, none⟩) 0 n) (u.alloc (.cells (arr n fun _ => .int .u8 0) 5)) := by
  obtain ⟨i0, hi, hz0, hz1, hz2⟩ := info_parts info5
  have hr := run_make (P := Try.prog) u 22 5 i0 (.int .u8 0) Try.underlying22 hi hz0 .i64 .i64 0 (n : Int) (by omega) (by omega) (by rw [hz2]; omega) (by omega)
  rw [hz1, Int.toNat_natCast, Nat.mul_one] at hr
  rw [hr, show (Value.int IntKind.u8 0).cells = #[.int .u8 0] from rfl, made_arr]
  rfl
theorem Owns.room (w : World) (base n : Nat) (hb : base ≤ w.heap.size) (hn : n ≤ 140737488355328) : Owns (w.alloc (.cells (arr n fun _ => .int .u8 0) 5)) base (.slice (some ⟨w.heap.size, 0, none⟩) 0 n) [] :=
  World.ownsRow_made w _ n hb (by unfold maxLen; omega) (by simp [arr_size])
set_option maxHeartbeats 1000000 in
set_option maxRecDepth 100000 in
theorem head_none (A : Option Addr) (c n : Nat) (l : List UInt8) (w : World) (hn : l.length = n) (hs : ¬ Page.Sized n) :
    Calls Try.prog 54 #[.slice A n c] w fun e w' => e = .returned (headV l) ∧ Below w.heap.size w w' := by
  have HS := Lib.hid (sized_no n hs)
  have NO : ¬ Page.HeadOk l := fun h => hs (by rw [← hn]; exact h.1)
  go_enter Try.func54, Try.ntmps54
  go_wp2_with (first | (go_at_call 45; refine (HS.out _).mono ?_; rintro e w' ⟨rfl, rfl⟩))
  exact bodyPost_ret (results_cell_two rfl _ _ w.heap.size _ rfl (load39 (Blk.new w 39 _))) rfl ⟨by rw [headV_no NO]; rfl, (Below.refl _ _).alloc (Nat.le_refl _) _⟩
def openBad (k : Int) : Value := .tuple #[.agg #[.int .i64 0, .int .i64 0, .int .u64 0], .slice none 0 0, .int .i64 k]
def openYes (l : List UInt8) (A : Option Addr) (c : Nat) : Value := .tuple #[.agg #[.int .i64 (Page.kindOf l : Int), .int .i64 (Page.numOf l : Int), .int .u64 (Page.genOf l : Int)], .slice A (Page.loadOf l).length c, .int .i64 0]
/-- what Open answers -/
def OpenPost (l : List UInt8) (number : Int) (w w' : World) (v : Value) : Prop :=
  (¬ Page.HeadOk l ∧ v = openBad 32) ∨ (Page.HeadOk l ∧ ¬ Page.SumOk l ∧ v = openBad 34) ∨ (Page.HeadOk l ∧ Page.SumOk l ∧ (Page.numOf l : Int) ≠ number ∧ v = openBad 33) ∨
  (Page.HeadOk l ∧ Page.SumOk l ∧ (Page.numOf l : Int) = number ∧ ∃ A c, v = openYes l A c ∧ (Page.loadOf l).length ≤ c ∧ Owns w' w.heap.size (.slice A (Page.loadOf l).length c) (Page.loadOf l))
set_option maxHeartbeats 1000000 in
set_option maxRecDepth 100000 in
theorem open_any (b off c n : Nat) (number : Int) (l : List UInt8) (w : World) (hn : l.length = n) (hnc : n ≤ c) (hs : Page.Sized n) (hb : b < w.heap.size) (hcl : ∀ k, k < n → w.cell? ⟨b, off + k, none⟩ = some (.int .u8 ((l.getD k 0).toNat : Int))) :
    Calls Try.prog 33 #[.slice (some ⟨b, off, none⟩) n c, .int .i64 number] w fun e w' => ∃ v, e = .returned v ∧ OpenPost l number w w' v ∧ Below w.heap.size w w' := by
  have HH := Lib.hid (fun (W : World) (h : Below w.heap.size w W) => head_any b off c n l W hn hnc hs (Nat.lt_of_lt_of_le hb h.size) (fun k hk => (h.cell (p := ⟨b, off + k, none⟩) hb).trans (hcl k hk)))
  have B0 := Lib.hid ((Below.refl w.heap.size w).alloc (Nat.le_refl _) (.cells #[.int .i64 0, .int .i64 0, .int .u64 0] 39))
  have Z0 := Lib.hid (Blk.new w 39 #[.int .i64 0, .int .i64 0, .int .u64 0])
  obtain ⟨g1, g2⟩ := Page.sized_512 hs
  have n8 : (n : Int) - 8 ≤ (c : Int) := by omega
  have n80 : (0 : Int) ≤ (n : Int) - 8 := by omega
  have HC := Lib.hid (show ∀ W : World, Below w.heap.size w W → ∀ k, k < n → W.cell? ⟨b, off + k, none⟩ = some (.int .u8 ((l.getD k 0).toNat : Int)) from fun W h k hk => (h.cell (p := ⟨b, off + k, none⟩) hb).trans (hcl k hk))
  have HB := Lib.hid hb
  have HN := Lib.hid hn
  clear hn hcl hs hb
  go_enter Try.func33, Try.ntmps33
  go_wp2_with fail
  by_cases hk : Page.HeadOk l
  · refine (HH.out _ B0.out).mono ?_
    rintro e w2 ⟨rfl, b2⟩
    rw [headV_yes hk, yesHead]
    obtain ⟨kind, hkind⟩ : ∃ x, x = Page.kindOf l := ⟨_, rfl⟩
    obtain ⟨num, hnum⟩ : ∃ x, x = Page.numOf l := ⟨_, rfl⟩
    obtain ⟨gen, hgen⟩ : ∃ x, x = Page.genOf l := ⟨_, rfl⟩
    obtain ⟨long, hlong⟩ : ∃ x, x = Page.longOf l := ⟨_, rfl⟩
    rw [← hkind, ← hnum, ← hgen, ← hlong]
    have B2 := Lib.hid ((B0.out.trans (b2.mono B0.out.size)).alloc (B0.out.trans (b2.mono B0.out.size)).size (.cells #[.int .i64 (kind : Int), .int .i64 (num : Int), .int .u64 (gen : Int)] 39))
    have Z2 := Lib.hid ((Z0.out.below b2 Z0.out.lt).alloc (.cells #[.int .i64 (kind : Int), .int .i64 (num : Int), .int .u64 (gen : Int)] 39))
    have N2 := Lib.hid (Blk.new w2 39 #[.int .i64 (kind : Int), .int .i64 (num : Int), .int .u64 (gen : Int)])
    have hz2 : w.heap.size < w2.heap.size := by have := b2.size; simp at this; omega
    have HF := Lib.hid (And.intro hkind (And.intro hnum (And.intro hgen hlong)))
    have HK := Lib.hid hk
    clear b2 B0 Z0 hkind hnum hgen hlong HH hk
    go_wp2_with fail
    obtain ⟨hb, hhb⟩ : ∃ x, x = w2.heap.size := ⟨_, rfl⟩
    rw [← hhb] at N2 hz2 ⊢
    clear hhb
    generalize World.alloc w2 _ = W at B2 Z2 N2 ⊢
    clear w2
    have DL : (l.take (n - 8)).length = n - 8 := by simp [HN.out]
    have FO := of_any (some ⟨b, off, none⟩) c (l.take (n - 8)) W w.heap.size B2.out.size (.inr ⟨b, off, rfl, HB.out, fun k hk => by
      rw [DL] at hk
      rw [Page.take_getD _ _ _ hk]
      exact HC.out W B2.out k (by omega)⟩) (by rw [DL]; unfold maxLen; omega)
    rw [DL] at FO
    refine FO.mono ?_
    rintro e w3 ⟨rfl, b3⟩
    have B3 := Lib.hid (B2.out.trans (b3.mono B2.out.size))
    have Z3 := Lib.hid (Z2.out.below b3 Z2.out.lt)
    have N3 := Lib.hid (N2.out.below b3 N2.out.lt)
    clear b3 FO DL B2 Z2 N2
    obtain ⟨s, hs⟩ : ∃ x, x = Crc.sumOf (l.take (n - 8)) := ⟨_, rfl⟩
    rw [← hs]
    have HS := Lib.hid hs
    clear hs
    go_wp2_with fail
    go_loopw [29] (fun iv wr => ∃ k : Nat, k ≤ 8 ∧ iv = .int .i64 k ∧ (∀ j, j < k → l.getD (n - 8 + j) 0 = Page.leB s j) ∧ Below w3.heap.size w3 wr) (fun iv _ => 8 - (intOf iv).toNat)
    case atStart => exact ⟨0, by omega, rfl, fun j hj => absurd hj (by omega), Below.refl _ _⟩
    case round =>
      obtain ⟨k, hk, rfl, hz, hbel⟩ := hrel
      by_cases hlt : k < 8
      · obtain ⟨j, hj⟩ : ∃ j : Nat, j = n - 8 + k := ⟨_, rfl⟩
        have ej : (n : Int) - 8 + (k : Int) = (j : Int) := by omega
        have hjs : j < n := by omega
        obtain ⟨m, hm⟩ : ∃ m : Nat, m = 8 * k := ⟨_, rfl⟩
        have em : 8 * (k : Int) = (m : Int) := by omega
        have hm64 : m < 64 := by omega
        have HM := Lib.hid (shift_le s k m hm)
        have hc := HC.out wr (B3.out.trans (hbel.mono B3.out.size)) j hjs
        have HW := Lib.hid (And.intro hz hbel)
        have HJ := Lib.hid hj
        have hd : decide ((k : Int) < 8) = true := by simp; omega
        obtain ⟨x, hx⟩ : ∃ x, x = l.getD j 0 := ⟨_, rfl⟩
        rw [← hx] at hc
        have HX := Lib.hid hx
        clear hz hbel hj hm hx
        go_wp2_with fail
        go_quiet (fail)
        have B4 := Lib.hid (below_drewN (B3.out.trans (HW.out.2.mono B3.out.size)) nq)
        have Z4 := Lib.hid (show Blk (wr.drewN nq) w.heap.size 39 #[.int .i64 0, .int .i64 0, .int .u64 0] from (show Blk wr w.heap.size 39 _ from Z3.out.below HW.out.2 Z3.out.lt))
        have HW2 := Lib.hid (below_drewN HW.out.2 nq)
        generalize World.drewN wr nq = W4 at B4 Z4 HW2 ⊢
        rw [IntKind.wrap_u8'] at HM
        generalize hq : ((x.toNat : Int) != (s.toNat : Int) / 2 ^ m % 256) = q
        cases q
        · go_wp2_with fail
          go_roundw
          case rel =>
            refine ⟨k + 1, by omega, by go_num, fun i hi => ?_, HW2.out⟩
            by_cases hik : i < k
            · exact HW.out.1 i hik
            · obtain rfl : i = k := by omega
              rw [← HJ.out, ← HX.out]
              have hq' := hq
              simp only [bne_eq_false_iff_eq] at hq'
              exact UInt8.toNat_inj.1 (by have := HM.out; omega)
          case measure => simp [intOf] <;> omega
        · have NO : ¬ Page.SumOk l := by
            intro h
            have := h k hlt
            rw [HN.out, ← HJ.out, ← HS.out, ← HX.out] at this
            rw [this] at hq
            simp only [bne_iff_ne] at hq
            exact hq HM.out.symm
          go_wp2_with (refine wpList_store_rowTo rfl 39 (.tmp 4) (.tmp 44) rfl rfl w.heap.size #[.int .i64 0, .int .i64 0, .int .u64 0] rfl rfl 39 _ Z4.out (by rw [info39]; rfl) rfl (by kernel_rfl) ?_)
          exact bodyPost_ret (results_cell_two rfl _ _ w.heap.size _ rfl (load39 (Z4.out.row _))) rfl ⟨_, rfl, .inr (.inl ⟨HK.out, NO, rfl⟩), Below.row B4.out (Nat.le_refl _) _⟩
      · obtain rfl : k = 8 := by omega
        have Z4 := Lib.hid (Z3.out.below hbel Z3.out.lt)
        have N4 := Lib.hid (N3.out.below hbel N3.out.lt)
        have B4 := Lib.hid (B3.out.trans (hbel.mono B3.out.size))
        have YES := Lib.hid (show Page.SumOk l from fun i hi => by rw [HN.out, hz i hi, ← HS.out])
        have HL := Lib.hid (show long + 32 ≤ n by have := HK.out.2.2.2.2.2.2.2.2.1; rw [HN.out] at this; rw [HF.out.2.2.2]; omega)
        clear hz hbel B3 Z3 N3
        have c1 : wr.cell? ⟨hb, 1, none⟩ = some (.int .i64 (num : Int)) := N4.out.cell 1
        generalize hq : ((num : Int) != number) = q
        cases q
        · simp only [bne_eq_false_iff_eq] at hq
          subst hq
          have cL : 24 + (long : Int) ≤ (c : Int) := by have := HL.out; omega
          have cL2 : (24 : Int) ≤ 24 + (long : Int) := by omega
          have c24 : ¬ c = 24 := by omega
          have wL : IntKind.i64.wrap (24 + (long : Int)) = ((24 + long : Nat) : Int) := by have := HL.out; rw [IntKind.wrap_i64]; omega
          have HMK := Lib.hid (make_cap long (by have := HL.out; omega))
          go_wp2_with fail
          refine wp_region_held_drew (S := fun W' => Blk W' hb 39 #[.int .i64 (kind : Int), .int .i64 (num : Int), .int .u64 (gen : Int)]) (by kernel_rfl) (by exact N4.out) (fun hHeld => ?_)
          change wpAnyH _ _ _ _ _ _ _ _ wr.drew
          refine takeTo (i := 0) (v := .agg #[.int .i64 (kind : Int), .int .i64 (num : Int), .int .u64 (gen : Int)]) (some 51) rfl rfl (by kernel_rfl) (by kernel_rfl) (by kernel_rfl) (fun _ _ _ h => h) (Or.inl ⟨by rfl, fun W7 hSw => exec39 (.tmp 7) rfl rfl hSw⟩) (by assumption) ?_
          try simp only [Act.put, List.setIfInBounds_toArray, List.set_cons_zero, List.set_cons_succ]
          refine takeTo (i := 1) (v := ?_) (some 52) rfl rfl (by kernel_rfl) (by kernel_rfl) (by kernel_rfl) (fun _ _ _ h => h) (Or.inl ⟨by rfl, ?_⟩) (by assumption) ?_
          rotate_left
          · (intro W7 hSw; go_simp; try with_reducible rfl)
          try simp only [Act.put, List.setIfInBounds_toArray, List.set_cons_zero, List.set_cons_succ]
          refine takeTo (i := 3) (v := ?_) (some 54) rfl rfl (by kernel_rfl) (by kernel_rfl) (by kernel_rfl) (fun _ _ _ h => h) (Or.inl ⟨by rfl, ?_⟩) (by assumption) ?_
          rotate_left
          · (intro W7 hSw; go_simp; try with_reducible rfl)
          try simp only [Act.put, List.setIfInBounds_toArray, List.set_cons_zero, List.set_cons_succ]
          refine takeTo (i := 4) (v := ?_) (some 55) rfl rfl (by kernel_rfl) (by kernel_rfl) (by kernel_rfl) (fun _ _ _ h => h) (Or.inl ⟨by rfl, ?_⟩) (by assumption) ?_
          rotate_left
          · (intro W7 hSw; go_simp; try with_reducible rfl)
          try simp only [Act.put, List.setIfInBounds_toArray, List.set_cons_zero, List.set_cons_succ]
          refine takeTo (i := 5) (v := ?_) (some 56) rfl rfl (by kernel_rfl) (by kernel_rfl) (by kernel_rfl) (fun _ _ _ h => h) (Or.inl ⟨by rfl, ?_⟩) (by assumption) ?_
          rotate_left
          · (intro W7 hSw; go_simp; try with_reducible rfl)
          try simp only [Act.put, List.setIfInBounds_toArray, List.set_cons_zero, List.set_cons_succ]
          refine takeTo (i := 6) (v := ?_) (some 57) rfl rfl (by kernel_rfl) (by kernel_rfl) (by kernel_rfl) (fun _ _ _ h => h) (Or.inl ⟨by rfl, ?_⟩) (by assumption) ?_
          rotate_left
          · (intro W7 hSw; go_simp; try with_reducible rfl)
          try simp only [Act.put, List.setIfInBounds_toArray, List.set_cons_zero, List.set_cons_succ]
          refine wpAnyH_ready (rs := [2]) (by kernel_rfl) (by simp) ?_
          refine AllReadyH.cons rfl (fun K hK => ?_) AllReadyH.nil
          rw [if_pos (by rfl)]
          have hmk := HMK.out
          go_wp2_with fail
          refine hK.out _ _ (show Blk (World.drew (wr.alloc _)) hb 39 _ from N4.out.alloc _) (fun hHeld => ?_)
          clear hK K hmk
          try simp only [Act.put, List.setIfInBounds_toArray, List.set_cons_zero, List.set_cons_succ]
          have Z5 := Lib.hid (show Blk (wr.alloc (.cells (arr long fun _ => .int .u8 0) 5)).drew w.heap.size 39 #[.int .i64 0, .int .i64 0, .int .u64 0] from Z4.out.alloc _)
          have B5 := Lib.hid ((B4.out.alloc B4.out.size (.cells (arr long fun _ => .int .u8 0) 5)).drew)
          have O5 := Lib.hid (show Owns (wr.alloc (.cells (arr long fun _ => .int .u8 0) 5)).drew w.heap.size (.slice (some ⟨wr.heap.size, 0, none⟩) 0 long) [] from Owns.room wr w.heap.size long B4.out.size (by have := HL.out; omega))
          obtain ⟨g, hg⟩ : ∃ x, x = wr.heap.size := ⟨_, rfl⟩
          rw [← hg] at O5 ⊢
          generalize World.drew (wr.alloc _) = W5 at hHeld Z5 B5 O5 ⊢
          have hb5 : Blk W5 hb 39 #[.int .i64 (kind : Int), .int .i64 (num : Int), .int .u64 (gen : Int)] := hHeld
          have LL : (Page.loadOf l).length = long := by rw [HF.out.2.2.2]; unfold Page.loadOf; rw [List.length_take, List.length_drop, HN.out, ← HF.out.2.2.2]; have := HL.out; omega
          have R5 : Rd W5 w.heap.size (some ⟨b, off + 24, none⟩) (Page.loadOf l) := .inr ⟨b, off + 24, rfl, HB.out, fun k hk => by
            rw [LL] at hk
            rw [Page.loadOf, Page.part_getD l 24 _ k (by rw [← HF.out.2.2.2]; exact hk), ← HC.out W5 B5.out (24 + k) (by have := HL.out; omega), Nat.add_assoc]⟩
          refine wpAnyH_ready (rs := [7]) (by kernel_rfl) (by simp) ?_
          refine AllReadyH.cons rfl (fun K hK => ?_) AllReadyH.nil
          rw [if_pos (by rfl)]
          refine wp_append_bytes (.tmp 53) (.tmp 57) rfl w.heap.size (.slice (some ⟨g, 0, none⟩) 0 long) [] (Page.loadOf l) rfl O5.out w.heap.size (some ⟨b, off + 24, none⟩) (c - 24) (by rw [LL]; change Value.slice _ _ _ = _; congr 1; omega) R5 (by rw [LL]; have := HL.out; simp; omega) B5.out.size ?_
          intro A' c' w6 r hr hrc ho6 hg6
          rw [List.nil_append] at hr
          have hr' := hr.out
          subst hr'
          have hgb : hb ≠ g := by have := N4.out.lt; omega
          have hgw : w.heap.size ≠ g := by have := B4.out.size; have := N4.out.lt; omega
          have hgl : w.heap.size ≤ g := by have := B4.out.size; omega
          refine hK.out _ _ (Blk.only hb5 hg6.1 hgb) (fun hHeld2 => ?_)
          have H6 := Lib.hid (Blk.farRow hHeld2 (fun e => by have := Z5.out.lt; omega : hb ≠ w.heap.size) #[.int .i64 (kind : Int), .int .i64 (num : Int), .int .u64 (gen : Int)])
          clear hK K hHeld hHeld2 hb5
          try simp only [Act.put, List.setIfInBounds_toArray]
          have Z6 := Lib.hid (Blk.only Z5.out hg6.1 hgw)
          have B6 := Lib.hid (Below.only B5.out hg6.1 hgl B5.out.size)
          have O6 := Lib.hid (show Owns (w6.setRow w.heap.size #[.int .i64 (kind : Int), .int .i64 (num : Int), .int .u64 (gen : Int)]) w.heap.size (.slice A' (Page.loadOf l).length c') (Page.loadOf l) from
            World.ownsRow.kept ho6 (row := some w.heap.size) ⟨rfl, rfl, rfl, by simp [World.setRow], fun k _ hk => setRow_other w6 w.heap.size k _ (fun e => hk (by rw [e]))⟩ (by
              rcases hg6.2 with e | e
              · right; rw [e]; intro e2; injection e2 with e2; exact hgw e2.symm
              · right; rw [e]; intro e2; injection e2 with e2; have := B5.out.size; have := Z5.out.lt; omega))
          clear ho6 hg6 O5 Z5 B5 R5
          refine wpAnyH_ready (rs := [8]) (by kernel_rfl) (by simp) ?_
          refine AllReadyH.cons rfl (fun K hK => ?_) AllReadyH.nil
          rw [if_pos (by rfl)]
          refine wp_store_row 39 (.tmp 4) (.tmp 51) rfl w.heap.size #[.int .i64 (kind : Int), .int .i64 (num : Int), .int .u64 (gen : Int)] rfl rfl 39 _ Z6.out (by rw [info39]; rfl) rfl (by kernel_rfl) ?_
          refine hK.out _ _ H6.out (fun hHeld => ?_)
          clear hK K hHeld
          try simp only [Act.put]
          refine wpAnyH_ready (rs := [9]) (by kernel_rfl) (by simp) ?_
          refine AllReadyH.cons rfl (fun K hK => ?_) AllReadyH.nil
          rw [if_pos (by rfl)]
          go_wp2_with fail
          refine hK.out _ _ H6.out (fun hHeld => ?_)
          clear hK K hHeld
          try simp only [Act.put, List.setIfInBounds_toArray, List.set_cons_zero, List.set_cons_succ]
          refine wpAnyH_ready (rs := [10]) (by kernel_rfl) (by simp) ?_
          refine AllReadyH.cons rfl (fun K hK => ?_) AllReadyH.nil
          rw [if_pos (by rfl)]
          go_wp2_with fail
          refine hK.out _ _ H6.out (fun hHeld => ?_)
          clear hK K hHeld
          try simp only [Act.put, List.setIfInBounds_toArray, List.set_cons_zero, List.set_cons_succ]
          refine wpAnyH_done (by kernel_rfl) ?_ _
          go_wp2_with fail
          exact bodyPost_ret (results_cell_two rfl _ _ w.heap.size _ rfl (load39 (Z6.out.row _))) rfl ⟨_, rfl, .inr (.inr (.inr ⟨HK.out, YES.out, by rw [← HF.out.2.1], A', c', by rw [openYes, LL, ← HF.out.1, ← HF.out.2.1, ← HF.out.2.2.1]; rfl, hrc, O6.out⟩)), Below.row B6.out (Nat.le_refl _) _⟩
        · have NE : (num : Int) ≠ number := by simpa using hq
          go_wp2_with (refine wpList_store_rowTo rfl 39 (.tmp 4) (.tmp 50) rfl rfl w.heap.size #[.int .i64 0, .int .i64 0, .int .u64 0] rfl rfl 39 _ Z4.out (by rw [info39]; rfl) rfl (by kernel_rfl) ?_)
          exact bodyPost_ret (results_cell_two rfl _ _ w.heap.size _ rfl (load39 (Z4.out.row _))) rfl ⟨_, rfl, .inr (.inr (.inl ⟨HK.out, YES.out, by rw [← HF.out.2.1]; exact NE, rfl⟩)), Below.row B4.out (Nat.le_refl _) _⟩
  · refine (HH.out _ B0.out).mono ?_
    rintro e w2 ⟨rfl, b2⟩
    rw [headV_no hk, noHead]
    have B2 := Lib.hid ((B0.out.trans (b2.mono B0.out.size)).alloc (B0.out.trans (b2.mono B0.out.size)).size (.cells #[.int .i64 0, .int .i64 0, .int .u64 0] 39))
    have Z2 := Lib.hid ((Z0.out.below b2 Z0.out.lt).alloc (.cells #[.int .i64 0, .int .i64 0, .int .u64 0] 39))
    clear b2 B0 Z0 HH
    go_wp2_with (refine wpList_store_rowTo rfl 39 (.tmp 4) (.tmp 21) rfl rfl w.heap.size #[.int .i64 0, .int .i64 0, .int .u64 0] rfl rfl 39 _ Z2.out (by rw [info39]; rfl) rfl (by kernel_rfl) ?_)
    exact bodyPost_ret (results_cell_two rfl _ _ w.heap.size _ rfl (load39 (Z2.out.row _))) rfl ⟨_, rfl, .inl ⟨hk, rfl⟩, Below.row B2.out (Nat.le_refl _) _⟩
set_option maxHeartbeats 1000000 in
set_option maxRecDepth 100000 in
theorem open_none (A : Option Addr) (c n : Nat) (number : Int) (l : List UInt8) (w : World) (hn : l.length = n) (hs : ¬ Page.Sized n) :
    Calls Try.prog 33 #[.slice A n c, .int .i64 number] w fun e w' => ∃ v, e = .returned v ∧ OpenPost l number w w' v ∧ Below w.heap.size w w' := by
  have HH := Lib.hid (fun (W : World) => head_none A c n l W hn hs)
  have B0 := Lib.hid ((Below.refl w.heap.size w).alloc (Nat.le_refl _) (.cells #[.int .i64 0, .int .i64 0, .int .u64 0] 39))
  have Z0 := Lib.hid (Blk.new w 39 #[.int .i64 0, .int .i64 0, .int .u64 0])
  have hk : ¬ Page.HeadOk l := fun h => hs (by rw [← hn]; exact h.1)
  clear hn hs
  go_enter Try.func33, Try.ntmps33
  go_wp2_with fail
  refine (HH.out _).mono ?_
  rintro e w2 ⟨rfl, b2⟩
  rw [headV_no hk, noHead]
  have B2 := Lib.hid ((B0.out.trans (b2.mono B0.out.size)).alloc (B0.out.trans (b2.mono B0.out.size)).size (.cells #[.int .i64 0, .int .i64 0, .int .u64 0] 39))
  have Z2 := Lib.hid ((Z0.out.below b2 Z0.out.lt).alloc (.cells #[.int .i64 0, .int .i64 0, .int .u64 0] 39))
  clear b2 B0 Z0 HH
  go_wp2_with (refine wpList_store_rowTo rfl 39 (.tmp 4) (.tmp 21) rfl rfl w.heap.size #[.int .i64 0, .int .i64 0, .int .u64 0] rfl rfl 39 _ Z2.out (by rw [info39]; rfl) rfl (by kernel_rfl) ?_)
  exact bodyPost_ret (results_cell_two rfl _ _ w.heap.size _ rfl (load39 (Z2.out.row _))) rfl ⟨_, rfl, .inl ⟨hk, rfl⟩, Below.row B2.out (Nat.le_refl _) _⟩
/-- Open, of any bytes -/
theorem open_rd (A : Option Addr) (c n B : Nat) (number : Int) (l : List UInt8) (w : World) (hn : l.length = n) (hnc : n ≤ c) (hB : B ≤ w.heap.size) (hr : Rd w B A l) :
    Calls Try.prog 33 #[.slice A n c, .int .i64 number] w fun e w' => ∃ v, e = .returned v ∧ OpenPost l number w w' v ∧ Below w.heap.size w w' := by
  by_cases hs : Page.Sized n
  · obtain ⟨g1, g2⟩ := Page.sized_512 hs
    rcases hr with rfl | ⟨b, off, rfl, hb, hc⟩
    · simp at hn; omega
    · exact open_any b off c n number l w hn hnc hs (by omega) (by rw [hn] at hc; exact hc)
  · exact open_none A c n number l w hn hs
end Go.Proofs.Ytofhdehigfdmkaa
