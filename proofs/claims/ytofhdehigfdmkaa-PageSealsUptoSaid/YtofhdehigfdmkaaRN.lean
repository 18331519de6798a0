/- THE WALK of PageSeals. -/
import Derived.Test.YtofhdehigfdmkaaRM
namespace Go.Proofs.Ytofhdehigfdmkaa
open Go.RowKit
open Classical in
/-- Room of both -/
noncomputable def roomF (size : Int) : Int := if Page.Sized size then size - 32 else 0
theorem room_any (size : Int) (w : World) : Calls Try.prog 26 #[.int .i64 size] w fun e w' => e = .returned (.int .i64 (roomF size)) ∧ w = w' := by
  unfold roomF
  split
  · exact room_yes _ (by assumption) w
  · exact room_no _ (by assumption) w
theorem rroom_any (size : Int) (w : World) : Calls Try.prog 27 #[.int .i64 size] w fun e w' => e = .returned (.int .i64 (roomF size)) ∧ w = w' := by
  unfold roomF
  split
  · exact rroom_yes _ (by assumption) w
  · exact rroom_no _ (by assumption) w
theorem sealL_len (size kind num : Int) (gen : Nat) (p : List UInt8) : (sealL size kind num gen p).length ≤ 4096 := by
  unfold sealL
  split
  · rename_i h
    have hb : ¬ sealBad size kind num := fun h2 => by
      rw [sealC, if_pos h2] at h
      cases h
    have hs : Page.Sized size := Classical.byContradiction fun h2 => hb (.inl h2)
    rw [Page.pageL_length]
    unfold Page.Sized at hs
    omega
  · simp
/-- one more in the book -/
theorem keep_more {B g : Nat} {rs ws : List Row} {LV WV : Value} {A : Option Addr} {c n : Nat} {l : List UInt8} {w : World} (hbk : Book w B g rs ws LV WV) (hn : l.length = n) (ho : Owns w B (.slice A n c) l) (hl : n ≤ 4096)
    (hap : ∀ r ∈ rs, ∀ k, ob r.A = some k → ob A ≠ some k) (hlen : rs.length ≤ 1000) :
    Calls Try.prog 29 #[.pointer (some ⟨g, 0, none⟩), .slice A n c] w fun e w' => e = .returned (.tuple #[]) ∧ (∃ ws' LV' WV', Book w' B g (rs ++ [⟨A, c, l⟩]) ws' LV' WV') ∧ Kp (fun k => k = g ∨ B ≤ k) w w' ∧ Five w w' := by
  refine (keep_any B g rs ws LV WV A c n l w hbk hn (by rw [hn]; exact ho) (by omega) (fun r hr k hk => by rw [ob_eq]; exact hap r hr k (by rw [Row.v, ob_eq] at hk; exact hk)) hlen).mono ?_
  rintro e w' ⟨h1, h2, h3, h4⟩
  refine ⟨h1, h2, h3.mono fun k _ h => ?_, h4⟩
  rcases h with h | h | h
  · exact .inl h
  · exact .inr (World.ownsRow.lt hbk.lv k h).1
  · exact .inr (World.ownsRow.lt hbk.wv k h).1
set_option maxHeartbeats 4000000 in
set_option maxRecDepth 100000 in
theorem pageSeals_walk (A A' : Option Addr) (c c' : Nat) (size kind num : Int) (gen : Nat) (l l' : List UInt8) (w : World) (hr : Rd w w.heap.size A l) (hr' : Rd w w.heap.size A' l') (hl : l.length ≤ 1048576) (hl' : l'.length ≤ 1048576)
    (h1 : -9223372036854775808 ≤ num) (h2 : num ≤ 9223372036854775807) (hg : gen < 18446744073709551616) :
    Calls Try.prog 10 #[.int .i64 size, .agg #[.int .i64 kind, .int .i64 num, .int .u64 (gen : Int)], .slice A l.length c, .slice A' l'.length c'] w fun e w' => e = .returned (.bool true) ∧ Below w.heap.size w w' := by
  have HR := Lib.hid (fun (W : World) (h : Below w.heap.size w W) => And.intro ((hr.below h (Nat.le_refl _)).mono h.size) ((hr'.below h (Nat.le_refl _)).mono h.size))
  have HR0 := Lib.hid (fun (W : World) (h : Below w.heap.size w W) => hr.below h (Nat.le_refl _))
  obtain ⟨n, hn⟩ : ∃ n, n = l.length := ⟨_, rfl⟩
  obtain ⟨n', hn'⟩ : ∃ n, n = l'.length := ⟨_, rfl⟩
  obtain ⟨hd, hhd⟩ : ∃ x, x = Value.agg #[.int .i64 kind, .int .i64 num, .int .u64 (gen : Int)] := ⟨_, rfl⟩
  have HL := Lib.hid (show ∀ W, Rd W W.heap.size A l → Calls Try.prog 23 #[.slice A n c] W fun e w' => e = .returned (.slice (some ⟨W.heap.size, 0, none⟩) n (n + 40)) ∧ Blk w' W.heap.size 5 (arr (n + 40) (byF (lentF l))) ∧ Below W.heap.size W w' from fun W h => by
    have := lent3_any A c l W h (by omega)
    rw [← hn] at this
    exact this)
  -- what Seal of the bytes at hand answers
  obtain ⟨C, hC⟩ : ∃ x, x = sealC size kind num l := ⟨_, rfl⟩
  obtain ⟨D, hD⟩ : ∃ x, x = sealC size kind num l' := ⟨_, rfl⟩
  obtain ⟨E, hE⟩ : ∃ x, x = sealC size kind num (overL l) := ⟨_, rfl⟩
  obtain ⟨x, hx⟩ : ∃ x, x = sealL size kind num gen l := ⟨_, rfl⟩
  obtain ⟨y, hy⟩ : ∃ x, x = sealL size kind num gen l' := ⟨_, rfl⟩
  obtain ⟨z, hz⟩ : ∃ x, x = sealL size kind num gen (overL l) := ⟨_, rfl⟩
  obtain ⟨mx, hmx⟩ : ∃ m, m = x.length := ⟨_, rfl⟩
  obtain ⟨my, hmy⟩ : ∃ m, m = y.length := ⟨_, rfl⟩
  obtain ⟨mz, hmz⟩ : ∃ m, m = z.length := ⟨_, rfl⟩
  have LX := Lib.hid (show mx ≤ 4096 ∧ my ≤ 4096 ∧ mz ≤ 4096 from ⟨by rw [hmx, hx]; exact sealL_len _ _ _ _ _, by rw [hmy, hy]; exact sealL_len _ _ _ _ _, by rw [hmz, hz]; exact sealL_len _ _ _ _ _⟩)
  have SX := Lib.hid (show ∀ (F : FuncId) (hF : F = 24 ∨ F = 25) (B : Option Addr) (d : Nat) (W : World), Rd W W.heap.size B l → Calls Try.prog F #[.int .i64 size, .agg #[.int .i64 kind, .int .i64 num, .int .u64 (gen : Int)], .slice B n d] W fun e w' =>
      ∃ B' d', e = .returned (.tuple #[.slice B' mx d', .int .i64 C]) ∧ Owns w' W.heap.size (.slice B' mx d') x ∧ Below W.heap.size W w' from fun F hF B d W h => by
    have := seal_both F hF B d size kind num gen l W h hg h1 h2
    rw [← hn, ← hC] at this
    refine this.mono ?_
    rintro e w' ⟨B', d', r, he, hrr, ho, hb⟩
    rw [← hx] at hrr
    subst hrr
    exact ⟨B', d', by rw [hmx]; exact he, by rw [hmx]; exact ho, hb⟩)
  have SY := Lib.hid (show ∀ (F : FuncId) (hF : F = 24 ∨ F = 25) (B : Option Addr) (d : Nat) (W : World), Rd W W.heap.size B l' → Calls Try.prog F #[.int .i64 size, .agg #[.int .i64 kind, .int .i64 num, .int .u64 (gen : Int)], .slice B n' d] W fun e w' =>
      ∃ B' d', e = .returned (.tuple #[.slice B' my d', .int .i64 D]) ∧ Owns w' W.heap.size (.slice B' my d') y ∧ Below W.heap.size W w' from fun F hF B d W h => by
    have := seal_both F hF B d size kind num gen l' W h hg h1 h2
    rw [← hn', ← hD] at this
    refine this.mono ?_
    rintro e w' ⟨B', d', r, he, hrr, ho, hb⟩
    rw [← hy] at hrr
    subst hrr
    exact ⟨B', d', by rw [hmy]; exact he, by rw [hmy]; exact ho, hb⟩)
  have SZ := Lib.hid (show ∀ (F : FuncId) (hF : F = 24 ∨ F = 25) (B : Option Addr) (d : Nat) (W : World), Rd W W.heap.size B (overL l) → Calls Try.prog F #[.int .i64 size, .agg #[.int .i64 kind, .int .i64 num, .int .u64 (gen : Int)], .slice B n d] W fun e w' =>
      ∃ B' d', e = .returned (.tuple #[.slice B' mz d', .int .i64 E]) ∧ Owns w' W.heap.size (.slice B' mz d') z ∧ Below W.heap.size W w' from fun F hF B d W h => by
    have := seal_both F hF B d size kind num gen (overL l) W h hg h1 h2
    rw [overL_length, ← hn, ← hE] at this
    refine this.mono ?_
    rintro e w' ⟨B', d', r, he, hrr, ho, hb⟩
    rw [← hz] at hrr
    subst hrr
    exact ⟨B', d', by rw [hmz]; exact he, by rw [hmz]; exact ho, hb⟩)
  have HM := Lib.hid (And.intro hmx (And.intro hmy hmz))
  have HN := Lib.hid (And.intro hn hn')
  rw [← hn] at hl ⊢
  rw [← hn'] at hl' ⊢
  clear hC hD hE hx hy hz hmx hmy hmz hn hn' hr hr' hhd hd h1 h2 hg
  have RO := Lib.hid (room_any size)
  have RR := Lib.hid (rroom_any size)
  obtain ⟨rv, hrv⟩ : ∃ x, x = roomF size := ⟨_, rfl⟩
  rw [← hrv] at RO RR
  clear hrv
  obtain ⟨hx, hhx⟩ : ∃ x, x = w.heap.size := ⟨_, rfl⟩
  have B0 := Lib.hid ((Below.refl w.heap.size w).alloc (Nat.le_refl _) (.cells #[.int .i64 kind, .int .i64 num, .int .u64 (gen : Int)] 39))
  have X0 := Lib.hid (Blk.new w 39 #[.int .i64 kind, .int .i64 num, .int .u64 (gen : Int)])
  have HHX := Lib.hid (show w.heap.size ≤ hx by rw [hhx]; exact Nat.le_refl _)
  go_enter Try.func10, Try.ntmps10
  go_upto_region 1 with fail
  rw [← hhx] at X0 ⊢
  clear hhx
  generalize World.alloc w _ = W0 at B0 X0 ⊢
  go_wp2_with fail
  refine (alive_true _).mono ?_
  rintro e w1 ⟨rfl, b1⟩
  have B1 := Lib.hid ((B0.out.trans (b1.mono B0.out.size)).alloc (B0.out.trans (b1.mono B0.out.size)).size (.cells #[.slice none 0 0, .slice none 0 0] 43))
  have G1 := Lib.hid (Blk.new w1 43 #[.slice none 0 0, .slice none 0 0])
  have X1 := Lib.hid ((X0.out.below b1 X0.out.lt).alloc (.cells #[.slice none 0 0, .slice none 0 0] 43))
  obtain ⟨g, hg⟩ : ∃ x, x = w1.heap.size := ⟨_, rfl⟩
  have HG := Lib.hid (show w.heap.size ≤ g by rw [hg]; exact Nat.le_trans B0.out.size b1.size)
  go_upto_region 3 with fail
  rw [← hg] at G1 ⊢
  clear b1 hg B0 X0
  generalize World.alloc w1 _ = W1 at B1 G1 X1 ⊢
  clear w1 W0
  go_wp2_with fail
  refine (HL.out W1 (HR.out W1 B1.out).1).mono ?_
  rintro e w2 ⟨rfl, c2, b2⟩
  obtain ⟨gc, hgc⟩ : ∃ x, x = W1.heap.size := ⟨_, rfl⟩
  rw [← hgc] at c2 ⊢
  have HGC := Lib.hid (show g < gc ∧ w.heap.size ≤ gc from ⟨by rw [hgc]; exact G1.out.lt, by rw [hgc]; exact B1.out.size⟩)
  obtain ⟨B, hB⟩ : ∃ x, x = w2.heap.size := ⟨_, rfl⟩
  have HB := Lib.hid (show gc < B by rw [hB]; exact c2.lt)
  have B2 := Lib.hid (B1.out.trans (b2.mono B1.out.size))
  have C2 := Lib.hid c2
  have K2 := Lib.hid (Book.new (B := B) (show Blk w2 g 43 _ from G1.out.below b2 G1.out.lt) (by have := HB.out; have := HGC.out; omega) (Nat.le_of_eq hB))
  have X2 := Lib.hid (X1.out.below b2 X1.out.lt)
  have HBW := Lib.hid (show w.heap.size ≤ B ∧ B ≤ w2.heap.size from ⟨by have := HB.out; have := HGC.out; omega, Nat.le_of_eq hB⟩)
  have HXC := Lib.hid (show hx < gc by rw [hgc]; exact X1.out.lt)
  have ZZ2 := Lib.hid (Nat.le_refl w2.heap.size)
  clear b2 c2 hgc hB B1 G1 X1
  have RL := Lib.hid (show ∀ W : World, Blk W gc 5 (arr (n + 40) (byF (lentF l))) → Rd W W.heap.size (some ⟨gc, 0, none⟩) l from fun W h => Rd.of_byF l h (by rw [← HN.out.1]; omega) (fun i hi => by rw [lentF, if_pos hi]) h.lt)
  go_wp2_with (refine wpList_load_row rfl 39 _ rfl _ rfl 39 _ (0, 0) _ X2.out Try.underlying39 rfl (by rw [info39]; rfl) ?_)
  refine (SX.out 24 (Or.inl rfl) (some ⟨gc, 0, none⟩) _ w2 (RL.out w2 C2.out)).mono ?_
  rintro e w3 ⟨A3, c3, rfl, o3, b3⟩
  have f3 := Five.of_below b3
  have B3 := Lib.hid (B2.out.trans (b3.mono B2.out.size))
  have X3 := Lib.hid (X2.out.below b3 X2.out.lt)
  have K3 := Lib.hid (K2.out.kp (Kp.of_below (S := fun _ => False) b3) fun _ _ h => h.elim)
  have Z3 := Lib.hid (show w2.heap.size ≤ w3.heap.size from b3.size)
  have D3 := Lib.hid (show ∀ k, ob A3 = some k → w2.heap.size ≤ k ∧ k < w3.heap.size from fun k hk => World.ownsRow.lt o3 k (by rw [ob_eq]; exact hk))
  have C3 := Lib.hid (C2.out.five f3)
  have O3 := Lib.hid (show Owns w3 B (.slice A3 mx c3) x from Owns.mono o3 (Nat.le_trans HBW.out.2 (by have := ZZ2.out; omega)))
  have ZZ3 := Lib.hid (show w2.heap.size ≤ w3.heap.size from Nat.le_trans ZZ2.out Z3.out)
  clear o3 b3 f3 B2 X2 K2 C2
  go_wp2_with (refine wpList_load_row rfl 39 _ rfl _ rfl 39 _ (0, 0) _ X3.out Try.underlying39 rfl (by rw [info39]; rfl) ?_)
  refine (SY.out 24 (Or.inl rfl) A' c' w3 (HR.out w3 B3.out).2).mono ?_
  rintro e w4 ⟨A4, c4, rfl, o4, b4⟩
  have f4 := Five.of_below b4
  have B4 := Lib.hid (B3.out.trans (b4.mono B3.out.size))
  have X4 := Lib.hid (X3.out.below b4 X3.out.lt)
  have K4 := Lib.hid (K3.out.kp (Kp.of_below (S := fun _ => False) b4) fun _ _ h => h.elim)
  have Z4 := Lib.hid (show w3.heap.size ≤ w4.heap.size from b4.size)
  have D4 := Lib.hid (show ∀ k, ob A4 = some k → w3.heap.size ≤ k ∧ k < w4.heap.size from fun k hk => World.ownsRow.lt o4 k (by rw [ob_eq]; exact hk))
  have C4 := Lib.hid (C3.out.five f4)
  have O3 := Lib.hid (Owns.five O3.out f4)
  have O4 := Lib.hid (show Owns w4 B (.slice A4 my c4) y from Owns.mono o4 (Nat.le_trans HBW.out.2 (by have := ZZ3.out; omega)))
  have ZZ4 := Lib.hid (show w2.heap.size ≤ w4.heap.size from Nat.le_trans ZZ3.out Z4.out)
  clear o4 b4 f4 B3 X3 K3 C3
  go_wp2_with (refine wpList_load_row rfl 39 _ rfl _ rfl 39 _ (0, 0) _ X4.out Try.underlying39 rfl (by rw [info39]; rfl) ?_)
  refine (SX.out 24 (Or.inl rfl) (some ⟨gc, 0, none⟩) _ w4 (RL.out w4 C4.out)).mono ?_
  rintro e w5 ⟨A5, c5, rfl, o5, b5⟩
  have f5 := Five.of_below b5
  have B5 := Lib.hid (B4.out.trans (b5.mono B4.out.size))
  have X5 := Lib.hid (X4.out.below b5 X4.out.lt)
  have K5 := Lib.hid (K4.out.kp (Kp.of_below (S := fun _ => False) b5) fun _ _ h => h.elim)
  have Z5 := Lib.hid (show w4.heap.size ≤ w5.heap.size from b5.size)
  have D5 := Lib.hid (show ∀ k, ob A5 = some k → w4.heap.size ≤ k ∧ k < w5.heap.size from fun k hk => World.ownsRow.lt o5 k (by rw [ob_eq]; exact hk))
  have C5 := Lib.hid (C4.out.five f5)
  have O3 := Lib.hid (Owns.five O3.out f5)
  have O4 := Lib.hid (Owns.five O4.out f5)
  have O5 := Lib.hid (show Owns w5 B (.slice A5 mx c5) x from Owns.mono o5 (Nat.le_trans HBW.out.2 (by have := ZZ4.out; omega)))
  have ZZ5 := Lib.hid (show w2.heap.size ≤ w5.heap.size from Nat.le_trans ZZ4.out Z5.out)
  clear o5 b5 f5 B4 X4 K4 C4
  go_wp2_with (refine wpList_load_row rfl 39 _ rfl _ rfl 39 _ (0, 0) _ X5.out Try.underlying39 rfl (by rw [info39]; rfl) ?_)
  refine (SX.out 25 (Or.inr rfl) A c w5 (HR.out w5 B5.out).1).mono ?_
  rintro e w6 ⟨A6, c6, rfl, o6, b6⟩
  have f6 := Five.of_below b6
  have B6 := Lib.hid (B5.out.trans (b6.mono B5.out.size))
  have X6 := Lib.hid (X5.out.below b6 X5.out.lt)
  have K6 := Lib.hid (K5.out.kp (Kp.of_below (S := fun _ => False) b6) fun _ _ h => h.elim)
  have Z6 := Lib.hid (show w5.heap.size ≤ w6.heap.size from b6.size)
  have D6 := Lib.hid (show ∀ k, ob A6 = some k → w5.heap.size ≤ k ∧ k < w6.heap.size from fun k hk => World.ownsRow.lt o6 k (by rw [ob_eq]; exact hk))
  have C6 := Lib.hid (C5.out.five f6)
  have O3 := Lib.hid (Owns.five O3.out f6)
  have O4 := Lib.hid (Owns.five O4.out f6)
  have O5 := Lib.hid (Owns.five O5.out f6)
  have O6 := Lib.hid (show Owns w6 B (.slice A6 mx c6) x from Owns.mono o6 (Nat.le_trans HBW.out.2 (by have := ZZ5.out; omega)))
  have ZZ6 := Lib.hid (show w2.heap.size ≤ w6.heap.size from Nat.le_trans ZZ5.out Z6.out)
  clear o6 b6 f6 B5 X5 K5 C5
  go_wp2_with (refine wpList_load_row rfl 39 _ rfl _ rfl 39 _ (0, 0) _ X6.out Try.underlying39 rfl (by rw [info39]; rfl) ?_)
  refine (SY.out 25 (Or.inr rfl) A' c' w6 (HR.out w6 B6.out).2).mono ?_
  rintro e w7 ⟨A7, c7, rfl, o7, b7⟩
  have f7 := Five.of_below b7
  have B7 := Lib.hid (B6.out.trans (b7.mono B6.out.size))
  have X7 := Lib.hid (X6.out.below b7 X6.out.lt)
  have K7 := Lib.hid (K6.out.kp (Kp.of_below (S := fun _ => False) b7) fun _ _ h => h.elim)
  have Z7 := Lib.hid (show w6.heap.size ≤ w7.heap.size from b7.size)
  have D7 := Lib.hid (show ∀ k, ob A7 = some k → w6.heap.size ≤ k ∧ k < w7.heap.size from fun k hk => World.ownsRow.lt o7 k (by rw [ob_eq]; exact hk))
  have C7 := Lib.hid (C6.out.five f7)
  have O3 := Lib.hid (Owns.five O3.out f7)
  have O4 := Lib.hid (Owns.five O4.out f7)
  have O5 := Lib.hid (Owns.five O5.out f7)
  have O6 := Lib.hid (Owns.five O6.out f7)
  have O7 := Lib.hid (show Owns w7 B (.slice A7 my c7) y from Owns.mono o7 (Nat.le_trans HBW.out.2 (by have := ZZ6.out; omega)))
  have ZZ7 := Lib.hid (show w2.heap.size ≤ w7.heap.size from Nat.le_trans ZZ6.out Z7.out)
  clear o7 b7 f7 B6 X6 K6 C6
  have v3 := conv_str A3 c3 x w7 w7.heap.size (by rw [HM.out.1] at O3; exact Owns.reads O3.out)
  have v5 := conv_str A5 c5 x w7 w7.heap.size (by rw [HM.out.1] at O5; exact Owns.reads O5.out)
  have v6 := conv_str A6 c6 x w7 w7.heap.size (by rw [HM.out.1] at O6; exact Owns.reads O6.out)
  have v4 := conv_str A4 c4 y w7 w7.heap.size (by rw [HM.out.2.1] at O4; exact Owns.reads O4.out)
  have v7 := conv_str A7 c7 y w7 w7.heap.size (by rw [HM.out.2.1] at O7; exact Owns.reads O7.out)
  rw [← HM.out.1] at v3 v5 v6
  rw [← HM.out.2.1] at v4 v7
  obtain ⟨sX, hsX⟩ : ∃ s, s = bs x := ⟨_, rfl⟩
  obtain ⟨sY, hsY⟩ : ∃ s, s = bs y := ⟨_, rfl⟩
  rw [← hsX] at v3 v5 v6
  rw [← hsY] at v4 v7
  have eX : (sX.toList == sX.toList) = true := by simp
  have eY : (sY.toList == sY.toList) = true := by simp
  clear hsX hsY
  go_wp2_with (first | (go_at_call 26; refine (RO.out _).mono ?_; rintro e w' ⟨rfl, rfl⟩) | (go_at_call 27; refine (RR.out _).mono ?_; rintro e w' ⟨rfl, rfl⟩))
  refine (back3_any A c gc w.heap.size n l w7 HN.out.1.symm (HR0.out w7 B7.out) HGC.out.2 (by omega) C7.out).mono ?_
  rintro e w8 ⟨rfl, c8, g8⟩
  have k8 : Kp (fun k => k = gc) w7 w8 := Kp.of_grown g8 (by intro k e; injection e with e; exact e.symm)
  have B8 := Lib.hid (Below.only B7.out g8 HGC.out.2 B7.out.size)
  have K8 := Lib.hid (K7.out.kp k8 (fun k _ e => by have := HGC.out; have := HB.out; omega))
  have X8 := Lib.hid (X7.out.kp k8 (fun e => by have := HXC.out; omega))
  have O3 := Lib.hid (show Owns _ B _ _ from rowKp O3.out k8 fun k e h => by have := (World.ownsRow.lt O3.out k e).1; have := HB.out; omega)
  have O4 := Lib.hid (show Owns _ B _ _ from rowKp O4.out k8 fun k e h => by have := (World.ownsRow.lt O4.out k e).1; have := HB.out; omega)
  have O5 := Lib.hid (show Owns _ B _ _ from rowKp O5.out k8 fun k e h => by have := (World.ownsRow.lt O5.out k e).1; have := HB.out; omega)
  have O6 := Lib.hid (show Owns _ B _ _ from rowKp O6.out k8 fun k e h => by have := (World.ownsRow.lt O6.out k e).1; have := HB.out; omega)
  have O7 := Lib.hid (show Owns _ B _ _ from rowKp O7.out k8 fun k e h => by have := (World.ownsRow.lt O7.out k e).1; have := HB.out; omega)
  have R8 := Lib.hid (show Rd w8 w8.heap.size (some ⟨gc, 0, none⟩) (overL l) from Rd.of_byF (overL l) c8 (by rw [overL_length, ← HN.out.1]; omega) (fun i hi => by rw [overL_length] at hi; rw [overL, Page.rl_get _ _ _ hi]) c8.lt)
  have Z8 := Lib.hid k8.size
  have ZZ8 := Lib.hid (show w2.heap.size ≤ w8.heap.size from Nat.le_trans ZZ7.out k8.size)
  clear c8 g8 k8 v3 v4 v5 v6 v7 eX eY B7 X7 K7 C7
  go_wp2_with (refine wpList_load_row rfl 39 _ rfl _ rfl 39 _ (0, 0) _ X8.out Try.underlying39 rfl (by rw [info39]; rfl) ?_)
  refine (SZ.out 24 (Or.inl rfl) (some ⟨gc, 0, none⟩) _ w8 R8.out).mono ?_
  rintro e w9 ⟨A9, c9, rfl, o9, b9⟩
  have f9 := Five.of_below b9
  have B9 := Lib.hid (B8.out.trans (b9.mono B8.out.size))
  have X9 := Lib.hid (X8.out.below b9 X8.out.lt)
  have K9 := Lib.hid (K8.out.kp (Kp.of_below (S := fun _ => False) b9) fun _ _ h => h.elim)
  have Z9 := Lib.hid (show w8.heap.size ≤ w9.heap.size from b9.size)
  have D9 := Lib.hid (show ∀ k, ob A9 = some k → w8.heap.size ≤ k ∧ k < w9.heap.size from fun k hk => World.ownsRow.lt o9 k (by rw [ob_eq]; exact hk))
  have R9 := Lib.hid ((R8.out.below b9 (Nat.le_refl _)).mono Z9.out)
  have O3 := Lib.hid (Owns.five O3.out f9)
  have O4 := Lib.hid (Owns.five O4.out f9)
  have O5 := Lib.hid (Owns.five O5.out f9)
  have O6 := Lib.hid (Owns.five O6.out f9)
  have O7 := Lib.hid (Owns.five O7.out f9)
  have O9 := Lib.hid (show Owns w9 B (.slice A9 mz c9) z from Owns.mono o9 (Nat.le_trans HBW.out.2 (by have := ZZ8.out; omega)))
  have ZZ9 := Lib.hid (show w2.heap.size ≤ w9.heap.size from Nat.le_trans ZZ8.out Z9.out)
  clear o9 b9 f9 B8 X8 K8 R8
  go_upto_region 13 with fail
  refine wp_region_held_drew (S := fun W' => Blk W' hx 39 #[.int .i64 kind, .int .i64 num, .int .u64 (gen : Int)]) (by kernel_rfl) (by exact X9.out) (fun hHeld => ?_)
  refine takeTo (i := 0) (v := ?_) (some 118) rfl rfl (by kernel_rfl) (by kernel_rfl) (by kernel_rfl) (fun _ _ _ h => h) (Or.inl ⟨by rfl, ?_⟩) (by assumption) ?_
  rotate_left
  · (intro W7 hSw; (try dsimp only at hSw); go_simp; try with_reducible rfl)
  try simp only [Act.put, List.setIfInBounds_toArray, List.set_cons_zero, List.set_cons_succ]
  refine takeTo (i := 1) (v := .agg #[.int .i64 kind, .int .i64 num, .int .u64 (gen : Int)]) (some 119) rfl rfl (by kernel_rfl) (by kernel_rfl) (by kernel_rfl) (fun _ _ _ h => h) (Or.inl ⟨by rfl, fun W7 hSw => exec39 _ rfl rfl hSw⟩) (by assumption) ?_
  try simp only [Act.put, List.setIfInBounds_toArray, List.set_cons_zero, List.set_cons_succ]
  refine takeTo (i := 3) (v := ?_) (some 121) rfl rfl (by kernel_rfl) (by kernel_rfl) (by kernel_rfl) (fun _ _ _ h => h) (Or.inl ⟨by rfl, ?_⟩) (by assumption) ?_
  rotate_left
  · (intro W7 hSw; (try dsimp only at hSw); go_simp; try with_reducible rfl)
  try simp only [Act.put, List.setIfInBounds_toArray, List.set_cons_zero, List.set_cons_succ]
  refine wpAnyH_ready (rs := [2]) (by kernel_rfl) (by simp) ?_
  refine AllReadyH.cons rfl (fun K hK => ?_) AllReadyH.nil
  rw [if_pos (by rfl)]
  go_wp2_with fail
  have x10 := Lib.hid (show Blk (w9.alloc (.cells #[] 5)).drew hx 39 _ from X9.out.alloc _)
  refine hK.out _ _ x10.out (fun hHeld => ?_)
  clear hK K
  try simp only [Act.put, List.setIfInBounds_toArray, List.set_cons_zero, List.set_cons_succ]
  have k10 := Lib.hid (show Kp (fun _ => False) w9 (w9.alloc (.cells #[] 5)).drew from ((Kp.refl _ w9).alloc _).drew)
  have p10 := Lib.hid (show Owns (w9.alloc (.cells #[] 5)).drew w9.heap.size (.slice (some ⟨w9.heap.size, 0, none⟩) 0 0) [] from Owns.fresh w9 w9.heap.size (Nat.le_refl _))
  have b10 := Lib.hid (show Below w9.heap.size w9 (w9.alloc (.cells #[] 5)).drew from ((Below.refl _ w9).alloc (Nat.le_refl _) _).drew)
  generalize World.drew (w9.alloc _) = w10 at *
  have R10 := Lib.hid ((R9.out.below b10.out (Nat.le_refl _)).mono b10.out.size)
  refine wpAnyH_ready (rs := [4]) (by kernel_rfl) (by simp) ?_
  refine AllReadyH.cons rfl (fun K hK => ?_) AllReadyH.nil
  rw [if_pos (by rfl)]
  refine wp_append_bytes (.tmp 120) (.tmp 121) rfl w9.heap.size (.slice (some ⟨w9.heap.size, 0, none⟩) 0 0) [] (overL l) rfl p10.out w10.heap.size (some ⟨gc, 0, none⟩) (n + 40) (by rw [overL_length, ← HN.out.1]; rfl) R10.out (by rw [overL_length, ← HN.out.1]; simp; omega) b10.out.size ?_
  intro A11 c11 w11 r11 q11 rc11 o11 g11
  have hr11 : r11 = overL l := q11.out
  have hl11 : r11.length = n := by rw [hr11, overL_length, ← HN.out.1]
  rw [hr11] at o11
  rw [overL_length, ← HN.out.1] at o11
  rw [hl11]
  have k11 : Kp (fun k => k = w9.heap.size) w9 w11 := (k10.out.mono fun _ _ h => h.elim).trans (Kp.of_grown g11.1 (by intro k e; simp [Value.ownBlock] at e; exact e.symm))
  have x11 := Lib.hid (X9.out.kp k11 (fun e => by have := X9.out.lt; omega))
  refine hK.out _ _ x11.out (fun hHeld => ?_)
  clear hK K
  try simp only [Act.put, List.setIfInBounds_toArray, List.set_cons_zero, List.set_cons_succ]
  have b11 := Lib.hid (show Below w9.heap.size w9 w11 from Kp.below (Below.refl _ _) k11 (by intro k e; omega) (Nat.le_refl _))
  have R11 := Lib.hid (show Rd w11 w11.heap.size A11 (overL l) from Owns.reads (c := c11) (by rw [overL_length, ← HN.out.1]; exact o11))
  clear o11 g11 k11 q11 rc11 hr11 hl11 x10 k10 p10 b10 R10
  refine wpAnyH_ready (rs := [5]) (by kernel_rfl) (by simp) ?_
  refine AllReadyH.cons rfl (fun K hK => ?_) AllReadyH.nil
  rw [if_pos (by rfl)]
  go_wp2_with fail
  refine (SZ.out 25 (Or.inr rfl) A11 c11 w11 R11.out).mono ?_
  rintro e w12 ⟨A12, c12, rfl, o12, b12⟩
  have X12 := Lib.hid (x11.out.below b12 x11.out.lt)
  refine hK.out _ _ X12.out (fun hHeld => ?_)
  clear hK K
  try simp only [Act.put, List.setIfInBounds_toArray, List.set_cons_zero, List.set_cons_succ]
  have bb12 := Lib.hid (show Below w9.heap.size w9 w12 from b11.out.trans (b12.mono b11.out.size))
  have f12 := Five.of_below bb12.out
  have B12 := Lib.hid (B9.out.trans (bb12.out.mono B9.out.size))
  have K12 := Lib.hid (K9.out.kp (Kp.of_below (S := fun _ => False) bb12.out) fun _ _ h => h.elim)
  refine takeTo (i := 6) (v := ?_) (some 117) rfl rfl (by kernel_rfl) (by kernel_rfl) (by kernel_rfl) (fun _ _ _ h => h) (Or.inl ⟨by rfl, ?_⟩) (by assumption) ?_
  rotate_left
  · (intro W7 hSw; (try dsimp only at hSw); go_simp; try with_reducible rfl)
  try simp only [Act.put, List.setIfInBounds_toArray, List.set_cons_zero, List.set_cons_succ]
  refine takeTo (i := 7) (v := ?_) (some 124) rfl rfl (by kernel_rfl) (by kernel_rfl) (by kernel_rfl) (fun _ _ _ h => h) (Or.inl ⟨by rfl, ?_⟩) (by assumption) ?_
  rotate_left
  · (intro W7 hSw; (try dsimp only at hSw); go_simp; try with_reducible rfl)
  try simp only [Act.put, List.setIfInBounds_toArray, List.set_cons_zero, List.set_cons_succ]
  refine takeTo (i := 8) (v := ?_) (some 125) rfl rfl (by kernel_rfl) (by kernel_rfl) (by kernel_rfl) (fun _ _ _ h => h) (Or.inl ⟨by rfl, ?_⟩) (by assumption) ?_
  rotate_left
  · (intro W7 hSw; (try dsimp only at hSw); go_simp; try with_reducible rfl)
  try simp only [Act.put, List.setIfInBounds_toArray, List.set_cons_zero, List.set_cons_succ]
  refine takeTo (i := 9) (v := ?_) (some 25) rfl rfl (by kernel_rfl) (by kernel_rfl) (by kernel_rfl) (fun _ _ _ h => h) (Or.inl ⟨by rfl, ?_⟩) (by assumption) ?_
  rotate_left
  · (intro W7 hSw; (try dsimp only at hSw); go_simp; try with_reducible rfl)
  try simp only [Act.put, List.setIfInBounds_toArray, List.set_cons_zero, List.set_cons_succ]
  refine takeTo (i := 10) (v := ?_) (some 26) rfl rfl (by kernel_rfl) (by kernel_rfl) (by kernel_rfl) (fun _ _ _ h => h) (Or.inl ⟨by rfl, ?_⟩) (by assumption) ?_
  rotate_left
  · (intro W7 hSw; (try dsimp only at hSw); go_simp; try with_reducible rfl)
  try simp only [Act.put, List.setIfInBounds_toArray, List.set_cons_zero, List.set_cons_succ]
  refine wpAnyH_done (by kernel_rfl) ?_ _
  have O3 := Lib.hid (Owns.five O3.out f12)
  have O4 := Lib.hid (Owns.five O4.out f12)
  have O5 := Lib.hid (Owns.five O5.out f12)
  have O6 := Lib.hid (Owns.five O6.out f12)
  have O7 := Lib.hid (Owns.five O7.out f12)
  have O9 := Lib.hid (Owns.five O9.out f12)
  have v9 := conv_str A9 c9 z w12 w12.heap.size (by rw [HM.out.2.2] at O9; exact Owns.reads O9.out)
  have v12 := conv_str A12 c12 z w12 w12.heap.size (by rw [HM.out.2.2] at o12; exact Owns.reads o12)
  rw [← HM.out.2.2] at v9 v12
  obtain ⟨sZ, hsZ⟩ : ∃ s, s = bs z := ⟨_, rfl⟩
  rw [← hsZ] at v9 v12
  have eZ : (sZ.toList == sZ.toList) = true := by simp
  clear hsZ hHeld o12 b12 f12 bb12 b11 x11 R11 R9 B9 X9 K9
  go_wp2_with fail
  clear v9 v12 eZ
  refine (keep_more K12.out HM.out.1.symm O3.out LX.out.1 (fun r hr => by cases hr) (by simp)).mono ?_
  rintro e w13 ⟨rfl, ⟨ws13, LV13, WV13, k13⟩, p13, f13⟩
  have B13 := Lib.hid (Kp.below B12.out p13 (by have := HG.out; have := HBW.out; intro k h; omega) B12.out.size)
  have K13 := Lib.hid k13
  have O3 := Lib.hid (Owns.five O3.out f13)
  have O4 := Lib.hid (Owns.five O4.out f13)
  have O5 := Lib.hid (Owns.five O5.out f13)
  have O6 := Lib.hid (Owns.five O6.out f13)
  have O7 := Lib.hid (Owns.five O7.out f13)
  have O9 := Lib.hid (Owns.five O9.out f13)
  clear k13 p13 f13 B12 K12
  go_wp2_with fail
  refine (keep_more K13.out HM.out.2.1.symm O4.out LX.out.2.1 (fun r hr k hk e => ?_) (by simp)).mono ?_
  · simp only [List.nil_append, List.mem_singleton] at hr
    subst hr
    have h3 := D3.out k hk
    have h4 := D4.out k e
    omega
  rintro e w14 ⟨rfl, ⟨ws14, LV14, WV14, k14⟩, p14, f14⟩
  have B14 := Lib.hid (Kp.below B13.out p14 (by have := HG.out; have := HBW.out; intro k h; omega) B13.out.size)
  have K14 := Lib.hid k14
  have O3 := Lib.hid (Owns.five O3.out f14)
  have O4 := Lib.hid (Owns.five O4.out f14)
  have O5 := Lib.hid (Owns.five O5.out f14)
  have O6 := Lib.hid (Owns.five O6.out f14)
  have O7 := Lib.hid (Owns.five O7.out f14)
  have O9 := Lib.hid (Owns.five O9.out f14)
  clear k14 p14 f14 B13 K13
  go_wp2_with fail
  refine (keep_more K14.out HM.out.1.symm O5.out LX.out.1 (fun r hr k hk e => ?_) (by simp)).mono ?_
  · simp only [List.nil_append, List.cons_append, List.mem_cons, List.not_mem_nil, or_false] at hr
    have h5 := D5.out k e
    have z4 := Z4.out
    rcases hr with rfl | rfl
    · have h3 := D3.out k hk
      omega
    · have h4 := D4.out k hk
      omega
  rintro e w15 ⟨rfl, ⟨ws15, LV15, WV15, k15⟩, p15, f15⟩
  have B15 := Lib.hid (Kp.below B14.out p15 (by have := HG.out; have := HBW.out; intro k h; omega) B14.out.size)
  have K15 := Lib.hid k15
  have O3 := Lib.hid (Owns.five O3.out f15)
  have O4 := Lib.hid (Owns.five O4.out f15)
  have O5 := Lib.hid (Owns.five O5.out f15)
  have O6 := Lib.hid (Owns.five O6.out f15)
  have O7 := Lib.hid (Owns.five O7.out f15)
  have O9 := Lib.hid (Owns.five O9.out f15)
  clear k15 p15 f15 B14 K14
  go_wp2_with fail
  refine (keep_more K15.out HM.out.2.2.symm O9.out LX.out.2.2 (fun r hr k hk e => ?_) (by simp)).mono ?_
  · simp only [List.nil_append, List.cons_append, List.mem_cons, List.not_mem_nil, or_false] at hr
    have h9 := D9.out k e
    have z4 := Z4.out
    have z5 := Z5.out
    have z6 := Z6.out
    have z7 := Z7.out
    have z8 := Z8.out
    rcases hr with rfl | rfl | rfl
    · have h3 := D3.out k hk
      omega
    · have h4 := D4.out k hk
      omega
    · have h5 := D5.out k hk
      omega
  rintro e w16 ⟨rfl, ⟨ws16, LV16, WV16, k16⟩, p16, f16⟩
  have B16 := Lib.hid (Kp.below B15.out p16 (by have := HG.out; have := HBW.out; intro k h; omega) B15.out.size)
  have K16 := Lib.hid k16
  clear k16 p16 f16 B15 K15
  go_wp2_with fail
  refine (ends_book B g _ ws16 LV16 WV16 w16 K16.out (by simp)).mono ?_
  rintro e w17 ⟨rfl, p17⟩
  have B17 := Lib.hid (Kp.below B16.out p17 (by have := HG.out; have := HBW.out; intro k h; omega) B16.out.size)
  clear p17
  go_wp2_with fail
  go_ret
  exact ⟨rfl, B17.out⟩
end Go.Proofs.Ytofhdehigfdmkaa
