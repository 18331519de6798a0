/- THE WALK of PageOpens. -/
import Derived.Test.YtofhdehigfdmkaaRK
import Derived.Test.YtofhdehigfdmkaaRL
import Derived.Test.YtofhdehigfdmkaaRF
namespace Go.Proofs.Ytofhdehigfdmkaa
open Go.RowKit
theorem ends_book (B g : Nat) (rs ws : List Row) (LV WV : Value) (w : World) (h : Book w B g rs ws LV WV) (hN : rs.length ≤ 1000) :
    Calls Try.prog 30 #[.pointer (some ⟨g, 0, none⟩)] w fun e w' => e = .returned (.bool true) ∧ Kp (fun k => k = g ∨ B ≤ k) w w' := by
  obtain ⟨A, A', n, c, c', L, h1, h2, h3, h4, h5, h6⟩ := h.fn
  obtain ⟨AL, cL, rfl⟩ := rowShape h1
  obtain ⟨AW, cW, rfl⟩ := rowShape h2
  exact ends_any B g rs.length A A' n c c' L AL AW cL cW w h.blk h.low h.size h1 h2 h3 h4 h5 h6 hN
/-- what the owner wrote over his bytes -/
def overL (l : List UInt8) : List UInt8 := Page.rl l.length fun i => lentF l i ^^^ 0x33
theorem overL_length (l : List UInt8) : (overL l).length = l.length := Page.rl_length _ _
set_option maxHeartbeats 1000000 in
set_option maxRecDepth 100000 in
theorem pageOpens_walk (A A' : Option Addr) (c c' : Nat) (number : Int) (l l' : List UInt8) (w : World) (hr : Rd w w.heap.size A l) (hr' : Rd w w.heap.size A' l') (hc' : l'.length ≤ c') (hl : l.length ≤ 1048576) (hl' : l'.length ≤ 1048576) :
    Calls Try.prog 11 #[.slice A l.length c, .slice A' l'.length c', .int .i64 number] w fun e w' => e = .returned (.bool true) ∧ Below w.heap.size w w' := by
  have HR := Lib.hid (fun (W : World) (h : Below w.heap.size w W) => And.intro (hr.below h (Nat.le_refl _)) (hr'.below h (Nat.le_refl _)))
  obtain ⟨n, hn⟩ : ∃ n, n = l.length := ⟨_, rfl⟩
  obtain ⟨n', hn'⟩ : ∃ n, n = l'.length := ⟨_, rfl⟩
  have HL := Lib.hid (show ∀ W, Rd W W.heap.size A l → Calls Try.prog 23 #[.slice A n c] W fun e w' => e = .returned (.slice (some ⟨W.heap.size, 0, none⟩) n (n + 40)) ∧ Blk w' W.heap.size 5 (arr (n + 40) (byF (lentF l))) ∧ Below W.heap.size W w' from fun W h => by
    have := lent3_any A c l W h (by omega)
    rw [← hn] at this
    exact this)
  rw [← hn] at hl ⊢
  rw [← hn'] at hl' hc' ⊢
  have HN := Lib.hid (And.intro hn hn')
  clear hn hn' hr hr'
  go_enter Try.func11, Try.ntmps11
  go_wp2_with fail
  refine (alive_true _).mono ?_
  rintro e w1 ⟨rfl, b1⟩
  have B1 := Lib.hid (b1.alloc b1.size (.cells #[.slice none 0 0, .slice none 0 0] 43))
  have G1 := Lib.hid (Blk.new w1 43 #[.slice none 0 0, .slice none 0 0])
  obtain ⟨g, hg⟩ : ∃ x, x = w1.heap.size := ⟨_, rfl⟩
  have HG := Lib.hid (show w.heap.size ≤ g by rw [hg]; exact b1.size)
  go_upto_region 3 with fail
  rw [← hg] at G1 ⊢
  clear b1 hg
  generalize World.alloc w1 _ = W1 at B1 G1 ⊢
  clear w1
  go_wp2_with fail
  refine (HL.out W1 ((HR.out W1 B1.out).1.mono B1.out.size)).mono ?_
  rintro e w2 ⟨rfl, c2, b2⟩
  obtain ⟨gc, hgc⟩ : ∃ x, x = W1.heap.size := ⟨_, rfl⟩
  rw [← hgc] at c2 ⊢
  have HGC := Lib.hid (show g < gc ∧ w.heap.size ≤ gc from ⟨by rw [hgc]; exact G1.out.lt, by rw [hgc]; exact B1.out.size⟩)
  obtain ⟨B, hB⟩ : ∃ x, x = w2.heap.size := ⟨_, rfl⟩
  have HB := Lib.hid (show gc < B by rw [hB]; exact c2.lt)
  have B2 := Lib.hid (B1.out.trans (b2.mono B1.out.size))
  have C2 := Lib.hid c2
  have K2 := Lib.hid (Book.new (B := B) (show Blk w2 g 43 _ from G1.out.below b2 G1.out.lt) (by have := HB.out; have := HGC.out; omega) (Nat.le_of_eq hB))
  clear b2 c2 hgc hB B1 G1
  have RL : ∀ W : World, Blk W gc 5 (arr (n + 40) (byF (lentF l))) → Rd W (gc + 1) (some ⟨gc, 0, none⟩) l := fun W h => Rd.of_byF l h (by rw [← HN.out.1]; omega) (fun i hi => by rw [lentF, if_pos hi]) (by omega)
  have RL2 := Lib.hid RL
  have HBW := Lib.hid (show w.heap.size ≤ B by have := HB.out; have := HGC.out; omega)
  clear RL
  go_wp2_with fail
  refine (opened_any B g n [] [] _ _ (some ⟨gc, 0, none⟩) (n + 40) (gc + 1) number l w2 K2.out (RL2.out w2 C2.out) (by have := C2.out.lt; omega) HN.out.1.symm (by omega) (by simp) hl).mono ?_
  rintro e w3 ⟨rfl, ⟨rs3, ws3, LV3, WV3, k3, n3⟩, p3, f3⟩
  have B3 := Lib.hid (Kp.below B2.out p3 (by have := HG.out; have := HBW.out; intro k h; omega) B2.out.size)
  have C3 := Lib.hid (C2.out.five f3)
  have K3 := Lib.hid (And.intro k3 n3)
  clear k3 n3 p3 f3 B2 C2 K2
  go_wp2_with fail
  refine (opened_any B g n' rs3 ws3 LV3 WV3 A' c' w.heap.size number l' w3 K3.out.1 (HR.out w3 B3.out).2 B3.out.size HN.out.2.symm hc' (by have := K3.out.2; simp at this; omega) hl').mono ?_
  rintro e w4 ⟨rfl, ⟨rs4, ws4, LV4, WV4, k4, n4⟩, p4, f4⟩
  have B4 := Lib.hid (Kp.below B3.out p4 (by have := HG.out; have := HBW.out; intro k h; omega) B3.out.size)
  have C4 := Lib.hid (C3.out.five f4)
  have K4 := Lib.hid (And.intro k4 (show rs4.length = 2 by have := K3.out.2; simp at this; omega))
  clear k4 n4 p4 f4 B3 C3 K3
  go_wp2_with fail
  refine (opened_any B g n rs4 ws4 LV4 WV4 (some ⟨gc, 0, none⟩) (n + 40) (gc + 1) number l w4 K4.out.1 (RL2.out w4 C4.out) (by have := C4.out.lt; omega) HN.out.1.symm (by omega) (by have := K4.out.2; omega) hl).mono ?_
  rintro e w5 ⟨rfl, ⟨rs5, ws5, LV5, WV5, k5, n5⟩, p5, f5⟩
  have B5 := Lib.hid (Kp.below B4.out p5 (by have := HG.out; have := HBW.out; intro k h; omega) B4.out.size)
  have C5 := Lib.hid (C4.out.five f5)
  have K5 := Lib.hid (And.intro k5 (show rs5.length = 3 by have := K4.out.2; omega))
  clear k5 n5 p5 f5 B4 C4 K4
  go_wp2_with fail
  refine (back3_any A c gc w.heap.size n l w5 HN.out.1.symm (HR.out w5 B5.out).1 HGC.out.2 (by omega) C5.out).mono ?_
  rintro e w6 ⟨rfl, c6, g6⟩
  have B6 := Lib.hid (Below.only B5.out g6 HGC.out.2 B5.out.size)
  have K6 := Lib.hid (K5.out.1.kp (Kp.of_grown (S := fun k => k = gc) g6 (by intro k e; injection e with e; exact e.symm)) (fun k _ e => by have := HGC.out; have := HB.out; omega))
  have R6 := Lib.hid (show Rd w6 (gc + 1) (some ⟨gc, 0, none⟩) (overL l) from Rd.of_byF (overL l) c6 (by rw [overL_length, ← HN.out.1]; omega) (fun i hi => by rw [overL_length] at hi; rw [overL, Page.rl_get _ _ _ hi]) (by omega))
  have Z6 := Lib.hid c6.lt
  clear c6 g6 B5 C5
  go_wp2_with fail
  refine (opened_any B g n rs5 ws5 LV5 WV5 (some ⟨gc, 0, none⟩) (n + 40) (gc + 1) number (overL l) w6 K6.out R6.out Z6.out (by rw [overL_length]; exact HN.out.1.symm) (by omega) (by have := K5.out.2; omega) hl).mono ?_
  rintro e w7 ⟨rfl, ⟨rs7, ws7, LV7, WV7, k7, n7⟩, p7, f7⟩
  have B7 := Lib.hid (Kp.below B6.out p7 (by have := HG.out; have := HBW.out; intro k h; omega) B6.out.size)
  have K7 := Lib.hid (And.intro k7 (show rs7.length = 4 by have := K5.out.2; omega))
  clear k7 n7 p7 f7 B6 K6 R6 Z6
  go_wp2_with fail
  refine (ends_book B g rs7 ws7 LV7 WV7 w7 K7.out.1 (by have := K7.out.2; omega)).mono ?_
  rintro e w8 ⟨rfl, p8⟩
  have B8 := Lib.hid (Kp.below B7.out p8 (by have := HG.out; have := HBW.out; intro k h; omega) B7.out.size)
  clear p8
  go_wp2_with fail
  go_ret
  exact ⟨rfl, B8.out⟩
end Go.Proofs.Ytofhdehigfdmkaa
