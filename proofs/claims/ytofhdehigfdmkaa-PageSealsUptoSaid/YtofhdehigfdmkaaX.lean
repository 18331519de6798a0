/- THE WALK OF PageBack. -/
import Derived.Test.YtofhdehigfdmkaaV
import Derived.Test.YtofhdehigfdmkaaW
namespace Go.Proofs.Ytofhdehigfdmkaa
open Go.RowKit
theorem kindN_in (k : Int) : 1 ≤ kindN k ∧ kindN k ≤ 5 := by
  have := pickN_in k 5 (by omega)
  unfold kindN; omega
theorem numN_in (k : Int) : numN k < 65536 := by
  have := pickN_in k 65536 (by omega)
  unfold numN; omega
set_option maxHeartbeats 1000000 in
set_option maxRecDepth 100000 in
theorem pageBack_walk (A : Option Addr) (c : Nat) (s k m : Int) (gen : Nat) (number : Int) (l : List UInt8) (w : World) (hr : Rd w w.heap.size A l) (hlc : l.length ≤ c) (hl : l.length ≤ 9223372036854775807)
    (hs : -9223372036854775808 ≤ s ∧ s ≤ 9223372036854775807) (hk : -9223372036854775808 ≤ k ∧ k ≤ 9223372036854775807) (hm : -9223372036854775808 ≤ m ∧ m ≤ 9223372036854775807) (hg : gen < 18446744073709551616) :
    Calls Try.prog 12 #[.int .i64 s, .agg #[.int .i64 k, .int .i64 m, .int .u64 (gen : Int)], .slice A l.length c, .int .i64 number] w fun e w' => e = .returned (.bool true) ∧ Below w.heap.size w w' := by
  have HM := Lib.hid (fun W => may3_any A c l.length s k m (gen : Int) W hs hk hm hlc hl)
  obtain ⟨M, hM⟩ : ∃ M, M = min l.length (sizeN s - 32) := ⟨_, rfl⟩
  have FI : Page.Fits (sizeN s) (kindN k) (numN m) gen (l.take M) := ⟨sizeN_sized s, (kindN_in k).1, (kindN_in k).2, numN_in m, hg, by rw [List.length_take]; omega⟩
  have LM : M = (l.take M).length := by rw [List.length_take]; omega
  have HR := Lib.hid (fun (W : World) (h : Below w.heap.size w W) => (hr.below h (Nat.le_refl _)).take M)
  rw [← hM] at HM
  obtain ⟨g1, g2⟩ := Page.sized_512 (sizeN_sized s)
  generalize sizeN s = S at *
  generalize kindN k = KK at *
  generalize numN m = NN at *
  generalize l.take M = p at *
  have HF := Lib.hid FI
  have HL := Lib.hid LM
  have HX := Lib.hid (And.intro hs (And.intro hk hm))
  obtain ⟨n, hn⟩ : ∃ n, n = l.length := ⟨_, rfl⟩
  rw [← hn] at HM ⊢
  clear FI LM hs hk hm hM hr hn hlc hl
  go_enter Try.func12, Try.ntmps12
  go_wp2_with fail
  refine (alive_true _).mono ?_
  rintro e w2 ⟨rfl, b2⟩
  have B2 := Lib.hid (((Below.refl w.heap.size w).alloc (Nat.le_refl _) (.cells #[.int .i64 k, .int .i64 m, .int .u64 (gen : Int)] 39)).trans (b2.mono (by simp)))
  have K2 := Lib.hid ((Blk.new w 39 #[.int .i64 k, .int .i64 m, .int .u64 (gen : Int)]).below b2 (by simp))
  clear b2
  go_wp2_with (refine wpList_load_row rfl 39 _ rfl _ rfl 39 _ (0, 0) _ K2.out Try.underlying39 rfl (by rw [info39]; rfl) ?_)
  refine (HM.out _).mono ?_
  rintro e w3 ⟨rfl, b3⟩
  have B3 := Lib.hid ((B2.out.trans (b3.mono B2.out.size)).alloc (B2.out.trans (b3.mono B2.out.size)).size (.cells #[.int .i64 (KK : Int), .int .i64 (NN : Int), .int .u64 (gen : Int)] 39))
  have K3 := Lib.hid (Blk.new w3 39 #[.int .i64 (KK : Int), .int .i64 (NN : Int), .int .u64 (gen : Int)])
  clear b3 K2 B2 HX HM
  go_wp2_with (refine wpList_load_row rfl 39 _ rfl _ rfl 39 _ (0, 0) _ K3.out Try.underlying39 rfl (by rw [info39]; rfl) ?_)
  obtain ⟨hx, hhx⟩ : ∃ x, x = w3.heap.size := ⟨_, rfl⟩
  rw [← hhx] at K3 ⊢
  generalize World.alloc w3 _ = W3 at B3 K3 ⊢
  clear hhx w3
  refine (seal_ok A c S KK NN gen M p W3 HF.out HL.out.symm ((HR.out W3 B3.out).mono B3.out.size)).mono ?_
  rintro e w4 ⟨g, rfl, hg0, hgb, b4⟩
  have B4 := Lib.hid (B3.out.trans (b4.mono B3.out.size))
  have K4 := Lib.hid (K3.out.below b4 K3.out.lt)
  have G4 := Lib.hid hgb
  have n4 : w4.cell? ⟨hx, 1, none⟩ = some (.int .i64 (NN : Int)) := K4.out.cell 1
  clear b4 hgb hg0 K3 B3
  have hO := fun (n : Int) (W : World) (h : Below w4.heap.size w4 W) => open_page (p := p) g S n W HF.out (Nat.le_refl _) (G4.out.below h G4.out.lt)
  have HO := Lib.hid hO
  clear hO
  go_wp2_with fail
  refine (HO.out _ w4 (Below.refl _ _)).mono ?_
  rintro e w5 ⟨v, rfl, hv, b5⟩
  rcases hv with ⟨h, _⟩ | ⟨_, A5, c5, rfl, hc5, ho⟩
  · exact absurd rfl h
  rw [← HL.out] at ho
  have B5 := Lib.hid ((B4.out.trans (b5.mono B4.out.size)).alloc (B4.out.trans (b5.mono B4.out.size)).size (.cells #[.int .i64 (KK : Int), .int .i64 (NN : Int), .int .u64 (gen : Int)] 39))
  have C5 := Lib.hid (b5.alloc b5.size (.cells #[.int .i64 (KK : Int), .int .i64 (NN : Int), .int .u64 (gen : Int)] 39))
  have K5 := Lib.hid ((K4.out.below b5 K4.out.lt).alloc (.cells #[.int .i64 (KK : Int), .int .i64 (NN : Int), .int .u64 (gen : Int)] 39))
  have Y5 := Lib.hid (Blk.new w5 39 #[.int .i64 (KK : Int), .int .i64 (NN : Int), .int .u64 (gen : Int)])
  have ho' : Owns (w5.alloc (.cells #[.int .i64 (KK : Int), .int .i64 (NN : Int), .int .u64 (gen : Int)] 39)) w4.heap.size (.slice A5 p.length c5) p := by rw [← HL.out]; exact World.ownsRow.alloc ho _
  have O5 := Lib.hid (Owns.reads ho')
  have RP := Lib.hid (HR.out _ B5.out)
  rw [← HL.out]
  have hcv1 : (convert 22 9 (.slice A5 M c5)).run Try.prog (w5.alloc (.cells #[.int .i64 (KK : Int), .int .i64 (NN : Int), .int .u64 (gen : Int)] 39)) = .ok (.string (bs p)) (w5.alloc (.cells #[.int .i64 (KK : Int), .int .i64 (NN : Int), .int .u64 (gen : Int)] 39)) := by rw [HL.out]; exact conv_str A5 c5 p _ _ O5.out
  have hcv2 : (convert 22 9 (.slice A M c)).run Try.prog (w5.alloc (.cells #[.int .i64 (KK : Int), .int .i64 (NN : Int), .int .u64 (gen : Int)] 39)) = .ok (.string (bs p)) (w5.alloc (.cells #[.int .i64 (KK : Int), .int .i64 (NN : Int), .int .u64 (gen : Int)] 39)) := by rw [HL.out]; exact conv_str A c p _ _ RP.out
  have x0 : (w5.alloc (.cells #[.int .i64 (KK : Int), .int .i64 (NN : Int), .int .u64 (gen : Int)] 39)).cell? ⟨hx, 0, none⟩ = some (.int .i64 (KK : Int)) := K5.out.cell 0
  have x1 : (w5.alloc (.cells #[.int .i64 (KK : Int), .int .i64 (NN : Int), .int .u64 (gen : Int)] 39)).cell? ⟨hx, 1, none⟩ = some (.int .i64 (NN : Int)) := K5.out.cell 1
  have x2 : (w5.alloc (.cells #[.int .i64 (KK : Int), .int .i64 (NN : Int), .int .u64 (gen : Int)] 39)).cell? ⟨hx, 2, none⟩ = some (.int .u64 (gen : Int)) := K5.out.cell 2
  clear ho ho' b5 hc5 n4
  go_wp2_with fail
  have C6 := Lib.hid C5.out
  clear hcv1 hcv2
  refine (HO.out number _ C5.out).mono ?_
  rintro e w6 ⟨v, rfl, hv, b6⟩
  have B6 := Lib.hid (B5.out.trans (b6.mono B5.out.size))
  have K6 := Lib.hid (K5.out.below b6 K5.out.lt)
  rcases hv with ⟨h, rfl⟩ | ⟨h, A6, c6, rfl, hc6, ho6⟩
  · have hne : (number == (NN : Int)) = false := by simp; omega
    have hne2 : ¬ (number = (NN : Int)) := by omega
    rw [openBad]
    have x0 : (w6.alloc (.cells #[.int .i64 0, .int .i64 0, .int .u64 0] 39)).cell? ⟨hx, 0, none⟩ = some (.int .i64 (KK : Int)) := (K6.out.alloc _).cell 0
    have x1 : (w6.alloc (.cells #[.int .i64 0, .int .i64 0, .int .u64 0] 39)).cell? ⟨hx, 1, none⟩ = some (.int .i64 (NN : Int)) := (K6.out.alloc _).cell 1
    go_wp2_with fail
    go_ret
    exact ⟨rfl, B6.out.alloc B6.out.size _⟩
  · subst h
    have x0 : (w6.alloc (.cells #[.int .i64 (KK : Int), .int .i64 (NN : Int), .int .u64 (gen : Int)] 39)).cell? ⟨hx, 0, none⟩ = some (.int .i64 (KK : Int)) := (K6.out.alloc _).cell 0
    have x1 : (w6.alloc (.cells #[.int .i64 (KK : Int), .int .i64 (NN : Int), .int .u64 (gen : Int)] 39)).cell? ⟨hx, 1, none⟩ = some (.int .i64 (NN : Int)) := (K6.out.alloc _).cell 1
    have x2 : (w6.alloc (.cells #[.int .i64 (KK : Int), .int .i64 (NN : Int), .int .u64 (gen : Int)] 39)).cell? ⟨hx, 2, none⟩ = some (.int .u64 (gen : Int)) := (K6.out.alloc _).cell 2
    clear ho6
    go_wp2_with fail
    go_ret
    exact ⟨rfl, B6.out.alloc B6.out.size _⟩
end Go.Proofs.Ytofhdehigfdmkaa
