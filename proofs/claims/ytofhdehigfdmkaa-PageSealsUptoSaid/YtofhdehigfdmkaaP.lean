/- THE WALKS OF summed and SumSums. -/
import Derived.Test.YtofhdehigfdmkaaO
namespace Go.Proofs.Ytofhdehigfdmkaa
open Go.RowKit

theorem Rd.of_byF {w : World} {g B N : Nat} {x : Nat → UInt8} (l : List UInt8) (h : Blk w g 5 (arr N (byF x))) (hn : l.length ≤ N) (hx : ∀ i, i < l.length → x i = l.getD i 0) (hB : g < B) : Rd w B (some ⟨g, 0, none⟩) l :=
  Rd.of_blk h hn hx hB
theorem mapped_get (l : List UInt8) (f : UInt8 → UInt8) (i : Nat) (hi : i < l.length) : (l.map f).getD i 0 = f (l.getD i 0) := by
  simp [List.getD, hi]

set_option maxHeartbeats 1000000 in
theorem summed_any (A : Option Addr) (ca n : Nat) (l : List UInt8) (s : BitVec 64) (w : World) (hn : l.length = n) (hA : Rd w w.heap.size A l) (hl : n ≤ 1048576) :
    Calls Try.prog 16 #[.slice A n ca, .int .u64 (s.toNat : Int)] w fun e w' => e = .returned (.bool true) ∧ Below w.heap.size w w' := by
  have HL := Lib.hid (lent_any A ca l w hA (by omega))
  have HA := Lib.hid (fun (W : World) (h : Below w.heap.size w W) => hA.below h (Nat.le_refl _))
  have mx : l.length ≤ maxLen := by unfold maxLen; omega
  have F1 := Lib.hid (fun (W : World) (A : Option Addr) (c : Nat) (h : Rd W W.heap.size A l) => of_any A c l W W.heap.size (Nat.le_refl _) h mx)
  have F2 := Lib.hid (fun (W : World) (A : Option Addr) (c : Nat) (h : Rd W W.heap.size A l) => more_any s A c l W W.heap.size (Nat.le_refl _) h mx)
  have F3 := Lib.hid (fun (W : World) (A : Option Addr) (c B : Nat) (h : Rd W B A l) => rof_any A c l W B h (by omega))
  have F4 := Lib.hid (fun (W : World) (A : Option Addr) (c B : Nat) (h : Rd W B A l) => rmore_any s A c l W B h (by omega))
  obtain ⟨l2, hl2⟩ : ∃ l2, l2 = l.map (· ^^^ (0x33 : UInt8)) := ⟨_, rfl⟩
  have hn2 : l2.length = n := by rw [hl2, List.length_map, hn]
  have mx2 : l2.length ≤ maxLen := by rw [hn2, ← hn]; exact mx
  have G1 := Lib.hid (fun (W : World) (A : Option Addr) (c : Nat) (h : Rd W W.heap.size A l2) => of_any A c l2 W W.heap.size (Nat.le_refl _) h mx2)
  have G2 := Lib.hid (fun (W : World) (A : Option Addr) (c : Nat) (h : Rd W W.heap.size A l2) => more_any s A c l2 W W.heap.size (Nat.le_refl _) h mx2)
  have G3 := Lib.hid (fun (W : World) (A : Option Addr) (c B : Nat) (h : Rd W B A l2) => rof_any A c l2 W B h (by omega))
  have G4 := Lib.hid (fun (W : World) (A : Option Addr) (c B : Nat) (h : Rd W B A l2) => rmore_any s A c l2 W B h (by omega))
  have HX := Lib.hid (show ∀ i, i < n → lentF l i ^^^ 0x33 = l2.getD i 0 from fun i hi => by rw [hl2, mapped_get _ _ _ (by omega), lentF, if_pos (by omega)])
  have HX1 := Lib.hid (show ∀ i, i < n → lentF l i = l.getD i 0 from fun i hi => by rw [lentF, if_pos (by omega)])
  rw [hn] at HL F1 F2 F3 F4
  rw [hn2] at G1 G2 G3 G4
  have HN := Lib.hid hn
  have HN2 := Lib.hid hn2
  clear hn hn2 mx mx2 hl2 hA
  generalize Crc.sumOf l = p1 at F1 F3
  generalize Crc.more s l = p2 at F2 F4
  generalize Crc.sumOf l2 = q1 at G1 G3
  generalize Crc.more s l2 = q2 at G2 G4
  go_enter Try.func16, Try.ntmps16
  go_wp2_with fail
  refine HL.out.mono ?_
  rintro e w1 ⟨rfl, hb1, b1⟩
  have K1 := Lib.hid (And.intro hb1 b1)
  clear hb1 b1 HL
  go_wp2_with fail
  go_loopw [6] (fun iv wr => ∃ k : Nat, k ≤ 2 ∧ iv = .int .i64 k ∧ Blk wr w.heap.size 5 (arr (n + 40) (byF (lentF l))) ∧ Below w.heap.size w wr) (fun iv _ => 2 - (intOf iv).toNat)
  case atStart => exact ⟨0, by omega, rfl, K1.out⟩
  case round =>
    obtain ⟨k, hk, rfl, hb1, hbel⟩ := hrel
    have HK := Lib.hid (And.intro hb1 hbel)
    clear hb1 hbel K1
    by_cases hlt : k < 2
    · have hd : decide ((k : Int) < 2) = true := by simp; omega
      go_wp2_with fail
      refine (F1.out _ _ _ (Rd.of_byF l HK.out.1 (by have := HN.out; omega) (fun i hi => HX1.out i (by have := HN.out; omega)) HK.out.1.lt)).mono ?_
      rintro e w2 ⟨rfl, b2⟩
      have H2 := Lib.hid (And.intro (HK.out.1.below b2 HK.out.1.lt) (HK.out.2.trans (b2.mono HK.out.2.size)))
      clear b2
      go_wp2_with fail
      refine (F2.out _ _ _ (Rd.of_byF l H2.out.1 (by have := HN.out; omega) (fun i hi => HX1.out i (by have := HN.out; omega)) H2.out.1.lt)).mono ?_
      rintro e w3 ⟨rfl, b3⟩
      have H3 := Lib.hid (And.intro (H2.out.1.below b3 H2.out.1.lt) (H2.out.2.trans (b3.mono H2.out.2.size)))
      clear b3
      go_wp2_with fail
      refine (F3.out _ _ _ _ (HA.out _ H3.out.2)).mono ?_
      rintro e w4 ⟨rfl, rfl⟩
      go_wp2_with fail
      refine (F4.out _ _ _ _ (HA.out _ H3.out.2)).mono ?_
      rintro e w4 ⟨rfl, rfl⟩
      go_wp2
      go_roundw
      case rel => exact ⟨k + 1, by omega, by go_num, H3.out⟩
      case measure => simp [intOf] <;> omega
    · have hd : decide ((k : Int) < 2) = false := by simp; omega
      go_wp2_with fail
      refine (back_any A ca w.heap.size w.heap.size n l _ HN.out (HA.out _ HK.out.2) (Nat.le_refl _) (by omega) HK.out.1).mono ?_
      rintro e w2 ⟨rfl, hb2, g2⟩
      have H2 := Lib.hid (And.intro hb2 (HK.out.2.grown g2 HK.out.2.size (fun k hk => by cases hk; exact Nat.le_refl _)))
      clear hb2 g2
      go_wp2_with (first
        | (at_builtin; refine wpList_append_bytes rfl (.tmp 44) (.tmp 48) rfl w.heap.size _ [] l2 rfl (Owns.fresh w2 w.heap.size H2.out.2.size) (w2.heap.size) (some ⟨w.heap.size, 0, none⟩) (n + 40) (by rw [HN2.out]; rfl) ((Rd.of_byF l2 H2.out.1 (by have := HN2.out; omega) (fun i hi => HX.out i (by have := HN2.out; omega)) H2.out.1.lt).below ((Below.refl _ _).alloc (Nat.le_refl _) (.cells #[] 5)) (Nat.le_refl _)) (by rw [HN2.out]; simp; omega) (by have := H2.out.2.size; simp; omega) ?_
           intro A3 c3 w3 r3 q3 _ o3 g3
           have B3 := Lib.hid (show Below w2.heap.size w2 w3 from Below.grew ((Below.refl _ _).alloc (Nat.le_refl _) (.cells #[] 5)) g3 (by simp) (fun k hk => by cases hk; exact Nat.le_refl _))
           have O3 := Lib.hid o3.reads
           have Q3 := Lib.hid (show r3 = l2 from q3.out)
           have L3 := Lib.hid (show r3.length = n by rw [Q3.out, HN2.out])
           clear g3 o3 q3))
      have R3 := Lib.hid (show Rd w3 w3.heap.size A3 l2 by rw [← Q3.out]; exact O3.out)
      have L4 := L3.out
      generalize r3.length = m at L4 ⊢
      have HM := Lib.hid HN2.out
      clear O3 L3 Q3 HN2 HX1
      subst L4
      have H3 := Lib.hid (And.intro (H2.out.1.below B3.out H2.out.1.lt) (H2.out.2.trans (B3.out.mono H2.out.2.size)))
      clear B3 H2
      have RC := Lib.hid (fun (W : World) (h : Blk W w.heap.size 5 (arr (m + 40) (byF fun i => lentF l i ^^^ 0x33))) => Rd.of_byF (B := W.heap.size) l2 h (by have := HM.out; omega) (fun i hi => HX.out i (by have := HM.out; omega)) h.lt)
      refine (G2.out _ _ _ (RC.out _ H3.out.1)).mono ?_
      rintro e w4 ⟨rfl, b4⟩
      have H4 := Lib.hid (And.intro (H3.out.1.below b4 H3.out.1.lt) (H3.out.2.trans (b4.mono H3.out.2.size)))
      have R4 := Lib.hid (R3.out.below b4 (Nat.le_refl _))
      have b4s := Lib.hid b4.size
      clear b4 H3 R3
      go_wp2_with fail
      refine (G1.out _ _ _ (RC.out _ H4.out.1)).mono ?_
      rintro e w5 ⟨rfl, b5⟩
      have H5 := Lib.hid (H4.out.2.trans (b5.mono H4.out.2.size))
      have R5 := Lib.hid (R4.out.below b5 b4s.out)
      clear b5
      go_wp2_with fail
      refine (G3.out _ _ _ _ R5.out).mono ?_
      rintro e w6 ⟨rfl, rfl⟩
      go_wp2_with fail
      refine (G4.out _ _ _ _ R5.out).mono ?_
      rintro e w6 ⟨rfl, rfl⟩
      go_wp2
      go_ret
      exact ⟨ret_bool (by simp), H5.out⟩

set_option maxHeartbeats 400000 in
/-- SumSums -/
theorem sums_walk (A O : Option Addr) (ca co : Nat) (l m : List UInt8) (s : BitVec 64) (w : World) (hA : Rd w w.heap.size A l) (hO : Rd w w.heap.size O m) (hl : l.length ≤ 1048576) (hm : m.length ≤ 1048576) :
    Calls Try.prog 3 #[.slice A l.length ca, .slice O m.length co, .int .u64 (s.toNat : Int)] w fun e w' => e = .returned (.bool true) ∧ Below w.heap.size w w' := by
  have S1 := Lib.hid (fun (W : World) (h : Below w.heap.size w W) => summed_any A ca _ l s W rfl ((hA.below h (Nat.le_refl _)).mono h.size) hl)
  have S2 := Lib.hid (fun (W : World) (h : Below w.heap.size w W) => summed_any O co _ m s W rfl ((hO.below h (Nat.le_refl _)).mono h.size) hm)
  go_enter Try.func3, Try.ntmps3
  go_wp2_with fail
  refine (shown_any _).mono ?_
  rintro e w1 ⟨rfl, b1⟩
  have B1 := Lib.hid b1
  clear b1
  go_wp2_with fail
  refine (S1.out _ B1.out).mono ?_
  rintro e w2 ⟨rfl, b2⟩
  have B2 := Lib.hid (B1.out.trans (b2.mono B1.out.size))
  clear b2 B1
  go_wp2_with fail
  refine (S2.out _ B2.out).mono ?_
  rintro e w3 ⟨rfl, b3⟩
  have B3 := Lib.hid (B2.out.trans (b3.mono B2.out.size))
  clear b3 B2
  go_wp2_with fail
  refine (S1.out _ B3.out).mono ?_
  rintro e w4 ⟨rfl, b4⟩
  have B4 := Lib.hid (B3.out.trans (b4.mono B3.out.size))
  clear b4 B3
  go_wp2
  go_ret
  exact ⟨rfl, B4.out⟩
end Go.Proofs.Ytofhdehigfdmkaa
