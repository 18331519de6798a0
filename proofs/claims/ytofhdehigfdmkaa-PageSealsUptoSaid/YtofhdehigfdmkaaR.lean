/- THE WALK OF page.Seal. -/
import Derived.Test.YtofhdehigfdmkaaQ
import Derived.BigRegion
import Derived.StillTailTactics
namespace Go.Proofs.Ytofhdehigfdmkaa
open Go.RowKit
def headF3 (kind i : Nat) : UInt8 := if i = 0 then 66 else if i = 1 then 89 else if i = 2 then UInt8.ofNat kind else 0
theorem three_puts (size kind : Nat) (hk : kind ≤ 5) :
    (((arr size fun _ => Value.int .u8 0).setIfInBounds 0 (.int .u8 66)).setIfInBounds 1 (.int .u8 89)).setIfInBounds 2 (.int .u8 (kind : Int)) = arr size (byF (headF3 kind)) := by
  apply arr_of
  · simp [arr_size]
  · intro i hi
    simp only [Array.getElem?_setIfInBounds, Array.size_setIfInBounds, arr_size]
    unfold byF headF3
    by_cases h2 : 2 = i
    · subst h2; rw [if_pos rfl, if_pos hi, if_neg (by omega), if_neg (by omega), if_pos rfl, UInt8.toNat_ofNat']; congr 2; omega
    rw [if_neg h2]
    by_cases h1 : 1 = i
    · subst h1; rw [if_pos rfl, if_pos hi]; rfl
    rw [if_neg h1]
    by_cases h0 : 0 = i
    · subst h0; rw [if_pos rfl, if_pos hi]; rfl
    rw [if_neg h0, arr_get _ _ _ hi, if_neg (by omega), if_neg (by omega), if_neg (by omega)]; rfl
theorem Blk.only {w w' : World} {g g' : Nat} {t : TypeId} {cs : Array Value} (h : Blk w g' t cs) (hg : w.grownBy w' (some g)) (hne : g' ≠ g) : Blk w' g' t cs :=
  (hg.block g' h.lt (fun e => hne (by injection e))).trans h
theorem Below.only {B g : Nat} {a w w' : World} (h : Below B a w) (hg : w.grownBy w' (some g)) (hB : B ≤ g) (hs : B ≤ w.heap.size) : Below B a w' :=
  h.grown hg hs (fun k hk => by cases hk; exact hB)
/-- all but the sum is laid down -/
theorem laid_data (size kind num gen : Nat) (p : List UInt8) :
    arr size (overF (byF (beTo (beTo (beTo (headF3 kind) num 4 4 4) gen 8 8 8) p.length 16 4 4)) 24 p) = arr size (byF (Page.dataF kind num gen p)) := by
  apply arr_congr
  intro i _
  unfold overF byF beTo headF3 Page.dataF
  by_cases e0 : i = 0
  · subst e0; rfl
  by_cases e1 : i = 1
  · subst e1; rfl
  by_cases e2 : i = 2
  · subst e2; rfl
  by_cases e3 : i = 3
  · subst e3; rfl
  by_cases e4 : i < 8
  · rw [if_neg (by omega), if_neg (by omega), if_neg (by omega), if_pos (by omega), if_neg e0, if_neg e1, if_neg e2, if_neg e3, if_pos e4]
  by_cases e5 : i < 16
  · rw [if_neg (by omega), if_neg (by omega), if_pos (by omega), if_neg e0, if_neg e1, if_neg e2, if_neg e3, if_neg e4, if_pos e5]
  by_cases e6 : i < 20
  · rw [if_neg (by omega), if_pos (by omega), if_neg e0, if_neg e1, if_neg e2, if_neg e3, if_neg e4, if_neg e5, if_pos e6]
  by_cases e7 : i < 24
  · rw [if_neg (by omega), if_neg (by omega), if_neg (by omega), if_neg (by omega), if_neg e0, if_neg e1, if_neg e2, if_neg e0, if_neg e1, if_neg e2, if_neg e3, if_neg e4, if_neg e5, if_neg e6, if_pos e7]
  by_cases e8 : i < 24 + p.length
  · rw [if_pos (by omega), if_neg e0, if_neg e1, if_neg e2, if_neg e3, if_neg e4, if_neg e5, if_neg e6, if_neg e7, if_pos e8]
  · rw [if_neg (by omega), if_neg (by omega), if_neg (by omega), if_neg (by omega), if_neg e0, if_neg e1, if_neg e2, if_neg e0, if_neg e1, if_neg e2, if_neg e3, if_neg e4, if_neg e5, if_neg e6, if_neg e7, if_neg e8]
/-- the sum's first k bytes behind it -/
def sumTo (m : Nat) (f : Nat → UInt8) (s : BitVec 64) (k i : Nat) : UInt8 := if m ≤ i ∧ i < m + k then Page.leB s (i - m) else f i
theorem sumTo_zero (N m : Nat) (f : Nat → UInt8) (s : BitVec 64) : arr N (byF (sumTo m f s 0)) = arr N (byF f) := arr_congr _ _ _ fun i _ => by unfold byF sumTo; rw [if_neg (by omega)]
theorem sumTo_put (N m k : Nat) (f : Nat → UInt8) (s : BitVec 64) (u : Value) (hu : u = .int .u8 ((Page.leB s k).toNat : Int)) : (arr N (byF (sumTo m f s k))).setIfInBounds (m + k) u = arr N (byF (sumTo m f s (k + 1))) := by
  refine arr_put _ (m + k) _ _ _ ?_ ?_
  · unfold byF sumTo
    rw [if_pos (by omega), hu, show m + k - m = k by omega]
  · intro i _ hne
    unfold byF sumTo
    by_cases h : m ≤ i ∧ i < m + k
    · rw [if_pos h, if_pos (by omega)]
    · rw [if_neg h, if_neg (by omega)]
theorem sumTo_all (size kind num gen : Nat) (p : List UInt8) (h : 8 ≤ size) :
    arr size (byF (sumTo (size - 8) (Page.dataF kind num gen p) (Crc.sumOf (Page.dataL size kind num gen p)) 8)) = arr size (byF (Page.pageF size kind num gen p)) := by
  apply arr_congr
  intro i hi
  unfold byF sumTo Page.pageF
  by_cases e : i < size - 8
  · rw [if_neg (by omega), if_pos e]
  · rw [if_pos (by omega), if_neg e]
theorem shift_le (s : BitVec 64) (k m : Nat) (hm : m = 8 * k) : IntKind.u8.wrap ((s.toNat : Int) / 2 ^ m) = ((Page.leB s k).toNat : Int) := by
  rw [IntKind.wrap_u8', Page.leB, UInt8.toNat_ofNat']
  have e : (2 : Int) ^ m = ((256 ^ k : Nat) : Int) := by
    rw [hm, show (256 : Nat) = 2 ^ 8 from rfl, ← Nat.pow_mul]; simp
  rw [e]
  generalize 256 ^ k = q
  omega

set_option maxHeartbeats 1000000 in
theorem seal_ok (A : Option Addr) (ca size kind num gen n : Nat) (p : List UInt8) (w : World) (hf : Page.Fits size kind num gen p) (hn : p.length = n) (hA : Rd w w.heap.size A p) :
    Calls Try.prog 24 #[.int .i64 (size : Int), .agg #[.int .i64 (kind : Int), .int .i64 (num : Int), .int .u64 (gen : Int)], .slice A n ca] w fun e w' =>
      ∃ g, e = .returned (.tuple #[.slice (some ⟨g, 0, none⟩) size size, .int .i64 0]) ∧ w.heap.size ≤ g ∧ Blk w' g 5 (arr size (byF (Page.pageF size kind num gen p))) ∧ Below w.heap.size w w' := by
  obtain ⟨hs, hs2⟩ := Page.sized_512 hf.sized
  have h8 : (8 : Int) ≤ (size : Int) := by omega
  have h16 : (16 : Int) ≤ (size : Int) := by omega
  have h20 : (20 : Int) ≤ (size : Int) := by omega
  have h24 : (24 : Int) ≤ (size : Int) := by omega
  have n4 : ¬ size = 4 := by omega
  have n8 : ¬ size = 8 := by omega
  have n16 : ¬ size = 16 := by omega
  have n24 : ¬ size = 24 := by omega
  have hk1 := hf.k1
  have hk5 := hf.k5
  have hnum := hf.num
  have hgen := hf.gen
  have hlong := hf.long
  rw [hn] at hlong
  have HS := Lib.hid (sized_yes _ hf.sized)
  have HR := Lib.hid (room_yes _ hf.sized)
  have hmay : mayB (kind : Int) (num : Int) = true := by simp [mayB]; omega
  have HM := Lib.hid (fun w => may_any (kind : Int) (num : Int) w)
  rw [hmay] at HM
  have hmk := make_bytes size (by omega)
  have HN := Lib.hid hn
  have HF := Lib.hid hf
  have HA := Lib.hid (fun (W : World) (h : Below w.heap.size w W) => hA.below h (Nat.le_refl _))
  clear hf hn hA hmay
  go_enter Try.func24, Try.ntmps24
  go_wp2_with (first | (go_at_call 45; refine (HS.out _).mono ?_; rintro e w' ⟨rfl, rfl⟩) | (go_at_call 46; refine (HM.out _).mono ?_; rintro e w' ⟨rfl, rfl⟩) | (go_at_call 26; refine (HR.out _).mono ?_; rintro e w' ⟨rfl, rfl⟩) | (go_at_call 47; refine (right_any _).mono ?_; rintro e w1 ⟨rfl, b1⟩))
  have hb0 : Blk w1 w.heap.size 39 #[.int .i64 (kind : Int), .int .i64 (num : Int), .int .u64 (gen : Int)] := ((Blk.new w 39 _).alloc _).below b1 (by simp <;> omega)
  have hb1 : Blk w1 (w.heap.size + 1) 5 (arr size fun _ => .int .u8 0) := (Blk.new_at (by simp)).below b1 (by simp <;> omega)
  have bl : Below w.heap.size w w1 := (((Below.refl _ _).alloc (Nat.le_refl _) _).alloc (by simp) _).trans (b1.mono (by simp; omega))
  have sz : w.heap.size + 2 ≤ w1.heap.size := by have := b1.size; simp at this; omega
  have hb0' := hb0.alloc (.cells #[.int .u8 66, .int .u8 89, .int .u8 0, .int .u8 0, .int .u8 0, .int .u8 0, .int .u8 0] 72)
  have hb1' := hb1.alloc (.cells #[.int .u8 66, .int .u8 89, .int .u8 0, .int .u8 0, .int .u8 0, .int .u8 0, .int .u8 0] 72)
  have hb2' := Blk.new w1 72 #[.int .u8 66, .int .u8 89, .int .u8 0, .int .u8 0, .int .u8 0, .int .u8 0, .int .u8 0]
  have bl' := bl.alloc bl.size (.cells #[.int .u8 66, .int .u8 89, .int .u8 0, .int .u8 0, .int .u8 0, .int .u8 0, .int .u8 0] 72)
  generalize World.alloc w1 _ = W at hb0' hb1' hb2' bl' ⊢
  clear hb0 hb1 bl b1
  have c0 : W.cell? ⟨w.heap.size, 0, none⟩ = some (.int .i64 (kind : Int)) := hb0'.cell 0
  have m0 : W.cell? ⟨w1.heap.size, 0, none⟩ = some (.int .u8 66) := hb2'.cell 0
  have m1 : W.cell? ⟨w1.heap.size, 1, none⟩ = some (.int .u8 89) := hb2'.cell 1
  have s0 := hb1'.cell 0
  have s1 := hb1'.cell 1
  have s2 := hb1'.cell 2
  rw [arr_get _ _ _ (by omega)] at s0 s1 s2
  have f0 := hb1'.free 0
  have f1 := hb1'.free 1
  have f2 := hb1'.free 2
  have K := Lib.hid (And.intro hb0' (And.intro hb1' bl'))
  have SZ := Lib.hid sz
  clear hb0' hb1' hb2' bl' sz
  go_region
  have k1 := ((K.out.2.1.put 0 (.int .u8 66)).put 1 (.int .u8 89)).put 2 (.int .u8 (kind : Int))
  rw [three_puts size kind hk5] at k1
  have k0 := ((K.out.1.far (p := ⟨w.heap.size + 1, 0, none⟩) (by simp) (.int .u8 66)).far (p := ⟨w.heap.size + 1, 1, none⟩) (by simp) (.int .u8 89)).far (p := ⟨w.heap.size + 1, 2, none⟩) (by simp) (.int .u8 (kind : Int))
  have kb := (((K.out.2.2.setCell (p := ⟨w.heap.size + 1, 0, none⟩) (by simp) (.int .u8 66)).setCell (p := ⟨w.heap.size + 1, 1, none⟩) (by simp) (.int .u8 89)).setCell (p := ⟨w.heap.size + 1, 2, none⟩) (by simp) (.int .u8 (kind : Int))).drew
  have k0' : Blk (((W.setCell ⟨w.heap.size + 1, 0, none⟩ (.int .u8 66)).setCell ⟨w.heap.size + 1, 1, none⟩ (.int .u8 89)).setCell ⟨w.heap.size + 1, 2, none⟩ (.int .u8 (kind : Int))).drew w.heap.size 39 _ := k0
  have k1' : Blk (((W.setCell ⟨w.heap.size + 1, 0, none⟩ (.int .u8 66)).setCell ⟨w.heap.size + 1, 1, none⟩ (.int .u8 89)).setCell ⟨w.heap.size + 1, 2, none⟩ (.int .u8 (kind : Int))).drew (w.heap.size + 1) 5 _ := k1
  clear k0 k1 K SZ c0 m0 m1 s0 s1 s2 f0 f1 f2
  generalize World.drew _ = W2 at k0' k1' kb ⊢
  have c1 : W2.cell? ⟨w.heap.size, 1, none⟩ = some (.int .i64 (num : Int)) := k0'.cell 1
  have c2 : W2.cell? ⟨w.heap.size, 2, none⟩ = some (.int .u64 (gen : Int)) := k0'.cell 2
  have K := Lib.hid (And.intro k0' (And.intro k1' kb))
  clear k0' k1' kb
  go_wp2_with fail
  go_still_tail 5, (by kernel_rfl)
  change wpList _ _ _ _ _ W2.drew
  have K3 := Lib.hid (show Blk W2.drew (w.heap.size + 1) 5 (arr size (byF (headF3 kind))) from K.out.2.1)
  go_wp2_with fail
  refine (put_any (w.heap.size + 1) 4 _ 4 size (headF3 kind) num _ (by omega) (by omega) K3.out).mono ?_
  rintro e w3 ⟨rfl, hb3, hg3⟩
  have k3 : Blk w3 w.heap.size 39 #[.int .i64 (kind : Int), .int .i64 (num : Int), .int .u64 (gen : Int)] := Blk.only (w := W2.drew) K.out.1 hg3 (by omega)
  have c3 : w3.cell? ⟨w.heap.size, 2, none⟩ = some (.int .u64 (gen : Int)) := k3.cell 2
  have L3 := Lib.hid (And.intro hb3 (Below.only (w := W2.drew) K.out.2.2.drew hg3 (by omega) K.out.2.2.size))
  clear hb3 hg3 k3 c1 c2 K3 K
  go_wp2_with fail
  go_still_tail 4, (by kernel_rfl)
  change wpList _ _ _ _ _ w3.drew
  have K4 := Lib.hid (show Blk w3.drew (w.heap.size + 1) 5 (arr size (byF (beTo (headF3 kind) num 4 4 4))) from L3.out.1)
  go_wp2_with fail
  refine (put_any (w.heap.size + 1) 8 _ 8 size (beTo (headF3 kind) num 4 4 4) gen _ (by omega) (by omega) K4.out).mono ?_
  rintro e w4 ⟨rfl, hb4, hg4⟩
  have L4 := Lib.hid (And.intro hb4 (Below.only (w := w3.drew) L3.out.2.drew hg4 (by omega) L3.out.2.size))
  clear hb4 hg4 K4 c3 L3
  go_wp2_with fail
  refine (put_any (w.heap.size + 1) 16 _ 4 size (beTo (beTo (headF3 kind) num 4 4 4) gen 8 8 8) n _ (by omega) (by omega) L4.out.1).mono ?_
  rintro e w5 ⟨rfl, hb5, hg5⟩
  have L5 := Lib.hid (And.intro hb5 (Below.only L4.out.2 hg5 (by omega) L4.out.2.size))
  clear hb5 hg5 L4
  go_wp2_with (refine wpList_copy_bytes rfl (.tmp 68) (.tmp 69) rfl (w.heap.size + 1) 24 (size - 24) (size - 24) size _ A ca w.heap.size p rfl (by rw [HN.out]; rfl) L5.out.1 (HA.out _ L5.out.2) (by rw [HN.out]; omega) (by rw [HN.out]; omega) ?_; intro w6 hb6 hg6)
  have hb6' : Blk w6 (w.heap.size + 1) 5 (arr size (byF (Page.dataF kind num gen p))) := by
    have e := laid_data size kind num gen p
    rw [HN.out] at e
    rw [e] at hb6
    exact hb6
  have L6 := Lib.hid (And.intro hb6' (Below.only L5.out.2 hg6 (by omega) L5.out.2.size))
  clear hb6 hb6' hg6 L5
  have DL : (Page.dataL size kind num gen p).length = size - 8 := Page.rl_length _ _
  have FO := of_any (some ⟨w.heap.size + 1, 0, none⟩) size (Page.dataL size kind num gen p) w6 w6.heap.size (Nat.le_refl _)
    (Rd.of_byF _ L6.out.1 (by omega) (fun i hi => by rw [DL] at hi; rw [Page.dataL, Page.rl_get _ _ _ hi]) L6.out.1.lt) (by rw [DL]; unfold maxLen; omega)
  rw [DL] at FO
  refine FO.mono ?_
  rintro e w7 ⟨rfl, b7⟩
  have L7 := Lib.hid (And.intro (L6.out.1.below b7 L6.out.1.lt) (L6.out.2.trans (b7.mono L6.out.2.size)))
  clear b7 L6 FO DL
  have HP := Lib.hid (sumTo_all size kind num gen p (by omega))
  generalize Crc.sumOf (Page.dataL size kind num gen p) = s at *
  generalize Page.dataF kind num gen p = dF at *
  obtain ⟨pF, hpF⟩ : ∃ pF, pF = Page.pageF size kind num gen p := ⟨_, rfl⟩
  rw [← hpF] at HP
  have HQ := Lib.hid hpF
  clear hpF
  go_wp2_with fail
  go_loopw [76] (fun iv wr => ∃ k : Nat, k ≤ 8 ∧ iv = .int .i64 k ∧ Blk wr (w.heap.size + 1) 5 (arr size (byF (sumTo (size - 8) dF s k))) ∧ Below w.heap.size w wr) (fun iv _ => 8 - (intOf iv).toNat)
  case atStart => exact ⟨0, by omega, rfl, by rw [sumTo_zero]; exact L7.out.1, L7.out.2⟩
  case round =>
    obtain ⟨k, hk, rfl, hb1, hbel⟩ := hrel
    by_cases hlt : k < 8
    · obtain ⟨j, hj⟩ : ∃ j : Nat, j = size - 8 + k := ⟨_, rfl⟩
      have ej : (size : Int) - 8 + (k : Int) = (j : Int) := by omega
      have hjs : j < size := by omega
      obtain ⟨m, hm⟩ : ∃ m : Nat, m = 8 * k := ⟨_, rfl⟩
      have em : 8 * (k : Int) = (m : Int) := by omega
      have hm64 : m < 64 := by omega
      have HM := Lib.hid (shift_le s k m hm)
      have hc := hb1.cell j
      have hfz := hb1.free j
      rw [arr_get _ _ _ (by omega), byF] at hc
      have HK := Lib.hid (And.intro hb1 hbel)
      have HJ := Lib.hid hj
      have hd : decide ((k : Int) < 8) = true := by simp; omega
      clear hb1 hbel hj hm
      go_wp2
      go_roundw
      case rel =>
        refine ⟨k + 1, by omega, by go_num, ?_, HK.out.2.setCell (by simp) _⟩
        have := HK.out.1.put j (.int .u8 (IntKind.u8.wrap ((s.toNat : Int) / 2 ^ m)))
        rw [HJ.out, sumTo_put size (size - 8) k dF s _ (by rw [HM.out]), ← HJ.out] at this
        exact this
      case measure => simp [intOf] <;> omega
    · obtain rfl : k = 8 := by omega
      rw [HP.out] at hb1
      have HK := Lib.hid (And.intro hb1 hbel)
      clear hb1 hbel
      go_wp2
      go_ret2
      exact ⟨w.heap.size + 1, rfl, by omega, by rw [← HQ.out]; exact HK.out.1, HK.out.2⟩

set_option maxHeartbeats 400000 in
/-- an argument that may not be -/
theorem seal_arg (A : Option Addr) (ca : Nat) (size kind num gen : Int) (n : Nat) (w : World) (hnb : -9223372036854775808 ≤ num) (hnb2 : num ≤ 9223372036854775807)
    (h : ¬ Page.Sized size ∨ num < 0 ∨ (0 ≤ num ∧ mayB kind num = false)) :
    Calls Try.prog 24 #[.int .i64 size, .agg #[.int .i64 kind, .int .i64 num, .int .u64 gen], .slice A n ca] w fun e w' =>
      e = .returned (.tuple #[.slice none 0 0, .int .i64 1]) ∧ Below w.heap.size w w' := by
  by_cases h1 : Page.Sized size
  · have HS := Lib.hid (sized_yes _ h1)
    by_cases h2 : num < 0
    · clear h
      go_enter Try.func24, Try.ntmps24
      go_wp2_with (first | (go_at_call 45; refine (HS.out _).mono ?_; rintro e w' ⟨rfl, rfl⟩))
      go_ret2
      exact ⟨rfl, (Below.refl _ _).alloc (Nat.le_refl _) _⟩
    · have h3 : mayB kind num = false := by
        rcases h with h | h | h
        · exact absurd h1 h
        · exact absurd h h2
        · exact h.2
      have hm := fun w => may_any kind num w
      rw [h3] at hm
      have HM := Lib.hid hm
      have h0 : 0 ≤ num := by omega
      clear h h3 hm h2 h1
      go_enter Try.func24, Try.ntmps24
      go_wp2_with (first | (go_at_call 45; refine (HS.out _).mono ?_; rintro e w' ⟨rfl, rfl⟩) | (go_at_call 46; refine (HM.out _).mono ?_; rintro e w' ⟨rfl, rfl⟩))
      go_ret2
      exact ⟨rfl, (Below.refl _ _).alloc (Nat.le_refl _) _⟩
  · have HS := Lib.hid (sized_no _ h1)
    clear h h1
    go_enter Try.func24, Try.ntmps24
    go_wp2_with (first | (go_at_call 45; refine (HS.out _).mono ?_; rintro e w' ⟨rfl, rfl⟩))
    go_ret2
    exact ⟨rfl, (Below.refl _ _).alloc (Nat.le_refl _) _⟩
set_option maxHeartbeats 400000 in
/-- a payload that is too long -/
theorem seal_long (A : Option Addr) (ca size : Nat) (kind num gen : Int) (n : Nat) (w : World) (h1 : Page.Sized size) (h0 : 0 ≤ num) (h2 : num ≤ 9223372036854775807) (h3 : mayB kind num = true) (h4 : (size : Int) - 32 < n) :
    Calls Try.prog 24 #[.int .i64 (size : Int), .agg #[.int .i64 kind, .int .i64 num, .int .u64 gen], .slice A n ca] w fun e w' =>
      e = .returned (.tuple #[.slice none 0 0, .int .i64 31]) ∧ Below w.heap.size w w' := by
  have HS := Lib.hid (sized_yes _ h1)
  have HR := Lib.hid (room_yes _ h1)
  have hm := fun w => may_any kind num w
  rw [h3] at hm
  have HM := Lib.hid hm
  obtain ⟨g1, g2⟩ := Page.sized_512 h1
  clear hm h1 h3
  go_enter Try.func24, Try.ntmps24
  go_wp2_with (first | (go_at_call 45; refine (HS.out _).mono ?_; rintro e w' ⟨rfl, rfl⟩) | (go_at_call 46; refine (HM.out _).mono ?_; rintro e w' ⟨rfl, rfl⟩) | (go_at_call 26; refine (HR.out _).mono ?_; rintro e w' ⟨rfl, rfl⟩))
  go_ret2
  exact ⟨rfl, (Below.refl _ _).alloc (Nat.le_refl _) _⟩
end Go.Proofs.Ytofhdehigfdmkaa
