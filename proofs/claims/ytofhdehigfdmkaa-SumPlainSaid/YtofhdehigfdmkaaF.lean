/- THE WALK OF SumPlain. -/
import Derived.Test.YtofhdehigfdmkaaM
import Derived.RegionTactic
import Derived.BigRegion
namespace Go.Proofs.Ytofhdehigfdmkaa
open Go.RowKit

theorem b_xor (a b : UInt8) : bits .xor .u8 (a.toNat : Int) (b.toNat : Int) = ((a ^^^ b).toNat : Int) := by
  rw [u8_xor_nat _ _ a.toNat_lt b.toNat_lt, UInt8.toNat_xor]

set_option maxHeartbeats 400000 in
theorem plain_some (ba oa bb ob bc oc ca cb cc la lb lc m n : Nat) (x : Nat → UInt8) (xa xb xc : Nat → UInt8) (w : World) (h1 : n ≤ la) (h2 : n ≤ lb) (h3 : n ≤ lc) (h4 : la ≤ ca) (h5 : lb ≤ cb) (h6 : lc ≤ cc) (hb : n ≤ 2147483647)
    (e1 : (if lb < la then (lb : Int) else la) = m) (e2 : (if lc < m then (lc : Int) else m) = n)
    (hx : ∀ i, x i = xa i ^^^ xb i ^^^ xc i) (hba : ba < w.heap.size) (hbb : bb < w.heap.size) (hbc : bc < w.heap.size)
    (hca : ∀ i, i < n → w.cell? ⟨ba, oa + i, none⟩ = some (.int .u8 ((xa i).toNat : Int)))
    (hcb : ∀ i, i < n → w.cell? ⟨bb, ob + i, none⟩ = some (.int .u8 ((xb i).toNat : Int)))
    (hcc : ∀ i, i < n → w.cell? ⟨bc, oc + i, none⟩ = some (.int .u8 ((xc i).toNat : Int)))
    (sa sb sc s : BitVec 64) (hs : bits .xor .u64 (bits .xor .u64 (sa.toNat : Int) (sb.toNat : Int)) (sc.toNat : Int) = (s.toNat : Int))
    (fa : ∀ W : World, Below w.heap.size w W → Calls Try.prog 18 #[.slice (some ⟨ba, oa, none⟩) n ca] W fun e W' => e = .returned (.int .u64 (sa.toNat : Int)) ∧ Below W.heap.size W W')
    (fb : ∀ W : World, Below w.heap.size w W → Calls Try.prog 18 #[.slice (some ⟨bb, ob, none⟩) n cb] W fun e W' => e = .returned (.int .u64 (sb.toNat : Int)) ∧ Below W.heap.size W W')
    (fc : ∀ W : World, Below w.heap.size w W → Calls Try.prog 18 #[.slice (some ⟨bc, oc, none⟩) n cc] W fun e W' => e = .returned (.int .u64 (sc.toNat : Int)) ∧ Below W.heap.size W W')
    (fs : ∀ (W : World) (g : Nat), Blk W g 5 (arr n (byF x)) → Calls Try.prog 18 #[.slice (some ⟨g, 0, none⟩) n n] W fun e W' => e = .returned (.int .u64 (s.toNat : Int)) ∧ Below W.heap.size W W') :
    Calls Try.prog 5 #[.slice (some ⟨ba, oa, none⟩) la ca, .slice (some ⟨bb, ob, none⟩) lb cb, .slice (some ⟨bc, oc, none⟩) lc cc] w fun e w' => e = .returned (.bool true) ∧ Below w.heap.size w w' := by
  have hmk := make_bytes n (by omega)
  have HX := Lib.hid hx
  have HC := Lib.hid (And.intro hca (And.intro hcb hcc))
  have FA := Lib.hid fa
  have FB := Lib.hid fb
  have FC := Lib.hid fc
  have FS := Lib.hid fs
  clear hx hca hcb hcc fa fb fc fs
  go_enter Try.func5, Try.ntmps5
  go_wp2_with fail
  refine (shown_any _).mono ?_
  rintro e w1 ⟨rfl, b1⟩
  have B1 := Lib.hid b1
  clear b1
  go_wp2_with fail
  go_loopw [10] (fun i wr => ∃ k : Nat, k ≤ n ∧ i = .int .i64 k ∧ Blk wr w1.heap.size 5 (arr n (upF k x)) ∧ Below w.heap.size w wr) (fun i _ => n - (intOf i).toNat)
  case atStart =>
    refine ⟨0, by omega, rfl, ?_, B1.out.alloc B1.out.size _⟩
    rw [up_zero]; exact Blk.new _ _ _
  case round =>
    obtain ⟨k, hk, rfl, hb1, hbel⟩ := hrel
    by_cases hlt : k < n
    · have hd : decide ((k : Int) < (n : Int)) = true := by simp; omega
      have hc := hb1.cell k
      have hf := hb1.free k
      rw [arr_get _ _ _ hlt, up_open] at hc
      have hca := (hbel.cell (p := ⟨ba, oa + k, none⟩) hba).trans (HC.out.1 k hlt)
      have hcb := (hbel.cell (p := ⟨bb, ob + k, none⟩) hbb).trans (HC.out.2.1 k hlt)
      have hcc := (hbel.cell (p := ⟨bc, oc + k, none⟩) hbc).trans (HC.out.2.2 k hlt)
      have HB := Lib.hid (And.intro hb1 hbel)
      clear hb1 hbel
      go_wp2_with fail
      go_region
      go_wp2
      go_roundw
      case rel =>
        obtain ⟨hb1, hbel⟩ := HB.out
        refine ⟨k + 1, by omega, by go_num, ?_, ?_⟩
        · have := hb1.put k (.int .u8 (bits .xor .u8 (bits .xor .u8 ((xa k).toNat : Int) ((xb k).toNat : Int)) ((xc k).toNat : Int)))
          rw [up_put n k x _ (by rw [b_xor, b_xor, HX.out])] at this
          exact this
        · exact (hbel.setCell B1.out.size _).drew
      case measure => simp [intOf] <;> omega
    · obtain rfl : k = n := by omega
      rw [up_all] at hb1
      have HB := Lib.hid hb1
      have BL := Lib.hid hbel
      clear hb1 hbel
      go_wp2_with fail
      refine (FA.out _ BL.out).mono ?_
      rintro e w2 ⟨rfl, b2⟩
      have B2 := Lib.hid (BL.out.trans (b2.mono BL.out.size))
      have H2 := Lib.hid (HB.out.below b2 HB.out.lt)
      clear b2 BL HB
      go_wp2_with fail
      refine (FB.out _ B2.out).mono ?_
      rintro e w3 ⟨rfl, b3⟩
      have B3 := Lib.hid (B2.out.trans (b3.mono B2.out.size))
      have H3 := Lib.hid (H2.out.below b3 H2.out.lt)
      clear b3 B2 H2
      go_wp2_with fail
      refine (FC.out _ B3.out).mono ?_
      rintro e w4 ⟨rfl, b4⟩
      have B4 := Lib.hid (B3.out.trans (b4.mono B3.out.size))
      have H4 := Lib.hid (H3.out.below b4 H3.out.lt)
      clear b4 B3 H3
      go_wp2_with fail
      refine (FS.out _ _ H4.out).mono ?_
      rintro e w5 ⟨rfl, b5⟩
      have B5 := Lib.hid (B4.out.trans (b5.mono B4.out.size))
      clear b5 B4 H4
      go_wp2
      go_ret
      exact ⟨ret_bool (by simp), B5.out⟩

set_option maxHeartbeats 400000 in
theorem plain_zero (A B C : Option Addr) (ca cb cc la lb lc m : Nat) (w : World)
    (e1 : (if lb < la then (lb : Int) else la) = m) (e2 : (if lc < m then (lc : Int) else m) = 0) :
    Calls Try.prog 5 #[.slice A la ca, .slice B lb cb, .slice C lc cc] w fun e w' => e = .returned (.bool true) ∧ Below w.heap.size w w' := by
  have hmk : ∀ u, (Instr.makeSlice 22 (.int .i64 0) (.int .i64 0)).run Try.prog u = .ok (.slice (some ⟨u.heap.size, 0, none⟩) 0 0) (u.alloc (.cells (arr 0 fun _ => .int .u8 0) 5)) := make_bytes 0 (by omega)
  have HO := Lib.hid (fun (A : Option Addr) c W => of_any A c [] W 0 (by omega) (.inl rfl) (by simp))
  have e0 : ((Crc.sumOf []).toNat : Int) = 0 := by rw [Crc.sumOf, Crc.more_nil]; rfl
  rw [e0] at HO
  clear e0
  go_enter Try.func5, Try.ntmps5
  go_wp2_with fail
  refine (shown_any _).mono ?_
  rintro e w1 ⟨rfl, b1⟩
  go_wp2_with fail
  go_loopw [10] (fun i wr => i = .int .i64 0 ∧ Below w.heap.size w wr) (fun i _ => 0)
  case atStart => exact ⟨rfl, b1.alloc b1.size _⟩
  case round =>
    obtain ⟨rfl, hbel⟩ := hrel
    have BL := Lib.hid hbel
    clear b1 hbel
    go_wp2_with fail
    refine (HO.out _ _ _).mono ?_
    rintro e w2 ⟨rfl, b2⟩
    have B2 := Lib.hid (BL.out.trans (b2.mono BL.out.size))
    clear b2 BL
    go_wp2_with fail
    refine (HO.out _ _ _).mono ?_
    rintro e w3 ⟨rfl, b3⟩
    have B3 := Lib.hid (B2.out.trans (b3.mono B2.out.size))
    clear b3 B2
    go_wp2_with fail
    refine (HO.out _ _ _).mono ?_
    rintro e w4 ⟨rfl, b4⟩
    have B4 := Lib.hid (B3.out.trans (b4.mono B3.out.size))
    clear b4 B3
    go_wp2_with fail
    refine (HO.out _ _ _).mono ?_
    rintro e w5 ⟨rfl, b5⟩
    have B5 := Lib.hid (B4.out.trans (b5.mono B4.out.size))
    clear b5 B4
    go_wp2
    go_ret
    exact ⟨rfl, B5.out⟩

set_option maxHeartbeats 400000 in
theorem plain_great (A B C : Option Addr) (ca cb cc la lb lc m n : Nat) (w : World) (hn : 2147483647 < n)
    (e1 : (if lb < la then (lb : Int) else la) = m) (e2 : (if lc < m then (lc : Int) else m) = n) :
    Calls Try.prog 5 #[.slice A la ca, .slice B lb cb, .slice C lc cc] w fun e w' => e = .returned (.bool true) ∧ Below w.heap.size w w' := by
  go_enter Try.func5, Try.ntmps5
  go_wp2_with fail
  refine (shown_any _).mono ?_
  rintro e w1 ⟨rfl, b1⟩
  go_wp2
  go_ret
  exact ⟨rfl, b1⟩

theorem min_cases (la lb : Nat) : (if lb < la then (lb : Int) else la) = ((min la lb : Nat) : Int) := by
  by_cases h : lb < la
  · rw [if_pos h, Nat.min_eq_right (by omega)]
  · rw [if_neg h, Nat.min_eq_left (by omega)]

theorem xors_get (a b : List UInt8) (n i : Nat) (ha : n ≤ a.length) (hb : n ≤ b.length) (hi : i < n) : (Crc.xors (a.take n) (b.take n)).getD i 0 = a.getD i 0 ^^^ b.getD i 0 := by
  have h1 : i < a.length := by omega
  have h2 : i < b.length := by omega
  simp [Crc.xors, List.getD, List.getElem?_zipWith, hi, h1, h2]
theorem take_get (a : List UInt8) (n i : Nat) (hi : i < n) : (a.take n).getD i 0 = a.getD i 0 := by
  simp [List.getD, hi]

/-- SumPlain -/
theorem plain_walk (A B C : Option Addr) (ca cb cc : Nat) (a b c : List UInt8) (w : World) (hA : Rd w w.heap.size A a) (hB : Rd w w.heap.size B b) (hC : Rd w w.heap.size C c)
    (h4 : a.length ≤ ca) (h5 : b.length ≤ cb) (h6 : c.length ≤ cc) :
    Calls Try.prog 5 #[.slice A a.length ca, .slice B b.length cb, .slice C c.length cc] w fun e w' => e = .returned (.bool true) ∧ Below w.heap.size w w' := by
  have e1 := min_cases a.length b.length
  obtain ⟨m, hm⟩ : ∃ m, m = min a.length b.length := ⟨_, rfl⟩
  rw [← hm] at e1
  have e2 := min_cases m c.length
  obtain ⟨n, hn⟩ : ∃ n, n = min m c.length := ⟨_, rfl⟩
  rw [← hn] at e2
  by_cases hz : n = 0
  · rw [hz] at e2
    exact plain_zero A B C ca cb cc _ _ _ m w e1 e2
  by_cases hg : 2147483647 < n
  · exact plain_great A B C ca cb cc _ _ _ m n w hg e1 e2
  have la : n ≤ a.length := by omega
  have lb : n ≤ b.length := by omega
  have lc : n ≤ c.length := by omega
  have ta : (a.take n).length = n := by rw [List.length_take]; omega
  have tb : (b.take n).length = n := by rw [List.length_take]; omega
  have tc : (c.take n).length = n := by rw [List.length_take]; omega
  have fa := fun (W : World) (hW : Below w.heap.size w W) => of_any A ca (a.take n) W w.heap.size hW.size ((hA.below hW (Nat.le_refl _)).take n) (by rw [ta]; unfold maxLen; omega)
  have fb := fun (W : World) (hW : Below w.heap.size w W) => of_any B cb (b.take n) W w.heap.size hW.size ((hB.below hW (Nat.le_refl _)).take n) (by rw [tb]; unfold maxLen; omega)
  have fc := fun (W : World) (hW : Below w.heap.size w W) => of_any C cc (c.take n) W w.heap.size hW.size ((hC.below hW (Nat.le_refl _)).take n) (by rw [tc]; unfold maxLen; omega)
  rw [ta] at fa
  rw [tb] at fb
  rw [tc] at fc
  have tx : (Crc.xors (Crc.xors (a.take n) (b.take n)) (c.take n)).length = n := by simp [Crc.xors]; omega
  have fs := fun (W : World) (g : Nat) (hg : Blk W g 5 (arr n (byF fun i => a.getD i 0 ^^^ b.getD i 0 ^^^ c.getD i 0))) =>
    of_any (some ⟨g, 0, none⟩) n (Crc.xors (Crc.xors (a.take n) (b.take n)) (c.take n)) W W.heap.size (Nat.le_refl _) (Rd.of_blk hg (by omega) (fun i hi => by
      rw [tx] at hi
      have e := xors_get (Crc.xors (a.take n) (b.take n)) c n i (by simp [Crc.xors]; omega) lc hi
      rw [List.take_of_length_le (by simp [Crc.xors]; omega)] at e
      rw [e, xors_get a b n i la lb hi]) hg.lt) (by rw [tx]; unfold maxLen; omega)
  rw [tx] at fs
  have hs := w_xor (Crc.sumOf (a.take n)) (Crc.sumOf (b.take n))
  have hs2 := w_xor (Crc.sumOf (a.take n) ^^^ Crc.sumOf (b.take n)) (Crc.sumOf (c.take n))
  rw [← hs, ← Crc.sum_three _ _ _ (by rw [ta, tb]) (by rw [tb, tc])] at hs2
  rcases hA with rfl | ⟨ba, oa, rfl, hba, hca⟩
  · simp at la; omega
  rcases hB with rfl | ⟨bb, ob, rfl, hbb, hcb⟩
  · simp at lb; omega
  rcases hC with rfl | ⟨bc, oc, rfl, hbc, hcc⟩
  · simp at lc; omega
  exact plain_some ba oa bb ob bc oc ca cb cc _ _ _ m n _ (fun i => a.getD i 0) (fun i => b.getD i 0) (fun i => c.getD i 0) w la lb lc h4 h5 h6 (by omega) e1 e2 (fun i => rfl) hba hbb hbc
    (fun i hi => hca i (by omega)) (fun i hi => hcb i (by omega)) (fun i hi => hcc i (by omega)) _ _ _ _ hs2 fa fb fc fs
end Go.Proofs.Ytofhdehigfdmkaa
