/- THE WALKS OF LAYER 3's small functions: sized, Room, put, get, may, right; the document's Sized, Room, told. -/
import Derived.Test.YtofhdehigfdmkaaP
import Derived.Test.YtofhdehigfdmkaaMath3
namespace Go.Proofs.Ytofhdehigfdmkaa
open Go.RowKit
set_option maxHeartbeats 400000 in
theorem sized_yes (n : Int) (h : Page.Sized n) (w : World) : Calls Try.prog 45 #[.int .i64 n] w fun e w' => e = .returned (.bool true) ∧ w = w' := by
  rcases h with rfl | rfl | rfl | rfl <;> (go_enter Try.func45, Try.ntmps45; go_wp2; go_ret; exact ⟨rfl, rfl⟩)
set_option maxHeartbeats 400000 in
theorem sized_no (n : Int) (h : ¬ Page.Sized n) (w : World) : Calls Try.prog 45 #[.int .i64 n] w fun e w' => e = .returned (.bool false) ∧ w = w' := by
  have h1 : (n == 512) = false := by simp; intro e; exact h (.inl e)
  have h2 : (n == 1024) = false := by simp; intro e; exact h (.inr (.inl e))
  have h3 : (n == 2048) = false := by simp; intro e; exact h (.inr (.inr (.inl e)))
  have h4 : (n == 4096) = false := by simp; intro e; exact h (.inr (.inr (.inr e)))
  clear h
  go_enter Try.func45, Try.ntmps45; go_wp2; go_ret; exact ⟨rfl, rfl⟩
set_option maxHeartbeats 400000 in
theorem rsized_yes (n : Int) (h : Page.Sized n) (w : World) : Calls Try.prog 49 #[.int .i64 n] w fun e w' => e = .returned (.bool true) ∧ w = w' := by
  rcases h with rfl | rfl | rfl | rfl <;> (go_enter Try.func49, Try.ntmps49; go_wp2; go_ret; exact ⟨rfl, rfl⟩)
set_option maxHeartbeats 400000 in
theorem rsized_no (n : Int) (h : ¬ Page.Sized n) (w : World) : Calls Try.prog 49 #[.int .i64 n] w fun e w' => e = .returned (.bool false) ∧ w = w' := by
  have h1 : (n == 512) = false := by simp; intro e; exact h (.inl e)
  have h2 : (n == 1024) = false := by simp; intro e; exact h (.inr (.inl e))
  have h3 : (n == 2048) = false := by simp; intro e; exact h (.inr (.inr (.inl e)))
  have h4 : (n == 4096) = false := by simp; intro e; exact h (.inr (.inr (.inr e)))
  clear h
  go_enter Try.func49, Try.ntmps49; go_wp2; go_ret; exact ⟨rfl, rfl⟩
theorem shift_byte (v m n k : Nat) (hm : m = 8 * (n - 1 - k)) : IntKind.u8.wrap ((v : Int) / 2 ^ m) = ((Page.beB v n k).toNat : Int) := by
  rw [IntKind.wrap_u8', Page.beB, UInt8.toNat_ofNat']
  have e : (2 : Int) ^ m = ((256 ^ (n - 1 - k) : Nat) : Int) := by
    rw [hm, show (256 : Nat) = 2 ^ 8 from rfl, ← Nat.pow_mul]; simp
  rw [e]
  generalize 256 ^ (n - 1 - k) = q
  omega
def beTo (f : Nat → UInt8) (v off n k i : Nat) : UInt8 := if off ≤ i ∧ i < off + k then Page.beB v n (i - off) else f i
theorem beTo_zero (N : Nat) (f : Nat → UInt8) (v off n : Nat) : arr N (byF (beTo f v off n 0)) = arr N (byF f) := arr_congr _ _ _ fun i _ => by unfold byF beTo; rw [if_neg (by omega)]
theorem beTo_put (N : Nat) (f : Nat → UInt8) (v off n k : Nat) (u : Value) (hu : u = .int .u8 ((Page.beB v n k).toNat : Int)) : (arr N (byF (beTo f v off n k))).setIfInBounds (off + k) u = arr N (byF (beTo f v off n (k + 1))) := by
  refine arr_put _ (off + k) _ _ _ ?_ ?_
  · unfold byF beTo
    rw [if_pos (by omega), hu, show off + k - off = k by omega]
  · intro i _ hne
    unfold byF beTo
    by_cases h : off ≤ i ∧ i < off + k
    · rw [if_pos h, if_pos (by omega)]
    · rw [if_neg h, if_neg (by omega)]

set_option maxHeartbeats 400000 in
theorem put_any (g off cap n N : Nat) (f : Nat → UInt8) (v : Nat) (w : World) (hn : n ≤ 8) (hfit : off + n ≤ N) (hg : Blk w g 5 (arr N (byF f))) :
    Calls Try.prog 48 #[.slice (some ⟨g, off, none⟩) n cap, .int .u64 (v : Int)] w fun e w' => e = .returned (.tuple #[]) ∧ Blk w' g 5 (arr N (byF (beTo f v off n n))) ∧ w.grownBy w' (some g) := by
  have HG := Lib.hid hg
  clear hg
  go_enter Try.func48, Try.ntmps48
  go_wp2
  go_loopw [7] (fun iv wr => ∃ k : Nat, k ≤ n ∧ iv = .int .i64 k ∧ Blk wr g 5 (arr N (byF (beTo f v off n k))) ∧ w.grownBy wr (some g)) (fun iv _ => n - (intOf iv).toNat)
  case atStart => exact ⟨0, by omega, rfl, by rw [beTo_zero]; exact HG.out, only_refl _ _⟩
  case round =>
    obtain ⟨k, hk, rfl, hb1, hbel⟩ := hrel
    by_cases hlt : k < n
    · have hc := hb1.cell (off + k)
      have hf := hb1.free (off + k)
      rw [arr_get _ _ _ (by omega), byF] at hc
      have HK := Lib.hid (And.intro hb1 hbel)
      clear hb1 hbel
      obtain ⟨m, hm⟩ : ∃ m : Nat, m = 8 * (n - 1 - k) := ⟨_, rfl⟩
      have em : 8 * ((n : Int) - 1 - (k : Int)) = (m : Int) := by omega
      have HM := Lib.hid (shift_byte v m n k hm)
      have hm64 : m < 64 := by omega
      clear hm
      go_wp2
      go_roundw
      case rel =>
        refine ⟨k + 1, by omega, by go_num, ?_, only_put HK.out.2 _ _⟩
        have := HK.out.1.put (off + k) (.int .u8 (IntKind.u8.wrap ((v : Int) / 2 ^ m)))
        rw [beTo_put N f v off n k _ (by rw [HM.out])] at this
        exact this
      case measure => simp [intOf] <;> omega
    · obtain rfl : k = n := by omega
      go_wp2
      go_end0
      exact ⟨rfl, hb1, hbel⟩

theorem or_byte (t : Nat) (x : UInt8) (ht : t < 72057594037927936) : bits .or .u64 (IntKind.u64.wrap ((t : Int) * 256)) (x.toNat : Int) = ((256 * t + x.toNat : Nat) : Int) := by
  have hx := x.toNat_lt
  have e : IntKind.u64.wrap ((t : Int) * 256) = ((256 * t : Nat) : Int) := by rw [IntKind.wrap_u64]; omega
  rw [e, u64_or_nat _ _ (by omega) (by omega), nat_join 8 (256 * t) x.toNat (by omega) (by omega)]
theorem told_snoc (l : List UInt8) (k : Nat) (hk : k < l.length) : Page.toldN (l.take (k + 1)) = 256 * Page.toldN (l.take k) + (l.getD k 0).toNat := by
  rw [List.take_succ_eq_append_getElem hk, Page.toldN_snoc]
  simp [List.getD, hk]
set_option maxHeartbeats 400000 in
/-- get: of at most 8 bytes -/
theorem get_any (A : Option Addr) (c n B : Nat) (l : List UInt8) (w : World) (hn : l.length = n) (h8 : n ≤ 8) (hr : Rd w B A l) :
    Calls Try.prog 60 #[.slice A n c] w fun e w' => e = .returned (.int .u64 (Page.toldN l : Int)) ∧ w = w' := by
  have HR := Lib.hid hr
  have HN := Lib.hid hn
  clear hr hn
  go_enter Try.func60, Try.ntmps60
  go_wp2
  go_loop [3, 8] (fun v i => ∃ k : Nat, k ≤ n ∧ i = .int .i64 k ∧ v = .int .u64 (Page.toldN (l.take k) : Int)) (fun _ i => n - (intOf i).toNat)
  case atStart => exact ⟨0, by omega, rfl, rfl⟩
  case round =>
    obtain ⟨k, hk, rfl, rfl⟩ := hrel
    by_cases hlt : k < n
    · rcases HR.out with h | ⟨b, off, hA, hb, hcb⟩
      · have := HN.out; rw [h] at this; simp at this; omega
      · have hcb' := hcb k (by rw [HN.out]; exact hlt)
        have ht := told_snoc l k (by rw [HN.out]; exact hlt)
        have hlt2 := Page.toldN_lt k (l.take k) (by rw [List.length_take, HN.out]; omega)
        generalize Page.toldN (l.take k) = t at *
        generalize l.getD k 0 = x at *
        have hx := x.toNat_lt
        clear hcb
        subst hA
        have hk7 : 256 ^ k ≤ 256 ^ 7 := Nat.pow_le_pow_right (by omega) (by omega)
        have HO := Lib.hid (or_byte t x (Nat.lt_of_lt_of_le hlt2 hk7))
        have HT := Lib.hid ht
        clear hk7 hlt2 ht
        go_wp2
        go_round
        case rel => exact ⟨k + 1, by omega, by go_num, by rw [HO.out, HT.out]⟩
        case measure => simp [intOf] <;> omega
    · obtain rfl : k = n := by omega
      go_wp2
      go_ret
      exact ⟨ret_int (by rw [List.take_of_length_le (by rw [HN.out]; exact Nat.le_refl _)]), rfl⟩

theorem room_of (n : Int) (h : Page.Sized n) : 512 ≤ n ∧ n ≤ 4096 := by unfold Page.Sized at h; omega
set_option maxHeartbeats 400000 in
theorem room_yes (n : Int) (h : Page.Sized n) (w : World) : Calls Try.prog 26 #[.int .i64 n] w fun e w' => e = .returned (.int .i64 (n - 32)) ∧ w = w' := by
  have hs := Lib.hid (sized_yes n h)
  obtain ⟨h1, h2⟩ := room_of n h
  clear h
  go_enter Try.func26, Try.ntmps26
  go_wp2_with (go_at_call 45; refine (hs.out _).mono ?_; rintro e w' ⟨rfl, rfl⟩)
  go_ret
  exact ⟨rfl, rfl⟩
set_option maxHeartbeats 400000 in
theorem room_no (n : Int) (h : ¬ Page.Sized n) (w : World) : Calls Try.prog 26 #[.int .i64 n] w fun e w' => e = .returned (.int .i64 0) ∧ w = w' := by
  have hs := Lib.hid (sized_no n h)
  clear h
  go_enter Try.func26, Try.ntmps26
  go_wp2_with (go_at_call 45; refine (hs.out _).mono ?_; rintro e w' ⟨rfl, rfl⟩)
  go_ret
  exact ⟨rfl, rfl⟩
set_option maxHeartbeats 400000 in
theorem rroom_yes (n : Int) (h : Page.Sized n) (w : World) : Calls Try.prog 27 #[.int .i64 n] w fun e w' => e = .returned (.int .i64 (n - 32)) ∧ w = w' := by
  have hs := Lib.hid (rsized_yes n h)
  obtain ⟨h1, h2⟩ := room_of n h
  clear h
  go_enter Try.func27, Try.ntmps27
  go_wp2_with (go_at_call 49; refine (hs.out _).mono ?_; rintro e w' ⟨rfl, rfl⟩)
  go_ret
  exact ⟨rfl, rfl⟩
set_option maxHeartbeats 400000 in
theorem rroom_no (n : Int) (h : ¬ Page.Sized n) (w : World) : Calls Try.prog 27 #[.int .i64 n] w fun e w' => e = .returned (.int .i64 0) ∧ w = w' := by
  have hs := Lib.hid (rsized_no n h)
  clear h
  go_enter Try.func27, Try.ntmps27
  go_wp2_with (go_at_call 49; refine (hs.out _).mono ?_; rintro e w' ⟨rfl, rfl⟩)
  go_ret
  exact ⟨rfl, rfl⟩
/-- may a page's head say this? -/
def mayB (k v : Int) : Bool := decide (1 ≤ k) && decide (k ≤ 5) && decide (v < 65536)
set_option maxHeartbeats 400000 in
theorem may_any (k v : Int) (w : World) : Calls Try.prog 46 #[.int .i64 k, .int .u64 v] w fun e w' => e = .returned (.bool (mayB k v)) ∧ w = w' := by
  by_cases h1 : 1 ≤ k
  · by_cases h2 : k ≤ 5
    · by_cases h3 : v < 65536
      · have HM := Lib.hid (show mayB k v = true by simp [mayB, h1, h2, h3])
        go_enter Try.func46, Try.ntmps46
        go_wp2
        go_ret
        exact ⟨ret_bool (by rw [HM.out]), rfl⟩
      · have HM := Lib.hid (show mayB k v = false by simp [mayB, h3])
        go_enter Try.func46, Try.ntmps46
        go_wp2
        go_ret
        exact ⟨ret_bool (by rw [HM.out]), rfl⟩
    · have HM := Lib.hid (show mayB k v = false by simp [mayB, h2])
      go_enter Try.func46, Try.ntmps46
      go_wp2
      go_ret
      exact ⟨ret_bool (by rw [HM.out]), rfl⟩
  · have HM := Lib.hid (show mayB k v = false by simp [mayB, h1])
    go_enter Try.func46, Try.ntmps46
    go_wp2
    go_ret
    exact ⟨ret_bool (by rw [HM.out]), rfl⟩
theorem info72 : (Try.prog.info? 72).map (·.size) = some 7 := by kernel_rfl
set_option maxHeartbeats 400000 in
theorem right_any (w : World) : Calls Try.prog 47 #[] w fun e w' => e = .returned (.agg #[.int .u8 66, .int .u8 89, .int .u8 0, .int .u8 0, .int .u8 0, .int .u8 0, .int .u8 0]) ∧ Below w.heap.size w w' := by
  go_enter Try.func47, Try.ntmps47
  go_wp2
  exact bodyPost_ret (v := .agg #[.int .u8 66, .int .u8 89, .int .u8 0, .int .u8 0, .int .u8 0, .int .u8 0, .int .u8 0]) (results_cell_row rfl _ _ w.heap.size 72 _ (0, 0) _ rfl (heap_alloc_new w _) Try.underlying72 rfl (by rw [info72]; rfl)) rfl
    ⟨rfl, (Below.refl _ _).alloc (Nat.le_refl _) _⟩
end Go.Proofs.Ytofhdehigfdmkaa
