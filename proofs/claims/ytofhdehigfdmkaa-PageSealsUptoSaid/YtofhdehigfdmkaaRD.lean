/- THE WALK of the document of layer 3: Seal. -/
import Derived.Test.YtofhdehigfdmkaaRC
namespace Go.Proofs.Ytofhdehigfdmkaa
open Go.RowKit
set_option maxHeartbeats 1000000 in
set_option maxRecDepth 100000 in
theorem rseal_ok (A : Option Addr) (ca size kind num gen n : Nat) (p : List UInt8) (w : World) (hf : Page.Fits size kind num gen p) (hn : p.length = n) (hA : Rd w w.heap.size A p) :
    Calls Try.prog 25 #[.int .i64 (size : Int), .agg #[.int .i64 (kind : Int), .int .i64 (num : Int), .int .u64 (gen : Int)], .slice A n ca] w fun e w' =>
      ∃ A' c' r, e = .returned (.tuple #[.slice A' r.length c', .int .i64 0]) ∧ r = Page.pageL size kind num gen p ∧ Owns w' w.heap.size (.slice A' r.length c') r ∧ Below w.heap.size w w' := by
  obtain ⟨g1, g2⟩ := Page.sized_512 hf.sized
  have h1 := hf.k1
  have h5 := hf.k5
  have h6 := hf.num
  have hlong := hf.long
  rw [hn] at hlong
  have HS := Lib.hid (rsized_yes _ hf.sized)
  have HR := Lib.hid (rroom_yes _ hf.sized)
  have K1 := Lib.hid (Blk.new w 39 #[.int .i64 (kind : Int), .int .i64 (num : Int), .int .u64 (gen : Int)])
  have B1 := Lib.hid ((Below.refl w.heap.size w).alloc (Nat.le_refl _) (.cells #[.int .i64 (kind : Int), .int .i64 (num : Int), .int .u64 (gen : Int)] 39))
  have HB := Lib.hid (rbytes_any A ca size kind num gen n p (w.alloc (.cells #[.int .i64 (kind : Int), .int .i64 (num : Int), .int .u64 (gen : Int)] 39)) hf hn ((hA.below B1.out (Nat.le_refl _)).mono (by simp)))
  have d1 : decide ((kind : Int) < 1) = false := by simp <;> omega
  have d2 : decide ((5 : Int) < (kind : Int)) = false := by simp <;> omega
  have d3 : decide ((num : Int) < 0) = false := by simp <;> omega
  have d4 : decide ((65535 : Int) < (num : Int)) = false := by simp <;> omega
  have d5 : decide ((size : Int) - 32 < (n : Int)) = false := by simp <;> omega
  clear hf hn hA
  go_enter Try.func25, Try.ntmps25
  go_wp2_with (first | (go_at_call 49; refine (HS.out _).mono ?_; rintro e w' ⟨rfl, rfl⟩) | (go_at_call 27; refine (HR.out _).mono ?_; rintro e w' ⟨rfl, rfl⟩) | (refine wpList_load_row rfl 39 _ rfl _ rfl 39 _ (0, 0) _ K1.out Try.underlying39 rfl (by rw [info39]; rfl) ?_))
  refine HB.out.mono ?_
  rintro e w2 ⟨A2, c2, r2, rfl, q2, o2, b2⟩
  have HX := Lib.hid (And.intro q2 (And.intro (o2.mono (show w.heap.size ≤ _ by simp)) (B1.out.trans (b2.mono (show w.heap.size ≤ _ by simp)))))
  clear q2 o2 b2
  go_wp2_with fail
  go_ret2
  exact ⟨A2, c2, r2, rfl, HX.out⟩
set_option maxHeartbeats 400000 in
theorem rseal_arg (A : Option Addr) (ca : Nat) (size kind num gen : Int) (n : Nat) (w : World)
    (h : ¬ Page.Sized size ∨ num < 0 ∨ (0 ≤ num ∧ mayB kind num = false)) :
    Calls Try.prog 25 #[.int .i64 size, .agg #[.int .i64 kind, .int .i64 num, .int .u64 gen], .slice A n ca] w fun e w' =>
      e = .returned (.tuple #[.slice none 0 0, .int .i64 1]) ∧ Below w.heap.size w w' := by
  by_cases h1 : Page.Sized size
  · have HS := Lib.hid (rsized_yes _ h1)
    have hh : kind < 1 ∨ 5 < kind ∨ num < 0 ∨ 65535 < num := by
      rcases h with h | h | h
      · exact absurd h1 h
      · omega
      · have := h.2; simp [mayB] at this; omega
    clear h
    by_cases d1 : kind < 1
    · go_enter Try.func25, Try.ntmps25
      go_wp2_with (first | (go_at_call 49; refine (HS.out _).mono ?_; rintro e w' ⟨rfl, rfl⟩))
      go_ret2
      exact ⟨rfl, (Below.refl _ _).alloc (Nat.le_refl _) _⟩
    have e1 : decide (kind < 1) = false := by simp <;> omega
    by_cases d2 : 5 < kind
    · go_enter Try.func25, Try.ntmps25
      go_wp2_with (first | (go_at_call 49; refine (HS.out _).mono ?_; rintro e w' ⟨rfl, rfl⟩))
      go_ret2
      exact ⟨rfl, (Below.refl _ _).alloc (Nat.le_refl _) _⟩
    have e2 : decide (5 < kind) = false := by simp <;> omega
    by_cases d3 : num < 0
    · go_enter Try.func25, Try.ntmps25
      go_wp2_with (first | (go_at_call 49; refine (HS.out _).mono ?_; rintro e w' ⟨rfl, rfl⟩))
      go_ret2
      exact ⟨rfl, (Below.refl _ _).alloc (Nat.le_refl _) _⟩
    have e3 : decide (num < 0) = false := by simp <;> omega
    have d4 : 65535 < num := by omega
    go_enter Try.func25, Try.ntmps25
    go_wp2_with (first | (go_at_call 49; refine (HS.out _).mono ?_; rintro e w' ⟨rfl, rfl⟩))
    go_ret2
    exact ⟨rfl, (Below.refl _ _).alloc (Nat.le_refl _) _⟩
  · have HS := Lib.hid (rsized_no _ h1)
    clear h h1
    go_enter Try.func25, Try.ntmps25
    go_wp2_with (first | (go_at_call 49; refine (HS.out _).mono ?_; rintro e w' ⟨rfl, rfl⟩))
    go_ret2
    exact ⟨rfl, (Below.refl _ _).alloc (Nat.le_refl _) _⟩
set_option maxHeartbeats 400000 in
theorem rseal_long (A : Option Addr) (ca size : Nat) (kind num gen : Int) (n : Nat) (w : World) (h1 : Page.Sized size) (h0 : 0 ≤ num) (h3 : mayB kind num = true) (h4 : (size : Int) - 32 < n) :
    Calls Try.prog 25 #[.int .i64 (size : Int), .agg #[.int .i64 kind, .int .i64 num, .int .u64 gen], .slice A n ca] w fun e w' =>
      e = .returned (.tuple #[.slice none 0 0, .int .i64 31]) ∧ Below w.heap.size w w' := by
  have HS := Lib.hid (rsized_yes _ h1)
  have HR := Lib.hid (rroom_yes _ h1)
  obtain ⟨g1, g2⟩ := Page.sized_512 h1
  have hh : (1 ≤ kind ∧ kind ≤ 5) ∧ num < 65536 := by simpa [mayB] using h3
  obtain ⟨⟨i1, i2⟩, i3⟩ := hh
  have d1 : decide (kind < 1) = false := by simp <;> omega
  have d2 : decide (5 < kind) = false := by simp <;> omega
  have d3 : decide (num < 0) = false := by simp <;> omega
  have d4 : decide (65535 < num) = false := by simp <;> omega
  clear h1 h3
  go_enter Try.func25, Try.ntmps25
  go_wp2_with (first | (go_at_call 49; refine (HS.out _).mono ?_; rintro e w' ⟨rfl, rfl⟩) | (go_at_call 27; refine (HR.out _).mono ?_; rintro e w' ⟨rfl, rfl⟩))
  go_ret2
  exact ⟨rfl, (Below.refl _ _).alloc (Nat.le_refl _) _⟩
/-- what both answer -/
def sealBad (size kind num : Int) : Prop := ¬ Page.Sized size ∨ num < 0 ∨ (0 ≤ num ∧ mayB kind num = false)
open Classical in
noncomputable def sealC (size kind num : Int) (p : List UInt8) : Int := if sealBad size kind num then 1 else if size - 32 < p.length then 31 else 0
open Classical in
noncomputable def sealL (size kind num : Int) (gen : Nat) (p : List UInt8) : List UInt8 := if sealC size kind num p = 0 then Page.pageL size.toNat kind.toNat num.toNat gen p else []
theorem Owns.of_blk {w : World} {g N B : Nat} {l : List UInt8} (h : Blk w g 5 (arr N (byF fun i => l.getD i 0))) (hl : l.length = N) (hB : B ≤ g) (hm : N ≤ maxLen) : Owns w B (.slice (some ⟨g, 0, none⟩) l.length N) l := by
  refine ⟨by simp, .inr ⟨g, N, _, rfl, hB, h, by omega, hm, by simp [arr_size], ?_⟩⟩
  rw [hl, Nat.mul_one, List.take_of_length_le (by simp [arr_size])]
  apply List.ext_getElem?
  intro i
  by_cases hi : i < N
  · rw [Array.getElem?_toList, arr_get _ _ _ hi, List.getElem?_map]
    simp [byF, byteV, List.getD, List.getElem?_eq_getElem (show i < l.length by omega)]
  · rw [List.getElem?_eq_none (by simp [arr_size]; omega), List.getElem?_eq_none (by simp; omega)]
/-- both, of any arguments -/
theorem seal_both (F : FuncId) (hF : F = 24 ∨ F = 25) (A : Option Addr) (ca : Nat) (size kind num : Int) (gen : Nat) (p : List UInt8) (w : World) (hA : Rd w w.heap.size A p) (hg : gen < 18446744073709551616)
    (h1 : -9223372036854775808 ≤ num) (h2 : num ≤ 9223372036854775807) :
    Calls Try.prog F #[.int .i64 size, .agg #[.int .i64 kind, .int .i64 num, .int .u64 (gen : Int)], .slice A p.length ca] w fun e w' =>
      ∃ A' c' r, e = .returned (.tuple #[.slice A' r.length c', .int .i64 (sealC size kind num p)]) ∧ r = sealL size kind num gen p ∧ Owns w' w.heap.size (.slice A' r.length c') r ∧ Below w.heap.size w w' := by
  by_cases hb : sealBad size kind num
  · have hc : sealC size kind num p = 1 := by rw [sealC, if_pos hb]
    have hl : sealL size kind num gen p = [] := by rw [sealL, if_neg (by rw [hc]; decide)]
    rw [hc, hl]
    rcases hF with rfl | rfl
    · refine (seal_arg A ca size kind num gen p.length w h1 h2 hb).mono ?_
      rintro e w' ⟨rfl, b⟩
      exact ⟨none, 0, [], rfl, rfl, World.ownsRow_nil _ _ _ _, b⟩
    · refine (rseal_arg A ca size kind num gen p.length w hb).mono ?_
      rintro e w' ⟨rfl, b⟩
      exact ⟨none, 0, [], rfl, rfl, World.ownsRow_nil _ _ _ _, b⟩
  · have hs : Page.Sized size := Classical.byContradiction fun h => hb (.inl h)
    have hn0 : 0 ≤ num := by
      have : ¬ num < 0 := fun h => hb (.inr (.inl h))
      omega
    have hm : mayB kind num = true := by
      cases e : mayB kind num with
      | true => rfl
      | false => exact absurd (.inr (.inr ⟨hn0, e⟩)) hb
    have hh : (1 ≤ kind ∧ kind ≤ 5) ∧ num < 65536 := by simpa [mayB] using hm
    obtain ⟨S, rfl⟩ : ∃ S : Nat, size = (S : Int) := ⟨size.toNat, by unfold Page.Sized at hs; omega⟩
    by_cases h4 : (S : Int) - 32 < p.length
    · have hc : sealC S kind num p = 31 := by rw [sealC, if_neg hb, if_pos h4]
      have hl : sealL S kind num gen p = [] := by rw [sealL, if_neg (by rw [hc]; decide)]
      rw [hc, hl]
      rcases hF with rfl | rfl
      · refine (seal_long A ca S kind num gen p.length w hs hn0 h2 hm h4).mono ?_
        rintro e w' ⟨rfl, b⟩
        exact ⟨none, 0, [], rfl, rfl, World.ownsRow_nil _ _ _ _, b⟩
      · refine (rseal_long A ca S kind num gen p.length w hs hn0 hm h4).mono ?_
        rintro e w' ⟨rfl, b⟩
        exact ⟨none, 0, [], rfl, rfl, World.ownsRow_nil _ _ _ _, b⟩
    · obtain ⟨K, rfl⟩ : ∃ K : Nat, kind = (K : Int) := ⟨kind.toNat, by omega⟩
      obtain ⟨N, rfl⟩ : ∃ N : Nat, num = (N : Int) := ⟨num.toNat, by omega⟩
      have hc : sealC S K N p = 0 := by rw [sealC, if_neg hb, if_neg h4]
      have hl : sealL S K N gen p = Page.pageL S K N gen p := by rw [sealL, if_pos hc]; rfl
      obtain ⟨g1, g2⟩ := Page.sized_512 hs
      have hf : Page.Fits S K N gen p := ⟨hs, by omega, by omega, by omega, hg, by omega⟩
      rw [hc, hl]
      rcases hF with rfl | rfl
      · refine (seal_ok A ca S K N gen p.length p w hf rfl hA).mono ?_
        rintro e w' ⟨g, rfl, hg0, hgb, b⟩
        refine ⟨some ⟨g, 0, none⟩, S, Page.pageL S K N gen p, ?_, rfl, ?_, b⟩
        · rw [Page.pageL_length]
        · refine Owns.of_blk ?_ (Page.pageL_length _ _ _ _ _) hg0 (by unfold maxLen; omega)
          rw [arr_congr S (byF fun i => (Page.pageL S K N gen p).getD i 0) (byF (Page.pageF S K N gen p)) (fun i hi => by have := Page.rl_get S (Page.pageF S K N gen p) i hi; simp only [byF, Page.pageL, this])]
          exact hgb
      · exact rseal_ok A ca S K N gen p.length p w hf rfl hA
end Go.Proofs.Ytofhdehigfdmkaa
