/- WALKS of package space: New; math/bits' trailing zeros; Alloc. -/
import Derived.Test.YtghakgepchlpgaaDoorA
import Derived.Shelf.Spec.TrailingZeros
import Derived.Lib.LaidTab
import Derived.Great.BuildSlice
import Derived.Great.Ranges
import Derived.Deep.MidRow
namespace Go.Proofs.YtghakgepchlpgaaDoor
open Go.RowKit Spc

theorem below_kept {B : Nat} {a w w' : World} {S : Nat → Prop} (h : Below B a w) (hk : Kept S w w') (hs : ∀ k, S k → B ≤ k) (hB : B ≤ w.heap.size) : Below B a w' :=
  h.trans (hk.below hs hB)
theorem num_succ {k : Nat} (h : k < 9223372036854775807) : Value.int .i64 (wrap64 ((k : Int) + 1)) = .int .i64 ((k + 1 : Nat) : Int) := by
  congr 1; unfold wrap64; omega
theorem less_succ {k n : Nat} (h : k < n) (h2 : n < 9223372036854775807) : n - (intOf (.int .i64 (wrap64 ((k : Int) + 1)))).toNat < n - (intOf (.int .i64 (k : Int))).toNat := by
  rw [num_succ (by omega)]; simp [intOf]; omega
theorem new_bad (b u : Int) (w : World) (h : b < 16 ∨ 65536 < b ∨ u < 0 ∨ b < u) : Calls Tryd.prog 9 #[.int .i64 b, .int .i64 u] w fun r w' => r = .returned (.tuple #[.pointer none, .int .i64 1]) ∧ w = w' := by
  by_cases h1 : b < 16
  · clear h
    go_enter Tryd.func9, Tryd.ntmps9
    go_wp2_with fail
    go_ret2
    exact ⟨rfl, rfl⟩
  have d1 : decide (b < 16) = false := by simpa using h1
  by_cases h2 : 65536 < b
  · clear h
    go_enter Tryd.func9, Tryd.ntmps9
    go_wp2_with fail
    go_ret2
    exact ⟨rfl, rfl⟩
  have d2 : decide (65536 < b) = false := by simpa using h2
  by_cases h3 : u < 0
  · clear h
    go_enter Tryd.func9, Tryd.ntmps9
    go_wp2_with fail
    go_ret2
    exact ⟨rfl, rfl⟩
  have d3 : decide (u < 0) = false := by simpa using h3
  have h4 : b < u := by omega
  clear h
  go_enter Tryd.func9, Tryd.ntmps9
  go_wp2_with fail
  go_ret2
  exact ⟨rfl, rfl⟩
theorem zeros_at (a b z : Value) (n i : Nat) (hi : i < n) : (a :: b :: List.replicate n z)[2 + i]? = some z := by
  rw [show 2 + i = i + 1 + 1 by omega, List.getElem?_cons_succ, List.getElem?_cons_succ, List.getElem?_replicate, if_pos hi]
theorem built62' (N : Int) : (Tryd.prog.built 62 [(0, .int .i64 N)]).map (fun z => z.toList) = some (Value.int .i64 N :: .int .i64 0 :: List.replicate 1024 (.int .u64 0)) := by kernel_rfl
theorem built62 (N : Int) : Tryd.prog.built 62 [(0, .int .i64 N)] = some (spA N 0 fun _ => 0#64) := by
  obtain ⟨cs, h1, h2⟩ := Option.map_eq_some_iff.1 (built62' N)
  rw [h1]
  refine congrArg some ?_
  refine arr_of _ _ _ ?_ fun i hi => ?_
  · rw [← Array.length_toList, h2, List.length_cons, List.length_cons, List.length_replicate]
  · rw [← Array.getElem?_toList, h2]
    unfold spC
    by_cases h0 : i = 0
    · subst h0; rfl
    by_cases h1 : i = 1
    · subst h1; rfl
    rw [if_neg h0, if_neg h1]
    obtain ⟨j, rfl⟩ : ∃ j, i = 2 + j := ⟨i - 2, by omega⟩
    exact zeros_at _ _ _ 1024 j (by omega)
theorem bit_zero (n : Nat) : bit (fun _ => 0#64) n = false := by simp [bit]
theorem first_zero (n : Nat) : first 0 n = false := by simp [first]
theorem Sp.made (w : World) (N : Nat) (h : 16 ≤ N) (h' : N ≤ 65536) : Sp (w.alloc (.cells (spA (N : Int) 0 fun _ => 0#64) 62)) w.heap.size N (first 0) := by
  refine ⟨fun _ => 0#64, ?_, fun n _ => by rw [bit_zero, first_zero], fun n _ => first_zero n, h, h'⟩
  rw [cnt_none _ _ (fun n _ => first_zero n)]
  exact Blk.new w 62 _
set_option maxHeartbeats 1000000 in
theorem new_ok (N u : Nat) (w : World) (h : 16 ≤ N) (h' : N ≤ 65536) (hu : u ≤ N) : Calls Tryd.prog 9 #[.int .i64 (N : Int), .int .i64 (u : Int)] w fun r w' =>
    r = .returned (.tuple #[.pointer (some ⟨w.heap.size, 0, none⟩), .int .i64 0]) ∧ Sp w' w.heap.size N (first u) ∧ Below w.heap.size w w' := by
  have d1 : decide ((N : Int) < 16) = false := by simp; omega
  have d2 : decide (65536 < (N : Int)) = false := by simp; omega
  have d3 : decide ((u : Int) < 0) = false := by simp
  have d4 := Lib.hid (show decide (N < u) = false by simp; omega)
  obtain ⟨cs, hcs, S0⟩ : ∃ cs, Tryd.prog.built 62 [(0, .int .i64 (N : Int))] = some cs ∧ Sp (w.alloc (.cells cs 62)) w.heap.size N (first 0) := ⟨_, built62 _, Sp.made w N h h'⟩
  have S0 := Lib.hid S0
  have HU := Lib.hid hu
  clear hu
  go_enter Tryd.func9, Tryd.ntmps9
  iterate 40 (first | go_step)
  rename_i kk
  refine kk _ _ ?_
  iterate 15 (first | go_step | (rename_i kk; refine kk _ _ ?_))
  refine wp_cond_false (congrArg Value.bool d4.out) ?_
  go_step
  rename_i aa _ _
  refine aa _ _ ?_
  clear aa
  clear kk
  iterate 4 go_step
  rename_i kk
  refine kk _ _ ?_
  clear kk
  refine wpList_buildTo rfl 62 #[(0, .tmp 23)] rfl (some 24) rfl cs ?_ ?_
  · refine (congrArg (Tryd.prog.built 62) ?_).trans hcs
    kernel_rfl
  refine Great.wpList_boxTo rfl 62 (.tmp 24) rfl (some 25) rfl w.heap.size rfl cs rfl ?_
  try simp only [Act.put, List.setIfInBounds_toArray, List.set_cons_zero, List.set_cons_succ]
  clear hcs d4
  have k0 := (Below.refl w.heap.size w).alloc (Nat.le_refl _) (.cells cs 62)
  have s0 := S0.out
  generalize hW0 : w.alloc (.cells cs 62) = W0 at s0 k0 ⊢
  have S1 := Lib.hid (And.intro s0 k0)
  clear S0 s0 k0 hW0
  go_wp2_with fail
  go_loopw [27] (fun iv wr => ∃ k : Nat, k ≤ u ∧ iv = .int .i64 k ∧ Sp wr w.heap.size N (first k) ∧ Below w.heap.size w wr) (fun iv _ => u - (intOf iv).toNat)
  case atStart => exact ⟨0, by omega, rfl, S1.out.1, S1.out.2⟩
  case round =>
    obtain ⟨k, hk, rfl, hs, hb⟩ := hrel
    by_cases hlt : k < u
    · have HS := Lib.hid (set_any w.heap.size N k (first k) wr hs (by have := HU.out; omega) (by simp [first]))
      have HB := Lib.hid hb
      clear hs hb
      go_wp2_with (go_at_call 27; refine HS.out.mono ?_; rintro e w1 ⟨rfl, s1, k1⟩; have S2 := Lib.hid s1; have K2 := Lib.hid k1; clear s1 k1)
      have hu0 := HU.out
      refine ⟨⟨k + 1, by omega, num_succ (by omega), by rw [← first_succ]; exact S2.out, below_kept HB.out K2.out (fun b e => by omega) HB.out.size⟩, less_succ hlt (by have := HU.out; omega)⟩
    · obtain rfl : k = u := by omega
      clear S1
      have HS := Lib.hid (And.intro hs hb)
      clear hs hb
      go_wp2_with fail
      go_ret2
      exact ⟨rfl, HS.out⟩

/-- the library's table in its variable (block 0) -/
def Tab (w : World) : Prop := TabAt 0 Lib.deBruijn64tab w
theorem Tab.keep {w w' : World} (h : Tab w) (hk : w'.heap[0]? = w.heap[0]?) : Tab w' := fun j hj => (World.cell?_of_block (w := w) (a := ⟨0, j, none⟩) hk).trans (h j hj)
set_option maxHeartbeats 1000000 in
theorem tz_core (x k idx : Nat) (w : World) (hx0 : ((x : Int) == 0) = false)
    (key : IntKind.u64.wrap (bits BinOp.and IntKind.u64 (x : Int) (IntKind.u64.wrap (-(x : Int))) * 285870213051353865) / 288230376151711744 = (idx : Int))
    (hi : idx < 64) (hk : k < 64) (hcell : w.cell? ⟨0, idx, none⟩ = some (.int .u8 k)) :
    Calls Tryd.prog 28 #[.int .u64 x] w fun e w' => e = .returned (.int .i64 k) ∧ w = w' := by
  go_enter Tryd.func28, Tryd.ntmps28
  go_wp2_with (simp only [key])
  go_ret
  exact ⟨rfl, rfl⟩
theorem tz_any (x : Nat) (hx : x < 18446744073709551616) (w : World) (hT : Tab w) (h0 : x ≠ 0) :
    Calls Tryd.prog 28 #[.int .u64 x] w fun e w' => e = .returned (.int .i64 (Lib.ctz 64 x)) ∧ w = w' := by
  obtain ⟨hlow, hk⟩ := Lib.lowest_bit 64 x h0 hx
  obtain ⟨hi, htab⟩ := Lib.deBruijn64_at _ hk
  have hcell := hT _ hi
  rw [htab] at hcell
  exact tz_core x _ _ w (by simp; omega) (tz64_key x _ hx h0 hlow) hi hk hcell
theorem tz_zero (w : World) : Calls Tryd.prog 28 #[.int .u64 0] w fun e w' => e = .returned (.int .i64 64) ∧ w = w' := by
  go_enter Tryd.func28, Tryd.ntmps28
  go_wp2
  go_ret
  exact ⟨rfl, rfl⟩
end Go.Proofs.YtghakgepchlpgaaDoor
