/- WALK: SpaceOnce. -/
import Derived.Test.YtghakgepchlpgaaDoorF
namespace Go.Proofs.YtghakgepchlpgaaDoor
open Go.RowKit Spc

theorem alloc_least (g N m : Nat) (f : Nat → Bool) (w : World) (h : Sp w g N f) (hT : Tab w) (hm : Least f N m) :
    Calls Tryd.prog 10 #[.pointer (some ⟨g, 0, none⟩)] w fun e w' => e = .returned (.tuple #[.int .i64 (m : Int), .int .i64 0]) ∧ Sp w' g N (upd f m true) ∧ Kept (fun b => b = g) w w' := by
  refine (alloc_any g N f w h hT).mono ?_
  rintro e w' (⟨n, hn, rfl, s, k⟩ | ⟨hn, -⟩)
  · obtain rfl := hn.eq hm
    exact ⟨rfl, s, k⟩
  · have := hn m hm.1
    rw [hm.2.1] at this
    cases this
theorem alloc_full (g N : Nat) (f : Nat → Bool) (w : World) (h : Sp w g N f) (hT : Tab w) (hm : ∀ n, n < N → f n = true) :
    Calls Tryd.prog 10 #[.pointer (some ⟨g, 0, none⟩)] w fun e w' => e = .returned (.tuple #[.int .i64 0, .int .i64 2]) ∧ w = w' := by
  refine (alloc_any g N f w h hT).mono ?_
  rintro e w' (⟨n, hn, rfl, s, k⟩ | ⟨-, rfl, rfl⟩)
  · have := hm n hn.1
    rw [hn.2.1] at this
    cases this
  · exact ⟨rfl, rfl⟩
theorem info4 : (Tryd.prog.info? 4).map (fun i => (i.zero, i.size, i.bytes)) = some (some (.bool false), 1, 1) := by kernel_rfl
/-- make([]bool, n) -/
theorem make_bools (n : Nat) (h : n ≤ 281474976710656) (u : World) :
    (Instr.makeSlice 28 (.int .i64 (n : Int)) (.int .i64 (n : Int))).run Tryd.prog u = .ok (.slice (some ⟨u.heap.size, 0, none⟩) n n) (u.alloc (.cells (arr n fun _ => .bool false) 4)) := by
  obtain ⟨i0, hi, hz0, hz1, hz2⟩ := info_parts info4
  have hr := run_make (P := Tryd.prog) u 28 4 i0 (.bool false) Tryd.underlying28 hi hz0 .i64 .i64 (n : Int) (n : Int) (by omega) (Int.le_refl _) (by rw [hz2]; omega) (by omega)
  rw [hz1, Int.toNat_natCast, Nat.mul_one] at hr
  rw [hr, show (Value.bool false).cells = #[.bool false] from rfl, made_arr]
/-- a row of yes and no -/
def bools (N : Nat) (f : Nat → Bool) : Array Value := arr N fun i => .bool (f i)
theorem bools_put (N k : Nat) (f : Nat → Bool) (b : Bool) : (bools N f).setIfInBounds k (.bool b) = bools N (upd f k b) :=
  arr_put _ _ _ _ _ (by rw [upd_same]) fun i _ hne => by rw [upd_other _ _ hne]
theorem bools_get (N k : Nat) (f : Nat → Bool) (h : k < N) : (bools N f)[k]? = some (.bool (f k)) := arr_get _ _ _ h
theorem bools_first (N : Nat) : bools N (first 0) = arr N fun _ => .bool false := arr_congr _ _ _ fun i _ => by simp [first]
/-- the cells that a slice's ints stand in -/
def RdI (w : World) (B : Nat) (A : Option Addr) (l : List Int) : Prop :=
  l = [] ∨ ∃ b off, A = some ⟨b, off, none⟩ ∧ b < B ∧ ∀ k, k < l.length → w.cell? ⟨b, off + k, none⟩ = some (.int .i64 (l.getD k 0))
theorem RdI.below {w w' : World} {B B' : Nat} {A : Option Addr} {l : List Int} (h : RdI w B A l) (hb : Below B' w w') (hB : B ≤ B') : RdI w' B A l := by
  rcases h with h | ⟨b, off, hA, hlt, hc⟩
  · exact .inl h
  · exact .inr ⟨b, off, hA, hlt, fun k hk => (hb.cell (p := ⟨b, off + k, none⟩) (by show b < B'; omega)).trans (hc k hk)⟩
theorem kept_one (w : World) (g i : Nat) (u : Value) : Kept (fun b => b = g) w (w.setCell ⟨g, i, none⟩ u) := (Kept.refl (fun b => b = g) w).setCell (p := ⟨g, i, none⟩) rfl u
theorem int_of_nat {x : Int} {n : Nat} (h : x = (n : Int)) : Value.int .i64 x = .int .i64 (n : Int) := by rw [h]
theorem bad_walk (A : Option Addr) (c : Nat) (b u : Int) (n : Nat) (w : World) (hT : Tab w) (h : b < 16 ∨ 65536 < b ∨ u < 0 ∨ b < u) :
    Calls Tryd.prog 4 #[.int .i64 b, .int .i64 u, .slice A n c] w fun e w' => e = .returned (.bool true) ∧ Below w.heap.size w w' := by
  have HA := Lib.hid (alive_true w hT)
  have HB := Lib.hid fun W => new_bad b u W h
  by_cases h1 : b < 16
  · clear h
    go_enter Tryd.func4, Tryd.ntmps4
    go_wp2_with (first
      | (go_at_call 8; refine HA.out.mono ?_; rintro e w1 ⟨rfl, b1⟩; have B1 := Lib.hid b1; clear b1)
      | (go_at_call 9; refine (HB.out _).mono ?_; rintro e w2 ⟨rfl, rfl⟩))
    go_ret
    exact ⟨rfl, B1.out⟩
  have d1 : decide (b < 16) = false := by simpa using h1
  by_cases h2 : 65536 < b
  · clear h
    go_enter Tryd.func4, Tryd.ntmps4
    go_wp2_with (first
      | (go_at_call 8; refine HA.out.mono ?_; rintro e w1 ⟨rfl, b1⟩; have B1 := Lib.hid b1; clear b1)
      | (go_at_call 9; refine (HB.out _).mono ?_; rintro e w2 ⟨rfl, rfl⟩))
    go_ret
    exact ⟨rfl, B1.out⟩
  have d2 : decide (65536 < b) = false := by simpa using h2
  by_cases h3 : u < 0
  · clear h
    go_enter Tryd.func4, Tryd.ntmps4
    go_wp2_with (first
      | (go_at_call 8; refine HA.out.mono ?_; rintro e w1 ⟨rfl, b1⟩; have B1 := Lib.hid b1; clear b1)
      | (go_at_call 9; refine (HB.out _).mono ?_; rintro e w2 ⟨rfl, rfl⟩))
    go_ret
    exact ⟨rfl, B1.out⟩
  have d3 : decide (u < 0) = false := by simpa using h3
  have h4 : b < u := by omega
  clear h
  go_enter Tryd.func4, Tryd.ntmps4
  go_wp2_with (first
    | (go_at_call 8; refine HA.out.mono ?_; rintro e w1 ⟨rfl, b1⟩; have B1 := Lib.hid b1; clear b1)
    | (go_at_call 9; refine (HB.out _).mono ?_; rintro e w2 ⟨rfl, rfl⟩))
  go_ret
  exact ⟨rfl, B1.out⟩
end Go.Proofs.YtghakgepchlpgaaDoor
