/- MAKE AND APPEND on slices of bytes; rows of bytes. -/
import Derived.Test.YtofhdehigfdmkaaD
namespace Go.Proofs.Ytofhdehigfdmkaa
open Go.RowKit

theorem info5 : (Try.prog.info? 5).map (fun i => (i.zero, i.size, i.bytes)) = some (some (.int .u8 0), 1, 1) := by kernel_rfl
theorem made_arr (z : Value) (n : Nat) : madeCells #[z] n = arr n fun _ => z := by
  apply arr_of
  · rw [size_madeCells]
  · intro i hi
    simp [madeCells, hi, Nat.mod_one]
/-- make([]byte, n) -/
theorem make_bytes (n : Nat) (h : n ≤ 281474976710656) (u : World) :
    (Instr.makeSlice 22 (.int .i64 (n : Int)) (.int .i64 (n : Int))).run Try.prog u = .ok (.slice (some ⟨u.heap.size, 0, none⟩) n n) (u.alloc (.cells (arr n fun _ => .int .u8 0) 5)) := by
  obtain ⟨i0, hi, hz0, hz1, hz2⟩ := info_parts info5
  have hr := run_make (P := Try.prog) u 22 5 i0 (.int .u8 0) Try.underlying22 hi hz0 .i64 .i64 (n : Int) (n : Int) (by omega) (Int.le_refl _) (by rw [hz2]; omega) (by omega)
  rw [hz1, Int.toNat_natCast, Nat.mul_one] at hr
  rw [hr, show (Value.int IntKind.u8 0).cells = #[.int .u8 0] from rfl, made_arr]

/-- a row of bytes by a rule -/
def byF (x : Nat → UInt8) (i : Nat) : Value := .int .u8 ((x i).toNat : Int)
/-- the first k of them laid, the others 0 -/
def upF (k : Nat) (x : Nat → UInt8) (i : Nat) : Value := if i < k then .int .u8 ((x i).toNat : Int) else .int .u8 0
theorem up_zero (n : Nat) (x : Nat → UInt8) : arr n (upF 0 x) = arr n fun _ => .int .u8 0 := arr_congr _ _ _ fun i _ => by rw [upF, if_neg (by omega)]
theorem up_put (n k : Nat) (x : Nat → UInt8) (v : Value) (hv : v = .int .u8 ((x k).toNat : Int)) : (arr n (upF k x)).setIfInBounds k v = arr n (upF (k + 1) x) := by
  refine arr_put n k _ _ v ?_ ?_
  · rw [hv, upF, if_pos (by omega)]
  · intro i _ hne
    unfold upF
    by_cases h : i < k
    · rw [if_pos h, if_pos (by omega)]
    · rw [if_neg h, if_neg (by omega)]
theorem up_open (k : Nat) (x : Nat → UInt8) : upF k x k = .int .u8 0 := by rw [upF, if_neg (by omega)]
theorem up_all (n : Nat) (x : Nat → UInt8) : arr n (upF n x) = arr n (byF x) := arr_congr _ _ _ fun i hi => by rw [upF, if_pos hi]; rfl
/-- a block whose cells are bytes reads as their list -/
theorem Rd.of_blk {w : World} {g B n : Nat} {x : Nat → UInt8} {l : List UInt8} (h : Blk w g 5 (arr n (byF x))) (hn : l.length ≤ n) (hx : ∀ i, i < l.length → x i = l.getD i 0) (hB : g < B) : Rd w B (some ⟨g, 0, none⟩) l :=
  Rd.of_row h (fun k hk => by rw [arr_get _ _ _ (by omega), byF, hx k hk]) hB
theorem Rd.take {w : World} {B : Nat} {A : Option Addr} {l : List UInt8} (h : Rd w B A l) (n : Nat) : Rd w B A (l.take n) := by
  rcases h with rfl | ⟨b, off, hA, hb, hc⟩
  · left; simp
  · refine .inr ⟨b, off, hA, hb, fun k hk => ?_⟩
    have hk' : k < n ∧ k < l.length := by rw [List.length_take] at hk; omega
    rw [hc k hk'.2]
    congr 3
    simp [List.getD, hk'.1]
end Go.Proofs.Ytofhdehigfdmkaa
