/- THE WALKS OF THE STATEMENTS OF LAYER 2: shown; SumJoins. -/
import Derived.Test.YtofhdehigfdmkaaC
import Derived.Lib.SlBytesConst
namespace Go.Proofs.Ytofhdehigfdmkaa
open Go.RowKit

def digits : List UInt8 := [49, 50, 51, 52, 53, 54, 55, 56, 57]
theorem shown_sum : Crc.sumOf digits = 0x995dc9bbdf1939fa#64 := by decide +kernel

theorem Rd.of_row {w : World} {g B : Nat} {cs : Array Value} {t : TypeId} {fr : Nat × Nat} {l : List UInt8} (hg : w.heap[g]? = some (.cells cs t fr))
    (hl : ∀ k, k < l.length → cs[k]? = some (.int .u8 ((l.getD k 0).toNat : Int))) (hB : g < B) : Rd w B (some ⟨g, 0, none⟩) l := by
  refine .inr ⟨g, 0, rfl, hB, fun k hk => ?_⟩
  rw [cell_of_row w g (0 + k) cs t fr hg, Nat.zero_add]
  exact hl k hk

set_option maxHeartbeats 400000 in
/-- the chapter's example -/
theorem shown_any (w : World) : Calls Try.prog 15 #[] w fun e w' => e = .returned (.bool true) ∧ Below w.heap.size w w' := by
  have hC := Lib.hid (fun W => of_any (some ⟨w.heap.size, 0, none⟩) 9 digits (w.alloc W))
  have e0 : ((0x995dc9bbdf1939fa#64).toNat : Int) = 11051210869376104954 := rfl
  have kc := fun (w : World) (C : Array Value) (n c : Nat) => Lib.run_convert_bytes_const (P := Try.prog) w 22 5 C n c Try.underlying22 Try.underlying5
  go_enter Try.func15, Try.ntmps15
  go_wp2_with fail
  refine ((hC.out _ (w.heap.size + 1) (by simp) (Rd.of_row (heap_alloc_new w _) ?_ (by omega)) (by decide)).mono ?_)
  · intro k hk
    rcases (by simp [digits] at hk; omega : k = 0 ∨ k = 1 ∨ k = 2 ∨ k = 3 ∨ k = 4 ∨ k = 5 ∨ k = 6 ∨ k = 7 ∨ k = 8) with rfl | rfl | rfl | rfl | rfl | rfl | rfl | rfl | rfl <;> rfl
  · rintro e w1 ⟨rfl, hb1⟩
    have hb : Below w.heap.size w w1 := ((Below.refl _ _).alloc (Nat.le_refl _) _).trans (hb1.mono (by simp))
    have HB := Lib.hid hb
    clear hb hb1 hC
    rw [shown_sum, e0]
    clear kc e0
    go_wp2
    go_ret
    exact ⟨rfl, HB.out⟩

theorem eq_self_w (a : BitVec 64) : ((a.toNat : Int) == (a.toNat : Int)) = true := by simp

set_option maxHeartbeats 400000 in
theorem joins_walk (a b : BitVec 64) (n : Int) (hn : n ≤ 9223372036854775807) (w : World) :
    Calls Try.prog 6 #[.int .u64 (a.toNat : Int), .int .u64 (b.toNat : Int), .int .i64 n] w fun e w' => e = .returned (.bool true) ∧ Below w.heap.size w w' := by
  have h1 := Lib.hid (fun W => join_any a b n hn W)
  have h2 := Lib.hid (fun W => join_any b a n hn W)
  have r1 := Lib.hid (fun W => rjoin_any a b n hn W)
  have r2 := Lib.hid (fun W => rjoin_any b a n hn W)
  generalize Crc.join a b n.toNat = x at *
  generalize Crc.join b a n.toNat = y at *
  go_enter Try.func6, Try.ntmps6
  go_wp2_with fail
  refine (shown_any _).mono ?_
  rintro e w1 ⟨rfl, b1⟩
  have B1 := Lib.hid b1
  clear b1
  go_wp2_with fail
  refine (h1.out _).mono ?_
  rintro e w2 ⟨rfl, b2⟩
  have B2 := Lib.hid (B1.out.trans (b2.mono B1.out.size))
  clear b2 B1
  go_wp2_with fail
  refine (h2.out _).mono ?_
  rintro e w3 ⟨rfl, b3⟩
  have B3 := Lib.hid (B2.out.trans (b3.mono B2.out.size))
  clear b3 B2
  go_wp2_with fail
  refine (h1.out _).mono ?_
  rintro e w4 ⟨rfl, b4⟩
  have B4 := Lib.hid (B3.out.trans (b4.mono B3.out.size))
  clear b4 B3
  go_wp2_with fail
  refine (r1.out _).mono ?_
  rintro e w5 ⟨rfl, rfl⟩
  go_wp2_with fail
  refine (r2.out _).mono ?_
  rintro e w6 ⟨rfl, rfl⟩
  go_wp2
  go_ret
  exact ⟨ret_bool (by simp), B4.out⟩
end Go.Proofs.Ytofhdehigfdmkaa
