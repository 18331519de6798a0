/- COPY into a block of bytes; lent and back of layer 2's statements. -/
import Derived.Test.YtofhdehigfdmkaaH
import Derived.Laws.CopyOwn
import Derived.BigQuiet
import Derived.Deep.QuietTactic
namespace Go.Proofs.Ytofhdehigfdmkaa
open Go.RowKit

theorem size5 : (Try.prog.info? 5).map (·.size) = some 1 := by kernel_rfl
/-- bytes laid over cells from a place on -/
def overF (f : Nat → Value) (off : Nat) (l : List UInt8) (i : Nat) : Value := if off ≤ i ∧ i < off + l.length then .int .u8 ((l.getD (i - off) 0).toNat : Int) else f i
theorem over_arr (N : Nat) (f : Nat → Value) (off : Nat) (l : List UInt8) (h : off + l.length ≤ N) :
    ((arr N f).toList.take off ++ l.map byteV ++ (arr N f).toList.drop (off + (l.map byteV).length)).toArray = arr N (overF f off l) := by
  apply arr_of
  · simp [arr_size]; omega
  · intro i hi
    simp only [List.getElem?_toArray, List.length_map, List.append_assoc]
    by_cases h1 : i < off
    · rw [List.getElem?_append_left (by simp [arr_size]; omega), List.getElem?_take, if_pos h1, Array.getElem?_toList, arr_get _ _ _ hi, overF, if_neg (by omega)]
    · rw [List.getElem?_append_right (by simp [arr_size]; omega)]
      simp only [List.length_take, Array.length_toList, arr_size, Nat.min_eq_left (show off ≤ N by omega)]
      by_cases h2 : i < off + l.length
      · rw [List.getElem?_append_left (by rw [List.length_map]; omega), bytes_get l (i - off) (by omega), overF, if_pos (by omega)]
      · rw [List.getElem?_append_right (by rw [List.length_map]; omega), List.getElem?_drop, Array.getElem?_toList]
        simp only [List.length_map]
        rw [show off + l.length + (i - off - l.length) = i by omega, arr_get _ _ _ hi, overF, if_neg (by omega)]

theorem wpList_copy_bytes {w : World} {ops : Array Oper} {rest : List Oper} {o : Oper} {a : Act} {Q : Exit → Act → World → Prop} (hgd : o.guard = none) (d s : Operand)
    (ho : o.op = .call { callee := .builtin .copy, args := #[d, s], argTypes := #[22, 22] })
    (g off dLen dCap N : Nat) (f : Nat → Value) (A : Option Addr) (c B : Nat) (l : List UInt8) (hd : a.eval d = .slice (some ⟨g, off, none⟩) dLen dCap) (hs : a.eval s = .slice A l.length c)
    (hg : Blk w g 5 (arr N f)) (hr : Rd w B A l) (hl : l.length ≤ dLen) (hfit : off + l.length ≤ N)
    (h : ∀ w', Blk w' g 5 (arr N (overF f off l)) → w.grownBy w' (some g) → wpList Try.prog ops Q rest (a.put o.dst (goInt l.length)) w') : wpList Try.prog ops Q (o :: rest) a w := by
  have hmin : Nat.min l.length dLen = l.length := Nat.min_eq_left hl
  refine wpList_plain hgd fun K hK => ?_
  rcases hr with rfl | ⟨b, so, rfl, hb, hc⟩
  · have hrun := run_copy_none (P := Try.prog) w 22 22 o.type 5 (some ⟨g, off, none⟩) A dLen dCap 0 c Try.underlying22 size5 (by simp)
    unfold Oper.wp
    simp only [List.length_nil] at hs
    simp [execOp, ho, resolve, invoke, builtin, hd, hs, hrun, Result.andThen]
    refine hK _ _ (h w ?_ ⟨rfl, rfl, rfl, Nat.le_refl _, fun _ _ _ => rfl⟩)
    rw [arr_congr N (overF f off []) f (fun i _ => by rw [overF, if_neg (by simp only [List.length_nil]; omega)])]
    exact hg
  · have hrun := run_copy_row (P := Try.prog) w 22 22 o.type 5 g off dLen dCap ⟨b, so, none⟩ l.length c (arr N f) 5 (l.map byteV) Try.underlying22 size5 hg (by simpa using hmin.symm)
      (fun j v hj => by
        have hj' : j < l.length := by
          have := (List.getElem?_eq_some_iff.1 hj).1
          simpa using this
        rw [Go.WideShapes.add_plain, hc j hj', ← bytes_get l j hj', hj]) (by simpa [arr_size] using hfit) (bytes_one l)
    rw [over_arr N f off l hfit] at hrun
    unfold Oper.wp
    simp [execOp, ho, resolve, invoke, builtin, hd, hs, hrun, Result.andThen]
    exact hK _ _ (h _ (Blk.row hg _) ⟨rfl, rfl, rfl, by simp [World.setRow], fun k _ hk => setRow_other w g k _ (fun e => hk (by rw [e]))⟩)

/-- what lent hands on: the bytes, and marks behind them -/
def lentF (l : List UInt8) (i : Nat) : UInt8 := if i < l.length then l.getD i 0 else 0xa7
def lentTo (l : List UInt8) (k i : Nat) : Value := if i < l.length then .int .u8 ((l.getD i 0).toNat : Int) else if i < k then .int .u8 167 else .int .u8 0
theorem lentTo_all (l : List UInt8) : arr (l.length + 40) (lentTo l (l.length + 40)) = arr (l.length + 40) (byF (lentF l)) := arr_congr _ _ _ fun i hi => by
  unfold lentTo byF lentF
  by_cases h : i < l.length
  · rw [if_pos h, if_pos h]
  · rw [if_neg h, if_neg h, if_pos hi]; rfl
theorem lentTo_zero (l : List UInt8) : arr (l.length + 40) (overF (fun _ => .int .u8 0) 0 l) = arr (l.length + 40) (lentTo l l.length) := arr_congr _ _ _ fun i _ => by
  unfold overF lentTo
  by_cases h : i < l.length
  · rw [if_pos (by omega), if_pos h]; simp
  · rw [if_neg (by omega), if_neg h, if_neg (by omega)]
theorem lentTo_put (l : List UInt8) (k : Nat) (hk : l.length ≤ k) : (arr (l.length + 40) (lentTo l k)).setIfInBounds k (.int .u8 167) = arr (l.length + 40) (lentTo l (k + 1)) := by
  refine arr_put _ k _ _ _ ?_ ?_
  · unfold lentTo; rw [if_neg (by omega), if_pos (by omega)]
  · intro i _ hne
    unfold lentTo
    by_cases h : i < l.length
    · rw [if_pos h, if_pos h]
    · rw [if_neg h, if_neg h]
      by_cases h2 : i < k
      · rw [if_pos h2, if_pos (by omega)]
      · rw [if_neg h2, if_neg (by omega)]

set_option maxHeartbeats 400000 in
theorem lent_any (A : Option Addr) (ca : Nat) (l : List UInt8) (w : World) (hA : Rd w w.heap.size A l) (hl : l.length ≤ 140737488355328) :
    Calls Try.prog 35 #[.slice A l.length ca] w fun e w' => e = .returned (.slice (some ⟨w.heap.size, 0, none⟩) (l.length + 40) (l.length + 40)) ∧ Blk w' w.heap.size 5 (arr (l.length + 40) (byF (lentF l))) ∧ Below w.heap.size w w' := by
  have hmk := make_bytes (l.length + 40) (by omega)
  rw [show ((l.length + 40 : Nat) : Int) = (l.length : Int) + 40 by omega] at hmk
  have hR := Lib.hid (hA.below ((Below.refl w.heap.size w).alloc (Nat.le_refl _) (.cells (arr (l.length + 40) fun _ => .int .u8 0) 5)) (Nat.le_refl _))
  have hb0 := Lib.hid (Blk.new w 5 (arr (l.length + 40) fun _ => .int .u8 0))
  go_enter Try.func35, Try.ntmps35
  go_wp2_with (refine wpList_copy_bytes rfl (.tmp 9) (.tmp 10) rfl w.heap.size 0 (l.length + 40) (l.length + 40) (l.length + 40) (fun _ => .int .u8 0) A ca w.heap.size l rfl rfl hb0.out hR.out (by omega) (by omega) ?_; intro w1 hb1 hg1)
  have HB := Lib.hid (show Blk w1 w.heap.size 5 (arr (l.length + 40) (lentTo l l.length)) by rw [← lentTo_zero]; exact hb1)
  have HL := Lib.hid (show Below w.heap.size w w1 from ((Below.refl w.heap.size w).alloc (Nat.le_refl _) (.cells (arr (l.length + 40) fun _ => .int .u8 0) 5)).grown hg1 (by simp) (fun k hk => by cases hk; exact Nat.le_refl _))
  clear hb1 hg1 hmk
  generalize hn : l.length = n at *
  have HN := Lib.hid hn
  clear hn
  go_loopw [4] (fun iv wr => ∃ k : Nat, n ≤ k ∧ k ≤ n + 40 ∧ iv = .int .i64 k ∧ Blk wr w.heap.size 5 (arr (n + 40) (lentTo l k)) ∧ Below w.heap.size w wr) (fun iv _ => n + 40 - (intOf iv).toNat)
  case atStart => exact ⟨n, Nat.le_refl _, by omega, rfl, HB.out, HL.out⟩
  case round =>
    obtain ⟨k, hk0, hk, rfl, hb1, hbel⟩ := hrel
    by_cases hlt : k < n + 40
    · have hc := hb1.cell k
      have hf := hb1.free k
      rw [arr_get _ _ _ hlt, lentTo, if_neg (by rw [HN.out]; omega), if_neg (by omega)] at hc
      have HK := Lib.hid (And.intro hb1 hbel)
      clear hb1 hbel
      go_wp2
      go_roundw
      case rel =>
        refine ⟨k + 1, by omega, by omega, by go_num, ?_, HK.out.2.setCell (by simp) _⟩
        have := HK.out.1.put k (.int .u8 167)
        have e := lentTo_put l k (by rw [HN.out]; omega)
        rw [HN.out] at e
        rw [e] at this
        exact this
      case measure => simp [intOf] <;> omega
    · obtain rfl : k = n + 40 := by omega
      have e := lentTo_all l
      rw [HN.out] at e
      rw [e] at hb1
      go_wp2
      go_ret
      exact ⟨by rw [HN.out]; rfl, by rw [HN.out]; exact hb1, hbel⟩

/-- what back leaves -/
def backTo (x : Nat → UInt8) (k i : Nat) : Value := if i < k then .int .u8 ((x i ^^^ 0x33).toNat : Int) else .int .u8 ((x i).toNat : Int)
theorem backTo_zero (N : Nat) (x : Nat → UInt8) : arr N (backTo x 0) = arr N (byF x) := arr_congr _ _ _ fun i _ => by rw [backTo, if_neg (by omega)]; rfl
theorem backTo_all (N : Nat) (x : Nat → UInt8) : arr N (backTo x N) = arr N (byF fun i => x i ^^^ 0x33) := arr_congr _ _ _ fun i hi => by rw [backTo, if_pos hi]; rfl
theorem backTo_put (N k : Nat) (x : Nat → UInt8) (v : Value) (hv : v = .int .u8 ((x k ^^^ 0x33).toNat : Int)) : (arr N (backTo x k)).setIfInBounds k v = arr N (backTo x (k + 1)) := by
  refine arr_put _ k _ _ _ ?_ ?_
  · rw [hv, backTo, if_pos (by omega)]
  · intro i _ hne
    unfold backTo
    by_cases h : i < k
    · rw [if_pos h, if_pos (by omega)]
    · rw [if_neg h, if_neg (by omega)]
/-- only block g, and what is new, has turned -/
theorem only_drewN {a w : World} {row : Option Nat} (h : a.grownBy w row) (n : Nat) : a.grownBy (w.drewN n) row := ⟨h.os, h.tape, h.output, h.size, h.block⟩
theorem only_put {a w : World} {g : Nat} (h : a.grownBy w (some g)) (i : Nat) (u : Value) : a.grownBy (w.setCell ⟨g, i, none⟩ u) (some g) :=
  ⟨h.os, h.tape, h.output, by simpa [World.setCell] using h.size, fun k hk hne => (Below.heap_setCell w ⟨g, i, none⟩ u k (fun e => hne (by rw [e]))).trans (h.block k hk hne)⟩
theorem only_refl (w : World) (row : Option Nat) : w.grownBy w row := ⟨rfl, rfl, rfl, Nat.le_refl _, fun _ _ _ => rfl⟩
theorem Rd.only {w w' : World} {B g : Nat} {A : Option Addr} {l : List UInt8} (h : Rd w B A l) (hg : w.grownBy w' (some g)) (hB : B ≤ g) : Rd w' B A l := by
  rcases h with h | ⟨b, off, hA, hb, hc⟩
  · exact .inl h
  · refine .inr ⟨b, off, hA, hb, fun k hk => hg.cell (hc k hk) (fun e => ?_)⟩
    have : b = g := by injection e
    omega

set_option maxHeartbeats 400000 in
theorem back_any (A : Option Addr) (ca g B n : Nat) (l : List UInt8) (w : World) (hn : l.length = n) (hA : Rd w B A l) (hB : B ≤ g) (hl : n ≤ 140737488355328) (hg : Blk w g 5 (arr (n + 40) (byF (lentF l)))) :
    Calls Try.prog 38 #[.slice (some ⟨g, 0, none⟩) (n + 40) (n + 40), .slice A n ca] w fun e w' => e = .returned (.bool true) ∧ Blk w' g 5 (arr (n + 40) (byF fun i => lentF l i ^^^ 0x33)) ∧ w.grownBy w' (some g) := by
  have HA := Lib.hid (show ∀ W : World, w.grownBy W (some g) → Rd W B A l from fun W h => hA.only h hB)
  have HG := Lib.hid hg
  have HN := Lib.hid hn
  clear hA hg hn
  go_enter Try.func38, Try.ntmps38
  go_wp2
  go_loopw [5, 6] (fun ov iv wr => ∃ k : Nat, k ≤ n + 40 ∧ iv = .int .i64 k ∧ ov = .bool true ∧ Blk wr g 5 (arr (n + 40) (backTo (lentF l) k)) ∧ w.grownBy wr (some g)) (fun _ iv _ => n + 40 - (intOf iv).toNat)
  case atStart => exact ⟨0, by omega, rfl, rfl, by rw [backTo_zero]; exact HG.out, only_refl _ _⟩
  case round =>
    obtain ⟨k, hk, rfl, rfl, hb1, hbel⟩ := hrel
    by_cases hlt : k < n + 40
    · have hc := hb1.cell k
      have hf := hb1.free k
      rw [arr_get _ _ _ hlt, backTo, if_neg (by omega)] at hc
      have HK := Lib.hid (And.intro hb1 hbel)
      clear hb1 hbel
      obtain ⟨x, hx⟩ : ∃ x, x = lentF l k := ⟨_, rfl⟩
      rw [← hx] at hc
      have HX := Lib.hid hx
      have hd : decide ((k : Int) < (n : Int) + 40) = true := by simp; omega
      clear hx
      by_cases hin : k < n
      · have hd1 : decide ((k : Int) < (n : Int)) = true := by simp; omega
        rcases HA.out _ HK.out.2 with h | ⟨b, off, hA, hb, hcb⟩
        · have := HN.out; rw [h] at this; simp at this; omega
        · have hcb' := hcb k (by rw [HN.out]; exact hin)
          have hxl : l.getD k 0 = x := by rw [HX.out, lentF, if_pos (by rw [HN.out]; exact hin)]
          rw [hxl] at hcb'
          clear hcb hxl
          subst hA
          go_wp2_with fail
          go_quiet (fail)
          go_wp2
          go_roundw
          case rel =>
            refine ⟨k + 1, by omega, by go_num, rfl, ?_, only_put (only_drewN HK.out.2 _) _ _⟩
            have := HK.out.1.put k (.int .u8 (bits .xor .u8 (x.toNat : Int) 51))
            rw [backTo_put _ k _ _ (by rw [← HX.out]; exact b_xor' x 0x33)] at this
            exact this
          case measure => simp [intOf] <;> omega
      · have hd1 : decide ((k : Int) < (n : Int)) = false := by simp; omega
        have hd2 : decide ((n : Int) ≤ (k : Int)) = true := by simp; omega
        have hd3 : decide (k < n) = false := by simp; omega
        have hd4 : decide (n ≤ k) = true := by simp; omega
        have hxl : x = 0xa7 := by rw [HX.out, lentF, if_neg (by rw [HN.out]; exact hin)]
        rw [hxl, show (((0xa7 : UInt8).toNat : Nat) : Int) = 167 from rfl] at hc
        have HX2 := Lib.hid hxl
        clear hxl
        go_wp2_with fail
        go_quiet (fail)
        go_wp2
        go_roundw
        case rel =>
          refine ⟨k + 1, by omega, by go_num, rfl, ?_, only_put (only_drewN HK.out.2 _) _ _⟩
          have := HK.out.1.put k (.int .u8 (bits .xor .u8 167 51))
          rw [backTo_put _ k _ _ (by rw [← HX.out, HX2.out]; exact b_xor' 0xa7 0x33)] at this
          exact this
        case measure => simp [intOf] <;> omega
    · obtain rfl : k = n + 40 := by omega
      rw [backTo_all] at hb1
      have HK := Lib.hid (And.intro hb1 hbel)
      clear hb1 hbel
      go_wp2
      go_ret
      exact ⟨rfl, HK.out⟩
end Go.Proofs.Ytofhdehigfdmkaa
