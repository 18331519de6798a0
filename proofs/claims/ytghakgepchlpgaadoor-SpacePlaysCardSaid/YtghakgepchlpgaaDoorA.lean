/- WALKS of package space: set, clear, Has, Used, Left, Take, Free. -/
import Derived.Test.YtghakgepchlpgaaDoorN
import Derived.Test.YtghakgepchlpgaaDoorMath
import Derived.Laws.BitsAllLaws
namespace Go.Proofs.YtghakgepchlpgaaDoor
open Go.RowKit Spc

/-- a space's cells -/
def spC (N u : Int) (ws : Nat → BitVec 64) (i : Nat) : Value := if i = 0 then .int .i64 N else if i = 1 then .int .i64 u else .int .u64 ((ws (i - 2)).toNat : Int)
def spA (N u : Int) (ws : Nat → BitVec 64) : Array Value := arr 1026 (spC N u ws)
theorem spA_0 (N u : Int) (ws : Nat → BitVec 64) : (spA N u ws)[0]? = some (.int .i64 N) := arr_get _ _ _ (by omega)
theorem spA_1 (N u : Int) (ws : Nat → BitVec 64) : (spA N u ws)[1]? = some (.int .i64 u) := arr_get _ _ _ (by omega)
theorem spA_w (N u : Int) (ws : Nat → BitVec 64) (i : Nat) (h : i < 1024) : (spA N u ws)[2 + i]? = some (.int .u64 ((ws i).toNat : Int)) := by
  rw [spA, arr_get _ _ _ (by omega), spC, if_neg (by omega), if_neg (by omega), show 2 + i - 2 = i by omega]
theorem spA_used (N u v : Int) (ws : Nat → BitVec 64) : (spA N u ws).setIfInBounds 1 (.int .i64 v) = spA N v ws := by
  refine arr_put _ _ _ _ _ rfl fun i hi hne => ?_
  unfold spC
  by_cases e : i = 0
  · rw [if_pos e, if_pos e]
  · rw [if_neg e, if_neg e, if_neg hne, if_neg hne]
theorem spA_put (N u : Int) (ws : Nat → BitVec 64) (i : Nat) (x : BitVec 64) (v : Value) (hv : v = .int .u64 (x.toNat : Int)) : (spA N u ws).setIfInBounds (2 + i) v = spA N u (updW ws i x) := by
  subst hv
  refine arr_put _ _ _ _ _ ?_ fun k hk hne => ?_
  · rw [spC, if_neg (by omega), if_neg (by omega), show 2 + i - 2 = i by omega, updW, if_pos rfl]
  · unfold spC
    by_cases e : k = 0
    · rw [if_pos e, if_pos e]
    · by_cases e1 : k = 1
      · rw [if_neg e, if_neg e, if_pos e1, if_pos e1]
      · rw [if_neg e, if_neg e, if_neg e1, if_neg e1, updW, if_neg (by omega)]
/-- block g is the space of N blocks in which just those are used that f tells -/
def Sp (w : World) (g N : Nat) (f : Nat → Bool) : Prop :=
  ∃ ws, Blk w g 62 (spA (N : Int) (cnt f N : Int) ws) ∧ (∀ n, n < 65536 → bit ws n = f n) ∧ (∀ n, N ≤ n → f n = false) ∧ 16 ≤ N ∧ N ≤ 65536
theorem Sp.kept {S : Nat → Prop} {w w' : World} {g N : Nat} {f : Nat → Bool} (h : Sp w g N f) (hk : Kept S w w') (hg : ¬ S g) : Sp w' g N f := by
  obtain ⟨ws, h1, h2⟩ := h
  exact ⟨ws, h1.kept hk hg, h2⟩
theorem Sp.lt {w : World} {g N : Nat} {f : Nat → Bool} (h : Sp w g N f) : g < w.heap.size := by obtain ⟨ws, h1, _⟩ := h; exact h1.lt
theorem Sp.below {w w' : World} {g N : Nat} {f : Nat → Bool} (h : Sp w g N f) (hb : Below w.heap.size w w') : Sp w' g N f := h.kept (S := fun _ => False) (Kept.of_below hb) (fun e => e)
theorem Sp.alloc {w : World} {g N : Nat} {f : Nat → Bool} (h : Sp w g N f) (o : Obj) : Sp (w.alloc o) g N f := h.kept (S := fun _ => False) ((Kept.refl _ w).alloc o) (fun e => e)
theorem Sp.bounds {w : World} {g N : Nat} {f : Nat → Bool} (h : Sp w g N f) : 16 ≤ N ∧ N ≤ 65536 := by obtain ⟨ws, _, _, _, h4⟩ := h; exact h4
theorem Sp.none {w : World} {g N : Nat} {f : Nat → Bool} (h : Sp w g N f) : ∀ n, N ≤ n → f n = false := by obtain ⟨ws, _, _, h3, _⟩ := h; exact h3
theorem shl_word (k : Nat) (hk : k < 64) : IntKind.u64.wrap (2 ^ k) = ((1#64 <<< k).toNat : Int) := by
  rw [IntKind.wrap_u64, BitVec.toNat_shiftLeft, Nat.shiftLeft_eq]
  have h : 2 ^ k < 2 ^ 64 := Nat.pow_lt_pow_right (by omega) hk
  have e : ((2 : Int) ^ k) = ((2 ^ k : Nat) : Int) := by simp
  rw [e]
  simp only [BitVec.toNat_ofNat]
  omega
theorem w_or (a b : BitVec 64) : bits .or .u64 (a.toNat : Int) (b.toNat : Int) = ((a ||| b).toNat : Int) := by
  rw [u64_or_nat _ _ a.isLt b.isLt, BitVec.toNat_or]
theorem w_andNot (a b : BitVec 64) : bits .andNot .u64 (a.toNat : Int) (b.toNat : Int) = ((a &&& ~~~ b).toNat : Int) := by
  rw [u64_andNot_nat _ _ a.isLt b.isLt, BitVec.toNat_and, BitVec.toNat_not]
theorem w_bit1 (s : BitVec 64) (k : Nat) : (bits .and .u64 ((s.toNat : Int) / 2 ^ k) 1 == 1) = s.getLsbD k := by
  have e : (s.toNat : Int) / 2 ^ k = ((s.toNat / 2 ^ k : Nat) : Int) := by simp
  have hs := s.isLt
  have hq : s.toNat / 2 ^ k ≤ s.toNat := Nat.div_le_self _ _
  have h := u64_and_nat (s.toNat / 2 ^ k) 1 (Nat.lt_of_le_of_lt hq hs) (by decide)
  rw [show ((1 : Nat) : Int) = 1 from rfl] at h
  rw [e, h, nat_mask1, BitVec.getLsbD, Nat.testBit_eq_decide_div_mod_eq]
  have h2 : s.toNat / 2 ^ k % 2 = 0 ∨ s.toNat / 2 ^ k % 2 = 1 := by omega
  rcases h2 with h2 | h2 <;> rw [h2] <;> rfl
theorem ret_int {k : IntKind} {a b : Int} (h : a = b) : Ending.returned (.int k a) = .returned (.int k b) := by rw [h]
theorem ret_bool {a b : Bool} (h : a = b) : Ending.returned (.bool a) = .returned (.bool b) := by rw [h]
theorem w_set (a : BitVec 64) (k : Nat) (hk : k < 64) : Value.int .u64 (bits .or .u64 (a.toNat : Int) (IntKind.u64.wrap (2 ^ k))) = .int .u64 ((a ||| 1#64 <<< k).toNat : Int) := by
  rw [shl_word k hk, w_or]
theorem w_clear (a : BitVec 64) (k : Nat) (hk : k < 64) : Value.int .u64 (bits .andNot .u64 (a.toNat : Int) (IntKind.u64.wrap (2 ^ k))) = .int .u64 ((a &&& ~~~ (1#64 <<< k)).toNat : Int) := by
  rw [shl_word k hk, w_andNot]
def spP (g : Nat) : Value := .pointer (some ⟨g, 0, none⟩)

theorem kept2 (w : World) (g i j : Nat) (u v : Value) : Kept (fun b => b = g) w ((w.setCell ⟨g, i, none⟩ u).setCell ⟨g, j, none⟩ v).drew :=
  (((Kept.refl (fun b => b = g) w).setCell (p := ⟨g, i, none⟩) rfl u).setCell (p := ⟨g, j, none⟩) rfl v).drew
theorem set_any (g N n : Nat) (f : Nat → Bool) (w : World) (h : Sp w g N f) (hn : n < N) (hf : f n = false) :
    Calls Tryd.prog 27 #[.pointer (some ⟨g, 0, none⟩), .int .i64 (n : Int)] w fun e w' => e = .returned (.tuple #[]) ∧ Sp w' g N (upd f n true) ∧ Kept (fun b => b = g) w w' := by
  obtain ⟨ws, h1, h2, h3, h4⟩ := h
  have c1 : w.cell? ⟨g, 1, none⟩ = some (.int .i64 (cnt f N : Int)) := by rw [h1.cell, spA_1]
  have ci : w.cell? ⟨g, 2 + n / 64, none⟩ = some (.int .u64 ((ws (n / 64)).toNat : Int)) := by rw [h1.cell, spA_w _ _ _ _ (by omega)]
  have f1 := h1.free 1
  have fi := h1.free (2 + n / 64)
  have hlt : n / 64 < 1024 := by omega
  have hcn := cnt_le f N
  have H1 := Lib.hid (And.intro h1 h2)
  clear h1 h2
  go_enter Tryd.func27, Tryd.ntmps27
  go_wp2_with fail
  go_region
  go_wp2_with fail
  go_end0
  refine ⟨rfl, ⟨updW ws (n / 64) (ws (n / 64) ||| 1#64 <<< (n % 64)), ?_, ?_, ?_, h4⟩, kept2 w g _ _ _ _⟩
  rotate_left
  · intro k hk
    rw [bit_set]
    unfold upd
    split
    · rfl
    · exact H1.out.2 k hk
  · intro k hk
    rw [upd_other _ _ (by omega)]
    exact h3 k hk
  · have b1 := H1.out.1.put (2 + n / 64) (.int .u64 (bits .or .u64 ((ws (n / 64)).toNat : Int) (IntKind.u64.wrap (2 ^ (n % 64)))))
    rw [spA_put _ _ _ _ _ _ (w_set _ _ (Nat.mod_lt _ (by decide)))] at b1
    have b2 := b1.put 1 (.int .i64 ((cnt (upd f n true) N : Nat) : Int))
    rw [spA_used] at b2
    have e : ((cnt (upd f n true) N : Nat) : Int) = (cnt f N : Int) + 1 := by rw [cnt_set f n hf N hn]; rfl
    rw [e] at b2 ⊢
    exact b2
theorem clear_any (g N n : Nat) (f : Nat → Bool) (w : World) (h : Sp w g N f) (hn : n < N) (hf : f n = true) :
    Calls Tryd.prog 29 #[.pointer (some ⟨g, 0, none⟩), .int .i64 (n : Int)] w fun e w' => e = .returned (.tuple #[]) ∧ Sp w' g N (upd f n false) ∧ Kept (fun b => b = g) w w' := by
  obtain ⟨ws, h1, h2, h3, h4⟩ := h
  have c1 : w.cell? ⟨g, 1, none⟩ = some (.int .i64 (cnt f N : Int)) := by rw [h1.cell, spA_1]
  have ci : w.cell? ⟨g, 2 + n / 64, none⟩ = some (.int .u64 ((ws (n / 64)).toNat : Int)) := by rw [h1.cell, spA_w _ _ _ _ (by omega)]
  have f1 := h1.free 1
  have fi := h1.free (2 + n / 64)
  have hlt : n / 64 < 1024 := by omega
  have hcn := cnt_le f N
  have H1 := Lib.hid (And.intro h1 h2)
  clear h1 h2
  go_enter Tryd.func29, Tryd.ntmps29
  go_wp2_with fail
  go_region
  go_wp2_with fail
  go_end0
  refine ⟨rfl, ⟨updW ws (n / 64) (ws (n / 64) &&& ~~~ (1#64 <<< (n % 64))), ?_, ?_, ?_, h4⟩, kept2 w g _ _ _ _⟩
  rotate_left
  · intro k hk
    rw [bit_clear]
    unfold upd
    split
    · rfl
    · exact H1.out.2 k hk
  · intro k hk
    rw [upd_other _ _ (by omega)]
    exact h3 k hk
  · have b1 := H1.out.1.put (2 + n / 64) (.int .u64 (bits .andNot .u64 ((ws (n / 64)).toNat : Int) (IntKind.u64.wrap (2 ^ (n % 64)))))
    rw [spA_put _ _ _ _ _ _ (w_clear _ _ (Nat.mod_lt _ (by decide)))] at b1
    have b2 := b1.put 1 (.int .i64 ((cnt (upd f n false) N : Nat) : Int))
    rw [spA_used] at b2
    have e : ((cnt (upd f n false) N : Nat) : Int) = (cnt f N : Int) - 1 := by have := cnt_clear f n hf N hn; omega
    rw [e] at b2 ⊢
    exact b2

/-- what Has tells -/
def hasB (f : Nat → Bool) (n : Int) : Bool := decide (0 ≤ n) && f n.toNat
theorem hasB_nat (f : Nat → Bool) (n : Nat) : hasB f (n : Int) = f n := by simp [hasB]
theorem hasB_neg (f : Nat → Bool) (n : Int) (h : n < 0) : hasB f n = false := by
  have : ¬ 0 ≤ n := by omega
  simp [hasB, this]
theorem has_any (g N : Nat) (n : Int) (f : Nat → Bool) (w : World) (h : Sp w g N f) :
    Calls Tryd.prog 11 #[.pointer (some ⟨g, 0, none⟩), .int .i64 n] w fun e w' => e = .returned (.bool (hasB f n)) ∧ w = w' := by
  by_cases hneg : n < 0
  · rw [hasB_neg f n hneg]
    have hd : decide (0 ≤ n) = false := by simp; omega
    go_enter Tryd.func11, Tryd.ntmps11
    go_wp2_with fail
    go_ret
    exact ⟨rfl, rfl⟩
  obtain ⟨k, rfl⟩ : ∃ k : Nat, n = (k : Int) := ⟨n.toNat, by omega⟩
  rw [hasB_nat]
  obtain ⟨ws, h1, h2, h3, h4⟩ := h
  have c0 : w.cell? ⟨g, 0, none⟩ = some (.int .i64 (N : Int)) := by rw [h1.cell, spA_0]
  by_cases hk : k < N
  · have ci : w.cell? ⟨g, 2 + k / 64, none⟩ = some (.int .u64 ((ws (k / 64)).toNat : Int)) := by rw [h1.cell, spA_w _ _ _ _ (by omega)]
    have hlt : k / 64 < 1024 := by omega
    have hb := Lib.hid ((w_bit1 (ws (k / 64)) (k % 64)).trans (h2 k (by omega)))
    clear h1 h2
    go_enter Tryd.func11, Tryd.ntmps11
    go_wp2_with fail
    go_ret
    exact ⟨ret_bool hb.out, rfl⟩
  · rw [h3 k (by omega)]
    clear h1 h2 h3
    go_enter Tryd.func11, Tryd.ntmps11
    go_wp2_with fail
    go_ret
    exact ⟨rfl, rfl⟩
theorem used_any (g N : Nat) (f : Nat → Bool) (w : World) (h : Sp w g N f) :
    Calls Tryd.prog 13 #[.pointer (some ⟨g, 0, none⟩)] w fun e w' => e = .returned (.int .i64 (cnt f N : Int)) ∧ w = w' := by
  obtain ⟨ws, h1, h2, h3, h4⟩ := h
  have c1 : w.cell? ⟨g, 1, none⟩ = some (.int .i64 (cnt f N : Int)) := by rw [h1.cell, spA_1]
  clear h1 h2 h3
  go_enter Tryd.func13, Tryd.ntmps13
  go_wp2_with fail
  go_ret
  exact ⟨rfl, rfl⟩
theorem left_any (g N : Nat) (f : Nat → Bool) (w : World) (h : Sp w g N f) :
    Calls Tryd.prog 14 #[.pointer (some ⟨g, 0, none⟩)] w fun e w' => e = .returned (.int .i64 ((N : Int) - (cnt f N : Int))) ∧ Below w.heap.size w w' := by
  obtain ⟨ws, h1, h2, h3, h4⟩ := h
  have c0 : w.cell? ⟨g, 0, none⟩ = some (.int .i64 (N : Int)) := by rw [h1.cell, spA_0]
  have c1 : w.cell? ⟨g, 1, none⟩ = some (.int .i64 (cnt f N : Int)) := by rw [h1.cell, spA_1]
  have hcn := cnt_le f N
  clear h1 h2 h3
  go_enter Tryd.func14, Tryd.ntmps14
  go_wp2_with fail
  go_region
  go_wp2_with fail
  go_ret
  exact ⟨rfl, (Below.refl _ _).drew⟩
/-- Take's number and what is used behind it -/
def takeE (f : Nat → Bool) (N : Nat) (n : Int) : Int := if n < 0 ∨ (N : Int) ≤ n then 91 else if f n.toNat then 94 else 0
def takeF (f : Nat → Bool) (N : Nat) (n : Int) : Nat → Bool := if n < 0 ∨ (N : Int) ≤ n then f else upd f n.toNat true
theorem upd_id (f : Nat → Bool) (n : Nat) (b : Bool) (h : f n = b) : upd f n b = f := by
  funext k; unfold upd; split
  · rename_i e; rw [e, h]
  · rfl
theorem take_any (g N : Nat) (n : Int) (f : Nat → Bool) (w : World) (h : Sp w g N f) :
    Calls Tryd.prog 20 #[.pointer (some ⟨g, 0, none⟩), .int .i64 n] w fun e w' => e = .returned (.int .i64 (takeE f N n)) ∧ Sp w' g N (takeF f N n) ∧ Kept (fun b => b = g) w w' := by
  have c0 : w.cell? ⟨g, 0, none⟩ = some (.int .i64 (N : Int)) := by obtain ⟨ws, h1, _⟩ := h; rw [h1.cell, spA_0]
  have H := Lib.hid h
  by_cases hneg : n < 0
  · have e1 := Lib.hid (show takeE f N n = 91 by rw [takeE, if_pos (.inl hneg)])
    have e2 := Lib.hid (show takeF f N n = f by rw [takeF, if_pos (.inl hneg)])
    clear h
    go_enter Tryd.func20, Tryd.ntmps20
    go_wp2_with fail
    go_ret
    exact ⟨ret_int e1.out.symm, by rw [e2.out]; exact H.out, Kept.refl _ _⟩
  have hd : decide (n < 0) = false := by simpa using hneg
  by_cases hN : (N : Int) ≤ n
  · have e1 := Lib.hid (show takeE f N n = 91 by rw [takeE, if_pos (.inr hN)])
    have e2 := Lib.hid (show takeF f N n = f by rw [takeF, if_pos (.inr hN)])
    have hd2 : decide ((N : Int) ≤ n) = true := by simpa using hN
    clear h
    go_enter Tryd.func20, Tryd.ntmps20
    go_wp2_with fail
    go_ret
    exact ⟨ret_int e1.out.symm, by rw [e2.out]; exact H.out, Kept.refl _ _⟩
  obtain ⟨k, rfl⟩ : ∃ k : Nat, n = (k : Int) := ⟨n.toNat, by omega⟩
  have hk : k < N := by omega
  have hh := Lib.hid (has_any g N (k : Int) f w h)
  by_cases hf : f k = true
  · have e1 := Lib.hid (show takeE f N (k : Int) = 94 by rw [takeE, if_neg (by omega), if_pos (by simpa using hf)])
    have e2 := Lib.hid (show takeF f N (k : Int) = f by rw [takeF, if_neg (by omega)]; exact upd_id _ _ _ hf)
    have hf' := Lib.hid hf
    clear h hf
    go_enter Tryd.func20, Tryd.ntmps20
    go_wp2_with (go_at_call 11; refine hh.out.mono ?_; rintro e w1 ⟨rfl, rfl⟩; have hq := (hasB_nat f k).trans hf'.out; rw [hq]; clear hq)
    go_ret
    exact ⟨ret_int e1.out.symm, by rw [e2.out]; exact H.out, Kept.refl _ _⟩
  · have hf0 : f k = false := by simpa using hf
    have e1 := Lib.hid (show takeE f N (k : Int) = 0 by rw [takeE, if_neg (by omega), if_neg (by simpa using hf)])
    have e2 := Lib.hid (show takeF f N (k : Int) = upd f k true by rw [takeF, if_neg (by omega)]; rfl)
    have hs := Lib.hid (set_any g N k f w h hk hf0)
    have hf' := Lib.hid hf0
    clear h hf hf0
    go_enter Tryd.func20, Tryd.ntmps20
    go_wp2_with (first
      | (go_at_call 11; refine hh.out.mono ?_; rintro e w1 ⟨rfl, rfl⟩; have hq := (hasB_nat f k).trans hf'.out; rw [hq]; clear hq)
      | (go_at_call 27; refine hs.out.mono ?_; rintro e w1 ⟨rfl, s1, k1⟩; have S1 := Lib.hid s1; have K1 := Lib.hid k1; clear s1 k1))
    go_ret
    exact ⟨ret_int e1.out.symm, by rw [e2.out]; exact S1.out, K1.out⟩
/-- Free's number and what is used behind it -/
def freeE (f : Nat → Bool) (N : Nat) (n : Int) : Int := if n < 0 ∨ (N : Int) ≤ n then 91 else if f n.toNat then 0 else 92
def freeF (f : Nat → Bool) (N : Nat) (n : Int) : Nat → Bool := if n < 0 ∨ (N : Int) ≤ n then f else upd f n.toNat false
theorem free_any (g N : Nat) (n : Int) (f : Nat → Bool) (w : World) (h : Sp w g N f) :
    Calls Tryd.prog 12 #[.pointer (some ⟨g, 0, none⟩), .int .i64 n] w fun e w' => e = .returned (.int .i64 (freeE f N n)) ∧ Sp w' g N (freeF f N n) ∧ Kept (fun b => b = g) w w' := by
  have c0 : w.cell? ⟨g, 0, none⟩ = some (.int .i64 (N : Int)) := by obtain ⟨ws, h1, _⟩ := h; rw [h1.cell, spA_0]
  have H := Lib.hid h
  by_cases hneg : n < 0
  · have e1 := Lib.hid (show freeE f N n = 91 by rw [freeE, if_pos (.inl hneg)])
    have e2 := Lib.hid (show freeF f N n = f by rw [freeF, if_pos (.inl hneg)])
    clear h
    go_enter Tryd.func12, Tryd.ntmps12
    go_wp2_with fail
    go_ret
    exact ⟨ret_int e1.out.symm, by rw [e2.out]; exact H.out, Kept.refl _ _⟩
  have hd : decide (n < 0) = false := by simpa using hneg
  by_cases hN : (N : Int) ≤ n
  · have e1 := Lib.hid (show freeE f N n = 91 by rw [freeE, if_pos (.inr hN)])
    have e2 := Lib.hid (show freeF f N n = f by rw [freeF, if_pos (.inr hN)])
    have hd2 : decide ((N : Int) ≤ n) = true := by simpa using hN
    clear h
    go_enter Tryd.func12, Tryd.ntmps12
    go_wp2_with fail
    go_ret
    exact ⟨ret_int e1.out.symm, by rw [e2.out]; exact H.out, Kept.refl _ _⟩
  obtain ⟨k, rfl⟩ : ∃ k : Nat, n = (k : Int) := ⟨n.toNat, by omega⟩
  have hk : k < N := by omega
  have hh := Lib.hid (has_any g N (k : Int) f w h)
  by_cases hf : f k = false
  · have e1 := Lib.hid (show freeE f N (k : Int) = 92 by rw [freeE, if_neg (by omega), if_neg (by simpa using hf)])
    have e2 := Lib.hid (show freeF f N (k : Int) = f by rw [freeF, if_neg (by omega)]; exact upd_id _ _ _ hf)
    have hf' := Lib.hid hf
    clear h hf
    go_enter Tryd.func12, Tryd.ntmps12
    go_wp2_with (go_at_call 11; refine hh.out.mono ?_; rintro e w1 ⟨rfl, rfl⟩; have hq := (hasB_nat f k).trans hf'.out; rw [hq]; clear hq)
    go_ret
    exact ⟨ret_int e1.out.symm, by rw [e2.out]; exact H.out, Kept.refl _ _⟩
  · have hf0 : f k = true := by simpa using hf
    have e1 := Lib.hid (show freeE f N (k : Int) = 0 by rw [freeE, if_neg (by omega), if_pos (by simpa using hf)])
    have e2 := Lib.hid (show freeF f N (k : Int) = upd f k false by rw [freeF, if_neg (by omega)]; rfl)
    have hs := Lib.hid (clear_any g N k f w h hk hf0)
    have hf' := Lib.hid hf0
    clear h hf hf0
    go_enter Tryd.func12, Tryd.ntmps12
    go_wp2_with (first
      | (go_at_call 11; refine hh.out.mono ?_; rintro e w1 ⟨rfl, rfl⟩; have hq := (hasB_nat f k).trans hf'.out; rw [hq]; clear hq)
      | (go_at_call 29; refine hs.out.mono ?_; rintro e w1 ⟨rfl, s1, k1⟩; have S1 := Lib.hid s1; have K1 := Lib.hid k1; clear s1 k1))
    go_ret
    exact ⟨ret_int e1.out.symm, by rw [e2.out]; exact S1.out, K1.out⟩
end Go.Proofs.YtghakgepchlpgaaDoor
