/- WALKS of the document of layer 9: New, Take, Free, Has, Used, Left, Alloc. -/
import Derived.Test.YtghakgepchlpgaaDoorQ
namespace Go.Proofs.YtghakgepchlpgaaDoor
open Go.RowKit Spc

/-- the document's space in block gr, its row in block gl -/
def RSp (w : World) (gr gl N : Nat) (f : Nat → Bool) : Prop :=
  ∃ (cap : Nat) (cs : Array Value), (Blk w gr 71 #[.slice (some ⟨gl, 0, none⟩) N cap] ∧ Blk w gl 4 cs) ∧ N ≤ cap ∧ (∀ i, i < N → cs[i]? = some (.bool (f i))) ∧ (∀ n, N ≤ n → f n = false) ∧ 16 ≤ N ∧ N ≤ 65536 ∧ gl ≠ gr
theorem RSp.kept {S : Nat → Prop} {w w' : World} {gr gl N : Nat} {f : Nat → Bool} (h : RSp w gr gl N f) (hk : Kept S w w') (h1 : ¬ S gr) (h2 : ¬ S gl) : RSp w' gr gl N f := by
  obtain ⟨cap, cs, ⟨a, b⟩, r⟩ := h
  exact ⟨cap, cs, ⟨a.kept hk h1, b.kept hk h2⟩, r⟩
theorem RSp.below {w w' : World} {gr gl N : Nat} {f : Nat → Bool} (h : RSp w gr gl N f) (hb : Below w.heap.size w w') : RSp w' gr gl N f := h.kept (S := fun _ => False) (Kept.of_below hb) (fun e => e) (fun e => e)
theorem RSp.lt {w : World} {gr gl N : Nat} {f : Nat → Bool} (h : RSp w gr gl N f) : gr < w.heap.size ∧ gl < w.heap.size := by
  obtain ⟨cap, cs, ⟨a, b⟩, r⟩ := h
  exact ⟨a.lt, b.lt⟩
theorem RSp.bounds {w : World} {gr gl N : Nat} {f : Nat → Bool} (h : RSp w gr gl N f) : 16 ≤ N ∧ N ≤ 65536 := by
  obtain ⟨cap, cs, ⟨a, b⟩, _, _, _, r1, r2, _⟩ := h
  exact ⟨r1, r2⟩
theorem RSp.void {w : World} {gr gl N : Nat} {f : Nat → Bool} (h : RSp w gr gl N f) : ∀ n, N ≤ n → f n = false := by
  obtain ⟨cap, cs, ⟨a, b⟩, _, _, r, _⟩ := h
  exact r
theorem RSp.ne {w : World} {gr gl N : Nat} {f : Nat → Bool} (h : RSp w gr gl N f) : gl ≠ gr := by
  obtain ⟨cap, cs, ⟨a, b⟩, _, _, _, _, _, r⟩ := h
  exact r
theorem RSp.cells {w : World} {gr gl N : Nat} {f : Nat → Bool} (h : RSp w gr gl N f) : ∃ cap, w.cell? ⟨gr, 0, none⟩ = some (.slice (some ⟨gl, 0, none⟩) N cap) ∧ N ≤ cap ∧
    (∀ k, k < N → w.cell? ⟨gl, k, none⟩ = some (.bool (f k)) ∧ w.frozen? ⟨gl, k, none⟩ = false) := by
  obtain ⟨cap, cs, ⟨a, b⟩, r1, r2, _⟩ := h
  exact ⟨cap, by rw [a.cell]; rfl, r1, fun k hk => ⟨by rw [b.cell, r2 k hk], b.free k⟩⟩
theorem RSp.put {w : World} {gr gl N : Nat} {f : Nat → Bool} (h : RSp w gr gl N f) (k : Nat) (x : Bool) (hk : k < N) : RSp (w.setCell ⟨gl, k, none⟩ (.bool x)) gr gl N (upd f k x) := by
  obtain ⟨cap, cs, ⟨a, b⟩, r1, r2, r3, r4, r5, r6⟩ := h
  refine ⟨cap, cs.setIfInBounds k (.bool x), ⟨a.far (p := ⟨gl, k, none⟩) (fun e => r6 e.symm) _, b.put k _⟩, r1, fun i hi => ?_, fun n hn => ?_, r4, r5, r6⟩
  · rw [Array.getElem?_setIfInBounds]
    by_cases e : k = i
    · subst e
      have hs : k < cs.size := (Array.getElem?_eq_some_iff.1 (r2 k hi)).1
      rw [if_pos rfl, if_pos hs, upd_same]
    · rw [if_neg e, r2 i hi, upd_other _ _ (fun h => e h.symm)]
  · rw [upd_other _ _ (by omega), r3 n hn]
theorem rtake_any (gr gl N : Nat) (n : Int) (f : Nat → Bool) (w : World) (h : RSp w gr gl N f) :
    Calls Tryd.prog 32 #[.pointer (some ⟨gr, 0, none⟩), .int .i64 n] w fun e w' => e = .returned (.int .i64 (takeE f N n)) ∧ RSp w' gr gl N (takeF f N n) ∧ Kept (fun b => b = gl) w w' := by
  obtain ⟨cap, c0, hcap, hc⟩ := h.cells
  have H := Lib.hid h
  have hNb := h.bounds.2
  by_cases hneg : n < 0
  · have e1 := Lib.hid (show takeE f N n = 91 by rw [takeE, if_pos (.inl hneg)])
    have e2 := Lib.hid (show takeF f N n = f by rw [takeF, if_pos (.inl hneg)])
    clear h hc
    go_enter Tryd.func32, Tryd.ntmps32
    go_wp2_with fail
    go_ret
    exact ⟨ret_int e1.out.symm, by rw [e2.out]; exact H.out, Kept.refl _ _⟩
  have hd : decide (n < 0) = false := by simpa using hneg
  by_cases hN : (N : Int) ≤ n
  · have e1 := Lib.hid (show takeE f N n = 91 by rw [takeE, if_pos (.inr hN)])
    have e2 := Lib.hid (show takeF f N n = f by rw [takeF, if_pos (.inr hN)])
    have hd2 : decide ((N : Int) ≤ n) = true := by simpa using hN
    clear h hc
    go_enter Tryd.func32, Tryd.ntmps32
    go_wp2_with fail
    go_ret
    exact ⟨ret_int e1.out.symm, by rw [e2.out]; exact H.out, Kept.refl _ _⟩
  obtain ⟨k, rfl⟩ : ∃ k : Nat, n = (k : Int) := ⟨n.toNat, by omega⟩
  have hk : k < N := by omega
  obtain ⟨ck, fk⟩ := hc k hk
  by_cases hf : f k = true
  · have e1 := Lib.hid (show takeE f N (k : Int) = 94 by rw [takeE, if_neg (by omega), if_pos (by simpa using hf)])
    have e2 := Lib.hid (show takeF f N (k : Int) = f by rw [takeF, if_neg (by omega)]; exact upd_id _ _ _ hf)
    rw [hf] at ck
    clear h hf hc
    go_enter Tryd.func32, Tryd.ntmps32
    go_wp2_with fail
    go_ret
    exact ⟨ret_int e1.out.symm, by rw [e2.out]; exact H.out, Kept.refl _ _⟩
  · have hf0 : f k = false := by simpa using hf
    have e1 := Lib.hid (show takeE f N (k : Int) = 0 by rw [takeE, if_neg (by omega), if_neg (by simpa using hf)])
    have e2 := Lib.hid (show takeF f N (k : Int) = upd f k true by rw [takeF, if_neg (by omega)]; rfl)
    rw [hf0] at ck
    clear h hf hf0 hc
    go_enter Tryd.func32, Tryd.ntmps32
    go_wp2_with fail
    go_ret
    exact ⟨ret_int e1.out.symm, by rw [e2.out]; exact H.out.put k true hk, kept_one _ _ _ _⟩
theorem rfree_any (gr gl N : Nat) (n : Int) (f : Nat → Bool) (w : World) (h : RSp w gr gl N f) :
    Calls Tryd.prog 37 #[.pointer (some ⟨gr, 0, none⟩), .int .i64 n] w fun e w' => e = .returned (.int .i64 (freeE f N n)) ∧ RSp w' gr gl N (freeF f N n) ∧ Kept (fun b => b = gl) w w' := by
  obtain ⟨cap, c0, hcap, hc⟩ := h.cells
  have H := Lib.hid h
  have hNb := h.bounds.2
  by_cases hneg : n < 0
  · have e1 := Lib.hid (show freeE f N n = 91 by rw [freeE, if_pos (.inl hneg)])
    have e2 := Lib.hid (show freeF f N n = f by rw [freeF, if_pos (.inl hneg)])
    clear h hc
    go_enter Tryd.func37, Tryd.ntmps37
    go_wp2_with fail
    go_ret
    exact ⟨ret_int e1.out.symm, by rw [e2.out]; exact H.out, Kept.refl _ _⟩
  have hd : decide (n < 0) = false := by simpa using hneg
  by_cases hN : (N : Int) ≤ n
  · have e1 := Lib.hid (show freeE f N n = 91 by rw [freeE, if_pos (.inr hN)])
    have e2 := Lib.hid (show freeF f N n = f by rw [freeF, if_pos (.inr hN)])
    have hd2 : decide ((N : Int) ≤ n) = true := by simpa using hN
    clear h hc
    go_enter Tryd.func37, Tryd.ntmps37
    go_wp2_with fail
    go_ret
    exact ⟨ret_int e1.out.symm, by rw [e2.out]; exact H.out, Kept.refl _ _⟩
  obtain ⟨k, rfl⟩ : ∃ k : Nat, n = (k : Int) := ⟨n.toNat, by omega⟩
  have hk : k < N := by omega
  obtain ⟨ck, fk⟩ := hc k hk
  by_cases hf : f k = true
  · have e1 := Lib.hid (show freeE f N (k : Int) = 0 by rw [freeE, if_neg (by omega), if_pos (by simpa using hf)])
    have e2 := Lib.hid (show freeF f N (k : Int) = upd f k false by rw [freeF, if_neg (by omega)]; rfl)
    rw [hf] at ck
    clear h hf hc
    go_enter Tryd.func37, Tryd.ntmps37
    go_wp2_with fail
    go_ret
    exact ⟨ret_int e1.out.symm, by rw [e2.out]; exact H.out.put k false hk, kept_one _ _ _ _⟩
  · have hf0 : f k = false := by simpa using hf
    have e1 := Lib.hid (show freeE f N (k : Int) = 92 by rw [freeE, if_neg (by omega), if_neg (by simpa using hf)])
    have e2 := Lib.hid (show freeF f N (k : Int) = f by rw [freeF, if_neg (by omega)]; exact upd_id _ _ _ hf0)
    rw [hf0] at ck
    clear h hf hf0 hc
    go_enter Tryd.func37, Tryd.ntmps37
    go_wp2_with fail
    go_ret
    exact ⟨ret_int e1.out.symm, by rw [e2.out]; exact H.out, Kept.refl _ _⟩
theorem rhas_any (gr gl N : Nat) (n : Int) (f : Nat → Bool) (w : World) (h : RSp w gr gl N f) :
    Calls Tryd.prog 38 #[.pointer (some ⟨gr, 0, none⟩), .int .i64 n] w fun e w' => e = .returned (.bool (hasB f n)) ∧ w = w' := by
  obtain ⟨cap, c0, hcap, hc⟩ := h.cells
  have hNb := h.bounds.2
  by_cases hneg : n < 0
  · rw [hasB_neg f n hneg]
    have hd : decide (0 ≤ n) = false := by simp; omega
    clear h hc
    go_enter Tryd.func38, Tryd.ntmps38
    go_wp2_with fail
    go_ret
    exact ⟨rfl, rfl⟩
  obtain ⟨k, rfl⟩ : ∃ k : Nat, n = (k : Int) := ⟨n.toNat, by omega⟩
  rw [hasB_nat]
  have hd0 : decide (0 ≤ (k : Int)) = true := by simp
  by_cases hk : k < N
  · obtain ⟨ck, fk⟩ := hc k hk
    have hd : decide ((k : Int) < (N : Int)) = true := by simp; omega
    have hd2 : decide (k < N) = true := by simp; omega
    generalize f k = x at ck
    clear h hc
    go_enter Tryd.func38, Tryd.ntmps38
    go_wp2_with fail
    go_ret
    exact ⟨rfl, rfl⟩
  · rw [h.void k (by omega)]
    have hd : decide ((k : Int) < (N : Int)) = false := by simp; omega
    have hd2 : decide (k < N) = false := by simp; omega
    clear h hc
    go_enter Tryd.func38, Tryd.ntmps38
    go_wp2_with fail
    go_ret
    exact ⟨rfl, rfl⟩
theorem rused_any (gr gl N : Nat) (f : Nat → Bool) (w : World) (h : RSp w gr gl N f) :
    Calls Tryd.prog 25 #[.pointer (some ⟨gr, 0, none⟩)] w fun e w' => e = .returned (.int .i64 (cnt f N : Int)) ∧ w = w' := by
  obtain ⟨cap, c0, hcap, hc⟩ := h.cells
  have hNb := h.bounds.2
  have HC := Lib.hid hc
  clear h hc
  go_enter Tryd.func25, Tryd.ntmps25
  go_wp2_with fail
  go_loop [3, 4] (fun nv iv => ∃ k : Nat, k ≤ N ∧ iv = .int .i64 (k : Int) ∧ nv = .int .i64 (cnt f k : Int)) (fun _ iv => N - (intOf iv).toNat)
  case atStart => exact ⟨0, by omega, rfl, rfl⟩
  case round =>
    obtain ⟨k, hk, rfl, rfl⟩ := hrel
    by_cases hlt : k < N
    · obtain ⟨ck, -⟩ := HC.out k hlt
      have hd : decide ((k : Int) < (N : Int)) = true := by simp; omega
      have hd2 : decide (k < N) = true := by simp; omega
      have hcl := cnt_le f k
      by_cases hf : f k = true
      · have e := Lib.hid (show (cnt f (k + 1) : Int) = (cnt f k : Int) + 1 by simp [cnt, hf])
        rw [hf] at ck
        clear hf
        go_wp2_with fail
        go_round
        case rel => exact ⟨k + 1, by omega, by go_num, by rw [e.out]⟩
        case measure => simp [intOf] <;> omega
      · have e := Lib.hid (show (cnt f (k + 1) : Int) = (cnt f k : Int) by simp [cnt, hf])
        rw [show f k = false by simpa using hf] at ck
        clear hf
        go_wp2_with fail
        go_round
        case rel => exact ⟨k + 1, by omega, by go_num, by rw [e.out]⟩
        case measure => simp [intOf] <;> omega
    · obtain rfl : k = N := by omega
      go_wp2_with fail
      go_ret
      exact ⟨rfl, rfl⟩
theorem rleft_any (gr gl N : Nat) (f : Nat → Bool) (w : World) (h : RSp w gr gl N f) :
    Calls Tryd.prog 26 #[.pointer (some ⟨gr, 0, none⟩)] w fun e w' => e = .returned (.int .i64 ((N : Int) - (cnt f N : Int))) ∧ Below w.heap.size w w' := by
  obtain ⟨cap, c0, hcap, hc⟩ := h.cells
  have hNb := h.bounds.2
  have hcl := cnt_le f N
  have HQ := Lib.hid fun n => rused_any gr gl N f (w.drewN n) (h.below (below_drewN (Below.refl _ _) n))
  clear h hc
  go_enter Tryd.func26, Tryd.ntmps26
  go_wp2_with fail
  go_quiet ((go_at_call 25; exact Calls.quiet_of_same ((HQ.out _).mono fun _ _ h => ⟨h.1, h.2.symm⟩)))
  go_wp2_with fail
  go_ret
  exact ⟨rfl, below_drewN (Below.refl _ _) nq⟩
theorem rnew_bad (b u : Int) (w : World) (h : b < 16 ∨ 65536 < b ∨ u < 0 ∨ b < u) : Calls Tryd.prog 22 #[.int .i64 b, .int .i64 u] w fun r w' => r = .returned (.tuple #[.pointer none, .int .i64 1]) ∧ w = w' := by
  by_cases h1 : b < 16
  · clear h
    go_enter Tryd.func22, Tryd.ntmps22
    go_wp2_with fail
    go_ret2
    exact ⟨rfl, rfl⟩
  have d1 : decide (b < 16) = false := by simpa using h1
  by_cases h2 : 65536 < b
  · clear h
    go_enter Tryd.func22, Tryd.ntmps22
    go_wp2_with fail
    go_ret2
    exact ⟨rfl, rfl⟩
  have d2 : decide (65536 < b) = false := by simpa using h2
  by_cases h3 : u < 0
  · clear h
    go_enter Tryd.func22, Tryd.ntmps22
    go_wp2_with fail
    go_ret2
    exact ⟨rfl, rfl⟩
  have d3 : decide (u < 0) = false := by simpa using h3
  have h4 : b < u := by omega
  clear h
  go_enter Tryd.func22, Tryd.ntmps22
  go_wp2_with fail
  go_ret2
  exact ⟨rfl, rfl⟩
set_option maxHeartbeats 1000000 in
theorem rnew_ok (N u : Nat) (w : World) (h : 16 ≤ N) (h' : N ≤ 65536) (hu : u ≤ N) : Calls Tryd.prog 22 #[.int .i64 (N : Int), .int .i64 (u : Int)] w fun r w' =>
    r = .returned (.tuple #[.pointer (some ⟨w.heap.size + 1, 0, none⟩), .int .i64 0]) ∧ RSp w' (w.heap.size + 1) w.heap.size N (first u) ∧ Below w.heap.size w w' := by
  have d1 : decide ((N : Int) < 16) = false := by simp; omega
  have d2 : decide (65536 < (N : Int)) = false := by simp; omega
  have d3 : decide ((u : Int) < 0) = false := by simp
  have d4 : decide ((N : Int) < (u : Int)) = false := by simp; omega
  have d5 : decide (N < u) = false := by simp; omega
  have HU := Lib.hid hu
  have hmk := make_bools N (by omega)
  have K0 := Lib.hid (show RSp ((w.alloc (.cells (arr N fun _ => .bool false) 4)).alloc (.cells #[.slice (some ⟨w.heap.size, 0, none⟩) N N] 71)) (w.heap.size + 1) w.heap.size N (first 0) from
    ⟨N, _, ⟨Blk.new_at (by simp), (Blk.new w 4 _).alloc _⟩, Nat.le_refl _, fun i hi => by rw [arr_get _ _ _ hi]; simp [first], fun n _ => first_zero n, h, h', by omega⟩)
  have B0 := Lib.hid (((Below.refl w.heap.size w).alloc (Nat.le_refl _) (.cells (arr N fun _ => .bool false) 4)).alloc (by simp) (.cells #[.slice (some ⟨w.heap.size, 0, none⟩) N N] 71))
  clear hu
  go_enter Tryd.func22, Tryd.ntmps22
  go_wp2_with fail
  generalize World.alloc (World.alloc w _) _ = W0 at K0 B0 ⊢
  clear hmk
  obtain ⟨gl, hgl⟩ : ∃ gl, gl = w.heap.size := ⟨_, rfl⟩
  rw [← hgl] at K0 ⊢
  have HG := Lib.hid hgl
  clear hgl
  go_loopw [7] (fun iv wr => ∃ k : Nat, k ≤ u ∧ iv = .int .i64 k ∧ RSp wr (gl + 1) gl N (first k) ∧ Below w.heap.size w wr) (fun iv _ => u - (intOf iv).toNat)
  case atStart => exact ⟨0, by omega, rfl, K0.out, B0.out⟩
  case round =>
    obtain ⟨k, hk, rfl, hs, hb⟩ := hrel
    obtain ⟨cap, c0, hcap, hc⟩ := hs.cells
    by_cases hlt : k < u
    · have hkN : k < N := by have := HU.out; omega
      obtain ⟨ck, fk⟩ := hc k hkN
      have HS := Lib.hid (And.intro hs hb)
      have hd : decide ((k : Int) < (u : Int)) = true := by simp; omega
      have hd2 : decide (k < u) = true := by simp; omega
      clear hs hb hc
      go_wp2_with fail
      go_roundw
      case rel => exact ⟨k + 1, by omega, by go_num, by rw [← first_succ]; exact HS.out.1.put k true hkN, HS.out.2.setCell (by show _ ≤ gl; rw [HG.out]; exact Nat.le_refl _) _⟩
      case measure => simp [intOf] <;> omega
    · obtain rfl : k = u := by omega
      have HS := Lib.hid (And.intro hs hb)
      clear hs hb hc c0
      go_wp2_with fail
      go_ret2
      rw [← HG.out]
      rw [← HG.out] at HS
      exact ⟨rfl, HS.out⟩
theorem ralloc_any (gr gl N : Nat) (f : Nat → Bool) (w : World) (h : RSp w gr gl N f) :
    Calls Tryd.prog 43 #[.pointer (some ⟨gr, 0, none⟩)] w fun e w' => (∃ n, Least f N n ∧ e = .returned (.tuple #[.int .i64 (n : Int), .int .i64 0]) ∧ RSp w' gr gl N (upd f n true) ∧ Kept (fun b => b = gl) w w') ∨
      ((∀ n, n < N → f n = true) ∧ e = .returned (.tuple #[.int .i64 0, .int .i64 2]) ∧ w = w') := by
  obtain ⟨cap, c0, hcap, hc⟩ := h.cells
  have hNb := h.bounds.2
  have HC := Lib.hid hc
  have H := Lib.hid h
  clear h hc
  go_enter Tryd.func43, Tryd.ntmps43
  go_wp2_with fail
  go_loop [4] (fun iv => ∃ k : Nat, k ≤ N ∧ iv = .int .i64 (k : Int) ∧ ∀ j, j < k → f j = true) (fun iv => N - (intOf iv).toNat)
  case atStart => exact ⟨0, by omega, rfl, fun j hj => by omega⟩
  case round =>
    obtain ⟨k, hk, rfl, hall⟩ := hrel
    have HA := Lib.hid hall
    clear hall
    by_cases hlt : k < N
    · obtain ⟨ck, fk⟩ := HC.out k hlt
      have hd : decide ((k : Int) < (N : Int)) = true := by simp; omega
      have hd2 : decide (k < N) = true := by simp; omega
      by_cases hf : f k = true
      · rw [hf] at ck
        have HF := Lib.hid hf
        clear hf
        go_wp2_with fail
        go_round
        case rel => exact ⟨k + 1, by omega, by go_num, fun j hj => by
          by_cases e : j = k
          · rw [e]; exact HF.out
          · exact HA.out j (by omega)⟩
        case measure => simp [intOf] <;> omega
      · have hf' : f k = false := by simpa using hf
        rw [hf'] at ck
        have HF := Lib.hid hf'
        clear hf hf'
        go_wp2_with fail
        go_ret2
        exact .inl ⟨k, ⟨hlt, HF.out, HA.out⟩, rfl, H.out.put k true hlt, kept_one _ _ _ _⟩
    · obtain rfl : k = N := by omega
      go_wp2_with fail
      go_ret2
      exact .inr ⟨HA.out, rfl, rfl⟩
end Go.Proofs.YtghakgepchlpgaaDoor
