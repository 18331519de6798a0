/- THE WALK of the world's mine. -/
import Derived.Test.YtghakgepchlpgaaX13
import Derived.Test.YtghakgepchlpgaaX9
namespace Go.Proofs.Ytghakgepchlpgaa
open Go.RowKit Go.Maps
theorem OwnsI.marks {w : World} {B n c : Nat} {A : Option Addr} {m : Int} (h : OwnsI w B (.slice A n c) (List.replicate n m))   : Ri w w.heap.size A (List.replicate n m) := by
  refine OwnsI.reads (base := B) (c := c) ?_
  rw [List.length_replicate]
  exact h
theorem Tint.kept {S : Nat → Prop} {m : Int} {b : Option Nat} {w w' : World} (h : Tint m b w w') (hs : ∀ k, b = some k → S k) : Kept S w w' :=
  ⟨h.os, h.tape, h.output, h.size, fun k hk hn => h.block k hk fun e => hn (hs k e)⟩
/-- of a list, its mark -/
def mkI (i : Nat) : Int := -7 - (i : Int)
/-- rows that bear their marks -/
def RowsM (w : World) (B N : Nat) (A : Nat → Option Addr) (n c : Nat → Nat) : Prop := ∀ j, j < N → OwnsI w B (.slice (A j) (n j) (c j)) (List.replicate (n j) (mkI j))
/-- and what was made longer of them -/
def LongM (w : World) (B N i d : Nat) (A P : Nat → Option Addr) (n p : Nat → Nat) : Prop :=
  ∀ j, j < i → OwnsI w B (.slice (P j) (n j + d) (p j)) (List.replicate (n j + d) (mkI j)) ∧ ∀ k, bk (P j) = some k → ∀ r, r < N → r ≠ j → bk (A r) ≠ some k
def updF {α : Type} (f : Nat → α) (i : Nat) (x : α) (j : Nat) : α := if j = i then x else f j
theorem updF_same {α : Type} (f : Nat → α) (i : Nat) (x : α) : updF f i x i = x := if_pos rfl
theorem updF_other {α : Type} (f : Nat → α) (i : Nat) (x : α) (j : Nat) (h : j ≠ i) : updF f i x j = f j := if_neg h
/-- the rows' blocks -/
def RB (N : Nat) (A : Nat → Option Addr) (k : Nat) : Prop := ∃ i, i < N ∧ bk (A i) = some k
theorem all_marked (l : List Int) (n : Nat) (m : Int) (hl : l.length = n) (h : ∀ q, q < n → l.getD q 0 = m) : l = List.replicate n m :=
  List.eq_replicate_iff.2 ⟨hl, fun b hb => by
    obtain ⟨i, hi, rfl⟩ := List.getElem_of_mem hb
    have := h i (by omega)
    rw [List.getD_eq_getElem?_getD, List.getElem?_eq_getElem hi] at this
    exact this⟩
theorem RowsM.tint {w w' : World} {B N i : Nat} {A : Nat → Option Addr} {n c : Nat → Nat} (h : RowsM w B N A n c) (ha : Ap N A) (hi : i < N) (t : Tint (mkI i) (bk (A i)) w w') : RowsM w' B N A n c := by
  intro j hj
  by_cases e : j = i
  · subst e
    exact (h j hj).tint t
  · exact (h j hj).far_tint t fun k hk e2 => by
      rw [bk_eq] at hk
      exact ha j i hj hi e k hk e2
theorem LongM.tint {w w' : World} {B N i d : Nat} {A P : Nat → Option Addr} {n p : Nat → Nat} (h : LongM w B N i d A P n p) (hi : i < N) (t : Tint (mkI i) (bk (A i)) w w') : LongM w' B N i d A P n p := by
  intro j hj
  refine ⟨(h j hj).1.far_tint t fun k hk e2 => ?_, (h j hj).2⟩
  rw [bk_eq] at hk
  exact (h j hj).2 k hk i hi (by omega) e2
theorem RowsM.three {w w' : World} {B N : Nat} {A : Nat → Option Addr} {n c : Nat → Nat} (h : RowsM w B N A n c) (f : Three w w') : RowsM w' B N A n c := fun j hj => (h j hj).three f
theorem LongM.three {w w' : World} {B N i d : Nat} {A P : Nat → Option Addr} {n p : Nat → Nat} (h : LongM w B N i d A P n p) (f : Three w w') : LongM w' B N i d A P n p := fun j hj => ⟨(h j hj).1.three f, (h j hj).2⟩
theorem LongM.more {w : World} {B N i d : Nat} {A P : Nat → Option Addr} {n p : Nat → Nat} {P1 : Option Addr} {p1 : Nat} (h : LongM w B N i d A P n p) (o : OwnsI w B (.slice P1 (n i + d) p1) (List.replicate (n i + d) (mkI i)))
    (hb : ∀ k, bk P1 = some k → ∀ r, r < N → r ≠ i → bk (A r) ≠ some k) : LongM w B N (i + 1) d A (updF P i P1) n (updF p i p1) := by
  intro j hj
  by_cases e : j = i
  · subst e
    rw [updF_same, updF_same]
    exact ⟨o, hb⟩
  · rw [updF_other _ _ _ _ e, updF_other _ _ _ _ e]
    exact h j (by omega)
theorem grew_three {w w' : World} {v v' : Value} {B n : Nat} {xs : List Value} (h : Grew w w' v v') (ho : w.ownsRow B 29 1 v n xs) : Three w w' :=
  (Kept.of_grown (S := fun k => v.ownBlock = some k) h.1 fun _ e => e).three fun k cs fr hk e => by
    obtain ⟨cs', h'⟩ := rowType ho k e
    exact types_ne h' hk (by decide) rfl
theorem Three.of_below {w w' : World} (h : Below w.heap.size w w') : Three w w' := (Kept.of_below (S := fun _ => False) h).three fun _ _ _ _ h => h
theorem wrap_mk (i : Nat) (h : i ≤ 1000000000) : IntKind.i64.wrap (-7 - (i : Int)) = mkI i := by rw [IntKind.wrap_i64]; unfold mkI; omega
set_option maxHeartbeats 4000000 in
set_option maxRecDepth 100000 in
theorem mine_any (B g N : Nat) (A A' : Nat → Option Addr) (n c c' : Nat → Nat) (L0 : Nat → List Int) (X0 X1 X2 : Value) (AL AW : Option Addr) (cL cW : Nat) (w : World) (hblk : Blk w g 48 #[X0, X1, X2, .slice AL N cL, .slice AW N cW]) (hB : B ≤ w.heap.size)
    (hlv : w.ownsRow B 29 1 (.slice AL N cL) N (rowL N A n c)) (hwv : w.ownsRow B 29 1 (.slice AW N cW) N (rowL N A' n c'))
    (hf : Fm w B N A n c L0) (hf' : Fm w B N A' n c' L0) (hap : Ap N A) (hn : ∀ i, i < N → n i ≤ 65536) (hN : N ≤ 100000000) :
    Calls Try.prog 18 #[.pointer (some ⟨g, 0, none⟩)] w fun e w' => e = .returned (.bool true) ∧ Kept (RB N A) w w' := by
  have HBLK := Lib.hid hblk
  have HLOW := Lib.hid hB
  have HLV := Lib.hid hlv
  have HWV := Lib.hid hwv
  have HF := Lib.hid hf
  have HF' := Lib.hid hf'
  have HAP := Lib.hid hap
  have HN := Lib.hid hn
  have HNN := Lib.hid hN
  have hN63 : N ≤ 100000000 := hN
  clear hblk hB hlv hwv hf hf' hap hn hN
  go_enter Try.func18, Try.ntmps18
  go_wp2_with fail
  go_loopw [3] (fun iv wr => ∃ i : Nat, i ≤ N ∧ iv = .int .i64 (i : Int) ∧ Kept (fun _ => False) w wr) (fun iv _ => N - (intOf iv).toNat)
  case atStart => exact ⟨0, by omega, rfl, Kept.refl _ _⟩
  case round =>
    obtain ⟨i, hi, rfl, hk⟩ := hrel
    have HK := Lib.hid hk
    have c0 : wr.cell? ⟨g, 3, none⟩ = some (.slice AL N cL) := (HBLK.out.kept hk (fun h => h)).cell 3
    clear hk
    by_cases hlt : i < N
    · obtain ⟨gL, cL', hv, hgB, hgs, hcl, -⟩ := rowAt HLV.out i _ hlt (rowL_get N A n c i hlt)
      injection hv with hv1 _ hv3
      subst hv1 hv3
      obtain ⟨gW, cW', hv, hgB', hgs', hcw, -⟩ := rowAt HWV.out i _ hlt (rowL_get N A' n c' i hlt)
      injection hv with hv1 _ hv3
      subst hv1 hv3
      have HS := Lib.hid (fun W (hW : Kept (fun _ => False) w W) => same_list (A i) (A' i) (c i) (c' i) (n i) (L0 i) W (HF.out i hlt).2
        (by have := rowKept (HF.out i hlt).1 hW fun _ _ h => h; rw [← (HF.out i hlt).2] at this; exact OwnsI.reads this)
        (by have := rowKept (HF'.out i hlt).1 hW fun _ _ h => h; rw [← (HF.out i hlt).2] at this; exact OwnsI.reads this) (HN.out i hlt))
      generalize A i = Ai at HS hcl
      generalize A' i = Ai' at HS hcw
      generalize n i = ni at HS hcl hcw
      generalize c i = ci at HS hcl
      generalize c' i = ci' at HS hcw
      have HC4 := Lib.hid (fun W (hW : Kept (fun _ => False) w W) => (⟨(HBLK.out.kept hW (fun h => h)).cell 3, (HBLK.out.kept hW (fun h => h)).cell 4, by rw [World.cell?_of_block (hW.block gL hgs fun h => h)]; exact hcl, by rw [World.cell?_of_block (hW.block gW hgs' fun h => h)]; exact hcw⟩ :
        W.cell? ⟨g, 3, none⟩ = some (.slice (some ⟨gL, 0, none⟩) N cL) ∧ W.cell? ⟨g, 4, none⟩ = some (.slice (some ⟨gW, 0, none⟩) N cW) ∧ W.cell? ⟨gL, i, none⟩ = some (.slice Ai ni ci) ∧ W.cell? ⟨gW, i, none⟩ = some (.slice Ai' ni ci')))
      have hd : decide ((i : Int) < (N : Int)) = true := by simp; omega
      have hd2 : (i : Int) < (N : Int) := by omega
      clear hcl hcw hgB hgB' hgs hgs'
      go_wp2_with fail
      clear c0
      refine wp_region_held_drew (S := fun W' => W'.cell? ⟨g, 3, none⟩ = some (.slice (some ⟨gL, 0, none⟩) N cL) ∧ W'.cell? ⟨g, 4, none⟩ = some (.slice (some ⟨gW, 0, none⟩) N cW) ∧ W'.cell? ⟨gL, i, none⟩ = some (.slice Ai ni ci) ∧ W'.cell? ⟨gW, i, none⟩ = some (.slice Ai' ni ci')) (by kernel_rfl) (by exact HC4.out _ HK.out.drew) (fun hHeld => ?_)
      refine takeTo (i := 0) (v := ?_) (some 24) rfl rfl (by kernel_rfl) (by kernel_rfl) (by kernel_rfl) (fun _ _ _ h => h) (Or.inl ⟨by rfl, ?_⟩) (by assumption) ?_
      rotate_left
      · (intro W7 hSw; (try dsimp only at hSw); go_simp; try with_reducible rfl)
      try simp only [Act.put, List.setIfInBounds_toArray, List.set_cons_zero, List.set_cons_succ]
      refine takeTo (i := 1) (v := ?_) (some 25) rfl rfl (by kernel_rfl) (by kernel_rfl) (by kernel_rfl) (fun _ _ _ h => h) (Or.inl ⟨by rfl, ?_⟩) (by assumption) ?_
      rotate_left
      · (intro W7 hSw; (try dsimp only at hSw); go_simp; try with_reducible rfl)
      try simp only [Act.put, List.setIfInBounds_toArray, List.set_cons_zero, List.set_cons_succ]
      refine takeTo (i := 2) (v := ?_) (some 26) rfl rfl (by kernel_rfl) (by kernel_rfl) (by kernel_rfl) (fun _ _ _ h => h) (Or.inl ⟨by rfl, ?_⟩) (by assumption) ?_
      rotate_left
      · (intro W7 hSw; (try dsimp only at hSw); go_simp; try with_reducible rfl)
      try simp only [Act.put, List.setIfInBounds_toArray, List.set_cons_zero, List.set_cons_succ]
      refine takeTo (i := 3) (v := ?_) (some 27) rfl rfl (by kernel_rfl) (by kernel_rfl) (by kernel_rfl) (fun _ _ _ h => h) (Or.inl ⟨by rfl, ?_⟩) (by assumption) ?_
      rotate_left
      · (intro W7 hSw; (try dsimp only at hSw); go_simp; try with_reducible rfl)
      try simp only [Act.put, List.setIfInBounds_toArray, List.set_cons_zero, List.set_cons_succ]
      refine takeTo (i := 4) (v := ?_) (some 28) rfl rfl (by kernel_rfl) (by kernel_rfl) (by kernel_rfl) (fun _ _ _ h => h) (Or.inl ⟨by rfl, ?_⟩) (by assumption) ?_
      rotate_left
      · (intro W7 hSw; (try dsimp only at hSw); go_simp; try with_reducible rfl)
      try simp only [Act.put, List.setIfInBounds_toArray, List.set_cons_zero, List.set_cons_succ]
      refine takeTo (i := 5) (v := ?_) (some 29) rfl rfl (by kernel_rfl) (by kernel_rfl) (by kernel_rfl) (fun _ _ _ h => h) (Or.inl ⟨by rfl, ?_⟩) (by assumption) ?_
      rotate_left
      · (intro W7 hSw; (try dsimp only at hSw); go_simp; try with_reducible rfl)
      try simp only [Act.put, List.setIfInBounds_toArray, List.set_cons_zero, List.set_cons_succ]
      refine takeTo (i := 6) (v := ?_) (some 30) rfl rfl (by kernel_rfl) (by kernel_rfl) (by kernel_rfl) (fun _ _ _ h => h) (Or.inl ⟨by rfl, ?_⟩) (by assumption) ?_
      rotate_left
      · (intro W7 hSw; (try dsimp only at hSw); go_simp; try with_reducible rfl)
      try simp only [Act.put, List.setIfInBounds_toArray, List.set_cons_zero, List.set_cons_succ]
      refine takeTo (i := 7) (v := ?_) (some 31) rfl rfl (by kernel_rfl) (by kernel_rfl) (by kernel_rfl) (fun _ _ _ h => h) (Or.inl ⟨by rfl, ?_⟩) (by assumption) ?_
      rotate_left
      · (intro W7 hSw; (try dsimp only at hSw); go_simp; try with_reducible rfl)
      try simp only [Act.put, List.setIfInBounds_toArray, List.set_cons_zero, List.set_cons_succ]
      refine takeTo (i := 8) (v := ?_) (some 32) rfl rfl (by kernel_rfl) (by kernel_rfl) (by kernel_rfl) (fun _ _ _ h => h) (Or.inl ⟨by rfl, ?_⟩) (by assumption) ?_
      rotate_left
      · (intro W7 hSw; (try dsimp only at hSw); go_simp; try with_reducible rfl)
      try simp only [Act.put, List.setIfInBounds_toArray, List.set_cons_zero, List.set_cons_succ]
      refine takeTo (i := 9) (v := ?_) (some 33) rfl rfl (by kernel_rfl) (by kernel_rfl) (by kernel_rfl) (fun _ _ _ h => h) (Or.inl ⟨by rfl, ?_⟩) (by assumption) ?_
      rotate_left
      · (intro W7 hSw; (try dsimp only at hSw); go_simp; try with_reducible rfl)
      try simp only [Act.put, List.setIfInBounds_toArray, List.set_cons_zero, List.set_cons_succ]
      refine takeTo (i := 10) (v := ?_) (some 34) rfl rfl (by kernel_rfl) (by kernel_rfl) (by kernel_rfl) (fun _ _ _ h => h) (Or.inl ⟨by rfl, ?_⟩) (by assumption) ?_
      rotate_left
      · (intro W7 hSw; (try dsimp only at hSw); go_simp; try with_reducible rfl)
      try simp only [Act.put, List.setIfInBounds_toArray, List.set_cons_zero, List.set_cons_succ]
      refine takeTo (i := 11) (v := ?_) (some 35) rfl rfl (by kernel_rfl) (by kernel_rfl) (by kernel_rfl) (fun _ _ _ h => h) (Or.inl ⟨by rfl, ?_⟩) (by assumption) ?_
      rotate_left
      · (intro W7 hSw; (try dsimp only at hSw); go_simp; try with_reducible rfl)
      try simp only [Act.put, List.setIfInBounds_toArray, List.set_cons_zero, List.set_cons_succ]
      refine takeTo (i := 12) (v := ?_) (some 36) rfl rfl (by kernel_rfl) (by kernel_rfl) (by kernel_rfl) (fun _ _ _ h => h) (Or.inl ⟨by rfl, ?_⟩) (by assumption) ?_
      rotate_left
      · (intro W7 hSw; (try dsimp only at hSw); go_simp; try with_reducible rfl)
      try simp only [Act.put, List.setIfInBounds_toArray, List.set_cons_zero, List.set_cons_succ]
      refine takeTo (i := 13) (v := ?_) (some 37) rfl rfl (by kernel_rfl) (by kernel_rfl) (by kernel_rfl) (fun _ _ _ h => h) (Or.inl ⟨by rfl, ?_⟩) (by assumption) ?_
      rotate_left
      · (intro W7 hSw; (try dsimp only at hSw); go_simp; try with_reducible rfl)
      try simp only [Act.put, List.setIfInBounds_toArray, List.set_cons_zero, List.set_cons_succ]
      refine wpAnyH_ready (rs := [14]) (by kernel_rfl) (by simp) ?_
      refine AllReadyH.cons rfl (fun K hK => ?_) AllReadyH.nil
      rw [if_pos (by rfl)]
      go_wp2_with fail
      refine (HS.out _ HK.out.drew).mono ?_
      rintro e w' ⟨rfl, hb⟩
      have HK2 := Lib.hid (HK.out.drew.trans (Kept.of_below (S := fun _ => False) hb))
      clear hb
      refine hK.out _ _ (HC4.out _ HK2.out) (fun hHeld => ?_)
      clear hK K
      try simp only [Act.put, List.setIfInBounds_toArray, List.set_cons_zero, List.set_cons_succ]
      refine takeTo (i := 15) (v := ?_) (some 4) rfl rfl (by kernel_rfl) (by kernel_rfl) (by kernel_rfl) (fun _ _ _ h => h) (Or.inl ⟨by rfl, ?_⟩) (by assumption) ?_
      rotate_left
      · (intro W7 hSw; (try dsimp only at hSw); go_simp; try with_reducible rfl)
      try simp only [Act.put, List.setIfInBounds_toArray, List.set_cons_zero, List.set_cons_succ]
      refine wpAnyH_done (by kernel_rfl) ?_ _
      clear hHeld
      go_wp2_with fail
      go_roundw
      case rel => exact ⟨i + 1, by omega, by go_num, HK2.out⟩
      case measure => simp [intOf] <;> omega
    · have hd : decide ((i : Int) < (N : Int)) = false := by simp; omega
      obtain rfl : N = i := by omega
      go_wp2_with fail
      have HNG := Lib.hid (show ¬ RB N A g from fun ⟨j, hj, e⟩ => by
        obtain ⟨cs, h1⟩ := rowType (HF.out j hj).1 g (by rw [bk_eq]; exact e)
        exact types_ne HBLK.out h1 (by decide) rfl)
      have HNL := Lib.hid (show ∀ k, (Value.slice AL N cL).ownBlock = some k → ¬ RB N A k from fun k hk ⟨j, hj, e⟩ => by
        obtain ⟨cs1, h1⟩ := rowType HLV.out k hk
        obtain ⟨cs2, h2⟩ := rowType (HF.out j hj).1 k (by rw [bk_eq]; exact e)
        exact types_ne h1 h2 (by decide) rfl)
      have K1 := Lib.hid (show Kept (RB N A) w wr from HK.out.mono fun _ _ h => h.elim)
      have F1 := Lib.hid (HF.out.kept HK.out fun _ _ _ _ h => h)
      clear c0 hd HK
      obtain ⟨w1, hw1⟩ : ∃ x, x = wr := ⟨_, rfl⟩
      rw [← hw1] at K1 F1 ⊢
      clear hw1 wr
      go_loopw [5] (fun iv wr => ∃ (i : Nat) (L : Nat → List Int), i ≤ N ∧ iv = .int .i64 (i : Int) ∧ Fm wr B N A n c L ∧ (∀ j, j < i → L j = List.replicate (n j) (mkI j)) ∧ Kept (RB N A) w wr) (fun iv _ => N - (intOf iv).toNat)
      case atStart => exact ⟨0, L0, by omega, rfl, F1.out, fun j hj => absurd hj (by omega), K1.out⟩
      case round =>
        obtain ⟨i, L, hi, rfl, hF, hM, hk⟩ := hrel
        have HK := Lib.hid (And.intro hF (And.intro hM hk))
        have c0 : wr.cell? ⟨g, 3, none⟩ = some (.slice AL N cL) := (HBLK.out.kept hk HNG.out).cell 3
        clear hF hM hk
        by_cases hlt : i < N
        · have hd : decide ((i : Int) < (N : Int)) = true := by simp; omega
          have hd2 : (i : Int) < (N : Int) := by omega
          go_wp2_with fail
          obtain ⟨ni, hni⟩ : ∃ x, x = n i := ⟨_, rfl⟩
          have NI := Lib.hid hni
          have hni4 : ni ≤ 65536 := by rw [hni]; exact HN.out i hlt
          clear hni c0
          obtain ⟨w2, hw2⟩ : ∃ x, x = wr := ⟨_, rfl⟩
          rw [← hw2] at HK ⊢
          clear hw2 wr
          go_loopw [6] (fun kv wr => ∃ (k : Nat) (L : Nat → List Int), k ≤ ni ∧ kv = .int .i64 (k : Int) ∧ Fm wr B N A n c L ∧ (∀ j, j < i → L j = List.replicate (n j) (mkI j)) ∧ (∀ q, q < k → (L i).getD q 0 = mkI i) ∧ Kept (RB N A) w wr) (fun kv _ => ni - (intOf kv).toNat)
          case atStart => exact ⟨0, L, by omega, rfl, HK.out.1, HK.out.2.1, fun q hq => absurd hq (by omega), HK.out.2.2⟩
          case round =>
            obtain ⟨k, L, hk, rfl, hF, hM, hQ, hkp⟩ := hrel
            have c0 : wr.cell? ⟨g, 3, none⟩ = some (.slice AL N cL) := (HBLK.out.kept hkp HNG.out).cell 3
            obtain ⟨gL, cL', hv, hgB, hgs, hcl, csL, hgL⟩ := rowAt (rowKept HLV.out hkp HNL.out) i _ hlt (rowL_get N A n c i hlt)
            injection hv with hv1 _ hv3
            subst hv1 hv3
            rw [← NI.out] at hcl
            by_cases hkl : k < ni
            · obtain ⟨h1, h2⟩ := hF i hlt
              obtain ⟨b, hb⟩ := h1.addr (by rw [h2, ← NI.out]; omega)
              have h3 := h1
              rw [hb] at h3 hcl
              obtain ⟨ci, hci⟩ : ∃ x, x = c i := ⟨_, rfl⟩
              rw [← hci] at hcl
              have hat := h3.at_ k (by rw [h2, ← NI.out]; exact hkl)
              have hfr := h3.free k
              obtain ⟨x0, hx0⟩ : ∃ x, x = (L i).getD k 0 := ⟨_, rfl⟩
              rw [← hx0] at hat
              have hgb : g ≠ b := fun e => HNG.out ⟨i, hlt, by rw [hb, e]; rfl⟩
              have hgLb : gL ≠ b := fun e => HNL.out gL rfl ⟨i, hlt, by rw [hb, e]; rfl⟩
              have PUT := Lib.hid (hF.put HAP.out i k b (mkI i) hlt hb)
              have KPUT := Lib.hid (show Kept (RB N A) w (wr.setCell ⟨b, k, none⟩ (.int .i64 (mkI i))) from hkp.setCell (p := ⟨b, k, none⟩) ⟨i, hlt, by rw [hb]; rfl⟩ _)
              have HK3 := Lib.hid (And.intro hM (And.intro hQ h2))
              have hd3 : decide ((k : Int) < (ni : Int)) = true := by simp; omega
              have hd4 : (k : Int) < (ni : Int) := by omega
              have wm := wrap_mk i (by omega)
              obtain ⟨mi, hmi⟩ : ∃ x, x = mkI i := ⟨_, rfl⟩
              rw [← hmi] at wm PUT KPUT
              have HMI := Lib.hid hmi
              clear hF hM hQ hkp h1 h2 h3 hb hx0 hgB hgs hgL hci hmi
              go_wp2_with fail
              clear c0 hcl hat hfr
              go_roundw
              case rel =>
                refine ⟨k + 1, updL L i k mi, by omega, by go_num, PUT.out, fun j hj => ?_, fun q hq => ?_, KPUT.out⟩
                · unfold updL
                  rw [if_neg (by omega)]
                  exact HK3.out.1 j hj
                · unfold updL
                  rw [if_pos rfl, HMI.out]
                  by_cases hqk : q = k
                  · subst hqk
                    rw [List.getD_eq_getElem?_getD, List.getElem?_set_self (by rw [HK3.out.2.2, ← NI.out]; exact hkl)]
                    rfl
                  · rw [List.getD_eq_getElem?_getD, List.getElem?_set_ne (fun e => hqk e.symm), ← List.getD_eq_getElem?_getD]
                    exact HK3.out.2.1 q (by omega)
              case measure => simp [intOf] <;> omega
            · obtain rfl : k = ni := by omega
              have hd3 : decide ((k : Int) < (k : Int)) = false := by simp
              have HK3 := Lib.hid (And.intro hF (And.intro hM (And.intro hQ hkp)))
              clear hF hM hQ hkp hgB hgs hgL
              go_wp2_with fail
              go_roundw
              case rel =>
                refine ⟨i + 1, L, by omega, by go_num, HK3.out.1, fun j hj => ?_, HK3.out.2.2.2⟩
                by_cases hji : j < i
                · exact HK3.out.2.1 j hji
                · obtain rfl : j = i := by omega
                  exact all_marked _ _ _ (HK3.out.1 j hlt).2 (by rw [← NI.out]; exact HK3.out.2.2.1)
              case measure => simp [intOf] <;> omega
        · obtain rfl : N = i := by omega
          have hd : decide ((N : Int) < (N : Int)) = false := by simp
          go_wp2_with fail
          have R3 := Lib.hid (show RowsM wr B N A n c from fun j hj => by rw [← HK.out.2.1 j hj]; exact (HK.out.1 j hj).1)
          have K3 := Lib.hid HK.out.2.2
          clear HK c0 hd
          obtain ⟨w3, hw3⟩ : ∃ x, x = wr := ⟨_, rfl⟩
          rw [← hw3] at R3 K3 ⊢
          clear hw3 wr
          go_loopw [7, 8] (fun lv iv wr => ∃ (i mX : Nat) (AO : Option Addr) (cO : Nat) (xs : List Value) (P Q : Nat → Option Addr) (p q : Nat → Nat), i ≤ N ∧ iv = .int .i64 (i : Int) ∧ lv = .slice AO mX cO ∧ mX = 3 * i ∧ mX = xs.length ∧ wr.ownsRow w.heap.size 29 1 (.slice AO mX cO) mX xs ∧
            (∀ j, j < i → xs[3 * j]? = some (.slice (A j) (n j) (c j)) ∧ xs[3 * j + 1]? = some (.slice (P j) (n j + 20) (p j)) ∧ xs[3 * j + 2]? = some (.slice (Q j) (n j + 90) (q j))) ∧ RowsM wr B N A n c ∧ LongM wr B N i 20 A P n p ∧ LongM wr B N i 90 A Q n q ∧ Kept (RB N A) w wr) (fun _ iv _ => N - (intOf iv).toNat)
          case atStart => exact ⟨0, 0, none, 0, [], fun _ => none, fun _ => none, fun _ => 0, fun _ => 0, by omega, rfl, rfl, rfl, rfl, World.ownsRow_nil _ _ _ _, fun j hj => absurd hj (by omega), R3.out, fun j hj => absurd hj (by omega), fun j hj => absurd hj (by omega), K3.out⟩
          case round =>
            obtain ⟨i, mX, AO, cO, xs, P, Q, p, q, hi, rfl, rfl, hmX, hmX2, hX, hXS, hR, hP, hQ, hk⟩ := hrel
            have c0 : wr.cell? ⟨g, 3, none⟩ = some (.slice AL N cL) := (HBLK.out.kept hk HNG.out).cell 3
            have HX := Lib.hid (And.intro hmX (And.intro hmX2 (And.intro hX (And.intro hXS (And.intro hR (And.intro hP (And.intro hQ hk)))))))
            clear hmX hmX2 hX hXS hR hP hQ hk
            by_cases hlt : i < N
            · have hd : decide ((i : Int) < (N : Int)) = true := by simp; omega
              have hd2 : (i : Int) < (N : Int) := by omega
              obtain ⟨gL, cL', hv, hgB, hgs, hcl, csL, hgL⟩ := rowAt (rowKept HLV.out HX.out.2.2.2.2.2.2.2 HNL.out) i _ hlt (rowL_get N A n c i hlt)
              injection hv with hv1 _ hv3
              subst hv1 hv3
              obtain ⟨ni, hni⟩ : ∃ x, x = n i := ⟨_, rfl⟩
              obtain ⟨ci, hci⟩ : ∃ x, x = c i := ⟨_, rfl⟩
              obtain ⟨Ai, hAi⟩ : ∃ x, x = A i := ⟨_, rfl⟩
              rw [← hni, ← hci, ← hAi] at hcl
              have wm := wrap_mk i (by omega)
              obtain ⟨mi, hmi⟩ : ∃ x, x = mkI i := ⟨_, rfl⟩
              rw [← hmi] at wm
              have NI := Lib.hid (And.intro hni (And.intro hci (And.intro hAi hmi)))
              have hni4 : ni ≤ 65536 := by rw [hni]; exact HN.out i hlt
              have RI := Lib.hid (show OwnsI wr B (.slice Ai ni ci) (List.replicate ni mi) by rw [hni, hci, hAi, hmi]; exact HX.out.2.2.2.2.1 i hlt)
              have HB4 := Lib.hid (show B ≤ wr.heap.size by have h1 := HX.out.2.2.2.2.2.2.2.size; have h2 := HLOW.out; omega)
              have HGL := Lib.hid (show ∀ (m : Int) (W : World), Tint m (bk Ai) wr W → W.cell? ⟨g, 3, none⟩ = some (.slice (some ⟨gL, 0, none⟩) N cL) ∧ W.cell? ⟨gL, i, none⟩ = some (.slice Ai ni ci) from fun m W t =>
                ⟨by rw [World.cell?_of_block (t.block g (HBLK.out.kept HX.out.2.2.2.2.2.2.2 HNG.out).lt (fun e => HNG.out ⟨i, hlt, by rw [← hAi]; exact e⟩))]; exact c0,
                 by rw [World.cell?_of_block (t.block gL hgs (fun e => HNL.out gL rfl ⟨i, hlt, by rw [← hAi]; exact e⟩))]; exact hcl⟩)
              clear hni hci hAi hmi hgB hgL hgs
              go_wp2_with fail
              clear c0 hcl hd hd2
              obtain ⟨w4, hw4⟩ : ∃ x, x = wr := ⟨_, rfl⟩
              rw [← hw4] at HX RI HB4 HGL ⊢
              clear hw4 wr
              go_loopw [9, 10] (fun gv kv wr => ∃ (k : Nat) (A1 : Option Addr) (c1 : Nat), k ≤ 20 ∧ kv = .int .i64 (k : Int) ∧ gv = .slice A1 (ni + k) c1 ∧ OwnsI wr B (.slice A1 (ni + k) c1) (List.replicate (ni + k) mi) ∧ Tint mi (bk Ai) w4 wr ∧ (∀ b, bk A1 = some b → bk Ai = some b ∨ w4.heap.size ≤ b)) (fun _ kv _ => 20 - (intOf kv).toNat)
              case atStart => exact ⟨0, Ai, ci, by omega, rfl, rfl, RI.out, Tint.refl _ _ _, fun b hb => .inl hb⟩
              case round =>
                obtain ⟨k, A1, c1, hk, rfl, rfl, hO, hT, hA⟩ := hrel
                have H1 := Lib.hid (And.intro hO (And.intro hT hA))
                clear hO hT hA
                by_cases hk20 : k < 20
                · have hd3 : decide ((k : Int) < 20) = true := by simp; omega
                  have hB1 : B ≤ wr.heap.size := by have h1 := H1.out.2.1.size; have h2 := HB4.out; omega
                  have HB1 := Lib.hid hB1
                  clear hB1
                  go_wp2_with (first
                    | (at_builtin
                       refine wpList_append_tint rfl (.tmp 93) (.tmp 96) rfl B (ni + k) c1 mi A1 rfl (World.ownsRow.alloc H1.out.1 _) wr.heap.size 1 rfl (Blk.new wr 3 #[intV mi]) (by omega) (by have := HB1.out; simp; omega) ?_
                       intro A2 c2 w2 o2 t2 b2
                       have T2 := Lib.hid (show Tint mi (bk Ai) w4 w2 from (H1.out.2.1.trans (Tint.of_below ((Below.refl _ _).alloc (Nat.le_refl _) _))).since t2 (fun b hb => by rw [bk_eq] at hb; exact H1.out.2.2 b hb))
                       have B2 := Lib.hid (show ∀ b, bk A2 = some b → bk Ai = some b ∨ w4.heap.size ≤ b from fun b hb => by
                         rcases b2 b (by rw [bk_eq]; exact hb) with h | h
                         · rw [bk_eq] at h; exact H1.out.2.2 b h
                         · have h1 := H1.out.2.1.size
                           simp at h
                           right; omega)
                       have O2 := Lib.hid o2
                       clear o2 t2 b2))
                  go_roundw
                  case rel => exact ⟨k + 1, A2, c2, by omega, by go_num, rfl, O2.out, T2.out, B2.out⟩
                  case measure => simp [intOf] <;> omega
                · obtain rfl : k = 20 := by omega
                  rw [show ((20 : Nat) : Int) = 20 from rfl]
                  have cc := HGL.out mi wr H1.out.2.1
                  obtain ⟨c0, hcl⟩ := cc
                  obtain ⟨w5, hw5⟩ : ∃ x, x = wr := ⟨_, rfl⟩
                  rw [← hw5] at H1 c0 hcl ⊢
                  clear hw5 wr
                  have hd2 : (i : Int) < (N : Int) := by omega
                  go_wp2_with fail
                  clear c0 hcl
                  have RI5 := Lib.hid (RI.out.tint H1.out.2.1)
                  have HB5 := Lib.hid (show B ≤ w5.heap.size by have h1 := H1.out.2.1.size; have h2 := HB4.out; omega)
                  have H5 := Lib.hid H1.out
                  clear H1 RI
                  clear hk hk20
                  go_loopw [11, 12] (fun gv kv wr => ∃ (k : Nat) (E1 : Option Addr) (e1 : Nat), k ≤ 90 ∧ kv = .int .i64 (k : Int) ∧ gv = .slice E1 (ni + k) e1 ∧ OwnsI wr B (.slice E1 (ni + k) e1) (List.replicate (ni + k) mi) ∧ Tint mi (bk Ai) w5 wr ∧ (∀ b, bk E1 = some b → bk Ai = some b ∨ w5.heap.size ≤ b)) (fun _ kv _ => 90 - (intOf kv).toNat)
                  case atStart => exact ⟨0, Ai, ci, by omega, rfl, rfl, RI5.out, Tint.refl _ _ _, fun b hb => .inl hb⟩
                  case round =>
                    obtain ⟨k, E1, e1, hk, rfl, rfl, hO, hT, hA⟩ := hrel
                    have H6 := Lib.hid (And.intro hO (And.intro hT hA))
                    clear hO hT hA
                    by_cases hk20 : k < 90
                    · have hd3 : decide ((k : Int) < 90) = true := by simp; omega
                      have hB1 : B ≤ wr.heap.size := by have h1 := H6.out.2.1.size; have h2 := HB5.out; omega
                      have HB1 := Lib.hid hB1
                      clear hB1
                      go_wp2_with (first
                        | (at_builtin
                           refine wpList_append_tint rfl (.tmp 109) (.tmp 112) rfl B (ni + k) e1 mi E1 rfl (World.ownsRow.alloc H6.out.1 _) wr.heap.size 1 rfl (Blk.new wr 3 #[intV mi]) (by omega) (by have := HB1.out; simp; omega) ?_
                           intro E2 e2 v2 u2_ t2_ b2_
                           have V2 := Lib.hid (show Tint mi (bk Ai) w5 v2 from (H6.out.2.1.trans (Tint.of_below ((Below.refl _ _).alloc (Nat.le_refl _) _))).since t2_ (fun b hb => by rw [bk_eq] at hb; exact H6.out.2.2 b hb))
                           have X2 := Lib.hid (show ∀ b, bk E2 = some b → bk Ai = some b ∨ w5.heap.size ≤ b from fun b hb => by
                             rcases b2_ b (by rw [bk_eq]; exact hb) with h | h
                             · rw [bk_eq] at h; exact H6.out.2.2 b h
                             · have h1 := H6.out.2.1.size
                               simp at h
                               right; omega)
                           have U2 := Lib.hid u2_
                           clear u2_ t2_ b2_))
                      go_roundw
                      case rel => exact ⟨k + 1, E2, e2, by omega, by go_num, rfl, U2.out, V2.out, X2.out⟩
                      case measure => simp [intOf] <;> omega
                    · obtain rfl : k = 90 := by omega
                      rw [show ((90 : Nat) : Int) = 90 from rfl]
                      obtain ⟨c0, hcl⟩ := HGL.out mi wr (H5.out.2.1.trans H6.out.2.1)
                      have D := Lib.hid (show RowsM wr B N A n c ∧ LongM wr B N i 20 A P n p ∧ LongM wr B N i 90 A Q n q from by
                        have t1 : Tint (mkI i) (bk (A i)) w4 w5 := by rw [← NI.out.2.2.1, ← NI.out.2.2.2]; exact H5.out.2.1
                        have t2 : Tint (mkI i) (bk (A i)) w5 wr := by rw [← NI.out.2.2.1, ← NI.out.2.2.2]; exact H6.out.2.1
                        exact ⟨(HX.out.2.2.2.2.1.tint HAP.out hlt t1).tint HAP.out hlt t2, (HX.out.2.2.2.2.2.1.tint hlt t1).tint hlt t2, (HX.out.2.2.2.2.2.2.1.tint hlt t1).tint hlt t2⟩)
                      have G6 := Lib.hid (show OwnsI wr B (.slice A1 (ni + 20) c1) (List.replicate (ni + 20) mi) from H5.out.1.tint H6.out.2.1)
                      have RBi := Lib.hid (show ∀ k, bk Ai = some k → RB N A k from fun k hk => ⟨i, hlt, by rw [← NI.out.2.2.1]; exact hk⟩)
                      have K6 := Lib.hid (show Kept (RB N A) w wr from (HX.out.2.2.2.2.2.2.2.trans (H5.out.2.1.kept RBi.out)).trans (H6.out.2.1.kept RBi.out))
                      have far : ∀ k, (Value.slice AO mX cO).ownBlock = some k → bk Ai ≠ some k := fun k hk e => by
                        obtain ⟨cs1, h1⟩ := rowType HX.out.2.2.1 k hk
                        obtain ⟨cs2, h2⟩ := rowType (HX.out.2.2.2.2.1 i hlt) k (by rw [bk_eq, ← NI.out.2.2.1]; exact e)
                        exact types_ne h1 h2 (by decide) rfl
                      have X6 := Lib.hid (rowTint (rowTint HX.out.2.2.1 H5.out.2.1 far) H6.out.2.1 far)
                      clear far RI5
                      obtain ⟨n20, h20⟩ : ∃ x, x = ni + 20 := ⟨_, rfl⟩
                      obtain ⟨n90, h90⟩ : ∃ x, x = ni + 90 := ⟨_, rfl⟩
                      rw [← h20] at G6 ⊢
                      have J6 := Lib.hid (show OwnsI wr B (.slice E1 n90 e1) (List.replicate n90 mi) by rw [h90]; exact H6.out.1)
                      rw [← h90]
                      have HS := Lib.hid (And.intro h20 h90)
                      clear h20 h90
                      have hd2 : (i : Int) < (N : Int) := by omega
                      go_wp2_with (first
                        | (at_builtin
                           refine wpList_append_one (ts := 46) (e := 29) Try.underlying46 info29 rfl (by omega) rfl (.tmp 114) (.tmp 124) rfl w.heap.size (.slice AO mX cO) xs [.slice Ai ni ci, .slice A1 n20 c1, .slice E1 n90 e1] rfl (by rw [← HX.out.2.1]; exact World.ownsRow.alloc X6.out _) wr.heap.size 3 rfl (Blk.new wr 29 #[.slice Ai ni ci, .slice A1 n20 c1, .slice E1 n90 e1]) (by simp [Value.oneCell']) (by have := HX.out.1; have := HX.out.2.1; simp; omega) (by have := K6.out.size; simp; omega) ?_
                           intro v7 w7 o7 g7
                           obtain ⟨A7, c7, rfl⟩ := rowShape o7
                           have O7 := Lib.hid o7
                           have G7 := Lib.hid g7
                           obtain ⟨m7, hm7⟩ : ∃ m, m = (xs ++ [Value.slice Ai ni ci, Value.slice A1 n20 c1, .slice E1 n90 e1]).length := ⟨_, rfl⟩
                           rw [← hm7] at O7 G7 ⊢
                           have M7 := Lib.hid hm7
                           clear hm7 o7 g7))
                      have X6a : (wr.alloc (.cells #[.slice Ai ni ci, .slice A1 n20 c1, .slice E1 n90 e1] 29)).ownsRow w.heap.size 29 1 (.slice AO mX cO) mX xs := World.ownsRow.alloc X6.out _
                      have f7 : Three wr w7 := (Three.of_below ((Below.refl _ _).alloc (Nat.le_refl _) _)).trans (grew_three G7.out X6a)
                      have k7 : Kept (RB N A) w w7 := (K6.out.alloc _).since (T := fun k => (Value.slice AO mX cO).ownBlock = some k) (Kept.of_grown G7.out.1 fun _ e => e) fun k e => .inr (World.ownsRow.lt X6a k e).1
                      have H7 := Lib.hid (And.intro f7 k7)
                      clear f7 k7 X6a c0 hcl
                      go_roundw
                      case rel =>
                        refine ⟨i + 1, m7, A7, c7, _, updF P i A1, updF Q i E1, updF p i c1, updF q i e1, by omega, by go_num, rfl, ?_, M7.out, O7.out, ?_, D.out.1.three H7.out.1, ?_, ?_, H7.out.2⟩
                        · rw [M7.out, List.length_append, ← HX.out.2.1, HX.out.1]; simp; omega
                        · intro j hj
                          have hxl : xs.length = 3 * i := by rw [← HX.out.2.1, HX.out.1]
                          by_cases hji : j = i
                          · subst hji
                            rw [updF_same, updF_same, updF_same, updF_same, List.getElem?_append_right (by omega), List.getElem?_append_right (by omega), List.getElem?_append_right (by omega), hxl, Nat.sub_self, show 3 * j + 1 - 3 * j = 1 by omega, show 3 * j + 2 - 3 * j = 2 by omega, ← NI.out.1, ← NI.out.2.1, ← NI.out.2.2.1, ← HS.out.1, ← HS.out.2]
                            exact ⟨rfl, rfl, rfl⟩
                          · rw [updF_other _ _ _ _ hji, updF_other _ _ _ _ hji, updF_other _ _ _ _ hji, updF_other _ _ _ _ hji, List.getElem?_append_left (by omega), List.getElem?_append_left (by omega), List.getElem?_append_left (by omega)]
                            exact HX.out.2.2.2.1 j (by omega)
                        · refine (D.out.2.1.more ?_ ?_).three H7.out.1
                          · rw [← NI.out.1, ← NI.out.2.2.2, ← HS.out.1]; exact G6.out
                          · intro k hk r hr hri e
                            rcases H5.out.2.2 k hk with h | h
                            · rw [NI.out.2.2.1] at h
                              exact HAP.out r i hr hlt hri k e h
                            · have := (World.ownsRow.lt (HX.out.2.2.2.2.1 r hr) k (by rw [bk_eq]; exact e)).2
                              omega
                        · refine (D.out.2.2.more ?_ ?_).three H7.out.1
                          · rw [← NI.out.1, ← NI.out.2.2.2, ← HS.out.2]; exact J6.out
                          · intro k hk r hr hri e
                            rcases H6.out.2.2 k hk with h | h
                            · rw [NI.out.2.2.1] at h
                              exact HAP.out r i hr hlt hri k e h
                            · have := (World.ownsRow.lt (HX.out.2.2.2.2.1 r hr) k (by rw [bk_eq]; exact e)).2
                              have := H5.out.2.1.size
                              omega
                      case measure => simp [intOf] <;> omega
            · obtain rfl : N = i := by omega
              have hd : decide ((N : Int) < (N : Int)) = false := by simp
              go_wp2_with fail
              clear c0 hd hlt
              have HQ := Lib.hid (show ∀ j, j < 3 * N → ∃ S m s, xs[j]? = some (.slice S m s) ∧ OwnsI wr B (.slice S m s) (List.replicate m (mkI (j / 3))) ∧ m ≤ 65626 from fun j hj => by
                obtain ⟨r, hr⟩ : ∃ r, r = j / 3 := ⟨_, rfl⟩
                rw [← hr]
                have hrN : r < N := by omega
                have hx := HX.out.2.2.2.1 r hrN
                have hn := HN.out r hrN
                rcases (by omega : j = 3 * r ∨ j = 3 * r + 1 ∨ j = 3 * r + 2) with e | e | e
                · rw [e]; exact ⟨_, _, _, hx.1, HX.out.2.2.2.2.1 r hrN, by omega⟩
                · rw [e]; exact ⟨_, _, _, hx.2.1, (HX.out.2.2.2.2.2.1 r hrN).1, by omega⟩
                · rw [e]; exact ⟨_, _, _, hx.2.2, (HX.out.2.2.2.2.2.2.1 r hrN).1, by omega⟩)
              have HXW := Lib.hid (And.intro HX.out.1 (And.intro HX.out.2.2.1 HX.out.2.2.2.2.2.2.2))
              have hm3 : mX ≤ 300000000 := by have := HX.out.1; omega
              clear HX
              obtain ⟨w6, hw6⟩ : ∃ x, x = wr := ⟨_, rfl⟩
              rw [← hw6] at HQ HXW ⊢
              clear hw6 wr
              go_loopw [13] (fun iv wr => ∃ i : Nat, i ≤ mX ∧ iv = .int .i64 (i : Int) ∧ Kept (fun _ => False) w6 wr) (fun iv _ => mX - (intOf iv).toNat)
              case atStart => exact ⟨0, by omega, rfl, Kept.refl _ _⟩
              case round =>
                obtain ⟨i, hi, rfl, hk⟩ := hrel
                have HK := Lib.hid hk
                clear hk
                by_cases hlt : i < mX
                · obtain ⟨S, m, s, hx, ho, hm⟩ := HQ.out i (by rw [← HXW.out.1]; exact hlt)
                  have OO := Lib.hid ho
                  obtain ⟨gO, cO', hv, -, hgs, hcO, -⟩ := rowAt HXW.out.2.1 i _ hlt hx
                  injection hv with hv1 _ hv3
                  subst hv1 hv3
                  have CO := Lib.hid (fun W (hW : Kept (fun _ => False) w6 W) => (by rw [World.cell?_of_block (hW.block gO hgs fun h => h)]; exact hcO : W.cell? ⟨gO, i, none⟩ = some (.slice S m s)))
                  have hd : decide ((i : Int) < (mX : Int)) = true := by simp; omega
                  have hd2 : (i : Int) < (mX : Int) := by omega
                  clear hx ho hcO hgs
                  go_wp2_with fail
                  obtain ⟨w7, hw7⟩ : ∃ x, x = wr := ⟨_, rfl⟩
                  rw [← hw7] at HK ⊢
                  clear hw7 wr
                  go_loopw [14] (fun kv wr => ∃ k : Nat, k ≤ m ∧ kv = .int .i64 (k : Int) ∧ Kept (fun _ => False) w6 wr) (fun kv _ => m - (intOf kv).toNat)
                  case atStart => exact ⟨0, by omega, rfl, HK.out⟩
                  case round =>
                    obtain ⟨k, hk, rfl, hk2⟩ := hrel
                    have HK2 := Lib.hid hk2
                    have c0 := CO.out wr hk2
                    clear hk2
                    by_cases hkl : k < m
                    · obtain ⟨b, hb⟩ := OO.out.addr (by simp; omega)
                      subst hb
                      have hat := OwnsI.at_ (rowKept OO.out HK2.out fun _ _ h => h) k (by simpa using hkl)
                      obtain ⟨j, hj⟩ : ∃ j, j = i / 3 := ⟨_, rfl⟩
                      rw [← hj] at hat
                      have hx : (List.replicate m (mkI j)).getD k 0 = mkI j := by simp [List.getD, hkl]
                      rw [hx] at hat
                      have wm := wrap_mk j (by omega)
                      have ej : ((i : Int)).tdiv 3 = (j : Int) := by rw [Int.tdiv_eq_ediv_of_nonneg (by omega)]; omega
                      have wj : IntKind.i64.wrap (j : Int) = (j : Int) := by rw [IntKind.wrap_i64]; omega
                      obtain ⟨mj, hmj⟩ : ∃ x, x = mkI j := ⟨_, rfl⟩
                      rw [← hmj] at hat wm
                      have qm : (mj == mj) = true := by simp
                      have hd3 : decide ((k : Int) < (m : Int)) = true := by simp; omega
                      have hd4 : (k : Int) < (m : Int) := by omega
                      clear hx hj hmj
                      go_wp2_with fail
                      clear c0 hat
                      go_roundw
                      case rel => exact ⟨k + 1, by omega, by go_num, HK2.out⟩
                      case measure => simp [intOf] <;> omega
                    · obtain rfl : k = m := by omega
                      have hd3 : decide ((k : Int) < (k : Int)) = false := by simp
                      go_wp2_with fail
                      go_roundw
                      case rel => exact ⟨i + 1, by omega, by go_num, HK2.out⟩
                      case measure => simp [intOf] <;> omega
                · obtain rfl : mX = i := by omega
                  have hd : decide ((mX : Int) < (mX : Int)) = false := by simp
                  go_wp2_with fail
                  go_ret
                  exact ⟨rfl, HXW.out.2.2.trans (HK.out.mono fun _ _ h => h.elim)⟩
end Go.Proofs.Ytghakgepchlpgaa
