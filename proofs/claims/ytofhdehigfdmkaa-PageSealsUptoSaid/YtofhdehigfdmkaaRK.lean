/- THE WALK of Book's ends. -/
import Derived.Test.YtofhdehigfdmkaaRJ
namespace Go.Proofs.Ytofhdehigfdmkaa
open Go.RowKit
theorem Owns.marks {w : World} {B n c : Nat} {A : Option Addr} {m : UInt8} (h : Owns w B (.slice A n c) (List.replicate n m)) : Rd w w.heap.size A (List.replicate n m) := by
  refine Owns.reads (base := B) (c := c) ?_
  rw [List.length_replicate]
  exact h
theorem Tint.kp {S : Nat → Prop} {m : UInt8} {b : Option Nat} {w w' : World} (h : Tint m b w w') (hs : ∀ k, b = some k → S k) : Kp S w w' :=
  ⟨h.os, h.tape, h.output, h.size, fun k hk hn => h.block k hk fun e => hn (hs k e)⟩
/-- rows that bear their marks -/
def RowsM (w : World) (B N : Nat) (A : Nat → Option Addr) (n c : Nat → Nat) : Prop := ∀ j, j < N → Owns w B (.slice (A j) (n j) (c j)) (List.replicate (n j) (mk j))
/-- and what was made longer of them -/
def LongM (w : World) (B N i d : Nat) (A P : Nat → Option Addr) (n p : Nat → Nat) : Prop :=
  ∀ j, j < i → Owns w B (.slice (P j) (n j + d) (p j)) (List.replicate (n j + d) (mk j)) ∧ ∀ k, ob (P j) = some k → ∀ r, r < N → r ≠ j → ob (A r) ≠ some k
def updF {α : Type} (f : Nat → α) (i : Nat) (x : α) (j : Nat) : α := if j = i then x else f j
theorem updF_same {α : Type} (f : Nat → α) (i : Nat) (x : α) : updF f i x i = x := if_pos rfl
theorem updF_other {α : Type} (f : Nat → α) (i : Nat) (x : α) (j : Nat) (h : j ≠ i) : updF f i x j = f j := if_neg h
/-- the rows' blocks -/
def RB (N : Nat) (A : Nat → Option Addr) (k : Nat) : Prop := ∃ i, i < N ∧ ob (A i) = some k
theorem all_marked (l : List UInt8) (n : Nat) (m : UInt8) (hl : l.length = n) (h : ∀ q, q < n → l.getD q 0 = m) : l = List.replicate n m :=
  Page.list_ext _ _ (by rw [hl, List.length_replicate]) fun i hi => by
    rw [h i (by omega)]
    simp [List.getD, show i < n by omega]
theorem RowsM.tint {w w' : World} {B N i : Nat} {A : Nat → Option Addr} {n c : Nat → Nat} (h : RowsM w B N A n c) (ha : Ap N A) (hi : i < N) (t : Tint (mk i) (ob (A i)) w w') : RowsM w' B N A n c := by
  intro j hj
  by_cases e : j = i
  · subst e
    exact (h j hj).tint t
  · exact (h j hj).far_tint t fun k hk e2 => by
      rw [ob_eq] at hk
      exact ha j i hj hi e k hk e2
theorem LongM.tint {w w' : World} {B N i d : Nat} {A P : Nat → Option Addr} {n p : Nat → Nat} (h : LongM w B N i d A P n p) (hi : i < N) (t : Tint (mk i) (ob (A i)) w w') : LongM w' B N i d A P n p := by
  intro j hj
  refine ⟨(h j hj).1.far_tint t fun k hk e2 => ?_, (h j hj).2⟩
  rw [ob_eq] at hk
  exact (h j hj).2 k hk i hi (by omega) e2
theorem RowsM.five {w w' : World} {B N : Nat} {A : Nat → Option Addr} {n c : Nat → Nat} (h : RowsM w B N A n c) (f : Five w w') : RowsM w' B N A n c := fun j hj => (h j hj).five f
theorem LongM.five {w w' : World} {B N i d : Nat} {A P : Nat → Option Addr} {n p : Nat → Nat} (h : LongM w B N i d A P n p) (f : Five w w') : LongM w' B N i d A P n p := fun j hj => ⟨(h j hj).1.five f, (h j hj).2⟩
theorem LongM.more {w : World} {B N i d : Nat} {A P : Nat → Option Addr} {n p : Nat → Nat} {P1 : Option Addr} {p1 : Nat} (h : LongM w B N i d A P n p) (o : Owns w B (.slice P1 (n i + d) p1) (List.replicate (n i + d) (mk i)))
    (hb : ∀ k, ob P1 = some k → ∀ r, r < N → r ≠ i → ob (A r) ≠ some k) : LongM w B N (i + 1) d A (updF P i P1) n (updF p i p1) := by
  intro j hj
  by_cases e : j = i
  · subst e
    rw [updF_same, updF_same]
    exact ⟨o, hb⟩
  · rw [updF_other _ _ _ _ e, updF_other _ _ _ _ e]
    exact h j (by omega)
set_option maxHeartbeats 4000000 in
set_option maxRecDepth 100000 in
theorem ends_any (B g N : Nat) (A A' : Nat → Option Addr) (n c c' : Nat → Nat) (L0 : Nat → List UInt8) (AL AW : Option Addr) (cL cW : Nat) (w : World) (hblk : Blk w g 43 #[.slice AL N cL, .slice AW N cW]) (hlow : g < B) (hB : B ≤ w.heap.size)
    (hlv : w.ownsRow B 22 1 (.slice AL N cL) N (rowL N A n c)) (hwv : w.ownsRow B 22 1 (.slice AW N cW) N (rowL N A' n c'))
    (hf : Fm w B N A n c L0) (hf' : Fm w B N A' n c' L0) (hap : Ap N A) (hn : ∀ i, i < N → n i ≤ 4096) (hN : N ≤ 1000) :
    Calls Try.prog 30 #[.pointer (some ⟨g, 0, none⟩)] w fun e w' => e = .returned (.bool true) ∧ Kp (fun k => k = g ∨ B ≤ k) w w' := by
  have HBLK := Lib.hid hblk
  have HLOW := Lib.hid (And.intro hlow hB)
  have HLV := Lib.hid hlv
  have HWV := Lib.hid hwv
  have HF := Lib.hid hf
  have HF' := Lib.hid hf'
  have HAP := Lib.hid hap
  have HN := Lib.hid hn
  have HNN := Lib.hid hN
  have hN63 : N ≤ 1000 := hN
  clear hblk hlow hB hlv hwv hf hf' hap hn hN
  go_enter Try.func30, Try.ntmps30
  go_wp2_with fail
  go_loopw [3] (fun iv wr => ∃ i : Nat, i ≤ N ∧ iv = .int .i64 (i : Int) ∧ Kp (fun _ => False) w wr) (fun iv _ => N - (intOf iv).toNat)
  case atStart => exact ⟨0, by omega, rfl, Kp.refl _ _⟩
  case round =>
    obtain ⟨i, hi, rfl, hk⟩ := hrel
    have HK := Lib.hid hk
    have hb := HBLK.out.kp hk (fun h => h)
    have c0 : wr.cell? ⟨g, 0, none⟩ = some (.slice AL N cL) := hb.cell 0
    have c1 : wr.cell? ⟨g, 1, none⟩ = some (.slice AW N cW) := hb.cell 1
    clear hb hk
    by_cases hlt : i < N
    · obtain ⟨gL, cL', hv, hgB, hgs, hcl, -⟩ := rowAt (rowKp HLV.out HK.out fun _ _ h => h) i _ hlt (rowL_get N A n c i hlt)
      injection hv with hv1 _ hv3
      subst hv1 hv3
      obtain ⟨gW, cW', hv, hgB', hgs', hcw, -⟩ := rowAt (rowKp HWV.out HK.out fun _ _ h => h) i _ hlt (rowL_get N A' n c' i hlt)
      injection hv with hv1 _ hv3
      subst hv1 hv3
      have hx := (HF.out i hlt)
      have hy := (HF'.out i hlt)
      have x1 := conv_str (A i) (c i) (L0 i) wr.drew wr.heap.size (by have := (rowKp hx.1 HK.out fun _ _ h => h); rw [← hx.2] at this; exact Owns.reads this)
      have y1 := conv_str (A' i) (c' i) (L0 i) wr.drew wr.heap.size (by have := (rowKp hy.1 HK.out fun _ _ h => h); rw [← hy.2] at this; exact Owns.reads this)
      rw [hx.2] at x1
      rw [hy.2] at y1
      obtain ⟨s, hs⟩ : ∃ s, s = bs (L0 i) := ⟨_, rfl⟩
      rw [← hs] at x1 y1
      obtain ⟨Ai, hAi⟩ : ∃ x, x = A i := ⟨_, rfl⟩
      obtain ⟨Ai', hAi'⟩ : ∃ x, x = A' i := ⟨_, rfl⟩
      obtain ⟨ni, hni⟩ : ∃ x, x = n i := ⟨_, rfl⟩
      obtain ⟨ci, hci⟩ : ∃ x, x = c i := ⟨_, rfl⟩
      obtain ⟨ci', hci'⟩ : ∃ x, x = c' i := ⟨_, rfl⟩
      rw [← hAi, ← hni, ← hci] at x1 hcl
      rw [← hAi', ← hni, ← hci'] at y1 hcw
      have hq : (s.toList == s.toList) = true := by simp
      have S0 := Lib.hid (And.intro (show wr.drew.cell? ⟨g, 0, none⟩ = some (.slice (some ⟨gL, 0, none⟩) N cL) from c0) (And.intro (show wr.drew.cell? ⟨g, 1, none⟩ = some (.slice (some ⟨gW, 0, none⟩) N cW) from c1)
        (And.intro (show wr.drew.cell? ⟨gL, i, none⟩ = some (.slice Ai ni ci) from hcl) (And.intro (show wr.drew.cell? ⟨gW, i, none⟩ = some (.slice Ai' ni ci') from hcw) (And.intro x1 y1)))))
      have hd : decide ((i : Int) < (N : Int)) = true := by simp; omega
      have hd2 : (i : Int) < (N : Int) := by omega
      clear x1 y1 hcl hcw hx hy hs hAi hAi' hni hci hci' hgB hgB' hgs hgs' c1
      go_wp2_with fail
      clear c0
      refine wp_region_held_drew (S := fun W' => W'.cell? ⟨g, 0, none⟩ = some (.slice (some ⟨gL, 0, none⟩) N cL) ∧ W'.cell? ⟨g, 1, none⟩ = some (.slice (some ⟨gW, 0, none⟩) N cW) ∧ W'.cell? ⟨gL, i, none⟩ = some (.slice Ai ni ci) ∧ W'.cell? ⟨gW, i, none⟩ = some (.slice Ai' ni ci') ∧
        (convert 22 9 (.slice Ai ni ci)).run Try.prog W' = .ok (.string s) W' ∧ (convert 22 9 (.slice Ai' ni ci')).run Try.prog W' = .ok (.string s) W') (by kernel_rfl) (by exact S0.out) (fun hHeld => ?_)
      refine takeTo (i := 0) (v := ?_) (some 25) rfl rfl (by kernel_rfl) (by kernel_rfl) (by kernel_rfl) (fun _ _ _ h => h) (Or.inl ⟨by rfl, ?_⟩) (by assumption) ?_
      rotate_left
      · (intro W7 hSw; (try dsimp only at hSw); go_simp; try with_reducible rfl)
      try simp only [Act.put, List.setIfInBounds_toArray, List.set_cons_zero, List.set_cons_succ]
      refine takeTo (i := 1) (v := ?_) (some 26) rfl rfl (by kernel_rfl) (by kernel_rfl) (by kernel_rfl) (fun _ _ _ h => h) (Or.inl ⟨by rfl, ?_⟩) (by assumption) ?_
      rotate_left
      · (intro W7 hSw; (try dsimp only at hSw); go_simp; try with_reducible rfl)
      try simp only [Act.put, List.setIfInBounds_toArray, List.set_cons_zero, List.set_cons_succ]
      refine takeTo (i := 2) (v := ?_) (some 27) rfl rfl (by kernel_rfl) (by kernel_rfl) (by kernel_rfl) (fun _ _ _ h => h) (Or.inl ⟨by rfl, ?_⟩) (by assumption) ?_
      rotate_left
      · (intro W7 hSw; (try dsimp only at hSw); go_simp; try with_reducible rfl)
      try simp only [Act.put, List.setIfInBounds_toArray, List.set_cons_zero, List.set_cons_succ]
      refine takeTo (i := 3) (v := ?_) (some 28) rfl rfl (by kernel_rfl) (by kernel_rfl) (by kernel_rfl) (fun _ _ _ h => h) (Or.inl ⟨by rfl, ?_⟩) (by assumption) ?_
      rotate_left
      · (intro W7 hSw; (try dsimp only at hSw); go_simp; try with_reducible rfl)
      try simp only [Act.put, List.setIfInBounds_toArray, List.set_cons_zero, List.set_cons_succ]
      refine takeTo (i := 4) (v := ?_) (some 29) rfl rfl (by kernel_rfl) (by kernel_rfl) (by kernel_rfl) (fun _ _ _ h => h) (Or.inl ⟨by rfl, ?_⟩) (by assumption) ?_
      rotate_left
      · (intro W7 hSw; (try dsimp only at hSw); go_simp; try with_reducible rfl)
      try simp only [Act.put, List.setIfInBounds_toArray, List.set_cons_zero, List.set_cons_succ]
      refine takeTo (i := 5) (v := ?_) (some 30) rfl rfl (by kernel_rfl) (by kernel_rfl) (by kernel_rfl) (fun _ _ _ h => h) (Or.inl ⟨by rfl, ?_⟩) (by assumption) ?_
      rotate_left
      · (intro W7 hSw; (try dsimp only at hSw); go_simp; try with_reducible rfl)
      try simp only [Act.put, List.setIfInBounds_toArray, List.set_cons_zero, List.set_cons_succ]
      refine takeTo (i := 6) (v := ?_) (some 31) rfl rfl (by kernel_rfl) (by kernel_rfl) (by kernel_rfl) (fun _ _ _ h => h) (Or.inl ⟨by rfl, ?_⟩) (by assumption) ?_
      rotate_left
      · (intro W7 hSw; (try dsimp only at hSw); go_simp; try with_reducible rfl)
      try simp only [Act.put, List.setIfInBounds_toArray, List.set_cons_zero, List.set_cons_succ]
      refine takeTo (i := 7) (v := ?_) (some 32) rfl rfl (by kernel_rfl) (by kernel_rfl) (by kernel_rfl) (fun _ _ _ h => h) (Or.inl ⟨by rfl, ?_⟩) (by assumption) ?_
      rotate_left
      · (intro W7 hSw; (try dsimp only at hSw); go_simp; try with_reducible rfl)
      try simp only [Act.put, List.setIfInBounds_toArray, List.set_cons_zero, List.set_cons_succ]
      refine takeTo (i := 8) (v := ?_) (some 33) rfl rfl (by kernel_rfl) (by kernel_rfl) (by kernel_rfl) (fun _ _ _ h => h) (Or.inl ⟨by rfl, ?_⟩) (by assumption) ?_
      rotate_left
      · (intro W7 hSw; (try dsimp only at hSw); go_simp; try with_reducible rfl)
      try simp only [Act.put, List.setIfInBounds_toArray, List.set_cons_zero, List.set_cons_succ]
      refine takeTo (i := 9) (v := ?_) (some 34) rfl rfl (by kernel_rfl) (by kernel_rfl) (by kernel_rfl) (fun _ _ _ h => h) (Or.inl ⟨by rfl, ?_⟩) (by assumption) ?_
      rotate_left
      · (intro W7 hSw; (try dsimp only at hSw); go_simp; try with_reducible rfl)
      try simp only [Act.put, List.setIfInBounds_toArray, List.set_cons_zero, List.set_cons_succ]
      refine takeTo (i := 10) (v := ?_) (some 35) rfl rfl (by kernel_rfl) (by kernel_rfl) (by kernel_rfl) (fun _ _ _ h => h) (Or.inl ⟨by rfl, ?_⟩) (by assumption) ?_
      rotate_left
      · (intro W7 hSw; (try dsimp only at hSw); go_simp; try with_reducible rfl)
      try simp only [Act.put, List.setIfInBounds_toArray, List.set_cons_zero, List.set_cons_succ]
      refine takeTo (i := 11) (v := ?_) (some 36) rfl rfl (by kernel_rfl) (by kernel_rfl) (by kernel_rfl) (fun _ _ _ h => h) (Or.inl ⟨by rfl, ?_⟩) (by assumption) ?_
      rotate_left
      · (intro W7 hSw; (try dsimp only at hSw); go_simp; try with_reducible rfl)
      try simp only [Act.put, List.setIfInBounds_toArray, List.set_cons_zero, List.set_cons_succ]
      refine takeTo (i := 12) (v := ?_) (some 37) rfl rfl (by kernel_rfl) (by kernel_rfl) (by kernel_rfl) (fun _ _ _ h => h) (Or.inl ⟨by rfl, ?_⟩) (by assumption) ?_
      rotate_left
      · (intro W7 hSw; (try dsimp only at hSw); go_simp; try with_reducible rfl)
      try simp only [Act.put, List.setIfInBounds_toArray, List.set_cons_zero, List.set_cons_succ]
      refine takeTo (i := 13) (v := ?_) (some 38) rfl rfl (by kernel_rfl) (by kernel_rfl) (by kernel_rfl) (fun _ _ _ h => h) (Or.inl ⟨by rfl, ?_⟩) (by assumption) ?_
      rotate_left
      · (intro W7 hSw; (try dsimp only at hSw); go_simp; try with_reducible rfl)
      try simp only [Act.put, List.setIfInBounds_toArray, List.set_cons_zero, List.set_cons_succ]
      refine takeTo (i := 14) (v := ?_) (some 39) rfl rfl (by kernel_rfl) (by kernel_rfl) (by kernel_rfl) (fun _ _ _ h => h) (Or.inl ⟨by rfl, ?_⟩) (by assumption) ?_
      rotate_left
      · (intro W7 hSw; (try dsimp only at hSw); go_simp; try with_reducible rfl)
      try simp only [Act.put, List.setIfInBounds_toArray, List.set_cons_zero, List.set_cons_succ]
      refine takeTo (i := 15) (v := ?_) (some 40) rfl rfl (by kernel_rfl) (by kernel_rfl) (by kernel_rfl) (fun _ _ _ h => h) (Or.inl ⟨by rfl, ?_⟩) (by assumption) ?_
      rotate_left
      · (intro W7 hSw; (try dsimp only at hSw); go_simp; try with_reducible rfl)
      try simp only [Act.put, List.setIfInBounds_toArray, List.set_cons_zero, List.set_cons_succ]
      refine takeTo (i := 16) (v := ?_) (some 41) rfl rfl (by kernel_rfl) (by kernel_rfl) (by kernel_rfl) (fun _ _ _ h => h) (Or.inl ⟨by rfl, ?_⟩) (by assumption) ?_
      rotate_left
      · (intro W7 hSw; (try dsimp only at hSw); go_simp; try with_reducible rfl)
      try simp only [Act.put, List.setIfInBounds_toArray, List.set_cons_zero, List.set_cons_succ]
      refine wpAnyH_done (by kernel_rfl) ?_ _
      clear hHeld S0
      go_wp2_with fail
      go_roundw
      case rel => exact ⟨i + 1, by omega, by go_num, HK.out.drew⟩
      case measure => simp [intOf] <;> omega
    · have hd : decide ((i : Int) < (N : Int)) = false := by simp; omega
      obtain rfl : N = i := by omega
      clear c1
      go_wp2_with fail
      have HNG := Lib.hid (show ¬ RB N A g from fun ⟨j, hj, e⟩ => by
        have h1 := (World.ownsRow.lt (HF.out j hj).1 g (by rw [ob_eq]; exact e)).1
        have h2 := HLOW.out.1
        omega)
      have HNL := Lib.hid (show ∀ k, (Value.slice AL N cL).ownBlock = some k → ¬ RB N A k from fun k hk ⟨j, hj, e⟩ => by
        obtain ⟨cs1, h1⟩ := rowType HLV.out k hk
        obtain ⟨cs2, h2⟩ := rowType (HF.out j hj).1 k (by rw [ob_eq]; exact e)
        exact types_ne h1 h2 (by decide) rfl)
      have K1 := Lib.hid (show Kp (RB N A) w wr from HK.out.mono fun _ _ h => h.elim)
      have F1 := Lib.hid (HF.out.kp HK.out fun _ _ _ _ h => h)
      clear c0 hd HK
      obtain ⟨w1, hw1⟩ : ∃ x, x = wr := ⟨_, rfl⟩
      rw [← hw1] at K1 F1 ⊢
      clear hw1 wr
      go_loopw [4] (fun iv wr => ∃ (i : Nat) (L : Nat → List UInt8), i ≤ N ∧ iv = .int .i64 (i : Int) ∧ Fm wr B N A n c L ∧ (∀ j, j < i → L j = List.replicate (n j) (mk j)) ∧ Kp (RB N A) w wr) (fun iv _ => N - (intOf iv).toNat)
      case atStart => exact ⟨0, L0, by omega, rfl, F1.out, fun j hj => absurd hj (by omega), K1.out⟩
      case round =>
        obtain ⟨i, L, hi, rfl, hF, hM, hk⟩ := hrel
        have HK := Lib.hid (And.intro hF (And.intro hM hk))
        have c0 : wr.cell? ⟨g, 0, none⟩ = some (.slice AL N cL) := (HBLK.out.kp hk HNG.out).cell 0
        clear hF hM hk
        by_cases hlt : i < N
        · have hd : decide ((i : Int) < (N : Int)) = true := by simp; omega
          have hd2 : (i : Int) < (N : Int) := by omega
          go_wp2_with fail
          obtain ⟨ni, hni⟩ : ∃ x, x = n i := ⟨_, rfl⟩
          have NI := Lib.hid hni
          have hni4 : ni ≤ 4096 := by rw [hni]; exact HN.out i hlt
          clear hni c0
          obtain ⟨w2, hw2⟩ : ∃ x, x = wr := ⟨_, rfl⟩
          rw [← hw2] at HK ⊢
          clear hw2 wr
          go_loopw [5] (fun kv wr => ∃ (k : Nat) (L : Nat → List UInt8), k ≤ ni ∧ kv = .int .i64 (k : Int) ∧ Fm wr B N A n c L ∧ (∀ j, j < i → L j = List.replicate (n j) (mk j)) ∧ (∀ q, q < k → (L i).getD q 0 = mk i) ∧ Kp (RB N A) w wr) (fun kv _ => ni - (intOf kv).toNat)
          case atStart => exact ⟨0, L, by omega, rfl, HK.out.1, HK.out.2.1, fun q hq => absurd hq (by omega), HK.out.2.2⟩
          case round =>
            obtain ⟨k, L, hk, rfl, hF, hM, hQ, hkp⟩ := hrel
            have c0 : wr.cell? ⟨g, 0, none⟩ = some (.slice AL N cL) := (HBLK.out.kp hkp HNG.out).cell 0
            obtain ⟨gL, cL', hv, hgB, hgs, hcl, csL, hgL⟩ := rowAt (rowKp HLV.out hkp HNL.out) i _ hlt (rowL_get N A n c i hlt)
            injection hv with hv1 _ hv3
            subst hv1 hv3
            rw [← NI.out] at hcl
            by_cases hkl : k < ni
            · obtain ⟨h1, h2⟩ := hF i hlt
              obtain ⟨b, hb⟩ := h1.addr (by rw [h2, ← NI.out]; omega)
              have h3 := h1
              rw [hb] at h3 hcl
              obtain ⟨ci, hci⟩ : ∃ x, x = c i := ⟨_, rfl⟩
              rw [← hci] at hcl
              have hat := h3.at_ k (by rw [h2, ← NI.out]; exact hkl)
              have hfr := h3.free k
              obtain ⟨x0, hx0⟩ : ∃ x, x = (L i).getD k 0 := ⟨_, rfl⟩
              rw [← hx0] at hat
              have hgb : g ≠ b := fun e => HNG.out ⟨i, hlt, by rw [hb, e]; rfl⟩
              have hgLb : gL ≠ b := fun e => HNL.out gL rfl ⟨i, hlt, by rw [hb, e]; rfl⟩
              have PUT := Lib.hid (hF.put HAP.out i k b (mk i) hlt hb)
              have KPUT := Lib.hid (show Kp (RB N A) w (wr.drew.setCell ⟨b, k, none⟩ (.int .u8 ((mk i).toNat : Int))) from hkp.drew.setCell ⟨b, k, none⟩ ⟨i, hlt, by rw [hb]; rfl⟩ _)
              have HK3 := Lib.hid (And.intro hM (And.intro hQ (And.intro h2 (And.intro hgb hgLb))))
              have hd3 : decide ((k : Int) < (ni : Int)) = true := by simp; omega
              have hd4 : (k : Int) < (ni : Int) := by omega
              have MA := Lib.hid (fun W => mark_any i W (by have := HNN.out; omega))
              obtain ⟨mi, hmi⟩ : ∃ x, x = mk i := ⟨_, rfl⟩
              rw [← hmi] at MA PUT KPUT
              have HMI := Lib.hid hmi
              have S0 := Lib.hid (And.intro (show wr.drew.cell? ⟨g, 0, none⟩ = some (.slice (some ⟨gL, 0, none⟩) N cL) from c0) (show wr.drew.cell? ⟨gL, i, none⟩ = some (.slice (some ⟨b, 0, none⟩) ni ci) from hcl))
              have FR := Lib.hid (And.intro hat hfr)
              clear hF hM hQ hkp h1 h2 h3 hb hx0 hgB hgs hgL hat hfr hci hgb hgLb hmi
              go_wp2_with fail
              clear c0 hcl
              refine wp_region_held_drew (S := fun W' => W'.cell? ⟨g, 0, none⟩ = some (.slice (some ⟨gL, 0, none⟩) N cL) ∧ W'.cell? ⟨gL, i, none⟩ = some (.slice (some ⟨b, 0, none⟩) ni ci)) (by kernel_rfl) (by exact S0.out) (fun hHeld => ?_)
              refine takeTo (i := 0) (v := ?_) (some 63) rfl rfl (by kernel_rfl) (by kernel_rfl) (by kernel_rfl) (fun _ _ _ h => h) (Or.inl ⟨by rfl, ?_⟩) (by assumption) ?_
              rotate_left
              · (intro W7 hSw; (try dsimp only at hSw); go_simp; try with_reducible rfl)
              try simp only [Act.put, List.setIfInBounds_toArray, List.set_cons_zero, List.set_cons_succ]
              refine takeTo (i := 1) (v := ?_) (some 64) rfl rfl (by kernel_rfl) (by kernel_rfl) (by kernel_rfl) (fun _ _ _ h => h) (Or.inl ⟨by rfl, ?_⟩) (by assumption) ?_
              rotate_left
              · (intro W7 hSw; (try dsimp only at hSw); go_simp; try with_reducible rfl)
              try simp only [Act.put, List.setIfInBounds_toArray, List.set_cons_zero, List.set_cons_succ]
              refine takeTo (i := 2) (v := ?_) (some 65) rfl rfl (by kernel_rfl) (by kernel_rfl) (by kernel_rfl) (fun _ _ _ h => h) (Or.inl ⟨by rfl, ?_⟩) (by assumption) ?_
              rotate_left
              · (intro W7 hSw; (try dsimp only at hSw); go_simp; try with_reducible rfl)
              try simp only [Act.put, List.setIfInBounds_toArray, List.set_cons_zero, List.set_cons_succ]
              refine takeTo (i := 3) (v := ?_) (some 66) rfl rfl (by kernel_rfl) (by kernel_rfl) (by kernel_rfl) (fun _ _ _ h => h) (Or.inl ⟨by rfl, ?_⟩) (by assumption) ?_
              rotate_left
              · (intro W7 hSw; (try dsimp only at hSw); go_simp; try with_reducible rfl)
              try simp only [Act.put, List.setIfInBounds_toArray, List.set_cons_zero, List.set_cons_succ]
              refine takeTo (i := 4) (v := ?_) (some 67) rfl rfl (by kernel_rfl) (by kernel_rfl) (by kernel_rfl) (fun _ _ _ h => h) (Or.inl ⟨by rfl, ?_⟩) (by assumption) ?_
              rotate_left
              · (intro W7 hSw; (try dsimp only at hSw); go_simp; try with_reducible rfl)
              try simp only [Act.put, List.setIfInBounds_toArray, List.set_cons_zero, List.set_cons_succ]
              refine takeTo (i := 5) (v := ?_) (some 68) rfl rfl (by kernel_rfl) (by kernel_rfl) (by kernel_rfl) (fun _ _ _ h => h) (Or.inl ⟨by rfl, ?_⟩) (by assumption) ?_
              rotate_left
              · (intro W7 hSw; (try dsimp only at hSw); go_simp; try with_reducible rfl)
              try simp only [Act.put, List.setIfInBounds_toArray, List.set_cons_zero, List.set_cons_succ]
              refine takeTo (i := 6) (v := ?_) (some 69) rfl rfl (by kernel_rfl) (by kernel_rfl) (by kernel_rfl) (fun _ _ _ h => h) (Or.inl ⟨by rfl, ?_⟩) (by assumption) ?_
              rotate_left
              · (intro W7 hSw; (try dsimp only at hSw); go_simp; try with_reducible rfl)
              try simp only [Act.put, List.setIfInBounds_toArray, List.set_cons_zero, List.set_cons_succ]
              refine takeTo (i := 7) (v := ?_) (some 70) rfl rfl (by kernel_rfl) (by kernel_rfl) (by kernel_rfl) (fun _ _ _ h => h) (Or.inl ⟨by rfl, ?_⟩) (by assumption) ?_
              rotate_left
              · (intro W7 hSw; (try dsimp only at hSw); go_simp; try with_reducible rfl)
              try simp only [Act.put, List.setIfInBounds_toArray, List.set_cons_zero, List.set_cons_succ]
              refine takeTo (i := 8) (v := ?_) (some 71) rfl rfl (by kernel_rfl) (by kernel_rfl) (by kernel_rfl) (fun _ _ _ h => h) (Or.inl ⟨by rfl, ?_⟩) (by assumption) ?_
              rotate_left
              · (intro W7 hSw; (try dsimp only at hSw); go_simp; try with_reducible rfl)
              try simp only [Act.put, List.setIfInBounds_toArray, List.set_cons_zero, List.set_cons_succ]
              refine wpAnyH_ready (rs := [9]) (by kernel_rfl) (by simp) ?_
              refine AllReadyH.cons rfl (fun K hK => ?_) AllReadyH.nil
              rw [if_pos (by rfl)]
              go_wp2_with fail
              refine (MA.out _).mono ?_
              rintro e w' ⟨rfl, rfl⟩
              refine hK.out _ _ S0.out (fun hHeld => ?_)
              clear hK K
              try simp only [Act.put, List.setIfInBounds_toArray, List.set_cons_zero, List.set_cons_succ]
              refine takeTo (i := 10) (v := ?_) (some 73) rfl rfl (by kernel_rfl) (by kernel_rfl) (by kernel_rfl) (fun _ _ _ h => h) (Or.inl ⟨by rfl, ?_⟩) (by assumption) ?_
              rotate_left
              · (intro W7 hSw; (try dsimp only at hSw); go_simp; try with_reducible rfl)
              try simp only [Act.put, List.setIfInBounds_toArray, List.set_cons_zero, List.set_cons_succ]
              refine wpAnyH_ready (rs := [11]) (by kernel_rfl) (by simp) ?_
              refine AllReadyH.cons rfl (fun K hK => ?_) AllReadyH.nil
              rw [if_pos (by rfl)]
              have fat : wr.drew.cell? ⟨b, k, none⟩ = some (.int .u8 (x0.toNat : Int)) := FR.out.1
              have ffr : wr.drew.frozen? ⟨b, k, none⟩ = false := FR.out.2
              go_wp2_with fail
              have S1 := Lib.hid (show (wr.drew.setCell ⟨b, k, none⟩ (.int .u8 (mi.toNat : Int))).cell? ⟨g, 0, none⟩ = some (.slice (some ⟨gL, 0, none⟩) N cL) ∧ (wr.drew.setCell ⟨b, k, none⟩ (.int .u8 (mi.toNat : Int))).cell? ⟨gL, i, none⟩ = some (.slice (some ⟨b, 0, none⟩) ni ci) from
                ⟨by rw [World.cell?_setCell_far _ _ _ _ (fun e => HK3.out.2.2.2.1 e.symm)]; exact S0.out.1, by rw [World.cell?_setCell_far _ _ _ _ (fun e => HK3.out.2.2.2.2 e.symm)]; exact S0.out.2⟩)
              refine hK.out _ _ S1.out (fun hHeld => ?_)
              clear hK K
              try simp only [Act.put, List.setIfInBounds_toArray, List.set_cons_zero, List.set_cons_succ]
              clear fat ffr
              refine wpAnyH_done (by kernel_rfl) ?_ _
              clear hHeld S0 S1
              go_wp2_with fail
              go_roundw
              case rel =>
                refine ⟨k + 1, updL L i k mi, by omega, by go_num, PUT.out, fun j hj => ?_, fun q hq => ?_, KPUT.out⟩
                · unfold updL
                  rw [if_neg (by omega)]
                  exact HK3.out.1 j hj
                · unfold updL
                  rw [if_pos rfl, HMI.out]
                  by_cases hqk : q = k
                  · subst hqk
                    rw [List.getD_eq_getElem?_getD, List.getElem?_set_self (by rw [HK3.out.2.2.1, ← NI.out]; exact hkl)]
                    rfl
                  · rw [List.getD_eq_getElem?_getD, List.getElem?_set_ne (fun e => hqk e.symm), ← List.getD_eq_getElem?_getD]
                    exact HK3.out.2.1 q (by omega)
              case measure => simp [intOf] <;> omega
            · obtain rfl : k = ni := by omega
              have hd3 : decide ((k : Int) < (k : Int)) = false := by simp
              have HK3 := Lib.hid (And.intro hF (And.intro hM (And.intro hQ hkp)))
              clear hF hM hQ hkp hgB hgs hgL
              go_wp2_with fail
              go_roundw
              case rel =>
                refine ⟨i + 1, L, by omega, by go_num, HK3.out.1, fun j hj => ?_, HK3.out.2.2.2⟩
                by_cases hji : j < i
                · exact HK3.out.2.1 j hji
                · obtain rfl : j = i := by omega
                  exact all_marked _ _ _ (HK3.out.1 j hlt).2 (by rw [← NI.out]; exact HK3.out.2.2.1)
              case measure => simp [intOf] <;> omega
        · obtain rfl : N = i := by omega
          have hd : decide ((N : Int) < (N : Int)) = false := by simp
          go_wp2_with fail
          have R3 := Lib.hid (show RowsM wr B N A n c from fun j hj => by rw [← HK.out.2.1 j hj]; exact (HK.out.1 j hj).1)
          have K3 := Lib.hid HK.out.2.2
          clear HK c0 hd
          obtain ⟨w3, hw3⟩ : ∃ x, x = wr := ⟨_, rfl⟩
          rw [← hw3] at R3 K3 ⊢
          clear hw3 wr
          go_loopw [6, 7] (fun lv iv wr => ∃ (i mX : Nat) (AO : Option Addr) (cO : Nat) (xs : List Value) (P Q : Nat → Option Addr) (p q : Nat → Nat), i ≤ N ∧ iv = .int .i64 (i : Int) ∧ lv = .slice AO mX cO ∧ mX = 2 * i ∧ mX = xs.length ∧ wr.ownsRow w.heap.size 22 1 (.slice AO mX cO) mX xs ∧
            (∀ j, j < i → xs[2 * j]? = some (.slice (P j) (n j + 20) (p j)) ∧ xs[2 * j + 1]? = some (.slice (Q j) (n j + 90) (q j))) ∧ RowsM wr B N A n c ∧ LongM wr B N i 20 A P n p ∧ LongM wr B N i 90 A Q n q ∧ Kp (RB N A) w wr) (fun _ iv _ => N - (intOf iv).toNat)
          case atStart => exact ⟨0, 0, none, 0, [], fun _ => none, fun _ => none, fun _ => 0, fun _ => 0, by omega, rfl, rfl, rfl, rfl, World.ownsRow_nil _ _ _ _, fun j hj => absurd hj (by omega), R3.out, fun j hj => absurd hj (by omega), fun j hj => absurd hj (by omega), K3.out⟩
          case round =>
            obtain ⟨i, mX, AO, cO, xs, P, Q, p, q, hi, rfl, rfl, hmX, hmX2, hX, hXS, hR, hP, hQ, hk⟩ := hrel
            have c0 : wr.cell? ⟨g, 0, none⟩ = some (.slice AL N cL) := (HBLK.out.kp hk HNG.out).cell 0
            have HX := Lib.hid (And.intro hmX (And.intro hmX2 (And.intro hX (And.intro hXS (And.intro hR (And.intro hP (And.intro hQ hk)))))))
            clear hmX hmX2 hX hXS hR hP hQ hk
            by_cases hlt : i < N
            · have hd : decide ((i : Int) < (N : Int)) = true := by simp; omega
              have hd2 : (i : Int) < (N : Int) := by omega
              obtain ⟨gL, cL', hv, hgB, hgs, hcl, csL, hgL⟩ := rowAt (rowKp HLV.out HX.out.2.2.2.2.2.2.2 HNL.out) i _ hlt (rowL_get N A n c i hlt)
              injection hv with hv1 _ hv3
              subst hv1 hv3
              obtain ⟨ni, hni⟩ : ∃ x, x = n i := ⟨_, rfl⟩
              obtain ⟨ci, hci⟩ : ∃ x, x = c i := ⟨_, rfl⟩
              obtain ⟨Ai, hAi⟩ : ∃ x, x = A i := ⟨_, rfl⟩
              rw [← hni, ← hci, ← hAi] at hcl
              have MA := Lib.hid (fun W => mark_any i W (by have := HNN.out; omega))
              obtain ⟨mi, hmi⟩ : ∃ x, x = mk i := ⟨_, rfl⟩
              rw [← hmi] at MA
              have NI := Lib.hid (And.intro hni (And.intro hci (And.intro hAi hmi)))
              have hni4 : ni ≤ 4096 := by rw [hni]; exact HN.out i hlt
              have RI := Lib.hid (show Owns wr B (.slice Ai ni ci) (List.replicate ni mi) by rw [hni, hci, hAi, hmi]; exact HX.out.2.2.2.2.1 i hlt)
              have HB4 := Lib.hid (show B ≤ wr.heap.size by have h1 := HX.out.2.2.2.2.2.2.2.size; have h2 := HLOW.out.2; omega)
              have HGL := Lib.hid (show ∀ (m : UInt8) (W : World), Tint m (ob Ai) wr W → W.cell? ⟨g, 0, none⟩ = some (.slice (some ⟨gL, 0, none⟩) N cL) ∧ W.cell? ⟨gL, i, none⟩ = some (.slice Ai ni ci) from fun m W t =>
                ⟨by rw [World.cell?_of_block (t.block g (HBLK.out.kp HX.out.2.2.2.2.2.2.2 HNG.out).lt (fun e => HNG.out ⟨i, hlt, by rw [← hAi]; exact e⟩))]; exact c0,
                 by rw [World.cell?_of_block (t.block gL hgs (fun e => HNL.out gL rfl ⟨i, hlt, by rw [← hAi]; exact e⟩))]; exact hcl⟩)
              clear hni hci hAi hmi hgB hgL hgs
              go_wp2_with fail
              clear c0 hcl hd hd2
              obtain ⟨w4, hw4⟩ : ∃ x, x = wr := ⟨_, rfl⟩
              rw [← hw4] at HX RI HB4 HGL ⊢
              clear hw4 wr
              go_loopw [8, 9] (fun gv kv wr => ∃ (k : Nat) (A1 : Option Addr) (c1 : Nat), k ≤ 20 ∧ kv = .int .i64 (k : Int) ∧ gv = .slice A1 (ni + k) c1 ∧ Owns wr B (.slice A1 (ni + k) c1) (List.replicate (ni + k) mi) ∧ Tint mi (ob Ai) w4 wr ∧ (∀ b, ob A1 = some b → ob Ai = some b ∨ w4.heap.size ≤ b)) (fun _ kv _ => 20 - (intOf kv).toNat)
              case atStart => exact ⟨0, Ai, ci, by omega, rfl, rfl, RI.out, Tint.refl _ _ _, fun b hb => .inl hb⟩
              case round =>
                obtain ⟨k, A1, c1, hk, rfl, rfl, hO, hT, hA⟩ := hrel
                have H1 := Lib.hid (And.intro hO (And.intro hT hA))
                clear hO hT hA
                by_cases hk20 : k < 20
                · have hd3 : decide ((k : Int) < 20) = true := by simp; omega
                  have hB1 : B ≤ wr.heap.size := by have h1 := H1.out.2.1.size; have h2 := HB4.out; omega
                  have HB1 := Lib.hid hB1
                  clear hB1
                  go_wp2_with (first
                    | (go_at_call 51; refine (MA.out _).mono ?_; rintro e w' ⟨rfl, rfl⟩)
                    | (at_builtin
                       refine wpList_append_tint rfl (.tmp 94) (.tmp 97) rfl B (ni + k) c1 mi A1 rfl (World.ownsRow.alloc H1.out.1 _) wr.heap.size 1 rfl (Blk.new wr 5 #[byteV mi]) (by omega) (by have := HB1.out; simp; omega) ?_
                       intro A2 c2 w2 o2 t2 b2
                       have T2 := Lib.hid (show Tint mi (ob Ai) w4 w2 from (H1.out.2.1.trans (Tint.of_below ((Below.refl _ _).alloc (Nat.le_refl _) _))).since t2 (fun b hb => by rw [ob_eq] at hb; exact H1.out.2.2 b hb))
                       have B2 := Lib.hid (show ∀ b, ob A2 = some b → ob Ai = some b ∨ w4.heap.size ≤ b from fun b hb => by
                         rcases b2 b (by rw [ob_eq]; exact hb) with h | h
                         · rw [ob_eq] at h; exact H1.out.2.2 b h
                         · have h1 := H1.out.2.1.size
                           simp at h
                           right; omega)
                       have O2 := Lib.hid o2
                       clear o2 t2 b2))
                  go_roundw
                  case rel => exact ⟨k + 1, A2, c2, by omega, by go_num, rfl, O2.out, T2.out, B2.out⟩
                  case measure => simp [intOf] <;> omega
                · obtain rfl : k = 20 := by omega
                  rw [show ((20 : Nat) : Int) = 20 from rfl]
                  have cc := HGL.out mi wr H1.out.2.1
                  obtain ⟨c0, hcl⟩ := cc
                  clear HGL
                  obtain ⟨w5, hw5⟩ : ∃ x, x = wr := ⟨_, rfl⟩
                  rw [← hw5] at H1 c0 hcl ⊢
                  clear hw5 wr
                  go_wp2_with fail
                  clear c0 hcl
                  have RI5 := Lib.hid (RI.out.tint H1.out.2.1)
                  have HB5 := Lib.hid (show B ≤ w5.heap.size by have h1 := H1.out.2.1.size; have h2 := HB4.out; omega)
                  have H5 := Lib.hid H1.out
                  clear H1 RI
                  clear hk hk20
                  go_loopw [10, 11] (fun gv kv wr => ∃ (k : Nat) (E1 : Option Addr) (e1 : Nat), k ≤ 90 ∧ kv = .int .i64 (k : Int) ∧ gv = .slice E1 (ni + k) e1 ∧ Owns wr B (.slice E1 (ni + k) e1) (List.replicate (ni + k) mi) ∧ Tint mi (ob Ai) w5 wr ∧ (∀ b, ob E1 = some b → ob Ai = some b ∨ w5.heap.size ≤ b)) (fun _ kv _ => 90 - (intOf kv).toNat)
                  case atStart => exact ⟨0, Ai, ci, by omega, rfl, rfl, RI5.out, Tint.refl _ _ _, fun b hb => .inl hb⟩
                  case round =>
                    obtain ⟨k, E1, e1, hk, rfl, rfl, hO, hT, hA⟩ := hrel
                    have H6 := Lib.hid (And.intro hO (And.intro hT hA))
                    clear hO hT hA
                    by_cases hk20 : k < 90
                    · have hd3 : decide ((k : Int) < 90) = true := by simp; omega
                      have hB1 : B ≤ wr.heap.size := by have h1 := H6.out.2.1.size; have h2 := HB5.out; omega
                      have HB1 := Lib.hid hB1
                      clear hB1
                      go_wp2_with (first
                        | (go_at_call 51; refine (MA.out _).mono ?_; rintro e w' ⟨rfl, rfl⟩)
                        | (at_builtin
                           refine wpList_append_tint rfl (.tmp 110) (.tmp 113) rfl B (ni + k) e1 mi E1 rfl (World.ownsRow.alloc H6.out.1 _) wr.heap.size 1 rfl (Blk.new wr 5 #[byteV mi]) (by omega) (by have := HB1.out; simp; omega) ?_
                           intro E2 e2 v2 u2_ t2_ b2_
                           have V2 := Lib.hid (show Tint mi (ob Ai) w5 v2 from (H6.out.2.1.trans (Tint.of_below ((Below.refl _ _).alloc (Nat.le_refl _) _))).since t2_ (fun b hb => by rw [ob_eq] at hb; exact H6.out.2.2 b hb))
                           have X2 := Lib.hid (show ∀ b, ob E2 = some b → ob Ai = some b ∨ w5.heap.size ≤ b from fun b hb => by
                             rcases b2_ b (by rw [ob_eq]; exact hb) with h | h
                             · rw [ob_eq] at h; exact H6.out.2.2 b h
                             · have h1 := H6.out.2.1.size
                               simp at h
                               right; omega)
                           have U2 := Lib.hid u2_
                           clear u2_ t2_ b2_))
                      go_roundw
                      case rel => exact ⟨k + 1, E2, e2, by omega, by go_num, rfl, U2.out, V2.out, X2.out⟩
                      case measure => simp [intOf] <;> omega
                    · obtain rfl : k = 90 := by omega
                      rw [show ((90 : Nat) : Int) = 90 from rfl]
                      have cc := H6.out
                      have D := Lib.hid (show RowsM wr B N A n c ∧ LongM wr B N i 20 A P n p ∧ LongM wr B N i 90 A Q n q from by
                        have t1 : Tint (mk i) (ob (A i)) w4 w5 := by rw [← NI.out.2.2.1, ← NI.out.2.2.2]; exact H5.out.2.1
                        have t2 : Tint (mk i) (ob (A i)) w5 wr := by rw [← NI.out.2.2.1, ← NI.out.2.2.2]; exact H6.out.2.1
                        exact ⟨(HX.out.2.2.2.2.1.tint HAP.out hlt t1).tint HAP.out hlt t2, (HX.out.2.2.2.2.2.1.tint hlt t1).tint hlt t2, (HX.out.2.2.2.2.2.2.1.tint hlt t1).tint hlt t2⟩)
                      have G6 := Lib.hid (show Owns wr B (.slice A1 (ni + 20) c1) (List.replicate (ni + 20) mi) from H5.out.1.tint H6.out.2.1)
                      have RBi := Lib.hid (show ∀ k, ob Ai = some k → RB N A k from fun k hk => ⟨i, hlt, by rw [← NI.out.2.2.1]; exact hk⟩)
                      have K6 := Lib.hid (show Kp (RB N A) w wr from (HX.out.2.2.2.2.2.2.2.trans (H5.out.2.1.kp RBi.out)).trans (H6.out.2.1.kp RBi.out))
                      have far : ∀ k, (Value.slice AO mX cO).ownBlock = some k → ob Ai ≠ some k := fun k hk e => by
                        obtain ⟨cs1, h1⟩ := rowType HX.out.2.2.1 k hk
                        obtain ⟨cs2, h2⟩ := rowType (HX.out.2.2.2.2.1 i hlt) k (by rw [ob_eq, ← NI.out.2.2.1]; exact e)
                        exact types_ne h1 h2 (by decide) rfl
                      have X6 := Lib.hid (rowTint (rowTint HX.out.2.2.1 H5.out.2.1 far) H6.out.2.1 far)
                      clear cc far RI5
                      obtain ⟨n20, h20⟩ : ∃ x, x = ni + 20 := ⟨_, rfl⟩
                      obtain ⟨n90, h90⟩ : ∃ x, x = ni + 90 := ⟨_, rfl⟩
                      rw [← h20] at G6 ⊢
                      have J6 := Lib.hid (show Owns wr B (.slice E1 n90 e1) (List.replicate n90 mi) by rw [h90]; exact H6.out.1)
                      rw [← h90]
                      have HS := Lib.hid (And.intro h20 h90)
                      clear h20 h90
                      go_wp2_with (first
                        | (at_builtin
                           refine wpList_append_sl rfl (.tmp 115) (.tmp 118) rfl w.heap.size (.slice AO mX cO) xs [.slice A1 n20 c1, .slice E1 n90 e1] rfl (by rw [← HX.out.2.1]; exact World.ownsRow.alloc X6.out _) wr.heap.size 2 rfl (Blk.new wr 22 #[.slice A1 n20 c1, .slice E1 n90 e1]) (by simp [Value.oneCell']) (by have := HX.out.1; have := HX.out.2.1; simp; omega) (by have := K6.out.size; simp; omega) ?_
                           intro v7 w7 o7 g7
                           obtain ⟨A7, c7, rfl⟩ := rowShape o7
                           have O7 := Lib.hid o7
                           have G7 := Lib.hid g7
                           obtain ⟨m7, hm7⟩ : ∃ m, m = (xs ++ [Value.slice A1 n20 c1, .slice E1 n90 e1]).length := ⟨_, rfl⟩
                           rw [← hm7] at O7 G7 ⊢
                           have M7 := Lib.hid hm7
                           clear hm7 o7 g7))
                      have X6a : (wr.alloc (.cells #[.slice A1 n20 c1, .slice E1 n90 e1] 22)).ownsRow w.heap.size 22 1 (.slice AO mX cO) mX xs := World.ownsRow.alloc X6.out _
                      have f7 : Five wr w7 := (Five.of_below ((Below.refl _ _).alloc (Nat.le_refl _) _)).trans (grew_five G7.out X6a)
                      have k7 : Kp (RB N A) w w7 := (K6.out.alloc _).since (T := fun k => (Value.slice AO mX cO).ownBlock = some k) (Kp.of_grown G7.out.1 fun _ e => e) fun k e => .inr (World.ownsRow.lt X6a k e).1
                      have H7 := Lib.hid (And.intro f7 k7)
                      clear f7 k7 X6a
                      go_roundw
                      case rel =>
                        refine ⟨i + 1, m7, A7, c7, _, updF P i A1, updF Q i E1, updF p i c1, updF q i e1, by omega, by go_num, rfl, ?_, M7.out, O7.out, ?_, D.out.1.five H7.out.1, ?_, ?_, H7.out.2⟩
                        · rw [M7.out, List.length_append, ← HX.out.2.1, HX.out.1]; simp; omega
                        · intro j hj
                          have hxl : xs.length = 2 * i := by rw [← HX.out.2.1, HX.out.1]
                          by_cases hji : j = i
                          · subst hji
                            rw [updF_same, updF_same, updF_same, updF_same, List.getElem?_append_right (by omega), List.getElem?_append_right (by omega), hxl, Nat.sub_self, show 2 * j + 1 - 2 * j = 1 by omega, ← NI.out.1, ← HS.out.1, ← HS.out.2]
                            exact ⟨rfl, rfl⟩
                          · rw [updF_other _ _ _ _ hji, updF_other _ _ _ _ hji, updF_other _ _ _ _ hji, updF_other _ _ _ _ hji, List.getElem?_append_left (by omega), List.getElem?_append_left (by omega)]
                            exact HX.out.2.2.2.1 j (by omega)
                        · refine (D.out.2.1.more ?_ ?_).five H7.out.1
                          · rw [← NI.out.1, ← NI.out.2.2.2, ← HS.out.1]; exact G6.out
                          · intro k hk r hr hri e
                            rcases H5.out.2.2 k hk with h | h
                            · rw [NI.out.2.2.1] at h
                              exact HAP.out r i hr hlt hri k e h
                            · have := (World.ownsRow.lt (HX.out.2.2.2.2.1 r hr) k (by rw [ob_eq]; exact e)).2
                              omega
                        · refine (D.out.2.2.more ?_ ?_).five H7.out.1
                          · rw [← NI.out.1, ← NI.out.2.2.2, ← HS.out.2]; exact J6.out
                          · intro k hk r hr hri e
                            rcases H6.out.2.2 k hk with h | h
                            · rw [NI.out.2.2.1] at h
                              exact HAP.out r i hr hlt hri k e h
                            · have := (World.ownsRow.lt (HX.out.2.2.2.2.1 r hr) k (by rw [ob_eq]; exact e)).2
                              have := H5.out.2.1.size
                              omega
                      case measure => simp [intOf] <;> omega
            · obtain rfl : N = i := by omega
              have hd : decide ((N : Int) < (N : Int)) = false := by simp
              go_wp2_with fail
              clear c0 hd hlt
              obtain ⟨w6, hw6⟩ : ∃ x, x = wr := ⟨_, rfl⟩
              rw [← hw6] at HX ⊢
              clear hw6 wr
              go_loopw [12] (fun iv wr => ∃ i : Nat, i ≤ N ∧ iv = .int .i64 (i : Int) ∧ Kp (fun _ => False) w6 wr) (fun iv _ => N - (intOf iv).toNat)
              case atStart => exact ⟨0, by omega, rfl, Kp.refl _ _⟩
              case round =>
                obtain ⟨i, hi, rfl, hk⟩ := hrel
                have HK := Lib.hid hk
                have KA := Lib.hid (show Kp (RB N A) w wr from HX.out.2.2.2.2.2.2.2.trans (hk.mono fun _ _ h => h.elim))
                have c0 : wr.cell? ⟨g, 0, none⟩ = some (.slice AL N cL) := (HBLK.out.kp KA.out HNG.out).cell 0
                clear hk
                by_cases hlt : i < N
                · obtain ⟨gL, cL', hv, hgB, hgs, hcl, -⟩ := rowAt (rowKp HLV.out KA.out HNL.out) i _ hlt (rowL_get N A n c i hlt)
                  injection hv with hv1 _ hv3
                  subst hv1 hv3
                  obtain ⟨j1, hj1⟩ : ∃ j, j = 2 * i := ⟨_, rfl⟩
                  obtain ⟨j2, hj2⟩ : ∃ j, j = j1 + 1 := ⟨_, rfl⟩
                  have hx := HX.out.2.2.2.1 i hlt
                  rw [← hj1, ← hj2] at hx
                  have XW := rowKp HX.out.2.2.1 HK.out fun _ _ h => h
                  obtain ⟨gO, cO', hv, hgB', hgs', hc1, -⟩ := rowAt XW j1 _ (by have := HX.out.1; omega) hx.1
                  injection hv with hv1 _ hv3
                  subst hv1 hv3
                  obtain ⟨gO', cO', hv, hgB', hgs'', hc2, -⟩ := rowAt XW j2 _ (by have := HX.out.1; omega) hx.2
                  injection hv with hv1 _ hv3
                  injection hv1 with hv1
                  injection hv1 with hv1 _ _
                  subst hv1 hv3
                  have NF : ∀ (m : UInt8) (W : World), Kp (fun _ => False) w6 W → Kp (fun _ => False) w6 W := fun _ _ h => h
                  clear NF
                  have MA := Lib.hid (fun W => mark_any i W (by have := HNN.out; omega))
                  have FA := Lib.hid (show ∀ W, Kp (fun _ => False) w6 W → Calls Try.prog 52 #[.slice (A i) (n i) (c i), .int .u8 ((mk i).toNat : Int)] W fun e w' => e = .returned (.bool true) ∧ W = w' from fun W hW =>
                    full_any (A i) (c i) (n i) W.heap.size (mk i) W (Owns.marks (rowKp (HX.out.2.2.2.2.1 i hlt) hW fun _ _ h => h)) (by have := HN.out i hlt; omega))
                  have FP := Lib.hid (show ∀ W, Kp (fun _ => False) w6 W → Calls Try.prog 52 #[.slice (P i) (n i + 20) (p i), .int .u8 ((mk i).toNat : Int)] W fun e w' => e = .returned (.bool true) ∧ W = w' from fun W hW =>
                    full_any (P i) (p i) (n i + 20) W.heap.size (mk i) W (Owns.marks (rowKp (HX.out.2.2.2.2.2.1 i hlt).1 hW fun _ _ h => h)) (by have := HN.out i hlt; omega))
                  have FQ := Lib.hid (show ∀ W, Kp (fun _ => False) w6 W → Calls Try.prog 52 #[.slice (Q i) (n i + 90) (q i), .int .u8 ((mk i).toNat : Int)] W fun e w' => e = .returned (.bool true) ∧ W = w' from fun W hW =>
                    full_any (Q i) (q i) (n i + 90) W.heap.size (mk i) W (Owns.marks (rowKp (HX.out.2.2.2.2.2.2.1 i hlt).1 hW fun _ _ h => h)) (by have := HN.out i hlt; omega))
                  obtain ⟨mi, hmi⟩ : ∃ x, x = mk i := ⟨_, rfl⟩
                  obtain ⟨va, hva⟩ : ∃ x, x = n i := ⟨_, rfl⟩
                  obtain ⟨vp, hvp⟩ : ∃ x, x = n i + 20 := ⟨_, rfl⟩
                  obtain ⟨vq, hvq⟩ : ∃ x, x = n i + 90 := ⟨_, rfl⟩
                  rw [← hmi] at MA FA FP FQ
                  rw [← hva] at FA hcl
                  rw [← hvp] at FP hc1
                  rw [← hvq] at FQ hc2
                  generalize A i = Ai at FA hcl
                  generalize c i = ci at FA hcl
                  generalize P i = Pi at FP hc1
                  generalize p i = pi at FP hc1
                  generalize Q i = Qi at FQ hc2
                  generalize q i = qi at FQ hc2
                  have S0 := Lib.hid (And.intro (show wr.drew.cell? ⟨g, 0, none⟩ = some (.slice (some ⟨gL, 0, none⟩) N cL) from c0) (show wr.drew.cell? ⟨gL, i, none⟩ = some (.slice Ai va ci) from hcl))
                  have C1 := Lib.hid hc1
                  have C2 := Lib.hid hc2
                  have iN : i ≤ 1000 := by omega
                  have ej1 : 2 * (i : Int) = (j1 : Int) := by omega
                  have wj1 : IntKind.i64.wrap (j1 : Int) = (j1 : Int) := by rw [IntKind.wrap_i64]; omega
                  have wj2 : IntKind.i64.wrap ((j1 : Int) + 1) = (j2 : Int) := by rw [IntKind.wrap_i64]; omega
                  have lj1 : (j1 : Int) < (mX : Int) := by have := HX.out.1; omega
                  have lj2 : (j2 : Int) < (mX : Int) := by have := HX.out.1; omega
                  have hd : decide ((i : Int) < (N : Int)) = true := by simp; omega
                  have hd2 : (i : Int) < (N : Int) := by omega
                  clear hcl hc1 hc2 hx XW hgB hgs hgB' hgs' hgs'' hva hvp hvq hmi hj1 hj2
                  go_wp2_with fail
                  clear c0
                  refine wp_region_held_drew (S := fun W' => W'.cell? ⟨g, 0, none⟩ = some (.slice (some ⟨gL, 0, none⟩) N cL) ∧ W'.cell? ⟨gL, i, none⟩ = some (.slice Ai va ci)) (by kernel_rfl) (by exact S0.out) (fun hHeld => ?_)
                  refine takeTo (i := 0) (v := ?_) (some 129) rfl rfl (by kernel_rfl) (by kernel_rfl) (by kernel_rfl) (fun _ _ _ h => h) (Or.inl ⟨by rfl, ?_⟩) (by assumption) ?_
                  rotate_left
                  · (intro W7 hSw; (try dsimp only at hSw); go_simp; try with_reducible rfl)
                  try simp only [Act.put, List.setIfInBounds_toArray, List.set_cons_zero, List.set_cons_succ]
                  refine takeTo (i := 1) (v := ?_) (some 130) rfl rfl (by kernel_rfl) (by kernel_rfl) (by kernel_rfl) (fun _ _ _ h => h) (Or.inl ⟨by rfl, ?_⟩) (by assumption) ?_
                  rotate_left
                  · (intro W7 hSw; (try dsimp only at hSw); go_simp; try with_reducible rfl)
                  try simp only [Act.put, List.setIfInBounds_toArray, List.set_cons_zero, List.set_cons_succ]
                  refine takeTo (i := 2) (v := ?_) (some 131) rfl rfl (by kernel_rfl) (by kernel_rfl) (by kernel_rfl) (fun _ _ _ h => h) (Or.inl ⟨by rfl, ?_⟩) (by assumption) ?_
                  rotate_left
                  · (intro W7 hSw; (try dsimp only at hSw); go_simp; try with_reducible rfl)
                  try simp only [Act.put, List.setIfInBounds_toArray, List.set_cons_zero, List.set_cons_succ]
                  refine takeTo (i := 3) (v := ?_) (some 132) rfl rfl (by kernel_rfl) (by kernel_rfl) (by kernel_rfl) (fun _ _ _ h => h) (Or.inl ⟨by rfl, ?_⟩) (by assumption) ?_
                  rotate_left
                  · (intro W7 hSw; (try dsimp only at hSw); go_simp; try with_reducible rfl)
                  try simp only [Act.put, List.setIfInBounds_toArray, List.set_cons_zero, List.set_cons_succ]
                  refine takeTo (i := 4) (v := ?_) (some 133) rfl rfl (by kernel_rfl) (by kernel_rfl) (by kernel_rfl) (fun _ _ _ h => h) (Or.inl ⟨by rfl, ?_⟩) (by assumption) ?_
                  rotate_left
                  · (intro W7 hSw; (try dsimp only at hSw); go_simp; try with_reducible rfl)
                  try simp only [Act.put, List.setIfInBounds_toArray, List.set_cons_zero, List.set_cons_succ]
                  refine takeTo (i := 5) (v := ?_) (some 134) rfl rfl (by kernel_rfl) (by kernel_rfl) (by kernel_rfl) (fun _ _ _ h => h) (Or.inl ⟨by rfl, ?_⟩) (by assumption) ?_
                  rotate_left
                  · (intro W7 hSw; (try dsimp only at hSw); go_simp; try with_reducible rfl)
                  try simp only [Act.put, List.setIfInBounds_toArray, List.set_cons_zero, List.set_cons_succ]
                  refine takeTo (i := 6) (v := ?_) (some 135) rfl rfl (by kernel_rfl) (by kernel_rfl) (by kernel_rfl) (fun _ _ _ h => h) (Or.inl ⟨by rfl, ?_⟩) (by assumption) ?_
                  rotate_left
                  · (intro W7 hSw; (try dsimp only at hSw); go_simp; try with_reducible rfl)
                  try simp only [Act.put, List.setIfInBounds_toArray, List.set_cons_zero, List.set_cons_succ]
                  refine takeTo (i := 7) (v := ?_) (some 136) rfl rfl (by kernel_rfl) (by kernel_rfl) (by kernel_rfl) (fun _ _ _ h => h) (Or.inl ⟨by rfl, ?_⟩) (by assumption) ?_
                  rotate_left
                  · (intro W7 hSw; (try dsimp only at hSw); go_simp; try with_reducible rfl)
                  try simp only [Act.put, List.setIfInBounds_toArray, List.set_cons_zero, List.set_cons_succ]
                  refine wpAnyH_ready (rs := [8]) (by kernel_rfl) (by simp) ?_
                  refine AllReadyH.cons rfl (fun K hK => ?_) AllReadyH.nil
                  rw [if_pos (by rfl)]
                  go_wp2_with fail
                  refine (MA.out _).mono ?_
                  rintro e w' ⟨rfl, rfl⟩
                  refine hK.out _ _ S0.out (fun hHeld => ?_)
                  clear hK K
                  try simp only [Act.put, List.setIfInBounds_toArray, List.set_cons_zero, List.set_cons_succ]
                  refine wpAnyH_ready (rs := [9]) (by kernel_rfl) (by simp) ?_
                  refine AllReadyH.cons rfl (fun K hK => ?_) AllReadyH.nil
                  rw [if_pos (by rfl)]
                  go_wp2_with fail
                  refine (FA.out _ HK.out.drew).mono ?_
                  rintro e w' ⟨rfl, rfl⟩
                  refine hK.out _ _ S0.out (fun hHeld => ?_)
                  clear hK K
                  try simp only [Act.put, List.setIfInBounds_toArray, List.set_cons_zero, List.set_cons_succ]
                  refine takeTo (i := 10) (v := ?_) (some 13) rfl rfl (by kernel_rfl) (by kernel_rfl) (by kernel_rfl) (fun _ _ _ h => h) (Or.inl ⟨by rfl, ?_⟩) (by assumption) ?_
                  rotate_left
                  · (intro W7 hSw; (try dsimp only at hSw); go_simp; try with_reducible rfl)
                  try simp only [Act.put, List.setIfInBounds_toArray, List.set_cons_zero, List.set_cons_succ]
                  refine wpAnyH_done (by kernel_rfl) ?_ _
                  have KD := Lib.hid HK.out.drew
                  have C1' := Lib.hid (show wr.drew.cell? ⟨gO, j1, none⟩ = _ from C1.out)
                  have C2' := Lib.hid (show wr.drew.cell? ⟨gO, j2, none⟩ = _ from C2.out)
                  clear hHeld S0 C1 C2
                  go_wp2_with fail
                  refine wp_region_held_drew (S := fun W' => W'.cell? ⟨gO, j1, none⟩ = some (.slice Pi vp pi)) (by kernel_rfl) (by exact C1'.out) (fun hHeld => ?_)
                  refine takeTo (i := 0) (v := ?_) (some 139) rfl rfl (by kernel_rfl) (by kernel_rfl) (by kernel_rfl) (fun _ _ _ h => h) (Or.inl ⟨by rfl, ?_⟩) (by assumption) ?_
                  rotate_left
                  · (intro W7 hSw; (try dsimp only at hSw); go_simp; try with_reducible rfl)
                  try simp only [Act.put, List.setIfInBounds_toArray, List.set_cons_zero, List.set_cons_succ]
                  refine takeTo (i := 1) (v := ?_) (some 140) rfl rfl (by kernel_rfl) (by kernel_rfl) (by kernel_rfl) (fun _ _ _ h => h) (Or.inl ⟨by rfl, ?_⟩) (by assumption) ?_
                  rotate_left
                  · (intro W7 hSw; (try dsimp only at hSw); go_simp; try with_reducible rfl)
                  try simp only [Act.put, List.setIfInBounds_toArray, List.set_cons_zero, List.set_cons_succ]
                  refine takeTo (i := 2) (v := ?_) (some 141) rfl rfl (by kernel_rfl) (by kernel_rfl) (by kernel_rfl) (fun _ _ _ h => h) (Or.inl ⟨by rfl, ?_⟩) (by assumption) ?_
                  rotate_left
                  · (intro W7 hSw; (try dsimp only at hSw); go_simp; try with_reducible rfl)
                  try simp only [Act.put, List.setIfInBounds_toArray, List.set_cons_zero, List.set_cons_succ]
                  refine takeTo (i := 3) (v := ?_) (some 142) rfl rfl (by kernel_rfl) (by kernel_rfl) (by kernel_rfl) (fun _ _ _ h => h) (Or.inl ⟨by rfl, ?_⟩) (by assumption) ?_
                  rotate_left
                  · (intro W7 hSw; (try dsimp only at hSw); go_simp; try with_reducible rfl)
                  try simp only [Act.put, List.setIfInBounds_toArray, List.set_cons_zero, List.set_cons_succ]
                  refine takeTo (i := 4) (v := ?_) (some 143) rfl rfl (by kernel_rfl) (by kernel_rfl) (by kernel_rfl) (fun _ _ _ h => h) (Or.inl ⟨by rfl, ?_⟩) (by assumption) ?_
                  rotate_left
                  · (intro W7 hSw; (try dsimp only at hSw); go_simp; try with_reducible rfl)
                  try simp only [Act.put, List.setIfInBounds_toArray, List.set_cons_zero, List.set_cons_succ]
                  refine takeTo (i := 5) (v := ?_) (some 144) rfl rfl (by kernel_rfl) (by kernel_rfl) (by kernel_rfl) (fun _ _ _ h => h) (Or.inl ⟨by rfl, ?_⟩) (by assumption) ?_
                  rotate_left
                  · (intro W7 hSw; (try dsimp only at hSw); go_simp; try with_reducible rfl)
                  try simp only [Act.put, List.setIfInBounds_toArray, List.set_cons_zero, List.set_cons_succ]
                  refine wpAnyH_ready (rs := [6]) (by kernel_rfl) (by simp) ?_
                  refine AllReadyH.cons rfl (fun K hK => ?_) AllReadyH.nil
                  rw [if_pos (by rfl)]
                  go_wp2_with fail
                  refine (MA.out _).mono ?_
                  rintro e w' ⟨rfl, rfl⟩
                  refine hK.out _ _ C1'.out (fun hHeld => ?_)
                  clear hK K
                  try simp only [Act.put, List.setIfInBounds_toArray, List.set_cons_zero, List.set_cons_succ]
                  refine wpAnyH_ready (rs := [7]) (by kernel_rfl) (by simp) ?_
                  refine AllReadyH.cons rfl (fun K hK => ?_) AllReadyH.nil
                  rw [if_pos (by rfl)]
                  go_wp2_with fail
                  refine (FP.out _ KD.out.drew).mono ?_
                  rintro e w' ⟨rfl, rfl⟩
                  refine hK.out _ _ C1'.out (fun hHeld => ?_)
                  clear hK K
                  try simp only [Act.put, List.setIfInBounds_toArray, List.set_cons_zero, List.set_cons_succ]
                  refine takeTo (i := 8) (v := ?_) (some 14) rfl rfl (by kernel_rfl) (by kernel_rfl) (by kernel_rfl) (fun _ _ _ h => h) (Or.inl ⟨by rfl, ?_⟩) (by assumption) ?_
                  rotate_left
                  · (intro W7 hSw; (try dsimp only at hSw); go_simp; try with_reducible rfl)
                  try simp only [Act.put, List.setIfInBounds_toArray, List.set_cons_zero, List.set_cons_succ]
                  refine wpAnyH_done (by kernel_rfl) ?_ _
                  have KD2 := Lib.hid KD.out.drew
                  have C2'' := Lib.hid (show wr.drew.drew.cell? ⟨gO, j2, none⟩ = _ from C2'.out)
                  clear hHeld C1' C2'
                  go_wp2_with fail
                  refine wp_region_held_drew (S := fun W' => W'.cell? ⟨gO, j2, none⟩ = some (.slice Qi vq qi)) (by kernel_rfl) (by exact C2''.out) (fun hHeld => ?_)
                  refine takeTo (i := 0) (v := ?_) (some 147) rfl rfl (by kernel_rfl) (by kernel_rfl) (by kernel_rfl) (fun _ _ _ h => h) (Or.inl ⟨by rfl, ?_⟩) (by assumption) ?_
                  rotate_left
                  · (intro W7 hSw; (try dsimp only at hSw); go_simp; try with_reducible rfl)
                  try simp only [Act.put, List.setIfInBounds_toArray, List.set_cons_zero, List.set_cons_succ]
                  refine takeTo (i := 1) (v := ?_) (some 148) rfl rfl (by kernel_rfl) (by kernel_rfl) (by kernel_rfl) (fun _ _ _ h => h) (Or.inl ⟨by rfl, ?_⟩) (by assumption) ?_
                  rotate_left
                  · (intro W7 hSw; (try dsimp only at hSw); go_simp; try with_reducible rfl)
                  try simp only [Act.put, List.setIfInBounds_toArray, List.set_cons_zero, List.set_cons_succ]
                  refine takeTo (i := 2) (v := ?_) (some 149) rfl rfl (by kernel_rfl) (by kernel_rfl) (by kernel_rfl) (fun _ _ _ h => h) (Or.inl ⟨by rfl, ?_⟩) (by assumption) ?_
                  rotate_left
                  · (intro W7 hSw; (try dsimp only at hSw); go_simp; try with_reducible rfl)
                  try simp only [Act.put, List.setIfInBounds_toArray, List.set_cons_zero, List.set_cons_succ]
                  refine takeTo (i := 3) (v := ?_) (some 150) rfl rfl (by kernel_rfl) (by kernel_rfl) (by kernel_rfl) (fun _ _ _ h => h) (Or.inl ⟨by rfl, ?_⟩) (by assumption) ?_
                  rotate_left
                  · (intro W7 hSw; (try dsimp only at hSw); go_simp; try with_reducible rfl)
                  try simp only [Act.put, List.setIfInBounds_toArray, List.set_cons_zero, List.set_cons_succ]
                  refine takeTo (i := 4) (v := ?_) (some 151) rfl rfl (by kernel_rfl) (by kernel_rfl) (by kernel_rfl) (fun _ _ _ h => h) (Or.inl ⟨by rfl, ?_⟩) (by assumption) ?_
                  rotate_left
                  · (intro W7 hSw; (try dsimp only at hSw); go_simp; try with_reducible rfl)
                  try simp only [Act.put, List.setIfInBounds_toArray, List.set_cons_zero, List.set_cons_succ]
                  refine takeTo (i := 5) (v := ?_) (some 152) rfl rfl (by kernel_rfl) (by kernel_rfl) (by kernel_rfl) (fun _ _ _ h => h) (Or.inl ⟨by rfl, ?_⟩) (by assumption) ?_
                  rotate_left
                  · (intro W7 hSw; (try dsimp only at hSw); go_simp; try with_reducible rfl)
                  try simp only [Act.put, List.setIfInBounds_toArray, List.set_cons_zero, List.set_cons_succ]
                  refine takeTo (i := 6) (v := ?_) (some 153) rfl rfl (by kernel_rfl) (by kernel_rfl) (by kernel_rfl) (fun _ _ _ h => h) (Or.inl ⟨by rfl, ?_⟩) (by assumption) ?_
                  rotate_left
                  · (intro W7 hSw; (try dsimp only at hSw); go_simp; try with_reducible rfl)
                  try simp only [Act.put, List.setIfInBounds_toArray, List.set_cons_zero, List.set_cons_succ]
                  refine wpAnyH_ready (rs := [7]) (by kernel_rfl) (by simp) ?_
                  refine AllReadyH.cons rfl (fun K hK => ?_) AllReadyH.nil
                  rw [if_pos (by rfl)]
                  go_wp2_with fail
                  refine (MA.out _).mono ?_
                  rintro e w' ⟨rfl, rfl⟩
                  refine hK.out _ _ C2''.out (fun hHeld => ?_)
                  clear hK K
                  try simp only [Act.put, List.setIfInBounds_toArray, List.set_cons_zero, List.set_cons_succ]
                  refine wpAnyH_ready (rs := [8]) (by kernel_rfl) (by simp) ?_
                  refine AllReadyH.cons rfl (fun K hK => ?_) AllReadyH.nil
                  rw [if_pos (by rfl)]
                  go_wp2_with fail
                  refine (FQ.out _ KD2.out.drew).mono ?_
                  rintro e w' ⟨rfl, rfl⟩
                  refine hK.out _ _ C2''.out (fun hHeld => ?_)
                  clear hK K
                  try simp only [Act.put, List.setIfInBounds_toArray, List.set_cons_zero, List.set_cons_succ]
                  refine takeTo (i := 9) (v := ?_) (some 15) rfl rfl (by kernel_rfl) (by kernel_rfl) (by kernel_rfl) (fun _ _ _ h => h) (Or.inl ⟨by rfl, ?_⟩) (by assumption) ?_
                  rotate_left
                  · (intro W7 hSw; (try dsimp only at hSw); go_simp; try with_reducible rfl)
                  try simp only [Act.put, List.setIfInBounds_toArray, List.set_cons_zero, List.set_cons_succ]
                  refine wpAnyH_done (by kernel_rfl) ?_ _
                  have KD3 := Lib.hid KD2.out.drew
                  clear hHeld C2''
                  go_wp2_with fail
                  go_roundw
                  case rel => exact ⟨i + 1, by omega, by go_num, KD3.out⟩
                  case measure => simp [intOf] <;> omega
                · obtain rfl : N = i := by omega
                  have hd : decide ((N : Int) < (N : Int)) = false := by simp
                  have b0 := HBLK.out.kp KA.out HNG.out
                  have f0 := b0.free 0
                  have c1 : (wr.setCell ⟨g, 0, none⟩ (.slice none 0 0)).cell? ⟨g, 1, none⟩ = some (.slice AW N cW) := (b0.put 0 (.slice none 0 0)).cell 1
                  have f1 := (b0.put 0 (.slice none 0 0)).free 1
                  clear b0
                  go_wp2_with fail
                  go_ret
                  refine ⟨rfl, ?_⟩
                  refine ((KA.out.mono fun k _ h => ?_).setCell ⟨g, 0, none⟩ (.inl rfl) _).setCell ⟨g, 1, none⟩ (.inl rfl) _
                  obtain ⟨r, hr, e⟩ := h
                  exact .inr (World.ownsRow.lt (HF.out r hr).1 k (by rw [ob_eq]; exact e)).1
end Go.Proofs.Ytofhdehigfdmkaa
