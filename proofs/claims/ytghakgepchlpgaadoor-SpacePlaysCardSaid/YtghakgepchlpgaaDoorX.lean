/- WALKS: the law's world of two spaces and the document's: alloc, decoded. -/
import Derived.Test.YtghakgepchlpgaaDoorW
namespace Go.Proofs.YtghakgepchlpgaaDoor
open Go.RowKit Spc

def ptr (g : Nat) : Value := .pointer (some ⟨g, 0, none⟩)
def setB {α : Type} (f : Bool → α) (k : Bool) (v : α) : Bool → α := fun j => if j = k then v else f j
theorem setB_same {α : Type} (f : Bool → α) (k : Bool) (v : α) : setB f k v k = v := if_pos rfl
theorem setB_other {α : Type} (f : Bool → α) {k j : Bool} (v : α) (h : j ≠ k) : setB f k v j = f j := if_neg h
/-- the world in block gw: two spaces s, the document's x with their rows y -/
structure Wld (B gw : Nat) (s x y N : Bool → Nat) (f : Bool → Nat → Bool) (w : World) : Prop where
  blk : Blk w gw 53 #[ptr (s false), ptr (s true), ptr (x false), ptr (x true)]
  sp : ∀ k, Sp w (s k) (N k) (f k)
  rsp : ∀ k, RSp w (x k) (y k) (N k) (f k)
  low : B ≤ gw ∧ ∀ k, B ≤ s k ∧ B ≤ x k ∧ B ≤ y k
  ne : ∀ k j, s k ≠ gw ∧ x k ≠ gw ∧ y k ≠ gw ∧ s k ≠ x j ∧ s k ≠ y j ∧ y k ≠ x j
  neB : s false ≠ s true ∧ y false ≠ y true
theorem Wld.step {B gw : Nat} {s x y N : Bool → Nat} {f : Bool → Nat → Bool} {w w' : World} (h : Wld B gw s x y N f w) (k : Bool) (f' : Nat → Bool) (h1 : Sp w' (s k) (N k) f') (h2 : RSp w' (x k) (y k) (N k) f')
    (hk : Kept (fun b => b = s k ∨ b = y k) w w') : Wld B gw s x y N (setB f k f') w' := by
  have hs : ∀ j, j ≠ k → s j ≠ s k ∧ y j ≠ y k := fun j hj => by
    have := h.neB
    cases j <;> cases k <;> simp_all <;> exact ⟨fun e => this.1 e.symm, fun e => this.2 e.symm⟩
  refine ⟨h.blk.kept hk (by have := h.ne k k; rintro (e | e) <;> simp_all), fun j => ?_, fun j => ?_, h.low, h.ne, h.neB⟩
  · by_cases e : j = k
    · subst e; rw [setB_same]; exact h1
    · rw [setB_other _ _ e]
      exact (h.sp j).kept hk (by
        rintro (q | q)
        · exact (hs j e).1 q
        · exact (h.ne j k).2.2.2.2.1 q)
  · by_cases e : j = k
    · subst e; rw [setB_same]; exact h2
    · rw [setB_other _ _ e]
      refine (h.rsp j).kept hk ?_ ?_
      · rintro (q | q)
        · exact (h.ne k j).2.2.2.1 q.symm
        · exact (h.ne k j).2.2.2.2.2 q.symm
      · rintro (q | q)
        · exact (h.ne k j).2.2.2.2.1 q.symm
        · exact (hs j e).2 q
theorem Wld.below {B gw : Nat} {s x y N : Bool → Nat} {f : Bool → Nat → Bool} {w w' : World} (h : Wld B gw s x y N f w) (hb : Below w.heap.size w w') : Wld B gw s x y N f w' :=
  ⟨h.blk.below hb h.blk.lt, fun k => (h.sp k).below hb, fun k => (h.rsp k).below hb, h.low, h.ne, h.neB⟩
theorem Wld.size {B gw : Nat} {s x y N : Bool → Nat} {f : Bool → Nat → Bool} {w : World} (h : Wld B gw s x y N f w) : B ≤ w.heap.size := by have := h.blk.lt; have := h.low.1; omega
theorem Kept.below_of {S : Nat → Prop} {B : Nat} {w w' : World} (h : Kept S w w') (hs : ∀ b, S b → B ≤ b) (hB : B ≤ w.heap.size) : Below B w w' := h.below hs hB
/-- a pointer more or less -/
def WldT (B gw : Nat) (w w' : World) : Prop := (∃ s x y N f, Wld B gw s x y N f w') ∧ Below B w w'
theorem ralloc_least (gr gl N m : Nat) (f : Nat → Bool) (w : World) (h : RSp w gr gl N f) (hm : Least f N m) :
    Calls Tryd.prog 43 #[.pointer (some ⟨gr, 0, none⟩)] w fun e w' => e = .returned (.tuple #[.int .i64 (m : Int), .int .i64 0]) ∧ RSp w' gr gl N (upd f m true) ∧ Kept (fun b => b = gl) w w' := by
  refine (ralloc_any gr gl N f w h).mono ?_
  rintro e w' (⟨n, hn, rfl, s, k⟩ | ⟨hn, -⟩)
  · obtain rfl := hn.eq hm
    exact ⟨rfl, s, k⟩
  · have := hn m hm.1
    rw [hm.2.1] at this
    cases this
theorem ralloc_full (gr gl N : Nat) (f : Nat → Bool) (w : World) (h : RSp w gr gl N f) (hm : ∀ n, n < N → f n = true) :
    Calls Tryd.prog 43 #[.pointer (some ⟨gr, 0, none⟩)] w fun e w' => e = .returned (.tuple #[.int .i64 0, .int .i64 2]) ∧ w = w' := by
  refine (ralloc_any gr gl N f w h).mono ?_
  rintro e w' (⟨n, hn, rfl, s, k⟩ | ⟨-, rfl, rfl⟩)
  · have := hm n hn.1
    rw [hn.2.1] at this
    cases this
  · exact ⟨rfl, rfl⟩
def bi (k : Bool) : Int := if k then 1 else 0
def bn (k : Bool) : Nat := if k then 1 else 0
/-- both sides do one thing -/
theorem Wld.two {B gw : Nat} {s x y N : Bool → Nat} {f : Bool → Nat → Bool} {w w1 w2 : World} (h : Wld B gw s x y N f w) (k : Bool) (f' : Nat → Bool) (h1 : Sp w1 (s k) (N k) f') (k1 : Kept (fun b => b = s k) w w1)
    (h2 : RSp w2 (x k) (y k) (N k) f') (k2 : Kept (fun b => b = y k) w1 w2) : Wld B gw s x y N (setB f k f') w2 ∧ Below B w w2 ∧ Kept (fun b => b = s k ∨ b = y k) w w2 := by
  have hk : Kept (fun b => b = s k ∨ b = y k) w w2 := (k1.mono fun _ _ e => .inl e).trans (k2.mono fun _ _ e => .inr e)
  refine ⟨h.step k f' (h1.kept k2 (h.ne k k).2.2.2.2.1) h2 hk, hk.below ?_ h.size, hk⟩
  rintro b (rfl | rfl)
  · exact (h.low.2 k).1
  · exact (h.low.2 k).2.2
theorem wcells {w : World} {gw a b c d : Nat} (h : Blk w gw 53 #[ptr a, ptr b, ptr c, ptr d]) : w.cell? ⟨gw, 0, none⟩ = some (.pointer (some ⟨a, 0, none⟩)) ∧ w.cell? ⟨gw, 1, none⟩ = some (.pointer (some ⟨b, 0, none⟩)) ∧
    w.cell? ⟨gw, 2, none⟩ = some (.pointer (some ⟨c, 0, none⟩)) ∧ w.cell? ⟨gw, 3, none⟩ = some (.pointer (some ⟨d, 0, none⟩)) :=
  ⟨h.cell 0, h.cell 1, h.cell 2, h.cell 3⟩
theorem walloc_any (B gw : Nat) (k : Bool) (s x y N : Bool → Nat) (f : Bool → Nat → Bool) (w : World) (h : Wld B gw s x y N f w) (hT : Tab w) :
    Calls Tryd.prog 36 #[.pointer (some ⟨gw, 0, none⟩), .int .i64 (bi k)] w fun e w' => e = .returned (.bool true) ∧ (∃ f', Wld B gw s x y N f' w') ∧ Below B w w' ∧ Kept (fun b => b = s k ∨ b = y k) w w' := by
  obtain ⟨c0, c1, c2, c3⟩ := wcells h.blk
  have HCX := Lib.hid fun w1 (k1 : Kept (fun b => b = s k) w w1) => wcells (h.blk.kept k1 (fun e => (h.ne k k).1 e.symm))
  have H := Lib.hid h
  rcases least_or (f k) (N k) with ⟨m, hm⟩ | hfull
  · have HA := Lib.hid (alloc_least (s k) (N k) m (f k) w (h.sp k) hT hm)
    have HR := Lib.hid fun w1 (k1 : Kept (fun b => b = s k) w w1) => ralloc_least (x k) (y k) (N k) m (f k) w1 ((h.rsp k).kept k1 (fun e => (h.ne k k).2.2.2.1 e.symm) (fun e => (h.ne k k).2.2.2.2.1 e.symm)) hm
    clear h hT hm
    cases k
    all_goals
      simp only [bi, Bool.false_eq_true, if_false, if_true]
      go_enter Tryd.func36, Tryd.ntmps36
      go_wp2_with (first
        | (go_at_call 10; refine HA.out.mono ?_; rintro e w1 ⟨rfl, s1, k1⟩; have S1 := Lib.hid (And.intro s1 k1); obtain ⟨d0, d1, d2, d3⟩ := HCX.out w1 k1; clear s1 k1)
        | (go_at_call 43; refine (HR.out _ S1.out.2).mono ?_; rintro e w2 ⟨rfl, s2, k2⟩; have S2 := Lib.hid (And.intro s2 k2); clear s2 k2))
      go_ret
      have := H.out.two _ _ S1.out.1 S1.out.2 S2.out.1 S2.out.2
      exact ⟨rfl, ⟨_, this.1⟩, this.2⟩
  · have HA := Lib.hid (alloc_full (s k) (N k) (f k) w (h.sp k) hT hfull)
    have HR := Lib.hid (ralloc_full (x k) (y k) (N k) (f k) w (h.rsp k) hfull)
    clear h hT hfull
    cases k
    all_goals
      simp only [bi, Bool.false_eq_true, if_false, if_true]
      go_enter Tryd.func36, Tryd.ntmps36
      go_wp2_with (first
        | (go_at_call 10; refine HA.out.mono ?_; rintro e w1 ⟨rfl, rfl⟩)
        | (go_at_call 43; refine HR.out.mono ?_; rintro e w2 ⟨rfl, rfl⟩))
      go_ret
      exact ⟨rfl, ⟨f, H.out⟩, Below.refl _ _, Kept.refl _ _⟩
/-- other spaces in their place -/
theorem Wld.swap {B gw M : Nat} {s x y N : Bool → Nat} {f : Bool → Nat → Bool} {w w' : World} (h : Wld B gw s x y N f w) (k : Bool) (g gr gl N' : Nat) (f' : Nat → Bool)
    (hblk : Blk w' gw 53 #[ptr (setB s k g false), ptr (setB s k g true), ptr (setB x k gr false), ptr (setB x k gr true)])
    (h1 : Sp w' g N' f') (h2 : RSp w' gr gl N' f') (hs : ∀ j, Sp w' (s j) (N j) (f j)) (hr : ∀ j, RSp w' (x j) (y j) (N j) (f j))
    (hM : gw < M ∧ ∀ j, s j < M ∧ x j < M ∧ y j < M) (hB : B ≤ M) (hg : M ≤ g ∧ M ≤ gr ∧ M ≤ gl) (hne : g ≠ gr ∧ g ≠ gl ∧ gl ≠ gr) :
    Wld B gw (setB s k g) (setB x k gr) (setB y k gl) (setB N k N') (setB f k f') w' := by
  refine ⟨hblk, fun j => ?_, fun j => ?_, ⟨h.low.1, fun j => ?_⟩, fun i j => ?_, ?_⟩
  · by_cases e : j = k
    · subst e; rw [setB_same, setB_same, setB_same]; exact h1
    · rw [setB_other _ _ e, setB_other _ _ e, setB_other _ _ e]; exact hs j
  · by_cases e : j = k
    · subst e; rw [setB_same, setB_same, setB_same, setB_same]; exact h2
    · rw [setB_other _ _ e, setB_other _ _ e, setB_other _ _ e, setB_other _ _ e]; exact hr j
  · by_cases e : j = k
    · subst e; rw [setB_same, setB_same, setB_same]; omega
    · rw [setB_other _ _ e, setB_other _ _ e, setB_other _ _ e]; exact h.low.2 j
  · have a1 := h.ne i j
    have a2 := hM.2 i
    have a3 := hM.2 j
    have a4 := hM.1
    by_cases e : i = k
    · rw [e, setB_same, setB_same, setB_same]
      by_cases e2 : j = k
      · rw [e2, setB_same, setB_same]; omega
      · rw [setB_other _ _ e2, setB_other _ _ e2]; omega
    · rw [setB_other _ _ e, setB_other _ _ e, setB_other _ _ e]
      by_cases e2 : j = k
      · rw [e2, setB_same, setB_same]; omega
      · rw [setB_other _ _ e2, setB_other _ _ e2]; omega
  · have a1 := h.neB
    have a2 := hM.2 false
    have a3 := hM.2 true
    cases k
    · rw [setB_same, setB_same, setB_other _ _ (show true ≠ false by decide), setB_other _ _ (show true ≠ false by decide)]; omega
    · rw [setB_same, setB_same, setB_other _ _ (show false ≠ true by decide), setB_other _ _ (show false ≠ true by decide)]; omega
theorem Wld.all_lt {B gw : Nat} {s x y N : Bool → Nat} {f : Bool → Nat → Bool} {w : World} (h : Wld B gw s x y N f w) : gw < w.heap.size ∧ ∀ j, s j < w.heap.size ∧ x j < w.heap.size ∧ y j < w.heap.size :=
  ⟨h.blk.lt, fun j => ⟨(h.sp j).lt, (h.rsp j).lt.1, (h.rsp j).lt.2⟩⟩
theorem xor9 (x : UInt8) : Value.int .u8 (bits .xor .u8 (x.toNat : Int) 9) = .int .u8 ((x ^^^ 9).toNat : Int) := by
  have := u8_xor_nat x.toNat 9 x.toNat_lt (by decide)
  rw [show ((9 : Nat) : Int) = 9 from rfl] at this
  rw [this, UInt8.toNat_xor]
  rfl
set_option maxHeartbeats 4000000 in
set_option maxRecDepth 100000 in
theorem decoded_none (B gw : Nat) (k : Bool) (s x y N : Bool → Nat) (f : Bool → Nat → Bool) (A : Option Addr) (cb n : Nat) (l : List UInt8) (w : World) (h : Wld B gw s x y N f w)
    (hr : Rd w w.heap.size A l) (hn : n = l.length) (hlc : l.length ≤ cb) (hl : l.length ≤ 140737488351232) (hd : decd (N k) l = none) :
    Calls Tryd.prog 41 #[.pointer (some ⟨gw, 0, none⟩), .int .i64 (bi k), .slice A n cb] w fun e w' => e = .returned (.bool true) ∧ (∃ s x y N f, Wld B gw s x y N f w') ∧ Below B w w' := by
  have HW := Lib.hid fun W (hW : Below w.heap.size w W) => h.below hW
  have HC := Lib.hid fun W (hW : Below w.heap.size w W) => wcells (h.below hW).blk
  obtain ⟨cap, x0, hx0, -⟩ := (h.rsp k).cells
  have HX := Lib.hid fun W (hW : Below w.heap.size w W) => (hW.cell (p := ⟨x k, 0, none⟩) ((h.rsp k).lt.1)).trans x0
  have HR := Lib.hid fun W (hW : Below w.heap.size w W) => (hr.below hW (Nat.le_refl _)).mono hW.size
  have hNb := (h.sp k).bounds
  have HN := Lib.hid hn
  have hnl : n ≤ 140737488351232 := by rw [hn]; exact hl
  have hnc : n ≤ cb := by rw [hn]; exact hlc
  have HM := Lib.hid h.all_lt
  have H := Lib.hid h
  have B1 := Lib.hid ((Below.refl w.heap.size w).alloc (Nat.le_refl _) (.cells #[] 5))
  have O1 := Lib.hid (Owns.fresh w w.heap.size (Nat.le_refl _))
  have HD := Lib.hid fun (gc c4 : Nat) W (hrd : Rd W W.heap.size (some ⟨gc, 0, none⟩) l) (hc4 : n ≤ c4) => (show Calls Tryd.prog 15 #[.int .i64 (N k : Int), .slice (some ⟨gc, 0, none⟩) n c4] W fun e w' => e = .returned (.tuple #[.pointer none, .int .i64 93]) ∧ Below W.heap.size W w' from by
    have := decode_any (some ⟨gc, 0, none⟩) c4 (N k) l W hNb.1 hNb.2 hrd (by omega) (by omega)
    rw [← hn] at this
    exact this.mono fun e w' h => by
      rcases h with ⟨f1, g, h1, -⟩ | ⟨-, h⟩
      · rw [hd] at h1; cases h1
      · exact h)
  have HRD := Lib.hid fun W (hW : Below w.heap.size w W) => (show Calls Tryd.prog 16 #[.int .i64 (N k : Int), .slice A n cb] W fun e w' => e = .returned (.tuple #[.pointer none, .int .i64 93]) ∧ Below W.heap.size W w' from by
    have := rdecode_any A cb (N k) l W hNb.1 hNb.2 (HR.out W hW) hlc (by omega)
    rw [← hn] at this
    exact this.mono fun e w' h => by
      rcases h with ⟨f1, gr, gl, h1, -⟩ | ⟨-, h⟩
      · rw [hd] at h1; cases h1
      · exact h)
  clear h hr hn x0 hl hlc hd
  cases k
  all_goals
    simp only [bi, Bool.false_eq_true, if_false, if_true]
    go_enter Tryd.func41, Tryd.ntmps41
    go_upto_region 2 with (first
      | (at_builtin
         refine wpList_append_bytes rfl (.tmp 15) (.tmp 16) rfl w.heap.size _ [] l rfl O1.out _ A cb (by rw [← HN.out]; rfl) (HR.out _ B1.out) (by rw [← HN.out]; simp; omega) B1.out.size ?_
         intro A2 c2 w2 r2 q2 rc2 o2 g2
         have B2 := Lib.hid (B1.out.grown g2.1 B1.out.size (Owns.from_ (Owns.fresh w w.heap.size (Nat.le_refl _))))
         have O2 := Lib.hid o2
         have Q2 := Lib.hid (show r2 = l from q2.out)
         have B3 := Lib.hid (B2.out.alloc B2.out.size (.cells #[.int .u8 167] 5))
         have O3 := Lib.hid (O2.out.alloc (.cells #[.int .u8 167] 5))
         clear g2 o2 q2 rc2)
      | (at_builtin
         refine wpList_append_bytes rfl (.tmp 17) (.tmp 18) rfl w.heap.size _ r2 [167] rfl O3.out (w2.heap.size + 1) (some ⟨w2.heap.size, 0, none⟩) 1 rfl (Rd.of_row (heap_alloc_new w2 _) (fun i hi => by
           have hi0 : i = 0 := by simp at hi; omega
           subst hi0
           rfl) (by omega)) (by rw [Q2.out, ← HN.out]; simp; omega) B3.out.size ?_
         intro A4 c4 w4 r4 q4 rc4 o4 g4
         have B4 := Lib.hid (B3.out.grown g4.1 B3.out.size (fun j hj => (O2.out.lt j hj).1))
         have O4 := Lib.hid o4
         have Q4 := Lib.hid (show r4 = l ++ [167] by rw [q4.out, Q2.out])
         have L4 := Lib.hid (show r4.length = n + 1 by rw [q4.out, Q2.out, List.length_append, ← HN.out]; rfl)
         have hc4 : n + 1 ≤ c4 := by rw [← L4.out]; exact rc4
         clear g4 o4 q4 rc4))
    rw [L4.out]
    obtain ⟨gc, rfl⟩ := O4.out.some_ (by intro h; have := L4.out; rw [h] at this; simp at this)
    have hgc := O4.out.low
    have O5 := Lib.hid (show Owns w4 w.heap.size (.slice (some ⟨gc, 0, none⟩) (n + 1) c4) r4 by have := O4.out; rw [L4.out] at this; exact this)
    have RC := Lib.hid (show ∀ W, Below w4.heap.size w4 W → Rd W W.heap.size (some ⟨gc, 0, none⟩) l from fun W hW => by
      have h1 := (O4.out.reads.below hW (Nat.le_refl _)).mono hW.size
      have h2 := h1.take n
      rw [Q4.out, List.take_append_of_le_length (by rw [← HN.out]; exact Nat.le_refl _), List.take_of_length_le (by rw [← HN.out]; exact Nat.le_refl _)] at h2
      exact h2)
    have HCV := Lib.hid (show ∀ W, Below w4.heap.size w4 W → (convert 35 9 (.slice (some ⟨gc, 0, none⟩) n c4)).run Tryd.prog W = .ok (.string (bs l)) W from fun W hW => by
      have := conv_str (some ⟨gc, 0, none⟩) c4 l W W.heap.size (RC.out W hW)
      rw [← HN.out] at this
      exact this)
    have HCV2 := Lib.hid (show ∀ W, Below w.heap.size w W → (convert 35 9 (.slice A n cb)).run Tryd.prog W = .ok (.string (bs l)) W from fun W hW => by
      have := conv_str A cb l W W.heap.size (HR.out W hW)
      rw [← HN.out] at this
      exact this)
    have HLAST := Lib.hid (show w4.cell? ⟨gc, n, none⟩ = some (.int .u8 167) by
      have := O4.out.at_ n (by rw [L4.out]; omega)
      rw [this, Q4.out, List.getD_eq_getElem?_getD, List.getElem?_append_right (by rw [← HN.out]; exact Nat.le_refl _), ← HN.out, Nat.sub_self]
      rfl)
    clear O4 O3 O2 O1 B3 B2 B1
    obtain ⟨d0, d1, d2, d3⟩ := HC.out w4 B4.out
    have x0 := HX.out w4 B4.out
    go_wp2_with fail
    refine (HD.out gc c4 w4 (RC.out w4 (Below.refl _ _)) (by omega)).mono ?_
    rintro e w5 ⟨rfl, b5⟩
    have B5 := Lib.hid (show Below w4.heap.size w4 w5 from b5)
    clear b5
    go_wp2_with fail
    refine (HRD.out w5 (B4.out.trans (B5.out.mono B4.out.size))).mono ?_
    rintro e w6 ⟨rfl, b6⟩
    have B6 := Lib.hid (show Below w4.heap.size w4 w6 from B5.out.trans (b6.mono B5.out.size))
    clear b6
    have hnc4 : n ≤ c4 := by omega
    have hni : (n : Int) < (n : Int) + 1 := by omega
    have hgcl : gc < w4.heap.size := (O5.out.lt gc rfl).2
    have O6 := Lib.hid (O5.out.below B6.out)
    have HB6 := Lib.hid (B4.out.trans (B6.out.mono B4.out.size))
    go_upto_region 5 with fail
    have s0 : (convert 35 9 (.slice (some ⟨gc, 0, none⟩) n c4)).run Tryd.prog w6.drew = .ok (.string (bs l)) w6.drew ∧ (convert 35 9 (.slice A n cb)).run Tryd.prog w6.drew = .ok (.string (bs l)) w6.drew ∧ w6.drew.cell? ⟨gc, n, none⟩ = some (.int .u8 167) :=
      ⟨HCV.out _ B6.out.drew, HCV2.out _ HB6.out.drew, (B6.out.drew.cell (p := ⟨gc, n, none⟩) hgcl).trans HLAST.out⟩
    refine wp_region_held_drew (S := fun W' => (convert 35 9 (.slice (some ⟨gc, 0, none⟩) n c4)).run Tryd.prog W' = .ok (.string (bs l)) W' ∧ (convert 35 9 (.slice A n cb)).run Tryd.prog W' = .ok (.string (bs l)) W' ∧ W'.cell? ⟨gc, n, none⟩ = some (.int .u8 167)) (by kernel_rfl) (by exact s0) (fun hHeld => ?_)
    refine takeTo (i := 0) (v := ?_) (some 45) rfl rfl (by kernel_rfl) (by kernel_rfl) (by kernel_rfl) (fun _ _ _ h => h) (Or.inl ⟨by rfl, ?_⟩) (by assumption) ?_
    rotate_left
    · (intro W7 hSw; (try dsimp only at hSw); go_simp; try with_reducible rfl)
    try simp only [Act.put, List.setIfInBounds_toArray, List.set_cons_zero, List.set_cons_succ]
    refine takeTo (i := 1) (v := ?_) (some 46) rfl rfl (by kernel_rfl) (by kernel_rfl) (by kernel_rfl) (fun _ _ _ h => h) (Or.inl ⟨by rfl, ?_⟩) (by assumption) ?_
    rotate_left
    · (intro W7 hSw; (try dsimp only at hSw); go_simp; try with_reducible rfl)
    try simp only [Act.put, List.setIfInBounds_toArray, List.set_cons_zero, List.set_cons_succ]
    refine takeTo (i := 2) (v := ?_) (some 47) rfl rfl (by kernel_rfl) (by kernel_rfl) (by kernel_rfl) (fun _ _ _ h => h) (Or.inl ⟨by rfl, ?_⟩) (by assumption) ?_
    rotate_left
    · (intro W7 hSw; (try dsimp only at hSw); go_simp; try with_reducible rfl)
    try simp only [Act.put, List.setIfInBounds_toArray, List.set_cons_zero, List.set_cons_succ]
    refine takeTo (i := 3) (v := ?_) (some 48) rfl rfl (by kernel_rfl) (by kernel_rfl) (by kernel_rfl) (fun _ _ _ h => h) (Or.inl ⟨by rfl, ?_⟩) (by assumption) ?_
    rotate_left
    · (intro W7 hSw; (try dsimp only at hSw); go_simp; try with_reducible rfl)
    try simp only [Act.put, List.setIfInBounds_toArray, List.set_cons_zero, List.set_cons_succ]
    refine takeTo (i := 4) (v := ?_) (some 49) rfl rfl (by kernel_rfl) (by kernel_rfl) (by kernel_rfl) (fun _ _ _ h => h) (Or.inl ⟨by rfl, ?_⟩) (by assumption) ?_
    rotate_left
    · (intro W7 hSw; (try dsimp only at hSw); go_simp; try with_reducible rfl)
    try simp only [Act.put, List.setIfInBounds_toArray, List.set_cons_zero, List.set_cons_succ]
    refine takeTo (i := 5) (v := ?_) (some 50) rfl rfl (by kernel_rfl) (by kernel_rfl) (by kernel_rfl) (fun _ _ _ h => h) (Or.inl ⟨by rfl, ?_⟩) (by assumption) ?_
    rotate_left
    · (intro W7 hSw; (try dsimp only at hSw); go_simp; try with_reducible rfl)
    try simp only [Act.put, List.setIfInBounds_toArray, List.set_cons_zero, List.set_cons_succ]
    refine takeTo (i := 6) (v := ?_) (some 51) rfl rfl (by kernel_rfl) (by kernel_rfl) (by kernel_rfl) (fun _ _ _ h => h) (Or.inl ⟨by rfl, ?_⟩) (by assumption) ?_
    rotate_left
    · (intro W7 hSw; (try dsimp only at hSw); go_simp; try with_reducible rfl)
    try simp only [Act.put, List.setIfInBounds_toArray, List.set_cons_zero, List.set_cons_succ]
    refine takeTo (i := 7) (v := ?_) (some 52) rfl rfl (by kernel_rfl) (by kernel_rfl) (by kernel_rfl) (fun _ _ _ h => h) (Or.inl ⟨by rfl, ?_⟩) (by assumption) ?_
    rotate_left
    · (intro W7 hSw; (try dsimp only at hSw); go_simp; try with_reducible rfl)
    try simp only [Act.put, List.setIfInBounds_toArray, List.set_cons_zero, List.set_cons_succ]
    refine takeTo (i := 8) (v := ?_) (some 53) rfl rfl (by kernel_rfl) (by kernel_rfl) (by kernel_rfl) (fun _ _ _ h => h) (Or.inl ⟨by rfl, ?_⟩) (by assumption) ?_
    rotate_left
    · (intro W7 hSw; (try dsimp only at hSw); go_simp; try with_reducible rfl)
    try simp only [Act.put, List.setIfInBounds_toArray, List.set_cons_zero, List.set_cons_succ]
    refine takeTo (i := 9) (v := ?_) (some 54) rfl rfl (by kernel_rfl) (by kernel_rfl) (by kernel_rfl) (fun _ _ _ h => h) (Or.inl ⟨by rfl, ?_⟩) (by assumption) ?_
    rotate_left
    · (intro W7 hSw; (try dsimp only at hSw); go_simp; try with_reducible rfl)
    try simp only [Act.put, List.setIfInBounds_toArray, List.set_cons_zero, List.set_cons_succ]
    refine takeTo (i := 10) (v := ?_) (some 55) rfl rfl (by kernel_rfl) (by kernel_rfl) (by kernel_rfl) (fun _ _ _ h => h) (Or.inl ⟨by rfl, ?_⟩) (by assumption) ?_
    rotate_left
    · (intro W7 hSw; (try dsimp only at hSw); go_simp; try with_reducible rfl)
    try simp only [Act.put, List.setIfInBounds_toArray, List.set_cons_zero, List.set_cons_succ]
    refine takeTo (i := 11) (v := ?_) (some 56) rfl rfl (by kernel_rfl) (by kernel_rfl) (by kernel_rfl) (fun _ _ _ h => h) (Or.inl ⟨by rfl, ?_⟩) (by assumption) ?_
    rotate_left
    · (intro W7 hSw; (try dsimp only at hSw); go_simp; try with_reducible rfl)
    try simp only [Act.put, List.setIfInBounds_toArray, List.set_cons_zero, List.set_cons_succ]
    refine takeTo (i := 12) (v := ?_) (some 57) rfl rfl (by kernel_rfl) (by kernel_rfl) (by kernel_rfl) (fun _ _ _ h => h) (Or.inl ⟨by rfl, ?_⟩) (by assumption) ?_
    rotate_left
    · (intro W7 hSw; (try dsimp only at hSw); go_simp; try with_reducible rfl)
    try simp only [Act.put, List.setIfInBounds_toArray, List.set_cons_zero, List.set_cons_succ]
    refine takeTo (i := 13) (v := ?_) (some 58) rfl rfl (by kernel_rfl) (by kernel_rfl) (by kernel_rfl) (fun _ _ _ h => h) (Or.inl ⟨by rfl, ?_⟩) (by assumption) ?_
    rotate_left
    · (intro W7 hSw; (try dsimp only at hSw); go_simp; try with_reducible rfl)
    try simp only [Act.put, List.setIfInBounds_toArray, List.set_cons_zero, List.set_cons_succ]
    refine takeTo (i := 14) (v := ?_) (some 59) rfl rfl (by kernel_rfl) (by kernel_rfl) (by kernel_rfl) (fun _ _ _ h => h) (Or.inl ⟨by rfl, ?_⟩) (by assumption) ?_
    rotate_left
    · (intro W7 hSw; (try dsimp only at hSw); go_simp; try with_reducible rfl)
    try simp only [Act.put, List.setIfInBounds_toArray, List.set_cons_zero, List.set_cons_succ]
    refine takeTo (i := 15) (v := ?_) (some 60) rfl rfl (by kernel_rfl) (by kernel_rfl) (by kernel_rfl) (fun _ _ _ h => h) (Or.inl ⟨by rfl, ?_⟩) (by assumption) ?_
    rotate_left
    · (intro W7 hSw; (try dsimp only at hSw); go_simp; try with_reducible rfl)
    try simp only [Act.put, List.setIfInBounds_toArray, List.set_cons_zero, List.set_cons_succ]
    refine takeTo (i := 16) (v := ?_) (some 13) rfl rfl (by kernel_rfl) (by kernel_rfl) (by kernel_rfl) (fun _ _ _ h => h) (Or.inl ⟨by rfl, ?_⟩) (by assumption) ?_
    rotate_left
    · (intro W7 hSw; (try dsimp only at hSw); go_simp; try with_reducible rfl)
    try simp only [Act.put, List.setIfInBounds_toArray, List.set_cons_zero, List.set_cons_succ]
    refine wpAnyH_done (by kernel_rfl) ?_ _
    have O7 := Lib.hid (show Owns w6.drew w.heap.size (.slice (some ⟨gc, 0, none⟩) (n + 1) c4) r4 from O6.out.drew)
    have B7 := Lib.hid (show Below w4.heap.size w4 w6.drew from B6.out.drew)
    generalize w6.drew = w7 at *
    clear O6 O5 B5 HB6 HCV HCV2 HLAST RC
    go_wp2_with fail
    go_loopw [14] (fun iv wr => ∃ (i : Nat) (lc : List UInt8), i ≤ n + 1 ∧ iv = .int .i64 (i : Int) ∧ lc.length = n + 1 ∧ Owns wr w.heap.size (.slice (some ⟨gc, 0, none⟩) (n + 1) c4) lc ∧ Kept (fun b => b = gc) w7 wr) (fun iv _ => n + 1 - (intOf iv).toNat)
    case atStart => exact ⟨0, r4, by omega, rfl, L4.out, O7.out, Kept.refl _ _⟩
    case round =>
      obtain ⟨i, lc, hi, rfl, hlen, hO, hkept⟩ := hrel
      have HL := Lib.hid hlen
      have HO := Lib.hid (And.intro hO hkept)
      clear hO hkept
      by_cases hlt : i < n + 1
      · have hd : decide ((i : Int) < ((n + 1 : Nat) : Int)) = true := by simp; omega
        have hd2 : decide (i < n + 1) = true := by simp; omega
        have hd3 : decide ((i : Int) < (n : Int) + 1) = true := by simp; omega
        have hc := HO.out.1.at_ i (by omega)
        have hfz := HO.out.1.free i
        obtain ⟨xb, hxb⟩ : ∃ xb, xb = lc.getD i 0 := ⟨_, rfl⟩
        rw [← hxb] at hc
        have hx9 := Lib.hid (xor9 xb)
        clear hxb hlen
        go_wp2_with fail
        go_roundw
        case rel => exact ⟨i + 1, lc.set i (xb ^^^ 9), by omega, by go_num, by rw [List.length_set]; exact HL.out, HO.out.1.put i (xb ^^^ 9) _ (by rw [hx9.out]), HO.out.2.setCell (p := ⟨gc, i, none⟩) rfl _⟩
        case measure => simp [intOf] <;> omega
      · obtain rfl : i = n + 1 := by omega
        clear hlen
        have BF := Lib.hid (show Below w.heap.size w wr from (B4.out.trans (B7.out.mono B4.out.size)).trans (HO.out.2.below (fun b e => by rw [e]; exact hgc) (Nat.le_trans B4.out.size B7.out.size)))
        go_wp2_with fail
        go_ret
        exact ⟨rfl, ⟨s, x, y, N, f, HW.out wr BF.out⟩, BF.out.mono H.out.size⟩
set_option maxHeartbeats 4000000 in
set_option maxRecDepth 100000 in
theorem decoded_some (B gw : Nat) (k : Bool) (s x y N : Bool → Nat) (f : Bool → Nat → Bool) (A : Option Addr) (cb n : Nat) (l : List UInt8) (f' : Nat → Bool) (w : World) (h : Wld B gw s x y N f w)
    (hr : Rd w w.heap.size A l) (hn : n = l.length) (hlc : l.length ≤ cb) (hl : l.length ≤ 140737488351232) (hd : decd (N k) l = some f') :
    Calls Tryd.prog 41 #[.pointer (some ⟨gw, 0, none⟩), .int .i64 (bi k), .slice A n cb] w fun e w' => e = .returned (.bool true) ∧ (∃ s x y N f, Wld B gw s x y N f w') ∧ Below B w w' := by
  have HW := Lib.hid fun W (hW : Below w.heap.size w W) => h.below hW
  have HC := Lib.hid fun W (hW : Below w.heap.size w W) => wcells (h.below hW).blk
  obtain ⟨cap, x0, hx0, -⟩ := (h.rsp k).cells
  have HX := Lib.hid fun W (hW : Below w.heap.size w W) => (hW.cell (p := ⟨x k, 0, none⟩) ((h.rsp k).lt.1)).trans x0
  have HR := Lib.hid fun W (hW : Below w.heap.size w W) => (hr.below hW (Nat.le_refl _)).mono hW.size
  have hNb := (h.sp k).bounds
  have HN := Lib.hid hn
  have hnl : n ≤ 140737488351232 := by rw [hn]; exact hl
  have hnc : n ≤ cb := by rw [hn]; exact hlc
  have HM := Lib.hid h.all_lt
  have H := Lib.hid h
  have B1 := Lib.hid ((Below.refl w.heap.size w).alloc (Nat.le_refl _) (.cells #[] 5))
  have O1 := Lib.hid (Owns.fresh w w.heap.size (Nat.le_refl _))
  have HD := Lib.hid fun (gc c4 : Nat) W (hrd : Rd W W.heap.size (some ⟨gc, 0, none⟩) l) (hc4 : n ≤ c4) => (show Calls Tryd.prog 15 #[.int .i64 (N k : Int), .slice (some ⟨gc, 0, none⟩) n c4] W fun e w' => ∃ g, e = .returned (.tuple #[.pointer (some ⟨g, 0, none⟩), .int .i64 0]) ∧ Sp w' g (N k) f' ∧ W.heap.size ≤ g ∧ Below W.heap.size W w' from by
    have := decode_any (some ⟨gc, 0, none⟩) c4 (N k) l W hNb.1 hNb.2 hrd (by omega) (by omega)
    rw [← hn] at this
    exact this.mono fun e w' h => by
      rcases h with ⟨f1, g, h1, h2, h3⟩ | ⟨h1, -⟩
      · obtain rfl : f1 = f' := Option.some.inj (h1.symm.trans hd)
        exact ⟨g, h2, h3⟩
      · rw [hd] at h1; cases h1)
  have HRD := Lib.hid fun W (hW : Below w.heap.size w W) => (show Calls Tryd.prog 16 #[.int .i64 (N k : Int), .slice A n cb] W fun e w' => ∃ gr gl, e = .returned (.tuple #[.pointer (some ⟨gr, 0, none⟩), .int .i64 0]) ∧ RSp w' gr gl (N k) f' ∧ (W.heap.size ≤ gr ∧ W.heap.size ≤ gl) ∧ Below W.heap.size W w' from by
    have := rdecode_any A cb (N k) l W hNb.1 hNb.2 (HR.out W hW) hlc (by omega)
    rw [← hn] at this
    exact this.mono fun e w' h => by
      rcases h with ⟨f1, gr, gl, h1, h2, h3⟩ | ⟨h1, -⟩
      · obtain rfl : f1 = f' := Option.some.inj (h1.symm.trans hd)
        exact ⟨gr, gl, h2, h3⟩
      · rw [hd] at h1; cases h1)
  clear h hr hn x0 hl hlc hd
  cases k
  all_goals
    simp only [bi, Bool.false_eq_true, if_false, if_true]
    go_enter Tryd.func41, Tryd.ntmps41
    go_upto_region 2 with (first
      | (at_builtin
         refine wpList_append_bytes rfl (.tmp 15) (.tmp 16) rfl w.heap.size _ [] l rfl O1.out _ A cb (by rw [← HN.out]; rfl) (HR.out _ B1.out) (by rw [← HN.out]; simp; omega) B1.out.size ?_
         intro A2 c2 w2 r2 q2 rc2 o2 g2
         have B2 := Lib.hid (B1.out.grown g2.1 B1.out.size (Owns.from_ (Owns.fresh w w.heap.size (Nat.le_refl _))))
         have O2 := Lib.hid o2
         have Q2 := Lib.hid (show r2 = l from q2.out)
         have B3 := Lib.hid (B2.out.alloc B2.out.size (.cells #[.int .u8 167] 5))
         have O3 := Lib.hid (O2.out.alloc (.cells #[.int .u8 167] 5))
         clear g2 o2 q2 rc2)
      | (at_builtin
         refine wpList_append_bytes rfl (.tmp 17) (.tmp 18) rfl w.heap.size _ r2 [167] rfl O3.out (w2.heap.size + 1) (some ⟨w2.heap.size, 0, none⟩) 1 rfl (Rd.of_row (heap_alloc_new w2 _) (fun i hi => by
           have hi0 : i = 0 := by simp at hi; omega
           subst hi0
           rfl) (by omega)) (by rw [Q2.out, ← HN.out]; simp; omega) B3.out.size ?_
         intro A4 c4 w4 r4 q4 rc4 o4 g4
         have B4 := Lib.hid (B3.out.grown g4.1 B3.out.size (fun j hj => (O2.out.lt j hj).1))
         have O4 := Lib.hid o4
         have Q4 := Lib.hid (show r4 = l ++ [167] by rw [q4.out, Q2.out])
         have L4 := Lib.hid (show r4.length = n + 1 by rw [q4.out, Q2.out, List.length_append, ← HN.out]; rfl)
         have hc4 : n + 1 ≤ c4 := by rw [← L4.out]; exact rc4
         clear g4 o4 q4 rc4))
    rw [L4.out]
    obtain ⟨gc, rfl⟩ := O4.out.some_ (by intro h; have := L4.out; rw [h] at this; simp at this)
    have hgc := O4.out.low
    have O5 := Lib.hid (show Owns w4 w.heap.size (.slice (some ⟨gc, 0, none⟩) (n + 1) c4) r4 by have := O4.out; rw [L4.out] at this; exact this)
    have RC := Lib.hid (show ∀ W, Below w4.heap.size w4 W → Rd W W.heap.size (some ⟨gc, 0, none⟩) l from fun W hW => by
      have h1 := (O4.out.reads.below hW (Nat.le_refl _)).mono hW.size
      have h2 := h1.take n
      rw [Q4.out, List.take_append_of_le_length (by rw [← HN.out]; exact Nat.le_refl _), List.take_of_length_le (by rw [← HN.out]; exact Nat.le_refl _)] at h2
      exact h2)
    have HCV := Lib.hid (show ∀ W, Below w4.heap.size w4 W → (convert 35 9 (.slice (some ⟨gc, 0, none⟩) n c4)).run Tryd.prog W = .ok (.string (bs l)) W from fun W hW => by
      have := conv_str (some ⟨gc, 0, none⟩) c4 l W W.heap.size (RC.out W hW)
      rw [← HN.out] at this
      exact this)
    have HCV2 := Lib.hid (show ∀ W, Below w.heap.size w W → (convert 35 9 (.slice A n cb)).run Tryd.prog W = .ok (.string (bs l)) W from fun W hW => by
      have := conv_str A cb l W W.heap.size (HR.out W hW)
      rw [← HN.out] at this
      exact this)
    have HLAST := Lib.hid (show w4.cell? ⟨gc, n, none⟩ = some (.int .u8 167) by
      have := O4.out.at_ n (by rw [L4.out]; omega)
      rw [this, Q4.out, List.getD_eq_getElem?_getD, List.getElem?_append_right (by rw [← HN.out]; exact Nat.le_refl _), ← HN.out, Nat.sub_self]
      rfl)
    clear O4 O3 O2 O1 B3 B2 B1
    obtain ⟨d0, d1, d2, d3⟩ := HC.out w4 B4.out
    have x0 := HX.out w4 B4.out
    go_wp2_with fail
    refine (HD.out gc c4 w4 (RC.out w4 (Below.refl _ _)) (by omega)).mono ?_
    rintro e w5 ⟨g, rfl, s5, hg5, b5⟩
    have B5 := Lib.hid (show Below w4.heap.size w4 w5 from b5)
    have S5 := Lib.hid (And.intro s5 hg5)
    have hg5lt := s5.lt
    clear b5 s5
    go_wp2_with fail
    refine (HRD.out w5 (B4.out.trans (B5.out.mono B4.out.size))).mono ?_
    rintro e w6 ⟨gr, gl, rfl, s6, hg6, b6⟩
    have B6 := Lib.hid (show Below w4.heap.size w4 w6 from B5.out.trans (b6.mono B5.out.size))
    have S6 := Lib.hid (And.intro (S5.out.1.below b6) s6)
    have hw45 := B5.out.size
    have hneq : g ≠ gr ∧ g ≠ gl ∧ gl ≠ gr := ⟨by omega, by omega, s6.ne⟩
    obtain ⟨hgr6, hgl6⟩ := hg6
    have hgr4 : w4.heap.size ≤ gr ∧ w4.heap.size ≤ gl ∧ w4.heap.size ≤ g := ⟨by omega, by omega, hg5⟩
    clear b6 s6
    have hnc4 : n ≤ c4 := by omega
    have hni : (n : Int) < (n : Int) + 1 := by omega
    have hgcl : gc < w4.heap.size := (O5.out.lt gc rfl).2
    have O6 := Lib.hid (O5.out.below B6.out)
    have HB6 := Lib.hid (B4.out.trans (B6.out.mono B4.out.size))
    go_upto_region 5 with fail
    have s0 : (convert 35 9 (.slice (some ⟨gc, 0, none⟩) n c4)).run Tryd.prog w6.drew = .ok (.string (bs l)) w6.drew ∧ (convert 35 9 (.slice A n cb)).run Tryd.prog w6.drew = .ok (.string (bs l)) w6.drew ∧ w6.drew.cell? ⟨gc, n, none⟩ = some (.int .u8 167) :=
      ⟨HCV.out _ B6.out.drew, HCV2.out _ HB6.out.drew, (B6.out.drew.cell (p := ⟨gc, n, none⟩) hgcl).trans HLAST.out⟩
    refine wp_region_held_drew (S := fun W' => (convert 35 9 (.slice (some ⟨gc, 0, none⟩) n c4)).run Tryd.prog W' = .ok (.string (bs l)) W' ∧ (convert 35 9 (.slice A n cb)).run Tryd.prog W' = .ok (.string (bs l)) W' ∧ W'.cell? ⟨gc, n, none⟩ = some (.int .u8 167)) (by kernel_rfl) (by exact s0) (fun hHeld => ?_)
    refine takeTo (i := 0) (v := ?_) (some 45) rfl rfl (by kernel_rfl) (by kernel_rfl) (by kernel_rfl) (fun _ _ _ h => h) (Or.inl ⟨by rfl, ?_⟩) (by assumption) ?_
    rotate_left
    · (intro W7 hSw; (try dsimp only at hSw); go_simp; try with_reducible rfl)
    try simp only [Act.put, List.setIfInBounds_toArray, List.set_cons_zero, List.set_cons_succ]
    refine takeTo (i := 1) (v := ?_) (some 46) rfl rfl (by kernel_rfl) (by kernel_rfl) (by kernel_rfl) (fun _ _ _ h => h) (Or.inl ⟨by rfl, ?_⟩) (by assumption) ?_
    rotate_left
    · (intro W7 hSw; (try dsimp only at hSw); go_simp; try with_reducible rfl)
    try simp only [Act.put, List.setIfInBounds_toArray, List.set_cons_zero, List.set_cons_succ]
    refine takeTo (i := 2) (v := ?_) (some 47) rfl rfl (by kernel_rfl) (by kernel_rfl) (by kernel_rfl) (fun _ _ _ h => h) (Or.inl ⟨by rfl, ?_⟩) (by assumption) ?_
    rotate_left
    · (intro W7 hSw; (try dsimp only at hSw); go_simp; try with_reducible rfl)
    try simp only [Act.put, List.setIfInBounds_toArray, List.set_cons_zero, List.set_cons_succ]
    refine takeTo (i := 3) (v := ?_) (some 48) rfl rfl (by kernel_rfl) (by kernel_rfl) (by kernel_rfl) (fun _ _ _ h => h) (Or.inl ⟨by rfl, ?_⟩) (by assumption) ?_
    rotate_left
    · (intro W7 hSw; (try dsimp only at hSw); go_simp; try with_reducible rfl)
    try simp only [Act.put, List.setIfInBounds_toArray, List.set_cons_zero, List.set_cons_succ]
    refine takeTo (i := 4) (v := ?_) (some 49) rfl rfl (by kernel_rfl) (by kernel_rfl) (by kernel_rfl) (fun _ _ _ h => h) (Or.inl ⟨by rfl, ?_⟩) (by assumption) ?_
    rotate_left
    · (intro W7 hSw; (try dsimp only at hSw); go_simp; try with_reducible rfl)
    try simp only [Act.put, List.setIfInBounds_toArray, List.set_cons_zero, List.set_cons_succ]
    refine takeTo (i := 5) (v := ?_) (some 50) rfl rfl (by kernel_rfl) (by kernel_rfl) (by kernel_rfl) (fun _ _ _ h => h) (Or.inl ⟨by rfl, ?_⟩) (by assumption) ?_
    rotate_left
    · (intro W7 hSw; (try dsimp only at hSw); go_simp; try with_reducible rfl)
    try simp only [Act.put, List.setIfInBounds_toArray, List.set_cons_zero, List.set_cons_succ]
    refine takeTo (i := 6) (v := ?_) (some 51) rfl rfl (by kernel_rfl) (by kernel_rfl) (by kernel_rfl) (fun _ _ _ h => h) (Or.inl ⟨by rfl, ?_⟩) (by assumption) ?_
    rotate_left
    · (intro W7 hSw; (try dsimp only at hSw); go_simp; try with_reducible rfl)
    try simp only [Act.put, List.setIfInBounds_toArray, List.set_cons_zero, List.set_cons_succ]
    refine takeTo (i := 7) (v := ?_) (some 52) rfl rfl (by kernel_rfl) (by kernel_rfl) (by kernel_rfl) (fun _ _ _ h => h) (Or.inl ⟨by rfl, ?_⟩) (by assumption) ?_
    rotate_left
    · (intro W7 hSw; (try dsimp only at hSw); go_simp; try with_reducible rfl)
    try simp only [Act.put, List.setIfInBounds_toArray, List.set_cons_zero, List.set_cons_succ]
    refine takeTo (i := 8) (v := ?_) (some 53) rfl rfl (by kernel_rfl) (by kernel_rfl) (by kernel_rfl) (fun _ _ _ h => h) (Or.inl ⟨by rfl, ?_⟩) (by assumption) ?_
    rotate_left
    · (intro W7 hSw; (try dsimp only at hSw); go_simp; try with_reducible rfl)
    try simp only [Act.put, List.setIfInBounds_toArray, List.set_cons_zero, List.set_cons_succ]
    refine takeTo (i := 9) (v := ?_) (some 54) rfl rfl (by kernel_rfl) (by kernel_rfl) (by kernel_rfl) (fun _ _ _ h => h) (Or.inl ⟨by rfl, ?_⟩) (by assumption) ?_
    rotate_left
    · (intro W7 hSw; (try dsimp only at hSw); go_simp; try with_reducible rfl)
    try simp only [Act.put, List.setIfInBounds_toArray, List.set_cons_zero, List.set_cons_succ]
    refine takeTo (i := 10) (v := ?_) (some 55) rfl rfl (by kernel_rfl) (by kernel_rfl) (by kernel_rfl) (fun _ _ _ h => h) (Or.inl ⟨by rfl, ?_⟩) (by assumption) ?_
    rotate_left
    · (intro W7 hSw; (try dsimp only at hSw); go_simp; try with_reducible rfl)
    try simp only [Act.put, List.setIfInBounds_toArray, List.set_cons_zero, List.set_cons_succ]
    refine takeTo (i := 11) (v := ?_) (some 56) rfl rfl (by kernel_rfl) (by kernel_rfl) (by kernel_rfl) (fun _ _ _ h => h) (Or.inl ⟨by rfl, ?_⟩) (by assumption) ?_
    rotate_left
    · (intro W7 hSw; (try dsimp only at hSw); go_simp; try with_reducible rfl)
    try simp only [Act.put, List.setIfInBounds_toArray, List.set_cons_zero, List.set_cons_succ]
    refine takeTo (i := 12) (v := ?_) (some 57) rfl rfl (by kernel_rfl) (by kernel_rfl) (by kernel_rfl) (fun _ _ _ h => h) (Or.inl ⟨by rfl, ?_⟩) (by assumption) ?_
    rotate_left
    · (intro W7 hSw; (try dsimp only at hSw); go_simp; try with_reducible rfl)
    try simp only [Act.put, List.setIfInBounds_toArray, List.set_cons_zero, List.set_cons_succ]
    refine takeTo (i := 13) (v := ?_) (some 58) rfl rfl (by kernel_rfl) (by kernel_rfl) (by kernel_rfl) (fun _ _ _ h => h) (Or.inl ⟨by rfl, ?_⟩) (by assumption) ?_
    rotate_left
    · (intro W7 hSw; (try dsimp only at hSw); go_simp; try with_reducible rfl)
    try simp only [Act.put, List.setIfInBounds_toArray, List.set_cons_zero, List.set_cons_succ]
    refine takeTo (i := 14) (v := ?_) (some 59) rfl rfl (by kernel_rfl) (by kernel_rfl) (by kernel_rfl) (fun _ _ _ h => h) (Or.inl ⟨by rfl, ?_⟩) (by assumption) ?_
    rotate_left
    · (intro W7 hSw; (try dsimp only at hSw); go_simp; try with_reducible rfl)
    try simp only [Act.put, List.setIfInBounds_toArray, List.set_cons_zero, List.set_cons_succ]
    refine takeTo (i := 15) (v := ?_) (some 60) rfl rfl (by kernel_rfl) (by kernel_rfl) (by kernel_rfl) (fun _ _ _ h => h) (Or.inl ⟨by rfl, ?_⟩) (by assumption) ?_
    rotate_left
    · (intro W7 hSw; (try dsimp only at hSw); go_simp; try with_reducible rfl)
    try simp only [Act.put, List.setIfInBounds_toArray, List.set_cons_zero, List.set_cons_succ]
    refine takeTo (i := 16) (v := ?_) (some 13) rfl rfl (by kernel_rfl) (by kernel_rfl) (by kernel_rfl) (fun _ _ _ h => h) (Or.inl ⟨by rfl, ?_⟩) (by assumption) ?_
    rotate_left
    · (intro W7 hSw; (try dsimp only at hSw); go_simp; try with_reducible rfl)
    try simp only [Act.put, List.setIfInBounds_toArray, List.set_cons_zero, List.set_cons_succ]
    refine wpAnyH_done (by kernel_rfl) ?_ _
    have O7 := Lib.hid (show Owns w6.drew w.heap.size (.slice (some ⟨gc, 0, none⟩) (n + 1) c4) r4 from O6.out.drew)
    have B7 := Lib.hid (show Below w4.heap.size w4 w6.drew from B6.out.drew)
    have S7 := Lib.hid (show Sp w6.drew g (N _) f' ∧ RSp w6.drew gr gl (N _) f' from ⟨S6.out.1.kept ((Kept.refl (fun _ => False) w6).drew) (fun e => e), S6.out.2.kept ((Kept.refl (fun _ => False) w6).drew) (fun e => e) (fun e => e)⟩)
    clear S6 S5
    generalize w6.drew = w7 at *
    clear O6 O5 B5 HB6 HCV HCV2 HLAST RC
    go_wp2_with fail
    go_loopw [14] (fun iv wr => ∃ (i : Nat) (lc : List UInt8), i ≤ n + 1 ∧ iv = .int .i64 (i : Int) ∧ lc.length = n + 1 ∧ Owns wr w.heap.size (.slice (some ⟨gc, 0, none⟩) (n + 1) c4) lc ∧ Kept (fun b => b = gc) w7 wr) (fun iv _ => n + 1 - (intOf iv).toNat)
    case atStart => exact ⟨0, r4, by omega, rfl, L4.out, O7.out, Kept.refl _ _⟩
    case round =>
      obtain ⟨i, lc, hi, rfl, hlen, hO, hkept⟩ := hrel
      have HL := Lib.hid hlen
      have HO := Lib.hid (And.intro hO hkept)
      clear hO hkept
      by_cases hlt : i < n + 1
      · have hd : decide ((i : Int) < ((n + 1 : Nat) : Int)) = true := by simp; omega
        have hd2 : decide (i < n + 1) = true := by simp; omega
        have hd3 : decide ((i : Int) < (n : Int) + 1) = true := by simp; omega
        have hc := HO.out.1.at_ i (by omega)
        have hfz := HO.out.1.free i
        obtain ⟨xb, hxb⟩ : ∃ xb, xb = lc.getD i 0 := ⟨_, rfl⟩
        rw [← hxb] at hc
        have hx9 := Lib.hid (xor9 xb)
        clear hxb hlen
        go_wp2_with fail
        go_roundw
        case rel => exact ⟨i + 1, lc.set i (xb ^^^ 9), by omega, by go_num, by rw [List.length_set]; exact HL.out, HO.out.1.put i (xb ^^^ 9) _ (by rw [hx9.out]), HO.out.2.setCell (p := ⟨gc, i, none⟩) rfl _⟩
        case measure => simp [intOf] <;> omega
      · obtain rfl : i = n + 1 := by omega
        clear hlen
        have BF := Lib.hid (show Below w.heap.size w wr from (B4.out.trans (B7.out.mono B4.out.size)).trans (HO.out.2.below (fun b e => by rw [e]; exact hgc) (Nat.le_trans B4.out.size B7.out.size)))
        have S8 := Lib.hid (And.intro (S7.out.1.kept HO.out.2 (by omega)) (S7.out.2.kept HO.out.2 (by omega) (by omega)))
        obtain ⟨e0, e1, e2, e3⟩ := HC.out wr BF.out
        have f0 := (HW.out wr BF.out).blk.free
        have f00 := f0 0
        have f01 := f0 1
        have f02 := f0 2
        have f03 := f0 3
        clear f0
        go_wp2_with fail
        go_ret
        have hw4 := B4.out.size
        have hM := HM.out
        have hMj := hM.2
        have K9 := fun (i j : Nat) => ((Kept.refl (fun b => b = gw) wr).setCell (p := ⟨gw, i, none⟩) rfl (ptr g)).setCell (p := ⟨gw, j, none⟩) rfl (ptr gr)
        first
          | refine ⟨rfl, ⟨_, _, _, _, _, H.out.swap (M := w.heap.size) false g gr gl _ f' (((HW.out wr BF.out).blk.put 0 (ptr g)).put 2 (ptr gr)) (S8.out.1.kept (K9 0 2) (by omega)) (S8.out.2.kept (K9 0 2) (by omega) (by omega)) (fun j => ((HW.out wr BF.out).sp j).kept (K9 0 2) (by have := H.out.ne j j; exact this.1)) (fun j => ((HW.out wr BF.out).rsp j).kept (K9 0 2) (by have := H.out.ne j j; exact this.2.1) (by have := H.out.ne j j; exact this.2.2.1)) hM H.out.size (by omega) hneq⟩, ?_⟩
          | refine ⟨rfl, ⟨_, _, _, _, _, H.out.swap (M := w.heap.size) true g gr gl _ f' (((HW.out wr BF.out).blk.put 1 (ptr g)).put 3 (ptr gr)) (S8.out.1.kept (K9 1 3) (by omega)) (S8.out.2.kept (K9 1 3) (by omega) (by omega)) (fun j => ((HW.out wr BF.out).sp j).kept (K9 1 3) (by have := H.out.ne j j; exact this.1)) (fun j => ((HW.out wr BF.out).rsp j).kept (K9 1 3) (by have := H.out.ne j j; exact this.2.1) (by have := H.out.ne j j; exact this.2.2.1)) hM H.out.size (by omega) hneq⟩, ?_⟩
        exact ((BF.out.mono H.out.size).setCell (p := ⟨gw, _, none⟩) H.out.low.1 _).setCell (p := ⟨gw, _, none⟩) H.out.low.1 _
theorem decoded_any (B gw : Nat) (k : Bool) (s x y N : Bool → Nat) (f : Bool → Nat → Bool) (A : Option Addr) (cb n : Nat) (l : List UInt8) (w : World) (h : Wld B gw s x y N f w)
    (hr : Rd w w.heap.size A l) (hn : n = l.length) (hlc : l.length ≤ cb) (hl : l.length ≤ 140737488351232) :
    Calls Tryd.prog 41 #[.pointer (some ⟨gw, 0, none⟩), .int .i64 (bi k), .slice A n cb] w fun e w' => e = .returned (.bool true) ∧ (∃ s x y N f, Wld B gw s x y N f w') ∧ Below B w w' := by
  cases hd : decd (N k) l with
  | none => exact decoded_none B gw k s x y N f A cb n l w h hr hn hlc hl hd
  | some f' => exact decoded_some B gw k s x y N f A cb n l f' w h hr hn hlc hl hd
end Go.Proofs.YtghakgepchlpgaaDoor
