/- WALKS: SameRuns of lists that are one; the law's runs and bytes. -/
import Derived.Test.YtghakgepchlpgaaDoorS
namespace Go.Proofs.YtghakgepchlpgaaDoor
open Go.RowKit Spc

/-- the cells that a slice's pairs stand in, from a block's first cell on -/
def RdU (w : World) (B : Nat) (A : Option Addr) (l : List (Int × Int)) : Prop :=
  l = [] ∨ ∃ g, A = some ⟨g, 0, none⟩ ∧ g < B ∧ ∀ k, k < l.length → w.cell? ⟨g, k * 2, none⟩ = some (.int .i64 (l.getD k (0, 0)).1) ∧ w.cell? ⟨g, k * 2 + 1, none⟩ = some (.int .i64 (l.getD k (0, 0)).2)
theorem RdU.below {w w' : World} {B B' : Nat} {A : Option Addr} {l : List (Int × Int)} (h : RdU w B A l) (hb : Below B' w w') (hB : B ≤ B') : RdU w' B A l := by
  rcases h with h | ⟨g, hA, hlt, hc⟩
  · exact .inl h
  · exact .inr ⟨g, hA, hlt, fun k hk => ⟨(hb.cell (p := ⟨g, k * 2, none⟩) (by show g < B'; omega)).trans (hc k hk).1, (hb.cell (p := ⟨g, k * 2 + 1, none⟩) (by show g < B'; omega)).trans (hc k hk).2⟩⟩
theorem RdU.mono {w : World} {B B' : Nat} {A : Option Addr} {l : List (Int × Int)} (h : RdU w B A l) (hB : B ≤ B') : RdU w B' A l := by
  rcases h with h | ⟨g, hA, hlt, hc⟩
  · exact .inl h
  · exact .inr ⟨g, hA, by omega, hc⟩
theorem OwnsU.reads {w : World} {base c : Nat} {A : Option Addr} {l : List (Int × Int)} (h : OwnsU w base (.slice A l.length c) l) : RdU w w.heap.size A l := by
  by_cases h0 : 0 < l.length
  · obtain ⟨g, rfl, _, _⟩ := h.some_ h0
    exact .inr ⟨g, rfl, (h.lt g rfl).2, fun k hk => h.at_ k hk⟩
  · exact .inl (List.eq_nil_of_length_eq_zero (by omega))
set_option maxHeartbeats 1000000 in
theorem same_any (A B : Option Addr) (ca cb n : Nat) (l : List (Int × Int)) (w : World) (hA : RdU w w.heap.size A l) (hB : RdU w w.heap.size B l) (hn : n = l.length) (hl : n ≤ 1000000) :
    Calls Tryd.prog 34 #[.slice A n ca, .slice B n cb] w fun e w' => e = .returned (.bool true) ∧ Below w.heap.size w w' := by
  have HA := Lib.hid hA
  have HB := Lib.hid hB
  have HN := Lib.hid hn
  clear hA hB hn
  go_enter Tryd.func34, Tryd.ntmps34
  go_wp2_with fail
  go_loopw [5] (fun iv wr => ∃ k : Nat, k ≤ n ∧ iv = .int .i64 (k : Int) ∧ Below w.heap.size w wr) (fun iv _ => n - (intOf iv).toNat)
  case atStart => exact ⟨0, by omega, rfl, Below.refl _ _⟩
  case round =>
    obtain ⟨k, hk, rfl, hbel⟩ := hrel
    by_cases hlt : k < n
    · have hd : decide ((k : Int) < (n : Int)) = true := by simp; omega
      have hd2 : decide (k < n) = true := by simp; omega
      obtain ⟨ga, rfl, ha1, ha2⟩ : ∃ g, A = some ⟨g, 0, none⟩ ∧ g < w.heap.size ∧ ∀ k, k < l.length → wr.cell? ⟨g, k * 2, none⟩ = some (.int .i64 (l.getD k (0, 0)).1) ∧ wr.cell? ⟨g, k * 2 + 1, none⟩ = some (.int .i64 (l.getD k (0, 0)).2) := by
        rcases HA.out.below hbel (Nat.le_refl _) with h | h
        · have := HN.out; rw [h] at this; simp at this; omega
        · exact h
      obtain ⟨gb, rfl, hb1, hb2⟩ : ∃ g, B = some ⟨g, 0, none⟩ ∧ g < w.heap.size ∧ ∀ k, k < l.length → wr.cell? ⟨g, k * 2, none⟩ = some (.int .i64 (l.getD k (0, 0)).1) ∧ wr.cell? ⟨g, k * 2 + 1, none⟩ = some (.int .i64 (l.getD k (0, 0)).2) := by
        rcases HB.out.below hbel (Nat.le_refl _) with h | h
        · have := HN.out; rw [h] at this; simp at this; omega
        · exact h
      obtain ⟨a1, a2⟩ := ha2 k (by rw [← HN.out]; exact hlt)
      obtain ⟨b1, b2⟩ := hb2 k (by rw [← HN.out]; exact hlt)
      generalize (l.getD k (0, 0)).1 = x at a1 b1
      generalize (l.getD k (0, 0)).2 = y at a2 b2
      have HBel := Lib.hid hbel
      clear ha2 hb2 hbel
      go_wp2_with fail
      go_quiet (fail)
      go_wp2_with fail
      go_roundw
      case rel => exact ⟨k + 1, by omega, by go_num, below_drewN HBel.out nq⟩
      case measure => simp [intOf] <;> omega
    · obtain rfl : k = n := by omega
      have HBel := Lib.hid hbel
      clear hbel
      go_wp2_with fail
      go_ret
      exact ⟨rfl, HBel.out⟩
theorem flat_fst_set : ∀ (l : List (Int × Int)) (k : Nat) (x y : Int), k < l.length → ((flat l).set (k * 2) (.int .i64 x)).set (k * 2 + 1) (.int .i64 y) = flat (l.set k (x, y))
  | [], k, _, _, h => by simp at h
  | e :: l, 0, _, _, _ => rfl
  | e :: l, k + 1, x, y, h => by
    rw [show (k + 1) * 2 + 1 = k * 2 + 1 + 1 + 1 by omega, show (k + 1) * 2 = k * 2 + 1 + 1 by omega]
    simp only [flat, List.set_cons_succ]
    rw [flat_fst_set l k x y (by simpa using h)]
theorem OwnsU.put2 {w : World} {base g c : Nat} {l : List (Int × Int)} (h : OwnsU w base (.slice (some ⟨g, 0, none⟩) l.length c) l) (k : Nat) (hk : k < l.length) (x y : Int) :
    OwnsU ((w.setCell ⟨g, k * 2, none⟩ (.int .i64 x)).setCell ⟨g, k * 2 + 1, none⟩ (.int .i64 y)) base (.slice (some ⟨g, 0, none⟩) l.length c) (l.set k (x, y)) := by
  have h1 := (World.ownsRow.stored h (k * 2) (.int .i64 x)).1
  have h2 := (World.ownsRow.stored h1 (k * 2 + 1) (.int .i64 y)).1
  rw [flat_fst_set l k x y hk] at h2
  unfold OwnsU
  rw [List.length_set]
  exact h2
set_option maxHeartbeats 2000000 in
theorem runs_true (g N : Nat) (f : Nat → Bool) (B : Option Addr) (cb n : Nat) (m : List (Int × Int)) (w : World) (h : Sp w g N f) (hm : m = runs f N) (hn : n = m.length) (hB : RdU w w.heap.size B m) :
    Calls Tryd.prog 17 #[.pointer (some ⟨g, 0, none⟩), .slice B n cb] w fun e w' => e = .returned (.bool true) ∧ Below w.heap.size w w' := by
  have H := Lib.hid h
  have HM := Lib.hid hm
  have HN := Lib.hid hn
  have HB := Lib.hid hB
  have hnl : n ≤ 65536 := by rw [hn, hm]; have := runs_len f N; have := h.bounds; omega
  clear h hm hn hB
  go_enter Tryd.func17, Tryd.ntmps17
  go_wp2_with fail
  refine (runs_any g N f w H.out).mono ?_
  rintro e w1 ⟨A1, c1, r1, q1, rfl, o1, hc1, b1⟩
  obtain rfl : r1 = m := q1.out.trans HM.out.symm
  have O1 := Lib.hid (And.intro o1 b1)
  clear o1 b1 q1
  rw [← HN.out]
  go_wp2_with fail
  refine (runs_any g N f w1 (H.out.below O1.out.2)).mono ?_
  rintro e w2 ⟨A2, c2, r2, q2, rfl, o2, hc2, b2⟩
  obtain rfl : r2 = r1 := q2.out.trans HM.out.symm
  have O2 := Lib.hid (And.intro o2 b2)
  clear o2 b2 q2
  rw [← HN.out]
  go_wp2_with fail
  have RB := Lib.hid fun W (hW : Below w2.heap.size w2 W) => (((HB.out.below (O1.out.2.trans (O2.out.2.mono O1.out.2.size)) (Nat.le_refl _)).below hW (Nat.le_trans O1.out.2.size O2.out.2.size)).mono (Nat.le_trans (Nat.le_trans O1.out.2.size O2.out.2.size) hW.size))
  refine (same_any A1 B c1 cb n r2 w2 ((O1.out.1.below O2.out.2).reads) (RB.out _ (Below.refl _ _)) HN.out (by omega)).mono ?_
  rintro e w3 ⟨rfl, b3⟩
  have O3 := Lib.hid (And.intro (O1.out.1.below (O2.out.2.trans (b3.mono O2.out.2.size))) (And.intro (O2.out.1.below b3) (And.intro (O1.out.2.trans ((O2.out.2.trans (b3.mono O2.out.2.size)).mono O1.out.2.size)) b3)))
  have hA1 : ∀ b, (Value.slice A1 n c1).ownBlock = some b → w.heap.size ≤ b ∧ b < w1.heap.size := fun b h => O1.out.1.lt b (by rw [HN.out] at h; exact h)
  have hA2 : ∀ b, (Value.slice A2 n c2).ownBlock = some b → w1.heap.size ≤ b ∧ b < w2.heap.size := fun b h => O2.out.1.lt b (by rw [HN.out] at h; exact h)
  have H1 := Lib.hid hA1
  have H2 := Lib.hid hA2
  have Z := Lib.hid (And.intro O1.out.2.size (And.intro O2.out.2.size b3.size))
  clear b3 hA1 hA2 O1 O2
  go_wp2_with fail
  go_loopw [8] (fun iv wr => ∃ (k : Nat) (l : List (Int × Int)), k ≤ n ∧ iv = .int .i64 (k : Int) ∧ l.length = n ∧ OwnsU wr w.heap.size (.slice A1 n c1) l ∧ Below w.heap.size w wr ∧ Kept (fun b => w.heap.size ≤ b ∧ b < w1.heap.size) w3 wr) (fun iv _ => n - (intOf iv).toNat)
  case atStart => exact ⟨0, r2, by omega, rfl, HN.out.symm, by rw [HN.out]; exact O3.out.1, O3.out.2.2.1, Kept.refl _ _⟩
  case round =>
    obtain ⟨k, l, hk, rfl, hl, hO, hbel, hkept⟩ := hrel
    by_cases hlt : k < n
    · obtain ⟨ga, rfl, -, -⟩ := hO.some_ (by omega)
      have hga := H1.out ga rfl
      have hfz := (show OwnsU wr w.heap.size (.slice (some ⟨ga, 0, none⟩) l.length c1) l by rw [hl]; exact hO).free
      obtain ⟨x0, hx0⟩ : ∃ x, x = (l.getD k (0, 0)).1 := ⟨_, rfl⟩
      obtain ⟨y0, hy0⟩ : ∃ x, x = (l.getD k (0, 0)).2 := ⟨_, rfl⟩
      obtain ⟨cx, cy⟩ := (show OwnsU wr w.heap.size (.slice (some ⟨ga, 0, none⟩) l.length c1) l by rw [hl]; exact hO).at_ k (by omega)
      rw [← hx0] at cx
      rw [← hy0] at cy
      have f1 := hfz (k * 2)
      have f2 := hfz (k * 2 + 1)
      have HO := Lib.hid (And.intro hO (And.intro hbel hkept))
      have HL := Lib.hid hl
      have hd : decide ((k : Int) < (n : Int)) = true := by simp; omega
      have hd2 : decide (k < n) = true := by simp; omega
      clear hO hbel hkept hl hfz hx0 hy0
      go_wp2_with fail
      go_roundw
      case rel =>
        have h1 := (show OwnsU wr w.heap.size (.slice (some ⟨ga, 0, none⟩) l.length c1) l by rw [HL.out]; exact HO.out.1).put2 k (by rw [HL.out]; exact hlt) (-7) 0
        rw [HL.out] at h1
        exact ⟨k + 1, l.set k (-7, 0), by omega, by go_num, by rw [List.length_set]; exact HL.out, h1, (HO.out.2.1.setCell (p := ⟨ga, k * 2, none⟩) hga.1 _).setCell (p := ⟨ga, k * 2 + 1, none⟩) hga.1 _, (HO.out.2.2.setCell (p := ⟨ga, k * 2, none⟩) hga _).setCell (p := ⟨ga, k * 2 + 1, none⟩) hga _⟩
      case measure => simp [intOf] <;> omega
    · obtain rfl : k = n := by omega
      have HO := Lib.hid (And.intro hO (And.intro hbel hkept))
      have HL := Lib.hid hl
      clear hO hbel hkept hl
      go_wp2_with fail
      go_loopw [5, 9] (fun av iv wr => ∃ (i : Nat) (A : Option Addr) (c : Nat) (l : List (Int × Int)), i ≤ 20 ∧ iv = .int .i64 (i : Int) ∧ l.length = k + i ∧ av = .slice A l.length c ∧ OwnsU wr w.heap.size (.slice A l.length c) l ∧ Below w.heap.size w wr ∧ Kept (fun b => w.heap.size ≤ b ∧ (b < w1.heap.size ∨ w3.heap.size ≤ b)) w3 wr ∧ (∀ b, (Value.slice A l.length c).ownBlock = some b → b < w1.heap.size ∨ w3.heap.size ≤ b)) (fun _ iv _ => 20 - (intOf iv).toNat)
      case atStart => exact ⟨0, A1, c1, l, by omega, rfl, by rw [HL.out]; rfl, by rw [HL.out], by rw [HL.out]; exact HO.out.1, HO.out.2.1, HO.out.2.2.mono (fun b _ h => ⟨h.1, .inl h.2⟩), fun b hb => .inl (H1.out b (by rw [HL.out] at hb; exact hb)).2⟩
      case round =>
        clear HO HL
        obtain ⟨i, A, c, l, hi, rfl, hl, rfl, hO, hbel, hkept, hblk⟩ := hrel
        have HL := Lib.hid hl
        have HO := Lib.hid (And.intro hO (And.intro hbel (And.intro hkept hblk)))
        clear hl hO hbel hkept hblk
        by_cases hlt : i < 20
        · have hd : decide ((i : Int) < 20) = true := by simp; omega
          have hd2 : decide (i < 20) = true := by simp; omega
          have B2 := Lib.hid (HO.out.2.1.alloc HO.out.2.1.size (.cells #[.int .i64 (-8), .int .i64 0] 69))
          have K2 := Lib.hid (HO.out.2.2.1.alloc (.cells #[.int .i64 (-8), .int .i64 0] 69))
          have O2 := Lib.hid (show OwnsU (wr.alloc (.cells #[.int .i64 (-8), .int .i64 0] 69)) w.heap.size (.slice A l.length c) l from World.ownsRow.alloc HO.out.1 _)
          have HRO := Lib.hid HO.out.1.lt
          have HRL := Lib.hid (show (l.length + 1) * 16 ≤ 140737488355328 by rw [HL.out]; omega)
          have HW3 := Lib.hid HO.out.2.2.1.size
          go_wp2_with (first
            | (at_builtin
               refine wpList_append_pair rfl (.tmp 31) (.tmp 33) rfl w.heap.size _ l (-8, 0) rfl O2.out wr.heap.size 1 rfl (Blk.new wr 69 #[.int .i64 (-8), .int .i64 0]) HRL.out B2.out.size ?_
               intro A3 c3 w5 r3 q3 rc3 o3 g3 l3
               have B3 := Lib.hid (B2.out.grown g3 B2.out.size (fun j hj => (HRO.out j hj).1))
               have K3 := Lib.hid (K2.out.grown g3 (fun j hj => ⟨(HRO.out j hj).1, HO.out.2.2.2 j hj⟩))
               have O3 := Lib.hid o3
               have Q3 := Lib.hid (show r3.length = k + (i + 1) by rw [q3.out, List.length_append, HL.out]; simp; omega)
               have L3 := Lib.hid (show ∀ b, (Value.slice A3 r3.length c3).ownBlock = some b → b < w1.heap.size ∨ w3.heap.size ≤ b from fun b hb => by
                 rcases l3 with h | h
                 · exact HO.out.2.2.2 b (h.symm.trans hb)
                 · right
                   have := Option.some.inj (h.symm.trans hb)
                   have h2 := HW3.out
                   simp at this
                   omega)
               clear g3 o3 q3 l3))
          go_roundw
          case rel => exact ⟨i + 1, A3, c3, r3, by omega, by go_num, Q3.out, rfl, O3.out, B3.out, K3.out, L3.out⟩
          case measure => simp [intOf] <;> omega
        · obtain rfl : i = 20 := by omega
          go_wp2_with fail
          have R2 := Lib.hid (show OwnsU wr w1.heap.size (.slice A2 k c2) r2 by
            have := O3.out.2.1.kept HO.out.2.2.1 (fun b hb => by
              have h1 := H2.out b (by rw [HN.out]; exact hb)
              have := Z.out
              omega)
            rw [HN.out]; exact this)
          have hrd := (HB.out.below HO.out.2.1 (Nat.le_refl _)).mono HO.out.2.1.size
          refine (same_any A2 B c2 cb k r2 wr (by have := R2.out; rw [HN.out] at this; exact this.reads) hrd HN.out (by omega)).mono ?_
          rintro e w6 ⟨rfl, b6⟩
          have B6 := Lib.hid (HO.out.2.1.trans (b6.mono HO.out.2.1.size))
          clear b6 hrd
          go_wp2_with fail
          go_ret
          exact ⟨rfl, B6.out⟩
set_option maxHeartbeats 2000000 in
theorem bytes_true (g N : Nat) (f : Nat → Bool) (E : List UInt8) (w : World) (h : Sp w g N f) (hE : E = enc f N) :
    Calls Tryd.prog 19 #[.pointer (some ⟨g, 0, none⟩), .string (bs E)] w fun e w' => e = .returned (.bool true) ∧ Below w.heap.size w w' := by
  have H := Lib.hid h
  obtain ⟨n, hn⟩ : ∃ n, n = E.length := ⟨_, rfl⟩
  have hnl : n ≤ 600000 := by rw [hn, hE, enc_len]; have := runs_len f N; have := h.bounds; omega
  have HE := Lib.hid hE
  have HN := Lib.hid hn
  clear h hE hn
  go_enter Tryd.func19, Tryd.ntmps19
  go_wp2_with fail
  refine (encode_any g N f w H.out).mono ?_
  rintro e w1 ⟨A1, c1, r1, q1, rfl, o1, hc1, b1⟩
  obtain rfl : r1 = E := q1.out.trans HE.out.symm
  have O1 := Lib.hid (And.intro o1 b1)
  clear o1 b1 q1
  rw [← HN.out]
  go_wp2_with fail
  refine (encode_any g N f w1 (H.out.below O1.out.2)).mono ?_
  rintro e w2 ⟨A2, c2, r2, q2, rfl, o2, hc2, b2⟩
  obtain rfl : r2 = r1 := q2.out.trans HE.out.symm
  have O2 := Lib.hid (And.intro o2 b2)
  clear o2 b2 q2
  rw [← HN.out]
  have O3 := Lib.hid (And.intro (O1.out.1.below O2.out.2) (O1.out.2.trans (O2.out.2.mono O1.out.2.size)))
  have hcv := conv_str A1 c1 r2 w2 w2.heap.size O3.out.1.reads
  rw [← HN.out] at hcv
  have H1 := Lib.hid (show ∀ b, (Value.slice A1 n c1).ownBlock = some b → w.heap.size ≤ b ∧ b < w1.heap.size from fun b h => O1.out.1.lt b (by rw [HN.out] at h; exact h))
  have H2 := Lib.hid (show ∀ b, (Value.slice A2 n c2).ownBlock = some b → w1.heap.size ≤ b ∧ b < w2.heap.size from fun b h => O2.out.1.lt b (by rw [HN.out] at h; exact h))
  have Z := Lib.hid (And.intro O1.out.2.size O2.out.2.size)
  have O4 := Lib.hid O2.out.1
  clear O1 O2
  go_wp2_with fail
  clear hcv
  go_loopw [8] (fun iv wr => ∃ (k : Nat) (l : List UInt8), k ≤ n ∧ iv = .int .i64 (k : Int) ∧ l.length = n ∧ Owns wr w.heap.size (.slice A1 n c1) l ∧ Below w.heap.size w wr ∧ Kept (fun b => w.heap.size ≤ b ∧ b < w1.heap.size) w2 wr) (fun iv _ => n - (intOf iv).toNat)
  case atStart => exact ⟨0, r2, by omega, rfl, HN.out.symm, by rw [HN.out]; exact O3.out.1, O3.out.2, Kept.refl _ _⟩
  case round =>
    obtain ⟨k, l, hk, rfl, hl, hO, hbel, hkept⟩ := hrel
    by_cases hlt : k < n
    · obtain ⟨ga, rfl⟩ := (show Owns wr w.heap.size (.slice A1 l.length c1) l by rw [hl]; exact hO).some_ (by intro h; rw [h] at hl; simp at hl; omega)
      have hga := H1.out ga rfl
      have f1 := hO.free k
      have cx := hO.at_ k (by omega)
      obtain ⟨x0, hx0⟩ : ∃ x, x = l.getD k 0 := ⟨_, rfl⟩
      rw [← hx0] at cx
      have HO := Lib.hid (And.intro hO (And.intro hbel hkept))
      have HL := Lib.hid hl
      have hd : decide ((k : Int) < (n : Int)) = true := by simp; omega
      have hd2 : decide (k < n) = true := by simp; omega
      clear hO hbel hkept hl hx0
      go_wp2_with fail
      go_roundw
      case rel =>
        exact ⟨k + 1, l.set k 7, by omega, by go_num, by rw [List.length_set]; exact HL.out, HO.out.1.put k 7 _ rfl, HO.out.2.1.setCell (p := ⟨ga, k, none⟩) hga.1 _, HO.out.2.2.setCell (p := ⟨ga, k, none⟩) hga _⟩
      case measure => simp [intOf] <;> omega
    · obtain rfl : k = n := by omega
      have HO := Lib.hid (And.intro hO (And.intro hbel hkept))
      have HL := Lib.hid hl
      clear hO hbel hkept hl
      go_wp2_with fail
      go_loopw [5, 9] (fun av iv wr => ∃ (i : Nat) (A : Option Addr) (c : Nat) (l : List UInt8), i ≤ 20 ∧ iv = .int .i64 (i : Int) ∧ l.length = k + i ∧ av = .slice A l.length c ∧ Owns wr w.heap.size (.slice A l.length c) l ∧ Below w.heap.size w wr ∧ Kept (fun b => w.heap.size ≤ b ∧ (b < w1.heap.size ∨ w2.heap.size ≤ b)) w2 wr ∧ (∀ b, (Value.slice A l.length c).ownBlock = some b → b < w1.heap.size ∨ w2.heap.size ≤ b)) (fun _ iv _ => 20 - (intOf iv).toNat)
      case atStart => exact ⟨0, A1, c1, l, by omega, rfl, by rw [HL.out]; rfl, by rw [HL.out], by rw [HL.out]; exact HO.out.1, HO.out.2.1, HO.out.2.2.mono (fun b _ h => ⟨h.1, .inl h.2⟩), fun b hb => .inl (H1.out b (by rw [HL.out] at hb; exact hb)).2⟩
      case round =>
        clear HO HL
        obtain ⟨i, A, c, l, hi, rfl, hl, rfl, hO, hbel, hkept, hblk⟩ := hrel
        have HL := Lib.hid hl
        have HO := Lib.hid (And.intro hO (And.intro hbel (And.intro hkept hblk)))
        clear hl hO hbel hkept hblk
        by_cases hlt : i < 20
        · have hd : decide ((i : Int) < 20) = true := by simp; omega
          have hd2 : decide (i < 20) = true := by simp; omega
          have B2 := Lib.hid (HO.out.2.1.alloc HO.out.2.1.size (.cells #[.int .u8 8] 5))
          have K2 := Lib.hid (HO.out.2.2.1.alloc (.cells #[.int .u8 8] 5))
          have O2 := Lib.hid (HO.out.1.alloc (.cells #[.int .u8 8] 5))
          have HRO := Lib.hid HO.out.1.lt
          have HRL := Lib.hid (show l.length + 1 ≤ 140737488355328 by rw [HL.out]; omega)
          have HW3 := Lib.hid HO.out.2.2.1.size
          go_wp2_with (first
            | (at_builtin
               refine wpList_append_bytes rfl (.tmp 31) (.tmp 32) rfl w.heap.size _ l [8] rfl O2.out (wr.heap.size + 1) (some ⟨wr.heap.size, 0, none⟩) 1 rfl (Rd.of_row (heap_alloc_new wr _) (fun i hi => by
                 have hi0 : i = 0 := by simp at hi; omega
                 subst hi0
                 rfl) (by omega)) (by simpa using HRL.out) B2.out.size ?_
               intro A3 c3 w5 r3 q3 rc3 o3 g3
               have B3 := Lib.hid (B2.out.grown g3.1 B2.out.size (fun j hj => (HRO.out j hj).1))
               have K3 := Lib.hid (K2.out.grown g3.1 (fun j hj => ⟨(HRO.out j hj).1, HO.out.2.2.2 j hj⟩))
               have O3 := Lib.hid o3
               have Q3 := Lib.hid (show r3.length = k + (i + 1) by rw [q3.out, List.length_append, HL.out]; simp; omega)
               have L3 := Lib.hid (show ∀ b, (Value.slice A3 r3.length c3).ownBlock = some b → b < w1.heap.size ∨ w2.heap.size ≤ b from fun b hb => by
                 rcases g3.2 with h | h
                 · exact HO.out.2.2.2 b (h.symm.trans hb)
                 · right
                   have := Option.some.inj (h.symm.trans hb)
                   have h2 := HW3.out
                   simp at this
                   omega)
               clear g3 o3 q3 rc3))
          go_roundw
          case rel => exact ⟨i + 1, A3, c3, r3, by omega, by go_num, Q3.out, rfl, O3.out, B3.out, K3.out, L3.out⟩
          case measure => simp [intOf] <;> omega
        · obtain rfl : i = 20 := by omega
          have R2 := Lib.hid (show Owns wr w1.heap.size (.slice A2 r2.length c2) r2 from
            O4.out.kept HO.out.2.2.1 (fun b hb => by
              have h1 := H2.out b (by rw [HN.out]; exact hb)
              have := Z.out
              omega))
          have hcv := conv_str A2 c2 r2 wr wr.heap.size R2.out.reads
          rw [← HN.out] at hcv
          go_wp2_with fail
          go_ret
          exact ⟨rfl, HO.out.2.1⟩
end Go.Proofs.YtghakgepchlpgaaDoor
