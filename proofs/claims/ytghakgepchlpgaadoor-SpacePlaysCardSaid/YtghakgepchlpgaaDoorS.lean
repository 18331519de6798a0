/- WALKS of the document of layer 9: four, Runs, Encode, SameRuns. -/
import Derived.Test.YtghakgepchlpgaaDoorR
namespace Go.Proofs.YtghakgepchlpgaaDoor
open Go.RowKit Spc

set_option maxHeartbeats 1000000 in
theorem rfour_any (base : Nat) (A : Option Addr) (c : Nat) (l : List UInt8) (n : Nat) (w : World) (hown : Owns w base (.slice A l.length c) l) (hb : base ≤ w.heap.size) (hl : l.length ≤ 1099511627776) :
    Calls Tryd.prog 42 #[.slice A l.length c, .int .i64 (n : Int)] w fun e w' => ∃ A' c' r, Hid (r = l ++ four (n : Int)) ∧ e = .returned (.slice A' r.length c') ∧ Owns w' base (.slice A' r.length c') r ∧
      Kept (fun k => (Value.slice A l.length c).ownBlock = some k) w w' ∧ (∀ k, (Value.slice A' r.length c').ownBlock = some k → (Value.slice A l.length c).ownBlock = some k ∨ w.heap.size ≤ k) := by
  rw [four_nat]
  have e0 := byte_of (n / 16777216)
  have e1 := byte_of (n / 65536)
  have e2 := byte_of (n / 256)
  have e3 := byte_of n
  obtain ⟨x0, h0⟩ : ∃ x, x = UInt8.ofNat (n / 16777216) := ⟨_, rfl⟩
  obtain ⟨x1, h1⟩ : ∃ x, x = UInt8.ofNat (n / 65536) := ⟨_, rfl⟩
  obtain ⟨x2, h2⟩ : ∃ x, x = UInt8.ofNat (n / 256) := ⟨_, rfl⟩
  obtain ⟨x3, h3⟩ : ∃ x, x = UInt8.ofNat n := ⟨_, rfl⟩
  rw [← h0] at e0 ⊢
  rw [← h1] at e1 ⊢
  rw [← h2] at e2 ⊢
  rw [← h3] at e3 ⊢
  rw [show (((n / 16777216 : Nat) : Int)) = (n : Int) / 16777216 by omega] at e0
  rw [show (((n / 65536 : Nat) : Int)) = (n : Int) / 65536 by omega] at e1
  rw [show (((n / 256 : Nat) : Int)) = (n : Int) / 256 by omega] at e2
  have HL := Lib.hid hl
  have B2 := Lib.hid ((Kept.refl (fun k => (Value.slice A l.length c).ownBlock = some k) w).alloc (.cells #[.int .u8 (x0.toNat : Int), .int .u8 (x1.toNat : Int), .int .u8 (x2.toNat : Int), .int .u8 (x3.toNat : Int)] 5))
  have O2 := Lib.hid (hown.alloc (.cells #[.int .u8 (x0.toNat : Int), .int .u8 (x1.toNat : Int), .int .u8 (x2.toNat : Int), .int .u8 (x3.toNat : Int)] 5))
  have HRO := Lib.hid hown.lt
  have HB := Lib.hid hb
  clear hown h0 h1 h2 h3 hl hb
  go_enter Tryd.func42, Tryd.ntmps42
  go_wp2_with (first
    | (at_builtin
       refine wpList_append_bytes rfl (.tmp 5) (.tmp 17) rfl base _ l [x0, x1, x2, x3] rfl O2.out (w.heap.size + 1) (some ⟨w.heap.size, 0, none⟩) 4 rfl (Rd.of_row (heap_alloc_new w _) (fun i hi => by
         rcases (by simp at hi; omega : i = 0 ∨ i = 1 ∨ i = 2 ∨ i = 3) with rfl | rfl | rfl | rfl <;> rfl) (by omega)) (by have := HL.out; simp; omega) (Nat.le_trans HB.out B2.out.size) ?_
       intro A3 c3 w3 r3 q3 rc3 o3 g3
       have B3 := Lib.hid (B2.out.grown g3.1 (fun k hk => hk))
       have G3 := Lib.hid g3.2
       have O3 := Lib.hid o3
       clear g3 o3 rc3))
  go_ret
  refine ⟨A3, c3, r3, q3, rfl, O3.out, B3.out, fun k hk => ?_⟩
  rcases G3.out with g | g
  · left; exact (g.symm.trans hk)
  · right; have := Option.some.inj (g.symm.trans hk); rw [← this]; simp

set_option maxHeartbeats 1000000 in
theorem rruns_any (gr gl N : Nat) (f : Nat → Bool) (w : World) (h : RSp w gr gl N f) :
    Calls Tryd.prog 18 #[.pointer (some ⟨gr, 0, none⟩)] w fun e w' => ∃ A c r, Hid (r = runs f N) ∧ e = .returned (.slice A r.length c) ∧ OwnsU w' w.heap.size (.slice A r.length c) r ∧ r.length ≤ c ∧ Below w.heap.size w w' := by
  obtain ⟨cap, c0, hcap, hc⟩ := h.cells
  have hNb := h.bounds.2
  have HN := Lib.hid h.bounds
  have HC := Lib.hid (show ∀ W, Below w.heap.size w W → W.cell? ⟨gr, 0, none⟩ = some (.slice (some ⟨gl, 0, none⟩) N cap) ∧ ∀ k, k < N → W.cell? ⟨gl, k, none⟩ = some (.bool (f k)) from fun W hW =>
    ⟨(hW.cell (p := ⟨gr, 0, none⟩) h.lt.1).trans c0, fun k hk => (hW.cell (p := ⟨gl, k, none⟩) h.lt.2).trans (hc k hk).1⟩)
  have HLT := Lib.hid h.lt
  clear h hc hNb
  go_enter Tryd.func18, Tryd.ntmps18
  go_wp2_with fail
  clear c0
  go_loopw [3, 4] (fun bv iv wr => ∃ (k : Nat) (A' : Option Addr) (c' : Nat) (r : List (Int × Int)), k ≤ N ∧ iv = .int .i64 (k : Int) ∧ Hid (r = runs f k) ∧ bv = .slice A' r.length c' ∧ OwnsU wr w.heap.size (.slice A' r.length c') r ∧ r.length ≤ c' ∧ Below w.heap.size w wr) (fun _ iv _ => N - (intOf iv).toNat)
  case atStart => exact ⟨0, none, 0, [], by omega, rfl, rfl, rfl, OwnsU.nil _ _, by simp, Below.refl _ _⟩
  case round =>
    obtain ⟨k, A', c', r, hk, rfl, hr, rfl, hO, hcr, hbel⟩ := hrel
    obtain ⟨c0, hcells⟩ := HC.out wr hbel
    by_cases hlt : k < N
    · have HO := Lib.hid (And.intro hO hbel)
      have hd : decide ((k : Int) < (N : Int)) = true := by simp; omega
      have hd2 : decide (k < N) = true := by simp; omega
      have ck := hcells k hlt
      have hpre : 0 < k → wr.cell? ⟨gl, k - 1, none⟩ = some (.bool (f (k - 1))) := fun h0 => hcells (k - 1) (by omega)
      clear hO hbel hcells
      by_cases hf : f k = true
      · have hf0 := Lib.hid hf
        rw [hf] at ck
        clear hf
        by_cases hk0 : 0 < k
        · have hd3 : decide ((0 : Int) < (k : Int)) = true := by simp; omega
          have hd4 : decide (0 < k) = true := by simp; omega
          obtain ⟨kp, hkp⟩ : ∃ kp : Nat, kp = k - 1 := ⟨_, rfl⟩
          have hw1 : wrap64 ((k : Int) - 1) = (kp : Int) := by unfold wrap64; have := HN.out; omega
          have cp := hpre hk0
          rw [← hkp] at cp
          have hkN : kp < N := by omega
          have HKP := Lib.hid hkp
          clear hpre hkp
          by_cases hp : f kp = true
          · have hp0 := Lib.hid hp
            rw [hp] at cp
            clear hp
            have hr1 : 0 < r.length := by
              have h1 := runs_some f kp hp0.out
              rwa [show kp + 1 = k by have := HKP.out; omega, ← hr.out] at h1
            obtain ⟨g2, rfl, hg2, -⟩ := HO.out.1.some_ hr1
            have hgg : g2 ≠ gl ∧ g2 ≠ gr := ⟨by have := HLT.out.2; omega, by have := HLT.out.1; omega⟩
            obtain ⟨m, hm⟩ : ∃ m, r.length = m + 1 := ⟨r.length - 1, by omega⟩
            have hm1 : wrap64 ((r.length : Int) - 1) = (m : Int) := by
              have h1 := runs_len f k; rw [← hr.out] at h1
              have := HN.out
              unfold wrap64; omega
            have hml : m < r.length := by omega
            obtain ⟨z, hz⟩ : ∃ z, z = (r.getD m (0, 0)).2 := ⟨_, rfl⟩
            have hzb : 1 ≤ z ∧ z ≤ 65536 := by
              have h1 := runs_in f k (r.getD m (0, 0)) (by rw [← hr.out, List.getD_eq_getElem?_getD, List.getElem?_eq_getElem hml]; exact List.getElem_mem ..)
              have := HN.out
              rw [hz]; omega
            have cz : wr.cell? ⟨g2, m * 2 + 1, none⟩ = some (.int .i64 z) := by rw [hz]; exact (HO.out.1.at_ m hml).2
            have fz := HO.out.1.free (m * 2 + 1)
            have O3 := Lib.hid (HO.out.1.put m hml (z + 1))
            have B3 := Lib.hid (HO.out.2.setCell (p := ⟨g2, m * 2 + 1, none⟩) hg2 (.int .i64 (z + 1)))
            have Q3 := Lib.hid (show r.set m ((r.getD m (0, 0)).1, z + 1) = runs f (k + 1) by rw [runs_more f k hf0.out hk0 (by rw [← HKP.out]; exact hp0.out), ← hr.out, hm, hz]; rfl)
            have HZ := Lib.hid (And.intro hz hm)
            clear hz hm hr1
            go_wp2_with fail
            exact ⟨⟨k + 1, some ⟨g2, 0, none⟩, c', r.set m ((r.getD m (0, 0)).1, z + 1), by omega, num_succ (by have := HN.out; omega), Q3, by rw [List.length_set], by rw [List.length_set]; exact O3.out, by rw [List.length_set]; exact hcr, B3.out⟩, less_succ hlt (by have := HN.out; omega)⟩
          · have hp0 := Lib.hid (show f kp = false by simpa using hp)
            rw [hp0.out] at cp
            clear hp
            have B2 := Lib.hid (HO.out.2.alloc HO.out.2.size (.cells #[.int .i64 (k : Int), .int .i64 1] 69))
            have O2 := Lib.hid (show OwnsU (wr.alloc (.cells #[.int .i64 (k : Int), .int .i64 1] 69)) w.heap.size (.slice A' r.length c') r from World.ownsRow.alloc HO.out.1 _)
            have HRO := Lib.hid HO.out.1.lt
            have HRL := Lib.hid (show (r.length + 1) * 16 ≤ 140737488355328 by have h1 := runs_len f k; rw [← hr.out] at h1; have := HN.out; omega)
            go_wp2_with (first
              | (at_builtin
                 refine wpList_append_pair rfl (.tmp 44) (.tmp 47) rfl w.heap.size _ r ((k : Int), 1) rfl O2.out wr.heap.size 1 rfl (Blk.new wr 69 #[.int .i64 (k : Int), .int .i64 1]) HRL.out B2.out.size ?_
                 intro A3 c3 w3 r3 q3 rc3 o3 g3 l3
                 have B3 := Lib.hid (B2.out.grown g3 B2.out.size (fun j hj => (HRO.out j hj).1))
                 have O3 := Lib.hid o3
                 have Q3 := Lib.hid (show r3 = runs f (k + 1) by rw [q3.out, runs_new f k hf0.out (.inr (by rw [← HKP.out]; exact hp0.out)), ← hr.out])
                 clear g3 o3 q3 l3))
            exact ⟨⟨k + 1, A3, c3, r3, by omega, num_succ (by have := HN.out; omega), Q3, rfl, O3.out, rc3, B3.out⟩, less_succ hlt (by have := HN.out; omega)⟩
        · have hk1 := Lib.hid (show k = 0 by omega)
          have hd3 : decide ((0 : Int) < (k : Int)) = false := by simp; omega
          have hd4 : decide (0 < k) = false := by simp; omega
          clear hk0 hpre
          have B2 := Lib.hid (HO.out.2.alloc HO.out.2.size (.cells #[.int .i64 (k : Int), .int .i64 1] 69))
          have O2 := Lib.hid (show OwnsU (wr.alloc (.cells #[.int .i64 (k : Int), .int .i64 1] 69)) w.heap.size (.slice A' r.length c') r from World.ownsRow.alloc HO.out.1 _)
          have HRO := Lib.hid HO.out.1.lt
          have HRL := Lib.hid (show (r.length + 1) * 16 ≤ 140737488355328 by have h1 := runs_len f k; rw [← hr.out] at h1; have := HN.out; omega)
          go_wp2_with (first
            | (at_builtin
               refine wpList_append_pair rfl (.tmp 44) (.tmp 47) rfl w.heap.size _ r ((k : Int), 1) rfl O2.out wr.heap.size 1 rfl (Blk.new wr 69 #[.int .i64 (k : Int), .int .i64 1]) HRL.out B2.out.size ?_
               intro A3 c3 w3 r3 q3 rc3 o3 g3 l3
               have B3 := Lib.hid (B2.out.grown g3 B2.out.size (fun j hj => (HRO.out j hj).1))
               have O3 := Lib.hid o3
               have Q3 := Lib.hid (show r3 = runs f (k + 1) by rw [q3.out, runs_new f k hf0.out (.inl hk1.out), ← hr.out])
               clear g3 o3 q3 l3))
          exact ⟨⟨k + 1, A3, c3, r3, by omega, num_succ (by have := HN.out; omega), Q3, rfl, O3.out, rc3, B3.out⟩, less_succ hlt (by have := HN.out; omega)⟩
      · have hf0 := Lib.hid (show f k = false by simpa using hf)
        rw [hf0.out] at ck
        clear hf hpre
        go_wp2_with fail
        exact ⟨⟨k + 1, A', c', r, by omega, num_succ (by have := HN.out; omega), Lib.hid (by rw [hr.out, runs_no f k hf0.out]), rfl, HO.out.1, hcr, HO.out.2⟩, less_succ hlt (by have := HN.out; omega)⟩
    · obtain rfl : k = N := by omega
      have HO := Lib.hid (And.intro hO hbel)
      clear hO hbel hcells
      go_wp2_with fail
      go_ret
      exact ⟨A', c', r, hr, rfl, HO.out.1, hcr, HO.out.2⟩
set_option maxHeartbeats 2000000 in
theorem rencode_any (gr gl N : Nat) (f : Nat → Bool) (w : World) (h : RSp w gr gl N f) :
    Calls Tryd.prog 24 #[.pointer (some ⟨gr, 0, none⟩)] w fun e w' => ∃ A c r, Hid (r = enc f N) ∧ e = .returned (.slice A r.length c) ∧ Owns w' w.heap.size (.slice A r.length c) r ∧ r.length ≤ c ∧ Below w.heap.size w w' := by
  have HR := Lib.hid (rruns_any gr gl N f w h)
  have HN := Lib.hid h.bounds
  clear h
  go_enter Tryd.func24, Tryd.ntmps24
  go_wp2_with (go_at_call 18; refine HR.out.mono ?_; rintro e w1 ⟨A, c, l, hl, rfl, o1, hc, b1⟩; have O1 := Lib.hid o1; have B1 := Lib.hid b1; clear o1 b1)
  have HLN : Hid (l.length ≤ 65536) := Lib.hid (by have h1 := runs_len f N; rw [← hl.out] at h1; have := HN.out; omega)
  have HF := Lib.hid (rfour_any w1.heap.size none 0 [] l.length w1 (Owns.nil _ _) (Nat.le_refl _) (by simp))
  go_wp2_with (go_at_call 42; refine HF.out.mono ?_; rintro e w2 ⟨A2, c2, r2, q2, rfl, o2, k2, g2⟩; have O2 := Lib.hid o2; have K2 := Lib.hid (below_kept (Below.refl w1.heap.size w1) k2 (fun k e => by simp [Value.ownBlock] at e) (Nat.le_refl _)); clear o2 k2 g2)
  go_loopw [4, 5] (fun bv iv wr => ∃ (k : Nat) (A' : Option Addr) (c' : Nat) (r : List UInt8), k ≤ l.length ∧ iv = .int .i64 (k : Int) ∧ Hid (r = four (l.length : Int) ++ laid (l.take k)) ∧ bv = .slice A' r.length c' ∧ Owns wr w1.heap.size (.slice A' r.length c') r ∧ Below w1.heap.size w1 wr) (fun _ iv _ => l.length - (intOf iv).toNat)
  case atStart => exact ⟨0, A2, c2, r2, by omega, rfl, Lib.hid (by rw [q2.out]; simp [laid]), rfl, O2.out, K2.out⟩
  case round =>
    obtain ⟨k, A', c', r, hk, rfl, hr, rfl, hO, hbel⟩ := hrel
    by_cases hlt : k < l.length
    · obtain ⟨x, hx⟩ : ∃ x, x = (l.getD k (0, 0)).1 := ⟨_, rfl⟩
      obtain ⟨y, hy⟩ : ∃ y, y = (l.getD k (0, 0)).2 := ⟨_, rfl⟩
      obtain ⟨g2, rfl, hg2, -⟩ := O1.out.some_ (by omega)
      have hm := O1.out.lt g2 rfl
      have HX := Lib.hid (And.intro hx hy)
      have HO := Lib.hid (And.intro hO hbel)
      have hd : decide ((k : Int) < (l.length : Int)) = true := by simp; omega
      have hd2 : decide (k < l.length) = true := by simp; omega
      have hxy : 0 ≤ x ∧ 0 ≤ y := by
        have h1 := runs_in f N (l.getD k (0, 0)) (by rw [← hl.out, List.getD_eq_getElem?_getD, List.getElem?_eq_getElem hlt]; exact List.getElem_mem ..)
        rw [hx, hy]; omega
      obtain ⟨nx, rfl⟩ : ∃ n : Nat, x = (n : Int) := ⟨x.toNat, by omega⟩
      obtain ⟨ny, rfl⟩ : ∃ n : Nat, y = (n : Int) := ⟨y.toNat, by omega⟩
      have HS : Hid (∀ W, Below w1.heap.size w1 W → W.cell? ⟨g2, k * 2, none⟩ = some (.int .i64 (nx : Int)) ∧ W.cell? ⟨g2, k * 2 + 1, none⟩ = some (.int .i64 (ny : Int))) := Lib.hid fun W hW => by
        have OW := O1.out.below hW
        exact ⟨by rw [hx]; exact (OW.at_ k hlt).1, by rw [hy]; exact (OW.at_ k hlt).2⟩
      clear hx hy hO hbel hg2 hm hxy
      go_upto_region 6 with fail
      have s0 : wr.cell? ⟨g2, k * 2, none⟩ = some (.int .i64 (nx : Int)) ∧ wr.cell? ⟨g2, k * 2 + 1, none⟩ = some (.int .i64 (ny : Int)) := HS.out wr HO.out.2
      refine wp_region_held_drew (S := fun W' => W'.cell? ⟨g2, k * 2, none⟩ = some (.int .i64 (nx : Int)) ∧ W'.cell? ⟨g2, k * 2 + 1, none⟩ = some (.int .i64 (ny : Int))) (by kernel_rfl) (by exact s0) (fun hHeld => ?_)
      refine takeTo (i := 0) (v := ?_) (some 17) rfl rfl (by kernel_rfl) (by kernel_rfl) (by kernel_rfl) (fun _ _ _ h => h) (Or.inl ⟨by rfl, ?_⟩) (by assumption) ?_
      rotate_left
      · (intro W7 hSw; (try dsimp only at hSw); go_simp; try with_reducible rfl)
      try simp only [Act.put, List.setIfInBounds_toArray, List.set_cons_zero, List.set_cons_succ]
      refine takeTo (i := 1) (v := ?_) (some 18) rfl rfl (by kernel_rfl) (by kernel_rfl) (by kernel_rfl) (fun _ _ _ h => h) (Or.inl ⟨by rfl, ?_⟩) (by assumption) ?_
      rotate_left
      · (intro W7 hSw; (try dsimp only at hSw); go_simp; try with_reducible rfl)
      try simp only [Act.put, List.setIfInBounds_toArray, List.set_cons_zero, List.set_cons_succ]
      refine takeTo (i := 2) (v := ?_) (some 19) rfl rfl (by kernel_rfl) (by kernel_rfl) (by kernel_rfl) (fun _ _ _ h => h) (Or.inl ⟨by rfl, ?_⟩) (by assumption) ?_
      rotate_left
      · (intro W7 hSw; (try dsimp only at hSw); go_simp; try with_reducible rfl)
      try simp only [Act.put, List.setIfInBounds_toArray, List.set_cons_zero, List.set_cons_succ]
      refine takeTo (i := 3) (v := ?_) (some 20) rfl rfl (by kernel_rfl) (by kernel_rfl) (by kernel_rfl) (fun _ _ _ h => h) (Or.inl ⟨by rfl, ?_⟩) (by assumption) ?_
      rotate_left
      · (intro W7 hSw; (try dsimp only at hSw); go_simp; try with_reducible rfl)
      try simp only [Act.put, List.setIfInBounds_toArray, List.set_cons_zero, List.set_cons_succ]
      refine takeTo (i := 4) (v := ?_) (some 21) rfl rfl (by kernel_rfl) (by kernel_rfl) (by kernel_rfl) (fun _ _ _ h => h) (Or.inl ⟨by rfl, ?_⟩) (by assumption) ?_
      rotate_left
      · (intro W7 hSw; (try dsimp only at hSw); go_simp; try with_reducible rfl)
      try simp only [Act.put, List.setIfInBounds_toArray, List.set_cons_zero, List.set_cons_succ]
      refine takeTo (i := 5) (v := ?_) (some 22) rfl rfl (by kernel_rfl) (by kernel_rfl) (by kernel_rfl) (fun _ _ _ h => h) (Or.inl ⟨by rfl, ?_⟩) (by assumption) ?_
      rotate_left
      · (intro W7 hSw; (try dsimp only at hSw); go_simp; try with_reducible rfl)
      try simp only [Act.put, List.setIfInBounds_toArray, List.set_cons_zero, List.set_cons_succ]
      refine takeTo (i := 7) (v := ?_) (some 24) rfl rfl (by kernel_rfl) (by kernel_rfl) (by kernel_rfl) (fun _ _ _ h => h) (Or.inl ⟨by rfl, ?_⟩) (by assumption) ?_
      rotate_left
      · (intro W7 hSw; (try dsimp only at hSw); go_simp; try with_reducible rfl)
      try simp only [Act.put, List.setIfInBounds_toArray, List.set_cons_zero, List.set_cons_succ]
      refine takeTo (i := 8) (v := ?_) (some 25) rfl rfl (by kernel_rfl) (by kernel_rfl) (by kernel_rfl) (fun _ _ _ h => h) (Or.inl ⟨by rfl, ?_⟩) (by assumption) ?_
      rotate_left
      · (intro W7 hSw; (try dsimp only at hSw); go_simp; try with_reducible rfl)
      try simp only [Act.put, List.setIfInBounds_toArray, List.set_cons_zero, List.set_cons_succ]
      refine takeTo (i := 9) (v := ?_) (some 26) rfl rfl (by kernel_rfl) (by kernel_rfl) (by kernel_rfl) (fun _ _ _ h => h) (Or.inl ⟨by rfl, ?_⟩) (by assumption) ?_
      rotate_left
      · (intro W7 hSw; (try dsimp only at hSw); go_simp; try with_reducible rfl)
      try simp only [Act.put, List.setIfInBounds_toArray, List.set_cons_zero, List.set_cons_succ]
      refine takeTo (i := 10) (v := ?_) (some 27) rfl rfl (by kernel_rfl) (by kernel_rfl) (by kernel_rfl) (fun _ _ _ h => h) (Or.inl ⟨by rfl, ?_⟩) (by assumption) ?_
      rotate_left
      · (intro W7 hSw; (try dsimp only at hSw); go_simp; try with_reducible rfl)
      try simp only [Act.put, List.setIfInBounds_toArray, List.set_cons_zero, List.set_cons_succ]
      refine takeTo (i := 11) (v := ?_) (some 28) rfl rfl (by kernel_rfl) (by kernel_rfl) (by kernel_rfl) (fun _ _ _ h => h) (Or.inl ⟨by rfl, ?_⟩) (by assumption) ?_
      rotate_left
      · (intro W7 hSw; (try dsimp only at hSw); go_simp; try with_reducible rfl)
      try simp only [Act.put, List.setIfInBounds_toArray, List.set_cons_zero, List.set_cons_succ]
      refine wpAnyH_ready (rs := [6]) (by kernel_rfl) (by simp) ?_
      refine AllReadyH.cons rfl (fun K hK => ?_) AllReadyH.nil
      rw [if_pos (by rfl)]
      go_wp2_with fail
      have hrl : r.length ≤ 600000 := by
        rw [hr.out, List.length_append, laid_len, List.length_take]
        have := HLN.out
        simp only [four_len]; omega
      have hown := Lib.hid HO.out.1.lt
      refine (rfour_any w1.heap.size A' c' r nx wr.drew HO.out.1 HO.out.2.size (by omega)).mono ?_
      rintro e w3 ⟨A3, c3, r3, q3, rfl, o3, k3, g3⟩
      have O3 := Lib.hid o3
      have L3 := Lib.hid (below_kept (w := wr.drew) HO.out.2.drew k3 (fun k e => (hown.out k e).1) HO.out.2.size)
      have S3 := HS.out _ L3.out
      clear o3 k3 g3
      refine hK.out _ _ S3 (fun hHeld => ?_)
      clear hK K
      try simp only [Act.put, List.setIfInBounds_toArray, List.set_cons_zero, List.set_cons_succ]
      refine wpAnyH_ready (rs := [12]) (by kernel_rfl) (by simp) ?_
      refine AllReadyH.cons rfl (fun K hK => ?_) AllReadyH.nil
      rw [if_pos (by rfl)]
      go_wp2_with fail
      have hrl3 : r3.length ≤ 600004 := by
        rw [q3.out, List.length_append, four_len]; omega
      have hown3 := Lib.hid O3.out.lt
      refine (rfour_any w1.heap.size A3 c3 r3 ny w3 O3.out L3.out.size (by omega)).mono ?_
      rintro e w4 ⟨A4, c4, r4, q4, rfl, o4, k4, g4⟩
      have O4 := Lib.hid o4
      have L4 := Lib.hid (below_kept L3.out k4 (fun k e => (hown3.out k e).1) L3.out.size)
      clear o4 g4
      have S4 := HS.out _ L4.out
      refine hK.out _ _ S4 (fun hHeld => ?_)
      clear hK K k4
      try simp only [Act.put, List.setIfInBounds_toArray, List.set_cons_zero, List.set_cons_succ]
      refine takeTo (i := 13) (v := ?_) (some 4) rfl rfl (by kernel_rfl) (by kernel_rfl) (by kernel_rfl) (fun _ _ _ h => h) (Or.inl ⟨by rfl, ?_⟩) (by assumption) ?_
      rotate_left
      · (intro W7 hSw; (try dsimp only at hSw); go_simp; try with_reducible rfl)
      try simp only [Act.put, List.setIfInBounds_toArray, List.set_cons_zero, List.set_cons_succ]
      refine wpAnyH_done (by kernel_rfl) ?_ _
      go_wp2_with fail
      have Q4 := Lib.hid (show r4 = four (l.length : Int) ++ laid (l.take (k + 1)) by rw [q4.out, q3.out, hr.out, laid_take l k hlt, ← HX.out.1, ← HX.out.2]; simp only [List.append_assoc])
      have hln := HLN.out
      exact ⟨⟨k + 1, A4, c4, r4, by omega, num_succ (by omega), Q4, rfl, O4.out, L4.out⟩, less_succ hlt (by omega)⟩
    · obtain rfl : k = l.length := by omega
      have HO := Lib.hid (And.intro hO hbel)
      clear hO hbel
      go_wp2_with fail
      go_ret
      exact ⟨A', c', r, Lib.hid (by rw [hr.out, List.take_length, enc, ← hl.out]), rfl, Owns.mono HO.out.1 B1.out.size, Owns.fits HO.out.1, B1.out.trans (HO.out.2.mono B1.out.size)⟩
end Go.Proofs.YtghakgepchlpgaaDoor
