/- WALK of package space: its bytes. -/
import Derived.Test.YtghakgepchlpgaaDoorD
namespace Go.Proofs.YtghakgepchlpgaaDoor
open Go.RowKit Spc

/-- an operation of a region taken first, its temporary by number -/
theorem takeTo {P : Program} {md : Region.Mode} {ops : Array Oper} {Q : Exit → Act → World → Prop} {S : World → Prop} {i : Nat} {oi : Oper} {v : Value} {fuel : Nat} {listed : Array Bool} {a : Act} {w : World} (d : Option Tmp) (hi : ops[i]? = some oi) (hd : oi.dst = d)
    (hs : Region.noSelect ops = true) (hf : Region.free md ops listed i = true) (hr : (Region.ready md ops listed).contains i = true)
    (hQ : ∀ c a w, Q (.panic c) (a.put d v) w → Q (.panic c) a w) (hy : YieldsIf P ops S oi v a) (hS : S w)
    (h : wpAnyH P md ops Q S fuel (listed.setIfInBounds i true) (a.put d v) w) : wpAnyH P md ops Q S (fuel + 1) listed a w := by
  subst hd
  exact wpAnyH_take hi hs hf hr hQ hy hS h
theorem laid_take (l : List (Int × Int)) (k : Nat) (h : k < l.length) : laid (l.take (k + 1)) = laid (l.take k) ++ four (l.getD k (0, 0)).1 ++ four (l.getD k (0, 0)).2 := by
  rw [List.take_add_one, List.getElem?_eq_getElem h, laid_append, List.getD_eq_getElem?_getD, List.getElem?_eq_getElem h]
  simp [laid]
set_option maxHeartbeats 2000000 in
theorem encode_any (g N : Nat) (f : Nat → Bool) (w : World) (h : Sp w g N f) :
    Calls Tryd.prog 21 #[.pointer (some ⟨g, 0, none⟩)] w fun e w' => ∃ A c r, Hid (r = enc f N) ∧ e = .returned (.slice A r.length c) ∧ Owns w' w.heap.size (.slice A r.length c) r ∧ r.length ≤ c ∧ Below w.heap.size w w' := by
  have HR := Lib.hid (runs_any g N f w h)
  have HN := Lib.hid h.bounds
  clear h
  go_enter Tryd.func21, Tryd.ntmps21
  go_wp2_with (go_at_call 33; refine HR.out.mono ?_; rintro e w1 ⟨A, c, l, hl, rfl, o1, hc, b1⟩; have O1 := Lib.hid o1; have B1 := Lib.hid b1; clear o1 b1)
  have HLN : Hid (l.length ≤ 65536) := Lib.hid (by have h1 := runs_len f N; rw [← hl.out] at h1; have := HN.out; omega)
  have HF := Lib.hid (four_any w1.heap.size none 0 [] l.length w1 (Owns.nil _ _) (Nat.le_refl _) (by simp))
  go_wp2_with (go_at_call 35; refine HF.out.mono ?_; rintro e w2 ⟨A2, c2, r2, q2, rfl, o2, k2, g2⟩; have O2 := Lib.hid o2; have K2 := Lib.hid (below_kept (Below.refl w1.heap.size w1) k2 (fun k e => by simp [Value.ownBlock] at e) (Nat.le_refl _)); clear o2 k2 g2)
  go_loopw [4, 6, 14] (fun bv sv iv wr => ∃ (k : Nat) (A' : Option Addr) (c' : Nat) (r : List UInt8), k ≤ l.length ∧ iv = .int .i64 (k : Int) ∧ Hid (r = four (l.length : Int) ++ laid (l.take k)) ∧ bv = .slice A' r.length c' ∧ Owns wr w1.heap.size (.slice A' r.length c') r ∧ Below w1.heap.size w1 wr) (fun _ _ iv _ => l.length - (intOf iv).toNat)
  case atStart => exact ⟨0, A2, c2, r2, by omega, rfl, Lib.hid (by rw [q2.out]; simp [laid]), rfl, O2.out, K2.out⟩
  case round =>
    obtain ⟨k, A', c', r, hk, rfl, hr, rfl, hO, hbel⟩ := hrel
    by_cases hlt : k < l.length
    · obtain ⟨x, hx⟩ : ∃ x, x = (l.getD k (0, 0)).1 := ⟨_, rfl⟩
      obtain ⟨y, hy⟩ : ∃ y, y = (l.getD k (0, 0)).2 := ⟨_, rfl⟩
      obtain ⟨g2, rfl, hg2, -⟩ := O1.out.some_ (by omega)
      have hm := O1.out.lt g2 rfl
      have OW := O1.out.below hbel
      have cx : wr.cell? ⟨g2, k * 2, none⟩ = some (.int .i64 x) := by rw [hx]; exact (OW.at_ k hlt).1
      have cy : wr.cell? ⟨g2, k * 2 + 1, none⟩ = some (.int .i64 y) := by rw [hy]; exact (OW.at_ k hlt).2
      have HX := Lib.hid (And.intro hx hy)
      have HO := Lib.hid (And.intro hO hbel)
      have hd : decide ((k : Int) < (l.length : Int)) = true := by simp; omega
      have hd2 : decide (k < l.length) = true := by simp; omega
      have hxy : 0 ≤ x ∧ 0 ≤ y := by
        have h1 := runs_in f N (l.getD k (0, 0)) (by rw [← hl.out, List.getD_eq_getElem?_getD, List.getElem?_eq_getElem hlt]; exact List.getElem_mem ..)
        rw [hx, hy]; omega
      obtain ⟨nx, rfl⟩ : ∃ n : Nat, x = (n : Int) := ⟨x.toNat, by omega⟩
      obtain ⟨ny, rfl⟩ : ∃ n : Nat, y = (n : Int) := ⟨y.toNat, by omega⟩
      clear hx hy hO hbel OW hg2 hm hxy
      go_upto_region 6 with fail
      have b0 := Blk.new wr 69 #[.int .i64 (nx : Int), .int .i64 (ny : Int)]
      have o0 := HO.out.1.alloc (.cells #[.int .i64 (nx : Int), .int .i64 (ny : Int)] 69)
      have e0 := HO.out.2.alloc HO.out.2.size (.cells #[.int .i64 (nx : Int), .int .i64 (ny : Int)] 69)
      have hown := HO.out.1.lt
      obtain ⟨gr, hgr⟩ : ∃ n, n = wr.heap.size := ⟨_, rfl⟩
      rw [← hgr] at b0 hown ⊢
      generalize wr.alloc _ = W0 at b0 o0 e0 ⊢
      have HB := Lib.hid (And.intro b0 (And.intro o0 e0))
      have HW := Lib.hid hown
      have s0 : W0.cell? ⟨gr, 0, none⟩ = some (.int .i64 (nx : Int)) ∧ W0.cell? ⟨gr, 1, none⟩ = some (.int .i64 (ny : Int)) := ⟨by rw [b0.cell]; rfl, by rw [b0.cell]; rfl⟩
      clear b0 o0 e0 hown cx cy hgr
      refine wp_region_held_drew (S := fun W' => W'.cell? ⟨gr, 0, none⟩ = some (.int .i64 (nx : Int)) ∧ W'.cell? ⟨gr, 1, none⟩ = some (.int .i64 (ny : Int))) (by kernel_rfl) (by exact s0) (fun hHeld => ?_)
      refine takeTo (i := 0) (v := ?_) (some 18) rfl rfl (by kernel_rfl) (by kernel_rfl) (by kernel_rfl) (fun _ _ _ h => h) (Or.inl ⟨by rfl, ?_⟩) (by assumption) ?_
      rotate_left
      · (intro W7 hSw; (try dsimp only at hSw); go_simp; try with_reducible rfl)
      try simp only [Act.put, List.setIfInBounds_toArray, List.set_cons_zero, List.set_cons_succ]
      refine takeTo (i := 1) (v := ?_) (some 19) rfl rfl (by kernel_rfl) (by kernel_rfl) (by kernel_rfl) (fun _ _ _ h => h) (Or.inl ⟨by rfl, ?_⟩) (by assumption) ?_
      rotate_left
      · (intro W7 hSw; (try dsimp only at hSw); go_simp; try with_reducible rfl)
      try simp only [Act.put, List.setIfInBounds_toArray, List.set_cons_zero, List.set_cons_succ]
      refine takeTo (i := 2) (v := ?_) (some 20) rfl rfl (by kernel_rfl) (by kernel_rfl) (by kernel_rfl) (fun _ _ _ h => h) (Or.inl ⟨by rfl, ?_⟩) (by assumption) ?_
      rotate_left
      · (intro W7 hSw; (try dsimp only at hSw); go_simp; try with_reducible rfl)
      try simp only [Act.put, List.setIfInBounds_toArray, List.set_cons_zero, List.set_cons_succ]
      refine takeTo (i := 4) (v := ?_) (some 22) rfl rfl (by kernel_rfl) (by kernel_rfl) (by kernel_rfl) (fun _ _ _ h => h) (Or.inl ⟨by rfl, ?_⟩) (by assumption) ?_
      rotate_left
      · (intro W7 hSw; (try dsimp only at hSw); go_simp; try with_reducible rfl)
      try simp only [Act.put, List.setIfInBounds_toArray, List.set_cons_zero, List.set_cons_succ]
      refine takeTo (i := 5) (v := ?_) (some 23) rfl rfl (by kernel_rfl) (by kernel_rfl) (by kernel_rfl) (fun _ _ _ h => h) (Or.inl ⟨by rfl, ?_⟩) (by assumption) ?_
      rotate_left
      · (intro W7 hSw; (try dsimp only at hSw); go_simp; try with_reducible rfl)
      try simp only [Act.put, List.setIfInBounds_toArray, List.set_cons_zero, List.set_cons_succ]
      refine wpAnyH_ready (rs := [3]) (by kernel_rfl) (by simp) ?_
      refine AllReadyH.cons rfl (fun K hK => ?_) AllReadyH.nil
      rw [if_pos (by rfl)]
      go_wp2_with fail
      have hrl : r.length ≤ 600000 := by
        rw [hr.out, List.length_append, laid_len, List.length_take]
        have := HLN.out
        simp only [four_len]; omega
      refine (four_any w1.heap.size A' c' r nx W0.drew HB.out.2.1 HB.out.2.2.size (by omega)).mono ?_
      rintro e w3 ⟨A3, c3, r3, q3, rfl, o3, k3, g3⟩
      have B3 := Lib.hid (HB.out.1.kept (w := W0.drew) k3 (fun e => by have := (HW.out gr e).2; omega))
      have S3 : w3.cell? ⟨gr, 0, none⟩ = some (.int .i64 (nx : Int)) ∧ w3.cell? ⟨gr, 1, none⟩ = some (.int .i64 (ny : Int)) := ⟨by rw [B3.out.cell]; rfl, by rw [B3.out.cell]; rfl⟩
      have O3 := Lib.hid o3
      have L3 := Lib.hid (below_kept (w := W0.drew) HB.out.2.2.drew k3 (fun k e => (HW.out k e).1) HB.out.2.2.size)
      have G3 := Lib.hid (show ∀ k, (Value.slice A3 r3.length c3).ownBlock = some k → k ≠ gr from fun k e => by
        rcases g3 k e with h | h
        · have := (HW.out k h).2; omega
        · have h2 : gr < W0.drew.heap.size := HB.out.1.lt
          omega)
      clear o3 k3 g3
      refine hK.out _ _ S3 (fun hHeld => ?_)
      clear hK K
      try simp only [Act.put, List.setIfInBounds_toArray, List.set_cons_zero, List.set_cons_succ]
      refine wpAnyH_ready (rs := [6]) (by kernel_rfl) (by simp) ?_
      refine AllReadyH.cons rfl (fun K hK => ?_) AllReadyH.nil
      rw [if_pos (by rfl)]
      go_wp2_with fail
      have hrl3 : r3.length ≤ 600004 := by
        rw [q3.out, List.length_append, four_len]; omega
      have hown3 := Lib.hid O3.out.lt
      refine (four_any w1.heap.size A3 c3 r3 ny w3 O3.out L3.out.size (by omega)).mono ?_
      rintro e w4 ⟨A4, c4, r4, q4, rfl, o4, k4, g4⟩
      have O4 := Lib.hid o4
      have L4 := Lib.hid (below_kept L3.out k4 (fun k e => (hown3.out k e).1) L3.out.size)
      clear o4 g4
      have B4 := B3.out.kept k4 (fun e => G3.out gr e rfl)
      have S4 : w4.cell? ⟨gr, 0, none⟩ = some (.int .i64 (nx : Int)) ∧ w4.cell? ⟨gr, 1, none⟩ = some (.int .i64 (ny : Int)) := ⟨by rw [B4.cell]; rfl, by rw [B4.cell]; rfl⟩
      clear B4
      refine hK.out _ _ S4 (fun hHeld => ?_)
      clear hK K k4
      try simp only [Act.put, List.setIfInBounds_toArray, List.set_cons_zero, List.set_cons_succ]
      refine takeTo (i := 7) (v := ?_) (some 4) rfl rfl (by kernel_rfl) (by kernel_rfl) (by kernel_rfl) (fun _ _ _ h => h) (Or.inl ⟨by rfl, ?_⟩) (by assumption) ?_
      rotate_left
      · (intro W7 hSw; (try dsimp only at hSw); go_simp; try with_reducible rfl)
      try simp only [Act.put, List.setIfInBounds_toArray, List.set_cons_zero, List.set_cons_succ]
      refine wpAnyH_done (by kernel_rfl) ?_ _
      go_wp2_with fail
      have Q4 := Lib.hid (show r4 = four (l.length : Int) ++ laid (l.take (k + 1)) by rw [q4.out, q3.out, hr.out, laid_take l k hlt, ← HX.out.1, ← HX.out.2]; simp only [List.append_assoc])
      have hln := HLN.out
      exact ⟨⟨k + 1, A4, c4, r4, by omega, num_succ (by omega), Q4, rfl, O4.out, L4.out⟩, less_succ hlt (by omega)⟩
    · obtain rfl : k = l.length := by omega
      have HO := Lib.hid (And.intro hO hbel)
      clear hO hbel
      go_wp2_with fail
      go_ret
      exact ⟨A', c', r, Lib.hid (by rw [hr.out, List.take_length, enc, ← hl.out]), rfl, Owns.mono HO.out.1 B1.out.size, Owns.fits HO.out.1, B1.out.trans (HO.out.2.mono B1.out.size)⟩
end Go.Proofs.YtghakgepchlpgaaDoor
