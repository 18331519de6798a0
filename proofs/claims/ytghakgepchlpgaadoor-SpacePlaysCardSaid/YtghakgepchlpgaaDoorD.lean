/- WALKS: a number in four bytes, the program's and the document's; the program's runs; its bytes. -/
import Derived.Test.YtghakgepchlpgaaDoorC
import Derived.BigQuiet
import Derived.Deep.QuietTactic
import Derived.Deep.RegionHeld3
import Derived.RegionCalls
namespace Go.Proofs.YtghakgepchlpgaaDoor
open Go.RowKit Spc

theorem byte_of (n : Nat) : ((n : Int) % 256) = ((UInt8.ofNat n).toNat : Int) := by
  rw [UInt8.toNat_ofNat']; omega
theorem four_nat (n : Nat) : four (n : Int) = [UInt8.ofNat (n / 16777216), UInt8.ofNat (n / 65536), UInt8.ofNat (n / 256), UInt8.ofNat n] := by simp [four]
theorem four_len (n : Int) : (four n).length = 4 := rfl
--FOUR
set_option maxHeartbeats 1000000 in
theorem four_any (base : Nat) (A : Option Addr) (c : Nat) (l : List UInt8) (n : Nat) (w : World) (hown : Owns w base (.slice A l.length c) l) (hb : base ≤ w.heap.size) (hl : l.length ≤ 1099511627776) :
    Calls Tryd.prog 35 #[.slice A l.length c, .int .i64 (n : Int)] w fun e w' => ∃ A' c' r, Hid (r = l ++ four (n : Int)) ∧ e = .returned (.slice A' r.length c') ∧ Owns w' base (.slice A' r.length c') r ∧
      Kept (fun k => (Value.slice A l.length c).ownBlock = some k) w w' ∧ (∀ k, (Value.slice A' r.length c').ownBlock = some k → (Value.slice A l.length c).ownBlock = some k ∨ w.heap.size ≤ k) := by
  rw [four_nat]
  have e0 := byte_of (n / 16777216)
  have e1 := byte_of (n / 65536)
  have e2 := byte_of (n / 256)
  have e3 := byte_of n
  obtain ⟨x0, h0⟩ : ∃ x, x = UInt8.ofNat (n / 16777216) := ⟨_, rfl⟩
  obtain ⟨x1, h1⟩ : ∃ x, x = UInt8.ofNat (n / 65536) := ⟨_, rfl⟩
  obtain ⟨x2, h2⟩ : ∃ x, x = UInt8.ofNat (n / 256) := ⟨_, rfl⟩
  obtain ⟨x3, h3⟩ : ∃ x, x = UInt8.ofNat n := ⟨_, rfl⟩
  rw [← h0] at e0 ⊢
  rw [← h1] at e1 ⊢
  rw [← h2] at e2 ⊢
  rw [← h3] at e3 ⊢
  rw [show (((n / 16777216 : Nat) : Int)) = (n : Int) / 16777216 by omega] at e0
  rw [show (((n / 65536 : Nat) : Int)) = (n : Int) / 65536 by omega] at e1
  rw [show (((n / 256 : Nat) : Int)) = (n : Int) / 256 by omega] at e2
  have HL := Lib.hid hl
  have B2 := Lib.hid ((Kept.refl (fun k => (Value.slice A l.length c).ownBlock = some k) w).alloc (.cells #[.int .u8 (x0.toNat : Int), .int .u8 (x1.toNat : Int), .int .u8 (x2.toNat : Int), .int .u8 (x3.toNat : Int)] 5))
  have O2 := Lib.hid (hown.alloc (.cells #[.int .u8 (x0.toNat : Int), .int .u8 (x1.toNat : Int), .int .u8 (x2.toNat : Int), .int .u8 (x3.toNat : Int)] 5))
  have HRO := Lib.hid hown.lt
  have HB := Lib.hid hb
  clear hown h0 h1 h2 h3 hl hb
  go_enter Tryd.func35, Tryd.ntmps35
  go_wp2_with (first
    | (at_builtin
       refine wpList_append_bytes rfl (.tmp 5) (.tmp 17) rfl base _ l [x0, x1, x2, x3] rfl O2.out (w.heap.size + 1) (some ⟨w.heap.size, 0, none⟩) 4 rfl (Rd.of_row (heap_alloc_new w _) (fun i hi => by
         rcases (by simp at hi; omega : i = 0 ∨ i = 1 ∨ i = 2 ∨ i = 3) with rfl | rfl | rfl | rfl <;> rfl) (by omega)) (by have := HL.out; simp; omega) (Nat.le_trans HB.out B2.out.size) ?_
       intro A3 c3 w3 r3 q3 rc3 o3 g3
       have B3 := Lib.hid (B2.out.grown g3.1 (fun k hk => hk))
       have G3 := Lib.hid g3.2
       have O3 := Lib.hid o3
       clear g3 o3 rc3))
  go_ret
  refine ⟨A3, c3, r3, q3, rfl, O3.out, B3.out, fun k hk => ?_⟩
  rcases G3.out with g | g
  · left; exact (g.symm.trans hk)
  · right; have := Option.some.inj (g.symm.trans hk); rw [← this]; simp
--END

set_option maxHeartbeats 1000000 in
theorem runs_any (g N : Nat) (f : Nat → Bool) (w : World) (h : Sp w g N f) :
    Calls Tryd.prog 33 #[.pointer (some ⟨g, 0, none⟩)] w fun e w' => ∃ A c r, Hid (r = runs f N) ∧ e = .returned (.slice A r.length c) ∧ OwnsU w' w.heap.size (.slice A r.length c) r ∧ r.length ≤ c ∧ Below w.heap.size w w' := by
  have H0 := Lib.hid h
  have HN := Lib.hid h.bounds
  have c0 : w.cell? ⟨g, 0, none⟩ = some (.int .i64 (N : Int)) := by obtain ⟨ws, h1, _⟩ := h; rw [h1.cell, spA_0]
  clear h
  go_enter Tryd.func33, Tryd.ntmps33
  go_wp2_with fail
  clear c0
  go_loopw [3, 9] (fun bv iv wr => ∃ (k : Nat) (A' : Option Addr) (c' : Nat) (r : List (Int × Int)), k ≤ N ∧ iv = .int .i64 (k : Int) ∧ Hid (r = runs f k) ∧ bv = .slice A' r.length c' ∧ OwnsU wr w.heap.size (.slice A' r.length c') r ∧ r.length ≤ c' ∧ Below w.heap.size w wr) (fun _ iv _ => N - (intOf iv).toNat)
  case atStart => exact ⟨0, none, 0, [], by omega, rfl, rfl, rfl, OwnsU.nil _ _, by simp, Below.refl _ _⟩
  case round =>
    obtain ⟨k, A', c', r, hk, rfl, hr, rfl, hO, hc, hbel⟩ := hrel
    by_cases hlt : k < N
    · have hS : ∀ W, Below w.heap.size w W → Sp W g N f := fun W hW => H0.out.below hW
      have HO := Lib.hid (And.intro hO hbel)
      have hd : decide ((k : Int) < (N : Int)) = true := by simp; omega
      have hd2 : decide (k < N) = true := by simp; omega
      have ha := Lib.hid (has_any g N (k : Int) f wr (hS wr hbel))
      have hb := Lib.hid (has_any g N ((k : Int) - 1) f wr (hS wr hbel))
      clear hO hbel hS
      by_cases hf : f k = true
      · have hf1 := Lib.hid ((hasB_nat f k).trans hf)
        have hf0 := Lib.hid hf
        clear hf
        by_cases hk0 : 0 < k
        · have hd3 : decide ((0 : Int) < (k : Int)) = true := by simp; omega
          have hd4 : decide (0 < k) = true := by simp; omega
          have hw1 : wrap64 ((k : Int) - 1) = (k : Int) - 1 := by unfold wrap64; have := HN.out; omega
          have ek : hasB f ((k : Int) - 1) = f (k - 1) := by rw [show (k : Int) - 1 = ((k - 1 : Nat) : Int) by omega, hasB_nat]
          by_cases hp : f (k - 1) = true
          · have hp1 := Lib.hid (ek.trans hp)
            have hp0 := Lib.hid hp
            clear hp ek
            have hr1 : 0 < r.length := by
              have h1 := runs_some f (k - 1) hp0.out
              rwa [show k - 1 + 1 = k by omega, ← hr.out] at h1
            obtain ⟨g2, rfl, hg2, -⟩ := HO.out.1.some_ hr1
            obtain ⟨m, hm⟩ : ∃ m, r.length = m + 1 := ⟨r.length - 1, by omega⟩
            have hm1 : wrap64 ((r.length : Int) - 1) = (m : Int) := by
              have h1 := runs_len f k; rw [← hr.out] at h1
              have := HN.out
              unfold wrap64; omega
            have hml : m < r.length := by omega
            obtain ⟨zx, hzx⟩ : ∃ z, z = (r.getD m (0, 0)).1 := ⟨_, rfl⟩
            obtain ⟨z, hz⟩ : ∃ z, z = (r.getD m (0, 0)).2 := ⟨_, rfl⟩
            have hzb : 1 ≤ z ∧ z ≤ 65536 := by
              have h1 := runs_in f k (r.getD m (0, 0)) (by rw [← hr.out, List.getD_eq_getElem?_getD, List.getElem?_eq_getElem hml]; exact List.getElem_mem ..)
              have := HN.out
              rw [hz]; omega
            have cz : wr.cell? ⟨g2, m * 2 + 1, none⟩ = some (.int .i64 z) := by rw [hz]; exact (HO.out.1.at_ m hml).2
            have fz := HO.out.1.free (m * 2 + 1)
            have O3 := Lib.hid (HO.out.1.put m hml (z + 1))
            have B3 := Lib.hid (HO.out.2.setCell (p := ⟨g2, m * 2 + 1, none⟩) hg2 (.int .i64 (z + 1)))
            have Q3 := Lib.hid (show r.set m ((r.getD m (0, 0)).1, z + 1) = runs f (k + 1) by rw [runs_more f k hf0.out hk0 hp0.out, ← hr.out, hm, hz]; rfl)
            have HZ := Lib.hid (And.intro hz hm)
            clear hz hm hzx hr1
            go_wp2_with (first
              | (go_at_call_of 11 (Value.int .i64 (k : Int)); refine ha.out.mono ?_; rintro e w1 ⟨rfl, rfl⟩; rw [hf1.out])
              | (go_at_call 11; refine hb.out.mono ?_; rintro e w1 ⟨rfl, rfl⟩; rw [hp1.out]))
            exact ⟨⟨k + 1, some ⟨g2, 0, none⟩, c', r.set m ((r.getD m (0, 0)).1, z + 1), by omega, num_succ (by have := HN.out; omega), Q3, by rw [List.length_set], by rw [List.length_set]; exact O3.out, by rw [List.length_set]; exact hc, B3.out⟩, less_succ hlt (by have := HN.out; omega)⟩
          · have hp0 := Lib.hid (show f (k - 1) = false by simpa using hp)
            have hp1 := Lib.hid (ek.trans hp0.out)
            clear hp ek
            have B2 := Lib.hid (HO.out.2.alloc HO.out.2.size (.cells #[.int .i64 (k : Int), .int .i64 1] 69))
            have O2 := Lib.hid (show OwnsU (wr.alloc (.cells #[.int .i64 (k : Int), .int .i64 1] 69)) w.heap.size (.slice A' r.length c') r from World.ownsRow.alloc HO.out.1 _)
            have HRO := Lib.hid HO.out.1.lt
            have HRL := Lib.hid (show (r.length + 1) * 16 ≤ 140737488355328 by have h1 := runs_len f k; rw [← hr.out] at h1; have := HN.out; omega)
            go_wp2_with (first
              | (go_at_call_of 11 (Value.int .i64 (k : Int)); refine ha.out.mono ?_; rintro e w1 ⟨rfl, rfl⟩; rw [hf1.out])
              | (go_at_call 11; refine hb.out.mono ?_; rintro e w1 ⟨rfl, rfl⟩; rw [hp1.out])
              | (at_builtin
                 refine wpList_append_pair rfl (.tmp 12) (.tmp 15) rfl w.heap.size _ r ((k : Int), 1) rfl O2.out wr.heap.size 1 rfl (Blk.new wr 69 #[.int .i64 (k : Int), .int .i64 1]) HRL.out B2.out.size ?_
                 intro A3 c3 w3 r3 q3 rc3 o3 g3 l3
                 have B3 := Lib.hid (B2.out.grown g3 B2.out.size (fun j hj => (HRO.out j hj).1))
                 have O3 := Lib.hid o3
                 have Q3 := Lib.hid (show r3 = runs f (k + 1) by rw [q3.out, runs_new f k hf0.out (.inr hp0.out), ← hr.out])
                 clear g3 o3 q3 l3))
            exact ⟨⟨k + 1, A3, c3, r3, by omega, num_succ (by have := HN.out; omega), Q3, rfl, O3.out, rc3, B3.out⟩, less_succ hlt (by have := HN.out; omega)⟩
        · have hk1 := Lib.hid (show k = 0 by omega)
          have hd3 : decide ((0 : Int) < (k : Int)) = false := by simp; omega
          have hd4 : decide (0 < k) = false := by simp; omega
          clear hb hk0
          have B2 := Lib.hid (HO.out.2.alloc HO.out.2.size (.cells #[.int .i64 (k : Int), .int .i64 1] 69))
          have O2 := Lib.hid (show OwnsU (wr.alloc (.cells #[.int .i64 (k : Int), .int .i64 1] 69)) w.heap.size (.slice A' r.length c') r from World.ownsRow.alloc HO.out.1 _)
          have HRO := Lib.hid HO.out.1.lt
          have HRL := Lib.hid (show (r.length + 1) * 16 ≤ 140737488355328 by have h1 := runs_len f k; rw [← hr.out] at h1; have := HN.out; omega)
          go_wp2_with (first
            | (go_at_call 11; refine ha.out.mono ?_; rintro e w1 ⟨rfl, rfl⟩; rw [hf1.out])
            | (at_builtin
               refine wpList_append_pair rfl (.tmp 12) (.tmp 15) rfl w.heap.size _ r ((k : Int), 1) rfl O2.out wr.heap.size 1 rfl (Blk.new wr 69 #[.int .i64 (k : Int), .int .i64 1]) HRL.out B2.out.size ?_
               intro A3 c3 w3 r3 q3 rc3 o3 g3 l3
               have B3 := Lib.hid (B2.out.grown g3 B2.out.size (fun j hj => (HRO.out j hj).1))
               have O3 := Lib.hid o3
               have Q3 := Lib.hid (show r3 = runs f (k + 1) by rw [q3.out, runs_new f k hf0.out (.inl hk1.out), ← hr.out])
               clear g3 o3 q3 l3))
          exact ⟨⟨k + 1, A3, c3, r3, by omega, num_succ (by have := HN.out; omega), Q3, rfl, O3.out, rc3, B3.out⟩, less_succ hlt (by have := HN.out; omega)⟩
      · have hf1 := Lib.hid ((hasB_nat f k).trans (by simpa using hf))
        have hf0 := Lib.hid (show f k = false by simpa using hf)
        clear hf
        go_wp2_with (go_at_call 11; refine ha.out.mono ?_; rintro e w1 ⟨rfl, rfl⟩; rw [hf1.out])
        exact ⟨⟨k + 1, A', c', r, by omega, num_succ (by have := HN.out; omega), Lib.hid (by rw [hr.out, runs_no f k hf0.out]), rfl, HO.out.1, hc, HO.out.2⟩, less_succ hlt (by have := HN.out; omega)⟩
    · obtain rfl : k = N := by omega
      have HO := Lib.hid (And.intro hO hbel)
      clear hO hbel
      go_wp2_with fail
      go_ret
      exact ⟨A', c', r, hr, rfl, HO.out.1, hc, HO.out.2⟩
theorem Owns.mono {w : World} {base base' : Nat} {v : Value} {l : List UInt8} (h : Owns w base v l) (hb : base' ≤ base) : Owns w base' v l :=
  ⟨h.1, h.2.elim Or.inl (fun ⟨g, cap, cur, hv, hg, r⟩ => Or.inr ⟨g, cap, cur, hv, Nat.le_trans hb hg, r⟩)⟩
theorem Owns.fits {w : World} {base c : Nat} {A : Option Addr} {l : List UInt8} (h : Owns w base (.slice A l.length c) l) : l.length ≤ c := by
  obtain ⟨A2, c2, e, h1, _⟩ := h.shape
  injection e with _ _ e3
  omega
end Go.Proofs.YtghakgepchlpgaaDoor
