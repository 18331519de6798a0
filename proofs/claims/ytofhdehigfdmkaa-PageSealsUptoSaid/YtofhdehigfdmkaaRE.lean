/- THE WALK of the document of layer 3: Open. -/
import Derived.Test.YtofhdehigfdmkaaRD
import Derived.Test.YtofhdehigfdmkaaW
namespace Go.Proofs.Ytofhdehigfdmkaa
open Go.RowKit
/-- a page by what the document asks -/
theorem page_head {l : List UInt8} (h1 : Page.Sized l.length) (h2 : 1 ≤ Page.kindOf l) (h3 : Page.kindOf l ≤ 5) (h4 : Page.numOf l < 65536) (h5 : Page.longOf l ≤ l.length - 32)
    (h : (Page.pageL l.length (Page.kindOf l) (Page.numOf l) (Page.genOf l) (Page.loadOf l)).take (l.length - 8) = l.take (l.length - 8)) : Page.HeadOk l := by
  obtain ⟨g1, g2⟩ := Page.sized_512 h1
  have hf : Page.Fits l.length (Page.kindOf l) (Page.numOf l) (Page.genOf l) (Page.loadOf l) := by
    refine ⟨h1, h2, h3, h4, Page.genOf_lt l (by omega), ?_⟩
    unfold Page.loadOf; rw [List.length_take]; omega
  refine Page.head_of_data hf l rfl fun i hi => ?_
  rw [← Page.take_getD l (l.length - 8) i hi, ← h, Page.take_getD _ _ _ hi, Page.page_data _ _ _ _ _ _ hi]
theorem head_take {l : List UInt8} (h : Page.HeadOk l) : (Page.pageL l.length (Page.kindOf l) (Page.numOf l) (Page.genOf l) (Page.loadOf l)).take (l.length - 8) = l.take (l.length - 8) := by
  rw [Page.page_take]
  exact Page.rl_eq _ _ _ (by simp) fun i hi => by rw [Page.take_getD _ _ _ hi, Page.data_of_head l h i hi]
theorem Owns.farRow5 {w : World} {B g : Nat} {t : TypeId} {v : Value} {cs : Array Value} {l : List UInt8} (h : Owns w B v l) (hg : Blk w g t cs) (ht : t ≠ 5) (ds : Array Value) : Owns (w.setRow g ds) B v l := by
  refine ⟨h.1, h.2.imp id ?_⟩
  rintro ⟨k, cap, cur, hv, hk, hh, rest⟩
  refine ⟨k, cap, cur, hv, hk, ?_, rest⟩
  rw [setRow_other w g k ds (fun e => ?_)]
  · exact hh
  · subst e
    unfold Blk at hg
    rw [hg] at hh
    injection hh with hh
    injection hh with _ h2 _
    exact ht h2
theorem head_fits {l : List UInt8} (h1 : Page.Sized l.length) (h2 : 1 ≤ Page.kindOf l) (h3 : Page.kindOf l ≤ 5) (h4 : Page.numOf l < 65536) (h5 : Page.longOf l ≤ l.length - 32) :
    Page.Fits l.length (Page.kindOf l) (Page.numOf l) (Page.genOf l) (Page.loadOf l) := by
  obtain ⟨g1, g2⟩ := Page.sized_512 h1
  refine ⟨h1, h2, h3, h4, Page.genOf_lt l (by omega), ?_⟩
  unfold Page.loadOf; rw [List.length_take]; omega
set_option maxHeartbeats 400000 in
theorem ropen_none (A : Option Addr) (c n : Nat) (number : Int) (l : List UInt8) (w : World) (hn : l.length = n) (hs : ¬ Page.Sized n) :
    Calls Try.prog 53 #[.slice A n c, .int .i64 number] w fun e w' => ∃ v, e = .returned v ∧ OpenPost l number w w' v ∧ Below w.heap.size w w' := by
  have HS := Lib.hid (rsized_no n hs)
  have B0 := Lib.hid ((Below.refl w.heap.size w).alloc (Nat.le_refl _) (.cells #[.int .i64 0, .int .i64 0, .int .u64 0] 39))
  have Z0 := Lib.hid (Blk.new w 39 #[.int .i64 0, .int .i64 0, .int .u64 0])
  have hk : ¬ Page.HeadOk l := fun h => hs (by rw [← hn]; exact h.1)
  clear hn hs
  go_enter Try.func53, Try.ntmps53
  go_wp2_with (first | (go_at_call 49; refine (HS.out _).mono ?_; rintro e w' ⟨rfl, rfl⟩) | (refine wpList_store_rowTo rfl 39 (.tmp 4) (.tmp 16) rfl rfl w.heap.size #[.int .i64 0, .int .i64 0, .int .u64 0] rfl rfl 39 _ Z0.out (by rw [info39]; rfl) rfl (by kernel_rfl) ?_))
  exact bodyPost_ret (results_cell_two rfl _ _ w.heap.size _ rfl (load39 (Z0.out.row _))) rfl ⟨_, rfl, .inl ⟨hk, rfl⟩, Below.row B0.out (Nat.le_refl _) _⟩
set_option maxHeartbeats 2000000 in
set_option maxRecDepth 100000 in
theorem ropen_some (b off c n : Nat) (number : Int) (l : List UInt8) (w : World) (hn : l.length = n) (hnc : n ≤ c) (hs : Page.Sized n) (hb : b < w.heap.size) (hcl : ∀ k, k < n → w.cell? ⟨b, off + k, none⟩ = some (.int .u8 ((l.getD k 0).toNat : Int))) :
    Calls Try.prog 53 #[.slice (some ⟨b, off, none⟩) n c, .int .i64 number] w fun e w' => ∃ v, e = .returned v ∧ OpenPost l number w w' v ∧ Below w.heap.size w w' := by
  have HS := Lib.hid (rsized_yes _ hs)
  have HSZ := Lib.hid hs
  obtain ⟨g1, g2⟩ := Page.sized_512 hs
  have HC := Lib.hid (show ∀ W : World, Below w.heap.size w W → ∀ k, k < n → W.cell? ⟨b, off + k, none⟩ = some (.int .u8 ((l.getD k 0).toNat : Int)) from fun W h k hk => (h.cell (p := ⟨b, off + k, none⟩) hb).trans (hcl k hk))
  have a4 : (4 : Int) ≤ (c : Int) := by omega
  have a8 : (8 : Int) ≤ (c : Int) := by omega
  have a16 : (16 : Int) ≤ (c : Int) := by omega
  have a20 : (20 : Int) ≤ (c : Int) := by omega
  have a2 : (2 : Int) < (n : Int) := by omega
  have n4 : ¬ c = 4 := by omega
  have n8 : ¬ c = 8 := by omega
  have n16 : ¬ c = 16 := by omega
  have RG := Lib.hid (show ∀ W : World, Below w.heap.size w W → ∀ o m, o + m ≤ n → Rd W w.heap.size (some ⟨b, off + o, none⟩) ((l.drop o).take m) from fun W h o m hom =>
    .inr ⟨b, off + o, rfl, hb, fun k hk => by
      have hk' : k < m := by simp at hk; omega
      rw [Page.part_getD l o m k hk', ← HC.out W h (o + k) (by omega), Nat.add_assoc]⟩)
  have G4 := Lib.hid (fun (W : World) (h : Below w.heap.size w W) => told_any (some ⟨b, off + 4, none⟩) (c - 4) 4 w.heap.size ((l.drop 4).take 4) W (by simp; omega) (by omega) (RG.out W h 4 4 (by omega)))
  have G8 := Lib.hid (fun (W : World) (h : Below w.heap.size w W) => told_any (some ⟨b, off + 8, none⟩) (c - 8) 8 w.heap.size ((l.drop 8).take 8) W (by simp; omega) (by omega) (RG.out W h 8 8 (by omega)))
  have G16 := Lib.hid (fun (W : World) (h : Below w.heap.size w W) => told_any (some ⟨b, off + 16, none⟩) (c - 16) 4 w.heap.size ((l.drop 16).take 4) W (by simp; omega) (by omega) (RG.out W h 16 4 (by omega)))
  obtain ⟨num, hnum⟩ : ∃ x, x = Page.numOf l := ⟨_, rfl⟩
  obtain ⟨gen, hgen⟩ : ∃ x, x = Page.genOf l := ⟨_, rfl⟩
  obtain ⟨long, hlong⟩ : ∃ x, x = Page.longOf l := ⟨_, rfl⟩
  rw [show Page.toldN ((l.drop 4).take 4) = num from hnum.symm] at G4
  rw [show Page.toldN ((l.drop 8).take 8) = gen from hgen.symm] at G8
  rw [show Page.toldN ((l.drop 16).take 4) = long from hlong.symm] at G16
  have numlt : num < 4294967296 := by rw [hnum]; exact Page.numOf_lt l (by omega)
  have longlt : long < 4294967296 := by rw [hlong]; exact Page.longOf_lt l (by omega)
  have HN := Lib.hid hn
  have HF := Lib.hid (And.intro hnum (And.intro hgen hlong))
  have B0 := Lib.hid ((Below.refl w.heap.size w).alloc (Nat.le_refl _) (.cells #[.int .i64 0, .int .i64 0, .int .u64 0] 39))
  have Z0 := Lib.hid (Blk.new w 39 #[.int .i64 0, .int .i64 0, .int .u64 0])
  have wrn : IntKind.u64.wrap ((n : Int) - 32) = (n : Int) - 32 := by rw [IntKind.wrap_u64]; omega
  have HB := Lib.hid hb
  clear hnum hgen hlong hn hs hcl hb
  by_cases hbad : 65535 < num ∨ n - 32 < long
  · have NO : ¬ Page.HeadOk l := fun h => by
      obtain ⟨_, _, _, _, _, _, _, hnm, hll, _⟩ := h
      rw [← HF.out.1] at hnm
      rw [← HF.out.2.2, HN.out] at hll
      omega
    have hx : (65535 < num) ∨ ¬ (65535 < num) ∧ n - 32 < long := by omega
    clear hbad
    rcases hx with hx | ⟨hx, hx2⟩
    · have e1 : (65535 : Int) < (num : Int) := by omega
      have e2 : decide ((65535 : Int) < (num : Int)) = true := by simp <;> omega
      go_enter Try.func53, Try.ntmps53
      go_wp2_with (first | (go_at_call 49; refine (HS.out _).mono ?_; rintro e w' ⟨rfl, rfl⟩) | (go_at_call 59; with_reducible refine (G16.out _ B0.out).mono ?_; rintro e w' ⟨rfl, rfl⟩) | (go_at_call 59; refine (G4.out _ B0.out).mono ?_; rintro e w' ⟨rfl, rfl⟩) | (refine wpList_store_rowTo rfl 39 (.tmp 4) (.tmp 32) rfl rfl w.heap.size #[.int .i64 0, .int .i64 0, .int .u64 0] rfl rfl 39 _ Z0.out (by rw [info39]; rfl) rfl (by kernel_rfl) ?_))
      exact bodyPost_ret (results_cell_two rfl _ _ w.heap.size _ rfl (load39 (Z0.out.row _))) rfl ⟨_, rfl, .inl ⟨NO, rfl⟩, Below.row B0.out (Nat.le_refl _) _⟩
    · have e1 : ¬ ((65535 : Int) < (num : Int)) := by omega
      have e2 : decide ((65535 : Int) < (num : Int)) = false := by simp <;> omega
      have e3 : (n : Int) - 32 < (long : Int) := by omega
      have e4 : decide ((n : Int) - 32 < (long : Int)) = true := by simp <;> omega
      go_enter Try.func53, Try.ntmps53
      go_wp2_with (first | (go_at_call 49; refine (HS.out _).mono ?_; rintro e w' ⟨rfl, rfl⟩) | (go_at_call 59; with_reducible refine (G16.out _ B0.out).mono ?_; rintro e w' ⟨rfl, rfl⟩) | (go_at_call 59; refine (G4.out _ B0.out).mono ?_; rintro e w' ⟨rfl, rfl⟩) | (refine wpList_store_rowTo rfl 39 (.tmp 4) (.tmp 32) rfl rfl w.heap.size #[.int .i64 0, .int .i64 0, .int .u64 0] rfl rfl 39 _ Z0.out (by rw [info39]; rfl) rfl (by kernel_rfl) ?_))
      exact bodyPost_ret (results_cell_two rfl _ _ w.heap.size _ rfl (load39 (Z0.out.row _))) rfl ⟨_, rfl, .inl ⟨NO, rfl⟩, Below.row B0.out (Nat.le_refl _) _⟩
  have hnum5 : num < 65536 := by omega
  have hlongn : long ≤ n - 32 := by omega
  have dx1 : decide ((65535 : Int) < (num : Int)) = false := by simp <;> omega
  have dx2 : decide ((n : Int) - 32 < (long : Int)) = false := by simp <;> omega
  clear hbad
  obtain ⟨kb, hkb⟩ : ∃ x, x = l.getD 2 0 := ⟨_, rfl⟩
  have HKB := Lib.hid hkb
  clear hkb
  have w2e : IntKind.i64.wrap (kb.toNat : Int) = (kb.toNat : Int) := by have := kb.toNat_lt; rw [IntKind.wrap_i64]; omega
  have wne : IntKind.i64.wrap (num : Int) = (num : Int) := by rw [IntKind.wrap_i64]; omega
  go_enter Try.func53, Try.ntmps53
  go_wp2_with (first | (go_at_call 49; refine (HS.out _).mono ?_; rintro e w' ⟨rfl, rfl⟩) | (go_at_call 59; with_reducible refine (G16.out _ B0.out).mono ?_; rintro e w' ⟨rfl, rfl⟩) | (go_at_call 59; refine (G4.out _ B0.out).mono ?_; rintro e w' ⟨rfl, rfl⟩) | fail)
  obtain ⟨ho, hho⟩ : ∃ x, x = w.heap.size := ⟨_, rfl⟩
  have Z1 := Lib.hid (show Blk (w.alloc (.cells #[.int .i64 0, .int .i64 0, .int .u64 0] 39)) ho 39 #[.int .i64 0, .int .i64 0, .int .u64 0] by rw [hho]; exact Z0.out)
  have z1 : ho < (w.alloc (.cells #[.int .i64 0, .int .i64 0, .int .u64 0] 39)).heap.size := by rw [hho]; simp
  have HO := Lib.hid (show w.heap.size ≤ ho by rw [hho]; exact Nat.le_refl _)
  rw [← hho]
  generalize World.alloc w _ = W3 at B0 Z1 z1 ⊢
  have HZ := Lib.hid z1
  clear Z0 z1 hho
  have B3a := Lib.hid B0.out.drew
  have B3b := Lib.hid (B0.out.alloc B0.out.size (.cells #[.int .i64 0, .int .i64 0, .int .u64 0] 39)).drew
  have G4a := Lib.hid (G4.out W3.drew B3a.out)
  have G4b := Lib.hid (G4.out (W3.alloc (.cells #[.int .i64 0, .int .i64 0, .int .u64 0] 39)).drew B3b.out)
  have G8a := Lib.hid (G8.out W3.drew B3a.out)
  have G8b := Lib.hid (G8.out (W3.alloc (.cells #[.int .i64 0, .int .i64 0, .int .u64 0] 39)).drew B3b.out)
  have d2a := Lib.hid (HC.out W3.drew B3a.out 2 (by omega))
  have d2b := Lib.hid (HC.out (W3.alloc (.cells #[.int .i64 0, .int .i64 0, .int .u64 0] 39)).drew B3b.out 2 (by omega))
  have d2c := Lib.hid (HC.out (W3.alloc (.cells #[.int .i64 (kb.toNat : Int), .int .i64 (num : Int), .int .u64 (gen : Int)] 39)).drew (B0.out.alloc B0.out.size _).drew 2 (by omega))
  rw [← HKB.out] at d2a d2b d2c
  have bnum : (num : Int) < 4294967296 := by omega
  go_upto_region 6 with (fail)
  go_cut [8] from 33 to 44 (fun v W => v = .pointer (some ⟨W3.heap.size, 0, none⟩) ∧ W = (W3.alloc (.cells #[.int .i64 (kb.toNat : Int), .int .i64 (num : Int), .int .u64 (gen : Int)] 39)).drew)
  case first =>
    go_region_held3 (fun W' => W'.cell? ⟨b, off + 2, none⟩ = some (.int .u8 (kb.toNat : Int))) (first | exact d2a.out | exact d2b.out | exact d2c.out)
      (first
        | (go_at_call 59; (with_reducible refine G4a.out.mono ?_); rintro e w' ⟨rfl, rfl⟩)
        | (go_at_call 59; (with_reducible refine G4b.out.mono ?_); rintro e w' ⟨rfl, rfl⟩)
        | (go_at_call 59; (with_reducible refine G8a.out.mono ?_); rintro e w' ⟨rfl, rfl⟩)
        | (go_at_call 59; (with_reducible refine G8b.out.mono ?_); rintro e w' ⟨rfl, rfl⟩))
    all_goals (go_wp2_with fail; go_meet; exact ⟨rfl, rfl⟩)
  case rest =>
    obtain ⟨rfl, rfl⟩ := hcut
    have B4 := Lib.hid (B0.out.alloc B0.out.size (.cells #[.int .i64 (kb.toNat : Int), .int .i64 (num : Int), .int .u64 (gen : Int)] 39)).drew
    have Z4 := Lib.hid (show Blk (W3.alloc (.cells #[.int .i64 (kb.toNat : Int), .int .i64 (num : Int), .int .u64 (gen : Int)] 39)).drew ho 39 #[.int .i64 0, .int .i64 0, .int .u64 0] from Z1.out.alloc _)
    have H4 := Lib.hid (show Blk (W3.alloc (.cells #[.int .i64 (kb.toNat : Int), .int .i64 (num : Int), .int .u64 (gen : Int)] 39)).drew W3.heap.size 39 #[.int .i64 (kb.toNat : Int), .int .i64 (num : Int), .int .u64 (gen : Int)] from Blk.new _ _ _)
    obtain ⟨hx, hhx⟩ : ∃ x, x = W3.heap.size := ⟨_, rfl⟩
    have hxo : ho < hx := by rw [hhx]; exact HZ.out
    rw [← hhx] at H4 ⊢
    generalize World.drew _ = W4 at B4 Z4 H4 ⊢
    have HXO := Lib.hid hxo
    clear hhx hxo d2a d2b d2c G4a G4b G8a G8b G4 G8 G16 B3a B3b B0 Z1 HZ W3
    obtain ⟨p, hp⟩ : ∃ x, x = Page.loadOf l := ⟨_, rfl⟩
    have hpl : p.length = long := by
      rw [hp, Page.loadOf, List.length_take, List.length_drop, HN.out, ← HF.out.2.2]; omega
    have RP := Lib.hid (show Rd W4 w.heap.size (some ⟨b, off + 24, none⟩) p by rw [hp, Page.loadOf, ← HF.out.2.2]; exact RG.out W4 B4.out 24 long (by omega))
    have HP := Lib.hid hp
    have HPL := Lib.hid hpl
    clear hp hpl
    have wl : IntKind.u64.wrap (24 + (long : Int)) = 24 + (long : Int) := by rw [IntKind.wrap_u64]; omega
    have ee : 24 + (long : Int) ≤ (c : Int) := by omega
    have ee2 : (24 : Int) ≤ 24 + (long : Int) := by omega
    have ee3 : (24 + (long : Int)).toNat = 24 + long := by omega
    have ee5 : (24 + (long : Int)).toNat - 24 = long := by omega
    go_wp2_with (first
      | (at_builtin
         refine wpList_append_bytes rfl (.tmp 45) (.tmp 49) rfl w.heap.size (.slice none 0 0) [] p rfl (World.ownsRow_nil W4 w.heap.size 5 1) w.heap.size (some ⟨b, off + 24, none⟩) (c - 24) (by rw [HPL.out]; rfl) RP.out (by rw [HPL.out]; simp; omega) B4.out.size ?_
         intro A5 c5 W5 p5 q5 rc5 o5 g5
         have q5' : p5 = p := by rw [q5.out]; rfl
         subst q5'
         have B5 := Lib.hid (Below.grew B4.out g5 B4.out.size (fun k hk => by cases hk))
         have F5 := Lib.hid g5
         have O5 := Lib.hid o5
         have H5 := Lib.hid (show Blk W5 hx 39 _ from (g5.1.block hx H4.out.lt (by simp [Value.ownBlock])).trans H4.out)
         have Z5 := Lib.hid (show Blk W5 ho 39 _ from (g5.1.block ho Z4.out.lt (by simp [Value.ownBlock])).trans Z4.out)
         clear g5 o5 q5 rc5)
      | (refine wpList_load_row rfl 39 _ rfl _ rfl 39 _ (0, 0) _ H5.out Try.underlying39 rfl (by rw [info39]; rfl) ?_))
    have hgl : gen < 18446744073709551616 := by rw [HF.out.2.1]; exact Page.genOf_lt l (by rw [HN.out]; omega)
    refine (seal_both 25 (Or.inr rfl) A5 c5 (n : Int) (kb.toNat : Int) (num : Int) gen p5 W5 O5.out.reads hgl (by omega) (by omega)).mono ?_
    rintro e w6 ⟨A6, c6, r6, rfl, q6, o6, b6⟩
    have B6 := Lib.hid (B5.out.trans (b6.mono B5.out.size))
    have Z6 := Lib.hid (Z5.out.below b6 Z5.out.lt)
    have H6 := Lib.hid (H5.out.below b6 H5.out.lt)
    have P6 := Lib.hid (World.ownsRow.kept (w' := w6) (row := none) O5.out ⟨b6.os, b6.tape, b6.output, b6.size, fun k hk _ => b6.block k hk⟩ (by cases h : (Value.slice A5 p5.length c5).ownBlock with | none => exact .inl rfl | some k => right; simp))
    have C6 := Lib.hid (O5.out.shape)
    clear b6 B5 Z5 H5 O5 B4 Z4 H4 RP F5 C6
    have eK : Page.kindOf l = kb.toNat := by rw [HKB.out]; rfl
    have eS : Page.Sized (l.length : Int) := by rw [HN.out]; exact HSZ.out
    by_cases hk : 1 ≤ kb.toNat ∧ kb.toNat ≤ 5
    · have hbd : ¬ sealBad (n : Int) (kb.toNat : Int) (num : Int) := by
        rintro (h | h | ⟨_, h⟩)
        · exact h HSZ.out
        · omega
        · simp [mayB] at h; omega
      have hC : sealC (n : Int) (kb.toNat : Int) (num : Int) p5 = 0 := by
        rw [sealC, if_neg hbd, if_neg (by rw [HPL.out]; omega)]
      have hL : sealL (n : Int) (kb.toNat : Int) (num : Int) gen p5 = Page.pageL n kb.toNat num gen p5 := by rw [sealL, if_pos hC]; rfl
      rw [hC]
      rw [hL] at q6
      have hrl : r6.length = n := by rw [q6, Page.pageL_length]
      obtain ⟨g6, rfl⟩ := Owns.some_ o6 (by intro h; rw [h] at hrl; simp at hrl; omega)
      obtain ⟨A', c', hsh, hc6, -⟩ := o6.shape
      injection hsh with hsh1 hsh2 hsh3
      subst hsh3
      have cn6 : (n : Int) - 8 ≤ (c6 : Int) := by omega
      have cn : (n : Int) - 8 ≤ (c : Int) := by omega
      have cn0 : (0 : Int) ≤ (n : Int) - 8 := by omega
      have w8 : IntKind.i64.wrap ((n : Int) - 8) = (n : Int) - 8 := by rw [IntKind.wrap_i64]; omega
      have c88 : (8 : Int) ≤ (n : Int) := by omega
      have t8 : ((n : Int) - 8).toNat = n - 8 := by omega
      have RD6 : Rd w6.drew w6.heap.size (some ⟨g6, 0, none⟩) r6 := o6.reads
      have RL6 : Rd w6.drew w.heap.size (some ⟨b, off, none⟩) l := by
        have := RG.out w6.drew B6.out.drew 0 n (by omega)
        rw [List.drop_zero, List.take_of_length_le (by rw [HN.out]; exact Nat.le_refl _)] at this
        exact this
      have hlA : (r6.take (n - 8)).length = n - 8 := by rw [List.length_take]; omega
      have hlB : (l.take (n - 8)).length = n - 8 := by rw [List.length_take, HN.out]; omega
      have v1 := conv_str (some ⟨g6, 0, none⟩) c6 (r6.take (n - 8)) w6.drew w6.heap.size (RD6.take (n - 8))
      have v2 := conv_str (some ⟨b, off, none⟩) c (l.take (n - 8)) w6.drew w.heap.size (RL6.take (n - 8))
      rw [hlA] at v1
      rw [hlB] at v2
      have v3 := conv_str (some ⟨g6, 0, none⟩) c6 r6 w6.drew w6.heap.size RD6
      have v4 := conv_str (some ⟨b, off, none⟩) c l w6.drew w.heap.size RL6
      rw [hrl] at v3
      rw [HN.out] at v4
      rw [hrl]
      have V34 := Lib.hid (And.intro v3 v4)
      have Q6 := Lib.hid (show r6 = Page.pageL l.length (Page.kindOf l) (Page.numOf l) (Page.genOf l) (Page.loadOf l) by rw [q6, eK, ← HF.out.1, ← HF.out.2.1, ← HP.out, HN.out])
      have hkk := Lib.hid (And.intro eS (And.intro (show 1 ≤ Page.kindOf l by omega) (And.intro (show Page.kindOf l ≤ 5 by omega) (And.intro (show Page.numOf l < 65536 by rw [← HF.out.1]; exact hnum5) (show Page.longOf l ≤ l.length - 32 by rw [← HF.out.2.2, HN.out]; exact hlongn)))))
      have HRL := Lib.hid hrl
      clear hL hC hbd RD6 RL6 hlA hlB v3 v4 hsh1 hsh2 o6 q6 hrl hk eK eS
      by_cases he : r6.take (n - 8) = l.take (n - 8)
      · rw [he] at v1
        obtain ⟨sA, hsA⟩ : ∃ x, x = bs (l.take (n - 8)) := ⟨_, rfl⟩
        rw [← hsA] at v1 v2
        have S6 := Lib.hid (And.intro v1 v2)
        have E := Lib.hid he
        clear v1 v2 he hsA
        have hq : (sA.toList == sA.toList) = true := by simp
        have YES : Page.HeadOk l := page_head hkk.out.1 hkk.out.2.1 hkk.out.2.2.1 hkk.out.2.2.2.1 hkk.out.2.2.2.2 (by rw [← Q6.out, HN.out]; exact E.out)
        have HY := Lib.hid YES
        clear YES
        go_wp2_with fail
        go_upto_region 10 with fail
        refine wp_region_held_drew (S := fun W' => (convert 22 9 (.slice (some ⟨g6, 0, none⟩) (n - 8) c6)).run Try.prog W' = .ok (.string sA) W' ∧ (convert 22 9 (.slice (some ⟨b, off, none⟩) (n - 8) c)).run Try.prog W' = .ok (.string sA) W') (by kernel_rfl) (by exact S6.out) (fun hHeld => ?_)
        refine takeTo (i := 0) (v := ?_) (some 59) rfl rfl (by kernel_rfl) (by kernel_rfl) (by kernel_rfl) (fun _ _ _ h => h) (Or.inl ⟨by rfl, ?_⟩) (by assumption) ?_
        rotate_left
        · (intro W7 hSw; (try dsimp only at hSw); go_simp; try with_reducible rfl)
        try simp only [Act.put, List.setIfInBounds_toArray, List.set_cons_zero, List.set_cons_succ]
        refine takeTo (i := 1) (v := ?_) (some 60) rfl rfl (by kernel_rfl) (by kernel_rfl) (by kernel_rfl) (fun _ _ _ h => h) (Or.inl ⟨by rfl, ?_⟩) (by assumption) ?_
        rotate_left
        · (intro W7 hSw; (try dsimp only at hSw); go_simp; try with_reducible rfl)
        try simp only [Act.put, List.setIfInBounds_toArray, List.set_cons_zero, List.set_cons_succ]
        refine takeTo (i := 2) (v := ?_) (some 61) rfl rfl (by kernel_rfl) (by kernel_rfl) (by kernel_rfl) (fun _ _ _ h => h) (Or.inl ⟨by rfl, ?_⟩) (by assumption) ?_
        rotate_left
        · (intro W7 hSw; (try dsimp only at hSw); go_simp; try with_reducible rfl)
        try simp only [Act.put, List.setIfInBounds_toArray, List.set_cons_zero, List.set_cons_succ]
        refine takeTo (i := 3) (v := ?_) (some 62) rfl rfl (by kernel_rfl) (by kernel_rfl) (by kernel_rfl) (fun _ _ _ h => h) (Or.inl ⟨by rfl, ?_⟩) (by assumption) ?_
        rotate_left
        · (intro W7 hSw; (try dsimp only at hSw); go_simp; try with_reducible rfl)
        try simp only [Act.put, List.setIfInBounds_toArray, List.set_cons_zero, List.set_cons_succ]
        refine takeTo (i := 4) (v := ?_) (some 63) rfl rfl (by kernel_rfl) (by kernel_rfl) (by kernel_rfl) (fun _ _ _ h => h) (Or.inl ⟨by rfl, ?_⟩) (by assumption) ?_
        rotate_left
        · (intro W7 hSw; (try dsimp only at hSw); go_simp; try with_reducible rfl)
        try simp only [Act.put, List.setIfInBounds_toArray, List.set_cons_zero, List.set_cons_succ]
        refine takeTo (i := 5) (v := ?_) (some 64) rfl rfl (by kernel_rfl) (by kernel_rfl) (by kernel_rfl) (fun _ _ _ h => h) (Or.inl ⟨by rfl, ?_⟩) (by assumption) ?_
        rotate_left
        · (intro W7 hSw; (try dsimp only at hSw); go_simp; try with_reducible rfl)
        try simp only [Act.put, List.setIfInBounds_toArray, List.set_cons_zero, List.set_cons_succ]
        refine takeTo (i := 6) (v := ?_) (some 65) rfl rfl (by kernel_rfl) (by kernel_rfl) (by kernel_rfl) (fun _ _ _ h => h) (Or.inl ⟨by rfl, ?_⟩) (by assumption) ?_
        rotate_left
        · (intro W7 hSw; (try dsimp only at hSw); go_simp; try with_reducible rfl)
        try simp only [Act.put, List.setIfInBounds_toArray, List.set_cons_zero, List.set_cons_succ]
        refine takeTo (i := 7) (v := ?_) (some 66) rfl rfl (by kernel_rfl) (by kernel_rfl) (by kernel_rfl) (fun _ _ _ h => h) (Or.inl ⟨by rfl, ?_⟩) (by assumption) ?_
        rotate_left
        · (intro W7 hSw; (try dsimp only at hSw); go_simp; try with_reducible rfl)
        try simp only [Act.put, List.setIfInBounds_toArray, List.set_cons_zero, List.set_cons_succ]
        refine takeTo (i := 8) (v := ?_) (some 67) rfl rfl (by kernel_rfl) (by kernel_rfl) (by kernel_rfl) (fun _ _ _ h => h) (Or.inl ⟨by rfl, ?_⟩) (by assumption) ?_
        rotate_left
        · (intro W7 hSw; (try dsimp only at hSw); go_simp; try with_reducible rfl)
        try simp only [Act.put, List.setIfInBounds_toArray, List.set_cons_zero, List.set_cons_succ]
        refine takeTo (i := 9) (v := ?_) (some 68) rfl rfl (by kernel_rfl) (by kernel_rfl) (by kernel_rfl) (fun _ _ _ h => h) (Or.inl ⟨by rfl, ?_⟩) (by assumption) ?_
        rotate_left
        · (intro W7 hSw; (try dsimp only at hSw); go_simp; try with_reducible rfl)
        try simp only [Act.put, List.setIfInBounds_toArray, List.set_cons_zero, List.set_cons_succ]
        refine takeTo (i := 10) (v := ?_) (some 69) rfl rfl (by kernel_rfl) (by kernel_rfl) (by kernel_rfl) (fun _ _ _ h => h) (Or.inl ⟨by rfl, ?_⟩) (by assumption) ?_
        rotate_left
        · (intro W7 hSw; (try dsimp only at hSw); go_simp; try with_reducible rfl)
        try simp only [Act.put, List.setIfInBounds_toArray, List.set_cons_zero, List.set_cons_succ]
        refine takeTo (i := 11) (v := ?_) (some 70) rfl rfl (by kernel_rfl) (by kernel_rfl) (by kernel_rfl) (fun _ _ _ h => h) (Or.inl ⟨by rfl, ?_⟩) (by assumption) ?_
        rotate_left
        · (intro W7 hSw; (try dsimp only at hSw); go_simp; try with_reducible rfl)
        try simp only [Act.put, List.setIfInBounds_toArray, List.set_cons_zero, List.set_cons_succ]
        refine takeTo (i := 12) (v := ?_) (some 71) rfl rfl (by kernel_rfl) (by kernel_rfl) (by kernel_rfl) (fun _ _ _ h => h) (Or.inl ⟨by rfl, ?_⟩) (by assumption) ?_
        rotate_left
        · (intro W7 hSw; (try dsimp only at hSw); go_simp; try with_reducible rfl)
        try simp only [Act.put, List.setIfInBounds_toArray, List.set_cons_zero, List.set_cons_succ]
        refine takeTo (i := 13) (v := ?_) (some 72) rfl rfl (by kernel_rfl) (by kernel_rfl) (by kernel_rfl) (fun _ _ _ h => h) (Or.inl ⟨by rfl, ?_⟩) (by assumption) ?_
        rotate_left
        · (intro W7 hSw; (try dsimp only at hSw); go_simp; try with_reducible rfl)
        try simp only [Act.put, List.setIfInBounds_toArray, List.set_cons_zero, List.set_cons_succ]
        refine takeTo (i := 14) (v := ?_) (some 73) rfl rfl (by kernel_rfl) (by kernel_rfl) (by kernel_rfl) (fun _ _ _ h => h) (Or.inl ⟨by rfl, ?_⟩) (by assumption) ?_
        rotate_left
        · (intro W7 hSw; (try dsimp only at hSw); go_simp; try with_reducible rfl)
        try simp only [Act.put, List.setIfInBounds_toArray, List.set_cons_zero, List.set_cons_succ]
        refine takeTo (i := 15) (v := ?_) (some 74) rfl rfl (by kernel_rfl) (by kernel_rfl) (by kernel_rfl) (fun _ _ _ h => h) (Or.inl ⟨by rfl, ?_⟩) (by assumption) ?_
        rotate_left
        · (intro W7 hSw; (try dsimp only at hSw); go_simp; try with_reducible rfl)
        try simp only [Act.put, List.setIfInBounds_toArray, List.set_cons_zero, List.set_cons_succ]
        refine takeTo (i := 16) (v := ?_) (some 75) rfl rfl (by kernel_rfl) (by kernel_rfl) (by kernel_rfl) (fun _ _ _ h => h) (Or.inl ⟨by rfl, ?_⟩) (by assumption) ?_
        rotate_left
        · (intro W7 hSw; (try dsimp only at hSw); go_simp; try with_reducible rfl)
        try simp only [Act.put, List.setIfInBounds_toArray, List.set_cons_zero, List.set_cons_succ]
        refine wpAnyH_done (by kernel_rfl) ?_ _
        have ZD := Lib.hid (show Blk w6.drew ho 39 _ from Z6.out)
        have HD6 := Lib.hid (show Blk w6.drew hx 39 _ from H6.out)
        have BD := Lib.hid B6.out.drew
        have PD := Lib.hid (show Owns w6.drew w.heap.size (.slice A5 p5.length c5) p5 from P6.out)
        obtain ⟨v3, v4⟩ := V34.out
        clear S6 V34 hHeld hq
        generalize World.drew w6 = W6 at *
        clear Z6 H6 B6 P6
        by_cases hf : r6 = l
        · rw [hf] at v3
          obtain ⟨sC, hsC⟩ : ∃ x, x = bs l := ⟨_, rfl⟩
          rw [← hsC] at v3 v4
          clear hsC
          have YES2 : Page.SumOk l := by
            have e := hf.symm.trans Q6.out
            have := Page.page_sum l.length (Page.kindOf l) (Page.numOf l) (Page.genOf l) (Page.loadOf l) (by rw [HN.out]; omega)
            rw [← e] at this
            exact this
          have HY2 := Lib.hid YES2
          have hq : (sC.toList == sC.toList) = true := by simp
          have n1 : W6.cell? ⟨hx, 1, none⟩ = some (.int .i64 (num : Int)) := HD6.out.cell 1
          clear YES2 hf
          by_cases hnn : (num : Int) = number
          · have HNN := Lib.hid hnn
            have hnb : ((num : Int) != number) = false := by simp [hnn]
            have hnb2 : ((num : Int) == number) = true := by simp [hnn]
            clear hnn
            go_wp2_with (first | (refine wpList_load_row rfl 39 _ rfl _ rfl 39 _ (0, 0) _ HD6.out Try.underlying39 rfl (by rw [info39]; rfl) ?_) | (refine wpList_store_rowTo rfl 39 (.tmp 4) (.tmp 88) rfl rfl ho #[.int .i64 (kb.toNat : Int), .int .i64 (num : Int), .int .u64 (gen : Int)] rfl rfl 39 _ ZD.out (by rw [info39]; rfl) rfl (by kernel_rfl) ?_))
            have PF := PD.out.farRow5 ZD.out (by decide) #[.int .i64 (kb.toNat : Int), .int .i64 (num : Int), .int .u64 (gen : Int)]
            obtain ⟨_, _, hsh, hc5, -⟩ := PD.out.shape
            injection hsh with hsh1 hsh2 hsh3
            subst hsh3
            refine bodyPost_ret (results_cell_two rfl _ _ ho _ rfl (load39 (ZD.out.row _))) rfl ⟨_, rfl, .inr (.inr (.inr ⟨HY.out, HY2.out, by rw [← HF.out.1]; exact HNN.out, A5, c5, ?_, ?_, ?_⟩)), Below.row BD.out HO.out _⟩
            · rw [openYes, ← HF.out.1, ← HF.out.2.1, ← HP.out, show Page.kindOf l = kb.toNat by rw [HKB.out]; rfl]; rfl
            · rw [← HP.out]; exact hc5
            · rw [← HP.out]; exact PF
          · have HNN := Lib.hid hnn
            have hnb : ((num : Int) != number) = true := by simp [hnn]
            have hnb2 : ((num : Int) == number) = false := by simp [hnn]
            clear hnn
            go_wp2_with (first | (refine wpList_load_row rfl 39 _ rfl _ rfl 39 _ (0, 0) _ HD6.out Try.underlying39 rfl (by rw [info39]; rfl) ?_) | (refine wpList_store_rowTo rfl 39 (.tmp 4) (.tmp 87) rfl rfl ho #[.int .i64 0, .int .i64 0, .int .u64 0] rfl rfl 39 _ ZD.out (by rw [info39]; rfl) rfl (by kernel_rfl) ?_))
            exact bodyPost_ret (results_cell_two rfl _ _ ho _ rfl (load39 (ZD.out.row _))) rfl ⟨_, rfl, .inr (.inr (.inl ⟨HY.out, HY2.out, by rw [← HF.out.1]; exact HNN.out, rfl⟩)), Below.row BD.out HO.out _⟩
        · have NO2 : ¬ Page.SumOk l := fun h => hf (by rw [Q6.out]; exact (Page.page_of l HY.out h).symm)
          obtain ⟨sC, hsC⟩ : ∃ x, x = bs r6 := ⟨_, rfl⟩
          obtain ⟨sD, hsD⟩ : ∃ x, x = bs l := ⟨_, rfl⟩
          have hq : (sC.toList == sD.toList) = false := by rw [hsC, hsD, bs_list, bs_list]; simpa using hf
          rw [← hsC] at v3
          rw [← hsD] at v4
          clear hsC hsD hf
          go_wp2_with ((refine wpList_store_rowTo rfl 39 (.tmp 4) (.tmp 82) rfl rfl ho #[.int .i64 0, .int .i64 0, .int .u64 0] rfl rfl 39 _ ZD.out (by rw [info39]; rfl) rfl (by kernel_rfl) ?_))
          exact bodyPost_ret (results_cell_two rfl _ _ ho _ rfl (load39 (ZD.out.row _))) rfl ⟨_, rfl, .inr (.inl ⟨HY.out, NO2, rfl⟩), Below.row BD.out HO.out _⟩
      · have NO : ¬ Page.HeadOk l := fun h => he (by rw [Q6.out, ← HN.out]; exact head_take h)
        obtain ⟨sA, hsA⟩ : ∃ x, x = bs (r6.take (n - 8)) := ⟨_, rfl⟩
        obtain ⟨sB, hsB⟩ : ∃ x, x = bs (l.take (n - 8)) := ⟨_, rfl⟩
        rw [← hsA] at v1
        rw [← hsB] at v2
        have S6 := Lib.hid (And.intro v1 v2)
        have hq : (sA.toList == sB.toList) = false := by rw [hsA, hsB, bs_list, bs_list]; simpa using he
        clear v1 v2 he hsA hsB
        go_wp2_with fail
        go_upto_region 10 with fail
        refine wp_region_held_drew (S := fun W' => (convert 22 9 (.slice (some ⟨g6, 0, none⟩) (n - 8) c6)).run Try.prog W' = .ok (.string sA) W' ∧ (convert 22 9 (.slice (some ⟨b, off, none⟩) (n - 8) c)).run Try.prog W' = .ok (.string sB) W') (by kernel_rfl) (by exact S6.out) (fun hHeld => ?_)
        refine takeTo (i := 0) (v := ?_) (some 59) rfl rfl (by kernel_rfl) (by kernel_rfl) (by kernel_rfl) (fun _ _ _ h => h) (Or.inl ⟨by rfl, ?_⟩) (by assumption) ?_
        rotate_left
        · (intro W7 hSw; (try dsimp only at hSw); go_simp; try with_reducible rfl)
        try simp only [Act.put, List.setIfInBounds_toArray, List.set_cons_zero, List.set_cons_succ]
        refine takeTo (i := 1) (v := ?_) (some 60) rfl rfl (by kernel_rfl) (by kernel_rfl) (by kernel_rfl) (fun _ _ _ h => h) (Or.inl ⟨by rfl, ?_⟩) (by assumption) ?_
        rotate_left
        · (intro W7 hSw; (try dsimp only at hSw); go_simp; try with_reducible rfl)
        try simp only [Act.put, List.setIfInBounds_toArray, List.set_cons_zero, List.set_cons_succ]
        refine takeTo (i := 2) (v := ?_) (some 61) rfl rfl (by kernel_rfl) (by kernel_rfl) (by kernel_rfl) (fun _ _ _ h => h) (Or.inl ⟨by rfl, ?_⟩) (by assumption) ?_
        rotate_left
        · (intro W7 hSw; (try dsimp only at hSw); go_simp; try with_reducible rfl)
        try simp only [Act.put, List.setIfInBounds_toArray, List.set_cons_zero, List.set_cons_succ]
        refine takeTo (i := 3) (v := ?_) (some 62) rfl rfl (by kernel_rfl) (by kernel_rfl) (by kernel_rfl) (fun _ _ _ h => h) (Or.inl ⟨by rfl, ?_⟩) (by assumption) ?_
        rotate_left
        · (intro W7 hSw; (try dsimp only at hSw); go_simp; try with_reducible rfl)
        try simp only [Act.put, List.setIfInBounds_toArray, List.set_cons_zero, List.set_cons_succ]
        refine takeTo (i := 4) (v := ?_) (some 63) rfl rfl (by kernel_rfl) (by kernel_rfl) (by kernel_rfl) (fun _ _ _ h => h) (Or.inl ⟨by rfl, ?_⟩) (by assumption) ?_
        rotate_left
        · (intro W7 hSw; (try dsimp only at hSw); go_simp; try with_reducible rfl)
        try simp only [Act.put, List.setIfInBounds_toArray, List.set_cons_zero, List.set_cons_succ]
        refine takeTo (i := 5) (v := ?_) (some 64) rfl rfl (by kernel_rfl) (by kernel_rfl) (by kernel_rfl) (fun _ _ _ h => h) (Or.inl ⟨by rfl, ?_⟩) (by assumption) ?_
        rotate_left
        · (intro W7 hSw; (try dsimp only at hSw); go_simp; try with_reducible rfl)
        try simp only [Act.put, List.setIfInBounds_toArray, List.set_cons_zero, List.set_cons_succ]
        refine takeTo (i := 6) (v := ?_) (some 65) rfl rfl (by kernel_rfl) (by kernel_rfl) (by kernel_rfl) (fun _ _ _ h => h) (Or.inl ⟨by rfl, ?_⟩) (by assumption) ?_
        rotate_left
        · (intro W7 hSw; (try dsimp only at hSw); go_simp; try with_reducible rfl)
        try simp only [Act.put, List.setIfInBounds_toArray, List.set_cons_zero, List.set_cons_succ]
        refine takeTo (i := 7) (v := ?_) (some 66) rfl rfl (by kernel_rfl) (by kernel_rfl) (by kernel_rfl) (fun _ _ _ h => h) (Or.inl ⟨by rfl, ?_⟩) (by assumption) ?_
        rotate_left
        · (intro W7 hSw; (try dsimp only at hSw); go_simp; try with_reducible rfl)
        try simp only [Act.put, List.setIfInBounds_toArray, List.set_cons_zero, List.set_cons_succ]
        refine takeTo (i := 8) (v := ?_) (some 67) rfl rfl (by kernel_rfl) (by kernel_rfl) (by kernel_rfl) (fun _ _ _ h => h) (Or.inl ⟨by rfl, ?_⟩) (by assumption) ?_
        rotate_left
        · (intro W7 hSw; (try dsimp only at hSw); go_simp; try with_reducible rfl)
        try simp only [Act.put, List.setIfInBounds_toArray, List.set_cons_zero, List.set_cons_succ]
        refine takeTo (i := 9) (v := ?_) (some 68) rfl rfl (by kernel_rfl) (by kernel_rfl) (by kernel_rfl) (fun _ _ _ h => h) (Or.inl ⟨by rfl, ?_⟩) (by assumption) ?_
        rotate_left
        · (intro W7 hSw; (try dsimp only at hSw); go_simp; try with_reducible rfl)
        try simp only [Act.put, List.setIfInBounds_toArray, List.set_cons_zero, List.set_cons_succ]
        refine takeTo (i := 10) (v := ?_) (some 69) rfl rfl (by kernel_rfl) (by kernel_rfl) (by kernel_rfl) (fun _ _ _ h => h) (Or.inl ⟨by rfl, ?_⟩) (by assumption) ?_
        rotate_left
        · (intro W7 hSw; (try dsimp only at hSw); go_simp; try with_reducible rfl)
        try simp only [Act.put, List.setIfInBounds_toArray, List.set_cons_zero, List.set_cons_succ]
        refine takeTo (i := 11) (v := ?_) (some 70) rfl rfl (by kernel_rfl) (by kernel_rfl) (by kernel_rfl) (fun _ _ _ h => h) (Or.inl ⟨by rfl, ?_⟩) (by assumption) ?_
        rotate_left
        · (intro W7 hSw; (try dsimp only at hSw); go_simp; try with_reducible rfl)
        try simp only [Act.put, List.setIfInBounds_toArray, List.set_cons_zero, List.set_cons_succ]
        refine takeTo (i := 12) (v := ?_) (some 71) rfl rfl (by kernel_rfl) (by kernel_rfl) (by kernel_rfl) (fun _ _ _ h => h) (Or.inl ⟨by rfl, ?_⟩) (by assumption) ?_
        rotate_left
        · (intro W7 hSw; (try dsimp only at hSw); go_simp; try with_reducible rfl)
        try simp only [Act.put, List.setIfInBounds_toArray, List.set_cons_zero, List.set_cons_succ]
        refine takeTo (i := 13) (v := ?_) (some 72) rfl rfl (by kernel_rfl) (by kernel_rfl) (by kernel_rfl) (fun _ _ _ h => h) (Or.inl ⟨by rfl, ?_⟩) (by assumption) ?_
        rotate_left
        · (intro W7 hSw; (try dsimp only at hSw); go_simp; try with_reducible rfl)
        try simp only [Act.put, List.setIfInBounds_toArray, List.set_cons_zero, List.set_cons_succ]
        refine takeTo (i := 14) (v := ?_) (some 73) rfl rfl (by kernel_rfl) (by kernel_rfl) (by kernel_rfl) (fun _ _ _ h => h) (Or.inl ⟨by rfl, ?_⟩) (by assumption) ?_
        rotate_left
        · (intro W7 hSw; (try dsimp only at hSw); go_simp; try with_reducible rfl)
        try simp only [Act.put, List.setIfInBounds_toArray, List.set_cons_zero, List.set_cons_succ]
        refine takeTo (i := 15) (v := ?_) (some 74) rfl rfl (by kernel_rfl) (by kernel_rfl) (by kernel_rfl) (fun _ _ _ h => h) (Or.inl ⟨by rfl, ?_⟩) (by assumption) ?_
        rotate_left
        · (intro W7 hSw; (try dsimp only at hSw); go_simp; try with_reducible rfl)
        try simp only [Act.put, List.setIfInBounds_toArray, List.set_cons_zero, List.set_cons_succ]
        refine takeTo (i := 16) (v := ?_) (some 75) rfl rfl (by kernel_rfl) (by kernel_rfl) (by kernel_rfl) (fun _ _ _ h => h) (Or.inl ⟨by rfl, ?_⟩) (by assumption) ?_
        rotate_left
        · (intro W7 hSw; (try dsimp only at hSw); go_simp; try with_reducible rfl)
        try simp only [Act.put, List.setIfInBounds_toArray, List.set_cons_zero, List.set_cons_succ]
        refine wpAnyH_done (by kernel_rfl) ?_ _
        have ZD := Lib.hid (show Blk w6.drew ho 39 _ from Z6.out)
        have BD := Lib.hid B6.out.drew
        generalize World.drew w6 = W6 at *
        clear S6 V34 hHeld hq Z6 H6 B6 P6
        go_wp2_with ((refine wpList_store_rowTo rfl 39 (.tmp 4) (.tmp 76) rfl rfl ho #[.int .i64 0, .int .i64 0, .int .u64 0] rfl rfl 39 _ ZD.out (by rw [info39]; rfl) rfl (by kernel_rfl) ?_))
        exact bodyPost_ret (results_cell_two rfl _ _ ho _ rfl (load39 (ZD.out.row _))) rfl ⟨_, rfl, .inl ⟨NO, rfl⟩, Below.row BD.out HO.out _⟩
    · have hbd : sealBad (n : Int) (kb.toNat : Int) (num : Int) := .inr (.inr ⟨by omega, by
        unfold mayB
        by_cases h : 1 ≤ kb.toNat
        · rw [decide_eq_false (show ¬ ((kb.toNat : Int) ≤ 5) by omega)]; simp
        · rw [decide_eq_false (show ¬ ((1 : Int) ≤ (kb.toNat : Int)) by omega)]; simp⟩)
      have hC : sealC (n : Int) (kb.toNat : Int) (num : Int) p5 = 1 := if_pos hbd
      rw [hC]
      have NO : ¬ Page.HeadOk l := fun h => by
        obtain ⟨_, _, _, _, _, h1, h5, _, _, _⟩ := h
        omega
      clear hbd hC hk
      go_wp2_with fail
      go_upto_region 10 with fail
      refine wp_region_held_drew (S := fun _ => True) (by kernel_rfl) (by exact trivial) (fun hHeld => ?_)
      refine takeTo (i := 0) (v := ?_) (some 59) rfl rfl (by kernel_rfl) (by kernel_rfl) (by kernel_rfl) (fun _ _ _ h => h) (Or.inl ⟨by rfl, ?_⟩) (by assumption) ?_
      rotate_left
      · (intro W7 hSw; (try dsimp only at hSw); go_simp; try with_reducible rfl)
      try simp only [Act.put, List.setIfInBounds_toArray, List.set_cons_zero, List.set_cons_succ]
      refine takeTo (i := 1) (v := ?_) (some 60) rfl rfl (by kernel_rfl) (by kernel_rfl) (by kernel_rfl) (fun _ _ _ h => h) (Or.inl ⟨by rfl, ?_⟩) (by assumption) ?_
      rotate_left
      · (intro W7 hSw; (try dsimp only at hSw); go_simp; try with_reducible rfl)
      try simp only [Act.put, List.setIfInBounds_toArray, List.set_cons_zero, List.set_cons_succ]
      refine takeTo (i := 2) (v := ?_) (some 61) rfl rfl (by kernel_rfl) (by kernel_rfl) (by kernel_rfl) (fun _ _ _ h => h) (Or.inl ⟨by rfl, ?_⟩) (by assumption) ?_
      rotate_left
      · (intro W7 hSw; (try dsimp only at hSw); go_simp; try with_reducible rfl)
      try simp only [Act.put, List.setIfInBounds_toArray, List.set_cons_zero, List.set_cons_succ]
      refine takeTo (i := 3) (v := undef) (some 62) rfl rfl (by kernel_rfl) (by kernel_rfl) (by kernel_rfl) (fun _ _ _ h => h) (Or.inr ⟨by rfl, rfl⟩) (by assumption) ?_
      try simp only [Act.put, List.setIfInBounds_toArray, List.set_cons_zero, List.set_cons_succ]
      refine takeTo (i := 4) (v := undef) (some 63) rfl rfl (by kernel_rfl) (by kernel_rfl) (by kernel_rfl) (fun _ _ _ h => h) (Or.inr ⟨by rfl, rfl⟩) (by assumption) ?_
      try simp only [Act.put, List.setIfInBounds_toArray, List.set_cons_zero, List.set_cons_succ]
      refine takeTo (i := 5) (v := undef) (some 64) rfl rfl (by kernel_rfl) (by kernel_rfl) (by kernel_rfl) (fun _ _ _ h => h) (Or.inr ⟨by rfl, rfl⟩) (by assumption) ?_
      try simp only [Act.put, List.setIfInBounds_toArray, List.set_cons_zero, List.set_cons_succ]
      refine takeTo (i := 6) (v := undef) (some 65) rfl rfl (by kernel_rfl) (by kernel_rfl) (by kernel_rfl) (fun _ _ _ h => h) (Or.inr ⟨by rfl, rfl⟩) (by assumption) ?_
      try simp only [Act.put, List.setIfInBounds_toArray, List.set_cons_zero, List.set_cons_succ]
      refine takeTo (i := 7) (v := undef) (some 66) rfl rfl (by kernel_rfl) (by kernel_rfl) (by kernel_rfl) (fun _ _ _ h => h) (Or.inr ⟨by rfl, rfl⟩) (by assumption) ?_
      try simp only [Act.put, List.setIfInBounds_toArray, List.set_cons_zero, List.set_cons_succ]
      refine takeTo (i := 8) (v := undef) (some 67) rfl rfl (by kernel_rfl) (by kernel_rfl) (by kernel_rfl) (fun _ _ _ h => h) (Or.inr ⟨by rfl, rfl⟩) (by assumption) ?_
      try simp only [Act.put, List.setIfInBounds_toArray, List.set_cons_zero, List.set_cons_succ]
      refine takeTo (i := 9) (v := undef) (some 68) rfl rfl (by kernel_rfl) (by kernel_rfl) (by kernel_rfl) (fun _ _ _ h => h) (Or.inr ⟨by rfl, rfl⟩) (by assumption) ?_
      try simp only [Act.put, List.setIfInBounds_toArray, List.set_cons_zero, List.set_cons_succ]
      refine takeTo (i := 10) (v := undef) (some 69) rfl rfl (by kernel_rfl) (by kernel_rfl) (by kernel_rfl) (fun _ _ _ h => h) (Or.inr ⟨by rfl, rfl⟩) (by assumption) ?_
      try simp only [Act.put, List.setIfInBounds_toArray, List.set_cons_zero, List.set_cons_succ]
      refine takeTo (i := 11) (v := undef) (some 70) rfl rfl (by kernel_rfl) (by kernel_rfl) (by kernel_rfl) (fun _ _ _ h => h) (Or.inr ⟨by rfl, rfl⟩) (by assumption) ?_
      try simp only [Act.put, List.setIfInBounds_toArray, List.set_cons_zero, List.set_cons_succ]
      refine takeTo (i := 12) (v := undef) (some 71) rfl rfl (by kernel_rfl) (by kernel_rfl) (by kernel_rfl) (fun _ _ _ h => h) (Or.inr ⟨by rfl, rfl⟩) (by assumption) ?_
      try simp only [Act.put, List.setIfInBounds_toArray, List.set_cons_zero, List.set_cons_succ]
      refine takeTo (i := 13) (v := undef) (some 72) rfl rfl (by kernel_rfl) (by kernel_rfl) (by kernel_rfl) (fun _ _ _ h => h) (Or.inr ⟨by rfl, rfl⟩) (by assumption) ?_
      try simp only [Act.put, List.setIfInBounds_toArray, List.set_cons_zero, List.set_cons_succ]
      refine takeTo (i := 14) (v := undef) (some 73) rfl rfl (by kernel_rfl) (by kernel_rfl) (by kernel_rfl) (fun _ _ _ h => h) (Or.inr ⟨by rfl, rfl⟩) (by assumption) ?_
      try simp only [Act.put, List.setIfInBounds_toArray, List.set_cons_zero, List.set_cons_succ]
      refine takeTo (i := 15) (v := undef) (some 74) rfl rfl (by kernel_rfl) (by kernel_rfl) (by kernel_rfl) (fun _ _ _ h => h) (Or.inr ⟨by rfl, rfl⟩) (by assumption) ?_
      try simp only [Act.put, List.setIfInBounds_toArray, List.set_cons_zero, List.set_cons_succ]
      refine takeTo (i := 16) (v := ?_) (some 75) rfl rfl (by kernel_rfl) (by kernel_rfl) (by kernel_rfl) (fun _ _ _ h => h) (Or.inl ⟨by rfl, ?_⟩) (by assumption) ?_
      rotate_left
      · (intro W7 hSw; (try dsimp only at hSw); go_simp; try with_reducible rfl)
      try simp only [Act.put, List.setIfInBounds_toArray, List.set_cons_zero, List.set_cons_succ]
      refine wpAnyH_done (by kernel_rfl) ?_ _
      have ZD := Lib.hid (show Blk w6.drew ho 39 _ from Z6.out)
      have BD := Lib.hid B6.out.drew
      generalize World.drew w6 = W6 at *
      clear hHeld Z6 H6 B6 P6
      go_wp2_with ((refine wpList_store_rowTo rfl 39 (.tmp 4) (.tmp 76) rfl rfl ho #[.int .i64 0, .int .i64 0, .int .u64 0] rfl rfl 39 _ ZD.out (by rw [info39]; rfl) rfl (by kernel_rfl) ?_))
      exact bodyPost_ret (results_cell_two rfl _ _ ho _ rfl (load39 (ZD.out.row _))) rfl ⟨_, rfl, .inl ⟨NO, rfl⟩, Below.row BD.out HO.out _⟩
theorem ropen_rd (A : Option Addr) (c n B : Nat) (number : Int) (l : List UInt8) (w : World) (hn : l.length = n) (hnc : n ≤ c) (hB : B ≤ w.heap.size) (hr : Rd w B A l) :
    Calls Try.prog 53 #[.slice A n c, .int .i64 number] w fun e w' => ∃ v, e = .returned v ∧ OpenPost l number w w' v ∧ Below w.heap.size w w' := by
  by_cases hs : Page.Sized n
  · obtain ⟨g1, g2⟩ := Page.sized_512 hs
    rcases hr with rfl | ⟨b, off, rfl, hb, hc⟩
    · simp at hn; omega
    · exact ropen_some b off c n number l w hn hnc hs (by omega) (by rw [hn] at hc; exact hc)
  · exact ropen_none A c n number l w hn hs
end Go.Proofs.Ytofhdehigfdmkaa
