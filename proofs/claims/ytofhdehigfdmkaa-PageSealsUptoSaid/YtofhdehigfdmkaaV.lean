/- pick and may of layer 3: a head and a size that may be. -/
import Derived.Test.YtofhdehigfdmkaaU
namespace Go.Proofs.Ytofhdehigfdmkaa
open Go.RowKit
theorem pick3_any (c n : Int) (h : 0 < n) (w : World) (hc : -9223372036854775808 ≤ c) (hc2 : c ≤ 9223372036854775807) :
    Calls Try.prog 34 #[.int .i64 c, .int .i64 n] w fun e w' => e = .returned (.int .i64 (pickN c n)) ∧ w = w' := by
  have hn0 : (n == 0) = false := by simp; omega
  by_cases hneg : c < 0
  · have HP := Lib.hid (show pickN c n = -((c + 1).tmod n) by unfold pickN; rw [if_pos hneg])
    go_enter Try.func34, Try.ntmps34
    go_wp2
    go_ret
    exact ⟨ret_int HP.out.symm, rfl⟩
  · have HP := Lib.hid (show pickN c n = c % n by unfold pickN; rw [if_neg hneg])
    go_enter Try.func34, Try.ntmps34
    go_wp2
    go_ret
    exact ⟨ret_int HP.out.symm, rfl⟩
theorem results_tcu {fn : Func} {p t u : Tmp} {ty : TypeId} (h : fn.results = #[.tmp t, .cell p ty, .tmp u]) (tmps : Array Value) (w : World) (g : Nat) (cs : Array Value)
    (hp : tmps.getD p undef = .pointer (some ⟨g, 0, none⟩)) (hl : (loadVar ty ⟨g, 0, none⟩).run Try.prog w = .ok (.agg cs) w) :
    (results fn tmps).run Try.prog w = .ok (.tuple #[tmps.getD t undef, .agg cs, tmps.getD u undef]) w := by
  have hp' : tmps[p]?.getD undef = .pointer (some ⟨g, 0, none⟩) := by simpa using hp
  simp [results, h, hp', asAddr, hl]
/-- which size -/
def sizeN (s : Int) : Nat := 512 * 2 ^ (pickN s 4).toNat
theorem sizeN_sized (s : Int) : Page.Sized (sizeN s) := by
  obtain ⟨h1, h2⟩ := pickN_in s 4 (by omega)
  unfold sizeN
  generalize pickN s 4 = k at *
  rcases (by omega : k = 0 ∨ k = 1 ∨ k = 2 ∨ k = 3) with rfl | rfl | rfl | rfl
  · exact .inl rfl
  · exact .inr (.inl rfl)
  · exact .inr (.inr (.inl rfl))
  · exact .inr (.inr (.inr rfl))
def kindN (k : Int) : Nat := (1 + pickN k 5).toNat
def numN (k : Int) : Nat := (pickN k 65536).toNat
set_option maxHeartbeats 1000000 in
set_option maxRecDepth 100000 in
theorem may3_any (A : Option Addr) (c n : Nat) (s k m g : Int) (w : World) (hs : -9223372036854775808 ≤ s ∧ s ≤ 9223372036854775807) (hk : -9223372036854775808 ≤ k ∧ k ≤ 9223372036854775807) (hm : -9223372036854775808 ≤ m ∧ m ≤ 9223372036854775807) (hnc : n ≤ c) (_ : n ≤ 9223372036854775807) :
    Calls Try.prog 32 #[.int .i64 s, .agg #[.int .i64 k, .int .i64 m, .int .u64 g], .slice A n c] w fun e w' =>
      e = .returned (.tuple #[.int .i64 (sizeN s : Int), .agg #[.int .i64 (kindN k : Int), .int .i64 (numN m : Int), .int .u64 g], .slice A (min n (sizeN s - 32)) c]) ∧ Below w.heap.size w w' := by
  have P1 := Lib.hid (fun W => pick3_any s 4 (by omega) W hs.1 hs.2)
  have P2 := Lib.hid (fun W => pick3_any k 5 (by omega) W hk.1 hk.2)
  have P3 := Lib.hid (fun W => pick3_any m 65536 (by omega) W hm.1 hm.2)
  obtain ⟨a1, a2⟩ := pickN_in s 4 (by omega)
  obtain ⟨b1, b2⟩ := pickN_in k 5 (by omega)
  obtain ⟨c1, c2⟩ := pickN_in m 65536 (by omega)
  have e1 : (512 : Int) * 2 ^ (pickN s 4).toNat = (sizeN s : Int) := by unfold sizeN; push_cast; rfl
  have e2 : (1 : Int) + pickN k 5 = (kindN k : Int) := by unfold kindN; omega
  have e3 : pickN m 65536 = (numN m : Int) := by unfold numN; omega
  obtain ⟨g1, g2⟩ := Page.sized_512 (sizeN_sized s)
  have k1 : kindN k ≤ 5 := by omega
  have k2 : numN m < 65536 := by omega
  rw [e3] at P3
  generalize pickN s 4 = ps at *
  generalize pickN k 5 = pk at *
  generalize sizeN s = S at *
  generalize kindN k = KK at *
  generalize numN m = NN at *
  have wS : IntKind.i64.wrap ((512 : Int) * 2 ^ ps.toNat) = (S : Int) := by rw [e1, IntKind.wrap_i64]; omega
  go_enter Try.func32, Try.ntmps32
  go_wp2_with fail
  refine (P1.out _).mono ?_
  rintro e w' ⟨rfl, rfl⟩
  go_wp2_with fail
  have k0 : Blk ((w.alloc (.cells #[.int .i64 k, .int .i64 m, .int .u64 g] 39)).alloc (.cells #[.int .i64 0, .int .i64 0, .int .u64 0] 39)) w.heap.size 39 #[.int .i64 k, .int .i64 m, .int .u64 g] := (Blk.new _ _ _).alloc _
  have z0 : Blk ((w.alloc (.cells #[.int .i64 k, .int .i64 m, .int .u64 g] 39)).alloc (.cells #[.int .i64 0, .int .i64 0, .int .u64 0] 39)) (w.heap.size + 1) 39 #[.int .i64 0, .int .i64 0, .int .u64 0] := Blk.new_at (by simp)
  have b0 := ((Below.refl w.heap.size w).alloc (Nat.le_refl _) (.cells #[.int .i64 k, .int .i64 m, .int .u64 g] 39)).alloc (by simp) (.cells #[.int .i64 0, .int .i64 0, .int .u64 0] 39)
  generalize World.alloc _ _ = W at k0 z0 b0 ⊢
  have f0 := k0.cell 0
  have f1 := k0.cell 1
  have f0z := k0.free 0
  have f1z := k0.free 1
  have KK0 := Lib.hid (And.intro k0 (And.intro z0 b0))
  clear k0 z0 b0
  refine (P2.out _).mono ?_
  rintro e w' ⟨rfl, rfl⟩
  go_wp2_with fail
  refine (P3.out _).mono ?_
  rintro e w' ⟨rfl, rfl⟩
  go_wp2_with fail
  have k1 := (KK0.out.1.put 0 (.int .i64 (KK : Int))).put 1 (.int .i64 (NN : Int))
  have z1 := (KK0.out.2.1.far (p := ⟨w.heap.size, 0, none⟩) (by simp) (.int .i64 (KK : Int))).far (p := ⟨w.heap.size, 1, none⟩) (by simp) (.int .i64 (NN : Int))
  have bb := (KK0.out.2.2.setCell (p := ⟨w.heap.size, 0, none⟩) (by simp) (.int .i64 (KK : Int))).setCell (p := ⟨w.heap.size, 1, none⟩) (by simp) (.int .i64 (NN : Int))
  have K2 := Lib.hid (And.intro k1 (And.intro z1 bb))
  clear k1 z1 bb KK0 f0 f1 f0z f1z
  generalize World.setCell _ _ _ = W2 at K2 ⊢
  refine wp_region_held_drew (S := fun W' => Blk W' w.heap.size 39 #[.int .i64 (KK : Int), .int .i64 (NN : Int), .int .u64 g]) (by kernel_rfl) (by exact K2.out.1) (fun hHeld => ?_)
  change wpAnyH _ _ _ _ _ _ _ _ W2.drew
  refine takeTo (i := 0) (v := ?_) (some 22) rfl rfl (by kernel_rfl) (by kernel_rfl) (by kernel_rfl) (fun _ _ _ h => h) (Or.inl ⟨by rfl, ?_⟩) (by assumption) ?_
  rotate_left
  · (intro W7 hSw; go_simp; try with_reducible rfl)
  try simp only [Act.put, List.setIfInBounds_toArray, List.set_cons_zero, List.set_cons_succ]
  refine takeTo (i := 1) (v := .agg #[.int .i64 (KK : Int), .int .i64 (NN : Int), .int .u64 g]) (some 23) rfl rfl (by kernel_rfl) (by kernel_rfl) (by kernel_rfl) (fun _ _ _ h => h) (Or.inl ⟨by rfl, fun W7 hSw => exec39 (.tmp 4) rfl rfl hSw⟩) (by assumption) ?_
  try simp only [Act.put, List.setIfInBounds_toArray, List.set_cons_zero, List.set_cons_succ]
  refine takeTo (i := 2) (v := ?_) (some 24) rfl rfl (by kernel_rfl) (by kernel_rfl) (by kernel_rfl) (fun _ _ _ h => h) (Or.inl ⟨by rfl, ?_⟩) (by assumption) ?_
  rotate_left
  · (intro W7 hSw; go_simp; try with_reducible rfl)
  try simp only [Act.put, List.setIfInBounds_toArray, List.set_cons_zero, List.set_cons_succ]
  refine takeTo (i := 3) (v := ?_) (some 25) rfl rfl (by kernel_rfl) (by kernel_rfl) (by kernel_rfl) (fun _ _ _ h => h) (Or.inl ⟨by rfl, ?_⟩) (by assumption) ?_
  rotate_left
  · (intro W7 hSw; go_simp; try with_reducible rfl)
  try simp only [Act.put, List.setIfInBounds_toArray, List.set_cons_zero, List.set_cons_succ]
  refine takeTo (i := 4) (v := ?_) (some 26) rfl rfl (by kernel_rfl) (by kernel_rfl) (by kernel_rfl) (fun _ _ _ h => h) (Or.inl ⟨by rfl, ?_⟩) (by assumption) ?_
  rotate_left
  · (intro W7 hSw; go_simp; try with_reducible rfl)
  try simp only [Act.put, List.setIfInBounds_toArray, List.set_cons_zero, List.set_cons_succ]
  refine takeTo (i := 5) (v := ?_) (some 27) rfl rfl (by kernel_rfl) (by kernel_rfl) (by kernel_rfl) (fun _ _ _ h => h) (Or.inl ⟨by rfl, ?_⟩) (by assumption) ?_
  rotate_left
  · (intro W7 hSw; go_simp; try with_reducible rfl)
  try simp only [Act.put, List.setIfInBounds_toArray, List.set_cons_zero, List.set_cons_succ]
  refine takeTo (i := 6) (v := ?_) (some 28) rfl rfl (by kernel_rfl) (by kernel_rfl) (by kernel_rfl) (fun _ _ _ h => h) (Or.inl ⟨by rfl, ?_⟩) (by assumption) ?_
  rotate_left
  · (intro W7 hSw; go_simp; try with_reducible rfl)
  try simp only [Act.put, List.setIfInBounds_toArray, List.set_cons_zero, List.set_cons_succ]
  refine takeTo (i := 7) (v := ?_) (some 29) rfl rfl (by kernel_rfl) (by kernel_rfl) (by kernel_rfl) (fun _ _ _ h => h) (Or.inl ⟨by rfl, ?_⟩) (by assumption) ?_
  rotate_left
  · (intro W7 hSw; go_simp; try with_reducible rfl)
  try simp only [Act.put, List.setIfInBounds_toArray, List.set_cons_zero, List.set_cons_succ]
  have wS32 : IntKind.i64.wrap ((S : Int) - 32) = (S : Int) - 32 := by rw [IntKind.wrap_i64]; omega
  obtain ⟨M, hM⟩ : ∃ M, M = min n (S - 32) := ⟨_, rfl⟩
  have hMi : (if (S : Int) - 32 < (n : Int) then (S : Int) - 32 else (n : Int)) = (M : Int) := by split <;> omega
  have hM1 : (M : Int) ≤ (c : Int) := by omega
  rw [wS32, hMi]
  have HM := Lib.hid hM
  have hM2 : M ≤ c := by omega
  clear hM hMi
  refine takeTo (i := 8) (v := ?_) (some 30) rfl rfl (by kernel_rfl) (by kernel_rfl) (by kernel_rfl) (fun _ _ _ h => h) (Or.inl ⟨by rfl, ?_⟩) (by assumption) ?_
  rotate_left
  · (intro W7 hSw; go_simp; try with_reducible rfl)
  try simp only [Act.put, List.setIfInBounds_toArray, List.set_cons_zero, List.set_cons_succ]
  refine wpAnyH_ready (rs := [9]) (by kernel_rfl) (by simp) ?_
  refine AllReadyH.cons rfl (fun K hK => ?_) AllReadyH.nil
  rw [if_pos (by rfl)]
  go_wp2_with fail
  refine hK.out _ _ hHeld (fun hHeld2 => ?_)
  clear hK K hHeld2
  try simp only [Act.put, List.setIfInBounds_toArray, List.set_cons_zero, List.set_cons_succ]
  refine wpAnyH_ready (rs := [10]) (by kernel_rfl) (by simp) ?_
  refine AllReadyH.cons rfl (fun K hK => ?_) AllReadyH.nil
  rw [if_pos (by rfl)]
  refine wp_store_row 39 (.tmp 7) (.tmp 23) rfl (w.heap.size + 1) #[.int .i64 (KK : Int), .int .i64 (NN : Int), .int .u64 g] rfl rfl 39 _ K2.out.2.1 (by rw [info39]; rfl) rfl (by kernel_rfl) ?_
  have H6 := Lib.hid (Blk.farRow (w := W2.drew) (g' := w.heap.size + 1) hHeld (by omega) #[.int .i64 (KK : Int), .int .i64 (NN : Int), .int .u64 g])
  refine hK.out _ _ H6.out (fun hHeld => ?_)
  clear hK K hHeld
  try simp only [Act.put, List.setIfInBounds_toArray]
  refine wpAnyH_ready (rs := [11]) (by kernel_rfl) (by simp) ?_
  refine AllReadyH.cons rfl (fun K hK => ?_) AllReadyH.nil
  rw [if_pos (by rfl)]
  go_wp2_with fail
  refine hK.out _ _ H6.out (fun hHeld => ?_)
  clear hK K hHeld
  try simp only [Act.put, List.setIfInBounds_toArray, List.set_cons_zero, List.set_cons_succ]
  refine wpAnyH_done (by kernel_rfl) ?_ _
  go_wp2_with fail
  have bb := Lib.hid (Below.row K2.out.2.2.drew (g := w.heap.size + 1) (by omega) #[.int .i64 (KK : Int), .int .i64 (NN : Int), .int .u64 g])
  exact bodyPost_ret (results_tcu rfl _ _ (w.heap.size + 1) _ rfl (load39 (Blk.row (w := W2.drew) K2.out.2.1 _))) rfl ⟨by rw [← HM.out]; rfl, bb.out⟩
end Go.Proofs.Ytofhdehigfdmkaa
