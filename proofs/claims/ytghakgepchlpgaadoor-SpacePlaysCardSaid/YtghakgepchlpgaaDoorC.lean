/- WALK of package space: Alloc. -/
import Derived.Test.YtghakgepchlpgaaDoorB
import Derived.Deep.Cut
namespace Go.Proofs.YtghakgepchlpgaaDoor
open Go.RowKit Spc

theorem ctz_bits (x : Nat) (h0 : x ≠ 0) (h : x < 2 ^ 64) : Lib.ctz 64 x < 64 ∧ x.testBit (Lib.ctz 64 x) = true ∧ ∀ j, j < Lib.ctz 64 x → x.testBit j = false := by
  obtain ⟨m, hm, hk⟩ := Lib.ctzFrom_spec 64 x (by omega) h
  have e : Lib.ctz 64 x = Lib.ctzFrom 64 x := by simp [Lib.ctz, h0]
  rw [e]
  refine ⟨hk, ?_, fun j hj => ?_⟩
  · rw [show x.testBit (Lib.ctzFrom 64 x) = (2 ^ Lib.ctzFrom 64 x * (2 * m + 1)).testBit (Lib.ctzFrom 64 x) by rw [← hm], Nat.testBit_two_pow_mul]
    simp
  · rw [show x.testBit j = (2 ^ Lib.ctzFrom 64 x * (2 * m + 1)).testBit j by rw [← hm], Nat.testBit_two_pow_mul]
    have : ¬ j ≥ Lib.ctzFrom 64 x := by omega
    simp [this]
theorem w_not (a : BitVec 64) : bits .xor .u64 IntKind.u64.max (a.toNat : Int) = ((~~~ a).toNat : Int) := by
  rw [show IntKind.u64.max = (((18446744073709551615 : Nat) : Int)) from rfl, u64_xor_nat _ _ (by decide) a.isLt, BitVec.toNat_not]
  congr 1
  have h := a.isLt
  apply Nat.eq_of_testBit_eq
  intro i
  rw [Nat.testBit_xor]
  by_cases hi : i < 64
  · rw [show (18446744073709551615 : Nat) = 2 ^ 64 - 1 from rfl, Nat.testBit_two_pow_sub_one, show 2 ^ 64 - 1 - a.toNat = 2 ^ 64 - (a.toNat + 1) by omega, Nat.testBit_two_pow_sub_succ h]
    simp [hi]
  · rw [Nat.testBit_lt_two_pow (show (18446744073709551615 : Nat) < 2 ^ i from Nat.lt_of_lt_of_le (by decide) (Nat.pow_le_pow_right (by decide) (by omega : 64 ≤ i))),
      Nat.testBit_lt_two_pow (show a.toNat < 2 ^ i from Nat.lt_of_lt_of_le h (Nat.pow_le_pow_right (by decide) (by omega : 64 ≤ i))),
      Nat.testBit_lt_two_pow (show 2 ^ 64 - 1 - a.toNat < 2 ^ i from Nat.lt_of_lt_of_le (by omega : 2 ^ 64 - 1 - a.toNat < 2 ^ 64) (Nat.pow_le_pow_right (by decide) (by omega : 64 ≤ i)))]
    rfl
/-- what a word tells: all 64 are used, or the first free one -/
theorem word_free (ws : Nat → BitVec 64) (k : Nat) : ((~~~ ws k).toNat = 0 → ∀ j, j < 64 → bit ws (64 * k + j) = true) ∧
    ((~~~ ws k).toNat ≠ 0 → bit ws (64 * k + Lib.ctz 64 (~~~ ws k).toNat) = false ∧ ∀ j, j < Lib.ctz 64 (~~~ ws k).toNat → bit ws (64 * k + j) = true) := by
  have hb : ∀ j, j < 64 → bit ws (64 * k + j) = !((~~~ ws k).toNat.testBit j) := by
    intro j hj
    unfold bit
    rw [show (64 * k + j) / 64 = k by omega, show (64 * k + j) % 64 = j by omega, BitVec.testBit_toNat, BitVec.getLsbD_not]
    simp [hj]
  refine ⟨fun h j hj => by rw [hb j hj, h]; simp, fun h => ?_⟩
  obtain ⟨h1, h2, h3⟩ := ctz_bits _ h (~~~ ws k).isLt
  exact ⟨by rw [hb _ h1, h2]; rfl, fun j hj => by rw [hb _ (by omega), h3 j hj]; rfl⟩
theorem wp_index {P : Program} {o : Oper} {a : Act} {w : World} {K : Act → World → Prop} {Q : Exit → Act → World → Prop} (t : TypeId) (x i : Operand) (ho : o.op = .index t x i)
    (cs iv : Value) (hx : a.eval x = cs) (hi : a.eval i = iv) (v : Value) (hr : (Instr.index t cs iv).run P w = .ok v w) (h : K (a.put o.dst v) w) : o.wp P a w K Q := by
  unfold Oper.wp execOp
  simp only [ho, hx, hi, Sem.run_bind, Sem.run_pure, Result.andThen_ok, hr]
  exact h
theorem wpList_index {P : Program} {ops : Array Oper} {rest : List Oper} {o : Oper} {a : Act} {w : World} {Q : Exit → Act → World → Prop} (hgd : o.guard = none) (t : TypeId) (x i : Operand) (ho : o.op = .index t x i)
    (cs iv : Value) (hx : a.eval x = cs) (hi : a.eval i = iv) (v : Value) (hr : (Instr.index t cs iv).run P w = .ok v w) (h : wpList P ops Q rest (a.put o.dst v) w) : wpList P ops Q (o :: rest) a w :=
  wpList_plain hgd fun _ hK => wp_index t x i ho cs iv hx hi v hr (hK _ _ h)
def Free (f : Nat → Bool) (N k : Nat) : Prop := ∀ n, n < 64 * k → n < N → f n = true
set_option maxHeartbeats 1000000 in
theorem alloc_any (g N : Nat) (f : Nat → Bool) (w : World) (h : Sp w g N f) (hT : Tab w) :
    Calls Tryd.prog 10 #[.pointer (some ⟨g, 0, none⟩)] w fun e w' => (∃ n, Least f N n ∧ e = .returned (.tuple #[.int .i64 (n : Int), .int .i64 0]) ∧ Sp w' g N (upd f n true) ∧ Kept (fun b => b = g) w w') ∨
      ((∀ n, n < N → f n = true) ∧ e = .returned (.tuple #[.int .i64 0, .int .i64 2]) ∧ w = w') := by
  have H0 := Lib.hid h
  have c0 : w.cell? ⟨g, 0, none⟩ = some (.int .i64 (N : Int)) := by obtain ⟨ws, h1, _⟩ := h; rw [h1.cell, spA_0]
  obtain ⟨ws, h1, h2, h3, h4, h5⟩ := h
  obtain ⟨L, cs, hLc, hcs, hl⟩ : ∃ (L : List Value) (cs : Array Value), L.toArray = cs ∧ (∀ k, k < 1024 → cs[k]? = some (.int .u64 ((ws k).toNat : Int))) ∧ w.rangeAt g 2 L ∧ L.length = 1024 := by
    refine ⟨(List.range 1024).map fun k => Value.int .u64 ((ws k).toNat : Int), _, rfl, fun k hk => by simp [hk], ?_, by simp⟩
    · intro j v hv
      have hj : j < 1024 := by have := (List.getElem?_eq_some_iff.1 hv).1; simpa using this
      rw [h1.cell, spA_w _ _ _ _ hj]
      simpa [hj] using hv
  have hsz : (Tryd.prog.info? 60).map (·.size) = some L.length := by rw [hl.2]; kernel_rfl
  have HL := Lib.hid (And.intro hl.1 hsz)
  clear hl hsz
  have HC := Lib.hid (And.intro hcs h2)
  clear hcs h1 h2 h3
  go_enter Tryd.func10, Tryd.ntmps10
  go_upto_region 1 with fail
  iterate 10 go_step
  refine wpList_load_mid rfl 60 (.tmp 9) rfl g 2 rfl L (.array 1024 58) HL.out.1 Tryd.underlying60 rfl HL.out.2 ?_
  rw [hLc]
  clear HL hLc
  try simp only [Act.put, List.setIfInBounds_toArray, List.set_cons_zero, List.set_cons_succ]
  go_wp2_with fail
  go_loopw [11] (fun iv wr => ∃ k : Nat, k ≤ 1024 ∧ iv = .int .i64 k ∧ wr = w ∧ Free f N k) (fun iv _ => 1024 - (intOf iv).toNat)
  case atStart => exact ⟨0, by omega, rfl, rfl, fun n hn => by omega⟩
  case round =>
    obtain ⟨k, hk, rfl, rfl, hfree⟩ := hrel
    by_cases hlt : k < 1024
    · have HF := Lib.hid hfree
      clear hfree
      have hix : (Instr.index 60 (.agg cs) (.int .i64 (k : Int))).run Tryd.prog wr = .ok (.int .u64 ((ws k).toNat : Int)) wr := by
        have := HC.out.1 k hlt
        simp [Instr.index, run_underlying Tryd.underlying60, asIntOf, go_sem, hlt, this]
      have wf := Lib.hid (word_free ws k)
      obtain ⟨x, hx⟩ : ∃ x, x = (ws k).toNat := ⟨_, rfl⟩
      obtain ⟨y, hy⟩ : ∃ y, y = (~~~ ws k).toNat := ⟨_, rfl⟩
      have hxy : bits .xor .u64 IntKind.u64.max (x : Int) = (y : Int) := by rw [hx, hy]; exact w_not _
      have hylt : y < 18446744073709551616 := by rw [hy]; exact (~~~ ws k).isLt
      rw [← hx] at hix
      have HY := Lib.hid hy
      clear hx hy
      have hd : decide ((k : Int) < 1024) = true := by simp; omega
      go_upto_region 3 with fail
      iterate 4 go_step
      refine wpList_index rfl 60 (.tmp 10) (.tmp 11) rfl (.agg cs) (.int .i64 (k : Int)) rfl rfl _ hix ?_
      try simp only [Act.put, List.setIfInBounds_toArray, List.set_cons_zero, List.set_cons_succ]
      clear hix
      have hxy2 : bits .xor .u64 (if IntKind.u64.signed = true then -1 else IntKind.u64.max) (x : Int) = (y : Int) := hxy
      by_cases hy0 : y = 0
      · obtain rfl := hy0
        have hxy3 : (bits .xor .u64 (if IntKind.u64.signed = true then -1 else IntKind.u64.max) (x : Int)) = 0 := hxy
        have ht := Lib.hid (tz_zero wr)
        clear hxy hxy2 hylt
        go_wp2_with (go_at_call 28; refine ht.out.mono ?_; rintro e w1 ⟨rfl, rfl⟩)
        refine ⟨⟨k + 1, by omega, by congr 1, trivial, fun n hn hN => ?_⟩, by simp [intOf]; omega⟩
        by_cases h1 : n < 64 * k
        · exact HF.out n h1 hN
        · have := wf.out.1 HY.out.symm (n - 64 * k) (by omega)
          rw [← HC.out.2 n (by omega), ← this]; exact congrArg (bit ws) (by omega)
      have ht := Lib.hid (tz_any y hylt wr hT hy0)
      obtain ⟨t, hht⟩ : ∃ t, t = Lib.ctz 64 y := ⟨_, rfl⟩
      rw [← hht] at ht
      have ht64 : t < 64 := by rw [hht, HY.out]; exact (ctz_bits _ (by rw [← HY.out]; exact hy0) (~~~ ws k).isLt).1
      have HTT : Hid (bit ws (64 * k + t) = false ∧ ∀ j, j < t → bit ws (64 * k + j) = true) := Lib.hid (by rw [hht, HY.out]; exact wf.out.2 (by rw [← HY.out]; exact hy0))
      have hyb : ((y : Int) != 0) = true := by simp; omega
      have hyc : ((y : Int) == 0) = false := by simp; omega
      have hwr : wrap64 (64 * (k : Int) + (t : Int)) = 64 * (k : Int) + (t : Int) := by unfold wrap64; omega
      have hwr2 : IntKind.i64.wrap (64 * (k : Int) + (t : Int)) = 64 * (k : Int) + (t : Int) := by rw [IntKind.wrap_i64]; omega
      clear hht hxy hylt wf
      by_cases hn : 64 * k + t < N
      · have hd1 : decide (64 * (k : Int) + (t : Int) < (N : Int)) = true := by simp; omega
        have hd2 : decide (64 * k + t < N) = true := by simp; omega
        have hff : f (64 * k + t) = false := by rw [← HC.out.2 _ (by omega)]; exact HTT.out.1
        have hs := set_any g N (64 * k + t) f wr H0.out hn hff
        rw [show ((64 * k + t : Nat) : Int) = 64 * (k : Int) + (t : Int) by omega] at hs
        have HS := Lib.hid hs
        have HFF := Lib.hid hff
        clear hs hff
        go_wp2_with (first
          | (go_at_call 28; refine ht.out.mono ?_; rintro e w1 ⟨rfl, rfl⟩)
          | (go_at_call 27; refine HS.out.mono ?_; rintro e w1 ⟨rfl, s1, k1⟩; have S1 := Lib.hid s1; have K1 := Lib.hid k1; clear s1 k1))
        go_ret2
        refine .inl ⟨64 * k + t, ⟨hn, HFF.out, fun n hlt2 => ?_⟩, ?_, S1.out, K1.out⟩
        · by_cases h1 : n < 64 * k
          · exact HF.out n h1 (by omega)
          · have := HTT.out.2 (n - 64 * k) (by omega)
            rw [← HC.out.2 n (by omega), ← this]; exact congrArg (bit ws) (by omega)
        · congr 3
      · have hd1 : decide (64 * (k : Int) + (t : Int) < (N : Int)) = false := by simp; omega
        have hd2 : decide (64 * k + t < N) = false := by simp; omega
        go_wp2_with (go_at_call 28; refine ht.out.mono ?_; rintro e w1 ⟨rfl, rfl⟩)
        refine ⟨⟨k + 1, by omega, by congr 1, trivial, fun n hn hN => ?_⟩, by simp [intOf]; omega⟩
        by_cases h1 : n < 64 * k
        · exact HF.out n h1 hN
        · have := HTT.out.2 (n - 64 * k) (by omega)
          rw [← HC.out.2 n (by omega), ← this]; exact congrArg (bit ws) (by omega)
    · obtain rfl : k = 1024 := by omega
      have HF := Lib.hid hfree
      clear hfree
      go_wp2_with fail
      go_ret2
      exact .inr ⟨fun n hn => HF.out n (by omega) hn, rfl, rfl⟩
end Go.Proofs.YtghakgepchlpgaaDoor
