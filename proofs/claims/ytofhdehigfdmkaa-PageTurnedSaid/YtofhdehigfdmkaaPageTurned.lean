/- PageTurned: for every input the call returns true and every argument reads as it did. -/
import Derived.Test.YtofhdehigfdmkaaL
import Derived.Test.YtofhdehigfdmkaaZ
namespace Go.Proofs.Ytofhdehigfdmkaa.pageTurned
open Go.ChangeShapes Go.WideShapes Go.ChangeAt Go.RowKit

theorem turned (A : Option Addr) (c : Nat) (s k m at_ r : Int) (g : BitVec 64) (l : List UInt8) (W : World) (w2 : Rd W W.heap.size A l) (k2 : l.length ≤ c) (m2 : l.length ≤ maxLen) (w0 : (Lit.int .i64 s).wf = true) (u0 : (Lit.int .i64 k).wf = true) (u1 : (Lit.int .i64 m).wf = true) (w3 : (Lit.int .i64 at_).wf = true) (w4 : (Lit.int .u64 r).wf = true) :
    Calls Try.prog 14 #[.int .i64 s, .agg #[.int .i64 k, .int .i64 m, .int .u64 (g.toNat : Int)], .slice A l.length c, .int .i64 at_, .int .u64 r] W fun e W' => e = .returned (.bool true) ∧ Below W.heap.size W W' := by
  obtain ⟨x, rfl⟩ := word_of r w4
  exact pageTurned_walk A c s k m at_ g.toNat x l W w2 k2 m2 ⟨i64_ge _ w0, i64_le _ w0⟩ ⟨i64_ge _ u0, i64_le _ u0⟩ ⟨i64_ge _ u1, i64_le _ u1⟩ ⟨i64_ge _ w3, i64_le _ w3⟩ g.isLt

/-- what the walk gives, for every argument -/
theorem contract (H : Type) (enc : TypeId × Value → H) (W : World) (base : Nat) (args : Array Value) (ds gs : List (DataW H)) (before : List MemPlace)
    (hval0 : ∀ (j : Nat) t v, Try.f14.params[j]? = some t → args[j]? = some v → Value.okWide Try.prog W .any base t v)
    (hW : DataW.Whole enc Try.prog Try.f14.params.toList Rows.pageTurnedSpec.vars false W args.toList ds gs before) :
    Calls Try.prog 14 args W fun e W' => ∃ v, e = .returned v ∧ Rows.pageTurnedSpec.post enc Try.prog Try.f14 false true false false W args v W' := by
  have hW' := hW
  obtain ⟨p, q, hA0, hV, rfl, hfz, hnd⟩ := hW
  have hA : DataW.TrodAll enc Try.prog W 0 (fun _ => true) true Try.f14.params.toList args.toList ds p := hA0
  have hval := hval0
  rw [Try.params14] at hA hval
  obtain ⟨v0, vs0, d0, ds0, p0, q0, hargs, rfl, rfl, h0, r0⟩ := trodAll_cons hA
  obtain ⟨v1, vs1, d1, ds1, p1, q1, rfl, rfl, rfl, h1, r1⟩ := trodAll_cons r0
  obtain ⟨v2, vs2, d2, ds2, p2, q2, rfl, rfl, rfl, h2, r2⟩ := trodAll_cons r1
  obtain ⟨v3, vs3, d3, ds3, p3, q3, rfl, rfl, rfl, h3, r3⟩ := trodAll_cons r2
  obtain ⟨v4, vs4, d4, ds4, p4, q4, rfl, rfl, rfl, h4, r4⟩ := trodAll_cons r3
  obtain ⟨rfl, rfl, rfl⟩ := trodAll_nil r4
  obtain rfl : args = #[v0, v1, v2, v3, v4] := by cases args; simp_all
  obtain ⟨rfl, rfl⟩ := trodVars_none hV
  obtain ⟨a0, rfl, rfl, rfl, w0⟩ := open_int Try.underlying3 (hval 0 3 v0 rfl rfl) h0
  obtain ⟨x0, x1, x2, y0, y1, y2, n, rfl, rfl, rfl, t0, t1, t2⟩ := Go.Joins.open_agg3 Try.underlying39 (by kernel_rfl) (by kernel_rfl) (hval 1 39 v1 rfl rfl) h1
  obtain ⟨b0, rfl, u0⟩ := trod_num Try.underlying37 t0
  obtain ⟨b1, rfl, u1⟩ := trod_num Try.underlying3 t1
  obtain ⟨b2, rfl, u2⟩ := trod_num Try.underlying23 t2
  obtain ⟨gx, rfl⟩ := word_of b2 u2
  obtain ⟨A2, c2, l2, rfl, w2, m2, k2, n2, b2⟩ := open_bytes (hval 2 22 v2 rfl rfl) h2
  obtain ⟨a3, rfl, rfl, rfl, w3⟩ := open_int Try.underlying3 (hval 3 3 v3 rfl rfl) h3
  obtain ⟨a4, rfl, rfl, rfl, w4⟩ := open_int Try.underlying23 (hval 4 23 v4 rfl rfl) h4
  refine (turned A2 c2 a0 b0 b1 a3 a4 gx l2 W w2 k2 m2 w0 u0 u1 w3 w4).mono fun e W' ⟨he, hb⟩ => ?_
  subst he
  exact ⟨_, rfl, post_true (by kernel_rfl) rfl rfl hW' rfl hb⟩

set_option maxRecDepth 100000 in
theorem lifted (os : Os) (started : os.Started) (H : Type) (enc : TypeId × Value → H) :
    ReturnsInHanded {} Try.checked os 14 .any (Rows.pageTurnedSpec.pre6 enc Try.prog Try.f14 Rows.pageTurnedRow.domain false) (Rows.pageTurnedSpec.post enc Try.prog Try.f14 false true false false) := by
  refine returnsInHanded_of_change (C := Try.checked) own started (by kernel_rfl) Try.func14
    (ChangeSpec.witness6 (enc := enc) (C := Try.checked) false ⟨#[], #[.int .i64 0, .agg #[.int .i64 0, .int .i64 0, .int .u64 0], .slice none 0 0, .int .i64 0, .int .u64 0], []⟩ 8 (by kernel_rfl) (by kernel_rfl) (by kernel_rfl) (by kernel_rfl)) ?_
  intro W base args ds gs before hval hW _ _
  exact contract H enc W base args ds gs before hval hW

/-- the statement -/
theorem proved : Rows.PageTurnedSaid :=
  OpenClaim.holds_of_wide 14 Try.f14 rfl rfl rfl rfl rfl rfl rfl ⟨rfl, rfl, rfl, rfl, rfl⟩ rfl rfl rfl rfl rfl (by kernel_rfl) Try.func14 (by kernel_rfl)
    (of_decide_eq_true (by kernel_rfl)) (by unfold Func.isWrapper; first | (rw [if_pos (by decide +kernel)]; kernel_rfl) | (rw [if_neg (by decide +kernel)]; exact ⟨rfl, rfl⟩))
    (fun os started H enc _ => lifted os started H enc)
#print axioms proved
end Go.Proofs.Ytofhdehigfdmkaa.pageTurned
