/- THE WALK OF page.head. -/
import Derived.Test.YtofhdehigfdmkaaR
import Derived.Test.YtofhdehigfdmkaaY
import Derived.BigQuiet
import Derived.Deep.QuietTactic
import Derived.Deep.RegionHeld3
import Derived.Deep.CutRange
import Derived.RegionCalls
import Derived.Great.BuildSlice
namespace Go.Proofs.Ytofhdehigfdmkaa
open Go.RowKit

theorem info39 : (Try.prog.info? 39).map (·.size) = some 3 := by kernel_rfl
/-- a struct in a cell of its own, and two plain results -/
theorem results_cell_two {fn : Func} {p t u : Tmp} {ty : TypeId} (h : fn.results = #[.cell p ty, .tmp t, .tmp u]) (tmps : Array Value) (w : World) (g : Nat) (cs : Array Value)
    (hp : tmps.getD p undef = .pointer (some ⟨g, 0, none⟩)) (hl : (loadVar ty ⟨g, 0, none⟩).run Try.prog w = .ok (.agg cs) w) :
    (results fn tmps).run Try.prog w = .ok (.tuple #[.agg cs, tmps.getD t undef, tmps.getD u undef]) w := by
  have hp' : tmps[p]?.getD undef = .pointer (some ⟨g, 0, none⟩) := by simpa using hp
  simp [results, h, hp', asAddr, hl]
theorem load39 {w : World} {g : Nat} {a b c : Value} (h : Blk w g 39 #[a, b, c]) : (loadVar 39 ⟨g, 0, none⟩).run Try.prog w = .ok (.agg #[a, b, c]) w :=
  run_loadVar_row w g 39 39 _ (0, 0) _ h Try.underlying39 rfl (by rw [info39]; rfl)

theorem below_drewN {B : Nat} {a w : World} (h : Below B a w) (n : Nat) : Below B a (w.drewN n) := ⟨h.os, h.tape, h.output, h.size, h.block⟩
theorem quiet_get {f : FuncId} {args : Array Value} {w : World} {n : Nat} {v : Value}
    (h : Calls Try.prog f args (w.drewN n) fun e w' => e = .returned v ∧ w.drewN n = w') : Calls Try.prog f args (w.drewN n) fun e w'' => e = .returned v ∧ ∃ m, w'' = w.drewN m :=
  h.mono fun _ _ ⟨he, hm⟩ => ⟨he, n, hm.symm⟩

/-- copy into a block of whatever type -/
theorem wpList_copy_into {w : World} {ops : Array Oper} {rest : List Oper} {o : Oper} {a : Act} {Q : Exit → Act → World → Prop} (hgd : o.guard = none) (d s : Operand)
    (ho : o.op = .call { callee := .builtin .copy, args := #[d, s], argTypes := #[22, 22] }) (t : TypeId)
    (g off dLen dCap N : Nat) (f : Nat → Value) (b so c : Nat) (l : List UInt8) (hd : a.eval d = .slice (some ⟨g, off, none⟩) dLen dCap) (hs : a.eval s = .slice (some ⟨b, so, none⟩) l.length c)
    (hg : Blk w g t (arr N f)) (hc : ∀ k, k < l.length → w.cell? ⟨b, so + k, none⟩ = some (.int .u8 ((l.getD k 0).toNat : Int))) (hl : l.length ≤ dLen) (hfit : off + l.length ≤ N)
    (h : ∀ w', Blk w' g t (arr N (overF f off l)) → w.grownBy w' (some g) → wpList Try.prog ops Q rest (a.put o.dst (goInt l.length)) w') : wpList Try.prog ops Q (o :: rest) a w := by
  have hmin : Nat.min l.length dLen = l.length := Nat.min_eq_left hl
  refine wpList_plain hgd fun K hK => ?_
  have hrun := run_copy_row (P := Try.prog) w 22 22 o.type 5 g off dLen dCap ⟨b, so, none⟩ l.length c (arr N f) t (l.map byteV) Try.underlying22 size5 hg (by simpa using hmin.symm)
    (fun j v hj => by
      have hj' : j < l.length := by
        have := (List.getElem?_eq_some_iff.1 hj).1
        simpa using this
      rw [Go.WideShapes.add_plain, hc j hj', ← bytes_get l j hj', hj]) (by simpa [arr_size] using hfit) (bytes_one l)
  rw [over_arr N f off l hfit] at hrun
  unfold Oper.wp
  simp [execOp, ho, resolve, invoke, builtin, hd, hs, hrun, Result.andThen]
  exact hK _ _ (h _ (Blk.row hg _) ⟨rfl, rfl, rfl, by simp [World.setRow], fun k _ hk => setRow_other w g k _ (fun e => hk (by rw [e]))⟩)
/-- the marks of a head that came in -/
def markF (l : List UInt8) (i : Nat) : Value := if i = 0 then .int .u8 ((l.getD 0 0).toNat : Int) else if i = 1 then .int .u8 ((l.getD 1 0).toNat : Int) else if i = 2 then .int .u8 ((l.getD 3 0).toNat : Int) else .int .u8 0
theorem marks_arr (l : List UInt8) : #[Value.int .u8 ((l.getD 0 0).toNat : Int), .int .u8 ((l.getD 1 0).toNat : Int), .int .u8 ((l.getD 3 0).toNat : Int), .int .u8 0, .int .u8 0, .int .u8 0, .int .u8 0] = arr 7 (markF l) := by
  refine arr_of 7 _ _ rfl fun i hi => ?_
  rcases (by omega : i = 0 ∨ i = 1 ∨ i = 2 ∨ i = 3 ∨ i = 4 ∨ i = 5 ∨ i = 6) with rfl | rfl | rfl | rfl | rfl | rfl | rfl <;> rfl
/-- the four bytes behind -/
def fourL (l : List UInt8) (o : Nat) : List UInt8 := (l.drop o).take 4
theorem marks_all (l : List UInt8) (h : 24 ≤ l.length) : arr 7 (overF (markF l) 3 (fourL l 20)) = #[Value.int .u8 ((l.getD 0 0).toNat : Int), .int .u8 ((l.getD 1 0).toNat : Int), .int .u8 ((l.getD 3 0).toNat : Int),
    .int .u8 ((l.getD 20 0).toNat : Int), .int .u8 ((l.getD 21 0).toNat : Int), .int .u8 ((l.getD 22 0).toNat : Int), .int .u8 ((l.getD 23 0).toNat : Int)] := by
  symm
  have hl : (fourL l 20).length = 4 := by simp [fourL]; omega
  refine arr_of 7 _ _ rfl fun i hi => ?_
  unfold overF
  rw [hl]
  have hg : ∀ j, j < 4 → (fourL l 20).getD j 0 = l.getD (20 + j) 0 := fun j hj => Page.part_getD l 20 4 j hj
  rcases (by omega : i = 0 ∨ i = 1 ∨ i = 2 ∨ i = 3 ∨ i = 4 ∨ i = 5 ∨ i = 6) with rfl | rfl | rfl | rfl | rfl | rfl | rfl
  · rfl
  · rfl
  · rfl
  · rw [if_pos (by omega), hg 0 (by omega)]; rfl
  · rw [if_pos (by omega), hg 1 (by omega)]; rfl
  · rw [if_pos (by omega), hg 2 (by omega)]; rfl
  · rw [if_pos (by omega), hg 3 (by omega)]; rfl

/-- what 'head' answers -/
def noHead : Value := .tuple #[.agg #[.int .i64 0, .int .i64 0, .int .u64 0], .int .i64 0, .bool false]
def yesHead (l : List UInt8) : Value := .tuple #[.agg #[.int .i64 (Page.kindOf l : Int), .int .i64 (Page.numOf l : Int), .int .u64 (Page.genOf l : Int)], .int .i64 (Page.longOf l : Int), .bool true]
open Classical in
noncomputable def headV (l : List UInt8) : Value := if Page.HeadOk l then yesHead l else noHead
theorem headV_no {l : List UInt8} (h : ¬ Page.HeadOk l) : headV l = noHead := if_neg h
theorem headV_yes {l : List UInt8} (h : Page.HeadOk l) : headV l = yesHead l := if_pos h
/-- an operation of a region taken first, its temporary by number -/
theorem takeTo {P : Program} {md : Region.Mode} {ops : Array Oper} {Q : Exit → Act → World → Prop} {S : World → Prop} {i : Nat} {oi : Oper} {v : Value} {fuel : Nat} {listed : Array Bool} {a : Act} {w : World} (d : Option Tmp) (hi : ops[i]? = some oi) (hd : oi.dst = d)
    (hs : Region.noSelect ops = true) (hf : Region.free md ops listed i = true) (hr : (Region.ready md ops listed).contains i = true)
    (hQ : ∀ c a w, Q (.panic c) (a.put d v) w → Q (.panic c) a w) (hy : YieldsIf P ops S oi v a) (hS : S w)
    (h : wpAnyH P md ops Q S fuel (listed.setIfInBounds i true) (a.put d v) w) : wpAnyH P md ops Q S (fuel + 1) listed a w := by
  subst hd
  exact wpAnyH_take hi hs hf hr hQ hy hS h
set_option maxHeartbeats 1000000 in
set_option maxRecDepth 100000 in
theorem head_any (b off c n : Nat) (l : List UInt8) (w : World) (hn : l.length = n) (hnc : n ≤ c) (hs : Page.Sized n) (hb : b < w.heap.size) (hcl : ∀ k, k < n → w.cell? ⟨b, off + k, none⟩ = some (.int .u8 ((l.getD k 0).toNat : Int))) :
    Calls Try.prog 54 #[.slice (some ⟨b, off, none⟩) n c] w fun e w' => e = .returned (headV l) ∧ Below w.heap.size w w' := by
  have HS := Lib.hid (sized_yes _ hs)
  have HSZ := Lib.hid hs
  have HRo' := Lib.hid (room_yes _ hs)
  obtain ⟨g1, g2⟩ := Page.sized_512 hs
  have HC := Lib.hid (show ∀ W : World, Below w.heap.size w W → ∀ k, k < n → W.cell? ⟨b, off + k, none⟩ = some (.int .u8 ((l.getD k 0).toNat : Int)) from fun W h k hk => (h.cell (p := ⟨b, off + k, none⟩) hb).trans (hcl k hk))
  have d0 := (HC.out w (Below.refl _ _) 0 (by omega))
  have d1 := (HC.out w (Below.refl _ _) 1 (by omega))
  have d3 := (HC.out w (Below.refl _ _) 3 (by omega))
  have a0 : (0 : Int) < (n : Int) := by omega
  have a1 : (1 : Int) < (n : Int) := by omega
  have a3 : (3 : Int) < (n : Int) := by omega
  have a4 : (4 : Int) ≤ (c : Int) := by omega
  have a8 : (8 : Int) ≤ (c : Int) := by omega
  have a16 : (16 : Int) ≤ (c : Int) := by omega
  have a20 : (20 : Int) ≤ (c : Int) := by omega
  have a24 : (24 : Int) ≤ (c : Int) := by omega
  have n4 : ¬ c = 4 := by omega
  have n8 : ¬ c = 8 := by omega
  have n16 : ¬ c = 16 := by omega
  have n20 : ¬ c = 20 := by omega
  have RG := Lib.hid (show ∀ W : World, Below w.heap.size w W → ∀ o m, o + m ≤ n → Rd W w.heap.size (some ⟨b, off + o, none⟩) ((l.drop o).take m) from fun W h o m hom =>
    .inr ⟨b, off + o, rfl, hb, fun k hk => by
      have hk' : k < m := by simp at hk; omega
      rw [Page.part_getD l o m k hk', ← HC.out W h (o + k) (by omega), Nat.add_assoc]⟩)
  have G4 := Lib.hid (fun (W : World) (h : Below w.heap.size w W) => get_any (some ⟨b, off + 4, none⟩) (c - 4) 4 w.heap.size ((l.drop 4).take 4) W (by simp; omega) (by omega) (RG.out W h 4 4 (by omega)))
  have G8 := Lib.hid (fun (W : World) (h : Below w.heap.size w W) => get_any (some ⟨b, off + 8, none⟩) (c - 8) 8 w.heap.size ((l.drop 8).take 8) W (by simp; omega) (by omega) (RG.out W h 8 8 (by omega)))
  have G16 := Lib.hid (fun (W : World) (h : Below w.heap.size w W) => get_any (some ⟨b, off + 16, none⟩) (c - 16) 4 w.heap.size ((l.drop 16).take 4) W (by simp; omega) (by omega) (RG.out W h 16 4 (by omega)))
  obtain ⟨num, hnum⟩ : ∃ x, x = Page.numOf l := ⟨_, rfl⟩
  obtain ⟨gen, hgen⟩ : ∃ x, x = Page.genOf l := ⟨_, rfl⟩
  obtain ⟨long, hlong⟩ : ∃ x, x = Page.longOf l := ⟨_, rfl⟩
  rw [show Page.toldN ((l.drop 4).take 4) = num from hnum.symm] at G4
  rw [show Page.toldN ((l.drop 8).take 8) = gen from hgen.symm] at G8
  rw [show Page.toldN ((l.drop 16).take 4) = long from hlong.symm] at G16
  have numlt : num < 4294967296 := by rw [hnum]; exact Page.numOf_lt l (by omega)
  have longlt : long < 4294967296 := by rw [hlong]; exact Page.longOf_lt l (by omega)
  have HF := Lib.hid (And.intro hnum (And.intro hgen hlong))
  clear hnum hgen hlong
  obtain ⟨b0, hb0⟩ : ∃ x, x = l.getD 0 0 := ⟨_, rfl⟩
  obtain ⟨b1, hb1⟩ : ∃ x, x = l.getD 1 0 := ⟨_, rfl⟩
  obtain ⟨b3, hb3⟩ : ∃ x, x = l.getD 3 0 := ⟨_, rfl⟩
  rw [← hb0] at d0
  rw [← hb1] at d1
  rw [← hb3] at d3
  have HB := Lib.hid (And.intro hb0 (And.intro hb1 hb3))
  clear hb0 hb1 hb3
  have HN := Lib.hid hn
  clear hn
  rw [Nat.add_zero] at d0
  clear hs hcl
  go_enter Try.func54, Try.ntmps54
  go_wp2_with (first | (go_at_call 45; refine (HS.out _).mono ?_; rintro e w' ⟨rfl, rfl⟩))
  go_region
  have k1 : Blk ((w.alloc (.cells #[.int .i64 0, .int .i64 0, .int .u64 0] 39)).alloc (.cells #[.int .u8 (b0.toNat : Int), .int .u8 (b1.toNat : Int), .int .u8 (b3.toNat : Int), .int .u8 0, .int .u8 0, .int .u8 0, .int .u8 0] 72)).drew (w.heap.size + 1) 72 _ := Blk.new_at (by simp)
  have k0 : Blk ((w.alloc (.cells #[.int .i64 0, .int .i64 0, .int .u64 0] 39)).alloc (.cells #[.int .u8 (b0.toNat : Int), .int .u8 (b1.toNat : Int), .int .u8 (b3.toNat : Int), .int .u8 0, .int .u8 0, .int .u8 0, .int .u8 0] 72)).drew w.heap.size 39 _ := (Blk.new w 39 _).alloc _
  have kb := (((Below.refl w.heap.size w).alloc (Nat.le_refl _) (.cells #[.int .i64 0, .int .i64 0, .int .u64 0] 39)).alloc (by simp) (.cells #[.int .u8 (b0.toNat : Int), .int .u8 (b1.toNat : Int), .int .u8 (b3.toNat : Int), .int .u8 0, .int .u8 0, .int .u8 0, .int .u8 0] 72)).drew
  have kz : w.heap.size + 2 = ((w.alloc (.cells #[.int .i64 0, .int .i64 0, .int .u64 0] 39)).alloc (.cells #[.int .u8 (b0.toNat : Int), .int .u8 (b1.toNat : Int), .int .u8 (b3.toNat : Int), .int .u8 0, .int .u8 0, .int .u8 0, .int .u8 0] 72)).drew.heap.size := by simp [World.drew]
  generalize World.drew _ = W at k0 k1 kb kz ⊢
  have K := Lib.hid (And.intro k0 (And.intro k1 (And.intro kb kz)))
  clear k0 k1 kb kz d0 d1 d3 
  go_wp2_with fail
  go_still_tail 4, (by kernel_rfl)
  change wpList _ _ _ _ _ W.drew
  have L4 : (fourL l 20).length = 4 := by simp [fourL]; have := HN.out; omega
  have KM := Lib.hid (show Blk W.drew (w.heap.size + 1) 72 (arr 7 (markF l)) by
    have h := K.out.2.1
    rw [HB.out.1, HB.out.2.1, HB.out.2.2, marks_arr] at h
    exact h)
  have KC := Lib.hid (show ∀ k, k < (fourL l 20).length → W.drew.cell? ⟨b, off + 20 + k, none⟩ = some (.int .u8 (((fourL l 20).getD k 0).toNat : Int)) from fun k hk => by
    rw [L4] at hk
    have := HC.out W K.out.2.2.1 (20 + k) (by omega)
    rw [fourL, Page.part_getD l 20 4 k hk, ← this, Nat.add_assoc]; rfl)
  refine wpList_copy_into rfl (.tmp 27) (.tmp 29) rfl 72 (w.heap.size + 1) 3 4 4 7 (markF l) b (off + 20) (c - 20) (fourL l 20) rfl (by rw [L4]; rfl) KM.out KC.out (by omega) (by omega) ?_
  intro w2 hm2 hg2
  rw [L4]
  have K2 := Lib.hid (And.intro (Blk.only (w := W.drew) (g := w.heap.size + 1) (g' := w.heap.size) K.out.1 hg2 (by omega)) (And.intro hm2 (Below.only (w := W.drew) K.out.2.2.1.drew hg2 (by omega) K.out.2.2.1.size)))
  have Z2 := Lib.hid (show w.heap.size + 2 ≤ w2.heap.size by exact (K.out.2.2.2 ▸ hg2.size : w.heap.size + 2 ≤ w2.heap.size))
  clear hm2 hg2 KC KM K
  go_wp2_with fail
  go_quiet ((go_at_call 60; first | (with_reducible exact quiet_get (G4.out _ (below_drewN K2.out.2.2 _))) | (with_reducible exact quiet_get (G16.out _ (below_drewN K2.out.2.2 _)))))
  have k0 : Blk (w2.drewN nq) w.heap.size 39 #[.int .i64 0, .int .i64 0, .int .u64 0] := K2.out.1
  have k1 : Blk (w2.drewN nq) (w.heap.size + 1) 72 (arr 7 (overF (markF l) 3 (fourL l 20))) := K2.out.2.1
  have kb := below_drewN K2.out.2.2 nq
  have kz : w.heap.size + 2 ≤ (w2.drewN nq).heap.size := Z2.out
  generalize World.drewN w2 nq = W3 at k0 k1 kb kz ⊢
  have d2 := HC.out W3 kb 2 (by omega)
  obtain ⟨b2, hb2⟩ : ∃ x, x = l.getD 2 0 := ⟨_, rfl⟩
  rw [← hb2] at d2
  have HK := Lib.hid hb2
  have K3 := Lib.hid (And.intro k0 (And.intro k1 kb))
  have Z3 := Lib.hid kz
  have a2 : (2 : Int) < (n : Int) := by omega
  have bnum : (num : Int) < 4294967296 := by omega
  clear k0 k1 kb kz hb2 K2 Z2
  have G8a := Lib.hid (G8.out W3.drew K3.out.2.2.drew)
  have G8b := Lib.hid (G8.out (W3.alloc (.cells #[.int .i64 0, .int .i64 0, .int .u64 0] 39)).drew (K3.out.2.2.alloc K3.out.2.2.size _).drew)
  have w2e : IntKind.i64.wrap (b2.toNat : Int) = (b2.toNat : Int) := by have := b2.toNat_lt; rw [IntKind.wrap_i64]; omega
  have wne : IntKind.i64.wrap (num : Int) = (num : Int) := by rw [IntKind.wrap_i64]; omega
  have d2a := Lib.hid (HC.out W3.drew K3.out.2.2.drew 2 (by omega))
  have d2b := Lib.hid (HC.out (W3.alloc (.cells #[.int .i64 0, .int .i64 0, .int .u64 0] 39)).drew (K3.out.2.2.alloc K3.out.2.2.size _).drew 2 (by omega))
  have d2c := Lib.hid (HC.out (W3.alloc (.cells #[.int .i64 (b2.toNat : Int), .int .i64 (num : Int), .int .u64 (gen : Int)] 39)).drew (K3.out.2.2.alloc K3.out.2.2.size _).drew 2 (by omega))
  rw [← HK.out] at d2a d2b d2c
  go_upto_region 6 with (fail)
  go_cut [8] from 37 to 46 (fun v W => v = .pointer (some ⟨W3.heap.size, 0, none⟩) ∧ W = (W3.alloc (.cells #[.int .i64 (b2.toNat : Int), .int .i64 (num : Int), .int .u64 (gen : Int)] 39)).drew)
  case first =>
    go_region_held3 (fun W' => W'.cell? ⟨b, off + 2, none⟩ = some (.int .u8 (b2.toNat : Int))) (first | exact d2a.out | exact d2b.out | exact d2c.out)
      (first
        | (go_at_call 60; (with_reducible refine G8a.out.mono ?_); rintro e w' ⟨rfl, rfl⟩)
        | (go_at_call 60; (with_reducible refine G8b.out.mono ?_); rintro e w' ⟨rfl, rfl⟩))
    all_goals (go_wp2_with fail; go_meet; exact ⟨rfl, rfl⟩)
  case rest =>
    obtain ⟨rfl, rfl⟩ := hcut
    have kh : Blk (W3.alloc (.cells #[.int .i64 (b2.toNat : Int), .int .i64 (num : Int), .int .u64 (gen : Int)] 39)).drew W3.heap.size 39 #[.int .i64 (b2.toNat : Int), .int .i64 (num : Int), .int .u64 (gen : Int)] := Blk.new _ _ _
    have k0 : Blk (W3.alloc (.cells #[.int .i64 (b2.toNat : Int), .int .i64 (num : Int), .int .u64 (gen : Int)] 39)).drew w.heap.size 39 #[.int .i64 0, .int .i64 0, .int .u64 0] := K3.out.1.alloc _
    have k1 : Blk (W3.alloc (.cells #[.int .i64 (b2.toNat : Int), .int .i64 (num : Int), .int .u64 (gen : Int)] 39)).drew (w.heap.size + 1) 72 _ := K3.out.2.1.alloc _
    rw [marks_all l (by rw [HN.out]; omega)] at k1
    have kb := (K3.out.2.2.alloc K3.out.2.2.size (.cells #[.int .i64 (b2.toNat : Int), .int .i64 (num : Int), .int .u64 (gen : Int)] 39)).drew
    generalize World.drew _ = W4 at kh k0 k1 kb ⊢
    have K4 := Lib.hid (And.intro k0 (And.intro kh kb))
    have M4 := Lib.hid k1
    have hgw : w.heap.size + 2 ≤ W3.heap.size := Z3.out
    clear k0 kh k1 kb d2a d2b d2c G8a G8b d2 K3 Z3
    have SX := Lib.hid (show ∀ W : World, Blk W (w.heap.size + 1) 72 #[Value.int .u8 ((l.getD 0 0).toNat : Int), .int .u8 ((l.getD 1 0).toNat : Int), .int .u8 ((l.getD 3 0).toNat : Int),
        .int .u8 ((l.getD 20 0).toNat : Int), .int .u8 ((l.getD 21 0).toNat : Int), .int .u8 ((l.getD 22 0).toNat : Int), .int .u8 ((l.getD 23 0).toNat : Int)] → Blk W W3.heap.size 39 #[.int .i64 (b2.toNat : Int), .int .i64 (num : Int), .int .u64 (gen : Int)] →
        W.cell? ⟨w.heap.size + 1, 0, none⟩ = some (.int .u8 ((l.getD 0 0).toNat : Int)) ∧ W.cell? ⟨w.heap.size + 1, 1, none⟩ = some (.int .u8 ((l.getD 1 0).toNat : Int)) ∧ W.cell? ⟨w.heap.size + 1, 2, none⟩ = some (.int .u8 ((l.getD 3 0).toNat : Int)) ∧
        W.cell? ⟨w.heap.size + 1, 3, none⟩ = some (.int .u8 ((l.getD 20 0).toNat : Int)) ∧ W.cell? ⟨w.heap.size + 1, 4, none⟩ = some (.int .u8 ((l.getD 21 0).toNat : Int)) ∧ W.cell? ⟨w.heap.size + 1, 5, none⟩ = some (.int .u8 ((l.getD 22 0).toNat : Int)) ∧
        W.cell? ⟨w.heap.size + 1, 6, none⟩ = some (.int .u8 ((l.getD 23 0).toNat : Int)) ∧ W.cell? ⟨W3.heap.size, 0, none⟩ = some (.int .i64 (b2.toNat : Int)) from fun W h1 h2 => ⟨h1.cell 0, h1.cell 1, h1.cell 2, h1.cell 3, h1.cell 4, h1.cell 5, h1.cell 6, h2.cell 0⟩)
    have S4 := Lib.hid (SX.out W4.drew M4.out K4.out.2.1)
    have HM := Lib.hid (fun w => may_any (b2.toNat : Int) (num : Int) w)
    generalize hmb : mayB (b2.toNat : Int) (num : Int) = mb at HM
    have HMB := Lib.hid hmb
    clear hmb
    obtain ⟨mk, hmk⟩ : ∃ mk : Bool, mk = !(((l.getD 0 0).toNat : Int) == 66 && ((l.getD 1 0).toNat : Int) == 89 && ((l.getD 3 0).toNat : Int) == 0 && ((l.getD 20 0).toNat : Int) == 0 && ((l.getD 21 0).toNat : Int) == 0 && ((l.getD 22 0).toNat : Int) == 0 && ((l.getD 23 0).toNat : Int) == 0) := ⟨_, rfl⟩
    have hnq := neq72 ((l.getD 0 0).toNat : Int) ((l.getD 1 0).toNat : Int) ((l.getD 3 0).toNat : Int) ((l.getD 20 0).toNat : Int) ((l.getD 21 0).toNat : Int) ((l.getD 22 0).toNat : Int) ((l.getD 23 0).toNat : Int)
    rw [← hmk] at hnq
    have HMK := Lib.hid hmk
    clear hmk
    generalize hy0 : l.getD 0 0 = y0 at *
    generalize hy1 : l.getD 1 0 = y1 at *
    generalize hy3 : l.getD 3 0 = y3 at *
    generalize hy20 : l.getD 20 0 = y20 at *
    generalize hy21 : l.getD 21 0 = y21 at *
    generalize hy22 : l.getD 22 0 = y22 at *
    generalize hy23 : l.getD 23 0 = y23 at *
    have HY := Lib.hid (And.intro hy0 (And.intro hy1 (And.intro hy3 (And.intro hy20 (And.intro hy21 (And.intro hy22 hy23))))))
    clear hy0 hy1 hy3 hy20 hy21 hy22 hy23
    have wrn : IntKind.u64.wrap ((n : Int) - 32) = (n : Int) - 32 := by rw [IntKind.wrap_u64]; omega
    cases mk
    · cases mb
      ·
        obtain ⟨lg, hlg⟩ : ∃ x : Bool, decide ((n : Int) - 32 < (long : Int)) = x := ⟨_, rfl⟩
        have hlg := Lib.hid hlg
        go_wp2_with fail
        refine wp_region_held_drew (S := (fun W' => W'.cell? ⟨w.heap.size + 1, 0, none⟩ = some (.int .u8 (y0.toNat : Int)) ∧ W'.cell? ⟨w.heap.size + 1, 1, none⟩ = some (.int .u8 (y1.toNat : Int)) ∧ W'.cell? ⟨w.heap.size + 1, 2, none⟩ = some (.int .u8 (y3.toNat : Int)) ∧
          W'.cell? ⟨w.heap.size + 1, 3, none⟩ = some (.int .u8 (y20.toNat : Int)) ∧ W'.cell? ⟨w.heap.size + 1, 4, none⟩ = some (.int .u8 (y21.toNat : Int)) ∧ W'.cell? ⟨w.heap.size + 1, 5, none⟩ = some (.int .u8 (y22.toNat : Int)) ∧
          W'.cell? ⟨w.heap.size + 1, 6, none⟩ = some (.int .u8 (y23.toNat : Int)) ∧ W'.cell? ⟨W3.heap.size, 0, none⟩ = some (.int .i64 (b2.toNat : Int)))) (by kernel_rfl) (by exact S4.out) (fun hHeld => ?_)
        change wpAnyH _ _ _ _ _ _ _ _ W4.drew
        refine takeTo (i := 0) (v := ?_) (some 47) rfl rfl (by kernel_rfl) (by kernel_rfl) (by kernel_rfl) (fun _ _ _ h => h) (Or.inl ⟨by rfl, ?_⟩) (by assumption) ?_
        rotate_left
        · (intro W7 hSw; (try dsimp only at hSw); go_simp; try with_reducible rfl)
        try simp only [Act.put, List.setIfInBounds_toArray, List.set_cons_zero, List.set_cons_succ]
        refine wpAnyH_ready (rs := [1]) (by kernel_rfl) (by simp) ?_
        refine AllReadyH.cons rfl (fun K hK => ?_) AllReadyH.nil
        rw [if_pos (by rfl)]
        go_wp2_with fail
        refine (right_any _).mono ?_; rintro e w5 ⟨rfl, b5⟩; have S5 := Lib.hid (SX.out w5 (M4.out.below (w := W4.drew) b5 M4.out.lt) (K4.out.2.1.below (w := W4.drew) b5 K4.out.2.1.lt)); have B5 := Lib.hid b5; clear b5
        refine hK.out _ _ S5.out (fun hHeld => ?_)
        clear hK K
        try simp only [Act.put, List.setIfInBounds_toArray, List.set_cons_zero, List.set_cons_succ]
        refine takeTo (i := 2) (v := ?_) (some 49) rfl rfl (by kernel_rfl) (by kernel_rfl) (by kernel_rfl) (fun _ _ _ h => h) (Or.inl ⟨by rfl, ?_⟩) (by assumption) ?_
        rotate_left
        · (intro W7 hSw; (try dsimp only at hSw); go_simp; try with_reducible rfl)
        try simp only [Act.put, List.setIfInBounds_toArray, List.set_cons_zero, List.set_cons_succ]
        refine takeTo (i := 3) (v := ?_) (some 50) rfl rfl (by kernel_rfl) (by kernel_rfl) (by kernel_rfl) (fun _ _ _ h => h) (Or.inl ⟨by rfl, ?_⟩) (by assumption) ?_
        rotate_left
        · (intro W7 hSw; (try dsimp only at hSw); go_simp; try with_reducible rfl)
        try simp only [Act.put, List.setIfInBounds_toArray, List.set_cons_zero, List.set_cons_succ]
        refine takeTo (i := 4) (v := ?_) (some 51) rfl rfl (by kernel_rfl) (by kernel_rfl) (by kernel_rfl) (fun _ _ _ h => h) (Or.inl ⟨by rfl, ?_⟩) (by assumption) ?_
        rotate_left
        · (intro W7 hSw; (try dsimp only at hSw); go_simp; try with_reducible rfl)
        try simp only [Act.put, List.setIfInBounds_toArray, List.set_cons_zero, List.set_cons_succ]
        refine takeTo (i := 5) (v := ?_) (some 52) rfl rfl (by kernel_rfl) (by kernel_rfl) (by kernel_rfl) (fun _ _ _ h => h) (Or.inl ⟨by rfl, ?_⟩) (by assumption) ?_
        rotate_left
        · (intro W7 hSw; (try dsimp only at hSw); go_simp; try with_reducible rfl)
        try simp only [Act.put, List.setIfInBounds_toArray, List.set_cons_zero, List.set_cons_succ]
        refine takeTo (i := 6) (v := ?_) (some 53) rfl rfl (by kernel_rfl) (by kernel_rfl) (by kernel_rfl) (fun _ _ _ h => h) (Or.inl ⟨by rfl, ?_⟩) (by assumption) ?_
        rotate_left
        · (intro W7 hSw; (try dsimp only at hSw); go_simp; try with_reducible rfl)
        try simp only [Act.put, List.setIfInBounds_toArray, List.set_cons_zero, List.set_cons_succ]
        refine wpAnyH_ready (rs := [7]) (by kernel_rfl) (by simp) ?_
        refine AllReadyH.cons rfl (fun K hK => ?_) AllReadyH.nil
        rw [if_pos (by rfl)]
        go_wp2_with fail
        refine (HM.out _).mono ?_; rintro e w' ⟨rfl, rfl⟩
        refine hK.out _ _ hHeld (fun hHeld => ?_)
        clear hK K
        try simp only [Act.put, List.setIfInBounds_toArray, List.set_cons_zero, List.set_cons_succ]
        refine takeTo (i := 8) (v := ?_) (some 55) rfl rfl (by kernel_rfl) (by kernel_rfl) (by kernel_rfl) (fun _ _ _ h => h) (Or.inl ⟨by rfl, ?_⟩) (by assumption) ?_
        rotate_left
        · (intro W7 hSw; (try dsimp only at hSw); go_simp; try with_reducible rfl)
        try simp only [Act.put, List.setIfInBounds_toArray, List.set_cons_zero, List.set_cons_succ]
        refine takeTo (i := 9) (v := ?_) (some 56) rfl rfl (by kernel_rfl) (by kernel_rfl) (by kernel_rfl) (fun _ _ _ h => h) (Or.inl ⟨by rfl, ?_⟩) (by assumption) ?_
        rotate_left
        · (intro W7 hSw; (try dsimp only at hSw); go_simp; try with_reducible rfl)
        try simp only [Act.put, List.setIfInBounds_toArray, List.set_cons_zero, List.set_cons_succ]
        refine takeTo (i := 10) (v := ?_) (some 57) rfl rfl (by kernel_rfl) (by kernel_rfl) (by kernel_rfl) (fun _ _ _ h => h) (Or.inl ⟨by rfl, ?_⟩) (by assumption) ?_
        rotate_left
        · (intro W7 hSw; (try dsimp only at hSw); go_simp; try with_reducible rfl)
        try simp only [Act.put, List.setIfInBounds_toArray, List.set_cons_zero, List.set_cons_succ]
        refine takeTo (i := 11) (v := undef) (some 58) rfl rfl (by kernel_rfl) (by kernel_rfl) (by kernel_rfl) (fun _ _ _ h => h) (Or.inr ⟨by rfl, rfl⟩) (by assumption) ?_
        try simp only [Act.put, List.setIfInBounds_toArray, List.set_cons_zero, List.set_cons_succ]
        refine takeTo (i := 12) (v := undef) (some 59) rfl rfl (by kernel_rfl) (by kernel_rfl) (by kernel_rfl) (fun _ _ _ h => h) (Or.inr ⟨by rfl, rfl⟩) (by assumption) ?_
        try simp only [Act.put, List.setIfInBounds_toArray, List.set_cons_zero, List.set_cons_succ]
        refine takeTo (i := 13) (v := undef) (some 60) rfl rfl (by kernel_rfl) (by kernel_rfl) (by kernel_rfl) (fun _ _ _ h => h) (Or.inr ⟨by rfl, rfl⟩) (by assumption) ?_
        try simp only [Act.put, List.setIfInBounds_toArray, List.set_cons_zero, List.set_cons_succ]
        refine takeTo (i := 14) (v := undef) (some 61) rfl rfl (by kernel_rfl) (by kernel_rfl) (by kernel_rfl) (fun _ _ _ h => h) (Or.inr ⟨by rfl, rfl⟩) (by assumption) ?_
        try simp only [Act.put, List.setIfInBounds_toArray, List.set_cons_zero, List.set_cons_succ]
        refine takeTo (i := 15) (v := undef) (some 62) rfl rfl (by kernel_rfl) (by kernel_rfl) (by kernel_rfl) (fun _ _ _ h => h) (Or.inr ⟨by rfl, rfl⟩) (by assumption) ?_
        try simp only [Act.put, List.setIfInBounds_toArray, List.set_cons_zero, List.set_cons_succ]
        refine takeTo (i := 16) (v := undef) (some 63) rfl rfl (by kernel_rfl) (by kernel_rfl) (by kernel_rfl) (fun _ _ _ h => h) (Or.inr ⟨by rfl, rfl⟩) (by assumption) ?_
        try simp only [Act.put, List.setIfInBounds_toArray, List.set_cons_zero, List.set_cons_succ]
        refine takeTo (i := 17) (v := ?_) (some 64) rfl rfl (by kernel_rfl) (by kernel_rfl) (by kernel_rfl) (fun _ _ _ h => h) (Or.inl ⟨by rfl, ?_⟩) (by assumption) ?_
        rotate_left
        · (intro W7 hSw; (try dsimp only at hSw); go_simp; try with_reducible rfl)
        try simp only [Act.put, List.setIfInBounds_toArray, List.set_cons_zero, List.set_cons_succ]
        refine wpAnyH_done (by kernel_rfl) ?_ _
        have KZ := Lib.hid (K4.out.1.below (w := W4.drew) B5.out K4.out.1.lt)
        have KB := Lib.hid (K4.out.2.2.drew.trans (B5.out.mono K4.out.2.2.drew.size))
        have NO : ¬ Page.HeadOk l := by
          intro h
          obtain ⟨hs, h0, h1, h3, h20, hk1, hk5, hnm, hll, hz⟩ := h
          have k1 : 1 ≤ b2.toNat := by rw [HK.out]; exact hk1
          have k5 : b2.toNat ≤ 5 := by rw [HK.out]; exact hk5
          have kn : num < 65536 := by rw [HF.out.1]; exact hnm
          have m := HMB.out
          unfold mayB at m
          rw [decide_eq_true (by omega), decide_eq_true (by omega), decide_eq_true (by omega)] at m
          cases m
        clear hHeld hnq S4 SX
        dsimp only [Exit.then]
        have hgo := ‹∀ (a : Act) (w' : World), Code.wp Try.prog (Code.cond (.tmp 64) _ _) _ a w' → _›
        refine hgo _ _ ?_
        clear hgo
        refine wp_cond_true rfl ?_
        go_step
        go_step
        refine wpList_buildTo rfl 39 #[] rfl (some 65) rfl #[.int .i64 0, .int .i64 0, .int .u64 0] (by kernel_rfl) ?_
        refine wpList_store_rowTo rfl 39 (.tmp 2) (.tmp 65) rfl rfl w.heap.size #[.int .i64 0, .int .i64 0, .int .u64 0] rfl rfl 39 _ KZ.out (by rw [info39]; rfl) rfl (by kernel_rfl) ?_
        clear HM HC RG G4 G8 G16 HS HRo'
        go_wp2_with fail
        exact bodyPost_ret (results_cell_two rfl _ _ w.heap.size _ rfl (load39 (KZ.out.row _))) rfl ⟨by rw [headV_no NO]; rfl, Below.row KB.out (Nat.le_refl _) _⟩
      ·
        obtain ⟨lg, hlg⟩ : ∃ x : Bool, decide ((n : Int) - 32 < (long : Int)) = x := ⟨_, rfl⟩
        have hlg := Lib.hid hlg
        go_wp2_with fail
        refine wp_region_held_drew (S := (fun W' => W'.cell? ⟨w.heap.size + 1, 0, none⟩ = some (.int .u8 (y0.toNat : Int)) ∧ W'.cell? ⟨w.heap.size + 1, 1, none⟩ = some (.int .u8 (y1.toNat : Int)) ∧ W'.cell? ⟨w.heap.size + 1, 2, none⟩ = some (.int .u8 (y3.toNat : Int)) ∧
          W'.cell? ⟨w.heap.size + 1, 3, none⟩ = some (.int .u8 (y20.toNat : Int)) ∧ W'.cell? ⟨w.heap.size + 1, 4, none⟩ = some (.int .u8 (y21.toNat : Int)) ∧ W'.cell? ⟨w.heap.size + 1, 5, none⟩ = some (.int .u8 (y22.toNat : Int)) ∧
          W'.cell? ⟨w.heap.size + 1, 6, none⟩ = some (.int .u8 (y23.toNat : Int)) ∧ W'.cell? ⟨W3.heap.size, 0, none⟩ = some (.int .i64 (b2.toNat : Int)))) (by kernel_rfl) (by exact S4.out) (fun hHeld => ?_)
        change wpAnyH _ _ _ _ _ _ _ _ W4.drew
        refine takeTo (i := 0) (v := ?_) (some 47) rfl rfl (by kernel_rfl) (by kernel_rfl) (by kernel_rfl) (fun _ _ _ h => h) (Or.inl ⟨by rfl, ?_⟩) (by assumption) ?_
        rotate_left
        · (intro W7 hSw; (try dsimp only at hSw); go_simp; try with_reducible rfl)
        try simp only [Act.put, List.setIfInBounds_toArray, List.set_cons_zero, List.set_cons_succ]
        refine wpAnyH_ready (rs := [1]) (by kernel_rfl) (by simp) ?_
        refine AllReadyH.cons rfl (fun K hK => ?_) AllReadyH.nil
        rw [if_pos (by rfl)]
        go_wp2_with fail
        refine (right_any _).mono ?_; rintro e w5 ⟨rfl, b5⟩; have S5 := Lib.hid (SX.out w5 (M4.out.below (w := W4.drew) b5 M4.out.lt) (K4.out.2.1.below (w := W4.drew) b5 K4.out.2.1.lt)); have B5 := Lib.hid b5; clear b5
        refine hK.out _ _ S5.out (fun hHeld => ?_)
        clear hK K
        try simp only [Act.put, List.setIfInBounds_toArray, List.set_cons_zero, List.set_cons_succ]
        refine takeTo (i := 2) (v := ?_) (some 49) rfl rfl (by kernel_rfl) (by kernel_rfl) (by kernel_rfl) (fun _ _ _ h => h) (Or.inl ⟨by rfl, ?_⟩) (by assumption) ?_
        rotate_left
        · (intro W7 hSw; (try dsimp only at hSw); go_simp; try with_reducible rfl)
        try simp only [Act.put, List.setIfInBounds_toArray, List.set_cons_zero, List.set_cons_succ]
        refine takeTo (i := 3) (v := ?_) (some 50) rfl rfl (by kernel_rfl) (by kernel_rfl) (by kernel_rfl) (fun _ _ _ h => h) (Or.inl ⟨by rfl, ?_⟩) (by assumption) ?_
        rotate_left
        · (intro W7 hSw; (try dsimp only at hSw); go_simp; try with_reducible rfl)
        try simp only [Act.put, List.setIfInBounds_toArray, List.set_cons_zero, List.set_cons_succ]
        refine takeTo (i := 4) (v := ?_) (some 51) rfl rfl (by kernel_rfl) (by kernel_rfl) (by kernel_rfl) (fun _ _ _ h => h) (Or.inl ⟨by rfl, ?_⟩) (by assumption) ?_
        rotate_left
        · (intro W7 hSw; (try dsimp only at hSw); go_simp; try with_reducible rfl)
        try simp only [Act.put, List.setIfInBounds_toArray, List.set_cons_zero, List.set_cons_succ]
        refine takeTo (i := 5) (v := ?_) (some 52) rfl rfl (by kernel_rfl) (by kernel_rfl) (by kernel_rfl) (fun _ _ _ h => h) (Or.inl ⟨by rfl, ?_⟩) (by assumption) ?_
        rotate_left
        · (intro W7 hSw; (try dsimp only at hSw); go_simp; try with_reducible rfl)
        try simp only [Act.put, List.setIfInBounds_toArray, List.set_cons_zero, List.set_cons_succ]
        refine takeTo (i := 6) (v := ?_) (some 53) rfl rfl (by kernel_rfl) (by kernel_rfl) (by kernel_rfl) (fun _ _ _ h => h) (Or.inl ⟨by rfl, ?_⟩) (by assumption) ?_
        rotate_left
        · (intro W7 hSw; (try dsimp only at hSw); go_simp; try with_reducible rfl)
        try simp only [Act.put, List.setIfInBounds_toArray, List.set_cons_zero, List.set_cons_succ]
        refine wpAnyH_ready (rs := [7]) (by kernel_rfl) (by simp) ?_
        refine AllReadyH.cons rfl (fun K hK => ?_) AllReadyH.nil
        rw [if_pos (by rfl)]
        go_wp2_with fail
        refine (HM.out _).mono ?_; rintro e w' ⟨rfl, rfl⟩
        refine hK.out _ _ hHeld (fun hHeld => ?_)
        clear hK K
        try simp only [Act.put, List.setIfInBounds_toArray, List.set_cons_zero, List.set_cons_succ]
        refine takeTo (i := 8) (v := ?_) (some 55) rfl rfl (by kernel_rfl) (by kernel_rfl) (by kernel_rfl) (fun _ _ _ h => h) (Or.inl ⟨by rfl, ?_⟩) (by assumption) ?_
        rotate_left
        · (intro W7 hSw; (try dsimp only at hSw); go_simp; try with_reducible rfl)
        try simp only [Act.put, List.setIfInBounds_toArray, List.set_cons_zero, List.set_cons_succ]
        refine takeTo (i := 9) (v := ?_) (some 56) rfl rfl (by kernel_rfl) (by kernel_rfl) (by kernel_rfl) (fun _ _ _ h => h) (Or.inl ⟨by rfl, ?_⟩) (by assumption) ?_
        rotate_left
        · (intro W7 hSw; (try dsimp only at hSw); go_simp; try with_reducible rfl)
        try simp only [Act.put, List.setIfInBounds_toArray, List.set_cons_zero, List.set_cons_succ]
        refine takeTo (i := 10) (v := ?_) (some 57) rfl rfl (by kernel_rfl) (by kernel_rfl) (by kernel_rfl) (fun _ _ _ h => h) (Or.inl ⟨by rfl, ?_⟩) (by assumption) ?_
        rotate_left
        · (intro W7 hSw; (try dsimp only at hSw); go_simp; try with_reducible rfl)
        try simp only [Act.put, List.setIfInBounds_toArray, List.set_cons_zero, List.set_cons_succ]
        refine takeTo (i := 11) (v := ?_) (some 58) rfl rfl (by kernel_rfl) (by kernel_rfl) (by kernel_rfl) (fun _ _ _ h => h) (Or.inl ⟨by rfl, ?_⟩) (by assumption) ?_
        rotate_left
        · (intro W7 hSw; (try dsimp only at hSw); go_simp; try with_reducible rfl)
        try simp only [Act.put, List.setIfInBounds_toArray, List.set_cons_zero, List.set_cons_succ]
        refine takeTo (i := 12) (v := ?_) (some 59) rfl rfl (by kernel_rfl) (by kernel_rfl) (by kernel_rfl) (fun _ _ _ h => h) (Or.inl ⟨by rfl, ?_⟩) (by assumption) ?_
        rotate_left
        · (intro W7 hSw; (try dsimp only at hSw); go_simp; try with_reducible rfl)
        try simp only [Act.put, List.setIfInBounds_toArray, List.set_cons_zero, List.set_cons_succ]
        refine takeTo (i := 13) (v := ?_) (some 60) rfl rfl (by kernel_rfl) (by kernel_rfl) (by kernel_rfl) (fun _ _ _ h => h) (Or.inl ⟨by rfl, ?_⟩) (by assumption) ?_
        rotate_left
        · (intro W7 hSw; (try dsimp only at hSw); go_simp; try with_reducible rfl)
        try simp only [Act.put, List.setIfInBounds_toArray, List.set_cons_zero, List.set_cons_succ]
        refine wpAnyH_ready (rs := [14]) (by kernel_rfl) (by simp) ?_
        refine AllReadyH.cons rfl (fun K hK => ?_) AllReadyH.nil
        rw [if_pos (by rfl)]
        go_wp2_with fail
        refine (HRo'.out _).mono ?_; rintro e w' ⟨rfl, rfl⟩
        refine hK.out _ _ hHeld (fun hHeld => ?_)
        clear hK K
        try simp only [Act.put, List.setIfInBounds_toArray, List.set_cons_zero, List.set_cons_succ]
        refine takeTo (i := 15) (v := ?_) (some 62) rfl rfl (by kernel_rfl) (by kernel_rfl) (by kernel_rfl) (fun _ _ _ h => h) (Or.inl ⟨by rfl, ?_⟩) (by assumption) ?_
        rotate_left
        · (intro W7 hSw; (try dsimp only at hSw); go_simp; try with_reducible rfl)
        try simp only [Act.put, List.setIfInBounds_toArray, List.set_cons_zero, List.set_cons_succ]
        have hlong : decide ((n : Int) - 32 < (long : Int)) = lg := hlg.out
        refine takeTo (i := 16) (v := ?_) (some 63) rfl rfl (by kernel_rfl) (by kernel_rfl) (by kernel_rfl) (fun _ _ _ h => h) (Or.inl ⟨by rfl, ?_⟩) (by assumption) ?_
        rotate_left
        · (intro W7 hSw; (try dsimp only at hSw); go_simp; try with_reducible rfl)
        try simp only [Act.put, List.setIfInBounds_toArray, List.set_cons_zero, List.set_cons_succ]
        refine takeTo (i := 17) (v := ?_) (some 64) rfl rfl (by kernel_rfl) (by kernel_rfl) (by kernel_rfl) (fun _ _ _ h => h) (Or.inl ⟨by rfl, ?_⟩) (by assumption) ?_
        rotate_left
        · (intro W7 hSw; (try dsimp only at hSw); go_simp; try with_reducible rfl)
        try simp only [Act.put, List.setIfInBounds_toArray, List.set_cons_zero, List.set_cons_succ]
        refine wpAnyH_done (by kernel_rfl) ?_ _
        cases lg
        ·
          have KZ := Lib.hid (K4.out.1.below (w := W4.drew) B5.out K4.out.1.lt)
          have KH := Lib.hid (K4.out.2.1.below (w := W4.drew) B5.out K4.out.2.1.lt)
          have KB := Lib.hid (K4.out.2.2.drew.trans (B5.out.mono K4.out.2.2.drew.size))
          have hle : long + 32 ≤ n := by have := of_decide_eq_false hlg.out; omega
          have HCL := Lib.hid (HC.out w5 KB.out)
          clear hHeld hnq S4 SX HM G4 G8 G16 RG HS HRo' HC M4 K4 B5 hlong wrn w2e wne a0 a1 a2 a3 a4 a8 a16 a20 a24 n4 n8 n16 n20
          obtain ⟨lo, hlo⟩ : ∃ x, x = 24 + long := ⟨_, rfl⟩
          obtain ⟨hi, hhi⟩ : ∃ x, x = n - 8 := ⟨_, rfl⟩
          obtain ⟨m, hm⟩ : ∃ x, x = hi - lo := ⟨_, rfl⟩
          have wlo : IntKind.u64.wrap ((24 : Int) + (long : Int)) = (lo : Int) := by rw [IntKind.wrap_u64]; omega
          have whi : (n : Int) - 8 = (hi : Int) := by omega
          have c1 : (lo : Int) ≤ (hi : Int) := by omega
          have c2 : (hi : Int) ≤ (c : Int) := by omega
          have c3 : ¬ c = lo := by omega
          have clo : lo + m + 8 = n := by omega
          have HL := Lib.hid (And.intro hlo hhi)
          clear hlo hhi
          dsimp only [Exit.then]
          have hgo := ‹∀ (a : Act) (w' : World), Code.wp Try.prog (Code.cond (.tmp 64) _ _) _ a w' → _›
          refine hgo _ _ ?_
          clear hgo
          refine wp_cond_false rfl ?_
          go_wp2_with fail
          rw [hm.symm]
          have HM2 := Lib.hid (And.intro hm (And.intro clo (And.intro whi hle)))
          clear hm clo whi hle wlo c1 c2 c3
          go_loop [74] (fun i => ∃ k : Nat, k ≤ m ∧ i = .int .i64 k ∧ ∀ j, j < k → l.getD (lo + j) 0 = 0) (fun i => m - (intOf i).toNat)
          case atStart => exact ⟨0, by omega, rfl, fun j hj => absurd hj (by omega)⟩
          case round =>
            obtain ⟨k, hk, rfl, hz⟩ := hrel
            by_cases hlt : k < m
            · have hc := HCL.out (lo + k) (by have := HM2.out; omega)
              rw [← Nat.add_assoc] at hc
              obtain ⟨x, hx⟩ : ∃ x, x = l.getD (lo + k) 0 := ⟨_, rfl⟩
              rw [← hx] at hc
              have HX := Lib.hid hx
              have HZ := Lib.hid hz
              have hd : decide ((k : Int) < (m : Int)) = true := by simp; omega
              have hd2 : decide (k < m) = true := by simp; omega
              have wk : IntKind.i64.wrap ((k : Int) + 1) = ((k + 1 : Nat) : Int) := by have := HM2.out; rw [IntKind.wrap_i64]; omega
              clear hx hz
              by_cases hx0 : (x.toNat : Int) = 0
              · rw [hx0] at hc
                go_wp2_with fail
                go_round
                case rel =>
                  refine ⟨k + 1, by omega, rfl, fun j hj => ?_⟩
                  by_cases hj' : j < k
                  · exact HZ.out j hj'
                  · obtain rfl : j = k := by omega
                    rw [← HX.out]
                    exact UInt8.toNat_inj.1 (by have := hx0; simpa using this)
                case measure => have := HM2.out; simp [intOf] <;> omega
              · have hne : ((x.toNat : Int) != 0) = true := by simpa using hx0
                have NO : ¬ Page.HeadOk l := by
                  intro h
                  obtain ⟨hs, h0, h1, h3, h20, hk1, hk5, hnm, hll, hzz⟩ := h
                  have f1 := HF.out.2.2
                  have f2 := HN.out
                  have f3 := HL.out
                  have f4 := HM2.out
                  have f5 := hzz (lo + k) (by omega) (by omega)
                  rw [← HX.out] at f5
                  rw [f5] at hx0
                  exact hx0 rfl
                repeat (first | (refine wpList_buildTo rfl 39 #[] rfl (some 80) rfl #[.int .i64 0, .int .i64 0, .int .u64 0] (by kernel_rfl) ?_) | (refine wpList_store_rowTo rfl 39 (.tmp 2) (.tmp 80) rfl rfl w.heap.size #[.int .i64 0, .int .i64 0, .int .u64 0] rfl rfl 39 _ KZ.out (by rw [info39]; rfl) rfl (by kernel_rfl) ?_) | go_step)
                exact bodyPost_ret (results_cell_two rfl _ _ w.heap.size _ rfl (load39 (KZ.out.row _))) rfl ⟨by rw [headV_no NO]; rfl, Below.row KB.out (Nat.le_refl _) _⟩
            · obtain rfl : k = m := by omega
              have YES : Page.HeadOk l := by
                have f1 := HF.out
                have f2 := HN.out
                have f3 := HL.out
                have f4 := HM2.out
                have y := HY.out
                have mm := HMK.out
                rw [eq_comm, Bool.not_eq_false'] at mm
                simp only [Bool.and_eq_true, beq_iff_eq] at mm
                obtain ⟨⟨⟨⟨⟨⟨m0, m1⟩, m3⟩, m20⟩, m21⟩, m22⟩, m23⟩ := mm
                have mb := HMB.out
                unfold mayB at mb
                simp only [Bool.and_eq_true, decide_eq_true_eq] at mb
                have u66 : ∀ x : UInt8, (x.toNat : Int) = 66 → x = 66 := fun x h => UInt8.toNat_inj.1 (by have : (66 : UInt8).toNat = 66 := rfl; omega)
                have u89 : ∀ x : UInt8, (x.toNat : Int) = 89 → x = 89 := fun x h => UInt8.toNat_inj.1 (by have : (89 : UInt8).toNat = 89 := rfl; omega)
                have u0 : ∀ x : UInt8, (x.toNat : Int) = 0 → x = 0 := fun x h => UInt8.toNat_inj.1 (by have : (0 : UInt8).toNat = 0 := rfl; omega)
                have ek : Page.kindOf l = b2.toNat := by rw [HK.out]; rfl
                refine ⟨by rw [f2]; exact HSZ.out, y.1.trans (u66 _ m0), y.2.1.trans (u89 _ m1), y.2.2.1.trans (u0 _ m3), ?_, by omega, by omega, by omega, by omega, ?_⟩
                · intro i hi4
                  rcases (by omega : i = 0 ∨ i = 1 ∨ i = 2 ∨ i = 3) with rfl | rfl | rfl | rfl
                  · exact y.2.2.2.1.trans (u0 _ m20)
                  · exact y.2.2.2.2.1.trans (u0 _ m21)
                  · exact y.2.2.2.2.2.1.trans (u0 _ m22)
                  · exact y.2.2.2.2.2.2.trans (u0 _ m23)
                · intro i hi1 hi2
                  have := hz (i - lo) (by omega)
                  rw [show lo + (i - lo) = i by omega] at this
                  exact this
              go_step
              go_step
              go_step
              go_step
              have wll : IntKind.i64.wrap (long : Int) = (long : Int) := by rw [IntKind.wrap_i64]; omega
              go_wp2_with (first | (refine wpList_load_row rfl 39 _ rfl _ rfl 39 _ (0, 0) _ KH.out Try.underlying39 rfl (by rw [info39]; rfl) ?_) | (refine wpList_store_rowTo rfl 39 (.tmp 2) (.tmp 82) rfl rfl w.heap.size #[.int .i64 (b2.toNat : Int), .int .i64 (num : Int), .int .u64 (gen : Int)] rfl rfl 39 _ KZ.out (by rw [info39]; rfl) rfl (by kernel_rfl) ?_))
              exact bodyPost_ret (results_cell_two rfl _ _ w.heap.size _ rfl (load39 (KZ.out.row _))) rfl ⟨by rw [headV_yes YES, yesHead, show Page.kindOf l = b2.toNat by rw [HK.out]; rfl, ← HF.out.1, ← HF.out.2.1, ← HF.out.2.2]; rfl, Below.row KB.out (Nat.le_refl _) _⟩
        ·
          have KZ := Lib.hid (K4.out.1.below (w := W4.drew) B5.out K4.out.1.lt)
          have KB := Lib.hid (K4.out.2.2.drew.trans (B5.out.mono K4.out.2.2.drew.size))
          have NO : ¬ Page.HeadOk l := by
            intro h
            obtain ⟨hs, h0, h1, h3, h20, hk1, hk5, hnm, hll, hz⟩ := h
            have m := of_decide_eq_true hlg.out
            have := HF.out.2.2
            have := HN.out
            omega
          clear hHeld hnq S4 SX
          dsimp only [Exit.then]
          have hgo := ‹∀ (a : Act) (w' : World), Code.wp Try.prog (Code.cond (.tmp 64) _ _) _ a w' → _›
          refine hgo _ _ ?_
          clear hgo
          refine wp_cond_true rfl ?_
          go_step
          go_step
          refine wpList_buildTo rfl 39 #[] rfl (some 65) rfl #[.int .i64 0, .int .i64 0, .int .u64 0] (by kernel_rfl) ?_
          refine wpList_store_rowTo rfl 39 (.tmp 2) (.tmp 65) rfl rfl w.heap.size #[.int .i64 0, .int .i64 0, .int .u64 0] rfl rfl 39 _ KZ.out (by rw [info39]; rfl) rfl (by kernel_rfl) ?_
          clear HM HC RG G4 G8 G16 HS HRo'
          go_wp2_with fail
          exact bodyPost_ret (results_cell_two rfl _ _ w.heap.size _ rfl (load39 (KZ.out.row _))) rfl ⟨by rw [headV_no NO]; rfl, Below.row KB.out (Nat.le_refl _) _⟩
    ·
      obtain ⟨lg, hlg⟩ : ∃ x : Bool, decide ((n : Int) - 32 < (long : Int)) = x := ⟨_, rfl⟩
      have hlg := Lib.hid hlg
      go_wp2_with fail
      refine wp_region_held_drew (S := (fun W' => W'.cell? ⟨w.heap.size + 1, 0, none⟩ = some (.int .u8 (y0.toNat : Int)) ∧ W'.cell? ⟨w.heap.size + 1, 1, none⟩ = some (.int .u8 (y1.toNat : Int)) ∧ W'.cell? ⟨w.heap.size + 1, 2, none⟩ = some (.int .u8 (y3.toNat : Int)) ∧
          W'.cell? ⟨w.heap.size + 1, 3, none⟩ = some (.int .u8 (y20.toNat : Int)) ∧ W'.cell? ⟨w.heap.size + 1, 4, none⟩ = some (.int .u8 (y21.toNat : Int)) ∧ W'.cell? ⟨w.heap.size + 1, 5, none⟩ = some (.int .u8 (y22.toNat : Int)) ∧
          W'.cell? ⟨w.heap.size + 1, 6, none⟩ = some (.int .u8 (y23.toNat : Int)) ∧ W'.cell? ⟨W3.heap.size, 0, none⟩ = some (.int .i64 (b2.toNat : Int)))) (by kernel_rfl) (by exact S4.out) (fun hHeld => ?_)
      change wpAnyH _ _ _ _ _ _ _ _ W4.drew
      refine takeTo (i := 0) (v := ?_) (some 47) rfl rfl (by kernel_rfl) (by kernel_rfl) (by kernel_rfl) (fun _ _ _ h => h) (Or.inl ⟨by rfl, ?_⟩) (by assumption) ?_
      rotate_left
      · (intro W7 hSw; (try dsimp only at hSw); go_simp; try with_reducible rfl)
      try simp only [Act.put, List.setIfInBounds_toArray, List.set_cons_zero, List.set_cons_succ]
      refine wpAnyH_ready (rs := [1]) (by kernel_rfl) (by simp) ?_
      refine AllReadyH.cons rfl (fun K hK => ?_) AllReadyH.nil
      rw [if_pos (by rfl)]
      go_wp2_with fail
      refine (right_any _).mono ?_; rintro e w5 ⟨rfl, b5⟩; have S5 := Lib.hid (SX.out w5 (M4.out.below (w := W4.drew) b5 M4.out.lt) (K4.out.2.1.below (w := W4.drew) b5 K4.out.2.1.lt)); have B5 := Lib.hid b5; clear b5
      refine hK.out _ _ S5.out (fun hHeld => ?_)
      clear hK K
      try simp only [Act.put, List.setIfInBounds_toArray, List.set_cons_zero, List.set_cons_succ]
      refine takeTo (i := 2) (v := ?_) (some 49) rfl rfl (by kernel_rfl) (by kernel_rfl) (by kernel_rfl) (fun _ _ _ h => h) (Or.inl ⟨by rfl, ?_⟩) (by assumption) ?_
      rotate_left
      · (intro W7 hSw; (try dsimp only at hSw); go_simp; try with_reducible rfl)
      try simp only [Act.put, List.setIfInBounds_toArray, List.set_cons_zero, List.set_cons_succ]
      refine takeTo (i := 3) (v := ?_) (some 50) rfl rfl (by kernel_rfl) (by kernel_rfl) (by kernel_rfl) (fun _ _ _ h => h) (Or.inl ⟨by rfl, ?_⟩) (by assumption) ?_
      rotate_left
      · (intro W7 hSw; (try dsimp only at hSw); go_simp; try with_reducible rfl)
      try simp only [Act.put, List.setIfInBounds_toArray, List.set_cons_zero, List.set_cons_succ]
      refine takeTo (i := 4) (v := undef) (some 51) rfl rfl (by kernel_rfl) (by kernel_rfl) (by kernel_rfl) (fun _ _ _ h => h) (Or.inr ⟨by rfl, rfl⟩) (by assumption) ?_
      try simp only [Act.put, List.setIfInBounds_toArray, List.set_cons_zero, List.set_cons_succ]
      refine takeTo (i := 5) (v := undef) (some 52) rfl rfl (by kernel_rfl) (by kernel_rfl) (by kernel_rfl) (fun _ _ _ h => h) (Or.inr ⟨by rfl, rfl⟩) (by assumption) ?_
      try simp only [Act.put, List.setIfInBounds_toArray, List.set_cons_zero, List.set_cons_succ]
      refine takeTo (i := 6) (v := undef) (some 53) rfl rfl (by kernel_rfl) (by kernel_rfl) (by kernel_rfl) (fun _ _ _ h => h) (Or.inr ⟨by rfl, rfl⟩) (by assumption) ?_
      try simp only [Act.put, List.setIfInBounds_toArray, List.set_cons_zero, List.set_cons_succ]
      refine takeTo (i := 7) (v := undef) (some 54) rfl rfl (by kernel_rfl) (by kernel_rfl) (by kernel_rfl) (fun _ _ _ h => h) (Or.inr ⟨by rfl, rfl⟩) (by assumption) ?_
      try simp only [Act.put, List.setIfInBounds_toArray, List.set_cons_zero, List.set_cons_succ]
      refine takeTo (i := 8) (v := undef) (some 55) rfl rfl (by kernel_rfl) (by kernel_rfl) (by kernel_rfl) (fun _ _ _ h => h) (Or.inr ⟨by rfl, rfl⟩) (by assumption) ?_
      try simp only [Act.put, List.setIfInBounds_toArray, List.set_cons_zero, List.set_cons_succ]
      refine takeTo (i := 9) (v := ?_) (some 56) rfl rfl (by kernel_rfl) (by kernel_rfl) (by kernel_rfl) (fun _ _ _ h => h) (Or.inl ⟨by rfl, ?_⟩) (by assumption) ?_
      rotate_left
      · (intro W7 hSw; (try dsimp only at hSw); go_simp; try with_reducible rfl)
      try simp only [Act.put, List.setIfInBounds_toArray, List.set_cons_zero, List.set_cons_succ]
      refine takeTo (i := 10) (v := ?_) (some 57) rfl rfl (by kernel_rfl) (by kernel_rfl) (by kernel_rfl) (fun _ _ _ h => h) (Or.inl ⟨by rfl, ?_⟩) (by assumption) ?_
      rotate_left
      · (intro W7 hSw; (try dsimp only at hSw); go_simp; try with_reducible rfl)
      try simp only [Act.put, List.setIfInBounds_toArray, List.set_cons_zero, List.set_cons_succ]
      refine takeTo (i := 11) (v := undef) (some 58) rfl rfl (by kernel_rfl) (by kernel_rfl) (by kernel_rfl) (fun _ _ _ h => h) (Or.inr ⟨by rfl, rfl⟩) (by assumption) ?_
      try simp only [Act.put, List.setIfInBounds_toArray, List.set_cons_zero, List.set_cons_succ]
      refine takeTo (i := 12) (v := undef) (some 59) rfl rfl (by kernel_rfl) (by kernel_rfl) (by kernel_rfl) (fun _ _ _ h => h) (Or.inr ⟨by rfl, rfl⟩) (by assumption) ?_
      try simp only [Act.put, List.setIfInBounds_toArray, List.set_cons_zero, List.set_cons_succ]
      refine takeTo (i := 13) (v := undef) (some 60) rfl rfl (by kernel_rfl) (by kernel_rfl) (by kernel_rfl) (fun _ _ _ h => h) (Or.inr ⟨by rfl, rfl⟩) (by assumption) ?_
      try simp only [Act.put, List.setIfInBounds_toArray, List.set_cons_zero, List.set_cons_succ]
      refine takeTo (i := 14) (v := undef) (some 61) rfl rfl (by kernel_rfl) (by kernel_rfl) (by kernel_rfl) (fun _ _ _ h => h) (Or.inr ⟨by rfl, rfl⟩) (by assumption) ?_
      try simp only [Act.put, List.setIfInBounds_toArray, List.set_cons_zero, List.set_cons_succ]
      refine takeTo (i := 15) (v := undef) (some 62) rfl rfl (by kernel_rfl) (by kernel_rfl) (by kernel_rfl) (fun _ _ _ h => h) (Or.inr ⟨by rfl, rfl⟩) (by assumption) ?_
      try simp only [Act.put, List.setIfInBounds_toArray, List.set_cons_zero, List.set_cons_succ]
      refine takeTo (i := 16) (v := undef) (some 63) rfl rfl (by kernel_rfl) (by kernel_rfl) (by kernel_rfl) (fun _ _ _ h => h) (Or.inr ⟨by rfl, rfl⟩) (by assumption) ?_
      try simp only [Act.put, List.setIfInBounds_toArray, List.set_cons_zero, List.set_cons_succ]
      refine takeTo (i := 17) (v := ?_) (some 64) rfl rfl (by kernel_rfl) (by kernel_rfl) (by kernel_rfl) (fun _ _ _ h => h) (Or.inl ⟨by rfl, ?_⟩) (by assumption) ?_
      rotate_left
      · (intro W7 hSw; (try dsimp only at hSw); go_simp; try with_reducible rfl)
      try simp only [Act.put, List.setIfInBounds_toArray, List.set_cons_zero, List.set_cons_succ]
      refine wpAnyH_done (by kernel_rfl) ?_ _
      have KZ := Lib.hid (K4.out.1.below (w := W4.drew) B5.out K4.out.1.lt)
      have KB := Lib.hid (K4.out.2.2.drew.trans (B5.out.mono K4.out.2.2.drew.size))
      have NO : ¬ Page.HeadOk l := by
        intro h
        obtain ⟨hs, h0, h1, h3, h20, hk1, hk5, hnm, hll, hz⟩ := h
        have m := HMK.out
        have y := HY.out
        have z0 := h20 0 (by omega)
        have z1 := h20 1 (by omega)
        have z2 := h20 2 (by omega)
        have z3 := h20 3 (by omega)
        simp only [Nat.reduceAdd] at z0 z1 z2 z3
        rw [← y.1, h0, ← y.2.1, h1, ← y.2.2.1, h3, ← y.2.2.2.1, z0, ← y.2.2.2.2.1, z1, ← y.2.2.2.2.2.1, z2, ← y.2.2.2.2.2.2, z3] at m
        exact absurd m (by decide)
      clear hHeld hnq S4 SX
      dsimp only [Exit.then]
      have hgo := ‹∀ (a : Act) (w' : World), Code.wp Try.prog (Code.cond (.tmp 64) _ _) _ a w' → _›
      refine hgo _ _ ?_
      clear hgo
      refine wp_cond_true rfl ?_
      go_step
      go_step
      refine wpList_buildTo rfl 39 #[] rfl (some 65) rfl #[.int .i64 0, .int .i64 0, .int .u64 0] (by kernel_rfl) ?_
      refine wpList_store_rowTo rfl 39 (.tmp 2) (.tmp 65) rfl rfl w.heap.size #[.int .i64 0, .int .i64 0, .int .u64 0] rfl rfl 39 _ KZ.out (by rw [info39]; rfl) rfl (by kernel_rfl) ?_
      clear HM HC RG G4 G8 G16 HS HRo'
      go_wp2_with fail
      exact bodyPost_ret (results_cell_two rfl _ _ w.heap.size _ rfl (load39 (KZ.out.row _))) rfl ⟨by rw [headV_no NO]; rfl, Below.row KB.out (Nat.le_refl _) _⟩
end Go.Proofs.Ytofhdehigfdmkaa
