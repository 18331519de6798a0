/- ANY STEP; scripts in memory; THE WALK of CachePlays. -/
import Derived.Test.YtghakgepchlpgaaX12
import Derived.Test.YtghakgepchlpgaaX14
import Derived.Test.YtghakgepchlpgaaL
import Derived.Deep.MidRow
namespace Go.Proofs.Ytghakgepchlpgaa
open Go.ChangeShapes Go.WideShapes Go.ChangeAt Go.RowKit Go.Maps
/-- one step of a script -/
structure OpI where
  k : Int
  on : Int
  n : Int
  x : Int
def noOp : OpI := ⟨0, 0, 0, 0⟩
def OpI.cells (o : OpI) : List Value := [.int .i64 o.k, .int .i64 o.on, .int .i64 o.n, .int .i64 o.x]
def OpI.ok (o : OpI) : Prop := Wf o.k ∧ Wf o.on ∧ Wf o.n ∧ Wf o.x
def Ro (w : World) (B : Nat) (A : Option Addr) (l : List OpI) : Prop :=
  l = [] ∨ ∃ b off, A = some ⟨b, off, none⟩ ∧ b < B ∧ ∀ k, k < l.length → w.rangeAt b (off + k * 4) (l.getD k noOp).cells
theorem Ro.below {w w' : World} {B B' : Nat} {A : Option Addr} {l : List OpI} (h : Ro w B A l) (hb : Below B' w w') (hB : B ≤ B') : Ro w' B A l := by
  rcases h with h | ⟨b, off, hA, hlt, hc⟩
  · exact .inl h
  · exact .inr ⟨b, off, hA, hlt, fun k hk j v hv => (hb.cell (p := ⟨b, off + k * 4 + j, none⟩) (by show b < B'; omega)).trans (hc k hk j v hv)⟩
instance : Inhabited OpI := ⟨noOp⟩
theorem open_op {H : Type} {enc : TypeId × Value → H} {W : World} {n : Nat} {cs : List Value} {y : DataW H × List MemPlace}
    (h : DataW.trod enc Try.prog W 0 (fun _ => true) true n 51 cs = some y) (hl : cs.length = 4) : ∃ o : OpI, cs = o.cells ∧ o.ok := by
  obtain ⟨xs, m, _, hx, _, hlen, hg⟩ := DataW.trod_struct Try.underlying51 h
  match cs, hl with
  | [c0, c1, c2, c3], _ =>
    match xs, hlen with
    | [y0, y1, y2, y3], _ =>
      have g0 := hg 0 _ rfl
      have g1 := hg 1 _ rfl
      have g2 := hg 2 _ rfl
      have g3 := hg 3 _ rfl
      have e3 : Try.prog.cellsOf 3 = 1 := by kernel_rfl
      simp [e3] at g0 g1 g2 g3
      obtain ⟨a, q0, _, w0⟩ := DataW.trod_int Try.underlying3 g0
      obtain ⟨b, q1, _, w1⟩ := DataW.trod_int Try.underlying3 g1
      obtain ⟨c, q2, _, w2⟩ := DataW.trod_int Try.underlying3 g2
      obtain ⟨d, q3, _, w3⟩ := DataW.trod_int Try.underlying3 g3
      simp at q0 q1 q2 q3
      exact ⟨⟨a, b, c, d⟩, by rw [q0, q1, q2, q3]; rfl, w0, w1, w2, w3⟩
theorem open_ops {H : Type} {enc : TypeId × Value → H} {W : World} {base : Nat} {v : Value} {d : DataW H} {p : List MemPlace}
    (hv : Value.okWide Try.prog W .any base 41 v) (h : DataW.Trod enc Try.prog W 0 (fun _ => true) true 41 v d p) :
    ∃ (A : Option Addr) (cap : Nat) (l : List OpI), v = .slice A l.length cap ∧ Ro W W.heap.size A l ∧ (∀ o ∈ l, o.ok) ∧ ((d = .nil ∧ l.length = 0) ∨ ∃ es sp, d = .slice es sp ∧ es.length = l.length) := by
  obtain ⟨a0, len, cap, rfl⟩ := okWide_slice Try.underlying41 hv
  obtain ⟨fuel, hf⟩ := h
  rcases Go.Deep.open_slice Try.underlying41 hf with ⟨hcs, hx⟩ | ⟨a, l, c, m, n, D, Pl, hcs, _, hlc, hcm, hm, hd, hel⟩
  · simp [Value.cells] at hcs
    obtain ⟨rfl, rfl, rfl⟩ := hcs
    exact ⟨none, 0, [], rfl, .inl rfl, (fun o ho => by cases ho), .inl ⟨congrArg Prod.fst hx, rfl⟩⟩
  · simp [Value.cells] at hcs
    obtain ⟨rfl, rfl, rfl⟩ := hcs
    simp only [if_true] at hm
    have c51 : Try.prog.cellsOf 51 = 4 := by kernel_rfl
    have hdd : d = .slice ((List.range len).map D) ((List.range (m - len)).map fun j => D (len + j)) := congrArg Prod.fst hd
    rw [c51] at hel
    have hex : ∀ i, i < len → ∃ o : OpI, (∀ j v, o.cells[j]? = some v → W.cell? ((a.add (i * 4)).add j) = some v) ∧ o.ok := by
      intro i hi
      obtain ⟨cs', hc, ht⟩ := hel i (by omega)
      obtain ⟨_, hlen, hget⟩ := World.cells?_some hc
      obtain ⟨o, rfl, ho⟩ := open_op ht hlen
      refine ⟨o, fun j v hj => ?_, ho⟩
      have hj4 : j < 4 := by
        have := (List.getElem?_eq_some_iff.1 hj).1
        simpa [OpI.cells] using this
      rw [hget j hj4, ← hj]
    obtain ⟨V, hV⟩ := Go.Deep.choose_lt hex
    refine ⟨some a, cap, (List.range len).map V, by simp, ?_, fun o ho => ?_, .inr ⟨_, _, hdd, by simp⟩⟩
    · by_cases h0 : len = 0
      · left; subst h0; rfl
      · right
        obtain ⟨b, off, spot⟩ := a
        have hspot : spot = none := by
          have := World.cell?_spot ((hV 0 (by omega)).1 0 _ rfl)
          simpa [Addr.add] using this
        subst hspot
        refine ⟨b, off, rfl, ?_, fun k hk j v hj => ?_⟩
        · have := World.block_lt_of_cell? _ _ ((hV 0 (by omega)).1 0 _ rfl)
          simpa [Addr.add] using this
        · have hk' : k < len := by simpa using hk
          have hg : ((List.range len).map V).getD k noOp = V k := by simp [List.getD, hk']
          rw [hg] at hj
          have h1 := (hV k hk').1 j v hj
          rw [Go.WideShapes.add_plain, Go.WideShapes.add_plain] at h1
          exact h1
    · obtain ⟨i, hi, rfl⟩ := List.mem_map.1 ho
      exact (hV i (by simpa using hi)).2
theorem bulk_len {H : Type} {ds gs : List (DataW H)} {d : DataW H} {n : Nat} (hk : Rows.uptoSmall H (ds ++ gs) = true) (hd : d ∈ ds ++ gs)
    (h : (d = .nil ∧ n = 0) ∨ ∃ es sp, d = .slice es sp ∧ es.length = n) : n ≤ 1048576 := by
  have h0 : Rows.uptoBulkAll (ds ++ gs) ≤ 1048576 := of_decide_eq_true hk
  rcases h with ⟨_, rfl⟩ | ⟨es, sp, rfl, hl⟩
  · exact Nat.zero_le _
  · have h1 := bulk_part hd
    have h2 := bulk_length es
    simp only [Rows.uptoBulk] at h1
    omega
theorem step_any {B gw N steps : Nat} {w w0 : World} {pt : Nat → Nat → Nat} {CV LV RV OV WV : Value} {rs ws : List Row} {ob : Nat → Nat → Ob} (h : Md B w0 w gw N pt CV LV RV OV WV rs ws ob) (hg : Good N steps ob) (hN : N ≤ 30)
    (hst : steps ≤ 4611686018427387904) (hlen : rs.length ≤ 99999990) (kd on n x : Int) (w1 : Wf on) (w2 : Wf n) :
    Calls Try.prog 16 #[.pointer (some ⟨gw, 0, none⟩), .agg #[.int .i64 kd, .int .i64 on, .int .i64 n, .int .i64 x]] w fun r w' => r = .returned (.bool true) ∧ StepOut B w0 w' gw steps rs.length := by
  by_cases k1 : kd = 1
  · subst k1; exact step_new h hg hN on n x
  by_cases hz : N = 0
  · exact step_empty h hg hN kd on n x k1 hz
  have ho : -9223372036854775808 ≤ on ∧ on ≤ 9223372036854775807 := ⟨i64_ge _ w1, i64_le _ w1⟩
  obtain ⟨p0, p1⟩ := pickN_in on (N : Int) (by omega)
  obtain ⟨i, hp⟩ : ∃ i : Nat, pickN on (N : Int) = (i : Int) := ⟨(pickN on (N : Int)).toNat, by omega⟩
  have hi : i < N := by omega
  by_cases k2 : kd = 2
  · subst k2; exact step_get h hg hN on n x hi hp ho w2
  by_cases k3 : kd = 3
  · subst k3; exact step_put h hg hN on n x hi hp ho w2
  by_cases k4 : kd = 4
  · subst k4; exact step_held4 h hg hN on n x hi hp ho w2 hst
  by_cases k5 : kd = 5
  · subst k5; exact step_held5 h hg hN on n x hi hp ho w2 hst
  by_cases k6 : kd = 6
  · subst k6; exact step_held6 h hg hN on n x hi hp ho w2 hst
  by_cases k7 : kd = 7
  · subst k7; exact step_tells h hg hN on n x hi hp ho hlen
  by_cases k8 : kd = 8
  · subst k8
    obtain ⟨P, hit, miss, M, ok, h1, h2, h3, h4⟩ := hg.ok i hi
    rcases split_or M n with ⟨u, e, v, rfl, rfl, -⟩ | hno
    · exact step_turn_some h hg hN on x hi hp ho ok h1 h2 h3 h4
    · exact step_turn_none h hg hN on n x hi hp ho ok h1 h2 h3 h4 w2 hno
  exact step_other h hg hN kd on n x hi hp ho ⟨k1, k2, k3, k4, k5, k6, k7, k8⟩
theorem mine_wo {B gw N : Nat} {w : World} {pt : Nat → Nat → Nat} {CV LV RV OV WV : Value} {rs ws : List Row} (h : Wo B w gw N pt CV LV RV OV WV rs ws) (hl : rs.length ≤ 100000000) :
    Calls Try.prog 18 #[.pointer (some ⟨gw, 0, none⟩)] w fun e w' => e = .returned (.bool true) ∧ Below B w w' := by
  obtain ⟨A, A', n, c, c', L, h1, h2, h3, h4, h5, h6⟩ := h.fn
  obtain ⟨AL, cL, rfl⟩ := rowShape h1
  obtain ⟨AW, cW, rfl⟩ := rowShape h2
  refine (mine_any B gw rs.length A A' n c c' L CV LV RV AL AW cL cW w h.blk h.size h1 h2 h3 h4 h5 h6 hl).mono ?_
  rintro e w' ⟨rfl, k⟩
  refine ⟨rfl, Kept.below k (fun q hq => ?_) h.size⟩
  obtain ⟨r, hr, e⟩ := hq
  exact (World.ownsRow.lt (h3 r hr).1 q (by rw [bk_eq]; exact e)).1
def noOb : Ob := ⟨0, 0, 0, 0, [], fun _ => False⟩
theorem Md.none_ {B g : Nat} {w0 w : World} (hb : Blk w g 48 #[.slice none 0 0, .slice none 0 0, .slice none 0 0, .slice none 0 0, .slice none 0 0]) (hB : B ≤ g) (hbel : Below B w0 w) :
    Md B w0 w g 0 (fun _ _ => 0) (.slice none 0 0) (.slice none 0 0) (.slice none 0 0) (.slice none 0 0) (.slice none 0 0) [] [] (fun _ _ => noOb) :=
  ⟨⟨hb, World.ownsRow_nil _ _ _ _, World.ownsRow_nil _ _ _ _, World.ownsRow_nil _ _ _ _, World.ownsRow_nil _ _ _ _, World.ownsRow_nil _ _ _ _, (fun k hk => by simp [Value.ownBlock] at hk), (fun r hr => by cases hr), (fun r hr => by cases hr), rfl, List.Pairwise.nil, hB, Nat.le_of_lt (Nat.lt_of_le_of_lt hB hb.lt)⟩,
    ⟨fun K i _ hi => absurd hi (by omega), fun K i K' i' _ hi => absurd hi (by omega), fun K i _ hi => absurd hi (by omega), fun K i _ hi => absurd hi (by omega)⟩, fun K i _ hi => absurd hi (by omega), hbel⟩
set_option maxHeartbeats 2000000 in
set_option maxRecDepth 100000 in
theorem cachePlays_walk (A : Option Addr) (c : Nat) (l : List OpI) (w : World) (hr : Ro w w.heap.size A l) (hok : ∀ o ∈ l, o.ok) (hl : l.length ≤ 1048576) :
    Calls Try.prog 6 #[.slice A l.length c] w fun e w' => e = .returned (.bool true) ∧ Below w.heap.size w w' := by
  have HR := Lib.hid hr
  have HOK := Lib.hid hok
  obtain ⟨m, hm⟩ : ∃ m, m = l.length := ⟨_, rfl⟩
  have HM := Lib.hid hm
  rw [← hm] at hl ⊢
  clear hr hok hm
  go_enter Try.func6, Try.ntmps6
  go_wp2_with fail
  refine (shown_true _).mono ?_
  rintro e w1 ⟨rfl, b1⟩
  have B1 := Lib.hid (b1.alloc b1.size (.cells #[.slice none 0 0, .slice none 0 0, .slice none 0 0, .slice none 0 0, .slice none 0 0] 48))
  have G1 := Lib.hid (Blk.new w1 48 #[.slice none 0 0, .slice none 0 0, .slice none 0 0, .slice none 0 0, .slice none 0 0])
  obtain ⟨g, hg⟩ : ∃ x, x = w1.heap.size := ⟨_, rfl⟩
  have HG := Lib.hid (show w.heap.size ≤ g by rw [hg]; exact b1.size)
  go_upto_region 3 with fail
  rw [← hg] at G1 ⊢
  clear b1 hg
  generalize World.alloc w1 _ = W1 at B1 G1 ⊢
  clear w1
  have M0 := Lib.hid (Md.none_ G1.out HG.out B1.out)
  clear G1 B1
  go_wp2_with fail
  go_loopw [5] (fun iv wr => ∃ (k N : Nat) (pt : Nat → Nat → Nat) (CV LV RV OV WV : Value) (rs ws : List Row) (ob : Nat → Nat → Ob), k ≤ m ∧ iv = .int .i64 (k : Int) ∧ Md w.heap.size w wr g N pt CV LV RV OV WV rs ws ob ∧ Good N (3 * k) ob ∧ N ≤ 30 ∧ rs.length ≤ 2 * k) (fun iv _ => m - (intOf iv).toNat)
  case atStart => exact ⟨0, 0, _, _, _, _, _, _, _, _, _, by omega, rfl, M0.out, ⟨fun j hj => absurd hj (by omega)⟩, by omega, by simp⟩
  case round =>
    obtain ⟨k, N, pt, CV, LV, RV, OV, WV, rs, ws, ob, hk, rfl, h1, h2, h3, h4⟩ := hrel
    by_cases hlt : k < m
    · rcases HR.out.below h1.bel (Nat.le_refl _) with h0 | ⟨b, off, rfl, hb, hc⟩
      · rw [h0] at HM
        have := HM.out
        simp at this
        omega
      have hkl : k < l.length := by rw [← HM.out]; exact hlt
      have hck := hc k hkl
      have hmem : l.getD k noOp ∈ l := getD_mem l noOp k hkl
      obtain ⟨o, ho⟩ : ∃ o, o = l.getD k noOp := ⟨_, rfl⟩
      rw [← ho] at hck hmem
      have hoo := HOK.out o hmem
      obtain ⟨kd, on, n, x⟩ := o
      have RG := Lib.hid (show wr.rangeAt b (off + k * 4) [.int .i64 kd, .int .i64 on, .int .i64 n, .int .i64 x] from hck)
      have HS := Lib.hid (step_any h1 h2 h3 (by omega) (by omega) kd on n x hoo.2.1 hoo.2.2.1)
      have H4 := Lib.hid h4
      have hd : decide ((k : Int) < (m : Int)) = true := by simp; omega
      have hd2 : (k : Int) < (m : Int) := by omega
      clear h1 h2 hb hc hck hmem ho hoo hkl h4
      go_wp2_with (first
        | (refine wpList_load_mid rfl 51 (.tmp 22) rfl b (off + k * 4) rfl [.int .i64 kd, .int .i64 on, .int .i64 n, .int .i64 x] _ RG.out Try.underlying51 rfl (by kernel_rfl) ?_)
        | (go_at_call 16
           refine HS.out.mono ?_
           rintro r w3 ⟨rfl, N', pt', CV', LV', RV', OV', WV', rs', ws', ob', m', g', n', l'⟩
           have MM := Lib.hid (And.intro m' (And.intro g' (And.intro n' l')))
           clear m' g' n' l'))
      go_roundw
      case rel => exact ⟨k + 1, N', pt', CV', LV', RV', OV', WV', rs', ws', ob', by omega, by go_num, MM.out.1, by rw [show 3 * (k + 1) = 3 * k + 3 by omega]; exact MM.out.2.1, MM.out.2.2.1, by have := MM.out.2.2.2; have := H4.out; omega⟩
      case measure => simp [intOf] <;> omega
    · obtain rfl : k = m := by omega
      have hd : decide ((k : Int) < (k : Int)) = false := by simp
      obtain ⟨A0, c0, rfl⟩ := rowShape h1.wo.c
      have H1 := Lib.hid (And.intro h1 (And.intro h2 h4))
      clear h1 h2 h4 HR HOK HM M0
      go_wp2_with fail
      obtain ⟨w2, hw2⟩ : ∃ x, x = wr := ⟨_, rfl⟩
      rw [← hw2] at H1 ⊢
      clear hw2 wr
      go_loopw [7] (fun iv wr => ∃ (i : Nat) (OV WV : Value) (rs ws : List Row), i ≤ N ∧ iv = .int .i64 (i : Int) ∧ Md w.heap.size w wr g N pt (.slice A0 N c0) LV RV OV WV rs ws ob ∧ rs.length ≤ 2 * k + 2 * i) (fun iv _ => N - (intOf iv).toNat)
      case atStart => exact ⟨0, OV, WV, rs, ws, by omega, rfl, H1.out.1, by have := H1.out.2.2; omega⟩
      case round =>
        obtain ⟨i, OV2, WV2, rs2, ws2, hi, rfl, m1, l1⟩ := hrel
        have z0 : wr.cell? ⟨g, 0, none⟩ = some (.slice A0 N c0) := m1.wo.blk.cell 0
        by_cases hlt2 : i < N
        · have HT := Lib.hid (tells_any m1 H1.out.2.1 hlt2 (by omega))
          have L1 := Lib.hid l1
          have hd3 : decide ((i : Int) < (N : Int)) = true := by simp; omega
          have hd4 : (i : Int) < (N : Int) := by omega
          clear m1 l1
          go_wp2_with (first
            | (go_at_call 17
               refine HT.out.mono ?_
               rintro r w3 ⟨rfl, OV', WV', rs', ws', m', l'⟩
               have MM := Lib.hid (And.intro m' l')
               clear m' l'))
          go_roundw
          case rel => exact ⟨i + 1, OV', WV', rs', ws', by omega, by go_num, MM.out.1, by have := MM.out.2; have := L1.out; omega⟩
          case measure => simp [intOf] <;> omega
        · obtain rfl : i = N := by omega
          have hd3 : decide ((i : Int) < (i : Int)) = false := by simp
          have HE := Lib.hid (mine_wo m1.wo (by omega))
          have HB := Lib.hid m1.bel
          clear m1 l1
          go_wp2_with (first
            | (go_at_call 18
               refine HE.out.mono ?_
               rintro r w3 ⟨rfl, b'⟩
               have BB := Lib.hid (HB.out.trans b')
               clear b'))
          go_ret
          exact ⟨rfl, BB.out⟩
end Go.Proofs.Ytghakgepchlpgaa
