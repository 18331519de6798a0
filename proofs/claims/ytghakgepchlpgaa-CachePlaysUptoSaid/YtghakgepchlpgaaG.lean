/- WALKS of package cache, of ints: Put of a number that is not there: room; full. -/
import Derived.Test.YtghakgepchlpgaaF
import Derived.LaidEqlPtr
namespace Go.Proofs.Ytghakgepchlpgaa
open Go.RowKit Go.Maps
open Ring (upd upd_same upd_other)
theorem perm_snoc {α β : Type} (f : α → β) (L : List α) (e : α) : (f e :: L.map f).Perm ((L ++ [e]).map f) := by rw [List.map_append]; exact List.perm_append_comm (l₁ := [_])
theorem infoP {e : TypeId} (h : (Try.prog.info? e).map (·.size) = some 5) : ∃ j, Try.prog.info? e = some j ∧ j.size ≠ 0 := by
  cases hj : Try.prog.info? e with
  | none => rw [hj] at h; cases h
  | some j => rw [hj] at h; exact ⟨j, rfl, by simp at h; omega⟩
theorem neq_same {tp te : TypeId} (w : World) (a : Addr) (hp : Try.prog.underlying tp = some (.pointer te)) (hi : (Try.prog.info? te).map (·.size) = some 5) :
    (binOp .neq tp (.pointer (some a)) (.pointer (some a))).run Try.prog w = .ok (.bool false) w := by
  obtain ⟨j, hte, _⟩ := infoP hi
  have h : ∀ d : Nat, (Op.equalIn (d + 1) tp (.pointer (some a)) (.pointer (some a))).run Try.prog w = .ok true w := fun d => by
    simp [Op.equalIn, run_underlying hp, sizeOf, typeInfo, hte, run_sameAddr_same]
  simp only [binOp]
  simp [Op.equal, Op.maxDepth, h 9999]
theorem eql_same {tp te : TypeId} (w : World) (a : Addr) (hp : Try.prog.underlying tp = some (.pointer te)) (hi : (Try.prog.info? te).map (·.size) = some 5) :
    (binOp .eql tp (.pointer (some a)) (.pointer (some a))).run Try.prog w = .ok (.bool true) w := by
  obtain ⟨j, hte, _⟩ := infoP hi
  exact run_eql_ptr_same w a hp hte
theorem neq_other {tp te : TypeId} {w : World} {g g' o o' : Nat} {ca cb : Array Value} {ta tb : TypeId} (hp : Try.prog.underlying tp = some (.pointer te)) (hi : (Try.prog.info? te).map (·.size) = some 5)
    (hne : g ≠ g') (ha : Blk w g ta ca) (hb : Blk w g' tb cb) : (binOp .neq tp (.pointer (some ⟨g, o, none⟩)) (.pointer (some ⟨g', o', none⟩))).run Try.prog w = .ok (.bool true) w := by
  obtain ⟨j, hte, hsz⟩ := infoP hi
  have hne' : (⟨g, o, none⟩ : Addr) ≠ ⟨g', o', none⟩ := fun e => hne (by injection e)
  have h : ∀ d : Nat, (Op.equalIn (d + 1) tp (.pointer (some ⟨g, o, none⟩)) (.pointer (some ⟨g', o', none⟩))).run Try.prog w = .ok false w := fun d => by
    simp [Op.equalIn, run_underlying hp, sizeOf, typeInfo, hte, hsz, run_sameAddr_other w hne' ha hb]
  simp only [binOp]
  simp [Op.equal, Op.maxDepth, h 9999]
theorem eql_other {tp te : TypeId} {w : World} {g g' o o' : Nat} {ca cb : Array Value} {ta tb : TypeId} (hp : Try.prog.underlying tp = some (.pointer te)) (hi : (Try.prog.info? te).map (·.size) = some 5)
    (hne : g ≠ g') (ha : Blk w g ta ca) (hb : Blk w g' tb cb) : (binOp .eql tp (.pointer (some ⟨g, o, none⟩)) (.pointer (some ⟨g', o', none⟩))).run Try.prog w = .ok (.bool false) w := by
  obtain ⟨j, hte, hsz⟩ := infoP hi
  exact run_eql_ptr_other w hp hte hsz (fun e => hne (by injection e)) ha hb
theorem info56 : (Try.prog.info? 56).map (·.size) = some 5 := by kernel_rfl
/-- the first place, or the ring -/
def hdB (cb : Nat) (L : List Ent) : Nat := (L.map (·.b)).headD cb
/-- how many places are left from a block on -/
def left : List Nat → Nat → Nat
  | [], _ => 0
  | x :: l, b => if x = b then l.length + 1 else left l b
theorem left_at {v : List Nat} {b : Nat} : ∀ {u : List Nat}, b ∉ u → left (u ++ b :: v) b = v.length + 1
  | [], _ => if_pos rfl
  | x :: u, h => by
    simp only [List.mem_cons, not_or] at h
    rw [List.cons_append, left, if_neg (Ne.symm h.1), left_at h.2]
theorem left_end {b : Nat} : ∀ {l : List Nat}, b ∉ l → left l b = 0
  | [], _ => rfl
  | x :: l, h => by
    simp only [List.mem_cons, not_or] at h
    rw [left, if_neg (Ne.symm h.1), left_end h.2]
def dist (L : List Ent) (v : Value) : Nat :=
  match v with
  | .pointer (some ⟨b, _, _⟩) => left (L.map (·.b)) b
  | _ => 0
theorem dist_at {u v : List Ent} {e : Ent} (h : ((u ++ e :: v).map (·.b)).Nodup) (o : Nat) : dist (u ++ e :: v) (.pointer (some ⟨e.b, o, none⟩)) = v.length + 1 := by
  have hn : e.b ∉ u.map (·.b) := by
    simp only [List.map_append, List.map_cons, List.nodup_append] at h
    intro hx
    exact h.2.2 _ hx _ (by simp) rfl
  simp only [dist, List.map_append, List.map_cons]
  rw [left_at hn, List.length_map]
theorem dist_end {cb : Nat} {L : List Ent} (h : cb ∉ L.map (·.b)) (o : Nat) : dist L (.pointer (some ⟨cb, o, none⟩)) = 0 := left_end h
theorem exec_len {T E : TypeId} {W : World} {mb : Nat} {M : List (Int × Nat)} {a : Act} {o : Oper} (s : Operand) (ho : o.op = .call { callee := .builtin .len, args := #[s], argTypes := #[T] }) (ht : Try.prog.underlying T = some (.map 3 E))
    (hx : a.eval s = .map (some mb)) (h : Mp W mb M) : (execOp a.eval o).run Try.prog W = .ok (.value (.int .i64 (M.length : Int))) W := by
  simp [execOp, ho, resolve, invoke, builtin, hx, h.len ht o.type, Result.andThen]
theorem nodup_snoc {L : List Ent} (h : (L.map (·.n)).Nodup) (e : Ent) (hno : ∀ y ∈ L, y.n ≠ e.n) : ((L ++ [e]).map (·.n)).Nodup := by
  rw [List.map_append, List.nodup_append]
  refine ⟨h, by simp, fun a ha b hb e2 => ?_⟩
  obtain ⟨y, hy, rfl⟩ := List.mem_map.1 ha
  simp only [List.map_cons, List.map_nil, List.mem_singleton] at hb
  subst hb
  exact hno y hy e2
theorem wf_snoc {L : List Ent} (h : ∀ y ∈ L, Wf y.n) (e : Ent) (he : Wf e.n) : ∀ y ∈ L ++ [e], Wf y.n := by
  intro y hy
  rcases List.mem_append.1 hy with hy | hy
  · exact h y hy
  · obtain rfl := List.mem_singleton.1 hy; exact he
/-- behind a step in which a block that was new ahead of it, and blocks of S, may turn -/
theorem Kept.trans' {S T : Nat → Prop} {a b c : World} (h : Kept S a b) {g n : Nat} (h' : Kept (fun k => k = g ∨ T k) b c) (hg : n = g) (hn : a.heap.size ≤ n) (ht : ∀ k, T k → S k) : Kept S a c :=
  ⟨h'.os.trans h.os, h'.tape.trans h.tape, h'.output.trans h.output, Nat.le_trans h.size h'.size, fun k hk hs => (h'.block k (Nat.lt_of_lt_of_le hk h.size) (fun e => by
    rcases e with e | e
    · omega
    · exact hs (ht k e))).trans (h.block k hk hs)⟩
theorem below_drewN {B : Nat} {a w : World} (h : Below B a w) (n : Nat) : Below B a (w.drewN n) := ⟨h.os, h.tape, h.output, h.size, h.block⟩
section
variable {w : World} {cb mb : Nat} {P hit miss : Int} {L : List Ent}
set_option maxHeartbeats 1000000 in
theorem put_room (h : CA 58 56 (.int .i64 0) w cb mb P hit miss L) (n x : Int) (hn : Wf n) (hno : ∀ e ∈ L, e.n ≠ n) (hr : (L.length : Int) < P) (hP : P ≤ 65536) : Calls Try.prog 11 #[.pointer (some ⟨cb, 0, none⟩), .int .i64 n, .int .i64 x] w fun r w' =>
    r = .returned (.tuple #[.int .i64 0, .bool false]) ∧ ∃ b, CA 58 56 (.int .i64 0) w' cb mb P hit miss (L ++ [⟨b, n, .int .i64 x, 0⟩]) ∧ Kept (Bl cb mb L) w w' ∧ w.heap.size ≤ b := by
  have c1 := h.mapCell
  have hrun := h.miss_ Try.underlying53 (zero54 w) hn hno
  have hlen := fun ty => h.map.len Try.underlying53 ty
  rw [List.length_map] at hlen
  have HNO := Lib.hid hno
  have HW := Lib.hid hn
  have HSZ := Lib.hid (show L.length < maxLen by unfold maxLen; omega)
  have HC0 := Lib.hid h
  have p0 : w.cell? ⟨cb, 0, none⟩ = some (.int .i64 P) := by
    obtain ⟨⟨nx, el, hl, _⟩, _⟩ := h
    exact hl.cache.cell 0
  have hge : ¬ P ≤ (L.length : Int) := by omega
  have HMB := Lib.hid (show ∀ k, k = mb → Bl cb mb L k from fun k h => .inl h)
  clear h hn hno
  go_enter Try.func11, Try.ntmps11
  go_wp2_with fail
  refine wp_region_held_drew (S := fun W' => (W'.cell? ⟨cb, 1, none⟩ = some (.map (some mb)) ∧ W'.cell? ⟨cb, 0, none⟩ = some (.int .i64 P)) ∧ Mp W' mb (L.map fun e => (e.n, e.b))) (by kernel_rfl) (by exact ⟨⟨c1, p0⟩, HC0.out.map⟩) (fun hHeld => ?_)
  change wpAnyH _ _ _ _ _ _ _ _ w.drew
  refine takeTo (i := 0) (v := ?_) (some 30) rfl rfl (by kernel_rfl) (by kernel_rfl) (by kernel_rfl) (fun _ _ _ h => h) (Or.inl ⟨by rfl, ?_⟩) (by assumption) ?_
  rotate_left
  · (intro W7 hSw; (try dsimp only at hSw); go_simp; try with_reducible rfl)
  try simp only [Act.put, List.setIfInBounds_toArray, List.set_cons_zero, List.set_cons_succ]
  refine takeTo (i := 1) (v := ?_) (some 31) rfl rfl (by kernel_rfl) (by kernel_rfl) (by kernel_rfl) (fun _ _ _ h => h) (Or.inl ⟨by rfl, ?_⟩) (by assumption) ?_
  rotate_left
  · (intro W7 hSw; (try dsimp only at hSw); go_simp; try with_reducible rfl)
  try simp only [Act.put, List.setIfInBounds_toArray, List.set_cons_zero, List.set_cons_succ]
  refine takeTo (i := 2) (v := ?_) (some 32) rfl rfl (by kernel_rfl) (by kernel_rfl) (by kernel_rfl) (fun _ _ _ h => h) (Or.inl ⟨by rfl, ?_⟩) (by assumption) ?_
  rotate_left
  · (intro W7 hSw; (try dsimp only at hSw); go_simp; try with_reducible rfl)
  try simp only [Act.put, List.setIfInBounds_toArray, List.set_cons_zero, List.set_cons_succ]
  refine takeTo (i := 3) (v := ?_) (some 33) rfl rfl (by kernel_rfl) (by kernel_rfl) (by kernel_rfl) (fun _ _ _ h => h) (Or.inl ⟨by rfl, ?_⟩) (by assumption) ?_
  rotate_left
  · (intro W7 hSw; (try dsimp only at hSw); go_simp; try with_reducible rfl)
  try simp only [Act.put, List.setIfInBounds_toArray, List.set_cons_zero, List.set_cons_succ]
  refine takeTo (i := 4) (v := .int .i64 ((L.map fun e => (e.n, e.b)).length : Int)) (some 34) rfl rfl (by kernel_rfl) (by kernel_rfl) (by kernel_rfl) (fun _ _ _ h => h) (Or.inl ⟨by rfl, fun W7 hSw => exec_len (.tmp 33) rfl Try.underlying53 rfl hSw.2⟩) (by assumption) ?_
  try simp only [Act.put, List.setIfInBounds_toArray, List.set_cons_zero, List.set_cons_succ]
  rw [List.length_map]
  refine takeTo (i := 5) (v := ?_) (some 35) rfl rfl (by kernel_rfl) (by kernel_rfl) (by kernel_rfl) (fun _ _ _ h => h) (Or.inl ⟨by rfl, ?_⟩) (by assumption) ?_
  rotate_left
  · (intro W7 hSw; (try dsimp only at hSw); go_simp; try with_reducible rfl)
  try simp only [Act.put, List.setIfInBounds_toArray, List.set_cons_zero, List.set_cons_succ]
  refine takeTo (i := 6) (v := ?_) (some 36) rfl rfl (by kernel_rfl) (by kernel_rfl) (by kernel_rfl) (fun _ _ _ h => h) (Or.inl ⟨by rfl, ?_⟩) (by assumption) ?_
  rotate_left
  · (intro W7 hSw; (try dsimp only at hSw); go_simp; try with_reducible rfl)
  try simp only [Act.put, List.setIfInBounds_toArray, List.set_cons_zero, List.set_cons_succ]
  refine takeTo (i := 7) (v := ?_) (some 37) rfl rfl (by kernel_rfl) (by kernel_rfl) (by kernel_rfl) (fun _ _ _ h => h) (Or.inl ⟨by rfl, ?_⟩) (by assumption) ?_
  rotate_left
  · (intro W7 hSw; (try dsimp only at hSw); go_simp; try with_reducible rfl)
  try simp only [Act.put, List.setIfInBounds_toArray, List.set_cons_zero, List.set_cons_succ]
  refine takeTo (i := 8) (v := ?_) (some 38) rfl rfl (by kernel_rfl) (by kernel_rfl) (by kernel_rfl) (fun _ _ _ h => h) (Or.inl ⟨by rfl, ?_⟩) (by assumption) ?_
  rotate_left
  · (intro W7 hSw; (try dsimp only at hSw); go_simp; try with_reducible rfl)
  try simp only [Act.put, List.setIfInBounds_toArray, List.set_cons_zero, List.set_cons_succ]
  refine takeTo (i := 9) (v := ?_) (some 39) rfl rfl (by kernel_rfl) (by kernel_rfl) (by kernel_rfl) (fun _ _ _ h => h) (Or.inl ⟨by rfl, ?_⟩) (by assumption) ?_
  rotate_left
  · (intro W7 hSw; (try dsimp only at hSw); go_simp; try with_reducible rfl)
  try simp only [Act.put, List.setIfInBounds_toArray, List.set_cons_zero, List.set_cons_succ]
  refine wpAnyH_done (by kernel_rfl) ?_ _
  clear hHeld
  have HC := Lib.hid (show CA 58 56 (.int .i64 0) w.drew cb mb P hit miss L from HC0.out.below (w' := w.drew) (Below.refl _ _).drew)
  have KW := Lib.hid ((Kept.refl (Bl cb mb L) w).drew)
  have HZ := Lib.hid (show w.drew.heap.size = w.heap.size from rfl)
  generalize World.drew w = W at HC KW HZ ⊢
  clear c1 p0 hrun hlen
  have q0 := Lib.hid (HC.out.below ((Below.refl W.heap.size W).alloc (Nat.le_refl _) (.cells #[.int .i64 n, .int .i64 x, .int .i64 0, .pointer none, .pointer none] 56)))
  have q1 := Lib.hid (Blk.new W 56 #[.int .i64 n, .int .i64 x, .int .i64 0, .pointer none, .pointer none])
  have q2 := Lib.hid (KW.out.alloc (.cells #[.int .i64 n, .int .i64 x, .int .i64 0, .pointer none, .pointer none] 56))
  have q3 := Lib.hid HC.out.lt
  have c1 := q0.out.mapCell
  go_wp2_with (first | (at_mapUpdate; refine wpList_keep rfl (.tmp 84) (.tmp 85) (.tmp 86) rfl Try.underlying53 W.heap.size rfl rfl rfl q0.out.map (by rw [List.length_map]; exact HSZ.out) HW.out (by
      intro y hy
      obtain ⟨z, hz, rfl⟩ := List.mem_map.1 hy
      exact HNO.out z hz) ?_; intro W3 hm3 hg3))
  obtain ⟨en, he⟩ : ∃ en : Ent, en = ⟨W.heap.size, n, .int .i64 x, 0⟩ := ⟨_, rfl⟩
  have eb : W.heap.size = en.b := by rw [he]
  have lt := q3.out
  rw [eb] at q1 lt hm3 ⊢
  have hnm := q0.out.mapNot
  obtain ⟨⟨nx, el, hl, hr⟩, hm, hnd, hw⟩ := q0.out
  have kg : Kept (fun k => k = mb) _ W3 := (Kept.refl (fun k => k = mb) _).grown hg3 (fun k hk => by cases hk; rfl)
  have hl3 := Lib.hid (hl.kept kg (fun q hq e2 => hnm (e2 ▸ hq)))
  have hbm : en.b ≠ mb := fun e2 => by have := lt mb (.inl rfl); omega
  have q4 := Lib.hid (q1.out.kept kg hbm)
  have q5 := Lib.hid (q2.out.trans (kg.mono (fun k _ h => HMB.out k h)))
  have HR := Lib.hid (And.intro hr (And.intro hnd hw))
  have HM3 := Lib.hid hm3
  have hbc : en.b ≠ cb := fun e2 => by have := lt cb (.inr (.inl rfl)); omega
  have hbn : en.b ∉ (L).map (·.b) := fun h => by
    obtain ⟨y, hy, hyb⟩ := List.mem_map.1 h
    have := lt y.b (.inr (.inr ⟨y, hy, rfl⟩))
    omega
  have HLT := Lib.hid (And.intro lt eb)
  clear hl hr hm hnd hw kg hg3 hm3 q0 q1 q2 c1 lt eb
  go_wp2_with fail
  refine (last_int hl3.out en _ _ (by rw [he] at q4 ⊢; exact q4.out) hbc hbn (node_of HR.out.1.ends.2)).mono ?_
  rintro r w4 ⟨rfl, L4, K4⟩
  have R4 := HR.out.1.last (p := en.b) (by simp only [List.mem_cons, not_or]; exact ⟨hbc, hbn⟩)
  have hnm4 : ¬ (mb = en.b ∨ Node cb (L) mb) := fun h => by
    rcases h with h | h
    · exact hbm h.symm
    · exact hnm h
  have M4 := (HM3.out.kept K4 hnm4).perm (L' := ((L) ++ [en]).map (fun e => (e.n, e.b))) (by
    rw [he]
    exact perm_snoc (fun e : Ent => (e.n, e.b)) (L) ⟨W.heap.size, n, .int .i64 x, 0⟩)
  have HF := Lib.hid (And.intro L4 (And.intro R4 (And.intro M4 K4)))
  clear L4 R4 M4 K4 HM3 hl3 q4
  go_wp2_with fail
  go_ret2
  refine ⟨rfl, W.heap.size, ?_, ?_, by rw [HZ.out]; exact Nat.le_refl _⟩
  · rw [show (⟨W.heap.size, n, .int .i64 x, 0⟩ : Ent) = en from he.symm]
    exact ⟨⟨_, _, HF.out.1, by simpa using HF.out.2.1⟩, HF.out.2.2.1, nodup_snoc HR.out.2.1 en (by rw [he]; exact HNO.out), wf_snoc HR.out.2.2 en (by rw [he]; exact HW.out)⟩
  · exact q5.out.trans' HF.out.2.2.2 HLT.out.2 (by rw [HZ.out]; exact Nat.le_refl _) (fun k h => .inr h)

set_option maxHeartbeats 1000000 in
theorem put_full (h : CA 58 56 (.int .i64 0) w cb mb P hit miss L) (n x : Int) (hn : Wf n) (hno : ∀ e ∈ L, e.n ≠ n) (hr : P ≤ (L.length : Int)) (hl : L.length ≤ 65536) : Calls Try.prog 11 #[.pointer (some ⟨cb, 0, none⟩), .int .i64 n, .int .i64 x] w fun r w' =>
    (∃ u e v, L = u ++ e :: v ∧ (∀ y ∈ u, 0 < y.pin) ∧ e.pin ≤ 0 ∧ r = .returned (.tuple #[.int .i64 e.n, .bool true]) ∧ ∃ b, CA 58 56 (.int .i64 0) w' cb mb P hit miss (u ++ v ++ [⟨b, n, .int .i64 x, 0⟩]) ∧ Kept (Bl cb mb L) w w' ∧ w.heap.size ≤ b) ∨
    ((∀ y ∈ L, 0 < y.pin) ∧ r = .returned (.tuple #[.int .i64 n, .bool true]) ∧ CA 58 56 (.int .i64 0) w' cb mb P hit miss L ∧ Kept (Bl cb mb L) w w') := by
  have c1 := h.mapCell
  have hrun := h.miss_ Try.underlying53 (zero54 w) hn hno
  have hlen := fun ty => h.map.len Try.underlying53 ty
  rw [List.length_map] at hlen
  have HNO := Lib.hid hno
  have HW := Lib.hid hn
  have HLL := Lib.hid hl
  have HC0 := Lib.hid h
  have p0 : w.cell? ⟨cb, 0, none⟩ = some (.int .i64 P) := by
    obtain ⟨⟨nx, el, hl, _⟩, _⟩ := h
    exact hl.cache.cell 0
  have hge : P ≤ (L.length : Int) := hr
  have HMB := Lib.hid (show ∀ k, k = mb → Bl cb mb L k from fun k h => .inl h)
  clear h hn hno hl
  go_enter Try.func11, Try.ntmps11
  go_wp2_with fail
  refine wp_region_held_drew (S := fun W' => (W'.cell? ⟨cb, 1, none⟩ = some (.map (some mb)) ∧ W'.cell? ⟨cb, 0, none⟩ = some (.int .i64 P)) ∧ Mp W' mb (L.map fun e => (e.n, e.b))) (by kernel_rfl) (by exact ⟨⟨c1, p0⟩, HC0.out.map⟩) (fun hHeld => ?_)
  change wpAnyH _ _ _ _ _ _ _ _ w.drew
  refine takeTo (i := 0) (v := ?_) (some 30) rfl rfl (by kernel_rfl) (by kernel_rfl) (by kernel_rfl) (fun _ _ _ h => h) (Or.inl ⟨by rfl, ?_⟩) (by assumption) ?_
  rotate_left
  · (intro W7 hSw; (try dsimp only at hSw); go_simp; try with_reducible rfl)
  try simp only [Act.put, List.setIfInBounds_toArray, List.set_cons_zero, List.set_cons_succ]
  refine takeTo (i := 1) (v := ?_) (some 31) rfl rfl (by kernel_rfl) (by kernel_rfl) (by kernel_rfl) (fun _ _ _ h => h) (Or.inl ⟨by rfl, ?_⟩) (by assumption) ?_
  rotate_left
  · (intro W7 hSw; (try dsimp only at hSw); go_simp; try with_reducible rfl)
  try simp only [Act.put, List.setIfInBounds_toArray, List.set_cons_zero, List.set_cons_succ]
  refine takeTo (i := 2) (v := ?_) (some 32) rfl rfl (by kernel_rfl) (by kernel_rfl) (by kernel_rfl) (fun _ _ _ h => h) (Or.inl ⟨by rfl, ?_⟩) (by assumption) ?_
  rotate_left
  · (intro W7 hSw; (try dsimp only at hSw); go_simp; try with_reducible rfl)
  try simp only [Act.put, List.setIfInBounds_toArray, List.set_cons_zero, List.set_cons_succ]
  refine takeTo (i := 3) (v := ?_) (some 33) rfl rfl (by kernel_rfl) (by kernel_rfl) (by kernel_rfl) (fun _ _ _ h => h) (Or.inl ⟨by rfl, ?_⟩) (by assumption) ?_
  rotate_left
  · (intro W7 hSw; (try dsimp only at hSw); go_simp; try with_reducible rfl)
  try simp only [Act.put, List.setIfInBounds_toArray, List.set_cons_zero, List.set_cons_succ]
  refine takeTo (i := 4) (v := .int .i64 ((L.map fun e => (e.n, e.b)).length : Int)) (some 34) rfl rfl (by kernel_rfl) (by kernel_rfl) (by kernel_rfl) (fun _ _ _ h => h) (Or.inl ⟨by rfl, fun W7 hSw => exec_len (.tmp 33) rfl Try.underlying53 rfl hSw.2⟩) (by assumption) ?_
  try simp only [Act.put, List.setIfInBounds_toArray, List.set_cons_zero, List.set_cons_succ]
  rw [List.length_map]
  refine takeTo (i := 5) (v := ?_) (some 35) rfl rfl (by kernel_rfl) (by kernel_rfl) (by kernel_rfl) (fun _ _ _ h => h) (Or.inl ⟨by rfl, ?_⟩) (by assumption) ?_
  rotate_left
  · (intro W7 hSw; (try dsimp only at hSw); go_simp; try with_reducible rfl)
  try simp only [Act.put, List.setIfInBounds_toArray, List.set_cons_zero, List.set_cons_succ]
  refine takeTo (i := 6) (v := ?_) (some 36) rfl rfl (by kernel_rfl) (by kernel_rfl) (by kernel_rfl) (fun _ _ _ h => h) (Or.inl ⟨by rfl, ?_⟩) (by assumption) ?_
  rotate_left
  · (intro W7 hSw; (try dsimp only at hSw); go_simp; try with_reducible rfl)
  try simp only [Act.put, List.setIfInBounds_toArray, List.set_cons_zero, List.set_cons_succ]
  refine takeTo (i := 7) (v := ?_) (some 37) rfl rfl (by kernel_rfl) (by kernel_rfl) (by kernel_rfl) (fun _ _ _ h => h) (Or.inl ⟨by rfl, ?_⟩) (by assumption) ?_
  rotate_left
  · (intro W7 hSw; (try dsimp only at hSw); go_simp; try with_reducible rfl)
  try simp only [Act.put, List.setIfInBounds_toArray, List.set_cons_zero, List.set_cons_succ]
  refine takeTo (i := 8) (v := ?_) (some 38) rfl rfl (by kernel_rfl) (by kernel_rfl) (by kernel_rfl) (fun _ _ _ h => h) (Or.inl ⟨by rfl, ?_⟩) (by assumption) ?_
  rotate_left
  · (intro W7 hSw; (try dsimp only at hSw); go_simp; try with_reducible rfl)
  try simp only [Act.put, List.setIfInBounds_toArray, List.set_cons_zero, List.set_cons_succ]
  refine takeTo (i := 9) (v := ?_) (some 39) rfl rfl (by kernel_rfl) (by kernel_rfl) (by kernel_rfl) (fun _ _ _ h => h) (Or.inl ⟨by rfl, ?_⟩) (by assumption) ?_
  rotate_left
  · (intro W7 hSw; (try dsimp only at hSw); go_simp; try with_reducible rfl)
  try simp only [Act.put, List.setIfInBounds_toArray, List.set_cons_zero, List.set_cons_succ]
  refine wpAnyH_done (by kernel_rfl) ?_ _
  clear hHeld
  have HC := Lib.hid (show CA 58 56 (.int .i64 0) w.drew cb mb P hit miss L from HC0.out.below (w' := w.drew) (Below.refl _ _).drew)
  have KW := Lib.hid ((Kept.refl (Bl cb mb L) w).drew)
  have HZ := Lib.hid (show w.drew.heap.size = w.heap.size from rfl)
  generalize World.drew w = W at HC KW HZ ⊢
  clear c1 p0 hrun hlen
  obtain ⟨⟨nx, el, hlk, hrg⟩, _, _, _⟩ := HC.out
  have r6 := hlk.nxCell (q := cb) (.inl rfl)
  rw [off_cb, Ring.path_head hrg.fwd, show ptr cb ((L.map (·.b)).headD cb) = .pointer (some ⟨hdB cb L, off cb (hdB cb L), none⟩) from rfl] at r6
  obtain ⟨hb, hhb⟩ : ∃ x, x = hdB cb L := ⟨_, rfl⟩
  obtain ⟨ho, hho⟩ : ∃ x, x = off cb (hdB cb L) := ⟨_, rfl⟩
  rw [← hho, ← hhb] at r6
  have HH := Lib.hid (And.intro hhb hho)
  clear hhb hho
  have HLK := Lib.hid (And.intro hlk hrg)
  clear hlk hrg
  go_wp2_with fail
  go_loop [11] (fun pv => ∃ u v, L = u ++ v ∧ (∀ y ∈ u, 0 < y.pin) ∧ pv = ptr cb (hdB cb v)) (fun pv => dist L pv)
  case atStart => exact ⟨[], L, rfl, (fun y hy => nomatch hy), by rw [HH.out.1, HH.out.2]; rfl⟩
  case round =>
    obtain ⟨u, v, hL, hpos, rfl⟩ := hrel
    cases v with
    | nil =>
      rw [show ptr cb (hdB cb []) = .pointer (some ⟨cb, off cb cb, none⟩) from rfl, off_cb]
      rw [List.append_nil] at hL
      subst hL
      have HP := Lib.hid hpos
      have q1 := neq_same W ⟨cb, 2, none⟩ Try.underlying54 info56
      have q2 := eql_same W ⟨cb, 2, none⟩ Try.underlying54 info56
      clear hpos
      go_wp2_with fail
      go_ret2
      exact .inr ⟨HP.out, rfl, HC.out, KW.out⟩
    | cons e v =>
      have hle := HLK.out.1.place e (by rw [hL]; simp)
      rw [show ptr cb (hdB cb (e :: v)) = .pointer (some ⟨e.b, off cb e.b, none⟩) from rfl, off_ne hle.1]
      have e2 := hle.2.cell 2
      have e4 := hle.2.cell 4
      have e0 := hle.2.cell 0
      rw [show (#[Value.int .i64 e.n, e.x, .int .i64 e.pin, ptr cb (el e.b), ptr cb (nx e.b)] : Array Value)[2]? = some (.int .i64 e.pin) from rfl] at e2
      rw [show (#[Value.int .i64 e.n, e.x, .int .i64 e.pin, ptr cb (el e.b), ptr cb (nx e.b)] : Array Value)[0]? = some (.int .i64 e.n) from rfl] at e0
      have hnx : nx e.b = hdB cb v := by
        have := HLK.out.2.fwd
        rw [hL, List.map_append, List.map_cons] at this
        exact Ring.path_head (Ring.path_app.1 this).2
      rw [show (#[Value.int .i64 e.n, e.x, .int .i64 e.pin, ptr cb (el e.b), ptr cb (nx e.b)] : Array Value)[4]? = some (ptr cb (nx e.b)) from rfl, hnx, show ptr cb (hdB cb v) = .pointer (some ⟨hdB cb v, off cb (hdB cb v), none⟩) from rfl] at e4
      have q1 : (binOp .neq 54 (.pointer (some ⟨e.b, 0, none⟩)) (.pointer (some ⟨cb, 2, none⟩))).run Try.prog W = .ok (.bool true) W := neq_other Try.underlying54 info56 hle.1 hle.2 HLK.out.1.cache
      have q2 : (binOp .eql 54 (.pointer (some ⟨e.b, 0, none⟩)) (.pointer (some ⟨cb, 2, none⟩))).run Try.prog W = .ok (.bool false) W := eql_other Try.underlying54 info56 hle.1 hle.2 HLK.out.1.cache
      have HE := Lib.hid (And.intro hle hpos)
      have HL := Lib.hid hL
      obtain ⟨nb, hnb⟩ : ∃ x, x = hdB cb v := ⟨_, rfl⟩
      obtain ⟨no, hno⟩ : ∃ x, x = off cb (hdB cb v) := ⟨_, rfl⟩
      rw [← hno, ← hnb] at e4
      have HNB := Lib.hid (And.intro hnb hno)
      clear hle hpos hnx hL hnb hno
      by_cases hp : 0 < e.pin
      · have hpd : decide (0 < e.pin) = true := by simpa using hp
        go_wp2_with fail
        go_round
        case rel => exact ⟨u ++ [e], v, by rw [HL.out]; simp, fun y hy => by
          rcases List.mem_append.1 hy with hy | hy
          · exact HE.out.2 y hy
          · obtain rfl := List.mem_singleton.1 hy; exact hp, by rw [HNB.out.1, HNB.out.2]; rfl⟩
        case measure =>
          have hnd := HLK.out.1.inj
          rw [HL.out] at hnd ⊢
          rw [dist_at hnd]
          cases v with
          | nil =>
            rw [HNB.out.1, show hdB cb [] = cb from rfl, dist_end (fun h => by
              obtain ⟨y, hy, hyb⟩ := List.mem_map.1 h
              exact (HLK.out.1.place y (by rw [HL.out]; exact hy)).1 hyb)]
            omega
          | cons e' v =>
            rw [HNB.out.1, show hdB cb (e' :: v) = e'.b from rfl, show u ++ e :: e' :: v = (u ++ [e]) ++ e' :: v by simp, dist_at (by rw [show (u ++ [e]) ++ e' :: v = u ++ e :: e' :: v by simp]; exact hnd)]
            simp
      · have hpd : decide (0 < e.pin) = false := by simpa using hp
        have hLe := HL.out
        go_wp2_with fail
        subst hLe
        refine (drop_some HC.out).mono ?_
        rintro r W2 ⟨rfl, HC2, KD2⟩
        have KW0 := KW
        have KD := Lib.hid KD2
        have KW := Lib.hid (KW0.out.trans KD2)
        have HNO0 := HNO
        have HNO := Lib.hid (show ∀ y ∈ u ++ v, y.n ≠ n from fun y hy => HNO0.out y (by rcases List.mem_append.1 hy with h | h <;> simp [h]))
        have HSZ := Lib.hid (show (u ++ v).length < maxLen by have := HLL.out; simp only [List.length_append, List.length_cons] at this ⊢; unfold maxLen; omega)
        have HP0 := Lib.hid (And.intro HE.out.2 (show e.pin ≤ 0 by omega))
        have HC := Lib.hid HC2
        clear HC2 KD2 e0 e2 e4 q1 q2 HE HL HNB hpd r6 HLK HH hge
        have q0 := Lib.hid (HC.out.below ((Below.refl W2.heap.size W2).alloc (Nat.le_refl _) (.cells #[.int .i64 n, .int .i64 x, .int .i64 0, .pointer none, .pointer none] 56)))
        have q1 := Lib.hid (Blk.new W2 56 #[.int .i64 n, .int .i64 x, .int .i64 0, .pointer none, .pointer none])
        have q2 := Lib.hid (KW.out.alloc (.cells #[.int .i64 n, .int .i64 x, .int .i64 0, .pointer none, .pointer none] 56))
        have q3 := Lib.hid HC.out.lt
        have c1 := q0.out.mapCell
        go_wp2_with (first | (at_mapUpdate; refine wpList_keep rfl (.tmp 84) (.tmp 85) (.tmp 86) rfl Try.underlying53 W2.heap.size rfl rfl rfl q0.out.map (by rw [List.length_map]; exact HSZ.out) HW.out (by
            intro y hy
            obtain ⟨z, hz, rfl⟩ := List.mem_map.1 hy
            exact HNO.out z hz) ?_; intro W3 hm3 hg3))
        obtain ⟨en, he⟩ : ∃ en : Ent, en = ⟨W2.heap.size, n, .int .i64 x, 0⟩ := ⟨_, rfl⟩
        have eb : W2.heap.size = en.b := by rw [he]
        have lt := q3.out
        rw [eb] at q1 lt hm3 ⊢
        have hnm := q0.out.mapNot
        obtain ⟨⟨nx, el, hl, hr⟩, hm, hnd, hw⟩ := q0.out
        have kg : Kept (fun k => k = mb) _ W3 := (Kept.refl (fun k => k = mb) _).grown hg3 (fun k hk => by cases hk; rfl)
        have hl3 := Lib.hid (hl.kept kg (fun q hq e2 => hnm (e2 ▸ hq)))
        have hbm : en.b ≠ mb := fun e2 => by have := lt mb (.inl rfl); omega
        have q4 := Lib.hid (q1.out.kept kg hbm)
        have q5 := Lib.hid (q2.out.trans (kg.mono (fun k _ h => HMB.out k h)))
        have HR := Lib.hid (And.intro hr (And.intro hnd hw))
        have HM3 := Lib.hid hm3
        have hbc : en.b ≠ cb := fun e2 => by have := lt cb (.inr (.inl rfl)); omega
        have hbn : en.b ∉ (u ++ v).map (·.b) := fun h => by
          obtain ⟨y, hy, hyb⟩ := List.mem_map.1 h
          have := lt y.b (.inr (.inr ⟨y, hy, rfl⟩))
          omega
        have HLT := Lib.hid (And.intro lt eb)
        clear hl hr hm hnd hw kg hg3 hm3 q0 q1 q2 c1 lt eb
        go_wp2_with fail
        refine (last_int hl3.out en _ _ (by rw [he] at q4 ⊢; exact q4.out) hbc hbn (node_of HR.out.1.ends.2)).mono ?_
        rintro r w4 ⟨rfl, L4, K4⟩
        have R4 := HR.out.1.last (p := en.b) (by simp only [List.mem_cons, not_or]; exact ⟨hbc, hbn⟩)
        have hnm4 : ¬ (mb = en.b ∨ Node cb (u ++ v) mb) := fun h => by
          rcases h with h | h
          · exact hbm h.symm
          · exact hnm h
        have M4 := (HM3.out.kept K4 hnm4).perm (L' := ((u ++ v) ++ [en]).map (fun e => (e.n, e.b))) (by
          rw [he]
          exact perm_snoc (fun e : Ent => (e.n, e.b)) (u ++ v) ⟨W2.heap.size, n, .int .i64 x, 0⟩)
        have HF := Lib.hid (And.intro L4 (And.intro R4 (And.intro M4 K4)))
        clear L4 R4 M4 K4 HM3 hl3 q4
        go_wp2_with fail
        go_ret2
        refine .inl ⟨u, e, v, rfl, HP0.out.1, HP0.out.2, rfl, W2.heap.size, ?_, ?_, by have := KD.out.size; have := KW0.out.size; omega⟩
        · rw [show (⟨W2.heap.size, n, .int .i64 x, 0⟩ : Ent) = en from he.symm]
          exact ⟨⟨_, _, HF.out.1, by simpa using HF.out.2.1⟩, HF.out.2.2.1, nodup_snoc HR.out.2.1 en (by rw [he]; exact HNO.out), wf_snoc HR.out.2.2 en (by rw [he]; exact HW.out)⟩
        · exact q5.out.trans' HF.out.2.2.2 HLT.out.2 (by have := KD.out.size; have := KW0.out.size; omega) (fun k h => .inr (node_sub (fun y hy => by rcases List.mem_append.1 hy with h | h <;> simp [h]) h))

end
end Go.Proofs.Ytghakgepchlpgaa
