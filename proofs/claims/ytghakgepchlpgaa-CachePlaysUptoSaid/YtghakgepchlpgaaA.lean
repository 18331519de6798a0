/- WORDS for caches: a map of places, a ring of places, what stays. -/
import Derived.Test.YtghakgepchlpgaaMath
import Derived.Maps.OwnSet
import Derived.Maps.OwnOps
namespace Go.Proofs.Ytghakgepchlpgaa
open Go.RowKit Go.Maps

/-- all but the blocks of S stands as it did -/
structure Kept (S : Nat → Prop) (w w' : World) : Prop where
  os : w'.os = w.os
  tape : w'.tape = w.tape
  output : w'.output = w.output
  size : w.heap.size ≤ w'.heap.size
  block : ∀ k, k < w.heap.size → ¬ S k → w'.heap[k]? = w.heap[k]?
theorem Kept.refl (S : Nat → Prop) (w : World) : Kept S w w := ⟨rfl, rfl, rfl, Nat.le_refl _, fun _ _ _ => rfl⟩
theorem Kept.trans {S : Nat → Prop} {a b c : World} (h : Kept S a b) (h' : Kept S b c) : Kept S a c :=
  ⟨h'.os.trans h.os, h'.tape.trans h.tape, h'.output.trans h.output, Nat.le_trans h.size h'.size, fun k hk hs => (h'.block k (Nat.lt_of_lt_of_le hk h.size) hs).trans (h.block k hk hs)⟩
theorem Kept.mono {S T : Nat → Prop} {a b : World} (h : Kept S a b) (hs : ∀ k, k < a.heap.size → S k → T k) : Kept T a b :=
  ⟨h.os, h.tape, h.output, h.size, fun k hk ht => h.block k hk (fun e => ht (hs k hk e))⟩
theorem Kept.setCell {S : Nat → Prop} {a w : World} (h : Kept S a w) {p : Addr} (hp : S p.block) (u : Value) : Kept S a (w.setCell p u) :=
  ⟨h.os, h.tape, h.output, by simpa [World.setCell] using h.size, fun k hk hs => (Below.heap_setCell w p u k (fun e => hs (e ▸ hp))).trans (h.block k hk hs)⟩
theorem Kept.alloc {S : Nat → Prop} {a w : World} (h : Kept S a w) (o : Obj) : Kept S a (w.alloc o) :=
  ⟨h.os, h.tape, h.output, by simp; have := h.size; omega, fun k hk hs => (Below.heap_alloc w o k (Nat.lt_of_lt_of_le hk h.size)).trans (h.block k hk hs)⟩
theorem Kept.drewN {S : Nat → Prop} {a w : World} (h : Kept S a w) (n : Nat) : Kept S a (w.drewN n) := ⟨h.os, h.tape, h.output, h.size, h.block⟩
theorem Kept.drew {S : Nat → Prop} {a w : World} (h : Kept S a w) : Kept S a w.drew := ⟨h.os, h.tape, h.output, h.size, h.block⟩
theorem Kept.grown {S : Nat → Prop} {a w w' : World} {row : Option Nat} (h : Kept S a w) (hg : w.grownBy w' row) (hr : ∀ k, row = some k → S k) : Kept S a w' :=
  h.trans ⟨hg.os, hg.tape, hg.output, hg.size, fun k hk hs => hg.block k hk (fun e => hs (hr k e.symm))⟩
theorem Kept.below {S : Nat → Prop} {a w : World} {B : Nat} (h : Kept S a w) (hB : ∀ k, S k → B ≤ k) (hs : B ≤ a.heap.size) : Below B a w :=
  ⟨h.os, h.tape, h.output, h.size, fun k hk => h.block k (by omega) (fun e => by have := hB k e; omega)⟩
theorem Kept.of_below {S : Nat → Prop} {a w : World} (h : Below a.heap.size a w) : Kept S a w := ⟨h.os, h.tape, h.output, h.size, fun k hk _ => h.block k hk⟩
theorem Blk.kept {S : Nat → Prop} {w w' : World} {g : Nat} {t : TypeId} {cs : Array Value} (h : Blk w g t cs) (hk : Kept S w w') (hg : ¬ S g) : Blk w' g t cs := (hk.block g h.lt hg).trans h

/-! ## the map -/
abbrev U := Unit
/-- how a map's pointer reads: its block's number -/
def ptrElem (v : Value) : Option (DataW U × List MemPlace) :=
  match v with
  | .pointer (some ⟨b, 0, none⟩) => some (.lit (.int .i64 (b : Int)), [])
  | .pointer none => some (.lit (.int .i64 (-1)), [])
  | _ => none
theorem ptrElem_some (b : Nat) : ptrElem (.pointer (some ⟨b, 0, none⟩)) = some (.lit (.int .i64 (b : Int)), []) := rfl
theorem ptrElem_none : ptrElem (.pointer none) = some (.lit (.int .i64 (-1)), []) := rfl
theorem ptrElem_inv {v : Value} {b : Nat} {ps : List MemPlace} (h : ptrElem v = some (.lit (.int .i64 (b : Int)), ps)) : v = .pointer (some ⟨b, 0, none⟩) := by
  unfold ptrElem at h
  split at h
  · simp at h
    have := h.1
    rename_i b'
    obtain rfl : b' = b := by omega
    rfl
  · simp at h
  · cases h
theorem ptrElem_nil {v : Value} {ps : List MemPlace} (h : ptrElem v = some (.lit (.int .i64 (-1)), ps)) : v = .pointer none := by
  unfold ptrElem at h
  split at h
  · simp at h
  · rfl
  · cases h
theorem law3 : Keyed Try.prog 3 := int_keyed Try.underlying3
def Wf (n : Int) : Prop := (Lit.int .i64 n).wf = true
/-- block mb is a map of just these numbers to these blocks -/
def Mp (w : World) (mb : Nat) (L : List (Int × Nat)) : Prop :=
  ∃ D : DataW U, w.ownsMap Try.prog 3 ptrElem mb L.length D ∧ Maps.size D = L.length ∧
    (∀ e ∈ L, D.atKey (.int .i64 e.1) (.lit (.int .i64 (-1))) = .lit (.int .i64 (e.2 : Int)) ∧ Maps.has D (.int .i64 e.1) = true) ∧
    (∀ n, Wf n → (∀ e ∈ L, e.1 ≠ n) → Maps.has D (.int .i64 n) = false)
theorem hkey3 {n : Int} (h : Wf n) : keyOf Try.prog 3 (.int .i64 n) = some (.int .i64 n) := keyOf_int_mk Try.underlying3 h
theorem Mp.kept {w w' : World} {mb : Nat} {L : List (Int × Nat)} {S : Nat → Prop} (h : Mp w mb L) (hk : Kept S w w') (hs : ¬ S mb) : Mp w' mb L := by
  obtain ⟨D, h1, h2, h3, h4⟩ := h
  refine ⟨D, ?_, h2, h3, h4⟩
  obtain ⟨es, clock, hb, r⟩ := h1
  exact ⟨es, clock, (hk.block mb (Array.getElem?_eq_some_iff.1 hb).1 hs).trans hb, r⟩
theorem Mp.lt {w : World} {mb : Nat} {L : List (Int × Nat)} (h : Mp w mb L) : mb < w.heap.size := by obtain ⟨D, h1, _⟩ := h; exact h1.lt
theorem Mp.perm {w : World} {mb : Nat} {L L' : List (Int × Nat)} (h : Mp w mb L) (hp : L.Perm L') : Mp w mb L' := by
  obtain ⟨D, h1, h2, h3, h4⟩ := h
  exact ⟨D, by rw [← hp.length_eq]; exact h1, by rw [← hp.length_eq]; exact h2, fun e he => h3 e (hp.mem_iff.2 he), fun n hn hne => h4 n hn (fun e he => hne e (hp.mem_iff.1 he))⟩
theorem own_tight {w : World} {mb n : Nat} {D : DataW U} (h : w.ownsMap Try.prog 3 ptrElem mb n D) : w.ownsMap Try.prog 3 ptrElem mb (Maps.size D) D := by
  obtain ⟨es, clock, hb, F, hs, rfl⟩ := h
  exact ⟨es, clock, hb, F, by simp [Maps.size, length_sorted], rfl⟩
theorem Mp.made (w : World) : Mp (w.alloc (.map #[] 0)) w.heap.size [] :=
  ⟨.map [], World.ownsMap_made w _ _ _, rfl, by intro e he; simp at he, fun _ _ _ => rfl⟩
section
variable {t e : TypeId} {w : World} {mb : Nat} {L : List (Int × Nat)}
theorem Mp.look (h : Mp w mb L) (ht : Try.prog.underlying t = some (.map 3 e)) (hz : (zeroValue e).run Try.prog w = .ok (.pointer none) w) {n : Int} (hn : Wf n) :
    (∃ b, (n, b) ∈ L ∧ (Instr.lookup t (.map (some mb)) (.int .i64 n) false).run Try.prog w = .ok (.pointer (some ⟨b, 0, none⟩)) w) ∨
    ((∀ x ∈ L, x.1 ≠ n) ∧ (Instr.lookup t (.map (some mb)) (.int .i64 n) false).run Try.prog w = .ok (.pointer none) w) := by
  obtain ⟨D, h1, h2, h3, h4⟩ := h
  obtain ⟨v, ps, hrun, hv⟩ := h1.lookup law3 ht hz ptrElem_none (hkey3 hn)
  by_cases hx : ∃ b, (n, b) ∈ L
  · obtain ⟨b, hb⟩ := hx
    left
    rw [(h3 _ hb).1] at hv
    exact ⟨b, hb, by rw [hrun, ptrElem_inv hv]⟩
  · right
    have hne : ∀ x ∈ L, x.1 ≠ n := fun x hx' e => hx ⟨x.2, by rw [← e]; exact hx'⟩
    rw [Maps.atKey_of_not_has (h4 n hn hne)] at hv
    exact ⟨hne, by rw [hrun, ptrElem_nil hv]⟩
theorem Mp.len (h : Mp w mb L) (ht : Try.prog.underlying t = some (.map 3 e)) (ty : TypeId) : (Builtin.len_ #[t] ty #[.map (some mb)]).run Try.prog w = .ok (.int .i64 (L.length : Int)) w := by
  obtain ⟨D, h1, h2, _⟩ := h
  rw [h1.len ht ty, h2]
theorem Mp.store (h : Mp w mb L) (ht : Try.prog.underlying t = some (.map 3 e)) (hl : L.length < maxLen) {n : Int} (hn : Wf n) (hne : ∀ x ∈ L, x.1 ≠ n) (b : Nat) :
    ∃ w', (Instr.mapUpdate t (.map (some mb)) (.int .i64 n) (.pointer (some ⟨b, 0, none⟩))).run Try.prog w = .ok () w' ∧ Mp w' mb ((n, b) :: L) ∧ w.grownBy w' (some mb) := by
  obtain ⟨D, h1, h2, h3, h4⟩ := h
  obtain ⟨w', hrun, hown, hg⟩ := h1.update law3 ht hl (hkey3 hn) (ptrElem_some b)
  have hnot := h4 n hn hne
  have hk : WideAt.IsKeyLit (.int .i64 n) := law3.key (hkey3 hn)
  refine ⟨w', hrun, ⟨_, hown, ?_, ?_, ?_⟩, hg⟩
  · rw [Maps.size_put (h1.tidy law3), hnot, h2]; rfl
  · intro x hx
    rcases List.mem_cons.1 hx with rfl | hx
    · exact ⟨Maps.atKey_put_same h1.isMap hk _ _, Maps.has_put_same h1.isMap hk _⟩
    · have hd : (Lit.int .i64 x.1) ≠ .int .i64 n := fun e => hne x hx (by injection e)
      rw [Maps.atKey_put_other hd, Maps.has_put_other hd]
      exact h3 x hx
  · intro m hm hmne
    have hd : (Lit.int .i64 m) ≠ .int .i64 n := fun e => hmne _ (List.mem_cons_self ..) (by injection e with _ e; exact e.symm)
    rw [Maps.has_put_other hd]
    exact h4 m hm (fun x hx => hmne x (List.mem_cons_of_mem _ hx))
theorem Mp.drop (h : Mp w mb L) (ht : Try.prog.underlying t = some (.map 3 e)) {n : Int} (hn : Wf n) {b : Nat} {L' : List (Int × Nat)} (hp : L.Perm ((n, b) :: L')) (hne : ∀ x ∈ L', x.1 ≠ n) (ty : TypeId) :
    ∃ w', (Builtin.delete_ #[t, 3] ty #[.map (some mb), .int .i64 n]).run Try.prog w = .ok (.tuple #[]) w' ∧ Mp w' mb L' ∧ w.grownBy w' (some mb) := by
  obtain ⟨D, h1, h2, h3, h4⟩ := h.perm hp
  obtain ⟨w', hrun, hown, hg⟩ := h1.drop law3 ht (hkey3 hn) ty
  have hyes := (h3 _ (List.mem_cons_self ..)).2
  have hsz : Maps.size (D.del (.int .i64 n)) = L'.length := by
    have := Maps.size_del (k := .int .i64 n) (h1.tidy law3)
    rw [hyes, h2] at this
    simpa using this
  refine ⟨w', hrun, ⟨_, by rw [← hsz]; exact own_tight hown, hsz, ?_, ?_⟩, hg.grown⟩
  · intro x hx
    have hd : (Lit.int .i64 x.1) ≠ .int .i64 n := fun e => hne x hx (by injection e)
    rw [Maps.atKey_del_other hd, Maps.has_del_other hd]
    exact h3 x (List.mem_cons_of_mem _ hx)
  · intro m hm hmne
    by_cases e : m = n
    · subst e; exact Maps.has_del_same
    · have hd : (Lit.int .i64 m) ≠ .int .i64 n := fun h => e (by injection h)
      rw [Maps.has_del_other hd]
      refine h4 m hm (fun x hx => ?_)
      rcases List.mem_cons.1 hx with rfl | hx
      · exact fun h => e h.symm
      · exact hmne x hx
end
/-! ## the ring -/
open Ring (upd upd_same upd_other)
/-- a thing that is kept: its block, its number, what it is, how often it is held -/
structure Ent where
  b : Nat
  n : Int
  x : Value
  pin : Int
def off (cb q : Nat) : Nat := if q = cb then 2 else 0
def ptr (cb q : Nat) : Value := .pointer (some ⟨q, off cb q, none⟩)
theorem off_cb (cb : Nat) : off cb cb = 2 := if_pos rfl
theorem off_ne {cb q : Nat} (h : q ≠ cb) : off cb q = 0 := if_neg h
/-- a cache's blocks -/
structure Lk (TC TP : TypeId) (zx : Value) (w : World) (cb mb : Nat) (P hit miss : Int) (L : List Ent) (nx el : Nat → Nat) : Prop where
  cache : Blk w cb TC #[.int .i64 P, .map (some mb), .int .i64 0, zx, .int .i64 0, ptr cb (el cb), ptr cb (nx cb), .int .i64 hit, .int .i64 miss]
  place : ∀ e ∈ L, e.b ≠ cb ∧ Blk w e.b TP #[.int .i64 e.n, e.x, .int .i64 e.pin, ptr cb (el e.b), ptr cb (nx e.b)]
  inj : (L.map (·.b)).Nodup
section
variable {TC TP : TypeId} {zx : Value} {w : World} {cb mb : Nat} {P hit miss : Int} {L : List Ent} {nx el : Nat → Nat}
def Node (cb : Nat) (L : List Ent) (q : Nat) : Prop := q = cb ∨ ∃ e ∈ L, e.b = q
theorem Lk.elCell (h : Lk TC TP zx w cb mb P hit miss L nx el) {q : Nat} (hq : Node cb L q) : w.cell? ⟨q, off cb q + 3, none⟩ = some (ptr cb (el q)) := by
  rcases hq with rfl | ⟨e, he, rfl⟩
  · rw [off_cb]; exact h.cache.cell 5
  · rw [off_ne (h.place e he).1]; exact (h.place e he).2.cell 3
theorem Lk.nxCell (h : Lk TC TP zx w cb mb P hit miss L nx el) {q : Nat} (hq : Node cb L q) : w.cell? ⟨q, off cb q + 4, none⟩ = some (ptr cb (nx q)) := by
  rcases hq with rfl | ⟨e, he, rfl⟩
  · rw [off_cb]; exact h.cache.cell 6
  · rw [off_ne (h.place e he).1]; exact (h.place e he).2.cell 4
theorem Lk.thaw (h : Lk TC TP zx w cb mb P hit miss L nx el) {q : Nat} (hq : Node cb L q) (i : Nat) : w.frozen? ⟨q, i, none⟩ = false := by
  rcases hq with rfl | ⟨e, he, rfl⟩
  · exact h.cache.free i
  · exact (h.place e he).2.free i
theorem Lk.same (h : Lk TC TP zx w cb mb P hit miss L nx el) {e e' : Ent} (he : e ∈ L) (he' : e' ∈ L) (hb : e.b = e'.b) : e = e' := by
  have := h.inj
  clear h
  induction L with
  | nil => cases he
  | cons a L ih =>
    simp only [List.map_cons, List.nodup_cons, List.mem_map, not_exists, not_and] at this
    rcases List.mem_cons.1 he with h1 | h1 <;> rcases List.mem_cons.1 he' with h2 | h2
    · rw [h1, h2]
    · subst h1; exact absurd hb.symm (this.1 e' h2)
    · subst h2; exact absurd hb (this.1 e h1)
    · exact ih h1 h2 this.2
theorem Lk.setNx (h : Lk TC TP zx w cb mb P hit miss L nx el) {q : Nat} (hq : Node cb L q) (a : Nat) : Lk TC TP zx (w.setCell ⟨q, off cb q + 4, none⟩ (ptr cb a)) cb mb P hit miss L (upd nx q a) el := by
  refine ⟨?_, fun e he => ⟨(h.place e he).1, ?_⟩, h.inj⟩
  · by_cases e : q = cb
    · subst e
      rw [off_cb, upd_same]
      exact h.cache.put 6 _
    · rw [upd_other _ _ _ (Ne.symm e)]
      exact h.cache.far (fun e2 => e e2.symm) _
  · by_cases e2 : e.b = q
    · subst e2
      rw [off_ne (h.place e he).1, upd_same]
      exact (h.place e he).2.put 4 _
    · rw [upd_other _ _ _ e2]
      exact (h.place e he).2.far e2 _
theorem Lk.setEl (h : Lk TC TP zx w cb mb P hit miss L nx el) {q : Nat} (hq : Node cb L q) (a : Nat) : Lk TC TP zx (w.setCell ⟨q, off cb q + 3, none⟩ (ptr cb a)) cb mb P hit miss L nx (upd el q a) := by
  refine ⟨?_, fun e he => ⟨(h.place e he).1, ?_⟩, h.inj⟩
  · by_cases e : q = cb
    · subst e
      rw [off_cb, upd_same]
      exact h.cache.put 5 _
    · rw [upd_other _ _ _ (Ne.symm e)]
      exact h.cache.far (fun e2 => e e2.symm) _
  · by_cases e2 : e.b = q
    · subst e2
      rw [off_ne (h.place e he).1, upd_same]
      exact (h.place e he).2.put 3 _
    · rw [upd_other _ _ _ e2]
      exact (h.place e he).2.far e2 _
theorem Lk.sub (h : Lk TC TP zx w cb mb P hit miss L nx el) {L' : List Ent} (hs : ∀ e ∈ L', e ∈ L) (hn : (L'.map (·.b)).Nodup) : Lk TC TP zx w cb mb P hit miss L' nx el := ⟨h.cache, fun e he => h.place e (hs e he), hn⟩
theorem Lk.kept (h : Lk TC TP zx w cb mb P hit miss L nx el) {w' : World} {S : Nat → Prop} (hk : Kept S w w') (hs : ∀ q, Node cb L q → ¬ S q) : Lk TC TP zx w' cb mb P hit miss L nx el :=
  ⟨h.cache.kept hk (hs _ (.inl rfl)), fun e he => ⟨(h.place e he).1, (h.place e he).2.kept hk (hs _ (.inr ⟨e, he, rfl⟩))⟩, h.inj⟩
end
end Go.Proofs.Ytghakgepchlpgaa
