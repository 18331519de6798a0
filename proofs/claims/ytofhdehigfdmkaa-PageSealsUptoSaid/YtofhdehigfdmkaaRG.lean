/- WORDS on what stays: blocks of bytes, slices of slices, books of bytes that came out. -/
import Derived.Test.YtofhdehigfdmkaaRE
namespace Go.Proofs.Ytofhdehigfdmkaa
open Go.RowKit
/-- only blocks of S, and what is new, have turned -/
structure Kp (S : Nat → Prop) (w w' : World) : Prop where
  os : w'.os = w.os
  tape : w'.tape = w.tape
  output : w'.output = w.output
  size : w.heap.size ≤ w'.heap.size
  block : ∀ k, k < w.heap.size → ¬ S k → w'.heap[k]? = w.heap[k]?
theorem Kp.refl (S : Nat → Prop) (w : World) : Kp S w w := ⟨rfl, rfl, rfl, Nat.le_refl _, fun _ _ _ => rfl⟩
theorem Kp.trans {S : Nat → Prop} {a b c : World} (h : Kp S a b) (h' : Kp S b c) : Kp S a c :=
  ⟨h'.os.trans h.os, h'.tape.trans h.tape, h'.output.trans h.output, Nat.le_trans h.size h'.size, fun k hk hs => (h'.block k (Nat.lt_of_lt_of_le hk h.size) hs).trans (h.block k hk hs)⟩
theorem Kp.mono {S T : Nat → Prop} {a b : World} (h : Kp S a b) (hs : ∀ k, k < a.heap.size → S k → T k) : Kp T a b :=
  ⟨h.os, h.tape, h.output, h.size, fun k hk hn => h.block k hk fun e => hn (hs k hk e)⟩
theorem Kp.of_below {S : Nat → Prop} {w w' : World} (h : Below w.heap.size w w') : Kp S w w' := ⟨h.os, h.tape, h.output, h.size, fun k hk _ => h.block k hk⟩
theorem Kp.of_grown {S : Nat → Prop} {w w' : World} {row : Option Nat} (h : w.grownBy w' row) (hs : ∀ k, row = some k → S k) : Kp S w w' :=
  ⟨h.os, h.tape, h.output, h.size, fun k hk hn => h.block k hk fun e => hn (hs k e.symm)⟩
theorem Kp.below {S : Nat → Prop} {a w w' : World} {B : Nat} (h : Below B a w) (k : Kp S w w') (hs : ∀ k, S k → B ≤ k) (hB : B ≤ w.heap.size) : Below B a w' :=
  h.trans ⟨k.os, k.tape, k.output, k.size, fun i hi => k.block i (by omega) fun e => by have := hs i e; omega⟩
theorem Kp.alloc {S : Nat → Prop} {a w : World} (h : Kp S a w) (o : Obj) : Kp S a (w.alloc o) := h.trans (.of_below ((Below.refl _ _).alloc (Nat.le_refl _) o))
theorem Kp.drew {S : Nat → Prop} {a w : World} (h : Kp S a w) : Kp S a w.drew := ⟨h.os, h.tape, h.output, h.size, h.block⟩
theorem Kp.setCell {S : Nat → Prop} {a w : World} (h : Kp S a w) (p : Addr) (hp : S p.block) (u : Value) : Kp S a (w.setCell p u) :=
  ⟨h.os, h.tape, h.output, by simpa [World.setCell] using h.size, fun k hk hn => (Below.heap_setCell w p u k (fun e => hn (e ▸ hp))).trans (h.block k hk hn)⟩
theorem Blk.kp {S : Nat → Prop} {w w' : World} {g : Nat} {t : TypeId} {cs : Array Value} (h : Blk w g t cs) (k : Kp S w w') (hs : ¬ S g) : Blk w' g t cs := (k.block g h.lt hs).trans h
theorem rowKp {S : Nat → Prop} {w w' : World} {B e size n : Nat} {v : Value} {xs : List Value} (h : w.ownsRow B e size v n xs) (k : Kp S w w') (hs : ∀ g, v.ownBlock = some g → ¬ S g) : w'.ownsRow B e size v n xs := by
  refine ⟨h.1, h.2.imp id ?_⟩
  rintro ⟨g, cap, cur, rfl, hb, hg, rest⟩
  exact ⟨g, cap, cur, rfl, hb, (k.block g (Array.getElem?_eq_some_iff.1 hg).1 (hs g rfl)).trans hg, rest⟩
/-- of what type the block of a row is -/
theorem rowType {w : World} {B e size n : Nat} {v : Value} {xs : List Value} (h : w.ownsRow B e size v n xs) (g : Nat) (hg : v.ownBlock = some g) : ∃ cs, w.heap[g]? = some (.cells cs e (0, 0)) := by
  rcases h.2 with ⟨rfl, _⟩ | ⟨g', cap, cur, rfl, hb, hh, rest⟩
  · simp [Value.ownBlock] at hg
  · simp [Value.ownBlock] at hg
    subst hg
    exact ⟨_, hh⟩
/-- no block of bytes has turned -/
def Five (w w' : World) : Prop := ∀ (k : Nat) (cs : Array Value) (fr : Nat × Nat), w.heap[k]? = some (Obj.cells cs 5 fr) → w'.heap[k]? = some (Obj.cells cs 5 fr)
theorem Five.refl (w : World) : Five w w := fun _ _ _ h => h
theorem Five.trans {a b c : World} (h : Five a b) (h' : Five b c) : Five a c := fun k cs fr e => h' k cs fr (h k cs fr e)
theorem Kp.five {S : Nat → Prop} {w w' : World} (h : Kp S w w') (hs : ∀ (k : Nat) (cs : Array Value) (fr : Nat × Nat), w.heap[k]? = some (Obj.cells cs 5 fr) → ¬ S k) : Five w w' :=
  fun k cs fr e => (h.block k (Array.getElem?_eq_some_iff.1 e).1 (hs k cs fr e)).trans e
theorem Five.of_below {w w' : World} (h : Below w.heap.size w w') : Five w w' := (Kp.of_below (S := fun _ => False) h).five fun _ _ _ _ h => h
theorem Owns.five {w w' : World} {B : Nat} {v : Value} {l : List UInt8} (h : Owns w B v l) (f : Five w w') : Owns w' B v l := by
  refine ⟨h.1, h.2.imp id ?_⟩
  rintro ⟨g, cap, cur, rfl, hb, hg, rest⟩
  exact ⟨g, cap, cur, rfl, hb, f _ _ _ hg, rest⟩
theorem Blk.five {w w' : World} {g : Nat} {cs : Array Value} (h : Blk w g 5 cs) (f : Five w w') : Blk w' g 5 cs := f _ _ _ h
theorem types_ne {w : World} {g k : Nat} {a b : Array Value} {s t : TypeId} {fr fr' : Nat × Nat} (h : w.heap[g]? = some (.cells a s fr)) (h' : w.heap[k]? = some (.cells b t fr')) (ht : s ≠ t) : g ≠ k := by
  rintro rfl
  rw [h] at h'
  injection h' with h'
  injection h' with _ h2 _
  exact ht h2
/-- a slice of bytes that came out -/
structure Row where
  A : Option Addr
  c : Nat
  l : List UInt8
def Row.v (r : Row) : Value := .slice r.A r.l.length r.c
/-- a book of bytes: where they stand, what they were -/
structure Book (w : World) (B g : Nat) (rs ws : List Row) (LV WV : Value) : Prop where
  blk : Blk w g 43 #[LV, WV]
  low : g < B
  size : B ≤ w.heap.size
  lv : w.ownsRow B 22 1 LV rs.length (rs.map Row.v)
  wv : w.ownsRow B 22 1 WV ws.length (ws.map Row.v)
  ne : ∀ k, LV.ownBlock = some k → WV.ownBlock ≠ some k
  rows : ∀ r ∈ rs, Owns w B r.v r.l ∧ r.l.length ≤ 4096
  was : ∀ r ∈ ws, Owns w B r.v r.l
  same : ws.map Row.l = rs.map Row.l
  apart : rs.Pairwise fun a b => ∀ k, a.v.ownBlock = some k → b.v.ownBlock ≠ some k
theorem Book.kp {S : Nat → Prop} {w w' : World} {B g : Nat} {rs ws : List Row} {LV WV : Value} (h : Book w B g rs ws LV WV) (k : Kp S w w') (hs : ∀ k, k < w.heap.size → S k → k < B ∧ k ≠ g) : Book w' B g rs ws LV WV := by
  have far : ∀ {e size n v xs}, w.ownsRow B e size v n xs → w'.ownsRow B e size v n xs := fun {e size n v xs} h => rowKp h k fun g' hg' hS => by
    have := World.ownsRow.lt h g' hg'
    have := hs g' this.2 hS
    omega
  exact ⟨h.blk.kp k fun hS => (hs g h.blk.lt hS).2 rfl, h.low, Nat.le_trans h.size k.size, far h.lv, far h.wv, h.ne, fun r hr => ⟨far (h.rows r hr).1, (h.rows r hr).2⟩, fun r hr => far (h.was r hr), h.same, h.apart⟩
theorem Book.new {w : World} {B g : Nat} (h : Blk w g 43 #[.slice none 0 0, .slice none 0 0]) (hB : g < B) (hs : B ≤ w.heap.size) : Book w B g [] [] (.slice none 0 0) (.slice none 0 0) :=
  ⟨h, hB, hs, World.ownsRow_nil _ _ _ _, World.ownsRow_nil _ _ _ _, (fun k hk => by simp [Value.ownBlock] at hk), (fun r hr => by cases hr), (fun r hr => by cases hr), rfl, List.Pairwise.nil⟩

theorem info22 : (Try.prog.info? 22).map (fun i => (i.size, i.bytes, i.zero)) = some (1, 24, some (.slice none 0 0)) := by kernel_rfl
theorem info22_parts : ∃ i, Try.prog.info? 22 = some i ∧ i.zero = some (.slice none 0 0) ∧ i.size = 1 ∧ i.bytes = 24 := by
  have h := info22
  cases hi : Try.prog.info? 22 with
  | none => rw [hi] at h; cases h
  | some i =>
    rw [hi] at h
    simp only [Option.map_some, Option.some.injEq, Prod.mk.injEq] at h
    exact ⟨i, rfl, h.2.2, h.1, h.2.1⟩
theorem run_append_sl (w : World) (base ty : Nat) (v : Value) (xs ys : List Value) (hown : w.ownsRow base 22 1 v xs.length xs) (gb c : Nat) (hr : Blk w gb 22 ys.toArray) (h1 : ∀ u ∈ ys, u.oneCell' = true)
    (hb : xs.length + ys.length ≤ 1000000) (hbase : base ≤ w.heap.size) :
    ∃ v' w', (Builtin.append_ #[41, 41] ty #[v, .slice (some ⟨gb, 0, none⟩) ys.length c]).run Try.prog w = .ok v' w' ∧ w'.ownsRow base 22 1 v' (xs ++ ys).length (xs ++ ys) ∧ Grew w w' v v' := by
  obtain ⟨i0, hi, hz0, hz1, hz2⟩ := info22_parts
  obtain ⟨v', w', hrun, h2, h3, _, h5⟩ := run_append_own_at (P := Try.prog) w base 41 ty 22 i0 (.slice none 0 0) 1 24 Try.underlying41 hi hz0 hz1 hz2 rfl (by omega) v xs.length xs hown ⟨gb, 0, none⟩ ys.length c ys (by simp)
    (fun j u hu => by rw [Go.WideShapes.add_plain, Nat.zero_add, hr.cell]; simpa using hu) h1 (by unfold maxLen; omega) (by omega) hbase
  exact ⟨v', w', hrun, by rw [List.length_append]; exact h2, h3, h5⟩
theorem wp_append_sl {w : World} {o : Oper} {a : Act} {K : Act → World → Prop} {Q : Exit → Act → World → Prop} (s x : Operand)
    (ho : o.op = .call { callee := .builtin .append, args := #[s, x], argTypes := #[41, 41] })
    (base : Nat) (v : Value) (xs ys : List Value) (hs : a.eval s = v) (hown : w.ownsRow base 22 1 v xs.length xs) (gb c : Nat) (hx : a.eval x = .slice (some ⟨gb, 0, none⟩) ys.length c) (hr : Blk w gb 22 ys.toArray) (h1 : ∀ u ∈ ys, u.oneCell' = true)
    (hb : xs.length + ys.length ≤ 1000000) (hbase : base ≤ w.heap.size)
    (h : ∀ v' w', w'.ownsRow base 22 1 v' (xs ++ ys).length (xs ++ ys) → Grew w w' v v' → K (a.put o.dst v') w') : o.wp Try.prog a w K Q := by
  obtain ⟨v', w', hrun, h2, h3⟩ := run_append_sl w base o.type v xs ys hown gb c hr h1 hb hbase
  unfold Oper.wp execOp
  simp only [ho, resolve, invoke, builtin, Sem.run_bind, Sem.run_pure, Result.andThen_ok, List.map_toArray, List.map_cons, List.map_nil, hs, hx, hrun]
  exact h v' w' h2 h3
theorem wpList_append_sl {w : World} {ops : Array Oper} {rest : List Oper} {o : Oper} {a : Act} {Q : Exit → Act → World → Prop} (hgd : o.guard = none) (s x : Operand)
    (ho : o.op = .call { callee := .builtin .append, args := #[s, x], argTypes := #[41, 41] })
    (base : Nat) (v : Value) (xs ys : List Value) (hs : a.eval s = v) (hown : w.ownsRow base 22 1 v xs.length xs) (gb c : Nat) (hx : a.eval x = .slice (some ⟨gb, 0, none⟩) ys.length c) (hr : Blk w gb 22 ys.toArray) (h1 : ∀ u ∈ ys, u.oneCell' = true)
    (hb : xs.length + ys.length ≤ 1000000) (hbase : base ≤ w.heap.size)
    (h : ∀ v' w', w'.ownsRow base 22 1 v' (xs ++ ys).length (xs ++ ys) → Grew w w' v v' → wpList Try.prog ops Q rest (a.put o.dst v') w') : wpList Try.prog ops Q (o :: rest) a w :=
  wpList_plain hgd fun _ hK => wp_append_sl s x ho base v xs ys hs hown gb c hx hr h1 hb hbase fun v' w' h1 h2 => hK _ _ (h v' w' h1 h2)
end Go.Proofs.Ytofhdehigfdmkaa
