/- CACHES AS OBJECTS: what they hold, by a plain list; which blocks are theirs. -/
import Derived.Test.YtghakgepchlpgaaT3
import Derived.Test.YtghakgepchlpgaaT4
import Derived.Test.YtghakgepchlpgaaV5
namespace Go.Proofs.Ytghakgepchlpgaa
open Go.RowKit Go.Maps
/-- a cache, seen from outside -/
structure Ob where
  p : Nat
  P : Int
  hit : Int
  miss : Int
  M : List Th
  F : Nat → Prop
/-- what is theirs, and what was made since -/
def Nw (F F' : Nat → Prop) (w : World) : Prop := ∀ k, F' k → F k ∨ w.heap.size ≤ k
def Gr (F : Nat → Prop) (w w' : World) (k : Nat) : Prop := F k ∨ (w.heap.size ≤ k ∧ k < w'.heap.size)
theorem gr_nw (F : Nat → Prop) (w w' : World) : Nw F (Gr F w w') w := fun k h => h.imp id fun h => h.1
def keyE (e : Ent) : Int × Value × Int := (e.n, e.x, e.pin)
def keyA (t : Th) : Int × Value × Int := (t.n, .int .i64 t.x, t.p)
def isA (w : World) (a : Ob) : Prop :=
  ∃ mb L, CA 58 56 (.int .i64 0) w a.p mb a.P a.hit a.miss L ∧ L.map keyE = a.M.map keyA ∧ (∀ k, Bl a.p mb L k → a.F k) ∧ ∀ k, a.F k → k < w.heap.size
theorem isA.kept {w w' : World} {a : Ob} {S : Nat → Prop} (h : isA w a) (hk : Kept S w w') (hs : ∀ k, a.F k → ¬ S k) : isA w' a := by
  obtain ⟨mb, L, hc, hL, hF, hb⟩ := h
  exact ⟨mb, L, hc.kept hk fun q hq => hs q (hF q hq), hL, hF, fun k h => Nat.lt_of_lt_of_le (hb k h) hk.size⟩
theorem isA.lt {w : World} {a : Ob} (h : isA w a) : ∀ k, a.F k → k < w.heap.size := by obtain ⟨_, _, _, _, _, hb⟩ := h; exact hb
theorem isA.nodup {w : World} {a : Ob} (h : isA w a) : (a.M.map (·.n)).Nodup ∧ ∀ t ∈ a.M, Wf t.n := by
  obtain ⟨mb, L, hc, hL, -, -⟩ := h
  have e : a.M.map (·.n) = L.map (·.n) := by
    have := congrArg (fun q : List (Int × Value × Int) => q.map (·.1)) hL
    simp only [List.map_map] at this
    exact this.symm
  refine ⟨by rw [e]; exact hc.nums, fun t ht => ?_⟩
  have : t.n ∈ L.map (·.n) := by rw [← e]; exact List.mem_map.2 ⟨t, ht, rfl⟩
  obtain ⟨y, hy, hyn⟩ := List.mem_map.1 this
  rw [← hyn]
  exact hc.wf y hy
theorem splitA {L : List Ent} {M u v : List Th} {e : Th} (hL : L.map keyE = M.map keyA) (hM : M = u ++ e :: v) :
    ∃ Lu le Lv, L = Lu ++ le :: Lv ∧ Lu.map keyE = u.map keyA ∧ (le.n = e.n ∧ le.x = .int .i64 e.x ∧ le.pin = e.p) ∧ Lv.map keyE = v.map keyA := by
  rw [hM, List.map_append, List.map_cons] at hL
  obtain ⟨Lu, r, rfl, h1, h2⟩ := List.map_eq_append_iff.1 hL
  obtain ⟨le, Lv, rfl, h3, h4⟩ := List.map_eq_cons_iff.1 h2
  have a1 := congrArg (fun q : Int × Value × Int => q.1) h3
  have a2 := congrArg (fun q : Int × Value × Int => q.2.1) h3
  have a3 := congrArg (fun q : Int × Value × Int => q.2.2) h3
  exact ⟨Lu, le, Lv, rfl, h1, ⟨a1, a2, a3⟩, h4⟩
theorem lenA {L : List Ent} {M : List Th} (hL : L.map keyE = M.map keyA) : L.length = M.length := by
  have := congrArg List.length hL
  simpa using this
theorem noA {L : List Ent} {M : List Th} (hL : L.map keyE = M.map keyA) {n : Int} (h : ∀ y ∈ M, y.n ≠ n) : ∀ e ∈ L, e.n ≠ n := by
  intro e he hn
  have : keyE e ∈ M.map keyA := by rw [← hL]; exact List.mem_map.2 ⟨e, he, rfl⟩
  obtain ⟨t, ht, hk⟩ := List.mem_map.1 this
  have a1 := congrArg (fun q : Int × Value × Int => q.1) hk
  exact h t ht (a1.trans hn)
theorem pinA {L : List Ent} {M : List Th} (hL : L.map keyE = M.map keyA) {p : Int → Prop} (h : ∀ y ∈ M, p y.p) : ∀ e ∈ L, p e.pin := by
  intro e he
  have : keyE e ∈ M.map keyA := by rw [← hL]; exact List.mem_map.2 ⟨e, he, rfl⟩
  obtain ⟨t, ht, hk⟩ := List.mem_map.1 this
  have a1 : t.p = e.pin := congrArg (fun q : Int × Value × Int => q.2.2) hk
  rw [← a1]
  exact h t ht
/-- the first that is not held -/
theorem first_free : ∀ {u u' v v' : List Ent} {e e' : Ent}, u ++ e :: v = u' ++ e' :: v' → (∀ y ∈ u, 0 < y.pin) → e.pin ≤ 0 → (∀ y ∈ u', 0 < y.pin) → e'.pin ≤ 0 → u = u' ∧ e = e' ∧ v = v'
  | [], [], _, _, _, _, h, _, _, _, _ => by injection h with h1 h2; exact ⟨rfl, h1, h2⟩
  | [], y :: u', _, _, _, _, h, _, he, hu', _ => by
    injection h with h1 h2
    have := hu' y (by simp)
    rw [← h1] at this
    omega
  | y :: u, [], _, _, _, _, h, hu, _, _, he' => by
    injection h with h1 h2
    have := hu y (by simp)
    rw [h1] at this
    omega
  | y :: u, z :: u', _, _, _, _, h, hu, he, hu', he' => by
    injection h with h1 h2
    obtain ⟨a1, a2, a3⟩ := first_free h2 (fun x hx => hu x (by simp [hx])) he (fun x hx => hu' x (by simp [hx])) he'
    exact ⟨by rw [h1, a1], a2, a3⟩
theorem isA_mk {w w' : World} {a : Ob} {mb : Nat} {L L' : List Ent} {M' : List Th} {hit miss : Int} (hc : CA 58 56 (.int .i64 0) w' a.p mb a.P hit miss L') (hL : L'.map keyE = M'.map keyA) (hk : Kept (Bl a.p mb L) w w')
    (hF : ∀ k, Bl a.p mb L k → a.F k) (hb : ∀ k, a.F k → k < w.heap.size) (hn : ∀ k, Bl a.p mb L' k → Bl a.p mb L k ∨ w.heap.size ≤ k) : isA w' ⟨a.p, a.P, hit, miss, M', Gr a.F w w'⟩ ∧ Kept a.F w w' := by
  refine ⟨⟨mb, L', hc, hL, fun k h => ?_, fun k h => ?_⟩, hk.mono fun k _ h => hF k h⟩
  · rcases hn k h with h1 | h1
    · exact .inl (hF k h1)
    · exact .inr ⟨h1, hc.lt k h⟩
  · rcases h with h | h
    · exact Nat.lt_of_lt_of_le (hb k h) hk.size
    · exact h.2
theorem bl_sub {cb mb : Nat} {L L' : List Ent} (h : ∀ b, b ∈ L'.map (·.b) → b ∈ L.map (·.b)) {k : Nat} (hk : Bl cb mb L' k) : Bl cb mb L k := by
  rcases hk with hk | hk | ⟨e, he, hb⟩
  · exact .inl hk
  · exact .inr (.inl hk)
  · obtain ⟨y, hy, hyb⟩ := List.mem_map.1 (h e.b (List.mem_map.2 ⟨e, he, rfl⟩))
    exact .inr (.inr ⟨y, hy, hyb.trans hb⟩)
theorem bl_snoc2 {w : World} {cb mb b : Nat} {L L' : List Ent} {n : Int} {x : Value} {p : Int} (hs : ∀ y ∈ L', y ∈ L) (hb : w.heap.size ≤ b) {k : Nat} (h : Bl cb mb (L' ++ [⟨b, n, x, p⟩]) k) : Bl cb mb L k ∨ w.heap.size ≤ k := by
  rcases h with h | h | ⟨y, hy, h⟩
  · exact .inl (.inl h)
  · exact .inl (.inr (.inl h))
  · simp only [List.mem_append, List.mem_singleton] at hy
    rcases hy with hy | rfl
    · exact .inl (.inr (.inr ⟨y, hs y hy, h⟩))
    · right; rw [← h]; exact hb
section
variable {w : World} {a : Ob} {u v : List Th} {e : Th}
theorem A_get_some (h : isA w a) (hM : a.M = u ++ e :: v) : Calls Try.prog 10 #[.pointer (some ⟨a.p, 0, none⟩), .int .i64 e.n] w fun r w' =>
    r = .returned (.tuple #[.int .i64 e.x, .bool true]) ∧ isA w' ⟨a.p, a.P, wrap64 (a.hit + 1), a.miss, u ++ v ++ [e], Gr a.F w w'⟩ ∧ Kept a.F w w' := by
  obtain ⟨mb, L, hc, hL, hF, hb⟩ := h
  obtain ⟨Lu, le, Lv, rfl, h1, ⟨hn, hx, hp⟩, h2⟩ := splitA hL hM
  rw [← hn]
  refine (get_some hc hx).mono ?_
  rintro r w' ⟨rfl, hc', hk⟩
  refine ⟨by rw [hx], isA_mk hc' ?_ hk hF hb fun k h => .inl (bl_sub (fun b hb => ?_) h)⟩
  · simp only [List.map_append, List.map_cons, List.map_nil, h1, h2, keyE, keyA, hn, hx, hp]
  · simp only [List.map_append, List.map_cons, List.map_nil, List.mem_append, List.mem_cons, List.not_mem_nil, or_false] at hb ⊢
    rcases hb with (hb | hb) | hb <;> simp [hb]
theorem A_get_none (h : isA w a) (n : Int) (hn : Wf n) (hno : ∀ y ∈ a.M, y.n ≠ n) : Calls Try.prog 10 #[.pointer (some ⟨a.p, 0, none⟩), .int .i64 n] w fun r w' =>
    r = .returned (.tuple #[.int .i64 0, .bool false]) ∧ isA w' ⟨a.p, a.P, a.hit, wrap64 (a.miss + 1), a.M, Gr a.F w w'⟩ ∧ Kept a.F w w' := by
  obtain ⟨mb, L, hc, hL, hF, hb⟩ := h
  refine (get_none hc n hn (noA hL hno)).mono ?_
  rintro r w' ⟨rfl, hc', hk⟩
  exact ⟨rfl, isA_mk hc' hL hk hF hb fun k h => .inl h⟩
theorem A_put_found (h : isA w a) (hM : a.M = u ++ e :: v) (x : Int) : Calls Try.prog 11 #[.pointer (some ⟨a.p, 0, none⟩), .int .i64 e.n, .int .i64 x] w fun r w' =>
    r = .returned (.tuple #[.int .i64 0, .bool false]) ∧ isA w' ⟨a.p, a.P, a.hit, a.miss, u ++ v ++ [{ e with x := x }], Gr a.F w w'⟩ ∧ Kept a.F w w' := by
  obtain ⟨mb, L, hc, hL, hF, hb⟩ := h
  obtain ⟨Lu, le, Lv, rfl, h1, ⟨hn, hx, hp⟩, h2⟩ := splitA hL hM
  rw [← hn]
  refine (put_found hc x).mono ?_
  rintro r w' ⟨rfl, hc', hk⟩
  refine ⟨rfl, isA_mk hc' ?_ hk hF hb fun k h => .inl (bl_sub (fun b hb => ?_) h)⟩
  · simp only [List.map_append, List.map_cons, List.map_nil, h1, h2, keyE, keyA, hn, hp]
  · simp only [List.map_append, List.map_cons, List.map_nil, List.mem_append, List.mem_cons, List.not_mem_nil, or_false] at hb ⊢
    rcases hb with (hb | hb) | hb <;> simp [hb]
theorem A_put_room (h : isA w a) (n x : Int) (hn : Wf n) (hno : ∀ y ∈ a.M, y.n ≠ n) (hr : (a.M.length : Int) < a.P) (hP : a.P ≤ 65536) : Calls Try.prog 11 #[.pointer (some ⟨a.p, 0, none⟩), .int .i64 n, .int .i64 x] w fun r w' =>
    r = .returned (.tuple #[.int .i64 0, .bool false]) ∧ isA w' ⟨a.p, a.P, a.hit, a.miss, a.M ++ [⟨n, x, 0⟩], Gr a.F w w'⟩ ∧ Kept a.F w w' := by
  obtain ⟨mb, L, hc, hL, hF, hb⟩ := h
  refine (put_room hc n x hn (noA hL hno) (by rw [lenA hL]; exact hr) hP).mono ?_
  rintro r w' ⟨rfl, b, hc', hk, hbb⟩
  refine ⟨rfl, isA_mk hc' ?_ hk hF hb fun k h => bl_snoc2 (fun y hy => hy) hbb h⟩
  simp only [List.map_append, List.map_cons, List.map_nil, hL, keyE, keyA]
theorem A_put_full (h : isA w a) (hM : a.M = u ++ e :: v) (n x : Int) (hn : Wf n) (hno : ∀ y ∈ a.M, y.n ≠ n) (hr : a.P ≤ (a.M.length : Int)) (hl : a.M.length ≤ 65536) (hu : ∀ y ∈ u, 0 < y.p) (he : e.p ≤ 0) : Calls Try.prog 11 #[.pointer (some ⟨a.p, 0, none⟩), .int .i64 n, .int .i64 x] w fun r w' =>
    r = .returned (.tuple #[.int .i64 e.n, .bool true]) ∧ isA w' ⟨a.p, a.P, a.hit, a.miss, u ++ v ++ [⟨n, x, 0⟩], Gr a.F w w'⟩ ∧ Kept a.F w w' := by
  obtain ⟨mb, L, hc, hL, hF, hb⟩ := h
  have hno' := noA hL hno
  have hlen := lenA hL
  obtain ⟨Lu, le, Lv, rfl, h1, ⟨hn', hx, hp⟩, h2⟩ := splitA hL hM
  refine (put_full hc n x hn hno' (by rw [hlen]; exact hr) (by omega)).mono ?_
  rintro r w' (⟨u', e', v', hsp, hu', he', rfl, b, hc', hk, hbb⟩ | ⟨hall, -, -, -⟩)
  · obtain ⟨rfl, rfl, rfl⟩ := first_free hsp (pinA h1 (p := fun q => 0 < q) hu) (by rw [hp]; exact he) hu' he'
    refine ⟨by rw [hn'], isA_mk hc' ?_ hk hF hb fun k h => bl_snoc2 (fun y hy => ?_) hbb h⟩
    · simp only [List.map_append, List.map_cons, List.map_nil, h1, h2, keyE, keyA]
    · rcases List.mem_append.1 hy with h | h <;> simp [h]
  · have := hall le (by simp)
    omega
theorem A_put_held (h : isA w a) (n x : Int) (hn : Wf n) (hno : ∀ y ∈ a.M, y.n ≠ n) (hr : a.P ≤ (a.M.length : Int)) (hl : a.M.length ≤ 65536) (hu : ∀ y ∈ a.M, 0 < y.p) : Calls Try.prog 11 #[.pointer (some ⟨a.p, 0, none⟩), .int .i64 n, .int .i64 x] w fun r w' =>
    r = .returned (.tuple #[.int .i64 n, .bool true]) ∧ isA w' ⟨a.p, a.P, a.hit, a.miss, a.M, Gr a.F w w'⟩ ∧ Kept a.F w w' := by
  obtain ⟨mb, L, hc, hL, hF, hb⟩ := h
  refine (put_full hc n x hn (noA hL hno) (by rw [lenA hL]; exact hr) (by rw [lenA hL]; exact hl)).mono ?_
  rintro r w' (⟨u', e', v', rfl, hu', he', rfl, b, hc', hk, hbb⟩ | ⟨hall, rfl, hc', hk⟩)
  · have := pinA hL (p := fun q => 0 < q) hu e' (by simp)
    omega
  · exact ⟨rfl, isA_mk hc' hL hk hF hb fun k h => .inl h⟩
theorem A_drop_some (h : isA w a) (hM : a.M = u ++ e :: v) : Calls Try.prog 21 #[.pointer (some ⟨a.p, 0, none⟩), .int .i64 e.n] w fun r w' =>
    r = .returned (.bool true) ∧ isA w' ⟨a.p, a.P, a.hit, a.miss, u ++ v, Gr a.F w w'⟩ ∧ Kept a.F w w' := by
  obtain ⟨mb, L, hc, hL, hF, hb⟩ := h
  obtain ⟨Lu, le, Lv, rfl, h1, ⟨hn, hx, hp⟩, h2⟩ := splitA hL hM
  rw [← hn]
  refine (drop_some hc).mono ?_
  rintro r w' ⟨rfl, hc', hk⟩
  refine ⟨rfl, isA_mk hc' ?_ hk hF hb fun k h => .inl (bl_sub (fun b hb => ?_) h)⟩
  · simp only [List.map_append, h1, h2]
  · simp only [List.map_append, List.map_cons, List.mem_append, List.mem_cons] at hb ⊢
    rcases hb with hb | hb <;> simp [hb]
theorem A_drop_none (h : isA w a) (n : Int) (hn : Wf n) (hno : ∀ y ∈ a.M, y.n ≠ n) : Calls Try.prog 21 #[.pointer (some ⟨a.p, 0, none⟩), .int .i64 n] w fun r w' => r = .returned (.bool false) ∧ w = w' := by
  obtain ⟨mb, L, hc, hL, hF, hb⟩ := h
  exact drop_none hc n hn (noA hL hno)
theorem A_pin_some (h : isA w a) (hM : a.M = u ++ e :: v) : Calls Try.prog 15 #[.pointer (some ⟨a.p, 0, none⟩), .int .i64 e.n] w fun r w' =>
    r = .returned (.bool true) ∧ isA w' ⟨a.p, a.P, a.hit, a.miss, u ++ { e with p := wrap64 (e.p + 1) } :: v, Gr a.F w w'⟩ ∧ Kept a.F w w' := by
  obtain ⟨mb, L, hc, hL, hF, hb⟩ := h
  obtain ⟨Lu, le, Lv, rfl, h1, ⟨hn, hx, hp⟩, h2⟩ := splitA hL hM
  rw [← hn]
  refine (pin_some hc).mono ?_
  rintro r w' ⟨rfl, hc', hk⟩
  refine ⟨rfl, isA_mk hc' ?_ hk hF hb fun k h => .inl (bl_sub (fun b hb => ?_) h)⟩
  · simp only [List.map_append, List.map_cons, h1, h2, keyE, keyA, hn, hx, hp]
  · simpa using hb
theorem A_pin_none (h : isA w a) (n : Int) (hn : Wf n) (hno : ∀ y ∈ a.M, y.n ≠ n) : Calls Try.prog 15 #[.pointer (some ⟨a.p, 0, none⟩), .int .i64 n] w fun r w' => r = .returned (.bool false) ∧ w = w' := by
  obtain ⟨mb, L, hc, hL, hF, hb⟩ := h
  exact pin_none hc n hn (noA hL hno)
theorem A_unpin_some (h : isA w a) (hM : a.M = u ++ e :: v) (he : e.p ≠ 0) : Calls Try.prog 42 #[.pointer (some ⟨a.p, 0, none⟩), .int .i64 e.n] w fun r w' =>
    r = .returned (.bool true) ∧ isA w' ⟨a.p, a.P, a.hit, a.miss, u ++ { e with p := wrap64 (e.p - 1) } :: v, Gr a.F w w'⟩ ∧ Kept a.F w w' := by
  obtain ⟨mb, L, hc, hL, hF, hb⟩ := h
  obtain ⟨Lu, le, Lv, rfl, h1, ⟨hn, hx, hp⟩, h2⟩ := splitA hL hM
  rw [← hn]
  refine (unpin_some hc (by rw [hp]; exact he)).mono ?_
  rintro r w' ⟨rfl, hc', hk⟩
  refine ⟨rfl, isA_mk hc' ?_ hk hF hb fun k h => .inl (bl_sub (fun b hb => ?_) h)⟩
  · simp only [List.map_append, List.map_cons, h1, h2, keyE, keyA, hn, hx, hp]
  · simpa using hb
theorem A_unpin_zero (h : isA w a) (hM : a.M = u ++ e :: v) (he : e.p = 0) : Calls Try.prog 42 #[.pointer (some ⟨a.p, 0, none⟩), .int .i64 e.n] w fun r w' => r = .returned (.bool false) ∧ w = w' := by
  obtain ⟨mb, L, hc, hL, hF, hb⟩ := h
  obtain ⟨Lu, le, Lv, rfl, h1, ⟨hn, hx, hp⟩, h2⟩ := splitA hL hM
  rw [← hn]
  exact unpin_zero hc (by rw [hp]; exact he)
theorem A_unpin_none (h : isA w a) (n : Int) (hn : Wf n) (hno : ∀ y ∈ a.M, y.n ≠ n) : Calls Try.prog 42 #[.pointer (some ⟨a.p, 0, none⟩), .int .i64 n] w fun r w' => r = .returned (.bool false) ∧ w = w' := by
  obtain ⟨mb, L, hc, hL, hF, hb⟩ := h
  exact unpin_none hc n hn (noA hL hno)
theorem A_numbers (h : isA w a) (hl : a.M.length ≤ 65536) : Calls Try.prog 13 #[.pointer (some ⟨a.p, 0, none⟩)] w fun r w' =>
    ∃ A c, r = .returned (.slice A a.M.length c) ∧ OwnsI w' w.heap.size (.slice A a.M.length c) (a.M.map (·.n)) ∧ Below w.heap.size w w' := by
  obtain ⟨mb, L, hc, hL, hF, hb⟩ := h
  refine (numbers_int hc (by rw [lenA hL]; exact hl)).mono ?_
  rintro r w' ⟨A, c, rfl, ho, hbl⟩
  have e : L.map (·.n) = a.M.map (·.n) := by
    have := congrArg (fun q : List (Int × Value × Int) => q.map (·.1)) hL
    simp only [List.map_map] at this
    exact this
  rw [e, List.length_map] at ho
  rw [lenA hL]
  exact ⟨A, c, rfl, ho, hbl⟩
theorem A_count (h : isA w a) : Calls Try.prog 14 #[.pointer (some ⟨a.p, 0, none⟩)] w fun r w' => r = .returned (.int .i64 (a.M.length : Int)) ∧ w = w' := by
  obtain ⟨mb, L, hc, hL, hF, hb⟩ := h
  rw [← lenA hL]
  exact count_int hc
theorem A_hits (h : isA w a) : Calls Try.prog 30 #[.pointer (some ⟨a.p, 0, none⟩)] w fun r w' => r = .returned (.tuple #[.int .i64 a.hit, .int .i64 a.miss]) ∧ ∃ q, w' = w.drewN q := by
  obtain ⟨mb, L, hc, hL, hF, hb⟩ := h
  exact hits_int hc
theorem A_new (P : Int) (w : World) (h1 : 1 ≤ P) (h2 : P ≤ 65536) : Calls Try.prog 9 #[.int .i64 P] w fun r w' =>
    ∃ p, r = .returned (.tuple #[.pointer (some ⟨p, 0, none⟩), .int .i64 0]) ∧ isA w' ⟨p, P, 0, 0, [], Gr (fun _ => False) w w'⟩ ∧ Below w.heap.size w w' := by
  refine (new_int P w h1 h2).mono ?_
  rintro r w' ⟨rfl, hc, hb⟩
  refine ⟨w.heap.size + 1, rfl, ⟨w.heap.size, [], hc, rfl, fun k hk => .inr ⟨?_, hc.lt k hk⟩, fun k hk => ?_⟩, hb⟩
  · rcases hk with rfl | rfl | ⟨e, he, -⟩
    · exact Nat.le_refl _
    · show w.heap.size ≤ w.heap.size + 1
      omega
    · cases he
  · rcases hk with hk | hk
    · exact hk.elim
    · exact hk.2
end
end Go.Proofs.Ytghakgepchlpgaa
