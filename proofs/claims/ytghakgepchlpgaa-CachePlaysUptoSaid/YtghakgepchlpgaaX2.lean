/- CACHES OF LISTS AS OBJECTS: each list has its own block, and they lie apart. -/
import Derived.Test.YtghakgepchlpgaaX1
namespace Go.Proofs.Ytghakgepchlpgaa
open Go.RowKit Go.Maps
def keyL (z : Th × Nat) : Int × Value × Int := (z.1.n, .slice (some ⟨z.2, 0, none⟩) 1 1, z.1.p)
structure CoL (w : World) (a : Ob) (mb : Nat) (L : List Ent) (Z : List (Th × Nat)) : Prop where
  ca : CA 82 80 (.slice none 0 0) w a.p mb a.P a.hit a.miss L
  key : L.map keyE = Z.map keyL
  mod : Z.map (·.1) = a.M
  val : ∀ z ∈ Z, Blk w z.2 3 #[.int .i64 z.1.x] ∧ a.F z.2
  nd : (Z.map (·.2)).Nodup
  bl : ∀ k, Bl a.p mb L k → a.F k
  lt : ∀ k, a.F k → k < w.heap.size
def isL (w : World) (a : Ob) : Prop := ∃ mb L Z, CoL w a mb L Z
/-- and the last one's list lies in block h -/
def isLb (w : World) (a : Ob) (h : Nat) : Prop := ∃ mb L Z t, CoL w a mb L (Z ++ [(t, h)])
theorem isLb.weak {w : World} {a : Ob} {h : Nat} (x : isLb w a h) : isL w a := by obtain ⟨mb, L, Z, t, c⟩ := x; exact ⟨mb, L, _, c⟩
theorem CoL.kept {w w' : World} {a : Ob} {S : Nat → Prop} {mb : Nat} {L : List Ent} {Z : List (Th × Nat)} (h : CoL w a mb L Z) (hk : Kept S w w') (hs : ∀ k, a.F k → ¬ S k) : CoL w' a mb L Z :=
  ⟨h.ca.kept hk fun q hq => hs q (h.bl q hq), h.key, h.mod, fun z hz => ⟨(h.val z hz).1.kept hk (hs _ (h.val z hz).2), (h.val z hz).2⟩, h.nd, h.bl, fun k hk' => Nat.lt_of_lt_of_le (h.lt k hk') hk.size⟩
theorem isL.kept {w w' : World} {a : Ob} {S : Nat → Prop} (h : isL w a) (hk : Kept S w w') (hs : ∀ k, a.F k → ¬ S k) : isL w' a := by
  obtain ⟨mb, L, Z, c⟩ := h; exact ⟨mb, L, Z, c.kept hk hs⟩
theorem isLb.kept {w w' : World} {a : Ob} {S : Nat → Prop} {q : Nat} (h : isLb w a q) (hk : Kept S w w') (hs : ∀ k, a.F k → ¬ S k) : isLb w' a q := by
  obtain ⟨mb, L, Z, t, c⟩ := h; exact ⟨mb, L, Z, t, c.kept hk hs⟩
theorem isL.lt {w : World} {a : Ob} (h : isL w a) : ∀ k, a.F k → k < w.heap.size := by obtain ⟨_, _, _, c⟩ := h; exact c.lt
theorem keyAL {L : List Ent} {Z : List (Th × Nat)} {M : List Th} (h : L.map keyE = Z.map keyL) (hm : Z.map (·.1) = M) : L.map (fun e => (e.n, e.pin)) = M.map fun t => (t.n, t.p) := by
  have := congrArg (fun q : List (Int × Value × Int) => q.map fun y => (y.1, y.2.2)) h
  simp only [List.map_map] at this
  rw [← hm, List.map_map]
  exact this
theorem lenL {L : List Ent} {Z : List (Th × Nat)} {M : List Th} (h : L.map keyE = Z.map keyL) (hm : Z.map (·.1) = M) : L.length = M.length := by
  have := congrArg List.length (keyAL h hm)
  simpa using this
theorem noL {L : List Ent} {Z : List (Th × Nat)} {M : List Th} (hL : L.map keyE = Z.map keyL) (hm : Z.map (·.1) = M) {n : Int} (h : ∀ y ∈ M, y.n ≠ n) : ∀ e ∈ L, e.n ≠ n := by
  intro e he hn
  have : (e.n, e.pin) ∈ M.map fun t => (t.n, t.p) := by rw [← keyAL hL hm]; exact List.mem_map.2 ⟨e, he, rfl⟩
  obtain ⟨t, ht, hk⟩ := List.mem_map.1 this
  injection hk with h1 _
  exact h t ht (h1.trans hn)
theorem pinL {L : List Ent} {Z : List (Th × Nat)} {M : List Th} (hL : L.map keyE = Z.map keyL) (hm : Z.map (·.1) = M) {p : Int → Prop} (h : ∀ y ∈ M, p y.p) : ∀ e ∈ L, p e.pin := by
  intro e he
  have : (e.n, e.pin) ∈ M.map fun t => (t.n, t.p) := by rw [← keyAL hL hm]; exact List.mem_map.2 ⟨e, he, rfl⟩
  obtain ⟨t, ht, hk⟩ := List.mem_map.1 this
  injection hk with _ h2
  rw [← h2]
  exact h t ht
theorem splitL {L : List Ent} {Z : List (Th × Nat)} {M u v : List Th} {e : Th} (hL : L.map keyE = Z.map keyL) (hm : Z.map (·.1) = M) (hM : M = u ++ e :: v) :
    ∃ Zu h Zv Lu le Lv, Z = Zu ++ (e, h) :: Zv ∧ L = Lu ++ le :: Lv ∧ Zu.map (·.1) = u ∧ Zv.map (·.1) = v ∧ Lu.map keyE = Zu.map keyL ∧ Lv.map keyE = Zv.map keyL ∧ le.n = e.n ∧ le.x = .slice (some ⟨h, 0, none⟩) 1 1 ∧ le.pin = e.p := by
  rw [hM] at hm
  obtain ⟨Zu, r, rfl, h1, h2⟩ := List.map_eq_append_iff.1 hm
  obtain ⟨⟨t, h⟩, Zv, rfl, h3, h4⟩ := List.map_eq_cons_iff.1 h2
  simp only at h3
  subst h3
  rw [List.map_append, List.map_cons] at hL
  obtain ⟨Lu, r, rfl, k1, k2⟩ := List.map_eq_append_iff.1 hL
  obtain ⟨le, Lv, rfl, k3, k4⟩ := List.map_eq_cons_iff.1 k2
  have a1 := congrArg (fun q : Int × Value × Int => q.1) k3
  have a2 := congrArg (fun q : Int × Value × Int => q.2.1) k3
  have a3 := congrArg (fun q : Int × Value × Int => q.2.2) k3
  exact ⟨Zu, h, Zv, Lu, le, Lv, rfl, rfl, h1, h4, k1, k4, a1, a2, a3⟩
theorem notVal {w : World} {cb mb : Nat} {P hit miss : Int} {L : List Ent} {zx : Value} (hc : CA 82 80 zx w cb mb P hit miss L) {k : Nat} {cs : Array Value} (hb : Blk w k 3 cs) : ¬ Bl cb mb L k := by
  unfold Blk at hb
  rintro (rfl | rfl | ⟨e, he, rfl⟩)
  · obtain ⟨D, ⟨es, clock, h, -⟩, -⟩ := hc.map
    rw [h] at hb
    cases hb
  · obtain ⟨nx, el, hl, -⟩ := hc.ex
    have := hl.cache
    unfold Blk at this
    rw [this] at hb
    injection hb with hb
    injection hb with _ h2 _
    cases h2
  · obtain ⟨nx, el, hl, -⟩ := hc.ex
    have := (hl.place e he).2
    unfold Blk at this
    rw [this] at hb
    injection hb with hb
    injection hb with _ h2 _
    cases h2
theorem CoL.mk' {w w' : World} {a : Ob} {mb : Nat} {L L' : List Ent} {Z Z' : List (Th × Nat)} {M' : List Th} {hit miss : Int} (h : CoL w a mb L Z) (H : Nat → Prop) (hH : ∀ k, H k → k < w.heap.size)
    (hc : CA 82 80 (.slice none 0 0) w' a.p mb a.P hit miss L') (hk : Kept (Bl a.p mb L) w w') (hn : ∀ k, Bl a.p mb L' k → Bl a.p mb L k ∨ w.heap.size ≤ k) (hkey : L'.map keyE = Z'.map keyL) (hm : Z'.map (·.1) = M')
    (hv : ∀ z ∈ Z', Blk w z.2 3 #[.int .i64 z.1.x] ∧ (a.F z.2 ∨ H z.2)) (hnd : (Z'.map (·.2)).Nodup) : CoL w' ⟨a.p, a.P, hit, miss, M', Gr (fun k => a.F k ∨ H k) w w'⟩ mb L' Z' ∧ Kept a.F w w' := by
  refine ⟨⟨hc, hkey, hm, fun z hz => ⟨(hv z hz).1.kept hk (notVal h.ca (hv z hz).1), .inl (hv z hz).2⟩, hnd, fun k hk' => ?_, fun k hk' => ?_⟩, hk.mono fun k _ hb => h.bl k hb⟩
  · rcases hn k hk' with h1 | h1
    · exact .inl (.inl (h.bl k h1))
    · exact .inr ⟨h1, hc.lt k hk'⟩
  · rcases hk' with (h1 | h1) | h1
    · exact Nat.lt_of_lt_of_le (h.lt k h1) hk.size
    · exact Nat.lt_of_lt_of_le (hH k h1) hk.size
    · exact h1.2
theorem gr2_nw (F : Nat → Prop) (w w' : World) : Nw F (Gr (fun k => F k ∨ False) w w') w := fun k h => by
  rcases h with (h | h) | h
  · exact .inl h
  · exact h.elim
  · exact .inr h.1
theorem snd_sub {u v : List (Th × Nat)} {z : Th × Nat} (h : ((u ++ z :: v).map (·.2)).Nodup) : ((u ++ v).map (·.2)).Nodup := by
  simp only [List.map_append, List.map_cons, List.nodup_append, List.nodup_cons] at h ⊢
  exact ⟨h.1, h.2.1.2, fun a ha b hb => h.2.2 a ha b (by simp [hb])⟩
theorem snd_snoc {u : List (Th × Nat)} {t : Th} {q : Nat} (h : (u.map (·.2)).Nodup) (hq : ∀ z ∈ u, z.2 ≠ q) : ((u ++ [(t, q)]).map (·.2)).Nodup := by
  rw [List.map_append, List.nodup_append]
  refine ⟨h, by simp, fun a ha b hb e => ?_⟩
  simp only [List.map_cons, List.map_nil, List.mem_singleton] at hb
  obtain ⟨z, hz, rfl⟩ := List.mem_map.1 ha
  exact hq z hz (e.trans hb)
section
variable {w : World} {a : Ob} {u v : List Th} {e : Th}
theorem L_get_some (h : isL w a) (hM : a.M = u ++ e :: v) : Calls Try.prog 26 #[.pointer (some ⟨a.p, 0, none⟩), .int .i64 e.n] w fun r w' =>
    ∃ q, r = .returned (.tuple #[.slice (some ⟨q, 0, none⟩) 1 1, .bool true]) ∧ isLb w' ⟨a.p, a.P, wrap64 (a.hit + 1), a.miss, u ++ v ++ [e], Gr (fun k => a.F k ∨ False) w w'⟩ q ∧ Kept a.F w w' ∧ Blk w' q 3 #[.int .i64 e.x] ∧ a.F q := by
  obtain ⟨mb, L, Z, c⟩ := h
  have cc := c
  obtain ⟨hc, hkey, hmod, hval, hnd, hbl, hlt⟩ := c
  obtain ⟨Zu, q, Zv, Lu, le, Lv, rfl, rfl, z1, z2, k1, k2, hn, hx, hp⟩ := splitL hkey hmod hM
  rw [← hn]
  refine (Sl.get_some hc hx).mono ?_
  rintro r w' ⟨rfl, hc', hk⟩
  have hq := hval (e, q) (by simp)
  obtain ⟨r1, r2⟩ := cc.mk' (fun _ => False) (fun _ h => h.elim) hc' hk (fun k h => .inl (bl_sub (fun b hb => by
    simp only [List.map_append, List.map_cons, List.map_nil, List.mem_append, List.mem_cons, List.not_mem_nil, or_false] at hb ⊢
    rcases hb with (hb | hb) | hb <;> simp [hb]) h)) (Z' := Zu ++ Zv ++ [(e, q)]) (by
    simp only [List.map_append, List.map_cons, List.map_nil, k1, k2, keyE, keyL, hn, hx, hp]) (M' := u ++ v ++ [e]) (by simp only [List.map_append, List.map_cons, List.map_nil, z1, z2]) (fun z hz => by
    have hz' : z ∈ Zu ++ (e, q) :: Zv := by
      simp only [List.mem_append, List.mem_cons, List.not_mem_nil, or_false] at hz ⊢
      rcases hz with (hz | hz) | hz <;> simp [hz]
    exact ⟨(hval z hz').1, .inl (hval z hz').2⟩) (nodup_move _ Zu Zv (e, q) hnd)
  exact ⟨q, by rw [hx], ⟨mb, _, Zu ++ Zv, e, r1⟩, r2, hq.1.kept hk (notVal cc.ca hq.1), hq.2⟩
theorem L_get_none (h : isL w a) (n : Int) (hn : Wf n) (hno : ∀ y ∈ a.M, y.n ≠ n) : Calls Try.prog 26 #[.pointer (some ⟨a.p, 0, none⟩), .int .i64 n] w fun r w' =>
    r = .returned (.tuple #[.slice none 0 0, .bool false]) ∧ isL w' ⟨a.p, a.P, a.hit, wrap64 (a.miss + 1), a.M, Gr (fun k => a.F k ∨ False) w w'⟩ ∧ Kept a.F w w' := by
  obtain ⟨mb, L, Z, c⟩ := h
  refine (Sl.get_none c.ca n hn (noL c.key c.mod hno)).mono ?_
  rintro r w' ⟨rfl, hc', hk⟩
  obtain ⟨r1, r2⟩ := c.mk' (fun _ => False) (fun _ h => h.elim) hc' hk (fun k h => .inl h) c.key c.mod (fun z hz => ⟨(c.val z hz).1, .inl (c.val z hz).2⟩) c.nd
  exact ⟨rfl, ⟨mb, _, _, r1⟩, r2⟩
theorem L_put_found (h : isL w a) (hM : a.M = u ++ e :: v) (x : Int) (q : Nat) (hq : Blk w q 3 #[.int .i64 x]) (hF : ¬ a.F q) : Calls Try.prog 36 #[.pointer (some ⟨a.p, 0, none⟩), .int .i64 e.n, .slice (some ⟨q, 0, none⟩) 1 1] w fun r w' =>
    r = .returned (.tuple #[.int .i64 0, .bool false]) ∧ isL w' ⟨a.p, a.P, a.hit, a.miss, u ++ v ++ [{ e with x := x }], Gr (fun k => a.F k ∨ k = q) w w'⟩ ∧ Kept a.F w w' := by
  obtain ⟨mb, L, Z, c⟩ := h
  have cc := c
  obtain ⟨hc, hkey, hmod, hval, hnd, hbl, hlt⟩ := c
  obtain ⟨Zu, q0, Zv, Lu, le, Lv, rfl, rfl, z1, z2, k1, k2, hn, hx, hp⟩ := splitL hkey hmod hM
  have hcall := Sl.put_found hc (some ⟨q, 0, none⟩) 1 1
  rw [hn] at hcall
  refine hcall.mono ?_
  rintro r w' ⟨rfl, hc', hk⟩
  have hsub : ∀ z ∈ Zu ++ Zv, z ∈ Zu ++ (e, q0) :: Zv := fun z hz => by rcases List.mem_append.1 hz with h | h <;> simp [h]
  obtain ⟨r1, r2⟩ := cc.mk' (fun k => k = q) (fun k h => by rw [h]; exact hq.lt) hc' hk (fun k h => .inl (bl_sub (fun b hb => by
    simp only [List.map_append, List.map_cons, List.map_nil, List.mem_append, List.mem_cons, List.not_mem_nil, or_false] at hb ⊢
    rcases hb with (hb | hb) | hb <;> simp [hb]) h)) (Z' := Zu ++ Zv ++ [({ e with x := x }, q)]) (by
    simp only [List.map_append, List.map_cons, List.map_nil, k1, k2, keyE, keyL, hn, hp]) (M' := u ++ v ++ [{ e with x := x }]) (by simp only [List.map_append, List.map_cons, List.map_nil, z1, z2]) (fun z hz => by
    rcases List.mem_append.1 hz with hz | hz
    · exact ⟨(hval z (hsub z hz)).1, .inl (hval z (hsub z hz)).2⟩
    · rw [List.mem_singleton.1 hz]
      exact ⟨hq, .inr rfl⟩) (snd_snoc (snd_sub hnd) fun z hz e => hF (by rw [← e]; exact (hval z (hsub z hz)).2))
  exact ⟨rfl, ⟨mb, _, _, r1⟩, r2⟩
theorem L_put_room (h : isL w a) (n x : Int) (q : Nat) (hq : Blk w q 3 #[.int .i64 x]) (hF : ¬ a.F q) (hn : Wf n) (hno : ∀ y ∈ a.M, y.n ≠ n) (hr : (a.M.length : Int) < a.P) (hP : a.P ≤ 65536) : Calls Try.prog 36 #[.pointer (some ⟨a.p, 0, none⟩), .int .i64 n, .slice (some ⟨q, 0, none⟩) 1 1] w fun r w' =>
    r = .returned (.tuple #[.int .i64 0, .bool false]) ∧ isL w' ⟨a.p, a.P, a.hit, a.miss, a.M ++ [⟨n, x, 0⟩], Gr (fun k => a.F k ∨ k = q) w w'⟩ ∧ Kept a.F w w' := by
  obtain ⟨mb, L, Z, c⟩ := h
  refine (Sl.put_room c.ca n (some ⟨q, 0, none⟩) 1 1 hn (noL c.key c.mod hno) (by rw [lenL c.key c.mod]; exact hr) hP).mono ?_
  rintro r w' ⟨rfl, b, hc', hk, hbb⟩
  obtain ⟨r1, r2⟩ := c.mk' (fun k => k = q) (fun k h => by rw [h]; exact hq.lt) hc' hk (fun k h => bl_snoc2 (fun y hy => hy) hbb h) (Z' := Z ++ [(⟨n, x, 0⟩, q)]) (by
    simp only [List.map_append, List.map_cons, List.map_nil, c.key, keyE, keyL]) (M' := a.M ++ [⟨n, x, 0⟩]) (by simp only [List.map_append, List.map_cons, List.map_nil, c.mod]) (fun z hz => by
    rcases List.mem_append.1 hz with hz | hz
    · exact ⟨(c.val z hz).1, .inl (c.val z hz).2⟩
    · rw [List.mem_singleton.1 hz]
      exact ⟨hq, .inr rfl⟩) (snd_snoc c.nd fun z hz e => hF (by rw [← e]; exact (c.val z hz).2))
  exact ⟨rfl, ⟨mb, _, _, r1⟩, r2⟩
theorem L_put_full (h : isL w a) (hM : a.M = u ++ e :: v) (n x : Int) (q : Nat) (hq : Blk w q 3 #[.int .i64 x]) (hF : ¬ a.F q) (hn : Wf n) (hno : ∀ y ∈ a.M, y.n ≠ n) (hr : a.P ≤ (a.M.length : Int)) (hl : a.M.length ≤ 65536) (hu : ∀ y ∈ u, 0 < y.p) (he : e.p ≤ 0) :
    Calls Try.prog 36 #[.pointer (some ⟨a.p, 0, none⟩), .int .i64 n, .slice (some ⟨q, 0, none⟩) 1 1] w fun r w' =>
    r = .returned (.tuple #[.int .i64 e.n, .bool true]) ∧ isL w' ⟨a.p, a.P, a.hit, a.miss, u ++ v ++ [⟨n, x, 0⟩], Gr (fun k => a.F k ∨ k = q) w w'⟩ ∧ Kept a.F w w' := by
  obtain ⟨mb, L, Z, c⟩ := h
  have cc := c
  have hno' := noL c.key c.mod hno
  have hlen := lenL c.key c.mod
  obtain ⟨hc, hkey, hmod, hval, hnd, hbl, hlt⟩ := c
  obtain ⟨Zu, q0, Zv, Lu, le, Lv, rfl, rfl, z1, z2, k1, k2, hn', hx, hp⟩ := splitL hkey hmod hM
  refine (Sl.put_full hc n (some ⟨q, 0, none⟩) 1 1 hn hno' (by rw [hlen]; exact hr) (by omega)).mono ?_
  have hsub : ∀ z ∈ Zu ++ Zv, z ∈ Zu ++ (e, q0) :: Zv := fun z hz => by rcases List.mem_append.1 hz with h | h <;> simp [h]
  rintro r w' (⟨u', e', v', hsp, hu', he', rfl, b, hc', hk, hbb⟩ | ⟨hall, -, -, -⟩)
  · obtain ⟨rfl, rfl, rfl⟩ := first_free hsp (pinL k1 z1 (p := fun q => 0 < q) hu) (by rw [hp]; exact he) hu' he'
    obtain ⟨r1, r2⟩ := cc.mk' (fun k => k = q) (fun k h => by rw [h]; exact hq.lt) hc' hk (fun k h => bl_snoc2 (fun y hy => by rcases List.mem_append.1 hy with h | h <;> simp [h]) hbb h) (Z' := Zu ++ Zv ++ [(⟨n, x, 0⟩, q)]) (by
      simp only [List.map_append, List.map_cons, List.map_nil, k1, k2, keyE, keyL]) (M' := u ++ v ++ [⟨n, x, 0⟩]) (by simp only [List.map_append, List.map_cons, List.map_nil, z1, z2]) (fun z hz => by
      rcases List.mem_append.1 hz with hz | hz
      · exact ⟨(hval z (hsub z hz)).1, .inl (hval z (hsub z hz)).2⟩
      · rw [List.mem_singleton.1 hz]
        exact ⟨hq, .inr rfl⟩) (snd_snoc (snd_sub hnd) fun z hz e => hF (by rw [← e]; exact (hval z (hsub z hz)).2))
    exact ⟨by rw [hn'], ⟨mb, _, _, r1⟩, r2⟩
  · have := hall le (by simp)
    omega
theorem L_put_held (h : isL w a) (n : Int) (q : Nat) (hq : q < w.heap.size) (hn : Wf n) (hno : ∀ y ∈ a.M, y.n ≠ n) (hr : a.P ≤ (a.M.length : Int)) (hl : a.M.length ≤ 65536) (hu : ∀ y ∈ a.M, 0 < y.p) : Calls Try.prog 36 #[.pointer (some ⟨a.p, 0, none⟩), .int .i64 n, .slice (some ⟨q, 0, none⟩) 1 1] w fun r w' =>
    r = .returned (.tuple #[.int .i64 n, .bool true]) ∧ isL w' ⟨a.p, a.P, a.hit, a.miss, a.M, Gr (fun k => a.F k ∨ k = q) w w'⟩ ∧ Kept a.F w w' := by
  obtain ⟨mb, L, Z, c⟩ := h
  refine (Sl.put_full c.ca n (some ⟨q, 0, none⟩) 1 1 hn (noL c.key c.mod hno) (by rw [lenL c.key c.mod]; exact hr) (by rw [lenL c.key c.mod]; exact hl)).mono ?_
  rintro r w' (⟨u', e', v', rfl, hu', he', rfl, b, hc', hk, hbb⟩ | ⟨hall, rfl, hc', hk⟩)
  · have := pinL c.key c.mod (p := fun q => 0 < q) hu e' (by simp)
    omega
  · obtain ⟨r1, r2⟩ := c.mk' (fun k => k = q) (fun k h => by rw [h]; exact hq) hc' hk (fun k h => .inl h) c.key c.mod (fun z hz => ⟨(c.val z hz).1, .inl (c.val z hz).2⟩) c.nd
    exact ⟨rfl, ⟨mb, _, _, r1⟩, r2⟩
theorem L_drop_some (h : isL w a) (hM : a.M = u ++ e :: v) : Calls Try.prog 38 #[.pointer (some ⟨a.p, 0, none⟩), .int .i64 e.n] w fun r w' =>
    r = .returned (.bool true) ∧ isL w' ⟨a.p, a.P, a.hit, a.miss, u ++ v, Gr (fun k => a.F k ∨ False) w w'⟩ ∧ Kept a.F w w' := by
  obtain ⟨mb, L, Z, c⟩ := h
  have cc := c
  obtain ⟨hc, hkey, hmod, hval, hnd, hbl, hlt⟩ := c
  obtain ⟨Zu, q0, Zv, Lu, le, Lv, rfl, rfl, z1, z2, k1, k2, hn, hx, hp⟩ := splitL hkey hmod hM
  rw [← hn]
  refine (Sl.drop_some hc).mono ?_
  rintro r w' ⟨rfl, hc', hk⟩
  have hsub : ∀ z ∈ Zu ++ Zv, z ∈ Zu ++ (e, q0) :: Zv := fun z hz => by rcases List.mem_append.1 hz with h | h <;> simp [h]
  obtain ⟨r1, r2⟩ := cc.mk' (fun _ => False) (fun _ h => h.elim) hc' hk (fun k h => .inl (bl_sub (fun b hb => by
    simp only [List.map_append, List.map_cons, List.mem_append, List.mem_cons] at hb ⊢
    rcases hb with hb | hb <;> simp [hb]) h)) (Z' := Zu ++ Zv) (by simp only [List.map_append, k1, k2]) (M' := u ++ v) (by simp only [List.map_append, z1, z2]) (fun z hz => ⟨(hval z (hsub z hz)).1, .inl (hval z (hsub z hz)).2⟩) (snd_sub hnd)
  exact ⟨rfl, ⟨mb, _, _, r1⟩, r2⟩
theorem L_drop_none (h : isL w a) (n : Int) (hn : Wf n) (hno : ∀ y ∈ a.M, y.n ≠ n) : Calls Try.prog 38 #[.pointer (some ⟨a.p, 0, none⟩), .int .i64 n] w fun r w' => r = .returned (.bool false) ∧ w = w' := by
  obtain ⟨mb, L, Z, c⟩ := h
  exact Sl.drop_none c.ca n hn (noL c.key c.mod hno)
theorem CoL.repin {w w' : World} {a : Ob} {mb : Nat} {Lu Lv : List Ent} {le le' : Ent} {Zu Zv : List (Th × Nat)} {e : Th} {q : Nat} {p : Int} {u v : List Th} (c : CoL w a mb (Lu ++ le :: Lv) (Zu ++ (e, q) :: Zv)) (hc' : CA 82 80 (.slice none 0 0) w' a.p mb a.P a.hit a.miss (Lu ++ le' :: Lv))
    (hk : Kept (Bl a.p mb (Lu ++ le :: Lv)) w w') (h1 : le'.b = le.b) (h2 : le'.n = e.n) (h3 : le'.x = .slice (some ⟨q, 0, none⟩) 1 1) (h4 : le'.pin = p) (k1 : Lu.map keyE = Zu.map keyL) (k2 : Lv.map keyE = Zv.map keyL) (z1 : Zu.map (·.1) = u) (z2 : Zv.map (·.1) = v) :
    isL w' ⟨a.p, a.P, a.hit, a.miss, u ++ { e with p := p } :: v, Gr (fun k => a.F k ∨ False) w w'⟩ ∧ Kept a.F w w' := by
  obtain ⟨r1, r2⟩ := c.mk' (fun _ => False) (fun _ h => h.elim) hc' hk (fun k h => .inl (bl_sub (fun b hb => by simpa [h1] using hb) h)) (Z' := Zu ++ ({ e with p := p }, q) :: Zv) (by
    simp only [List.map_append, List.map_cons, k1, k2, keyE, keyL, h2, h3, h4]) (M' := u ++ { e with p := p } :: v) (by simp only [List.map_append, List.map_cons, z1, z2]) (fun z hz => by
    simp only [List.mem_append, List.mem_cons] at hz
    rcases hz with hz | rfl | hz
    · have := c.val z (by simp [hz]); exact ⟨this.1, .inl this.2⟩
    · have := c.val (e, q) (by simp); exact ⟨this.1, .inl this.2⟩
    · have := c.val z (by simp [hz]); exact ⟨this.1, .inl this.2⟩) (by have := c.nd; simpa using this)
  exact ⟨⟨mb, _, _, r1⟩, r2⟩
theorem L_pin_some (h : isL w a) (hM : a.M = u ++ e :: v) : Calls Try.prog 40 #[.pointer (some ⟨a.p, 0, none⟩), .int .i64 e.n] w fun r w' =>
    r = .returned (.bool true) ∧ isL w' ⟨a.p, a.P, a.hit, a.miss, u ++ { e with p := wrap64 (e.p + 1) } :: v, Gr (fun k => a.F k ∨ False) w w'⟩ ∧ Kept a.F w w' := by
  obtain ⟨mb, L, Z, c⟩ := h
  obtain ⟨Zu, q0, Zv, Lu, le, Lv, rfl, rfl, z1, z2, k1, k2, hn, hx, hp⟩ := splitL c.key c.mod hM
  have hcall := Sl.pin_some c.ca
  rw [hn] at hcall
  refine hcall.mono ?_
  rintro r w' ⟨rfl, hc', hk⟩
  exact ⟨rfl, c.repin hc' hk rfl rfl hx (by simp only [hp]) k1 k2 z1 z2⟩
theorem L_pin_none (h : isL w a) (n : Int) (hn : Wf n) (hno : ∀ y ∈ a.M, y.n ≠ n) : Calls Try.prog 40 #[.pointer (some ⟨a.p, 0, none⟩), .int .i64 n] w fun r w' => r = .returned (.bool false) ∧ w = w' := by
  obtain ⟨mb, L, Z, c⟩ := h
  exact Sl.pin_none c.ca n hn (noL c.key c.mod hno)
theorem L_unpin_some (h : isL w a) (hM : a.M = u ++ e :: v) (he : e.p ≠ 0) : Calls Try.prog 43 #[.pointer (some ⟨a.p, 0, none⟩), .int .i64 e.n] w fun r w' =>
    r = .returned (.bool true) ∧ isL w' ⟨a.p, a.P, a.hit, a.miss, u ++ { e with p := wrap64 (e.p - 1) } :: v, Gr (fun k => a.F k ∨ False) w w'⟩ ∧ Kept a.F w w' := by
  obtain ⟨mb, L, Z, c⟩ := h
  obtain ⟨Zu, q0, Zv, Lu, le, Lv, rfl, rfl, z1, z2, k1, k2, hn, hx, hp⟩ := splitL c.key c.mod hM
  have hcall := Sl.unpin_some c.ca (by rw [hp]; exact he)
  rw [hn] at hcall
  refine hcall.mono ?_
  rintro r w' ⟨rfl, hc', hk⟩
  exact ⟨rfl, c.repin hc' hk rfl rfl hx (by simp only [hp]) k1 k2 z1 z2⟩
theorem L_unpin_zero (h : isL w a) (hM : a.M = u ++ e :: v) (he : e.p = 0) : Calls Try.prog 43 #[.pointer (some ⟨a.p, 0, none⟩), .int .i64 e.n] w fun r w' => r = .returned (.bool false) ∧ w = w' := by
  obtain ⟨mb, L, Z, c⟩ := h
  obtain ⟨Zu, q0, Zv, Lu, le, Lv, rfl, rfl, z1, z2, k1, k2, hn, hx, hp⟩ := splitL c.key c.mod hM
  rw [← hn]
  exact Sl.unpin_zero c.ca (by rw [hp]; exact he)
theorem L_unpin_none (h : isL w a) (n : Int) (hn : Wf n) (hno : ∀ y ∈ a.M, y.n ≠ n) : Calls Try.prog 43 #[.pointer (some ⟨a.p, 0, none⟩), .int .i64 n] w fun r w' => r = .returned (.bool false) ∧ w = w' := by
  obtain ⟨mb, L, Z, c⟩ := h
  exact Sl.unpin_none c.ca n hn (noL c.key c.mod hno)
theorem L_numbers (h : isL w a) (hl : a.M.length ≤ 65536) : Calls Try.prog 28 #[.pointer (some ⟨a.p, 0, none⟩)] w fun r w' =>
    ∃ A c, r = .returned (.slice A a.M.length c) ∧ OwnsI w' w.heap.size (.slice A a.M.length c) (a.M.map (·.n)) ∧ Below w.heap.size w w' := by
  obtain ⟨mb, L, Z, c⟩ := h
  refine (Sl.numbers_int c.ca (by rw [lenL c.key c.mod]; exact hl)).mono ?_
  rintro r w' ⟨A, c2, rfl, ho, hbl⟩
  have e : L.map (·.n) = a.M.map (·.n) := by
    have := congrArg (fun q : List (Int × Int) => q.map (·.1)) (keyAL c.key c.mod)
    simp only [List.map_map] at this
    exact this
  rw [e, List.length_map] at ho
  rw [lenL c.key c.mod]
  exact ⟨A, c2, rfl, ho, hbl⟩
theorem L_count (h : isL w a) : Calls Try.prog 33 #[.pointer (some ⟨a.p, 0, none⟩)] w fun r w' => r = .returned (.int .i64 (a.M.length : Int)) ∧ w = w' := by
  obtain ⟨mb, L, Z, c⟩ := h
  rw [← lenL c.key c.mod]
  exact Sl.count_int c.ca
theorem L_hits (h : isL w a) : Calls Try.prog 31 #[.pointer (some ⟨a.p, 0, none⟩)] w fun r w' => r = .returned (.tuple #[.int .i64 a.hit, .int .i64 a.miss]) ∧ ∃ q, w' = w.drewN q := by
  obtain ⟨mb, L, Z, c⟩ := h
  exact Sl.hits_int c.ca
theorem L_new (P : Int) (w : World) (h1 : 1 ≤ P) (h2 : P ≤ 65536) : Calls Try.prog 34 #[.int .i64 P] w fun r w' =>
    ∃ p, r = .returned (.tuple #[.pointer (some ⟨p, 0, none⟩), .int .i64 0]) ∧ isL w' ⟨p, P, 0, 0, [], Gr (fun _ => False) w w'⟩ ∧ Below w.heap.size w w' := by
  refine (Sl.new_int P w h1 h2).mono ?_
  rintro r w' ⟨rfl, hc, hb⟩
  refine ⟨w.heap.size + 1, rfl, ⟨w.heap.size, [], [], hc, rfl, rfl, (fun z hz => by cases hz), (by simp), fun k hk => .inr ⟨?_, hc.lt k hk⟩, fun k hk => ?_⟩, hb⟩
  · rcases hk with rfl | rfl | ⟨e, he, -⟩
    · exact Nat.le_refl _
    · show w.heap.size ≤ w.heap.size + 1
      omega
    · cases he
  · rcases hk with hk | hk
    · exact hk.elim
    · exact hk.2
/-- the owner writes into the last one's list -/
theorem isLb.write {q : Nat} {t : Th} (h : isLb w a q) (hM : a.M = u ++ [t]) (x : Int) : isL (w.setCell ⟨q, 0, none⟩ (.int .i64 x)) { a with M := u ++ [{ t with x := x }] } ∧ Kept (fun k => k = q) w (w.setCell ⟨q, 0, none⟩ (.int .i64 x)) ∧ Blk (w.setCell ⟨q, 0, none⟩ (.int .i64 x)) q 3 #[.int .i64 x] ∧ a.F q := by
  obtain ⟨mb, L, Z, t', c⟩ := h
  have hq := c.val (t', q) (by simp)
  have hk : Kept (fun k => k = q) w (w.setCell ⟨q, 0, none⟩ (.int .i64 x)) := Kept.setCell (Kept.refl (fun k => k = q) w) (p := ⟨q, 0, none⟩) rfl _
  have hm := c.mod
  rw [hM, List.map_append] at hm
  obtain ⟨h1, h2⟩ := List.append_inj' hm rfl
  have ht : t' = t := by simpa using h2
  subst ht
  have hb : Blk (w.setCell ⟨q, 0, none⟩ (.int .i64 x)) q 3 #[.int .i64 x] := hq.1.put 0 _
  refine ⟨⟨mb, L, Z ++ [({ t' with x := x }, q)], ?_⟩, hk, hb, hq.2⟩
  have hnd := c.nd
  refine ⟨c.ca.kept hk (fun k hk' e => by subst e; exact notVal c.ca hq.1 hk'), by rw [c.key]; simp [keyL], by simp [h1], fun z hz => ?_, by simpa using hnd, c.bl, fun k hk' => Nat.lt_of_lt_of_le (c.lt k hk') hk.size⟩
  rcases List.mem_append.1 hz with hz | hz
  · have hz' := c.val z (by simp [hz])
    refine ⟨hz'.1.kept hk (fun e => ?_), hz'.2⟩
    simp only [List.map_append, List.map_cons, List.map_nil, List.nodup_append] at hnd
    exact hnd.2.2 z.2 (List.mem_map.2 ⟨z, hz, rfl⟩) q (by simp) e
  · rw [List.mem_singleton.1 hz]
    exact ⟨hb, hq.2⟩
end
end Go.Proofs.Ytghakgepchlpgaa
