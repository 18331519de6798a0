/- A CACHE IN MEMORY: its blocks, its ring, its map. -/
import Derived.Test.YtghakgepchlpgaaC
namespace Go.Proofs.Ytghakgepchlpgaa
open Go.RowKit Go.Maps
open Ring (upd upd_same upd_other)
namespace Ring
theorem headD_mem {α : Type} (v : List α) (r : α) : v.headD r = r ∨ v.headD r ∈ v := by cases v <;> simp
theorem Ok.at_ {α : Type} {nx el : α → α} {r p : α} {u v : List α} (h : Ok nx el r (u ++ p :: v)) : (nx p = r ∨ nx p ∈ u ++ v) ∧ (el p = r ∨ el p ∈ u ++ v) ∧ nx p ≠ p ∧ el p ≠ p := by
  have hb := h.bwd
  rw [List.reverse_append, List.reverse_cons, List.append_assoc, List.singleton_append] at hb
  have e1 := path_head (path_app.1 h.fwd).2
  have e2 := path_head (path_app.1 hb).2
  have m1 := headD_mem v r
  have m2 := headD_mem u.reverse r
  rw [← e1] at m1
  rw [← e2] at m2
  have nd := h.nd
  simp only [List.nodup_cons, List.nodup_append, List.mem_append, List.mem_cons] at nd
  obtain ⟨h1, h2, ⟨h3, h4⟩, h5⟩ := nd
  refine ⟨m1.imp id (fun h => by simp [h]), m2.imp id (fun h => by rw [List.mem_reverse] at h; simp [h]), fun e => ?_, fun e => ?_⟩
  · rcases m1 with m | m
    · rw [e] at m; exact h1 (by simp [m])
    · rw [e] at m; exact h3 m
  · rcases m2 with m | m
    · rw [e] at m; exact h1 (by simp [m])
    · rw [e, List.mem_reverse] at m; exact h5 p m p (.inl rfl) rfl
theorem Ok.ends {α : Type} {nx el : α → α} {r : α} {L : List α} (h : Ok nx el r L) : (nx r = r ∨ nx r ∈ L) ∧ (el r = r ∨ el r ∈ L) := by
  have e1 := path_head h.fwd
  have e2 := path_head h.bwd
  have m1 := headD_mem L r
  have m2 := headD_mem L.reverse r
  rw [← e1] at m1
  rw [← e2, List.mem_reverse] at m2
  exact ⟨m1, m2⟩
end Ring
theorem node_of {cb : Nat} {L : List Ent} {q : Nat} (h : q = cb ∨ q ∈ L.map (·.b)) : Node cb L q := by
  rcases h with h | h
  · exact .inl h
  · obtain ⟨e, he, hb⟩ := List.mem_map.1 h
    exact .inr ⟨e, he, hb⟩
theorem node_sub {cb : Nat} {L L' : List Ent} (hs : ∀ e ∈ L, e ∈ L') {q : Nat} (h : Node cb L q) : Node cb L' q := h.imp id (fun ⟨e, he, hb⟩ => ⟨e, hs e he, hb⟩)
section
variable {TC TP : TypeId} {zx : Value} {w : World} {cb mb : Nat} {P hit miss : Int} {L : List Ent} {nx el : Nat → Nat}
theorem Lk.setHit (h : Lk TC TP zx w cb mb P hit miss L nx el) (n : Int) : Lk TC TP zx (w.setCell ⟨cb, 7, none⟩ (.int .i64 n)) cb mb P n miss L nx el :=
  ⟨h.cache.put 7 _, fun e he => ⟨(h.place e he).1, (h.place e he).2.far (fun e2 => (h.place e he).1 e2) _⟩, h.inj⟩
theorem Lk.setMiss (h : Lk TC TP zx w cb mb P hit miss L nx el) (n : Int) : Lk TC TP zx (w.setCell ⟨cb, 8, none⟩ (.int .i64 n)) cb mb P hit n L nx el :=
  ⟨h.cache.put 8 _, fun e he => ⟨(h.place e he).1, (h.place e he).2.far (fun e2 => (h.place e he).1 e2) _⟩, h.inj⟩
/-- a place's own cells written -/
theorem Lk.setPlace {u v : List Ent} {e : Ent} (h : Lk TC TP zx w cb mb P hit miss (u ++ e :: v) nx el) (i : Nat) (z : Value) (e' : Ent) (hb : e'.b = e.b)
    (hc : (#[Value.int .i64 e.n, e.x, .int .i64 e.pin, ptr cb (el e.b), ptr cb (nx e.b)] : Array Value).setIfInBounds i z = #[.int .i64 e'.n, e'.x, .int .i64 e'.pin, ptr cb (el e.b), ptr cb (nx e.b)]) :
    Lk TC TP zx (w.setCell ⟨e.b, i, none⟩ z) cb mb P hit miss (u ++ e' :: v) nx el := by
  have he : e ∈ u ++ e :: v := by simp
  have hp := h.place e he
  have hi := h.inj
  refine ⟨h.cache.far (fun e2 => hp.1 e2.symm) _, fun x hx => ?_, by simpa [hb] using hi⟩
  rcases List.mem_append.1 hx with hx | hx
  · refine ⟨(h.place x (by simp [hx])).1, (h.place x (by simp [hx])).2.far (fun e2 => ?_) _⟩
    simp only [List.map_append, List.map_cons, List.nodup_append, List.mem_map] at hi
    exact hi.2.2 x.b ⟨x, hx, rfl⟩ e.b (by simp) e2
  · rcases List.mem_cons.1 hx with rfl | hx
    · rw [hb]
      refine ⟨hp.1, ?_⟩
      have := hp.2.put i z
      rw [hc] at this
      exact this
    · refine ⟨(h.place x (by simp [hx])).1, (h.place x (by simp [hx])).2.far (fun e2 => ?_) _⟩
      simp only [List.map_append, List.map_cons, List.nodup_append, List.nodup_cons, List.mem_map] at hi
      exact hi.2.1.1 ⟨x, hx, e2⟩
end
theorem Mp.notNode {TC TP : TypeId} {zx : Value} {w : World} {cb mb mb' : Nat} {P hit miss : Int} {L : List Ent} {nx el : Nat → Nat} {M : List (Int × Nat)} (hm : Mp w mb' M) (h : Lk TC TP zx w cb mb P hit miss L nx el) : ¬ Node cb L mb' := by
  obtain ⟨D, ⟨es, clock, hb, _⟩, _⟩ := hm
  rintro (rfl | ⟨e, he, rfl⟩)
  · have := h.cache; unfold Blk at this; rw [hb] at this; cases this
  · have := (h.place e he).2; unfold Blk at this; rw [hb] at this; cases this
/-- a cache: its blocks, its things from the eldest on -/
structure CA (TC TP : TypeId) (zx : Value) (w : World) (cb mb : Nat) (P hit miss : Int) (L : List Ent) : Prop where
  ex : ∃ nx el, Lk TC TP zx w cb mb P hit miss L nx el ∧ Ring.Ok nx el cb (L.map (·.b))
  map : Mp w mb (L.map fun e => (e.n, e.b))
  nums : (L.map (·.n)).Nodup
  wf : ∀ e ∈ L, Wf e.n
/-- the blocks that a cache has -/
def Bl (cb mb : Nat) (L : List Ent) (k : Nat) : Prop := k = mb ∨ Node cb L k
section
variable {TC TP : TypeId} {zx : Value} {w : World} {cb mb : Nat} {P hit miss : Int} {L : List Ent}
theorem CA.kept (h : CA TC TP zx w cb mb P hit miss L) {w' : World} {S : Nat → Prop} (hk : Kept S w w') (hs : ∀ q, Bl cb mb L q → ¬ S q) : CA TC TP zx w' cb mb P hit miss L := by
  obtain ⟨⟨nx, el, hl, hr⟩, hm, hn, hw⟩ := h
  exact ⟨⟨nx, el, hl.kept hk (fun q hq => hs q (.inr hq)), hr⟩, hm.kept hk (hs _ (.inl rfl)), hn, hw⟩
theorem CA.lt (h : CA TC TP zx w cb mb P hit miss L) : ∀ q, Bl cb mb L q → q < w.heap.size := by
  obtain ⟨⟨nx, el, hl, hr⟩, hm, hn, hw⟩ := h
  rintro q (rfl | rfl | ⟨e, he, rfl⟩)
  · exact hm.lt
  · exact hl.cache.lt
  · exact (hl.place e he).2.lt
theorem CA.below (h : CA TC TP zx w cb mb P hit miss L) {w' : World} (hb : Below w.heap.size w w') : CA TC TP zx w' cb mb P hit miss L :=
  h.kept (S := fun _ => False) (Kept.of_below hb) (fun _ _ e => e)
/-- split at a number -/
theorem CA.find (h : CA TC TP zx w cb mb P hit miss L) {n : Int} {b : Nat} (hb : (n, b) ∈ L.map fun e => (e.n, e.b)) : ∃ u e v, L = u ++ e :: v ∧ e.n = n ∧ e.b = b := by
  obtain ⟨e, he, heq⟩ := List.mem_map.1 hb
  obtain ⟨u, v, rfl⟩ := List.append_of_mem he
  injection heq with h1 h2
  exact ⟨u, e, v, rfl, h1, h2⟩
end
theorem nodup_move {α β : Type} (f : α → β) (u v : List α) (e : α) (h : ((u ++ e :: v).map f).Nodup) : ((u ++ v ++ [e]).map f).Nodup := by
  refine (List.Perm.nodup_iff (List.Perm.map f ?_)).1 h
  rw [List.append_assoc]
  exact List.Perm.append_left u (List.perm_append_comm (l₁ := [e]) (l₂ := v))
theorem perm_move {α : Type} (u v : List α) (e : α) : (u ++ e :: v).Perm (u ++ v ++ [e]) := by
  rw [List.append_assoc]
  exact List.Perm.append_left u (List.perm_append_comm (l₁ := [e]) (l₂ := v))
end Go.Proofs.Ytghakgepchlpgaa
