/- A RING OF PLACES, linked both ways: plain Lean. -/
import Derived.Test.YtghakgepchlpgaaK
namespace Go.Proofs.Ytghakgepchlpgaa
namespace Ring
variable {α : Type} [DecidableEq α]
def upd {β : Type} (f : α → β) (a : α) (b : β) (x : α) : β := if x = a then b else f x
theorem upd_same {β : Type} (f : α → β) (a : α) (b : β) : upd f a b a = b := if_pos rfl
theorem upd_other {β : Type} (f : α → β) (a : α) (b : β) {x : α} (h : x ≠ a) : upd f a b x = f x := if_neg h
def Path (nx : α → α) : α → List α → α → Prop
  | a, [], c => nx a = c
  | a, x :: l, c => nx a = x ∧ Path nx x l c
def last : α → List α → α
  | a, [] => a
  | _, x :: l => last x l
omit [DecidableEq α] in
theorem path_app {nx : α → α} {p c : α} {v : List α} : ∀ {a : α} {u : List α}, Path nx a (u ++ p :: v) c ↔ Path nx a u p ∧ Path nx p v c
  | a, [] => Iff.rfl
  | a, x :: u => by
    simp only [List.cons_append, Path, path_app (a := x) (u := u), and_assoc]
omit [DecidableEq α] in
theorem path_congr {nx nx' : α → α} {c : α} : ∀ {a : α} {l : List α}, (∀ x, x = a ∨ x ∈ l → nx' x = nx x) → Path nx a l c → Path nx' a l c
  | a, [], h, hp => (h a (.inl rfl)).trans hp
  | a, x :: l, h, hp => ⟨(h a (.inl rfl)).trans hp.1, path_congr (fun y hy => h y (.inr (by rcases hy with rfl | hy <;> simp_all))) hp.2⟩
omit [DecidableEq α] in
theorem last_mem : ∀ (a : α) (u : List α), last a u = a ∨ last a u ∈ u
  | a, [] => .inl rfl
  | a, x :: u => .inr (by rcases last_mem x u with h | h <;> simp [last, h])
omit [DecidableEq α] in
theorem path_last {nx : α → α} {p : α} : ∀ {a : α} {u : List α}, Path nx a u p → nx (last a u) = p
  | _, [], h => h
  | _, x :: u, h => path_last (a := x) (u := u) h.2
theorem path_end {nx : α → α} {p q : α} : ∀ {a : α} {u : List α}, (a :: u).Nodup → Path nx a u p → Path (upd nx (last a u) q) a u q
  | a, [], _, _ => upd_same _ _ _
  | a, x :: u, nd, h => by
    have ha : a ≠ last x u := by
      rcases last_mem x u with e | e
      · rw [e]; intro e2; subst e2; simp at nd
      · intro e2; rw [← e2] at e; simp [e] at nd
    exact ⟨(upd_other _ _ _ ha).trans h.1, path_end (List.nodup_cons.1 nd).2 h.2⟩
omit [DecidableEq α] in
theorem nodup_rev {l : List α} : l.reverse.Nodup ↔ l.Nodup := (List.reverse_perm l).nodup_iff
omit [DecidableEq α] in
theorem path_head {nx : α → α} {p r : α} {v : List α} (h : Path nx p v r) : nx p = v.headD r := by
  cases v with
  | nil => exact h
  | cons y v => exact h.1
omit [DecidableEq α] in
theorem last_snoc : ∀ (a : α) (l : List α) (x : α), last a (l ++ [x]) = x
  | _, [], _ => rfl
  | _, y :: l, x => last_snoc y l x
omit [DecidableEq α] in
theorem last_rev (r : α) (v : List α) : last r v.reverse = v.headD r := by
  cases v with
  | nil => rfl
  | cons y v => rw [List.reverse_cons, last_snoc]; rfl
theorem path_out {nx : α → α} {r p : α} {u v : List α} (nd : (r :: (u ++ p :: v)).Nodup) (h : Path nx r (u ++ p :: v) r) : Path (upd nx (last r u) (nx p)) r (u ++ v) r := by
  obtain ⟨h1, h2⟩ := path_app.1 h
  have nd1 : (r :: u).Nodup := by
    simp only [List.nodup_cons, List.nodup_append, List.mem_append, List.mem_cons] at nd ⊢
    exact ⟨fun h => nd.1 (.inl h), nd.2.1⟩
  cases v with
  | nil => rw [show nx p = r from h2, List.append_nil]; exact path_end nd1 h1
  | cons y v =>
    rw [h2.1]
    refine path_app.2 ⟨path_end nd1 h1, path_congr (fun x hx => upd_other _ _ _ ?_) h2.2⟩
    rintro rfl
    simp only [List.nodup_cons, List.nodup_append, List.mem_append, List.mem_cons] at nd
    rcases last_mem r u with e | e
    · rw [e] at hx; exact nd.1 (by rcases hx with h | h <;> simp [h])
    · exact nd.2.2.2 _ e _ (by rcases hx with h | h <;> simp [h]) rfl
/-- the places of a ring, in their order -/
structure Ok (nx el : α → α) (r : α) (L : List α) : Prop where
  nd : (r :: L).Nodup
  fwd : Path nx r L r
  bwd : Path el r L.reverse r
theorem Ok.out {nx el : α → α} {r p : α} {u v : List α} (h : Ok nx el r (u ++ p :: v)) : Ok (upd nx (el p) (nx p)) (upd el (nx p) (el p)) r (u ++ v) := by
  have hb := h.bwd
  rw [List.reverse_append, List.reverse_cons, List.append_assoc, List.singleton_append] at hb
  have ndb : (r :: (v.reverse ++ p :: u.reverse)).Nodup := by
    have := h.nd
    simp only [List.nodup_cons, List.nodup_append, List.mem_append, List.mem_cons, List.mem_reverse, nodup_rev] at this ⊢
    obtain ⟨h1, h2, ⟨h3, h4⟩, h5⟩ := this
    refine ⟨fun h => h1 ?_, h4, ⟨fun h => ?_, h2⟩, fun a ha b hb e => ?_⟩
    · rcases h with h | h | h <;> simp [h]
    · exact h5 p h p (.inl rfl) rfl
    · subst e
      rcases hb with hb | hb
      · subst hb; exact h3 ha
      · exact h5 a hb a (.inr ha) rfl
  have e1 : el p = last r u := by
    rw [path_head (path_app.1 hb).2, ← last_rev, List.reverse_reverse]
  have e2 : nx p = last r v.reverse := by
    rw [path_head (path_app.1 h.fwd).2, last_rev]
  refine ⟨?_, ?_, ?_⟩
  · have := h.nd
    simp only [List.nodup_cons, List.nodup_append, List.mem_append, List.mem_cons] at this ⊢
    obtain ⟨h1, h2, ⟨h3, h4⟩, h5⟩ := this
    exact ⟨fun h => h1 (by rcases h with h | h <;> simp [h]), h2, h4, fun a ha b hb => h5 a ha b (.inr hb)⟩
  · rw [e1]; exact path_out h.nd h.fwd
  · rw [e2, List.reverse_append]; exact path_out ndb hb
theorem Ok.last {nx el : α → α} {r p : α} {L : List α} (h : Ok nx el r L) (hp : p ∉ r :: L) : Ok (upd (upd nx p r) (el r) p) (upd (upd el p (el r)) r p) r (L ++ [p]) := by
  have hpr : p ≠ r := fun e => hp (by simp [e])
  have hpL : p ∉ L := fun e => hp (by simp [e])
  have e1 : el r = Ring.last r L := by
    have := path_head h.bwd
    rw [this, ← last_rev, List.reverse_reverse]
  have hpl : p ≠ Ring.last r L := by
    rcases last_mem r L with e | e
    · rw [e]; exact hpr
    · intro e2; rw [← e2] at e; exact hpL e
  refine ⟨?_, ?_, ?_⟩
  · have := h.nd
    simp only [List.nodup_cons, List.nodup_append, List.mem_append, List.mem_singleton] at this ⊢
    refine ⟨fun h => ?_, this.2, by simp, fun a ha b hb e => ?_⟩
    · rcases h with h | h
      · exact this.1 h
      · exact hpr h.symm
    · subst e; subst hb; exact hpL ha
  · rw [e1]
    refine path_app.2 ⟨path_end h.nd (path_congr (fun x hx => upd_other _ _ _ ?_) h.fwd), ?_⟩
    · rintro rfl
      rcases hx with hx | hx
      · exact hpr hx
      · exact hpL hx
    · show upd _ _ _ p = r
      rw [upd_other _ _ _ hpl, upd_same]
  · rw [List.reverse_append]
    refine ⟨upd_same _ _ _, ?_⟩
    have hb := h.bwd
    have hn : (r :: L.reverse).Nodup := by
      have := h.nd
      simp only [List.nodup_cons, List.mem_reverse, nodup_rev] at this ⊢
      exact this
    cases hL : L.reverse with
    | nil =>
      rw [hL] at hb
      show upd _ _ _ p = r
      rw [upd_other _ _ _ hpr, upd_same]; exact hb
    | cons x xs =>
      rw [hL] at hb hn
      refine ⟨?_, path_congr (fun y hy => ?_) hb.2⟩
      · show upd _ _ _ p = x
        rw [upd_other _ _ _ hpr, upd_same]; exact hb.1
      · have hy1 : y ≠ r := by
          rintro rfl
          simp only [List.nodup_cons, List.mem_cons] at hn
          exact hn.1 hy
        have hy2 : y ≠ p := by
          rintro rfl
          have : y ∈ L.reverse := by rw [hL]; simpa using hy
          exact hpL (List.mem_reverse.1 this)
        rw [upd_other _ _ _ hy1, upd_other _ _ _ hy2]
omit [DecidableEq α] in
theorem Ok.nil (nx el : α → α) (r : α) (h1 : nx r = r) (h2 : el r = r) : Ok nx el r [] := ⟨by simp, h1, h2⟩
omit [DecidableEq α] in
theorem Ok.congr {nx el nx' el' : α → α} {r : α} {L : List α} (h : Ok nx el r L) (h1 : ∀ x, x = r ∨ x ∈ L → nx' x = nx x) (h2 : ∀ x, x = r ∨ x ∈ L → el' x = el x) : Ok nx' el' r L :=
  ⟨h.nd, path_congr h1 h.fwd, path_congr (fun x hx => h2 x (by simpa using hx)) h.bwd⟩
end Ring
end Go.Proofs.Ytghakgepchlpgaa
