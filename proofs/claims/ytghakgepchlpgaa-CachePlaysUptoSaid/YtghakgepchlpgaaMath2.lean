/- THE LAST ONES USED: plain Lean. -/
import Derived.Test.YtghakgepchlpgaaK
namespace Go.Proofs.Ytghakgepchlpgaa
namespace Lru
/-- a number used: it goes to the end -/
def mv (n : Int) (L : List Int) : List Int := L.filter (fun m => decide (m ≠ n)) ++ [n]
/-- the last p of them -/
def cut (p : Nat) (L : List Int) : List Int := L.drop (L.length - p)
/-- a thing put in, nothing held -/
def put (p : Nat) (n : Int) (L : List Int) : List Int := if n ∈ L then mv n L else if L.length < p then L ++ [n] else L.tail ++ [n]
structure Inv (p q : Nat) (A B : List Int) : Prop where
  sub : A.Sublist B
  nd : B.Nodup
  la : A.length ≤ p
  lb : B.length ≤ q
  full : A.length = p ∨ A = B
theorem filter_ne_of_not_mem {n : Int} {L : List Int} (h : n ∉ L) : L.filter (fun m => decide (m ≠ n)) = L := by
  rw [List.filter_eq_self]
  intro m hm
  simp only [decide_eq_true_eq]
  intro e; subst e; exact h hm
theorem filter_length {n : Int} : ∀ {L : List Int}, L.Nodup → n ∈ L → (L.filter (fun m => decide (m ≠ n))).length + 1 = L.length
  | [], _, h => nomatch h
  | x :: L, hnd, h => by
    obtain ⟨h1, h2⟩ := List.nodup_cons.1 hnd
    by_cases e : x = n
    · subst e
      rw [List.filter_cons_of_neg (by simp), filter_ne_of_not_mem h1]; rfl
    · rw [List.filter_cons_of_pos (by simpa using e), List.length_cons, List.length_cons]
      rcases List.mem_cons.1 h with h | h
      · exact absurd h.symm e
      · rw [filter_length h2 h]
theorem mv_length {n : Int} {L : List Int} (hnd : L.Nodup) (h : n ∈ L) : (mv n L).length = L.length := by
  have := filter_length hnd h
  simp only [mv, List.length_append, List.length_cons, List.length_nil]; omega
theorem mv_nodup {n : Int} {L : List Int} (hnd : L.Nodup) : (mv n L).Nodup := by
  unfold mv
  rw [List.nodup_append]
  refine ⟨hnd.filter _, by simp, fun a ha b hb e => ?_⟩
  simp only [List.mem_singleton] at hb
  subst hb; subst e
  simp at ha
theorem mv_sub {n : Int} {A B : List Int} (h : A.Sublist B) : (mv n A).Sublist (mv n B) := (h.filter _).append (List.Sublist.refl _)
theorem snoc_nodup {n : Int} {L : List Int} (hnd : L.Nodup) (h : n ∉ L) : (L ++ [n]).Nodup := by
  rw [List.nodup_append]
  refine ⟨hnd, by simp, fun a ha b hb e => ?_⟩
  simp only [List.mem_singleton] at hb
  subst hb; subst e; exact h ha
/-- a number that both have is used -/
theorem Inv.hit {p q : Nat} {A B : List Int} (h : Inv p q A B) {n : Int} (hn : n ∈ A) : Inv p q (mv n A) (mv n B) := by
  have hB := h.sub.subset hn
  have hA := h.nd.sublist h.sub
  refine ⟨mv_sub h.sub, mv_nodup h.nd, by rw [mv_length hA hn]; exact h.la, by rw [mv_length h.nd hB]; exact h.lb, ?_⟩
  rcases h.full with e | e
  · left; rw [mv_length hA hn]; exact e
  · right; rw [e]
/-- one that the greater alone has -/
theorem Inv.far {p q : Nat} {A B : List Int} (h : Inv p q A B) {n : Int} (hn : n ∉ A) (hB : n ∈ B) : Inv p q A (mv n B) := by
  refine ⟨?_, mv_nodup h.nd, h.la, by rw [mv_length h.nd hB]; exact h.lb, ?_⟩
  · have := h.sub.filter (fun m => decide (m ≠ n))
    rw [filter_ne_of_not_mem hn] at this
    exact this.trans (List.sublist_append_left _ _)
  · rcases h.full with e | e
    · exact .inl e
    · rw [e] at hn; exact absurd hB hn
theorem tail_sub {A B : List Int} (h : A.Sublist B) : A.tail.Sublist B := (List.tail_sublist A).trans h
theorem Inv.put {p q : Nat} {A B : List Int} (hp : 1 ≤ p) (hpq : p ≤ q) (h : Inv p q A B) (n : Int) : Inv p q (put p n A) (put q n B) := by
  unfold Lru.put
  by_cases hA : n ∈ A
  · rw [if_pos hA, if_pos (h.sub.subset hA)]; exact h.hit hA
  · rw [if_neg hA]
    by_cases hB : n ∈ B
    · rw [if_pos hB]
      have hl : A.length = p := by
        rcases h.full with e | e
        · exact e
        · rw [e] at hA; exact absurd hB hA
      rw [if_neg (by omega)]
      have hf := h.far hA hB
      refine ⟨?_, hf.nd, by simp [hl]; omega, hf.lb, .inl (by simp [hl]; omega)⟩
      have := h.sub.filter (fun m => decide (m ≠ n))
      rw [filter_ne_of_not_mem hA] at this
      exact (tail_sub this).append (List.Sublist.refl _)
    · rw [if_neg hB]
      by_cases hl : A.length < p
      · have e : A = B := by
          rcases h.full with e | e
          · omega
          · exact e
        subst e
        rw [if_pos hl, if_pos (by omega)]
        exact ⟨List.Sublist.refl _, snoc_nodup h.nd hB, by simp; omega, by simp; omega, .inr rfl⟩
      · have hl' : A.length = p := by have := h.la; omega
        rw [if_neg hl]
        by_cases hq : B.length < q
        · rw [if_pos hq]
          exact ⟨(tail_sub h.sub).append (List.Sublist.refl _), snoc_nodup h.nd hB, by simp [hl']; omega, by simp; omega, .inl (by simp [hl']; omega)⟩
        · rw [if_neg hq]
          have hq' : B.length = q := by have := h.lb; omega
          refine ⟨h.sub.tail.append (List.Sublist.refl _), snoc_nodup (h.nd.sublist (List.tail_sublist B)) (fun h2 => hB (List.mem_of_mem_tail h2)), by simp [hl']; omega, by simp [hq']; omega, .inl (by simp [hl']; omega)⟩
/-- what the statement keeps in mind -/
theorem put_cut {p : Nat} {n : Int} {A : List Int} (hp : 1 ≤ p) (hnd : A.Nodup) (hl : A.length ≤ p) : cut p (mv n A) = put p n A := by
  unfold Lru.put
  by_cases hA : n ∈ A
  · rw [if_pos hA, cut, mv_length hnd hA, show A.length - p = 0 by omega, List.drop_zero]
  · rw [if_neg hA, cut, mv, filter_ne_of_not_mem hA]
    by_cases h : A.length < p
    · rw [if_pos h, show (A ++ [n]).length - p = 0 by simp; omega, List.drop_zero]
    · rw [if_neg h, show (A ++ [n]).length - p = 1 by simp; omega]
      cases A with
      | nil => simp at h; omega
      | cons x A => rfl
theorem hit_cut {p : Nat} {n : Int} {A : List Int} (hnd : A.Nodup) (hA : n ∈ A) (hl : A.length ≤ p) : cut p (mv n A) = mv n A := by
  rw [cut, mv_length hnd hA, show A.length - p = 0 by omega, List.drop_zero]
end Lru
end Go.Proofs.Ytghakgepchlpgaa
