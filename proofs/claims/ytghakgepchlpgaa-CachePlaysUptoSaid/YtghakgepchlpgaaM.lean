/- Get and Put where nothing is held, as the law of the last ones has them. -/
import Derived.Test.YtghakgepchlpgaaJ
import Derived.Test.YtghakgepchlpgaaMath2
namespace Go.Proofs.Ytghakgepchlpgaa
open Go.RowKit Go.Maps
/-- nothing is held; each thing is an int -/
def Loose (L : List Ent) : Prop := ∀ e ∈ L, e.pin = 0 ∧ ∃ x : Int, e.x = .int .i64 x
/-- the numbers -/
def nms (L : List Ent) : List Int := L.map (·.n)
theorem split_at {L : List Ent} {n : Int} (h : n ∈ nms L) : ∃ u e v, L = u ++ e :: v ∧ e.n = n := by
  obtain ⟨e, he, hn⟩ := List.mem_map.1 h
  obtain ⟨u, v, rfl⟩ := List.append_of_mem he
  exact ⟨u, e, v, rfl, hn⟩
theorem mv_split {u v : List Ent} {e : Ent} (h : (nms (u ++ e :: v)).Nodup) : Lru.mv e.n (nms (u ++ e :: v)) = nms (u ++ v ++ [e]) := by
  unfold nms at *
  simp only [List.map_append, List.map_cons, List.nodup_append, List.nodup_cons] at h
  have hu : e.n ∉ u.map (·.n) := fun hx => h.2.2 _ hx _ (by simp) rfl
  have hv : e.n ∉ v.map (·.n) := h.2.1.1
  unfold Lru.mv
  rw [List.map_append, List.map_cons, List.filter_append, List.filter_cons_of_neg (by simp), Lru.filter_ne_of_not_mem hu, Lru.filter_ne_of_not_mem hv]
  simp
theorem bl_move {cb mb : Nat} {u v : List Ent} {e e' : Ent} (hb : e'.b = e.b) {k : Nat} (h : Bl cb mb (u ++ v ++ [e']) k) : Bl cb mb (u ++ e :: v) k := by
  rcases h with h | h | ⟨y, hy, h⟩
  · exact .inl h
  · exact .inr (.inl h)
  · simp only [List.mem_append, List.mem_singleton] at hy
    rcases hy with (hy | hy) | rfl
    · exact .inr (.inr ⟨y, by simp [hy], h⟩)
    · exact .inr (.inr ⟨y, by simp [hy], h⟩)
    · exact .inr (.inr ⟨e, by simp, by rw [← hb, h]⟩)
section
variable {w : World} {cb mb : Nat} {P hit miss : Int} {L : List Ent}
theorem get_last (h : CA 58 56 (.int .i64 0) w cb mb P hit miss L) (hz : Loose L) (n : Int) (hn : Wf n) : Calls Try.prog 10 #[.pointer (some ⟨cb, 0, none⟩), .int .i64 n] w fun r w' =>
    ∃ v L' hit' miss', r = .returned (.tuple #[v, .bool (decide (n ∈ nms L))]) ∧ CA 58 56 (.int .i64 0) w' cb mb P hit' miss' L' ∧ Loose L' ∧ nms L' = (if n ∈ nms L then Lru.mv n (nms L) else nms L) ∧ Kept (Bl cb mb L) w w' ∧ (∀ k, Bl cb mb L' k → Bl cb mb L k) := by
  by_cases hm : n ∈ nms L
  · obtain ⟨u, e, v, rfl, rfl⟩ := split_at hm
    obtain ⟨_, x, hx⟩ := hz e (by simp)
    refine (get_some h hx).mono fun r w' ⟨hr, hc, hk⟩ => ⟨e.x, _, _, _, by rw [hr, decide_eq_true hm], hc, fun y hy => hz y ((perm_move u v e).mem_iff.2 hy), by rw [if_pos hm, mv_split h.nums], hk, fun k hk => bl_move rfl hk⟩
  · have hno : ∀ e ∈ L, e.n ≠ n := fun e he hen => hm (List.mem_map.2 ⟨e, he, hen⟩)
    refine (get_none h n hn hno).mono fun r w' ⟨hr, hc, hk⟩ => ⟨.int .i64 0, L, _, _, by rw [hr, decide_eq_false hm], hc, hz, by rw [if_neg hm], hk, fun k hk => hk⟩
theorem put_last (h : CA 58 56 (.int .i64 0) w cb mb P hit miss L) (hz : Loose L) (hl : (L.length : Int) ≤ P) (h1 : 1 ≤ P) (h2 : P ≤ 65536) (n x : Int) (hn : Wf n) : Calls Try.prog 11 #[.pointer (some ⟨cb, 0, none⟩), .int .i64 n, .int .i64 x] w fun r w' =>
    ∃ v L', r = .returned v ∧ CA 58 56 (.int .i64 0) w' cb mb P hit miss L' ∧ Loose L' ∧ nms L' = Lru.put P.toNat n (nms L) ∧ Kept (Bl cb mb L) w w' ∧ (∀ k, Bl cb mb L' k → Bl cb mb L k ∨ w.heap.size ≤ k) := by
  have hlen : (nms L).length = L.length := by simp [nms]
  by_cases hm : n ∈ nms L
  · obtain ⟨u, e, v, rfl, rfl⟩ := split_at hm
    refine (put_found h x).mono fun r w' ⟨hr, hc, hk⟩ => ⟨_, _, hr, hc, fun y hy => ?_, ?_, hk, fun k hk => .inl (bl_move (e := e) (e' := { e with x := .int .i64 x }) rfl hk)⟩
    · simp only [List.mem_append, List.mem_singleton] at hy
      rcases hy with (hy | hy) | rfl
      · exact hz y (by simp [hy])
      · exact hz y (by simp [hy])
      · exact ⟨(hz e (by simp)).1, x, rfl⟩
    · rw [Lru.put, if_pos hm, mv_split h.nums]
      simp [nms]
  · have hno : ∀ e ∈ L, e.n ≠ n := fun e he hen => hm (List.mem_map.2 ⟨e, he, hen⟩)
    by_cases hr : (L.length : Int) < P
    · refine (put_room h n x hn hno hr h2).mono fun r w' ⟨hr', b, hc, hk, hb⟩ => ⟨_, _, hr', hc, fun y hy => ?_, ?_, hk, fun k hk => ?_⟩
      · simp only [List.mem_append, List.mem_singleton] at hy
        rcases hy with hy | rfl
        · exact hz y hy
        · exact ⟨rfl, x, rfl⟩
      · rw [Lru.put, if_neg hm, if_pos (by rw [hlen]; omega)]
        simp [nms]
      · rcases hk with hk | hk | ⟨y, hy, hk⟩
        · exact .inl (.inl hk)
        · exact .inl (.inr (.inl hk))
        · simp only [List.mem_append, List.mem_singleton] at hy
          rcases hy with hy | rfl
          · exact .inl (.inr (.inr ⟨y, hy, hk⟩))
          · right; rw [← hk]; exact hb
    · refine (put_full h n x hn hno (by omega) (by omega)).mono fun r w' hh => ?_
      rcases hh with ⟨u, e, v, rfl, hu, he, hr', b, hc, hk, hb⟩ | ⟨hu, _⟩
      · have hu' : u = [] := by
          cases u with
          | nil => rfl
          | cons a u => have h1 := hu a (by simp); have h2 := (hz a (by simp)).1; omega
        subst hu'
        refine ⟨_, _, hr', hc, fun y hy => ?_, ?_, hk, fun k hk => ?_⟩
        · simp only [List.mem_append, List.mem_singleton] at hy
          rcases hy with hy | rfl
          · exact hz y (by simp only [List.nil_append] at hy ⊢; simp at hy; simp [hy])
          · exact ⟨rfl, x, rfl⟩
        · rw [Lru.put, if_neg hm, if_neg (by rw [hlen]; omega)]
          simp [nms]
        · rcases hk with hk | hk | ⟨y, hy, hk⟩
          · exact .inl (.inl hk)
          · exact .inl (.inr (.inl hk))
          · simp only [List.mem_append, List.mem_singleton] at hy
            rcases hy with hy | rfl
            · exact .inl (.inr (.inr ⟨y, by simp at hy; simp [hy], hk⟩))
            · right; rw [← hk]; exact hb
      · cases L with
        | nil => simp at hr; omega
        | cons a L => have h1 := hu a (by simp); have h2 := (hz a (by simp)).1; omega
end
end Go.Proofs.Ytghakgepchlpgaa
