/- shown (the chapter example of layer 12) and CacheNames: the walks. -/
import Derived.Test.YtghakgepchlpgaaG
namespace Go.Proofs.Ytghakgepchlpgaa
open Go.RowKit Go.Maps
theorem wf_of {n : Int} (h1 : -9223372036854775808 ≤ n) (h2 : n ≤ 9223372036854775807) : Wf n := by
  exact WalkArith.wf_i64 ⟨h1, h2⟩
set_option maxHeartbeats 1000000 in
theorem shown_true (w : World) : Calls Try.prog 7 #[] w fun e w' => e = .returned (.bool true) ∧ Below w.heap.size w w' := by
  go_enter Try.func7, Try.ntmps7
  go_wp2_with fail
  refine (new_int 2 w (by omega) (by omega)).mono ?_
  rintro e w1 ⟨rfl, h1, B1⟩
  have l1 : w.heap.size + 1 < w1.heap.size := h1.lt _ (.inr (.inl rfl))
  go_wp2_with fail
  refine (put_room h1 1 10 (wf_of (by omega) (by omega)) (by simp) (by simp) (by omega)).mono ?_
  rintro e w2 ⟨rfl, p1, h2, k2, hp1⟩
  have B2 := B1.trans (k2.below (B := w.heap.size) (by
    rintro k (rfl | rfl | ⟨e, he, rfl⟩)
    · omega
    · omega
    · cases he) B1.size)
  clear h1 k2
  have l2 := B2.size
  have l2' := h2.lt
  go_wp2_with fail
  refine (put_room h2 2 20 (wf_of (by omega) (by omega)) (by simp) (by simp) (by omega)).mono ?_
  rintro e w3 ⟨rfl, p2, h3, k3, hp2⟩
  have B3 := B2.trans (k3.below (B := w.heap.size) (by
    rintro k (rfl | rfl | ⟨e, he, rfl⟩)
    · omega
    · omega
    · simp at he; rw [he]; simp; omega) B2.size)
  clear h2 k3 l2'
  have l3 := B3.size
  go_wp2_with fail
  refine (get_some (u := []) (e := ⟨p1, 1, .int .i64 10, 0⟩) (v := [⟨p2, 2, .int .i64 20, 0⟩]) (by simpa using h3) rfl).mono ?_
  rintro e w4 ⟨rfl, h4, k4⟩
  have B4 := B3.trans (k4.below (B := w.heap.size) (by
    rintro k (rfl | rfl | ⟨e, he, rfl⟩)
    · omega
    · omega
    · simp at he; rcases he with he | he <;> (rw [he]; simp; omega)) B3.size)
  clear h3 k4
  have l4 := B4.size
  go_wp2_with fail
  refine (put_full h4 3 30 (wf_of (by omega) (by omega)) (by simp) (by simp) (by simp)).mono ?_
  rintro e w5 (⟨u, f, v, hL, hu, hf, rfl, p3, h5, k5, hp3⟩ | ⟨hu, _⟩)
  · have hu' : u = [] := by
      cases u with
      | nil => rfl
      | cons a u => simp at hL; have := hu a (by simp); rw [← hL.1] at this; simp at this
    subst hu'
    simp at hL
    obtain ⟨rfl, rfl⟩ := hL
    have B5 := B4.trans (k5.below (B := w.heap.size) (by
      rintro k (rfl | rfl | ⟨e, he, rfl⟩)
      · omega
      · omega
      · simp at he; rcases he with he | he <;> (rw [he]; simp; omega)) B4.size)
    clear h4 k5
    go_wp2_with fail
    refine (count_int h5).mono ?_
    rintro e w' ⟨rfl, rfl⟩
    go_wp2_with fail
    go_ret
    exact ⟨rfl, B5⟩
  · have := hu _ (List.mem_append_right _ (List.mem_singleton.2 rfl))
    simp at this
set_option maxHeartbeats 1000000 in
theorem cacheNames_walk (w : World) : Calls Try.prog 3 #[] w fun e w' => e = .returned (.bool true) ∧ Below w.heap.size w w' := by
  go_enter Try.func3, Try.ntmps3
  go_wp2_with fail
  refine (shown_true w).mono ?_
  rintro e w2 ⟨rfl, b2⟩
  go_wp2_with fail
  go_ret
  exact ⟨rfl, b2⟩
end Go.Proofs.Ytghakgepchlpgaa
