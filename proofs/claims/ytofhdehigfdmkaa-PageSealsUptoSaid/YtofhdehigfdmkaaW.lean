/- THE WALK OF PageForm. -/
import Derived.Test.YtofhdehigfdmkaaU
namespace Go.Proofs.Ytofhdehigfdmkaa
open Go.RowKit
theorem OpenPost.split {l : List UInt8} {number : Int} {w w' : World} {v : Value} (h : OpenPost l number w w' v) :
    (∃ k : Int, (k == 0) = false ∧ (k != 0) = true ∧ v = openBad k) ∨ (Page.HeadOk l ∧ Page.SumOk l ∧ (Page.numOf l : Int) = number ∧ ∃ A c, v = openYes l A c ∧ (Page.loadOf l).length ≤ c ∧ Owns w' w.heap.size (.slice A (Page.loadOf l).length c) (Page.loadOf l)) := by
  rcases h with ⟨_, hv⟩ | ⟨_, _, hv⟩ | ⟨_, _, _, hv⟩ | h
  · exact .inl ⟨32, rfl, rfl, hv⟩
  · exact .inl ⟨34, rfl, rfl, hv⟩
  · exact .inl ⟨33, rfl, rfl, hv⟩
  · exact .inr h
/-- what a page says fits -/
theorem fits_of {l : List UInt8} (h : Page.HeadOk l) : Page.Fits l.length (Page.kindOf l) (Page.numOf l) (Page.genOf l) (Page.loadOf l) := by
  obtain ⟨hs, _, _, _, _, k1, k5, hn, hl, _⟩ := h
  refine ⟨hs, k1, k5, hn, ?_, ?_⟩
  · unfold Page.genOf
    have := Page.toldN_lt 8 ((l.drop 8).take 8) (by simp; have := Page.sized_512 hs; omega)
    exact this
  · unfold Page.loadOf
    rw [List.length_take]
    omega
set_option maxHeartbeats 1000000 in
set_option maxRecDepth 100000 in
theorem pageForm_walk (A : Option Addr) (c : Nat) (number : Int) (l : List UInt8) (w : World) (hr : Rd w w.heap.size A l) (hlc : l.length ≤ c) (hc : l.length ≤ 9223372036854775807) :
    Calls Try.prog 13 #[.slice A l.length c, .int .i64 number] w fun e w' => e = .returned (.bool true) ∧ Below w.heap.size w w' := by
  have HR := Lib.hid (fun (W : World) (h : Below w.heap.size w W) => hr.below h (Nat.le_refl _))
  have HLC := Lib.hid (And.intro hlc hc)
  obtain ⟨n, hn⟩ : ∃ n, n = l.length := ⟨_, rfl⟩
  rw [← hn] at hlc hc ⊢
  have HN := Lib.hid hn
  have HO := Lib.hid (fun (W : World) (h : Below w.heap.size w W) => open_rd A c n w.heap.size number l W hn.symm hlc h.size (HR.out W h))
  clear hr hn
  go_enter Try.func13, Try.ntmps13
  go_wp2_with fail
  refine (alive_true _).mono ?_
  rintro e w2 ⟨rfl, b2⟩
  have B2 := Lib.hid b2
  clear b2
  go_wp2_with fail
  refine (HO.out _ B2.out).mono ?_
  rintro e w3 ⟨v, rfl, hv, b3⟩
  have B3 := Lib.hid (B2.out.trans (b3.mono B2.out.size))
  rcases hv.split with ⟨k, hk1, hk2, rfl⟩ | ⟨h1, h2, h3, A2, c2, rfl, hc2, ho⟩
  · rw [openBad]
    go_wp2_with fail
    go_ret
    exact ⟨rfl, B3.out.alloc B3.out.size _⟩
  · have HF := Lib.hid (fits_of h1)
    have HP := Lib.hid (Page.page_of l h1 h2)
    rw [openYes]
    have B4 := Lib.hid (B3.out.alloc B3.out.size (.cells #[.int .i64 (Page.kindOf l : Int), .int .i64 (Page.numOf l : Int), .int .u64 (Page.genOf l : Int)] 39))
    have R4 := Lib.hid (Owns.reads (show Owns (w3.alloc (.cells #[.int .i64 (Page.kindOf l : Int), .int .i64 (Page.numOf l : Int), .int .u64 (Page.genOf l : Int)] 39)) w2.heap.size (.slice A2 (Page.loadOf l).length c2) (Page.loadOf l) from World.ownsRow.alloc ho _))
    have N4 := Lib.hid (Blk.new w3 39 #[.int .i64 (Page.kindOf l : Int), .int .i64 (Page.numOf l : Int), .int .u64 (Page.genOf l : Int)])
    rw [← HN.out] at HF HP
    have H3 := Lib.hid h3
    generalize Page.loadOf l = p at *
    generalize Page.kindOf l = kind at *
    generalize Page.numOf l = num at *
    generalize Page.genOf l = gen at *
    obtain ⟨m, hm⟩ : ∃ m, m = p.length := ⟨_, rfl⟩
    rw [← hm]
    have HM := Lib.hid hm
    clear hm hv ho h1 h2 h3 b3 HO B3 B2
    go_wp2_with (refine wpList_load_row rfl 39 _ rfl _ rfl 39 _ (0, 0) _ N4.out Try.underlying39 rfl (by rw [info39]; rfl) ?_)
    refine (seal_ok A2 c2 n kind num gen m p _ HF.out HM.out.symm R4.out).mono ?_
    rintro e w5 ⟨g, rfl, hg0, hg, b5⟩
    have B5 := Lib.hid (B4.out.trans (b5.mono B4.out.size))
    have N5 := Lib.hid (N4.out.below b5 N4.out.lt)
    have R5 := Lib.hid (HR.out w5 B5.out)
    have hcv1 : (convert 22 9 (.slice (some ⟨g, 0, none⟩) n n)).run Try.prog w5 = .ok (.string (bs l)) w5 := by
      have := conv_str (some ⟨g, 0, none⟩) n l w5 w5.heap.size (Rd.of_byF _ hg (by rw [HN.out]; omega) (fun i hi => by rw [HP.out, Page.pageL, Page.rl_get _ _ _ (by rw [HN.out]; exact hi)]) hg.lt)
      rw [← HN.out] at this
      exact this
    have hcv2 : (convert 22 9 (.slice A n c)).run Try.prog w5 = .ok (.string (bs l)) w5 := by
      have := conv_str A c l w5 w.heap.size R5.out
      rw [← HN.out] at this
      exact this
    have n1 : w5.cell? ⟨w3.heap.size, 1, none⟩ = some (.int .i64 (num : Int)) := N5.out.cell 1
    have hnum : ((num : Int) == number) = true := by rw [H3.out]; simp
    clear b5 hg hg0 R4 N4 B4
    go_wp2_with fail
    go_ret
    exact ⟨ret_bool (by simp), B5.out⟩
end Go.Proofs.Ytofhdehigfdmkaa
