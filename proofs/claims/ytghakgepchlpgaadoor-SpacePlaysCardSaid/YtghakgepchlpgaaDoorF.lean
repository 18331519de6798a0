/- WALKS: the chapter's examples (alive); SpaceNames. -/
import Derived.Test.YtghakgepchlpgaaDoorE
namespace Go.Proofs.YtghakgepchlpgaaDoor
open Go.RowKit Spc

theorem Tab.pos {w : World} (h : Tab w) : 0 < w.heap.size := World.block_lt_of_cell? w _ (h 0 (by decide))
theorem Tab.below {w w' : World} {B : Nat} (h : Tab w) (hb : Below B w w') (hB : 0 < B) : Tab w' := h.keep (hb.block 0 hB)
theorem Tab.kept {w w' : World} {S : Nat → Prop} (h : Tab w) (hk : Kept S w w') (hs : ¬ S 0) : Tab w' := h.keep (hk.block 0 h.pos hs)
def aliveL : List UInt8 := [0, 0, 0, 2, 0, 0, 0, 0, 0, 0, 0, 3, 0, 0, 0, 9, 0, 0, 0, 1]
def aliveF : Nat → Bool := upd (upd (first 2) 2 true) 9 true
theorem alive_enc : enc aliveF 16 = aliveL := by decide +kernel
theorem alive_least : Least (first 2) 16 2 := ⟨by decide, by decide, fun k hk => by simp [first]; omega⟩
set_option maxHeartbeats 2000000 in
theorem alive_true (w : World) (hT : Tab w) : Calls Tryd.prog 8 #[] w fun e w' => e = .returned (.bool true) ∧ Below w.heap.size w w' := by
  have h1 := Lib.hid (show Calls Tryd.prog 9 #[.int .i64 16, .int .i64 2] w _ from new_ok 16 2 w (by decide) (by decide) (by decide))
  have h2 := Lib.hid fun W => new_bad 15 0 W (.inl (by decide))
  obtain ⟨g, hg⟩ : ∃ g, g = w.heap.size := ⟨_, rfl⟩
  have HT := Lib.hid hT
  have hg0 := hT.pos
  rw [← hg] at h1 hg0 ⊢
  have HG := Lib.hid hg
  clear hT hg
  go_enter Tryd.func8, Tryd.ntmps8
  go_wp2_with (first
    | (go_at_call_of 9 (Value.int .i64 16); refine h1.out.mono ?_; rintro e w1 ⟨rfl, s1, b1⟩; have S1 := Lib.hid s1; have B1 := Lib.hid b1; clear s1 b1)
    | (go_at_call 9; refine (h2.out _).mono ?_; rintro e w2 ⟨rfl, rfl⟩))
  refine (alloc_any g 16 (first 2) w1 S1.out (HT.out.below B1.out hg0)).mono ?_
  rintro e w2 (⟨n, hn, rfl, s2, k2⟩ | ⟨hn, -⟩)
  rotate_left
  · exact absurd (hn 2 (by decide)) (by decide)
  obtain rfl := hn.eq alive_least
  have S2 := Lib.hid s2
  have B2 := Lib.hid (below_kept B1.out k2 (fun b e => by omega) (by have := S1.out.lt; omega))
  have t1 := Lib.hid (show Calls Tryd.prog 20 #[.pointer (some ⟨g, 0, none⟩), .int .i64 9] w2 _ from take_any g 16 9 (upd (first 2) 2 true) w2 S2.out)
  clear s2 k2 hn
  go_wp2_with fail
  refine t1.out.mono ?_
  rintro e w3 ⟨rfl, s3, k3⟩
  rw [show takeE (upd (first 2) 2 true) 16 9 = 0 from by decide]
  rw [show takeF (upd (first 2) 2 true) 16 9 = aliveF from rfl] at s3
  have S3 := Lib.hid s3
  have B3 := Lib.hid (below_kept B2.out k3 (fun b e => by omega) (by have := S2.out.lt; omega))
  have t2 := Lib.hid (show Calls Tryd.prog 20 #[.pointer (some ⟨g, 0, none⟩), .int .i64 9] w3 _ from take_any g 16 9 aliveF w3 S3.out)
  clear s3 k3
  go_wp2_with fail
  refine t2.out.mono ?_
  rintro e w4 ⟨rfl, s4, k4⟩
  rw [show takeE aliveF 16 9 = 94 from by decide]
  rw [show takeF aliveF 16 9 = aliveF from upd_id _ _ _ (by decide)] at s4
  have S4 := Lib.hid s4
  have B4 := Lib.hid (below_kept B3.out k4 (fun b e => by omega) (by have := S3.out.lt; omega))
  have t3 := Lib.hid (show Calls Tryd.prog 12 #[.pointer (some ⟨g, 0, none⟩), .int .i64 10] w4 _ from free_any g 16 10 aliveF w4 S4.out)
  clear s4 k4
  go_wp2_with fail
  refine t3.out.mono ?_
  rintro e w5 ⟨rfl, s5, k5⟩
  rw [show freeE aliveF 16 10 = 92 from by decide]
  rw [show freeF aliveF 16 10 = aliveF from upd_id _ _ _ (by decide)] at s5
  have S5 := Lib.hid s5
  have B5 := Lib.hid (below_kept B4.out k5 (fun b e => by omega) (by have := S4.out.lt; omega))
  have u1 := Lib.hid (used_any g 16 aliveF w5 S5.out)
  have u2 := Lib.hid (left_any g 16 aliveF w5 S5.out)
  have u3 := Lib.hid fun W (h : Sp W g 16 aliveF) => (show Calls Tryd.prog 11 #[.pointer (some ⟨g, 0, none⟩), .int .i64 9] W _ from has_any g 16 9 aliveF W h)
  have u4 := Lib.hid fun W (h : Sp W g 16 aliveF) => (show Calls Tryd.prog 11 #[.pointer (some ⟨g, 0, none⟩), .int .i64 16] W _ from has_any g 16 16 aliveF W h)
  have hls : ((bs aliveL).toList == [0, 0, 0, 2, 0, 0, 0, 0, 0, 0, 0, 3, 0, 0, 0, 9, 0, 0, 0, 1]) = true := by decide +kernel
  clear s5 k5
  go_wp2_with (first
    | (go_at_call 13; refine u1.out.mono ?_; rintro e w6 ⟨rfl, rfl⟩; rw [show ((cnt aliveF 16 : Nat) : Int) = 4 from by decide])
    | (go_at_call 14; refine u2.out.mono ?_; rintro e w7 ⟨rfl, b7⟩; rw [show (((16 : Nat) : Int) - ((cnt aliveF 16 : Nat) : Int)) = 12 from by decide]; have S7 := Lib.hid (S5.out.below b7); have B7 := Lib.hid (B5.out.trans (b7.mono (by have := S5.out.lt; omega))); clear b7)
    | (go_at_call_of 11 (Value.int .i64 9); refine (u3.out _ S7.out).mono ?_; rintro e w8 ⟨rfl, rfl⟩; rw [show hasB aliveF 9 = true from by decide])
    | (go_at_call 11; refine (u4.out _ S7.out).mono ?_; rintro e w8 ⟨rfl, rfl⟩; rw [show hasB aliveF 16 = false from by decide])
    | (go_at_call 21
       refine (encode_any g 16 aliveF _ S7.out).mono ?_
       rintro e w9 ⟨A, c, r, q, rfl, o9, hc, b9⟩
       obtain rfl : r = aliveL := q.out.trans alive_enc
       have hcv := conv_str A c aliveL w9 w9.heap.size o9.reads
       have B9 := Lib.hid (B7.out.trans (b9.mono (by have := S7.out.lt; omega)))
       clear o9 hc b9 q))
  go_ret
  exact ⟨rfl, B9.out⟩
theorem spaceNames_walk (w : World) (hT : Tab w) : Calls Tryd.prog 3 #[] w fun e w' => e = .returned (.bool true) ∧ Below w.heap.size w w' := by
  have h1 := Lib.hid (alive_true w hT)
  go_enter Tryd.func3, Tryd.ntmps3
  go_wp2_with (go_at_call 8; refine h1.out.mono ?_; rintro e w1 ⟨rfl, b1⟩; have B1 := Lib.hid b1; clear b1)
  go_ret
  exact ⟨rfl, B1.out⟩
end Go.Proofs.YtghakgepchlpgaaDoor
