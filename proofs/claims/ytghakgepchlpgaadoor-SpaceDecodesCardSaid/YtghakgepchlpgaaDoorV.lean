/- WALK: SpaceDecodes. -/
import Derived.Test.YtghakgepchlpgaaDoorU
import Derived.Test.YtghakgepchlpgaaDoorT
import Derived.Test.YtghakgepchlpgaaDoorO
namespace Go.Proofs.YtghakgepchlpgaaDoor
open Go.RowKit Spc

set_option maxHeartbeats 1000000 in
theorem spaceDecodes_walk (A : Option Addr) (c : Nat) (a : Int) (l : List UInt8) (w : World) (hT : Tab w) (hr : Rd w w.heap.size A l) (hl : l.length ≤ maxLen) (hlc : l.length ≤ c) :
    Calls Tryd.prog 5 #[.int .i64 a, .slice A l.length c] w fun e w' => e = .returned (.bool true) ∧ Below w.heap.size w w' := by
  have HA := Lib.hid (alive_true w hT)
  have HR := Lib.hid fun W (hW : Below w.heap.size w W) => (hr.below hW (Nat.le_refl _)).mono hW.size
  obtain ⟨n, hn⟩ : ∃ n, n = l.length := ⟨_, rfl⟩
  clear hT hr
  by_cases h : a < 16 ∨ 65536 < a
  · have HB := Lib.hid fun W => decode_bad A n c a W h
    have HB2 := Lib.hid fun W => rdecode_bad A n c a W h
    rw [← hn]
    clear h hn hl
    go_enter Tryd.func5, Tryd.ntmps5
    go_wp2_with (first
      | (go_at_call 8; refine HA.out.mono ?_; rintro e w1 ⟨rfl, b1⟩; have B1 := Lib.hid b1; clear b1)
      | (go_at_call 15; refine (HB.out _).mono ?_; rintro e w2 ⟨rfl, rfl⟩)
      | (go_at_call 16; refine (HB2.out _).mono ?_; rintro e w2 ⟨rfl, rfl⟩))
    go_ret
    exact ⟨rfl, B1.out⟩
  obtain ⟨N, rfl⟩ : ∃ N : Nat, a = (N : Int) := ⟨a.toNat, by omega⟩
  have hN : 16 ≤ N ∧ N ≤ 65536 := by omega
  have HB := Lib.hid fun W (hW : Below w.heap.size w W) => decode_any A c N l W hN.1 hN.2 (HR.out W hW) hlc (by unfold maxLen at hl; omega)
  have HB2 := Lib.hid fun W (hW : Below w.heap.size w W) => rdecode_any A c N l W hN.1 hN.2 (HR.out W hW) hlc (by unfold maxLen at hl; omega)
  have HCV := Lib.hid fun W (hW : Below w.heap.size w W) => conv_str A c l W W.heap.size (HR.out W hW)
  rw [← hn] at HB HB2 HCV ⊢
  have HN := Lib.hid hn
  clear hn h hlc hl
  cases hd : decd N l with
  | none =>
    have HD := Lib.hid hd
    clear hd
    go_enter Tryd.func5, Tryd.ntmps5
    go_wp2_with fail
    refine HA.out.mono ?_
    rintro e w1 ⟨rfl, b1⟩
    have B1 := Lib.hid b1
    clear b1
    go_wp2_with fail
    refine (HB.out _ B1.out).mono ?_
    rintro e w2 (⟨f, g, h1, -⟩ | ⟨-, rfl, b2⟩)
    · rw [HD.out] at h1; cases h1
    have B2 := Lib.hid (B1.out.trans (b2.mono B1.out.size))
    clear b2
    go_wp2_with fail
    refine (HB2.out _ B2.out).mono ?_
    rintro e w3 (⟨f, gr, gl, h1, -⟩ | ⟨-, rfl, b3⟩)
    · rw [HD.out] at h1; cases h1
    have B3 := Lib.hid (B2.out.trans (b3.mono B2.out.size))
    clear b3
    go_wp2_with fail
    go_ret
    exact ⟨rfl, B3.out⟩
  | some f =>
    have HD := Lib.hid hd
    have HE := Lib.hid (enc_of_decd hd).1
    clear hd
    go_enter Tryd.func5, Tryd.ntmps5
    go_wp2_with fail
    refine HA.out.mono ?_
    rintro e w1 ⟨rfl, b1⟩
    have B1 := Lib.hid b1
    clear b1
    go_wp2_with fail
    refine (HB.out _ B1.out).mono ?_
    rintro e w2 (⟨f1, g, h1, rfl, s2, hg2, b2⟩ | ⟨h1, -⟩)
    rotate_left
    · rw [HD.out] at h1; cases h1
    obtain rfl : f1 = f := Option.some.inj (h1.symm.trans HD.out)
    have B2 := Lib.hid (B1.out.trans (b2.mono B1.out.size))
    have S2 := Lib.hid s2
    clear b2 s2 h1 hg2
    go_wp2_with fail
    refine (HB2.out _ B2.out).mono ?_
    rintro e w3 (⟨f2, gr, gl, h1, rfl, s3, hg3, b3⟩ | ⟨h1, -⟩)
    rotate_left
    · rw [HD.out] at h1; cases h1
    obtain rfl : f2 = f1 := Option.some.inj (h1.symm.trans HD.out)
    have B3 := Lib.hid (B2.out.trans (b3.mono B2.out.size))
    have S3 := Lib.hid (And.intro s3 (S2.out.below b3))
    clear b3 s3 h1 hg3 S2
    go_wp2_with fail
    refine (rruns_any gr gl N f2 w3 S3.out.1).mono ?_
    rintro e w4 ⟨A4, c4, r4, q4, rfl, o4, hc4, b4⟩
    have B4 := Lib.hid (B3.out.trans (b4.mono B3.out.size))
    have S4 := Lib.hid (And.intro (S3.out.2.below b4) o4.reads)
    clear b4 o4 hc4
    go_wp2_with fail
    refine (runs_true g N f2 A4 c4 r4.length r4 w4 S4.out.1 q4.out rfl S4.out.2).mono ?_
    rintro e w5 ⟨rfl, b5⟩
    have B5 := Lib.hid (B4.out.trans (b5.mono B4.out.size))
    have S5 := Lib.hid (S4.out.1.below b5)
    have hcv := HCV.out w5 B5.out
    clear b5 S4
    go_wp2_with fail
    refine (bytes_true g N f2 l w5 S5.out HE.out.symm).mono ?_
    rintro e w6 ⟨rfl, b6⟩
    have B6 := Lib.hid (B5.out.trans (b6.mono B5.out.size))
    clear b6
    go_wp2_with fail
    go_ret
    exact ⟨rfl, B6.out⟩
end Go.Proofs.YtghakgepchlpgaaDoor
