import Derived.Test.YtofhdehigfdmkaaRB
import Derived.Test.YtofhdehigfdmkaaMath5
namespace Go.Proofs.Ytofhdehigfdmkaa
open Go.RowKit
/-- bytes that are laid down in one go -/
theorem Owns.lit (w : World) (base : Nat) (l : List UInt8) (hb : base ≤ w.heap.size) (hl : l.length ≤ maxLen) : Owns (w.alloc (.cells (l.map byteV).toArray 5)) base (.slice (some ⟨w.heap.size, 0, none⟩) l.length l.length) l := by
  have := World.ownsRow_lit (e := 5) (size := 1) w (l.map byteV).toArray l.length hb hl (by simp)
  simpa [Owns] using this
theorem Owns.mono {w : World} {base b' : Nat} {v : Value} {l : List UInt8} (h : Owns w base v l) (hb : b' ≤ base) : Owns w b' v l :=
  ⟨h.1, h.2.imp id fun ⟨g, cap, cur, hv, hg, rest⟩ => ⟨g, cap, cur, hv, Nat.le_trans hb hg, rest⟩⟩
/-- how long a slice is -/
def lenV : Value → Nat
  | .slice _ n _ => n
  | _ => 0
set_option maxHeartbeats 2000000 in
set_option maxRecDepth 100000 in
theorem rbytes_any (A : Option Addr) (ca size kind num gen n : Nat) (p : List UInt8) (w : World) (hf : Page.Fits size kind num gen p) (hn : p.length = n) (hA : Rd w w.heap.size A p) :
    Calls Try.prog 50 #[.int .i64 (size : Int), .agg #[.int .i64 (kind : Int), .int .i64 (num : Int), .int .u64 (gen : Int)], .slice A n ca] w fun e w' =>
      ∃ A' c' r, e = .returned (.slice A' r.length c') ∧ r = Page.pageL size kind num gen p ∧ Owns w' w.heap.size (.slice A' r.length c') r ∧ Below w.heap.size w w' := by
  obtain ⟨hs, hs2⟩ := Page.sized_512 hf.sized
  have hk5 := hf.k5
  have hnum := hf.num
  have hgen := hf.gen
  have hlong := hf.long
  rw [hn] at hlong
  have HF := Lib.hid hf
  have HN := Lib.hid hn
  have HA := Lib.hid (fun (W : World) (h : Below w.heap.size w W) => hA.below h (Nat.le_refl _))
  have k0 := Lib.hid (Blk.new w 39 #[.int .i64 (kind : Int), .int .i64 (num : Int), .int .u64 (gen : Int)])
  have b0 := Lib.hid ((Below.refl w.heap.size w).alloc (Nat.le_refl _) (.cells #[.int .i64 (kind : Int), .int .i64 (num : Int), .int .u64 (gen : Int)] 39))
  obtain ⟨kb, hkb⟩ : ∃ x : UInt8, (kind : Int) = (x.toNat : Int) := ⟨UInt8.ofNat kind, by rw [UInt8.toNat_ofNat']; omega⟩
  have wk : IntKind.u8.wrap (kind : Int) = (kb.toNat : Int) := by rw [IntKind.wrap_u8']; omega
  have HKB := Lib.hid hkb
  clear hf hn hA hkb
  go_enter Try.func50, Try.ntmps50
  go_wp2_with fail
  have o1 := Lib.hid (Owns.lit (w.alloc (.cells #[.int .i64 (kind : Int), .int .i64 (num : Int), .int .u64 (gen : Int)] 39)) (w.heap.size + 1) [66, 89, kb, 0] (by simp) (by unfold maxLen; simp))
  have k1 := Lib.hid (k0.out.alloc (.cells #[.int .u8 66, .int .u8 89, .int .u8 (kb.toNat : Int), .int .u8 0] 5))
  have b1 := Lib.hid (b0.out.alloc b0.out.size (.cells #[.int .u8 66, .int .u8 89, .int .u8 (kb.toNat : Int), .int .u8 0] 5))
  have o1' : Hid (Owns ((w.alloc (.cells #[.int .i64 (kind : Int), .int .i64 (num : Int), .int .u64 (gen : Int)] 39)).alloc (.cells #[.int .u8 66, .int .u8 89, .int .u8 (kb.toNat : Int), .int .u8 0] 5)) (w.heap.size + 1) (.slice (some ⟨w.heap.size + 1, 0, none⟩) [66, 89, kb, 0].length 4) [66, 89, kb, 0]) := by
    have := o1.out
    rw [show (w.alloc (.cells #[.int .i64 (kind : Int), .int .i64 (num : Int), .int .u64 (gen : Int)] 39)).heap.size = w.heap.size + 1 by simp] at this
    exact this
  have z1 : w.heap.size + 1 ≤ ((w.alloc (.cells #[.int .i64 (kind : Int), .int .i64 (num : Int), .int .u64 (gen : Int)] 39)).alloc (.cells #[.int .u8 66, .int .u8 89, .int .u8 (kb.toNat : Int), .int .u8 0] 5)).heap.size := by simp
  generalize World.alloc (World.alloc w _) _ = W1 at o1' k1 b1 z1 ⊢
  clear o1 k0 b0
  refine (big_any (w.heap.size + 1) (some ⟨w.heap.size + 1, 0, none⟩) 4 [66, 89, kb, 0] num 4 W1 o1'.out z1 (by omega) (by simp)).mono ?_
  rintro e W2 ⟨A2, c2, r2, rfl, hr2, o2, q2⟩
  have H2 := Lib.hid (And.intro hr2 (And.intro o2 (And.intro (k1.out.below q2 (by omega)) (b1.out.trans (q2.mono (by omega))))))
  have z2 : w.heap.size + 1 ≤ W2.heap.size := Nat.le_trans z1 q2.size
  have c2g : W2.cell? ⟨w.heap.size, 2, none⟩ = some (.int .u64 (gen : Int)) := H2.out.2.2.1.cell 2
  have l2 : r2.length = 8 := by rw [hr2]; simp [Page.rl_length]
  have L2 := Lib.hid l2
  clear hr2 o2 q2 o1' k1 b1 z1 l2
  go_wp2_with fail
  refine (big_any (w.heap.size + 1) A2 c2 r2 gen 8 W2 H2.out.2.1 z2 (by omega) (by rw [L2.out]; omega)).mono ?_
  rintro e W3 ⟨A3, c3, r3, rfl, hr3, o3, q3⟩
  have H3 := Lib.hid (And.intro (show r3 = [66, 89, kb, 0] ++ Page.rl 4 (Page.beB num 4) ++ Page.rl 8 (Page.beB gen 8) by rw [hr3, H2.out.1]) (And.intro o3 (H2.out.2.2.2.trans (q3.mono (by omega)))))
  have z3 : w.heap.size + 1 ≤ W3.heap.size := Nat.le_trans z2 q3.size
  have L3 := Lib.hid (show r3.length = 16 by rw [hr3]; simp [L2.out, Page.rl_length])
  clear hr3 o3 q3 z2 c2g H2 L2
  go_wp2_with fail
  refine (big_any (w.heap.size + 1) A3 c3 r3 n 4 W3 H3.out.2.1 z3 (by omega) (by rw [L3.out]; omega)).mono ?_
  rintro e W4 ⟨A4, c4, r4, rfl, hr4, o4, q4⟩
  have H4 := Lib.hid (And.intro (show r4 = [66, 89, kb, 0] ++ Page.rl 4 (Page.beB num 4) ++ Page.rl 8 (Page.beB gen 8) ++ Page.rl 4 (Page.beB n 4) by rw [hr4, H3.out.1]) (And.intro o4 (H3.out.2.2.trans (q4.mono (by omega)))))
  have z4 : w.heap.size + 1 ≤ W4.heap.size := Nat.le_trans z3 q4.size
  have L4 := Lib.hid (show r4.length = 20 by rw [hr4]; simp [L3.out, Page.rl_length])
  clear hr4 o4 q4 z3 H3 L3
  have O4 := Lib.hid (World.ownsRow.alloc H4.out.2.1 (.cells #[.int .u8 0, .int .u8 0, .int .u8 0, .int .u8 0] 5))
  have B4 := Lib.hid (H4.out.2.2.alloc H4.out.2.2.size (.cells #[.int .u8 0, .int .u8 0, .int .u8 0, .int .u8 0] 5))
  have Z4 := Lib.hid z4
  have R4 := Lib.hid (World.ownsRow.lt H4.out.2.1)
  clear z4
  go_wp2_with (first
    | (at_builtin
       refine wpList_append_bytes rfl (.tmp 28) (.tmp 29) rfl (w.heap.size + 1) _ r4 [0, 0, 0, 0] rfl O4.out (W4.heap.size + 1) (some ⟨W4.heap.size, 0, none⟩) 4 rfl (.inr ⟨W4.heap.size, 0, rfl, by omega, fun i hi => by
         rcases (by simp at hi; omega : i = 0 ∨ i = 1 ∨ i = 2 ∨ i = 3) with rfl | rfl | rfl | rfl <;> exact (Blk.new W4 5 #[.int .u8 0, .int .u8 0, .int .u8 0, .int .u8 0]).cell _⟩) (by rw [L4.out]; simp) (by have := Z4.out; simp; omega) ?_
       intro A5 c5 W5 r5 q5 rc5 o5 g5
       have B5 := Lib.hid (Below.grew B4.out g5 B4.out.size (fun k hk => Nat.le_of_succ_le (R4.out k hk).1))
       have O5 := Lib.hid o5
       have Q5 := Lib.hid (show r5 = r4 ++ [0, 0, 0, 0] from q5.out)
       have Z5 := Lib.hid (show w.heap.size + 1 ≤ W5.heap.size by have h1 := g5.1.size; have h2 := Z4.out; simp at h1; omega)
       have L5 := Lib.hid (show r5.length = 24 by rw [q5.out]; simp [L4.out])
       have RR5 := Lib.hid (World.ownsRow.lt o5)
       clear g5 o5 q5 rc5)
    | (at_builtin
       refine wpList_append_bytes rfl (.tmp 31) (.tmp 32) rfl (w.heap.size + 1) _ r5 p rfl O5.out w.heap.size A ca (by rw [HN.out]; rfl) (HA.out _ B5.out) (by rw [L5.out, HN.out]; omega) Z5.out ?_
       intro A6 c6 W6 r6 q6 rc6 o6 g6
       have B6 := Lib.hid (Below.grew B5.out g6 B5.out.size (fun k hk => Nat.le_of_succ_le (RR5.out k hk).1))
       have O6 := Lib.hid o6
       have Q6 := Lib.hid (show r6 = r5 ++ p from q6.out)
       have Z6 := Lib.hid (show w.heap.size + 1 ≤ W6.heap.size by have h1 := g6.1.size; have h2 := Z5.out; omega)
       have L6 := Lib.hid (show r6.length = 24 + n by rw [q6.out]; simp [L5.out, HN.out])
       clear g6 o6 q6 rc6))
  have FACTS := Lib.hid (show r6 = [66, 89, kb, 0] ++ Page.rl 4 (Page.beB num 4) ++ Page.rl 8 (Page.beB gen 8) ++ Page.rl 4 (Page.beB p.length 4) ++ [0, 0, 0, 0] ++ p by rw [Q6.out, Q5.out, H4.out.1, HN.out])
  have ekb : kb = UInt8.ofNat kind := by
    have h1 := HKB.out
    have h2 := kb.toNat_lt
    rw [show kind = kb.toNat by omega]
    exact UInt8.ofNat_toNat.symm
  have EKB := Lib.hid ekb
  have HD := Lib.hid (fun k (h : 24 + p.length + k = size - 8) => Page.laid_front size kind num gen p kb k ekb h)
  clear ekb H4 O4 B4 R4 O5 B5 Q5 Z5 L5 RR5 Q6 L4
  go_loopw [7] (fun bv wr => ∃ (k : Nat) (A' : Option Addr) (c' : Nat) (r : List UInt8), 24 + n + k ≤ size - 8 ∧ r = r6 ++ List.replicate k 0 ∧ bv = .slice A' r.length c' ∧ Owns wr (w.heap.size + 1) (.slice A' r.length c') r ∧ Below w.heap.size w wr ∧ w.heap.size + 1 ≤ wr.heap.size) (fun bv _ => size - (lenV bv))
  case atStart => exact ⟨0, A6, c6, r6, by omega, by simp, rfl, O6.out, B6.out, Z6.out⟩
  case round =>
    obtain ⟨k, A', c', r, hk, hr, rfl, hO, hbel, hz⟩ := hrel
    have hrl : r.length = 24 + n + k := by rw [hr, List.length_append, List.length_replicate, L6.out]
    by_cases hlt : 24 + n + k < size - 8
    · have O2 := Lib.hid (World.ownsRow.alloc hO (.cells #[.int .u8 0] 5))
      have B2 := Lib.hid (hbel.alloc hbel.size (.cells #[.int .u8 0] 5))
      have HRO := Lib.hid (World.ownsRow.lt hO)
      have HX := Lib.hid (And.intro hr (And.intro hrl hz))
      have hz' := hz
      have hd : decide ((r.length : Int) < (size : Int) - 8) = true := by simp; omega
      clear hr hO hbel hz
      go_wp2_with (first
        | (at_builtin
           refine wpList_append_bytes rfl (.tmp 39) (.tmp 40) rfl (w.heap.size + 1) _ r [0] rfl O2.out (wr.heap.size + 1) (some ⟨wr.heap.size, 0, none⟩) 1 rfl (.inr ⟨wr.heap.size, 0, rfl, by omega, fun i hi => by
             have hi0 : i = 0 := by simp at hi; omega
             subst hi0
             exact (Blk.new wr 5 #[.int .u8 0]).cell 0⟩) (by have := HX.out.2.1; simp; omega) (by have := HX.out.2.2; simp; omega) ?_
           intro A3 c3 w3 r3 q3 rc3 o3 g3
           have B3 := Lib.hid (Below.grew B2.out g3 B2.out.size (fun k hk => Nat.le_of_succ_le (HRO.out k hk).1))
           have Z3 := Lib.hid (show w.heap.size + 1 ≤ w3.heap.size by have h1 := g3.1.size; have h2 := HX.out.2.2; simp at h1; omega)
           have O3 := Lib.hid o3
           have Q3 := Lib.hid (show r3 = r6 ++ List.replicate (k + 1) 0 by rw [q3.out, HX.out.1, List.append_assoc, List.replicate_succ'])
           clear g3 o3 q3 rc3))
      go_roundw
      case rel => exact ⟨k + 1, A3, c3, r3, by omega, Q3.out, rfl, O3.out, B3.out, Z3.out⟩
      case measure => have h1 := Q3.out; have h2 := L6.out; have h3 := HX.out.2.1; simp [lenV, h1, h2] <;> omega
    · have hk8 : 24 + n + k = size - 8 := by omega
      have hd : decide ((r.length : Int) < (size : Int) - 8) = false := by simp; omega
      have hle := World.ownsRow.lt hO
      have QD := Lib.hid (show r = Page.dataL size kind num gen p by rw [hr, FACTS.out]; exact HD.out k (by rw [HN.out]; exact hk8))
      have OD := Lib.hid hO
      have BD := Lib.hid hbel
      have LD := Lib.hid (show r.length = size - 8 by omega)
      have RD := Lib.hid hO.reads
      have hz' := hz
      clear hO hbel hr hle hrl
      have l48 : r.length ≤ 140737488355328 := by have := LD.out; omega
      go_wp2_with fail
      refine (rof_any A' c' r wr wr.heap.size RD.out l48).mono ?_
      rintro e w2 ⟨rfl, rfl⟩
      obtain ⟨s, hs'⟩ : ∃ s, s = Crc.sumOf r := ⟨_, rfl⟩
      rw [← hs']
      have HS := Lib.hid hs'
      have hslt := s.isLt
      have HSB := Lib.hid (fun k m (hm : m = 8 * k) => shift_le s k m hm)
      clear hs' l48 hd RD
      go_wp2_with fail
      go_loopw [7, 9] (fun bv iv wr => ∃ (k : Nat) (A' : Option Addr) (c' : Nat) (r' : List UInt8), k ≤ 8 ∧ iv = .int .i64 (k : Int) ∧ r' = r ++ Page.rl k (Page.leB s) ∧ bv = .slice A' r'.length c' ∧ Owns wr (w.heap.size + 1) (.slice A' r'.length c') r' ∧ Below w.heap.size w wr ∧ w.heap.size + 1 ≤ wr.heap.size) (fun _ iv _ => 8 - (intOf iv).toNat)
      case atStart => exact ⟨0, A', c', r, by omega, rfl, by simp [Page.rl], rfl, OD.out, BD.out, hz'⟩
      case round =>
        obtain ⟨k, A', c', r', hk, rfl, hr', rfl, hO, hbel, hz⟩ := hrel
        have hrl : r'.length = size - 8 + k := by rw [hr', List.length_append, Page.rl_length, LD.out]
        by_cases hlt : k < 8
        · obtain ⟨x, hx⟩ : ∃ x, x = Page.leB s k := ⟨_, rfl⟩
          have ex := HSB.out k (8 * k) rfl
          rw [← hx, IntKind.wrap_u8'] at ex
          obtain ⟨m, hm⟩ : ∃ m : Nat, m = 8 * k := ⟨_, rfl⟩
          have em : 8 * (k : Int) = (m : Int) := by omega
          have hm64 : m < 64 := by omega
          rw [← hm] at ex
          have O2 := Lib.hid (World.ownsRow.alloc hO (.cells #[.int .u8 (x.toNat : Int)] 5))
          have B2 := Lib.hid (hbel.alloc hbel.size (.cells #[.int .u8 (x.toNat : Int)] 5))
          have HRO := Lib.hid (World.ownsRow.lt hO)
          have HX := Lib.hid (And.intro hr' (And.intro hrl (And.intro hz hx)))
          have hd : decide ((k : Int) < 8) = true := by simp; omega
          have hd2 : decide (8 * (k : Int) < 0) = false := by simp; omega
          clear hr' hO hbel hz hx hm
          go_wp2_with (first
            | (at_builtin
               refine wpList_append_bytes rfl (.tmp 48) (.tmp 54) rfl (w.heap.size + 1) _ r' [x] rfl O2.out (wr.heap.size + 1) (some ⟨wr.heap.size, 0, none⟩) 1 rfl (.inr ⟨wr.heap.size, 0, rfl, by omega, fun i hi => by
                 have hi0 : i = 0 := by simp at hi; omega
                 subst hi0
                 exact (Blk.new wr 5 #[.int .u8 (x.toNat : Int)]).cell 0⟩) (by have := HX.out.2.1; simp; omega) (by have := HX.out.2.2.1; simp; omega) ?_
               intro A3 c3 w3 r3 q3 rc3 o3 g3
               have B3 := Lib.hid (Below.grew B2.out g3 B2.out.size (fun k hk => Nat.le_of_succ_le (HRO.out k hk).1))
               have Z3 := Lib.hid (show w.heap.size + 1 ≤ w3.heap.size by have h1 := g3.1.size; have h2 := HX.out.2.2.1; simp at h1; omega)
               have O3 := Lib.hid o3
               have Q3 := Lib.hid (show r3 = r ++ Page.rl (k + 1) (Page.leB s) by rw [q3.out, HX.out.1, Page.rl_succ, ← HX.out.2.2.2, List.append_assoc])
               clear g3 o3 q3 rc3))
          go_roundw
          case rel => exact ⟨k + 1, A3, c3, r3, by omega, by go_num, Q3.out, rfl, O3.out, B3.out, Z3.out⟩
          case measure => simp [intOf] <;> omega
        · obtain rfl : k = 8 := by omega
          have HE := Lib.hid hO
          have HF2 := Lib.hid hbel
          clear hO hbel
          go_wp2_with fail
          go_ret
          have h1 : r' = Page.pageL size kind num gen p := by
            rw [hr', QD.out, HS.out, QD.out]; exact Page.page_front size kind num gen p (by omega)
          exact ⟨A', c', r', rfl, h1, HE.out.mono (by omega), HF2.out⟩
end Go.Proofs.Ytofhdehigfdmkaa
