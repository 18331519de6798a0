/- pick; sameInts; Numbers: the walks. -/
import Derived.Test.YtghakgepchlpgaaH
import Derived.Test.YtghakgepchlpgaaI
namespace Go.Proofs.Ytghakgepchlpgaa
open Go.RowKit Go.Maps
def pickN (c n : Int) : Int := if c < 0 then -((c + 1).tmod n) else c % n
theorem pickN_in (c n : Int) (h : 0 < n) : 0 ≤ pickN c n ∧ pickN c n < n := by
  unfold pickN
  split
  · rw [← Int.neg_tmod, Int.tmod_eq_emod_of_nonneg (by omega)]
    exact ⟨Int.emod_nonneg _ (by omega), Int.emod_lt_of_pos _ h⟩
  · exact ⟨Int.emod_nonneg _ (by omega), Int.emod_lt_of_pos _ h⟩
theorem World.cell_below_some {a w : World} {p : Addr} {v : Value} {B : Nat} (h : Below B a w) (hB : a.heap.size ≤ B) (hc : a.cell? p = some v) : w.cell? p = some v :=
  (h.cell (Nat.lt_of_lt_of_le (World.block_lt_of_cell? a p hc) hB)).trans hc
theorem ret_int {a b : Int} {k : IntKind} (h : a = b) : Ending.returned (.int k a) = .returned (.int k b) := by rw [h]
theorem pick_any (c n : Int) (h : 0 < n) (w : World) (hc : -9223372036854775808 ≤ c) (hc2 : c ≤ 9223372036854775807) :
    Calls Try.prog 8 #[.int .i64 c, .int .i64 n] w fun e w' => e = .returned (.int .i64 (pickN c n)) ∧ w = w' := by
  have hn0 : (n == 0) = false := by simp; omega
  by_cases hneg : c < 0
  · have HP := Lib.hid (show pickN c n = -((c + 1).tmod n) by unfold pickN; rw [if_pos hneg])
    go_enter Try.func8, Try.ntmps8
    go_wp2
    go_ret
    exact ⟨ret_int HP.out.symm, rfl⟩
  · have HP := Lib.hid (show pickN c n = c % n by unfold pickN; rw [if_neg hneg])
    go_enter Try.func8, Try.ntmps8
    go_wp2
    go_ret
    exact ⟨ret_int HP.out.symm, rfl⟩
set_option maxHeartbeats 1000000 in
theorem sameInts_any (A A' : Option Addr) (c c' : Nat) (l m : List Int) (w : World) (B B' : Nat) (h : Ri w B A l) (h' : Ri w B' A' m) (hl : l.length ≤ 9223372036854775807) :
    Calls Try.prog 12 #[.slice A l.length c, .slice A' m.length c'] w fun e w' => e = .returned (.bool (decide (l = m))) ∧ Below w.heap.size w w' := by
  by_cases hlen : l.length = m.length
  · obtain ⟨n, hn⟩ : ∃ n, n = m.length := ⟨_, rfl⟩
    have HM := Lib.hid (And.intro (hlen.trans hn.symm) hn.symm)
    rw [hlen, ← hn]
    rw [hlen, ← hn] at hl
    have H1 := Lib.hid h
    have H2 := Lib.hid h'
    clear h h' hlen hn
    go_enter Try.func12, Try.ntmps12
    go_wp2_with fail
    go_loopw [5] (fun iv wr => ∃ k : Nat, k ≤ n ∧ iv = .int .i64 k ∧ (∀ j, j < k → l.getD j 0 = m.getD j 0) ∧ Below w.heap.size w wr) (fun iv _ => n - (intOf iv).toNat)
    case atStart => exact ⟨0, by omega, rfl, fun j hj => absurd hj (by omega), Below.refl _ _⟩
    case round =>
      obtain ⟨k, hk, rfl, hz, hbel⟩ := hrel
      by_cases hlt : k < n
      · have R1 := H1.out
        have R2 := H2.out
        rcases R1 with R1 | ⟨b, off, rfl, hb, hc⟩
        · have := HM.out.1; rw [R1] at this; simp at this; omega
        rcases R2 with R2 | ⟨b', off', rfl, hb', hc'⟩
        · have := HM.out.2; rw [R2] at this; simp at this; omega
        have R3 := hc k (by have := HM.out.1; omega)
        have R4 := hc' k (by have := HM.out.2; omega)
        have q1 : wr.cell? ⟨b, off + k, none⟩ = some (.int .i64 (l.getD k 0)) := World.cell_below_some hbel (Nat.le_refl _) (R3)
        have q2 : wr.cell? ⟨b', off' + k, none⟩ = some (.int .i64 (m.getD k 0)) := World.cell_below_some hbel (Nat.le_refl _) (R4)
        have HK := Lib.hid (And.intro hz hbel)
        obtain ⟨x, hx⟩ : ∃ x, x = l.getD k 0 := ⟨_, rfl⟩
        obtain ⟨y, hy⟩ : ∃ y, y = m.getD k 0 := ⟨_, rfl⟩
        rw [← hx] at q1
        rw [← hy] at q2
        have HX := Lib.hid (And.intro hx hy)
        clear R3 R4 hc hc' hz hbel hx hy
        have hd : decide ((k : Int) < (n : Int)) = true := by simp; omega
        have hd2 : decide (k < n) = true := by simp; omega
        have wk : IntKind.i64.wrap ((k : Int) + 1) = ((k + 1 : Nat) : Int) := by rw [IntKind.wrap_i64]; omega
        go_wp2_with fail
        go_quiet (fail)
        have HK2 := Lib.hid (below_drewN HK.out.2 nq)
        generalize World.drewN wr nq = W2 at HK2 ⊢
        generalize hq : (x != y) = q
        cases q
        · simp only [bne_eq_false_iff_eq] at hq
          go_wp2_with fail
          go_roundw
          case rel =>
            refine ⟨k + 1, by omega, by go_num, fun j hj => ?_, HK2.out⟩
            by_cases hjk : j < k
            · exact HK.out.1 j hjk
            · obtain rfl : j = k := by omega
              rw [← HX.out.1, ← HX.out.2, hq]
          case measure => simp [intOf] <;> omega
        · have hne : x ≠ y := by simpa using hq
          go_wp2_with fail
          go_ret
          refine ⟨?_, HK2.out⟩
          have : l ≠ m := fun e => hne (by rw [HX.out.1, HX.out.2, e])
          rw [decide_eq_false this]; rfl
      · obtain rfl : k = n := by omega
        have hd2 : decide ((k : Int) < (k : Int)) = false := by simp
        have HK := Lib.hid (And.intro hz hbel)
        clear hz hbel
        go_wp2_with fail
        go_ret
        refine ⟨?_, HK.out.2⟩
        have : l = m := by
          apply List.ext_getElem?
          intro i
          by_cases hi : i < k
          · have h1 : i < l.length := by have := HM.out.1; omega
            have h2 : i < m.length := by have := HM.out.2; omega
            have := HK.out.1 i hi
            simp only [List.getD_eq_getElem?_getD, List.getElem?_eq_getElem h1, List.getElem?_eq_getElem h2, Option.getD_some] at this
            rw [List.getElem?_eq_getElem h1, List.getElem?_eq_getElem h2, this]
          · rw [List.getElem?_eq_none (by have := HM.out.1; omega), List.getElem?_eq_none (by have := HM.out.2; omega)]
        rw [decide_eq_true this]; rfl
  · have hne : ((l.length : Int) != (m.length : Int)) = true := by simpa using fun e => hlen (by omega)
    have hne2 : (l.length == m.length) = false := by simpa using hlen
    have HM := Lib.hid (show l ≠ m from fun e => hlen (by rw [e]))
    generalize l.length = n1 at *
    generalize m.length = n2 at *
    clear h h'
    go_enter Try.func12, Try.ntmps12
    go_wp2_with fail
    go_ret
    exact ⟨by rw [decide_eq_false HM.out]; rfl, Below.refl _ _⟩
section
variable {w : World} {cb mb : Nat} {P hit miss : Int} {L : List Ent}
set_option maxHeartbeats 1000000 in
theorem numbers_int (h : CA 58 56 (.int .i64 0) w cb mb P hit miss L) (hl : L.length ≤ 65536) : Calls Try.prog 13 #[.pointer (some ⟨cb, 0, none⟩)] w fun r w' =>
    ∃ A c, r = .returned (.slice A L.length c) ∧ OwnsI w' w.heap.size (.slice A (L.map (·.n)).length c) (L.map (·.n)) ∧ Below w.heap.size w w' := by
  have HC := Lib.hid h
  obtain ⟨⟨nx, el, hlk, hrg⟩, _, _, _⟩ := h
  have r6 := hlk.nxCell (q := cb) (.inl rfl)
  rw [off_cb, Ring.path_head hrg.fwd, show ptr cb ((L.map (·.b)).headD cb) = .pointer (some ⟨hdB cb L, off cb (hdB cb L), none⟩) from rfl] at r6
  obtain ⟨hb, hhb⟩ : ∃ x, x = hdB cb L := ⟨_, rfl⟩
  obtain ⟨ho, hho⟩ : ∃ x, x = off cb (hdB cb L) := ⟨_, rfl⟩
  rw [← hho, ← hhb] at r6
  have HH := Lib.hid (And.intro hhb hho)
  have HLK := Lib.hid (And.intro hlk hrg)
  clear hhb hho hlk hrg
  go_enter Try.func13, Try.ntmps13
  go_wp2_with fail
  go_loopw [3, 4] (fun ov pv wr => ∃ u v A c, L = u ++ v ∧ ov = .slice A (u.map (·.n)).length c ∧ OwnsI wr w.heap.size (.slice A (u.map (·.n)).length c) (u.map (·.n)) ∧ pv = ptr cb (hdB cb v) ∧ Below w.heap.size w wr) (fun _ pv _ => dist L pv)
  case atStart => exact ⟨[], L, none, 0, rfl, rfl, OwnsI.nil _ _, by rw [HH.out.1, HH.out.2]; rfl, Below.refl _ _⟩
  case round =>
    obtain ⟨u, v, A, c, hL, rfl, hO, rfl, hbel⟩ := hrel
    have lk := HLK.out.1.kept (S := fun _ => False) (Kept.of_below hbel) (fun _ _ e => e)
    have HB := Lib.hid (And.intro hO hbel)
    cases v with
    | nil =>
      rw [show ptr cb (hdB cb []) = .pointer (some ⟨cb, off cb cb, none⟩) from rfl, off_cb]
      rw [List.append_nil] at hL
      subst hL
      have q1 := neq_same wr ⟨cb, 2, none⟩ Try.underlying54 info56
      clear hO hbel lk
      go_wp2_with fail
      go_ret
      exact ⟨A, c, rfl, (by have h := HB.out.1; first | exact h | (rw [List.length_map] at h; exact h)), HB.out.2⟩
    | cons e v =>
      have hle := lk.place e (by rw [hL]; simp)
      rw [show ptr cb (hdB cb (e :: v)) = .pointer (some ⟨e.b, off cb e.b, none⟩) from rfl, off_ne hle.1]
      have e0 := hle.2.cell 0
      rw [show (#[Value.int .i64 e.n, e.x, .int .i64 e.pin, ptr cb (el e.b), ptr cb (nx e.b)] : Array Value)[0]? = some (.int .i64 e.n) from rfl] at e0
      have q1 : (binOp .neq 54 (.pointer (some ⟨e.b, 0, none⟩)) (.pointer (some ⟨cb, 2, none⟩))).run Try.prog wr = .ok (.bool true) wr := neq_other Try.underlying54 info56 hle.1 hle.2 lk.cache
      have hul : u.length + 1 ≤ 65536 := by rw [hL] at hl; simp at hl; omega
      have B2 := Lib.hid (hbel.alloc hbel.size (.cells #[.int .i64 e.n] 3))
      have O2 := Lib.hid (hO.alloc (.cells #[.int .i64 e.n] 3))
      have HL := Lib.hid hL
      clear hO hbel lk hle hL
      have hnx : nx e.b = hdB cb v := by
        have := HLK.out.2.fwd
        rw [HL.out, List.map_append, List.map_cons] at this
        exact Ring.path_head (Ring.path_app.1 this).2
      obtain ⟨nb, hnb⟩ : ∃ x, x = hdB cb v := ⟨_, rfl⟩
      obtain ⟨no, hno⟩ : ∃ x, x = off cb (hdB cb v) := ⟨_, rfl⟩
      have HNB := Lib.hid (And.intro hnb hno)
      have HX := Lib.hid (show ∀ W : World, Below w.heap.size w W → W.cell? ⟨e.b, 4, none⟩ = some (.pointer (some ⟨nb, no, none⟩)) from fun W hW => by
        have lk3 := HLK.out.1.kept (S := fun _ => False) (Kept.of_below hW) (fun _ _ e => e)
        have e4 := (lk3.place e (by rw [HL.out]; simp)).2.cell 4
        rw [e4, HNB.out.1, HNB.out.2, ← hnx]; rfl)
      clear hnx hnb hno
      go_wp2_with (first
        | (at_builtin
           refine wpList_append_int rfl (.tmp 19) (.tmp 24) rfl w.heap.size _ _ e.n rfl O2.out wr.heap.size 1 rfl (by have := (Blk.new wr 3 #[.int .i64 e.n]).cell 0; exact this) (by rw [List.length_map]; omega) B2.out.size ?_
           intro A3 c3 w3 r3 q3 rc3 o3 g3
           have B3 := Lib.hid (Below.grew B2.out g3 B2.out.size (fun k hk => (HB.out.1.from_) k hk))
           have e4 := HX.out w3 B3.out
           have O3 := Lib.hid o3
           have Q3 := Lib.hid (show r3 = (u ++ [e]).map (·.n) by rw [q3.out]; simp)
           clear g3 o3 q3 e0 q1))
      go_roundw
      case rel => exact ⟨u ++ [e], v, A3, c3, by rw [HL.out]; simp, by rw [Q3.out], by have h := O3.out; rw [Q3.out] at h; exact h, by rw [HNB.out.1, HNB.out.2]; rfl, B3.out⟩
      case measure =>
        have hnd := HLK.out.1.inj
        rw [HL.out] at hnd ⊢
        rw [dist_at hnd]
        cases v with
        | nil =>
          rw [HNB.out.1, show hdB cb [] = cb from rfl, dist_end (fun h => by
            obtain ⟨y, hy, hyb⟩ := List.mem_map.1 h
            exact (HLK.out.1.place y (by rw [HL.out]; exact hy)).1 hyb)]
          omega
        | cons e' v =>
          rw [HNB.out.1, show hdB cb (e' :: v) = e'.b from rfl, show u ++ e :: e' :: v = (u ++ [e]) ++ e' :: v by simp, dist_at (by rw [show (u ++ [e]) ++ e' :: v = u ++ e :: e' :: v by simp]; exact hnd)]
          simp
end
end Go.Proofs.Ytghakgepchlpgaa
