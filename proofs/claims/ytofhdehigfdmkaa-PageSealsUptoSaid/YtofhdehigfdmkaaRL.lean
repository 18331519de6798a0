/- THE WALK of opened (layer 3's statements). -/
import Derived.Test.YtofhdehigfdmkaaRH
import Derived.Test.YtofhdehigfdmkaaRE
namespace Go.Proofs.Ytofhdehigfdmkaa
open Go.RowKit
/-- what Open tells, of any bytes -/
structure Told where
  a : Int
  b : Int
  c : Int
  l : List UInt8
  e : Int
open Classical in
noncomputable def openF (l : List UInt8) (number : Int) : Told :=
  if ¬ Page.HeadOk l then ⟨0, 0, 0, [], 32⟩ else if ¬ Page.SumOk l then ⟨0, 0, 0, [], 34⟩ else if (Page.numOf l : Int) ≠ number then ⟨0, 0, 0, [], 33⟩ else ⟨Page.kindOf l, Page.numOf l, Page.genOf l, Page.loadOf l, 0⟩
theorem OpenPost.norm {l : List UInt8} {number : Int} {w w' : World} {v : Value} (h : OpenPost l number w w' v) :
    ∃ A c, v = .tuple #[.agg #[.int .i64 (openF l number).a, .int .i64 (openF l number).b, .int .u64 (openF l number).c], .slice A (openF l number).l.length c, .int .i64 (openF l number).e] ∧ Owns w' w.heap.size (.slice A (openF l number).l.length c) (openF l number).l := by
  rcases h with ⟨h1, rfl⟩ | ⟨h1, h2, rfl⟩ | ⟨h1, h2, h3, rfl⟩ | ⟨h1, h2, h3, A, c, rfl, hc, ho⟩
  · have e : openF l number = ⟨0, 0, 0, [], 32⟩ := if_pos h1
    rw [e]
    exact ⟨none, 0, rfl, World.ownsRow_nil _ _ _ _⟩
  · have e : openF l number = ⟨0, 0, 0, [], 34⟩ := by rw [openF, if_neg (by simpa using h1), if_pos h2]
    rw [e]
    exact ⟨none, 0, rfl, World.ownsRow_nil _ _ _ _⟩
  · have e : openF l number = ⟨0, 0, 0, [], 33⟩ := by rw [openF, if_neg (by simpa using h1), if_neg (by simpa using h2), if_pos h3]
    rw [e]
    exact ⟨none, 0, rfl, World.ownsRow_nil _ _ _ _⟩
  · have e : openF l number = ⟨Page.kindOf l, Page.numOf l, Page.genOf l, Page.loadOf l, 0⟩ := by rw [openF, if_neg (by simpa using h1), if_neg (by simpa using h2), if_neg (by simpa using h3)]
    rw [e]
    exact ⟨A, c, rfl, ho⟩
theorem openF_len (l : List UInt8) (number : Int) : (openF l number).l.length ≤ 4096 := by
  unfold openF
  split
  · simp
  · split
    · simp
    · split
      · simp
      · rename_i h _ _
        have h1 : Page.HeadOk l := Classical.byContradiction h
        have h2 := Page.sized_512 h1.1
        show (Page.loadOf l).length ≤ 4096
        unfold Page.loadOf
        rw [List.length_take, List.length_drop]
        omega
set_option maxHeartbeats 1000000 in
set_option maxRecDepth 100000 in
theorem opened_any (B g n : Nat) (rs ws : List Row) (LV WV : Value) (A : Option Addr) (c R : Nat) (number : Int) (l : List UInt8) (w : World) (hbk : Book w B g rs ws LV WV) (hr : Rd w R A l) (hR : R ≤ w.heap.size) (hn : l.length = n) (hc : n ≤ c) (hlen : rs.length ≤ 100) (hl : n ≤ 1048576) :
    Calls Try.prog 31 #[.pointer (some ⟨g, 0, none⟩), .slice A n c, .int .i64 number] w fun e w' => e = .returned (.bool true) ∧ (∃ rs' ws' LV' WV', Book w' B g rs' ws' LV' WV' ∧ rs'.length = rs.length + 1) ∧ Kp (fun k => k = g ∨ B ≤ k) w w' ∧ Five w w' := by
  have HBK := Lib.hid hbk
  have HR := Lib.hid (fun (W : World) (h : Below w.heap.size w W) => (hr.mono hR).below h (Nat.le_refl _))
  have HN := Lib.hid hn
  have HL := Lib.hid hl
  have HLEN := Lib.hid hlen
  have HO := Lib.hid (fun (W : World) (h : Below w.heap.size w W) => open_rd A c n w.heap.size number l W hn hc h.size (HR.out W h))
  have HRO := Lib.hid (fun (A' : Option Addr) (c' : Nat) (W : World) (hc' : n ≤ c') (h : Rd W W.heap.size A' l) => ropen_rd A' c' n W.heap.size number l W hn hc' (Nat.le_refl _) h)
  clear hbk hr hR hn hc hlen hl
  obtain ⟨fa, hfa⟩ : ∃ x, x = (openF l number).a := ⟨_, rfl⟩
  obtain ⟨fb, hfb⟩ : ∃ x, x = (openF l number).b := ⟨_, rfl⟩
  obtain ⟨fc, hfc⟩ : ∃ x, x = (openF l number).c := ⟨_, rfl⟩
  obtain ⟨fl, hfl⟩ : ∃ x, x = (openF l number).l := ⟨_, rfl⟩
  obtain ⟨fe, hfe⟩ : ∃ x, x = (openF l number).e := ⟨_, rfl⟩
  have NORM := Lib.hid (show ∀ (w w' : World) (v : Value), OpenPost l number w w' v → ∃ A c, v = .tuple #[.agg #[.int .i64 fa, .int .i64 fb, .int .u64 fc], .slice A fl.length c, .int .i64 fe] ∧ Owns w' w.heap.size (.slice A fl.length c) fl from fun w w' v h => by
    rw [hfa, hfb, hfc, hfl, hfe]; exact h.norm)
  have FL := Lib.hid (show fl.length ≤ 4096 by rw [hfl]; exact openF_len l number)
  clear hfa hfb hfc hfl hfe
  obtain ⟨m, hm⟩ : ∃ m, m = fl.length := ⟨_, rfl⟩
  have HM := Lib.hid hm
  clear hm
  have e39 := eq39 fa fb fc fa fb fc
  have eqa : (fa == fa && fb == fb && fc == fc) = true := by simp
  rw [eqa] at e39
  clear eqa
  have eqe : (fe == fe) = true := by simp
  go_enter Try.func31, Try.ntmps31
  go_wp2_with fail
  refine (HO.out w (Below.refl _ _)).mono ?_
  rintro e w1 ⟨v, rfl, hv, b1⟩
  obtain ⟨A1, c1, rfl, o1⟩ := NORM.out _ _ _ hv
  have B1 := Lib.hid (b1.alloc b1.size (.cells #[.int .i64 fa, .int .i64 fb, .int .u64 fc] 39))
  have K1 := Lib.hid (Blk.new w1 39 #[.int .i64 fa, .int .i64 fb, .int .u64 fc])
  have O1 := Lib.hid (show Owns (w1.alloc (.cells #[.int .i64 fa, .int .i64 fb, .int .u64 fc] 39)) w.heap.size (.slice A1 fl.length c1) fl from World.ownsRow.alloc o1 _)
  clear hv o1
  rw [← HM.out]
  rw [← HM.out] at O1
  obtain ⟨h7, hh7⟩ : ∃ x, x = w1.heap.size := ⟨_, rfl⟩
  have HH7 := Lib.hid (show w.heap.size ≤ h7 by rw [hh7]; exact b1.size)
  go_upto_region 2 with fail
  rw [← hh7] at K1 ⊢
  clear hh7 b1
  generalize World.alloc w1 _ = W1 at B1 K1 O1 ⊢
  clear w1
  go_wp2_with (first
    | (at_builtin
       refine wpList_append_bytes rfl (.tmp 21) (.tmp 22) rfl W1.heap.size (.slice (some ⟨W1.heap.size, 0, none⟩) 0 0) [] l rfl (Owns.fresh W1 W1.heap.size (Nat.le_refl _)) w.heap.size A c (by rw [HN.out]; rfl) (HR.out _ (B1.out.alloc B1.out.size _)) (by rw [HN.out]; have := HL.out; simp; omega) (by simp) ?_
       intro A2 c2 W2 l2 q2 rc2 o2 g2
       have q2' : l2 = l := q2.out
       rw [q2'] at o2 g2 rc2 ⊢
       rw [HN.out] at rc2 ⊢
       have k2 : Kp (fun k => k = W1.heap.size) W1 W2 := ((Kp.refl (fun k => k = W1.heap.size) W1).alloc _).trans (Kp.of_grown g2.1 (by intro k e; simp [Value.ownBlock] at e; exact e.symm))
       have B2 := Lib.hid (show Below w.heap.size w W2 from Kp.below B1.out k2 (by intro k e; rw [e]; exact B1.out.size) B1.out.size)
       have K2 := Lib.hid (K1.out.kp k2 (fun e => by have := K1.out.lt; omega))
       have O2 := Lib.hid (rowKp O1.out k2 fun k hk e => by have := (World.ownsRow.lt O1.out k hk).2; omega)
       have R2 := Lib.hid o2.reads
       have C2 := Lib.hid rc2
       clear o2 g2 rc2 q2 q2' k2))
  refine (HRO.out A2 c2 W2 C2.out R2.out).mono ?_
  rintro e w3 ⟨v, rfl, hv, b3⟩
  obtain ⟨A3, c3, rfl, o3⟩ := NORM.out _ _ _ hv
  rw [← HM.out] at o3 ⊢
  have B3 := Lib.hid ((B2.out.trans (b3.mono B2.out.size)).alloc (B2.out.trans (b3.mono B2.out.size)).size (.cells #[.int .i64 fa, .int .i64 fb, .int .u64 fc] 39))
  have N3 := Lib.hid (Blk.new w3 39 #[.int .i64 fa, .int .i64 fb, .int .u64 fc])
  have K3 := Lib.hid ((K2.out.below b3 K2.out.lt).alloc (.cells #[.int .i64 fa, .int .i64 fb, .int .u64 fc] 39))
  have O3 := Lib.hid (show Owns (w3.alloc (.cells #[.int .i64 fa, .int .i64 fb, .int .u64 fc] 39)) W2.heap.size (.slice A3 fl.length c3) fl from World.ownsRow.alloc (by have h := o3; rw [HM.out] at h; exact h) _)
  have P3 := Lib.hid (show Owns (w3.alloc (.cells #[.int .i64 fa, .int .i64 fb, .int .u64 fc] 39)) w.heap.size (.slice A1 fl.length c1) fl from World.ownsRow.alloc (rowKp (S := fun _ => False) (by have h := O2.out; rw [HM.out] at h; exact h) (Kp.of_below b3) fun _ _ h => h) _)
  obtain ⟨h10, hh10⟩ : ∃ x, x = w3.heap.size := ⟨_, rfl⟩
  have HH10 := Lib.hid (show w.heap.size ≤ h10 by rw [hh10]; exact Nat.le_trans B2.out.size b3.size)
  go_upto_region 3 with fail
  rw [← hh10] at N3 ⊢
  clear hh10 b3 hv o3
  generalize World.alloc w3 _ = W3 at B3 N3 K3 O3 P3 ⊢
  clear w3 B2 K2 O2 R2 C2 B1 K1 O1
  have BK3 := Lib.hid (HBK.out.kp (Kp.of_below (S := fun _ => False) ⟨B3.out.os, B3.out.tape, B3.out.output, B3.out.size, B3.out.block⟩) fun _ _ h => h.elim)
  have hz : B ≤ w.heap.size := HBK.out.size
  go_wp2_with fail
  refine (keep_any B g rs ws LV WV A1 c1 m fl W3 BK3.out HM.out.symm (Owns.mono P3.out hz) FL.out (fun r hr k hk e => ?_) (by have := HLEN.out; omega)).mono ?_
  · have h1 := (World.ownsRow.lt P3.out k e).1
    have h2 := (World.ownsRow.lt (HBK.out.rows r hr).1 k hk).2
    omega
  rintro e w5 ⟨rfl, hb5, k5, f5⟩
  have far : ∀ h, w.heap.size ≤ h → ¬ (h = g ∨ LV.ownBlock = some h ∨ WV.ownBlock = some h) := fun h hh e => by
    rcases e with e | e | e
    · have := HBK.out.low
      omega
    · have := (World.ownsRow.lt HBK.out.lv h e).2
      omega
    · have := (World.ownsRow.lt HBK.out.wv h e).2
      omega
  have K5 := Lib.hid (K3.out.kp k5 (far h7 HH7.out))
  have N5 := Lib.hid (N3.out.kp k5 (far h10 HH10.out))
  have P5 := Owns.five P3.out f5
  have O5 := Owns.five O3.out f5
  have v1 := conv_str A1 c1 fl w5 w5.heap.size P5.reads
  have v2 := conv_str A3 c3 fl w5 w5.heap.size O5.reads
  rw [← HM.out] at v1 v2
  obtain ⟨s, hs⟩ : ∃ s, s = bs fl := ⟨_, rfl⟩
  rw [← hs] at v1 v2
  have eqs : (s.toList == s.toList) = true := by simp
  have POST := Lib.hid (show (∃ rs' ws' LV' WV', Book w5 B g rs' ws' LV' WV' ∧ rs'.length = rs.length + 1) ∧ Kp (fun k => k = g ∨ B ≤ k) w w5 ∧ Five w w5 from by
    refine ⟨?_, ?_, (Five.of_below ⟨B3.out.os, B3.out.tape, B3.out.output, B3.out.size, B3.out.block⟩).trans f5⟩
    · obtain ⟨ws', LV', WV', h⟩ := hb5
      exact ⟨_, ws', LV', WV', h, by simp⟩
    · refine (Kp.of_below ⟨B3.out.os, B3.out.tape, B3.out.output, B3.out.size, B3.out.block⟩).trans (k5.mono fun k _ h => ?_)
      rcases h with h | h | h
      · exact .inl h
      · exact .inr (World.ownsRow.lt HBK.out.lv k h).1
      · exact .inr (World.ownsRow.lt HBK.out.wv k h).1)
  clear far hb5 k5 f5 P5 O5 hs hz
  go_wp2_with (first
    | (refine wpList_load_row rfl 39 _ rfl _ rfl 39 _ (0, 0) _ K5.out Try.underlying39 rfl (by rw [info39]; rfl) ?_)
    | (refine wpList_load_row rfl 39 _ rfl _ rfl 39 _ (0, 0) _ N5.out Try.underlying39 rfl (by rw [info39]; rfl) ?_))
  go_ret
  exact ⟨rfl, POST.out⟩
end Go.Proofs.Ytofhdehigfdmkaa
