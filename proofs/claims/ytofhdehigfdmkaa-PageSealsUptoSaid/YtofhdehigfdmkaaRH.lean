/- THE WALK of Book's keep. -/
import Derived.Test.YtofhdehigfdmkaaRG
namespace Go.Proofs.Ytofhdehigfdmkaa
open Go.RowKit
theorem grew_five {w w' : World} {v v' : Value} {B n : Nat} {xs : List Value} (h : Grew w w' v v') (ho : w.ownsRow B 22 1 v n xs) : Five w w' :=
  (Kp.of_grown (S := fun k => v.ownBlock = some k) h.1 fun _ e => e).five fun k cs fr hk e => by
    obtain ⟨cs', h'⟩ := rowType ho k e
    exact types_ne h' hk (by decide) rfl
theorem rowShape {w : World} {B e size n : Nat} {v : Value} {xs : List Value} (h : w.ownsRow B e size v n xs) : ∃ A c, v = .slice A n c := by
  rcases h.2 with ⟨rfl, rfl⟩ | ⟨g, cap, cur, rfl, _⟩
  · exact ⟨none, 0, rfl⟩
  · exact ⟨_, _, rfl⟩
theorem Kp.since {S T : Nat → Prop} {u v w : World} (h : Kp S u v) (h' : Kp T v w) (ht : ∀ k, T k → S k ∨ u.heap.size ≤ k) : Kp S u w :=
  ⟨h'.os.trans h.os, h'.tape.trans h.tape, h'.output.trans h.output, Nat.le_trans h.size h'.size, fun k hk hn => (h'.block k (Nat.lt_of_lt_of_le hk h.size) fun e => by
    rcases ht k e with e | e
    · exact hn e
    · omega).trans (h.block k hk hn)⟩
theorem keep_post {B g : Nat} {rs ws : List Row} {A AL AW A1 A4 A6 : Option Addr} {c cL cW c1 c4 c6 n nL nW m1 m6 : Nat} {l : List UInt8} {w w1 w2 w5 w6 : World} {cs2 cs6 : Array Value} (hgB : g < B)
    (hbk : Book w B g rs ws (.slice AL rs.length cL) (.slice AW ws.length cW)) (ho : Owns w B (.slice A l.length c) l) (hl : l.length ≤ 4096)
    (hap : ∀ r ∈ rs, ∀ k, r.v.ownBlock = some k → (Value.slice A l.length c).ownBlock ≠ some k) (hnl : nL = rs.length ∧ nW = ws.length) (hB : B ≤ w.heap.size)
    (lv0 : w.ownsRow B 22 1 (.slice AL nL cL) (rs.map Row.v).length (rs.map Row.v)) (wv0 : w.ownsRow B 22 1 (.slice AW nW cW) (ws.map Row.v).length (ws.map Row.v))
    (o1 : w1.ownsRow B 22 1 (.slice A1 m1 c1) m1 (rs.map Row.v ++ [.slice A n c])) (g1 : Grew (w.alloc (.cells #[.slice A n c] 22)) w1 (.slice AL nL cL) (.slice A1 m1 c1))
    (b2 : Blk w2 g 43 cs2) (k2 : Kp (fun k => k = g ∨ (Value.slice AL nL cL).ownBlock = some k) w w2) (f2 : Five w w2)
    (ha1 : ∀ k, (Value.slice A1 m1 c1).ownBlock = some k → B ≤ k ∧ k < w2.heap.size ∧ (Value.slice AW nW cW).ownBlock ≠ some k)
    (W2 : w2.ownsRow B 22 1 (.slice AW nW cW) (ws.map Row.v).length (ws.map Row.v)) (L2 : w2.ownsRow B 22 1 (.slice A1 m1 c1) m1 (rs.map Row.v ++ [.slice A n c])) (hbz : B ≤ w2.heap.size)
    (k5 : Kp (fun k => k = w2.heap.size) w2 w5) (o5 : Owns w5 B (.slice A4 l.length c4) l) (b6 : Blk w6 g 43 cs6)
    (o6 : w6.ownsRow B 22 1 (.slice A6 m6 c6) m6 (ws.map Row.v ++ [.slice A4 l.length c4])) (g6 : Grew w5 w6 (.slice AW nW cW) (.slice A6 m6 c6))
    (hm1 : m1 = (rs.map Row.v ++ [Value.slice A n c]).length) (hm6 : m6 = (ws.map Row.v ++ [Value.slice A4 l.length c4]).length) (hn : l.length = n)
    (hc6 : cs6.setIfInBounds 1 (.slice A6 m6 c6) = #[.slice A1 m1 c1, .slice A6 m6 c6]) :
    Ending.returned (.tuple #[]) = Ending.returned (.tuple #[]) ∧ (∃ ws' LV' WV', Book (w6.setCell ⟨g, 1, none⟩ (.slice A6 m6 c6)) B g (rs ++ [⟨A, c, l⟩]) ws' LV' WV') ∧ Kp (fun k => k = g ∨ (Value.slice AL rs.length cL).ownBlock = some k ∨ (Value.slice AW ws.length cW).ownBlock = some k) w (w6.setCell ⟨g, 1, none⟩ (.slice A6 m6 c6)) ∧ Five w (w6.setCell ⟨g, 1, none⟩ (.slice A6 m6 c6)) := by
  have W5 : w5.ownsRow B 22 1 (.slice AW nW cW) (ws.map Row.v).length (ws.map Row.v) := rowKp W2 k5 fun k e h => by
    have := (World.ownsRow.lt W2 k e).2
    omega
  have k6 : Kp (fun k => (Value.slice AW nW cW).ownBlock = some k) w5 w6 := Kp.of_grown g6.1 fun _ e => e
  have k7 : Kp (fun k => k = g) w6 (w6.setCell ⟨g, 1, none⟩ (.slice A6 m6 c6)) := Kp.setCell (Kp.refl (fun k => k = g) w6) ⟨g, 1, none⟩ rfl _
  have f5 : Five w5 (w6.setCell ⟨g, 1, none⟩ (.slice A6 m6 c6)) := (grew_five g6 W5).trans (k7.five fun k cs fr hk e => by
    subst e
    exact types_ne (show w6.heap[k]? = some (Obj.cells cs6 43 (0, 0)) from b6) hk (by decide) rfl)
  have f : Five w (w6.setCell ⟨g, 1, none⟩ (.slice A6 m6 c6)) := f2.trans ((k5.five fun k cs fr hk e => by
    have := (Array.getElem?_eq_some_iff.1 hk).1
    omega).trans f5)
  have b7 : Blk (w6.setCell ⟨g, 1, none⟩ (.slice A6 m6 c6)) g 43 #[.slice A1 m1 c1, .slice A6 m6 c6] := by rw [← hc6]; exact b6.put 1 _
  have hrow : (rs.map Row.v ++ [Value.slice A n c]) = (rs ++ [(⟨A, c, l⟩ : Row)]).map Row.v := by rw [List.map_append]; simp [Row.v, hn]
  have hwrow : (ws.map Row.v ++ [Value.slice A4 l.length c4]) = (ws ++ [(⟨A4, c4, l⟩ : Row)]).map Row.v := by rw [List.map_append]; simp [Row.v]
  have L7 := rowKp (rowKp (rowKp L2 k5 fun k e h => by have := (ha1 k e).2.1; omega) k6 fun k e h => (ha1 k e).2.2 h) k7 fun k e h => by have := (ha1 k e).1; omega
  have W7 := rowKp o6 k7 fun k e h => by have := (World.ownsRow.lt o6 k e).1; omega
  refine ⟨rfl, ⟨ws ++ [⟨A4, c4, l⟩], .slice A1 m1 c1, .slice A6 m6 c6, b7, hgB, ?_, ?_, ?_, ?_, ?_, ?_, ?_, ?_⟩, ?_, f⟩
  · have h1 := k5.size
    have h2 := k6.size
    have h3 := k7.size
    omega
  · rw [hrow] at L7 hm1
    rw [List.length_map] at hm1
    rw [← hm1]
    exact L7
  · rw [hwrow] at W7 hm6
    rw [List.length_map] at hm6
    rw [← hm6]
    exact W7
  · intro k e e'
    have h1 := ha1 k e
    rcases g6.2 with h | h
    · rw [h] at e'
      exact h1.2.2 e'
    · rw [h] at e'
      have := k5.size
      injection e' with e'
      omega
  · intro r hr
    rcases List.mem_append.1 hr with hr | hr
    · exact ⟨(hbk.rows r hr).1.five f, (hbk.rows r hr).2⟩
    · rw [List.mem_singleton.1 hr]
      exact ⟨ho.five f, hl⟩
  · intro r hr
    rcases List.mem_append.1 hr with hr | hr
    · exact (hbk.was r hr).five f
    · rw [List.mem_singleton.1 hr]
      exact o5.five f5
  · rw [List.map_append, List.map_append, hbk.same]; rfl
  · refine List.pairwise_append.2 ⟨hbk.apart, List.pairwise_singleton _ _, fun a ha b hb k e => ?_⟩
    rw [List.mem_singleton.1 hb]
    exact hap a ha k e
  · refine ((((k2.mono ?_).since k5 ?_).since k6 ?_).since k7 ?_)
    · rintro k - (h | h)
      · exact .inl h
      · rw [hnl.1] at h
        exact .inr (.inl h)
    · intro k h
      right
      rw [h]
      exact k2.size
    · intro k h
      rw [hnl.2] at h
      exact .inl (.inr (.inr h))
    · intro k h
      exact .inl (.inl h)
set_option maxHeartbeats 1000000 in
set_option maxRecDepth 100000 in
theorem keep_any (B g : Nat) (rs ws : List Row) (LV WV : Value) (A : Option Addr) (c n : Nat) (l : List UInt8) (w : World) (hbk : Book w B g rs ws LV WV) (hn : l.length = n) (ho : Owns w B (.slice A l.length c) l) (hl : l.length ≤ 4096)
    (hap : ∀ r ∈ rs, ∀ k, r.v.ownBlock = some k → (Value.slice A l.length c).ownBlock ≠ some k) (hlen : rs.length ≤ 1000) :
    Calls Try.prog 29 #[.pointer (some ⟨g, 0, none⟩), .slice A n c] w fun e w' => e = .returned (.tuple #[]) ∧ (∃ ws' LV' WV', Book w' B g (rs ++ [⟨A, c, l⟩]) ws' LV' WV') ∧ Kp (fun k => k = g ∨ LV.ownBlock = some k ∨ WV.ownBlock = some k) w w' ∧ Five w w' := by
  obtain ⟨AL, cL, rfl⟩ := rowShape hbk.lv
  obtain ⟨AW, cW, rfl⟩ := rowShape hbk.wv
  obtain ⟨nL, hnL⟩ : ∃ x, x = rs.length := ⟨_, rfl⟩
  obtain ⟨nW, hnW⟩ : ∃ x, x = ws.length := ⟨_, rfl⟩
  have c0 : w.cell? ⟨g, 0, none⟩ = some (.slice AL nL cL) := by rw [hnL]; exact hbk.blk.cell 0
  have hlw : ws.length ≤ 1000 := by
    have := congrArg List.length hbk.same
    simp only [List.length_map] at this
    omega
  have K0 := Lib.hid hbk
  have HO := Lib.hid ho
  have HL := Lib.hid hl
  have HN := Lib.hid hn
  have HAP := Lib.hid hap
  have HLEN := Lib.hid (And.intro hlen hlw)
  have HNL := Lib.hid (And.intro hnL hnW)
  have LV0 := Lib.hid (show w.ownsRow B 22 1 (.slice AL nL cL) (rs.map Row.v).length (rs.map Row.v) by rw [hnL, List.length_map]; exact hbk.lv)
  have WV0 := Lib.hid (show w.ownsRow B 22 1 (.slice AW nW cW) (ws.map Row.v).length (ws.map Row.v) by rw [hnW, List.length_map]; exact hbk.wv)
  have hlt : B ≤ w.heap.size ∧ g < B := ⟨hbk.size, hbk.low⟩
  have HLT := Lib.hid hlt
  clear hbk ho hl hap hlen hlt hn hnL hnW hlw
  go_enter Try.func29, Try.ntmps29
  go_wp2_with (first
    | (at_builtin
       refine wpList_append_sl rfl (.tmp 8) (.tmp 10) rfl B (.slice AL nL cL) (rs.map Row.v) [.slice A n c] rfl (rowKp LV0.out ((Kp.refl (fun _ => False) w).alloc _) fun _ _ h => h) w.heap.size 1 rfl (Blk.new w 22 #[.slice A n c]) (by simp [Value.oneCell']) (by have := HLEN.out.1; simp; omega) (by have := HLT.out.1; simp; omega) ?_
       intro v1 w1 o1 g1
       obtain ⟨A1, c1, rfl⟩ := rowShape o1
       have O1 := Lib.hid o1
       have G1 := Lib.hid g1
       have k1 := Lib.hid (show Kp (fun k => (Value.slice AL nL cL).ownBlock = some k) w w1 from ((Kp.refl _ w).alloc _).trans (Kp.of_grown g1.1 fun _ e => e))
       have b1 := Lib.hid (K0.out.blk.kp k1.out (fun e => by have := (World.ownsRow.lt LV0.out g e).1; have := HLT.out.2; omega))
       have f1 := b1.out.free 0
       have d1 : w1.cell? ⟨g, 0, none⟩ = some (.slice AL nL cL) := by rw [b1.out.cell, HNL.out.1]; rfl
       have s1 := g1.1.size
       obtain ⟨m1, hm1⟩ : ∃ m, m = (rs.map Row.v ++ [Value.slice A n c]).length := ⟨_, rfl⟩
       rw [← hm1] at O1 G1 ⊢
       have M1 := Lib.hid hm1
       have Z1 := Lib.hid (show w.heap.size < w1.heap.size by simp at s1; omega)
       clear o1 g1 hm1 s1))
  have b2 := Lib.hid (show Blk (w1.setCell ⟨g, 0, none⟩ (.slice A1 m1 c1)) g 43 #[.slice A1 m1 c1, .slice AW nW cW] by rw [HNL.out.2]; exact b1.out.put 0 (.slice A1 m1 c1))
  have k2 := Lib.hid (show Kp (fun k => k = g ∨ (Value.slice AL nL cL).ownBlock = some k) w (w1.setCell ⟨g, 0, none⟩ (.slice A1 m1 c1)) from (k1.out.mono fun _ _ h => .inr h).setCell _ (.inl rfl) _)
  have k12 := Lib.hid (show Kp (fun k => k = g) w1 (w1.setCell ⟨g, 0, none⟩ (.slice A1 m1 c1)) from Kp.setCell (Kp.refl (fun k => k = g) w1) ⟨g, 0, none⟩ rfl _)
  have e2 := Lib.hid (show (w1.setCell ⟨g, 0, none⟩ (.slice A1 m1 c1)).heap.size = w1.heap.size by simp [World.setCell])
  generalize World.setCell w1 _ _ = w2 at b2 k2 k12 e2 ⊢
  clear f1 d1 c0
  have HA1 := Lib.hid (show ∀ k, (Value.slice A1 m1 c1).ownBlock = some k → B ≤ k ∧ k < w2.heap.size ∧ (Value.slice AW nW cW).ownBlock ≠ some k from fun k e => by
    have h1 := World.ownsRow.lt O1.out k e
    refine ⟨h1.1, by rw [e2.out]; exact h1.2, fun e' => ?_⟩
    have h2 := World.ownsRow.lt WV0.out k e'
    rcases G1.out.2 with h | h
    · rw [h] at e
      rw [HNL.out.1] at e
      rw [HNL.out.2] at e'
      exact K0.out.ne k e e'
    · rw [h] at e
      simp at e
      omega)
  have W2 := Lib.hid (rowKp WV0.out k2.out fun k e => by
    rintro (h | h)
    · have := (World.ownsRow.lt WV0.out k e).1
      have := HLT.out.2
      omega
    · rw [HNL.out.1] at h
      rw [HNL.out.2] at e
      exact K0.out.ne k h e)
  have L2 := Lib.hid (rowKp O1.out k12.out fun k e h => by
    have := (HA1.out k e).1
    have := HLT.out.2
    omega)
  have HBZ := Lib.hid (show B ≤ w2.heap.size by have := k2.out.size; have := HLT.out.1; omega)
  go_upto_region 1 with fail
  have F2 := Lib.hid (show Five w w2 from k2.out.five fun k cs fr hk h => by
    rcases h with rfl | h
    · have hz : w.heap[k]? = some (Obj.cells _ 43 (0, 0)) := K0.out.blk
      rw [hz] at hk
      injection hk with hk
      injection hk with _ h2 _
      exact absurd h2 (by decide)
    · obtain ⟨cs', h'⟩ := rowType LV0.out k h
      exact types_ne h' hk (by decide) rfl)
  refine wp_region_held_drew (S := fun _ => True) (by kernel_rfl) (by exact trivial) (fun hHeld => ?_)
  refine takeTo (i := 0) (v := ?_) (some 14) rfl rfl (by kernel_rfl) (by kernel_rfl) (by kernel_rfl) (fun _ _ _ h => h) (Or.inl ⟨by rfl, ?_⟩) (by assumption) ?_
  rotate_left
  · (intro W7 hSw; (try dsimp only at hSw); go_simp; try with_reducible rfl)
  try simp only [Act.put, List.setIfInBounds_toArray, List.set_cons_zero, List.set_cons_succ]
  refine takeTo (i := 1) (v := ?_) (some 15) rfl rfl (by kernel_rfl) (by kernel_rfl) (by kernel_rfl) (fun _ _ _ h => h) (Or.inl ⟨by rfl, ?_⟩) (by assumption) ?_
  rotate_left
  · (intro W7 hSw; (try dsimp only at hSw); go_simp; try with_reducible rfl)
  try simp only [Act.put, List.setIfInBounds_toArray, List.set_cons_zero, List.set_cons_succ]
  refine takeTo (i := 2) (v := ?_) (some 16) rfl rfl (by kernel_rfl) (by kernel_rfl) (by kernel_rfl) (fun _ _ _ h => h) (Or.inl ⟨by rfl, ?_⟩) (by assumption) ?_
  rotate_left
  · (intro W7 hSw; (try dsimp only at hSw); go_simp; try with_reducible rfl)
  try simp only [Act.put, List.setIfInBounds_toArray, List.set_cons_zero, List.set_cons_succ]
  refine takeTo (i := 3) (v := ?_) (some 17) rfl rfl (by kernel_rfl) (by kernel_rfl) (by kernel_rfl) (fun _ _ _ h => h) (Or.inl ⟨by rfl, ?_⟩) (by assumption) ?_
  rotate_left
  · (intro W7 hSw; (try dsimp only at hSw); go_simp; try with_reducible rfl)
  try simp only [Act.put, List.setIfInBounds_toArray, List.set_cons_zero, List.set_cons_succ]
  refine takeTo (i := 6) (v := ?_) (some 20) rfl rfl (by kernel_rfl) (by kernel_rfl) (by kernel_rfl) (fun _ _ _ h => h) (Or.inl ⟨by rfl, ?_⟩) (by assumption) ?_
  rotate_left
  · (intro W7 hSw; (try dsimp only at hSw); go_simp; try with_reducible rfl)
  try simp only [Act.put, List.setIfInBounds_toArray, List.set_cons_zero, List.set_cons_succ]
  refine wpAnyH_ready (rs := [4, 5]) (by kernel_rfl) (by simp) ?_
  refine AllReadyH.cons rfl (fun K hK => ?_) (AllReadyH.cons rfl (fun K hK => ?_) AllReadyH.nil)
  ·
    rw [if_pos (by rfl)]
    have s4 : World.cell? w2.drew ⟨g, 1, none⟩ = some (.slice AW nW cW) := (show Blk w2.drew g 43 _ from b2.out).cell 1
    go_wp2_with fail
    refine hK.out _ _ trivial (fun hHeld => ?_)
    clear hK K
    try simp only [Act.put, List.setIfInBounds_toArray, List.set_cons_zero, List.set_cons_succ]
    clear s4
    refine wpAnyH_ready (rs := [5]) (by kernel_rfl) (by simp) ?_
    refine AllReadyH.cons rfl (fun K hK => ?_) AllReadyH.nil
    rw [if_pos (by rfl)]
    go_wp2_with fail
    refine hK.out _ _ trivial (fun hHeld => ?_)
    clear hK K
    try simp only [Act.put, List.setIfInBounds_toArray, List.set_cons_zero, List.set_cons_succ]
    have b3 := Lib.hid (show Blk (w2.alloc (.cells #[] 5)).drew g 43 _ from b2.out.alloc _)
    have o3 := Lib.hid (show Owns (w2.alloc (.cells #[] 5)).drew B (.slice (some ⟨w2.heap.size, 0, none⟩) 0 0) [] from Owns.fresh w2 B HBZ.out)
    have k3 := Lib.hid (show Kp (fun _ => False) w2 (w2.alloc (.cells #[] 5)).drew from ((Kp.refl _ w2).alloc _).drew)
    generalize World.drew (w2.alloc _) = w3 at b3 o3 k3 ⊢
    refine wpAnyH_ready (rs := [7]) (by kernel_rfl) (by simp) ?_
    refine AllReadyH.cons rfl (fun K hK => ?_) AllReadyH.nil
    rw [if_pos (by rfl)]
    have R3 : Rd w3 w3.heap.size A l := ((HO.out.five F2.out).five (k3.out.five fun _ _ _ _ h => h)).reads
    refine wp_append_bytes (.tmp 19) (.tmp 20) rfl B (.slice (some ⟨w2.heap.size, 0, none⟩) 0 0) [] l rfl o3.out w3.heap.size A c (by rw [HN.out]; rfl) R3 (by have := HL.out; simp; omega) (Nat.le_trans HBZ.out k3.out.size) ?_
    intro A4 c4 w4 r4 q4 rc4 o4' g4'
    have q4' : r4 = l := q4.out
    subst q4'
    refine hK.out _ _ trivial (fun hHeld => ?_)
    clear hK K
    try simp only [Act.put, List.setIfInBounds_toArray, List.set_cons_zero, List.set_cons_succ]
    have b4 := Lib.hid (b3.out.kp (Kp.of_grown (S := fun k => k = w2.heap.size) g4'.1 (by intro k e; simp [Value.ownBlock] at e; exact e.symm)) (by have := b2.out.lt; omega))
    have k4 := Lib.hid (show Kp (fun k => k = w2.heap.size) w2 w4 from (k3.out.mono fun _ _ h => h.elim).trans (Kp.of_grown g4'.1 (by intro k e; simp [Value.ownBlock] at e; exact e.symm)))
    have o4 := Lib.hid o4'
    clear o4' g4' q4 rc4 R3
    refine wpAnyH_ready (rs := [8]) (by kernel_rfl) (by simp) ?_
    refine AllReadyH.cons rfl (fun K hK => ?_) AllReadyH.nil
    rw [if_pos (by rfl)]
    go_wp2_with fail
    refine hK.out _ _ trivial (fun hHeld => ?_)
    clear hK K
    try simp only [Act.put, List.setIfInBounds_toArray, List.set_cons_zero, List.set_cons_succ]
    have b5 := Lib.hid (show Blk (w4.alloc (.cells #[.slice A4 r4.length c4] 22)) g 43 _ from b4.out.alloc _)
    have k5 := Lib.hid (show Kp (fun k => k = w2.heap.size) w2 (w4.alloc (.cells #[.slice A4 r4.length c4] 22)) from k4.out.alloc _)
    have y5 := Lib.hid (Blk.new w4 22 #[.slice A4 r4.length c4])
    have o5 := Lib.hid (show Owns (w4.alloc (.cells #[.slice A4 r4.length c4] 22)) B (.slice A4 r4.length c4) r4 from World.ownsRow.alloc o4.out _)
    have e5 := Lib.hid (show w4.heap.size < (w4.alloc (.cells #[.slice A4 r4.length c4] 22)).heap.size by simp)
    generalize World.alloc w4 _ = w5 at b5 k5 y5 o5 e5 ⊢
    refine wpAnyH_ready (rs := [9]) (by kernel_rfl) (by simp) ?_
    refine AllReadyH.cons rfl (fun K hK => ?_) AllReadyH.nil
    rw [if_pos (by rfl)]
    have W5 := rowKp W2.out k5.out fun k e h => by
      have := (World.ownsRow.lt W2.out k e).2
      omega
    refine wp_append_sl (.tmp 18) (.tmp 22) rfl B (.slice AW nW cW) (ws.map Row.v) [.slice A4 r4.length c4] rfl W5 w4.heap.size 1 rfl y5.out (by simp [Value.oneCell']) (by have := HLEN.out.2; simp; omega) (Nat.le_trans HBZ.out k5.out.size) ?_
    intro v6 w6 o6' g6'
    obtain ⟨A6, c6, rfl⟩ := rowShape o6'
    have o6 := Lib.hid o6'
    have g6 := Lib.hid g6'
    obtain ⟨m6, hm6⟩ : ∃ m, m = (ws.map Row.v ++ [Value.slice A4 r4.length c4]).length := ⟨_, rfl⟩
    rw [← hm6] at o6 g6 ⊢
    have M6 := Lib.hid hm6
    clear hm6 o6' g6'
    refine hK.out _ _ trivial (fun hHeld => ?_)
    clear hK K
    try simp only [Act.put, List.setIfInBounds_toArray, List.set_cons_zero, List.set_cons_succ]
    have W5' := Lib.hid W5
    clear W5
    have b6 := Lib.hid (b5.out.kp (Kp.of_grown (S := fun k => (Value.slice AW nW cW).ownBlock = some k) g6.out.1 fun _ e => e) (fun e => by have := (World.ownsRow.lt W5'.out g e).1; have := HLT.out.2; omega))
    refine takeTo (i := 10) (v := ?_) (some 24) rfl rfl (by kernel_rfl) (by kernel_rfl) (by kernel_rfl) (fun _ _ _ h => h) (Or.inl ⟨by rfl, ?_⟩) (by assumption) ?_
    rotate_left
    · (intro W7 hSw; (try dsimp only at hSw); go_simp; try with_reducible rfl)
    try simp only [Act.put, List.setIfInBounds_toArray, List.set_cons_zero, List.set_cons_succ]
    refine takeTo (i := 11) (v := ?_) (some 25) rfl rfl (by kernel_rfl) (by kernel_rfl) (by kernel_rfl) (fun _ _ _ h => h) (Or.inl ⟨by rfl, ?_⟩) (by assumption) ?_
    rotate_left
    · (intro W7 hSw; (try dsimp only at hSw); go_simp; try with_reducible rfl)
    try simp only [Act.put, List.setIfInBounds_toArray, List.set_cons_zero, List.set_cons_succ]
    refine wpAnyH_ready (rs := [12]) (by kernel_rfl) (by simp) ?_
    refine AllReadyH.cons rfl (fun K hK => ?_) AllReadyH.nil
    rw [if_pos (by rfl)]
    have f6 := b6.out.free 1
    have d6 : w6.cell? ⟨g, 1, none⟩ = some (.slice AW nW cW) := b6.out.cell 1
    go_wp2_with fail
    refine hK.out _ _ trivial (fun hHeld => ?_)
    clear hK K
    try simp only [Act.put, List.setIfInBounds_toArray, List.set_cons_zero, List.set_cons_succ]
    clear f6 d6
    refine wpAnyH_done (by kernel_rfl) ?_ _
    go_wp2_with fail
    go_end0
    exact keep_post HLT.out.2 K0.out HO.out HL.out HAP.out HNL.out HLT.out.1 LV0.out WV0.out O1.out G1.out b2.out k2.out F2.out HA1.out W2.out L2.out HBZ.out k5.out o5.out b6.out o6.out g6.out M1.out M6.out HN.out rfl
  ·
    rw [if_pos (by rfl)]
    go_wp2_with fail
    refine hK.out _ _ trivial (fun hHeld => ?_)
    clear hK K
    try simp only [Act.put, List.setIfInBounds_toArray, List.set_cons_zero, List.set_cons_succ]
    have b3 := Lib.hid (show Blk (w2.alloc (.cells #[] 5)).drew g 43 _ from b2.out.alloc _)
    have o3 := Lib.hid (show Owns (w2.alloc (.cells #[] 5)).drew B (.slice (some ⟨w2.heap.size, 0, none⟩) 0 0) [] from Owns.fresh w2 B HBZ.out)
    have k3 := Lib.hid (show Kp (fun _ => False) w2 (w2.alloc (.cells #[] 5)).drew from ((Kp.refl _ w2).alloc _).drew)
    generalize World.drew (w2.alloc _) = w3 at b3 o3 k3 ⊢
    refine wpAnyH_ready (rs := [4, 7]) (by kernel_rfl) (by simp) ?_
    refine AllReadyH.cons rfl (fun K hK => ?_) (AllReadyH.cons rfl (fun K hK => ?_) AllReadyH.nil)
    ·
      rw [if_pos (by rfl)]
      have s4 : World.cell? w3 ⟨g, 1, none⟩ = some (.slice AW nW cW) := (show Blk w3 g 43 _ from b3.out).cell 1
      go_wp2_with fail
      refine hK.out _ _ trivial (fun hHeld => ?_)
      clear hK K
      try simp only [Act.put, List.setIfInBounds_toArray, List.set_cons_zero, List.set_cons_succ]
      clear s4
      refine wpAnyH_ready (rs := [7]) (by kernel_rfl) (by simp) ?_
      refine AllReadyH.cons rfl (fun K hK => ?_) AllReadyH.nil
      rw [if_pos (by rfl)]
      have R3 : Rd w3 w3.heap.size A l := ((HO.out.five F2.out).five (k3.out.five fun _ _ _ _ h => h)).reads
      refine wp_append_bytes (.tmp 19) (.tmp 20) rfl B (.slice (some ⟨w2.heap.size, 0, none⟩) 0 0) [] l rfl o3.out w3.heap.size A c (by rw [HN.out]; rfl) R3 (by have := HL.out; simp; omega) (Nat.le_trans HBZ.out k3.out.size) ?_
      intro A4 c4 w4 r4 q4 rc4 o4' g4'
      have q4' : r4 = l := q4.out
      subst q4'
      refine hK.out _ _ trivial (fun hHeld => ?_)
      clear hK K
      try simp only [Act.put, List.setIfInBounds_toArray, List.set_cons_zero, List.set_cons_succ]
      have b4 := Lib.hid (b3.out.kp (Kp.of_grown (S := fun k => k = w2.heap.size) g4'.1 (by intro k e; simp [Value.ownBlock] at e; exact e.symm)) (by have := b2.out.lt; omega))
      have k4 := Lib.hid (show Kp (fun k => k = w2.heap.size) w2 w4 from (k3.out.mono fun _ _ h => h.elim).trans (Kp.of_grown g4'.1 (by intro k e; simp [Value.ownBlock] at e; exact e.symm)))
      have o4 := Lib.hid o4'
      clear o4' g4' q4 rc4 R3
      refine wpAnyH_ready (rs := [8]) (by kernel_rfl) (by simp) ?_
      refine AllReadyH.cons rfl (fun K hK => ?_) AllReadyH.nil
      rw [if_pos (by rfl)]
      go_wp2_with fail
      refine hK.out _ _ trivial (fun hHeld => ?_)
      clear hK K
      try simp only [Act.put, List.setIfInBounds_toArray, List.set_cons_zero, List.set_cons_succ]
      have b5 := Lib.hid (show Blk (w4.alloc (.cells #[.slice A4 r4.length c4] 22)) g 43 _ from b4.out.alloc _)
      have k5 := Lib.hid (show Kp (fun k => k = w2.heap.size) w2 (w4.alloc (.cells #[.slice A4 r4.length c4] 22)) from k4.out.alloc _)
      have y5 := Lib.hid (Blk.new w4 22 #[.slice A4 r4.length c4])
      have o5 := Lib.hid (show Owns (w4.alloc (.cells #[.slice A4 r4.length c4] 22)) B (.slice A4 r4.length c4) r4 from World.ownsRow.alloc o4.out _)
      have e5 := Lib.hid (show w4.heap.size < (w4.alloc (.cells #[.slice A4 r4.length c4] 22)).heap.size by simp)
      generalize World.alloc w4 _ = w5 at b5 k5 y5 o5 e5 ⊢
      refine wpAnyH_ready (rs := [9]) (by kernel_rfl) (by simp) ?_
      refine AllReadyH.cons rfl (fun K hK => ?_) AllReadyH.nil
      rw [if_pos (by rfl)]
      have W5 := rowKp W2.out k5.out fun k e h => by
        have := (World.ownsRow.lt W2.out k e).2
        omega
      refine wp_append_sl (.tmp 18) (.tmp 22) rfl B (.slice AW nW cW) (ws.map Row.v) [.slice A4 r4.length c4] rfl W5 w4.heap.size 1 rfl y5.out (by simp [Value.oneCell']) (by have := HLEN.out.2; simp; omega) (Nat.le_trans HBZ.out k5.out.size) ?_
      intro v6 w6 o6' g6'
      obtain ⟨A6, c6, rfl⟩ := rowShape o6'
      have o6 := Lib.hid o6'
      have g6 := Lib.hid g6'
      obtain ⟨m6, hm6⟩ : ∃ m, m = (ws.map Row.v ++ [Value.slice A4 r4.length c4]).length := ⟨_, rfl⟩
      rw [← hm6] at o6 g6 ⊢
      have M6 := Lib.hid hm6
      clear hm6 o6' g6'
      refine hK.out _ _ trivial (fun hHeld => ?_)
      clear hK K
      try simp only [Act.put, List.setIfInBounds_toArray, List.set_cons_zero, List.set_cons_succ]
      have W5' := Lib.hid W5
      clear W5
      have b6 := Lib.hid (b5.out.kp (Kp.of_grown (S := fun k => (Value.slice AW nW cW).ownBlock = some k) g6.out.1 fun _ e => e) (fun e => by have := (World.ownsRow.lt W5'.out g e).1; have := HLT.out.2; omega))
      refine takeTo (i := 10) (v := ?_) (some 24) rfl rfl (by kernel_rfl) (by kernel_rfl) (by kernel_rfl) (fun _ _ _ h => h) (Or.inl ⟨by rfl, ?_⟩) (by assumption) ?_
      rotate_left
      · (intro W7 hSw; (try dsimp only at hSw); go_simp; try with_reducible rfl)
      try simp only [Act.put, List.setIfInBounds_toArray, List.set_cons_zero, List.set_cons_succ]
      refine takeTo (i := 11) (v := ?_) (some 25) rfl rfl (by kernel_rfl) (by kernel_rfl) (by kernel_rfl) (fun _ _ _ h => h) (Or.inl ⟨by rfl, ?_⟩) (by assumption) ?_
      rotate_left
      · (intro W7 hSw; (try dsimp only at hSw); go_simp; try with_reducible rfl)
      try simp only [Act.put, List.setIfInBounds_toArray, List.set_cons_zero, List.set_cons_succ]
      refine wpAnyH_ready (rs := [12]) (by kernel_rfl) (by simp) ?_
      refine AllReadyH.cons rfl (fun K hK => ?_) AllReadyH.nil
      rw [if_pos (by rfl)]
      have f6 := b6.out.free 1
      have d6 : w6.cell? ⟨g, 1, none⟩ = some (.slice AW nW cW) := b6.out.cell 1
      go_wp2_with fail
      refine hK.out _ _ trivial (fun hHeld => ?_)
      clear hK K
      try simp only [Act.put, List.setIfInBounds_toArray, List.set_cons_zero, List.set_cons_succ]
      clear f6 d6
      refine wpAnyH_done (by kernel_rfl) ?_ _
      go_wp2_with fail
      go_end0
      exact keep_post HLT.out.2 K0.out HO.out HL.out HAP.out HNL.out HLT.out.1 LV0.out WV0.out O1.out G1.out b2.out k2.out F2.out HA1.out W2.out L2.out HBZ.out k5.out o5.out b6.out o6.out g6.out M1.out M6.out HN.out rfl
    ·
      rw [if_pos (by rfl)]
      have R3 : Rd w3 w3.heap.size A l := ((HO.out.five F2.out).five (k3.out.five fun _ _ _ _ h => h)).reads
      refine wp_append_bytes (.tmp 19) (.tmp 20) rfl B (.slice (some ⟨w2.heap.size, 0, none⟩) 0 0) [] l rfl o3.out w3.heap.size A c (by rw [HN.out]; rfl) R3 (by have := HL.out; simp; omega) (Nat.le_trans HBZ.out k3.out.size) ?_
      intro A4 c4 w4 r4 q4 rc4 o4' g4'
      have q4' : r4 = l := q4.out
      subst q4'
      refine hK.out _ _ trivial (fun hHeld => ?_)
      clear hK K
      try simp only [Act.put, List.setIfInBounds_toArray, List.set_cons_zero, List.set_cons_succ]
      have b4 := Lib.hid (b3.out.kp (Kp.of_grown (S := fun k => k = w2.heap.size) g4'.1 (by intro k e; simp [Value.ownBlock] at e; exact e.symm)) (by have := b2.out.lt; omega))
      have k4 := Lib.hid (show Kp (fun k => k = w2.heap.size) w2 w4 from (k3.out.mono fun _ _ h => h.elim).trans (Kp.of_grown g4'.1 (by intro k e; simp [Value.ownBlock] at e; exact e.symm)))
      have o4 := Lib.hid o4'
      clear o4' g4' q4 rc4 R3
      refine wpAnyH_ready (rs := [4, 8]) (by kernel_rfl) (by simp) ?_
      refine AllReadyH.cons rfl (fun K hK => ?_) (AllReadyH.cons rfl (fun K hK => ?_) AllReadyH.nil)
      ·
        rw [if_pos (by rfl)]
        have s4 : World.cell? w4 ⟨g, 1, none⟩ = some (.slice AW nW cW) := (show Blk w4 g 43 _ from b4.out).cell 1
        go_wp2_with fail
        refine hK.out _ _ trivial (fun hHeld => ?_)
        clear hK K
        try simp only [Act.put, List.setIfInBounds_toArray, List.set_cons_zero, List.set_cons_succ]
        clear s4
        refine wpAnyH_ready (rs := [8]) (by kernel_rfl) (by simp) ?_
        refine AllReadyH.cons rfl (fun K hK => ?_) AllReadyH.nil
        rw [if_pos (by rfl)]
        go_wp2_with fail
        refine hK.out _ _ trivial (fun hHeld => ?_)
        clear hK K
        try simp only [Act.put, List.setIfInBounds_toArray, List.set_cons_zero, List.set_cons_succ]
        have b5 := Lib.hid (show Blk (w4.alloc (.cells #[.slice A4 r4.length c4] 22)) g 43 _ from b4.out.alloc _)
        have k5 := Lib.hid (show Kp (fun k => k = w2.heap.size) w2 (w4.alloc (.cells #[.slice A4 r4.length c4] 22)) from k4.out.alloc _)
        have y5 := Lib.hid (Blk.new w4 22 #[.slice A4 r4.length c4])
        have o5 := Lib.hid (show Owns (w4.alloc (.cells #[.slice A4 r4.length c4] 22)) B (.slice A4 r4.length c4) r4 from World.ownsRow.alloc o4.out _)
        have e5 := Lib.hid (show w4.heap.size < (w4.alloc (.cells #[.slice A4 r4.length c4] 22)).heap.size by simp)
        generalize World.alloc w4 _ = w5 at b5 k5 y5 o5 e5 ⊢
        refine wpAnyH_ready (rs := [9]) (by kernel_rfl) (by simp) ?_
        refine AllReadyH.cons rfl (fun K hK => ?_) AllReadyH.nil
        rw [if_pos (by rfl)]
        have W5 := rowKp W2.out k5.out fun k e h => by
          have := (World.ownsRow.lt W2.out k e).2
          omega
        refine wp_append_sl (.tmp 18) (.tmp 22) rfl B (.slice AW nW cW) (ws.map Row.v) [.slice A4 r4.length c4] rfl W5 w4.heap.size 1 rfl y5.out (by simp [Value.oneCell']) (by have := HLEN.out.2; simp; omega) (Nat.le_trans HBZ.out k5.out.size) ?_
        intro v6 w6 o6' g6'
        obtain ⟨A6, c6, rfl⟩ := rowShape o6'
        have o6 := Lib.hid o6'
        have g6 := Lib.hid g6'
        obtain ⟨m6, hm6⟩ : ∃ m, m = (ws.map Row.v ++ [Value.slice A4 r4.length c4]).length := ⟨_, rfl⟩
        rw [← hm6] at o6 g6 ⊢
        have M6 := Lib.hid hm6
        clear hm6 o6' g6'
        refine hK.out _ _ trivial (fun hHeld => ?_)
        clear hK K
        try simp only [Act.put, List.setIfInBounds_toArray, List.set_cons_zero, List.set_cons_succ]
        have W5' := Lib.hid W5
        clear W5
        have b6 := Lib.hid (b5.out.kp (Kp.of_grown (S := fun k => (Value.slice AW nW cW).ownBlock = some k) g6.out.1 fun _ e => e) (fun e => by have := (World.ownsRow.lt W5'.out g e).1; have := HLT.out.2; omega))
        refine takeTo (i := 10) (v := ?_) (some 24) rfl rfl (by kernel_rfl) (by kernel_rfl) (by kernel_rfl) (fun _ _ _ h => h) (Or.inl ⟨by rfl, ?_⟩) (by assumption) ?_
        rotate_left
        · (intro W7 hSw; (try dsimp only at hSw); go_simp; try with_reducible rfl)
        try simp only [Act.put, List.setIfInBounds_toArray, List.set_cons_zero, List.set_cons_succ]
        refine takeTo (i := 11) (v := ?_) (some 25) rfl rfl (by kernel_rfl) (by kernel_rfl) (by kernel_rfl) (fun _ _ _ h => h) (Or.inl ⟨by rfl, ?_⟩) (by assumption) ?_
        rotate_left
        · (intro W7 hSw; (try dsimp only at hSw); go_simp; try with_reducible rfl)
        try simp only [Act.put, List.setIfInBounds_toArray, List.set_cons_zero, List.set_cons_succ]
        refine wpAnyH_ready (rs := [12]) (by kernel_rfl) (by simp) ?_
        refine AllReadyH.cons rfl (fun K hK => ?_) AllReadyH.nil
        rw [if_pos (by rfl)]
        have f6 := b6.out.free 1
        have d6 : w6.cell? ⟨g, 1, none⟩ = some (.slice AW nW cW) := b6.out.cell 1
        go_wp2_with fail
        refine hK.out _ _ trivial (fun hHeld => ?_)
        clear hK K
        try simp only [Act.put, List.setIfInBounds_toArray, List.set_cons_zero, List.set_cons_succ]
        clear f6 d6
        refine wpAnyH_done (by kernel_rfl) ?_ _
        go_wp2_with fail
        go_end0
        exact keep_post HLT.out.2 K0.out HO.out HL.out HAP.out HNL.out HLT.out.1 LV0.out WV0.out O1.out G1.out b2.out k2.out F2.out HA1.out W2.out L2.out HBZ.out k5.out o5.out b6.out o6.out g6.out M1.out M6.out HN.out rfl
      ·
        rw [if_pos (by rfl)]
        go_wp2_with fail
        refine hK.out _ _ trivial (fun hHeld => ?_)
        clear hK K
        try simp only [Act.put, List.setIfInBounds_toArray, List.set_cons_zero, List.set_cons_succ]
        have b5 := Lib.hid (show Blk (w4.alloc (.cells #[.slice A4 r4.length c4] 22)) g 43 _ from b4.out.alloc _)
        have k5 := Lib.hid (show Kp (fun k => k = w2.heap.size) w2 (w4.alloc (.cells #[.slice A4 r4.length c4] 22)) from k4.out.alloc _)
        have y5 := Lib.hid (Blk.new w4 22 #[.slice A4 r4.length c4])
        have o5 := Lib.hid (show Owns (w4.alloc (.cells #[.slice A4 r4.length c4] 22)) B (.slice A4 r4.length c4) r4 from World.ownsRow.alloc o4.out _)
        have e5 := Lib.hid (show w4.heap.size < (w4.alloc (.cells #[.slice A4 r4.length c4] 22)).heap.size by simp)
        generalize World.alloc w4 _ = w5 at b5 k5 y5 o5 e5 ⊢
        refine wpAnyH_ready (rs := [4]) (by kernel_rfl) (by simp) ?_
        refine AllReadyH.cons rfl (fun K hK => ?_) AllReadyH.nil
        rw [if_pos (by rfl)]
        have s4 : World.cell? w5 ⟨g, 1, none⟩ = some (.slice AW nW cW) := (show Blk w5 g 43 _ from b5.out).cell 1
        go_wp2_with fail
        refine hK.out _ _ trivial (fun hHeld => ?_)
        clear hK K
        try simp only [Act.put, List.setIfInBounds_toArray, List.set_cons_zero, List.set_cons_succ]
        clear s4
        refine wpAnyH_ready (rs := [9]) (by kernel_rfl) (by simp) ?_
        refine AllReadyH.cons rfl (fun K hK => ?_) AllReadyH.nil
        rw [if_pos (by rfl)]
        have W5 := rowKp W2.out k5.out fun k e h => by
          have := (World.ownsRow.lt W2.out k e).2
          omega
        refine wp_append_sl (.tmp 18) (.tmp 22) rfl B (.slice AW nW cW) (ws.map Row.v) [.slice A4 r4.length c4] rfl W5 w4.heap.size 1 rfl y5.out (by simp [Value.oneCell']) (by have := HLEN.out.2; simp; omega) (Nat.le_trans HBZ.out k5.out.size) ?_
        intro v6 w6 o6' g6'
        obtain ⟨A6, c6, rfl⟩ := rowShape o6'
        have o6 := Lib.hid o6'
        have g6 := Lib.hid g6'
        obtain ⟨m6, hm6⟩ : ∃ m, m = (ws.map Row.v ++ [Value.slice A4 r4.length c4]).length := ⟨_, rfl⟩
        rw [← hm6] at o6 g6 ⊢
        have M6 := Lib.hid hm6
        clear hm6 o6' g6'
        refine hK.out _ _ trivial (fun hHeld => ?_)
        clear hK K
        try simp only [Act.put, List.setIfInBounds_toArray, List.set_cons_zero, List.set_cons_succ]
        have W5' := Lib.hid W5
        clear W5
        have b6 := Lib.hid (b5.out.kp (Kp.of_grown (S := fun k => (Value.slice AW nW cW).ownBlock = some k) g6.out.1 fun _ e => e) (fun e => by have := (World.ownsRow.lt W5'.out g e).1; have := HLT.out.2; omega))
        refine takeTo (i := 10) (v := ?_) (some 24) rfl rfl (by kernel_rfl) (by kernel_rfl) (by kernel_rfl) (fun _ _ _ h => h) (Or.inl ⟨by rfl, ?_⟩) (by assumption) ?_
        rotate_left
        · (intro W7 hSw; (try dsimp only at hSw); go_simp; try with_reducible rfl)
        try simp only [Act.put, List.setIfInBounds_toArray, List.set_cons_zero, List.set_cons_succ]
        refine takeTo (i := 11) (v := ?_) (some 25) rfl rfl (by kernel_rfl) (by kernel_rfl) (by kernel_rfl) (fun _ _ _ h => h) (Or.inl ⟨by rfl, ?_⟩) (by assumption) ?_
        rotate_left
        · (intro W7 hSw; (try dsimp only at hSw); go_simp; try with_reducible rfl)
        try simp only [Act.put, List.setIfInBounds_toArray, List.set_cons_zero, List.set_cons_succ]
        refine wpAnyH_ready (rs := [12]) (by kernel_rfl) (by simp) ?_
        refine AllReadyH.cons rfl (fun K hK => ?_) AllReadyH.nil
        rw [if_pos (by rfl)]
        have f6 := b6.out.free 1
        have d6 : w6.cell? ⟨g, 1, none⟩ = some (.slice AW nW cW) := b6.out.cell 1
        go_wp2_with fail
        refine hK.out _ _ trivial (fun hHeld => ?_)
        clear hK K
        try simp only [Act.put, List.setIfInBounds_toArray, List.set_cons_zero, List.set_cons_succ]
        clear f6 d6
        refine wpAnyH_done (by kernel_rfl) ?_ _
        go_wp2_with fail
        go_end0
        exact keep_post HLT.out.2 K0.out HO.out HL.out HAP.out HNL.out HLT.out.1 LV0.out WV0.out O1.out G1.out b2.out k2.out F2.out HA1.out W2.out L2.out HBZ.out k5.out o5.out b6.out o6.out g6.out M1.out M6.out HN.out rfl
end Go.Proofs.Ytofhdehigfdmkaa
