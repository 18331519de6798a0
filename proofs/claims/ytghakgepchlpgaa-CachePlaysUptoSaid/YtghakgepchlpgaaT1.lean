/- out and last of package cache, of lists: the walks (printed from those of ints). -/
import Derived.Test.YtghakgepchlpgaaC
namespace Go.Proofs.Ytghakgepchlpgaa.Sl
open Go.RowKit Go.Maps
open Ring (upd upd_same upd_other)
set_option maxHeartbeats 1000000 in
theorem out_int {TC : TypeId} {zx : Value} {w : World} {cb mb : Nat} {P hit miss : Int} {L : List Ent} {nx el : Nat → Nat} (h : Lk TC 80 zx w cb mb P hit miss L nx el) (e : Ent) (he : e ∈ L)
    (h1 : Node cb L (el e.b)) (h2 : Node cb L (nx e.b)) (n1 : el e.b ≠ e.b) (n2 : nx e.b ≠ e.b) :
    Calls Try.prog 45 #[.pointer (some ⟨e.b, 0, none⟩)] w fun r w' => r = .returned (.tuple #[]) ∧ Lk TC 80 zx w' cb mb P hit miss L (upd nx (el e.b) (nx e.b)) (upd el (nx e.b) (el e.b)) ∧ Kept (Node cb L) w w' := by
  have HL := Lib.hid h
  have HE := Lib.hid he
  have N1 := Lib.hid h1
  have N2 := Lib.hid h2
  have a1 : w.cell? ⟨el e.b, off cb (el e.b) + 4, none⟩ = some (ptr cb (nx (el e.b))) := h.nxCell h1
  have a2 : w.cell? ⟨nx e.b, off cb (nx e.b) + 3, none⟩ = some (ptr cb (el (nx e.b))) := h.elCell h2
  have f1 := h.thaw h1 (off cb (el e.b) + 4)
  have f2 := h.thaw h2 (off cb (nx e.b) + 3)
  have p3 := (h.place e he).2.cell 3
  have p4 := (h.place e he).2.cell 4
  rw [show (#[Value.int .i64 e.n, e.x, .int .i64 e.pin, ptr cb (el e.b), ptr cb (nx e.b)] : Array Value)[3]? = some (.pointer (some ⟨el e.b, off cb (el e.b), none⟩)) from rfl] at p3
  rw [show (#[Value.int .i64 e.n, e.x, .int .i64 e.pin, ptr cb (el e.b), ptr cb (nx e.b)] : Array Value)[4]? = some (.pointer (some ⟨nx e.b, off cb (nx e.b), none⟩)) from rfl] at p4
  obtain ⟨a, ha⟩ : ∃ a, a = el e.b := ⟨_, rfl⟩
  obtain ⟨oa, hoa⟩ : ∃ o, o = off cb (el e.b) := ⟨_, rfl⟩
  obtain ⟨c, hc⟩ : ∃ c, c = nx e.b := ⟨_, rfl⟩
  obtain ⟨oc, hoc⟩ : ∃ o, o = off cb (nx e.b) := ⟨_, rfl⟩
  rw [← hoa, ← ha] at a1 p3
  rw [← hoc, ← hc] at a2 p4
  rw [← hoa, ← ha] at f1
  rw [← hoc, ← hc] at f2
  rw [← ha] at n1
  rw [← hc] at n2
  have d1 : a = c → ¬ (oa + 4 = oc + 3) := fun e1 => by rw [hoa, hoc, ← ha, ← hc, e1]; omega
  have d2 : c = a → ¬ (oc + 3 = oa + 4) := fun e1 => by rw [hoa, hoc, ← ha, ← hc, e1]; omega
  have HA := Lib.hid (And.intro ha (And.intro hoa (And.intro hc hoc)))
  clear h he h1 h2 ha hoa hc hoc
  generalize ptr cb (nx (el e.b)) = v1 at a1
  generalize ptr cb (el (nx e.b)) = v2 at a2
  go_enter Try.func45, Try.ntmps45
  go_wp2_with fail
  refine wp_region_held_drew (S := fun W' => W'.cell? ⟨e.b, 3, none⟩ = some (.pointer (some ⟨a, oa, none⟩)) ∧ W'.cell? ⟨e.b, 4, none⟩ = some (.pointer (some ⟨c, oc, none⟩))) (by kernel_rfl) (by exact ⟨p3, p4⟩) (fun hHeld => ?_)
  change wpAnyH _ _ _ _ _ _ _ _ w.drew
  refine takeTo (i := 0) (v := ?_) (some 2) rfl rfl (by kernel_rfl) (by kernel_rfl) (by kernel_rfl) (fun _ _ _ h => h) (Or.inl ⟨by rfl, ?_⟩) (by assumption) ?_
  rotate_left
  · (intro W7 hSw; (try dsimp only at hSw); go_simp; try with_reducible rfl)
  try simp only [Act.put, List.setIfInBounds_toArray, List.set_cons_zero, List.set_cons_succ]
  refine takeTo (i := 1) (v := ?_) (some 3) rfl rfl (by kernel_rfl) (by kernel_rfl) (by kernel_rfl) (fun _ _ _ h => h) (Or.inl ⟨by rfl, ?_⟩) (by assumption) ?_
  rotate_left
  · (intro W7 hSw; (try dsimp only at hSw); go_simp; try with_reducible rfl)
  try simp only [Act.put, List.setIfInBounds_toArray, List.set_cons_zero, List.set_cons_succ]
  refine takeTo (i := 2) (v := ?_) (some 4) rfl rfl (by kernel_rfl) (by kernel_rfl) (by kernel_rfl) (fun _ _ _ h => h) (Or.inl ⟨by rfl, ?_⟩) (by assumption) ?_
  rotate_left
  · (intro W7 hSw; (try dsimp only at hSw); go_simp; try with_reducible rfl)
  try simp only [Act.put, List.setIfInBounds_toArray, List.set_cons_zero, List.set_cons_succ]
  refine takeTo (i := 3) (v := ?_) (some 5) rfl rfl (by kernel_rfl) (by kernel_rfl) (by kernel_rfl) (fun _ _ _ h => h) (Or.inl ⟨by rfl, ?_⟩) (by assumption) ?_
  rotate_left
  · (intro W7 hSw; (try dsimp only at hSw); go_simp; try with_reducible rfl)
  try simp only [Act.put, List.setIfInBounds_toArray, List.set_cons_zero, List.set_cons_succ]
  refine takeTo (i := 4) (v := ?_) (some 6) rfl rfl (by kernel_rfl) (by kernel_rfl) (by kernel_rfl) (fun _ _ _ h => h) (Or.inl ⟨by rfl, ?_⟩) (by assumption) ?_
  rotate_left
  · (intro W7 hSw; (try dsimp only at hSw); go_simp; try with_reducible rfl)
  try simp only [Act.put, List.setIfInBounds_toArray, List.set_cons_zero, List.set_cons_succ]
  refine takeTo (i := 5) (v := ?_) (some 7) rfl rfl (by kernel_rfl) (by kernel_rfl) (by kernel_rfl) (fun _ _ _ h => h) (Or.inl ⟨by rfl, ?_⟩) (by assumption) ?_
  rotate_left
  · (intro W7 hSw; (try dsimp only at hSw); go_simp; try with_reducible rfl)
  try simp only [Act.put, List.setIfInBounds_toArray, List.set_cons_zero, List.set_cons_succ]
  refine takeTo (i := 6) (v := ?_) (some 8) rfl rfl (by kernel_rfl) (by kernel_rfl) (by kernel_rfl) (fun _ _ _ h => h) (Or.inl ⟨by rfl, ?_⟩) (by assumption) ?_
  rotate_left
  · (intro W7 hSw; (try dsimp only at hSw); go_simp; try with_reducible rfl)
  try simp only [Act.put, List.setIfInBounds_toArray, List.set_cons_zero, List.set_cons_succ]
  refine takeTo (i := 7) (v := ?_) (some 9) rfl rfl (by kernel_rfl) (by kernel_rfl) (by kernel_rfl) (fun _ _ _ h => h) (Or.inl ⟨by rfl, ?_⟩) (by assumption) ?_
  rotate_left
  · (intro W7 hSw; (try dsimp only at hSw); go_simp; try with_reducible rfl)
  try simp only [Act.put, List.setIfInBounds_toArray, List.set_cons_zero, List.set_cons_succ]
  refine takeTo (i := 8) (v := ?_) (some 10) rfl rfl (by kernel_rfl) (by kernel_rfl) (by kernel_rfl) (fun _ _ _ h => h) (Or.inl ⟨by rfl, ?_⟩) (by assumption) ?_
  rotate_left
  · (intro W7 hSw; (try dsimp only at hSw); go_simp; try with_reducible rfl)
  try simp only [Act.put, List.setIfInBounds_toArray, List.set_cons_zero, List.set_cons_succ]
  refine takeTo (i := 9) (v := ?_) (some 11) rfl rfl (by kernel_rfl) (by kernel_rfl) (by kernel_rfl) (fun _ _ _ h => h) (Or.inl ⟨by rfl, ?_⟩) (by assumption) ?_
  rotate_left
  · (intro W7 hSw; (try dsimp only at hSw); go_simp; try with_reducible rfl)
  try simp only [Act.put, List.setIfInBounds_toArray, List.set_cons_zero, List.set_cons_succ]
  refine takeTo (i := 10) (v := ?_) (some 12) rfl rfl (by kernel_rfl) (by kernel_rfl) (by kernel_rfl) (fun _ _ _ h => h) (Or.inl ⟨by rfl, ?_⟩) (by assumption) ?_
  rotate_left
  · (intro W7 hSw; (try dsimp only at hSw); go_simp; try with_reducible rfl)
  try simp only [Act.put, List.setIfInBounds_toArray, List.set_cons_zero, List.set_cons_succ]
  refine takeTo (i := 11) (v := ?_) (some 13) rfl rfl (by kernel_rfl) (by kernel_rfl) (by kernel_rfl) (fun _ _ _ h => h) (Or.inl ⟨by rfl, ?_⟩) (by assumption) ?_
  rotate_left
  · (intro W7 hSw; (try dsimp only at hSw); go_simp; try with_reducible rfl)
  try simp only [Act.put, List.setIfInBounds_toArray, List.set_cons_zero, List.set_cons_succ]
  refine takeTo (i := 12) (v := ?_) (some 14) rfl rfl (by kernel_rfl) (by kernel_rfl) (by kernel_rfl) (fun _ _ _ h => h) (Or.inl ⟨by rfl, ?_⟩) (by assumption) ?_
  rotate_left
  · (intro W7 hSw; (try dsimp only at hSw); go_simp; try with_reducible rfl)
  try simp only [Act.put, List.setIfInBounds_toArray, List.set_cons_zero, List.set_cons_succ]
  refine takeTo (i := 13) (v := ?_) (some 15) rfl rfl (by kernel_rfl) (by kernel_rfl) (by kernel_rfl) (fun _ _ _ h => h) (Or.inl ⟨by rfl, ?_⟩) (by assumption) ?_
  rotate_left
  · (intro W7 hSw; (try dsimp only at hSw); go_simp; try with_reducible rfl)
  try simp only [Act.put, List.setIfInBounds_toArray, List.set_cons_zero, List.set_cons_succ]
  refine takeTo (i := 14) (v := ?_) (some 16) rfl rfl (by kernel_rfl) (by kernel_rfl) (by kernel_rfl) (fun _ _ _ h => h) (Or.inl ⟨by rfl, ?_⟩) (by assumption) ?_
  rotate_left
  · (intro W7 hSw; (try dsimp only at hSw); go_simp; try with_reducible rfl)
  try simp only [Act.put, List.setIfInBounds_toArray, List.set_cons_zero, List.set_cons_succ]
  refine takeTo (i := 15) (v := ?_) (some 17) rfl rfl (by kernel_rfl) (by kernel_rfl) (by kernel_rfl) (fun _ _ _ h => h) (Or.inl ⟨by rfl, ?_⟩) (by assumption) ?_
  rotate_left
  · (intro W7 hSw; (try dsimp only at hSw); go_simp; try with_reducible rfl)
  try simp only [Act.put, List.setIfInBounds_toArray, List.set_cons_zero, List.set_cons_succ]
  refine takeTo (i := 16) (v := ?_) (some 18) rfl rfl (by kernel_rfl) (by kernel_rfl) (by kernel_rfl) (fun _ _ _ h => h) (Or.inl ⟨by rfl, ?_⟩) (by assumption) ?_
  rotate_left
  · (intro W7 hSw; (try dsimp only at hSw); go_simp; try with_reducible rfl)
  try simp only [Act.put, List.setIfInBounds_toArray, List.set_cons_zero, List.set_cons_succ]
  refine takeTo (i := 17) (v := ?_) (some 19) rfl rfl (by kernel_rfl) (by kernel_rfl) (by kernel_rfl) (fun _ _ _ h => h) (Or.inl ⟨by rfl, ?_⟩) (by assumption) ?_
  rotate_left
  · (intro W7 hSw; (try dsimp only at hSw); go_simp; try with_reducible rfl)
  try simp only [Act.put, List.setIfInBounds_toArray, List.set_cons_zero, List.set_cons_succ]
  refine wpAnyH_ready (rs := [18]) (by kernel_rfl) (by simp) ?_
  refine AllReadyH.cons rfl (fun K hK => ?_) AllReadyH.nil
  rw [if_pos (by rfl)]
  go_wp2_with fail
  have L1 := HL.out.setNx N1.out (nx e.b)
  rw [show ptr cb (nx e.b) = .pointer (some ⟨nx e.b, off cb (nx e.b), none⟩) from rfl, ← HA.out.2.1, ← HA.out.1, ← HA.out.2.2.2, ← HA.out.2.2.1] at L1
  have K1 := Lib.hid (((Kept.refl (Node cb L) w).setCell (p := ⟨a, oa + 4, none⟩) (show Node cb L a by rw [HA.out.1]; exact N1.out) (.pointer (some ⟨c, oc, none⟩))).drew)
  have L1' : Lk TC 80 zx (w.setCell ⟨a, oa + 4, none⟩ (.pointer (some ⟨c, oc, none⟩))).drew cb mb P hit miss L (upd nx a c) el := ⟨L1.cache, L1.place, L1.inj⟩
  generalize World.drew (World.setCell _ _ _) = W1 at K1 L1' ⊢
  have q3 := (L1'.place e HE.out).2.cell 3
  have q4 := (L1'.place e HE.out).2.cell 4
  rw [show (#[Value.int .i64 e.n, e.x, .int .i64 e.pin, ptr cb (el e.b), ptr cb (upd nx a c e.b)] : Array Value)[3]? = some (.pointer (some ⟨el e.b, off cb (el e.b), none⟩)) from rfl, ← HA.out.2.1, ← HA.out.1] at q3
  rw [show (#[Value.int .i64 e.n, e.x, .int .i64 e.pin, ptr cb (el e.b), ptr cb (upd nx a c e.b)] : Array Value)[4]? = some (ptr cb (upd nx a c e.b)) from rfl, upd_other _ _ _ (Ne.symm n1), show ptr cb (nx e.b) = .pointer (some ⟨nx e.b, off cb (nx e.b), none⟩) from rfl, ← HA.out.2.2.2, ← HA.out.2.2.1] at q4
  have a2' := L1'.elCell N2.out
  have f2' := L1'.thaw N2.out (off cb (nx e.b) + 3)
  rw [← HA.out.2.2.2, ← HA.out.2.2.1] at a2' f2'
  generalize ptr cb (el c) = v3 at a2'
  have HL1 := Lib.hid L1'
  clear L1 L1' a1 a2 f1 f2 p3 p4
  refine hK.out _ _ ⟨q3, q4⟩ (fun hHeld2 => ?_)
  clear hK K
  try simp only [Act.put, List.setIfInBounds_toArray, List.set_cons_zero, List.set_cons_succ]
  refine takeTo (i := 19) (v := ?_) (some 20) rfl rfl (by kernel_rfl) (by kernel_rfl) (by kernel_rfl) (fun _ _ _ h => h) (Or.inl ⟨by rfl, ?_⟩) hHeld2 ?_
  rotate_left
  · (intro W7 hSw; (try dsimp only at hSw); go_simp; try with_reducible rfl)
  try simp only [Act.put, List.setIfInBounds_toArray, List.set_cons_zero, List.set_cons_succ]
  refine takeTo (i := 20) (v := ?_) (some 21) rfl rfl (by kernel_rfl) (by kernel_rfl) (by kernel_rfl) (fun _ _ _ h => h) (Or.inl ⟨by rfl, ?_⟩) hHeld2 ?_
  rotate_left
  · (intro W7 hSw; (try dsimp only at hSw); go_simp; try with_reducible rfl)
  try simp only [Act.put, List.setIfInBounds_toArray, List.set_cons_zero, List.set_cons_succ]
  refine wpAnyH_ready (rs := [21]) (by kernel_rfl) (by simp) ?_
  refine AllReadyH.cons rfl (fun K hK => ?_) AllReadyH.nil
  rw [if_pos (by rfl)]
  go_wp2_with fail
  have L2 := HL1.out.setEl N2.out (el e.b)
  rw [show ptr cb (el e.b) = .pointer (some ⟨el e.b, off cb (el e.b), none⟩) from rfl, ← HA.out.2.1, ← HA.out.1, ← HA.out.2.2.2, ← HA.out.2.2.1] at L2
  have K2 := Lib.hid (K1.out.setCell (p := ⟨c, oc + 3, none⟩) (show Node cb L c by rw [HA.out.2.2.1]; exact N2.out) (.pointer (some ⟨a, oa, none⟩)))
  have q3' := (L2.place e HE.out).2.cell 3
  have q4' := (L2.place e HE.out).2.cell 4
  rw [show (#[Value.int .i64 e.n, e.x, .int .i64 e.pin, ptr cb (upd el c a e.b), ptr cb (upd nx a c e.b)] : Array Value)[3]? = some (ptr cb (upd el c a e.b)) from rfl, upd_other _ _ _ (Ne.symm n2), show ptr cb (el e.b) = .pointer (some ⟨el e.b, off cb (el e.b), none⟩) from rfl, ← HA.out.2.1, ← HA.out.1] at q3'
  rw [show (#[Value.int .i64 e.n, e.x, .int .i64 e.pin, ptr cb (upd el c a e.b), ptr cb (upd nx a c e.b)] : Array Value)[4]? = some (ptr cb (upd nx a c e.b)) from rfl, upd_other _ _ _ (Ne.symm n1), show ptr cb (nx e.b) = .pointer (some ⟨nx e.b, off cb (nx e.b), none⟩) from rfl, ← HA.out.2.2.2, ← HA.out.2.2.1] at q4'
  refine hK.out _ _ ⟨q3', q4'⟩ (fun hHeld3 => ?_)
  clear hK K
  try simp only [Act.put, List.setIfInBounds_toArray, List.set_cons_zero, List.set_cons_succ]
  refine wpAnyH_done (by kernel_rfl) ?_ _
  go_wp2_with fail
  go_end0
  exact ⟨rfl, by rw [← HA.out.1, ← HA.out.2.2.1]; exact L2, K2.out⟩
set_option maxHeartbeats 1000000 in
/-- last: a place, of whatever links, is put behind all others -/
theorem last_int {zx : Value} {w : World} {cb mb : Nat} {P hit miss : Int} {L : List Ent} {nx el : Nat → Nat} (h : Lk 82 80 zx w cb mb P hit miss L nx el) (e : Ent) (y3 y4 : Value) (he : Blk w e.b 80 #[.int .i64 e.n, e.x, .int .i64 e.pin, y3, y4])
    (hcb : e.b ≠ cb) (hbn : e.b ∉ L.map (·.b)) (h1 : Node cb L (el cb)) :
    Calls Try.prog 46 #[.pointer (some ⟨cb, 0, none⟩), .pointer (some ⟨e.b, 0, none⟩)] w fun r w' => r = .returned (.tuple #[]) ∧
      Lk 82 80 zx w' cb mb P hit miss (L ++ [e]) (upd (upd nx e.b cb) (el cb) e.b) (upd (upd el e.b (el cb)) cb e.b) ∧ Kept (fun k => k = e.b ∨ Node cb L k) w w' := by
  have HL := Lib.hid h
  have HE := Lib.hid he
  have N1 := Lib.hid h1
  have HBN := Lib.hid hbn
  have r5 := h.elCell (q := cb) (.inl rfl)
  have p3 := he.cell 3
  have f3 := he.free 3
  rw [show (#[Value.int .i64 e.n, e.x, .int .i64 e.pin, y3, y4] : Array Value)[3]? = some y3 from rfl] at p3
  rw [off_cb, show ptr cb (el cb) = .pointer (some ⟨el cb, off cb (el cb), none⟩) from rfl] at r5
  obtain ⟨a, ha⟩ : ∃ a, a = el cb := ⟨_, rfl⟩
  obtain ⟨oa, hoa⟩ : ∃ o, o = off cb (el cb) := ⟨_, rfl⟩
  rw [← hoa, ← ha] at r5
  have HA := Lib.hid (And.intro ha hoa)
  have HCB := Lib.hid hcb
  have HO := Lib.hid (fun q (hq : Node cb L q) (e2 : q = e.b) => by
    rcases hq with h | ⟨x, hx, h⟩
    · exact hcb (e2.symm.trans h)
    · exact hbn (List.mem_map.2 ⟨x, hx, h.trans e2⟩) : ∀ q, Node cb L q → ¬ q = e.b)
  clear h he h1 ha hoa hbn
  go_enter Try.func46, Try.ntmps46
  go_wp2_with fail
  refine wp_region_held_drew (S := fun W' => W'.cell? ⟨cb, 5, none⟩ = some (.pointer (some ⟨a, oa, none⟩))) (by kernel_rfl) (by exact r5) (fun hHeld => ?_)
  change wpAnyH _ _ _ _ _ _ _ _ w.drew
  refine takeTo (i := 0) (v := ?_) (some 4) rfl rfl (by kernel_rfl) (by kernel_rfl) (by kernel_rfl) (fun _ _ _ h => h) (Or.inl ⟨by rfl, ?_⟩) (by assumption) ?_
  rotate_left
  · (intro W7 hSw; (try dsimp only at hSw); go_simp; try with_reducible rfl)
  try simp only [Act.put, List.setIfInBounds_toArray, List.set_cons_zero, List.set_cons_succ]
  refine takeTo (i := 1) (v := ?_) (some 5) rfl rfl (by kernel_rfl) (by kernel_rfl) (by kernel_rfl) (fun _ _ _ h => h) (Or.inl ⟨by rfl, ?_⟩) (by assumption) ?_
  rotate_left
  · (intro W7 hSw; (try dsimp only at hSw); go_simp; try with_reducible rfl)
  try simp only [Act.put, List.setIfInBounds_toArray, List.set_cons_zero, List.set_cons_succ]
  refine takeTo (i := 2) (v := ?_) (some 6) rfl rfl (by kernel_rfl) (by kernel_rfl) (by kernel_rfl) (fun _ _ _ h => h) (Or.inl ⟨by rfl, ?_⟩) (by assumption) ?_
  rotate_left
  · (intro W7 hSw; (try dsimp only at hSw); go_simp; try with_reducible rfl)
  try simp only [Act.put, List.setIfInBounds_toArray, List.set_cons_zero, List.set_cons_succ]
  refine takeTo (i := 3) (v := ?_) (some 7) rfl rfl (by kernel_rfl) (by kernel_rfl) (by kernel_rfl) (fun _ _ _ h => h) (Or.inl ⟨by rfl, ?_⟩) (by assumption) ?_
  rotate_left
  · (intro W7 hSw; (try dsimp only at hSw); go_simp; try with_reducible rfl)
  try simp only [Act.put, List.setIfInBounds_toArray, List.set_cons_zero, List.set_cons_succ]
  refine takeTo (i := 4) (v := ?_) (some 8) rfl rfl (by kernel_rfl) (by kernel_rfl) (by kernel_rfl) (fun _ _ _ h => h) (Or.inl ⟨by rfl, ?_⟩) (by assumption) ?_
  rotate_left
  · (intro W7 hSw; (try dsimp only at hSw); go_simp; try with_reducible rfl)
  try simp only [Act.put, List.setIfInBounds_toArray, List.set_cons_zero, List.set_cons_succ]
  refine takeTo (i := 5) (v := ?_) (some 9) rfl rfl (by kernel_rfl) (by kernel_rfl) (by kernel_rfl) (fun _ _ _ h => h) (Or.inl ⟨by rfl, ?_⟩) (by assumption) ?_
  rotate_left
  · (intro W7 hSw; (try dsimp only at hSw); go_simp; try with_reducible rfl)
  try simp only [Act.put, List.setIfInBounds_toArray, List.set_cons_zero, List.set_cons_succ]
  refine takeTo (i := 6) (v := ?_) (some 10) rfl rfl (by kernel_rfl) (by kernel_rfl) (by kernel_rfl) (fun _ _ _ h => h) (Or.inl ⟨by rfl, ?_⟩) (by assumption) ?_
  rotate_left
  · (intro W7 hSw; (try dsimp only at hSw); go_simp; try with_reducible rfl)
  try simp only [Act.put, List.setIfInBounds_toArray, List.set_cons_zero, List.set_cons_succ]
  refine takeTo (i := 7) (v := ?_) (some 11) rfl rfl (by kernel_rfl) (by kernel_rfl) (by kernel_rfl) (fun _ _ _ h => h) (Or.inl ⟨by rfl, ?_⟩) (by assumption) ?_
  rotate_left
  · (intro W7 hSw; (try dsimp only at hSw); go_simp; try with_reducible rfl)
  try simp only [Act.put, List.setIfInBounds_toArray, List.set_cons_zero, List.set_cons_succ]
  refine takeTo (i := 8) (v := ?_) (some 12) rfl rfl (by kernel_rfl) (by kernel_rfl) (by kernel_rfl) (fun _ _ _ h => h) (Or.inl ⟨by rfl, ?_⟩) (by assumption) ?_
  rotate_left
  · (intro W7 hSw; (try dsimp only at hSw); go_simp; try with_reducible rfl)
  try simp only [Act.put, List.setIfInBounds_toArray, List.set_cons_zero, List.set_cons_succ]
  refine takeTo (i := 9) (v := ?_) (some 13) rfl rfl (by kernel_rfl) (by kernel_rfl) (by kernel_rfl) (fun _ _ _ h => h) (Or.inl ⟨by rfl, ?_⟩) (by assumption) ?_
  rotate_left
  · (intro W7 hSw; (try dsimp only at hSw); go_simp; try with_reducible rfl)
  try simp only [Act.put, List.setIfInBounds_toArray, List.set_cons_zero, List.set_cons_succ]
  refine takeTo (i := 10) (v := ?_) (some 14) rfl rfl (by kernel_rfl) (by kernel_rfl) (by kernel_rfl) (fun _ _ _ h => h) (Or.inl ⟨by rfl, ?_⟩) (by assumption) ?_
  rotate_left
  · (intro W7 hSw; (try dsimp only at hSw); go_simp; try with_reducible rfl)
  try simp only [Act.put, List.setIfInBounds_toArray, List.set_cons_zero, List.set_cons_succ]
  refine takeTo (i := 11) (v := ?_) (some 15) rfl rfl (by kernel_rfl) (by kernel_rfl) (by kernel_rfl) (fun _ _ _ h => h) (Or.inl ⟨by rfl, ?_⟩) (by assumption) ?_
  rotate_left
  · (intro W7 hSw; (try dsimp only at hSw); go_simp; try with_reducible rfl)
  try simp only [Act.put, List.setIfInBounds_toArray, List.set_cons_zero, List.set_cons_succ]
  refine wpAnyH_ready (rs := [12]) (by kernel_rfl) (by simp) ?_
  refine AllReadyH.cons rfl (fun K hK => ?_) AllReadyH.nil
  rw [if_pos (by rfl)]
  go_wp2_with fail
  have E1 : Blk (w.setCell ⟨e.b, 3, none⟩ (.pointer (some ⟨a, oa, none⟩))).drew e.b 80 #[.int .i64 e.n, e.x, .int .i64 e.pin, .pointer (some ⟨a, oa, none⟩), y4] := HE.out.put 3 (.pointer (some ⟨a, oa, none⟩))
  have K1 : Kept (fun k => k = e.b) w (w.setCell ⟨e.b, 3, none⟩ (.pointer (some ⟨a, oa, none⟩))).drew := ((Kept.refl (fun k => k = e.b) w).setCell (p := ⟨e.b, 3, none⟩) rfl _).drew
  have HK1 := Lib.hid K1
  have L1 := HL.out.kept K1 HO.out
  generalize World.drew (World.setCell _ _ _) = W1 at E1 L1 HK1 ⊢
  have r5' := L1.elCell (q := cb) (.inl rfl)
  rw [off_cb, show ptr cb (el cb) = .pointer (some ⟨el cb, off cb (el cb), none⟩) from rfl, ← HA.out.2, ← HA.out.1] at r5'
  have p4 := E1.cell 4
  rw [show (#[Value.int .i64 e.n, e.x, .int .i64 e.pin, .pointer (some ⟨a, oa, none⟩), y4] : Array Value)[4]? = some y4 from rfl] at p4
  have f4 := E1.free 4
  have HL1 := Lib.hid (And.intro L1 E1)
  clear L1 E1 K1 r5 p3 f3
  refine hK.out _ _ r5' (fun hHeld2 => ?_)
  clear hK K
  try simp only [Act.put, List.setIfInBounds_toArray, List.set_cons_zero, List.set_cons_succ]
  refine takeTo (i := 13) (v := ?_) (some 16) rfl rfl (by kernel_rfl) (by kernel_rfl) (by kernel_rfl) (fun _ _ _ h => h) (Or.inl ⟨by rfl, ?_⟩) hHeld2 ?_
  rotate_left
  · (intro W7 hSw; (try dsimp only at hSw); go_simp; try with_reducible rfl)
  try simp only [Act.put, List.setIfInBounds_toArray, List.set_cons_zero, List.set_cons_succ]
  refine takeTo (i := 14) (v := ?_) (some 17) rfl rfl (by kernel_rfl) (by kernel_rfl) (by kernel_rfl) (fun _ _ _ h => h) (Or.inl ⟨by rfl, ?_⟩) hHeld2 ?_
  rotate_left
  · (intro W7 hSw; (try dsimp only at hSw); go_simp; try with_reducible rfl)
  try simp only [Act.put, List.setIfInBounds_toArray, List.set_cons_zero, List.set_cons_succ]
  refine wpAnyH_ready (rs := [15]) (by kernel_rfl) (by simp) ?_
  refine AllReadyH.cons rfl (fun K hK => ?_) AllReadyH.nil
  rw [if_pos (by rfl)]
  go_wp2_with fail
  have E2 : Blk (W1.setCell ⟨e.b, 4, none⟩ (.pointer (some ⟨cb, 2, none⟩))) e.b 80 #[.int .i64 e.n, e.x, .int .i64 e.pin, .pointer (some ⟨a, oa, none⟩), .pointer (some ⟨cb, 2, none⟩)] := HL1.out.2.put 4 _
  have K2 : Kept (fun k => k = e.b) W1 (W1.setCell ⟨e.b, 4, none⟩ (.pointer (some ⟨cb, 2, none⟩))) := (Kept.refl (fun k => k = e.b) W1).setCell (p := ⟨e.b, 4, none⟩) rfl _
  have HK2 := Lib.hid (HK1.out.trans K2)
  have L2' := HL1.out.1.kept K2 HO.out
  generalize World.setCell W1 _ _ = W2 at E2 L2' HK2 ⊢
  have L2 : Lk 82 80 zx W2 cb mb P hit miss (L ++ [e]) (upd nx e.b cb) (upd el e.b (el cb)) := L2'.add e HCB.out HBN.out (el cb) cb (by
    rw [show ptr cb (el cb) = .pointer (some ⟨el cb, off cb (el cb), none⟩) from rfl, ← HA.out.2, ← HA.out.1, show ptr cb cb = .pointer (some ⟨cb, off cb cb, none⟩) from rfl, off_cb]; exact E2)
  have NE : Node cb (L ++ [e]) e.b := .inr ⟨e, by simp, rfl⟩
  have OE := off_ne HCB.out
  have r5'' := L2'.elCell (q := cb) (.inl rfl)
  rw [off_cb, show ptr cb (el cb) = .pointer (some ⟨el cb, off cb (el cb), none⟩) from rfl, ← HA.out.2, ← HA.out.1] at r5''
  have p3 := E2.cell 3
  rw [show (#[Value.int .i64 e.n, e.x, .int .i64 e.pin, .pointer (some ⟨a, oa, none⟩), .pointer (some ⟨cb, 2, none⟩)] : Array Value)[3]? = some (.pointer (some ⟨a, oa, none⟩)) from rfl] at p3
  have N1' : Node cb (L ++ [e]) a := by rw [HA.out.1]; exact N1.out.imp id (fun ⟨x, hx, hb⟩ => ⟨x, by simp [hx], hb⟩)
  have a4 := L2.nxCell N1'
  rw [show off cb a = oa by rw [HA.out.2, HA.out.1]] at a4
  have fa := L2.thaw N1' (oa + 4)
  generalize ptr cb (upd nx e.b cb a) = v5 at a4
  have L3 := (L2.setNx N1' e.b)
  rw [show off cb a = oa by rw [HA.out.2, HA.out.1], show ptr cb e.b = .pointer (some ⟨e.b, off cb e.b, none⟩) from rfl, OE] at L3
  have c5 := L3.elCell (q := cb) (.inl rfl)
  rw [off_cb] at c5
  have c5f := L3.thaw (q := cb) (.inl rfl) 5
  generalize ptr cb (upd el e.b (el cb) cb) = v6 at c5
  have HL3 := Lib.hid L3
  have HOE := Lib.hid OE
  clear L3 L2 L2' E2 K2 r5' p4 f4 OE
  refine hK.out _ _ r5'' (fun hHeld3 => ?_)
  clear hK K
  try simp only [Act.put, List.setIfInBounds_toArray, List.set_cons_zero, List.set_cons_succ]
  refine wpAnyH_done (by kernel_rfl) ?_ _
  go_wp2_with fail
  go_end0
  have L4 := HL3.out.setEl (q := cb) (.inl rfl) e.b
  rw [off_cb, show ptr cb e.b = .pointer (some ⟨e.b, off cb e.b, none⟩) from rfl, HOE.out] at L4
  have sub : ∀ q, Node cb (L ++ [e]) q → q = e.b ∨ Node cb L q := fun q hq => by
    rcases hq with h | ⟨x, hx, h⟩
    · exact .inr (.inl h)
    · rcases List.mem_append.1 hx with hx | hx
      · exact .inr (.inr ⟨x, hx, h⟩)
      · obtain rfl := List.mem_singleton.1 hx
        exact .inl h.symm
  refine ⟨rfl, by rw [← HA.out.1] at L4 ⊢; exact L4, ((HK2.out.mono (fun k _ h => .inl h)).setCell (p := ⟨a, oa + 4, none⟩) (sub _ N1') _).setCell (p := ⟨cb, 5, none⟩) (.inr (.inl rfl)) _⟩
end Go.Proofs.Ytghakgepchlpgaa.Sl
