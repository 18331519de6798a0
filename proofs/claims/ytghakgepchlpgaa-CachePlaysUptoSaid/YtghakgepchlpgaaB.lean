/- out and last of package cache: the walks. -/
import Derived.Test.YtghakgepchlpgaaA
import Derived.BigQuiet
import Derived.Deep.QuietTactic
import Derived.Deep.RegionHeld3
import Derived.RegionCalls
namespace Go.Proofs.Ytghakgepchlpgaa
open Go.RowKit Go.Maps
open Ring (upd upd_same upd_other)
/-- an operation of a region taken first, its temporary by number -/
theorem takeTo {P : Program} {md : Region.Mode} {ops : Array Oper} {Q : Exit → Act → World → Prop} {S : World → Prop} {i : Nat} {oi : Oper} {v : Value} {fuel : Nat} {listed : Array Bool} {a : Act} {w : World} (d : Option Tmp) (hi : ops[i]? = some oi) (hd : oi.dst = d)
    (hs : Region.noSelect ops = true) (hf : Region.free md ops listed i = true) (hr : (Region.ready md ops listed).contains i = true)
    (hQ : ∀ c a w, Q (.panic c) (a.put d v) w → Q (.panic c) a w) (hy : YieldsIf P ops S oi v a) (hS : S w)
    (h : wpAnyH P md ops Q S fuel (listed.setIfInBounds i true) (a.put d v) w) : wpAnyH P md ops Q S (fuel + 1) listed a w := by
  subst hd
  exact wpAnyH_take hi hs hf hr hQ hy hS h
set_option maxHeartbeats 1000000 in
theorem out_int {TC : TypeId} {zx : Value} {w : World} {cb mb : Nat} {P hit miss : Int} {L : List Ent} {nx el : Nat → Nat} (h : Lk TC 56 zx w cb mb P hit miss L nx el) (e : Ent) (he : e ∈ L)
    (h1 : Node cb L (el e.b)) (h2 : Node cb L (nx e.b)) (n1 : el e.b ≠ e.b) (n2 : nx e.b ≠ e.b) :
    Calls Try.prog 19 #[.pointer (some ⟨e.b, 0, none⟩)] w fun r w' => r = .returned (.tuple #[]) ∧ Lk TC 56 zx w' cb mb P hit miss L (upd nx (el e.b) (nx e.b)) (upd el (nx e.b) (el e.b)) ∧ Kept (Node cb L) w w' := by
  have HL := Lib.hid h
  have HE := Lib.hid he
  have N1 := Lib.hid h1
  have N2 := Lib.hid h2
  have a1 : w.cell? ⟨el e.b, off cb (el e.b) + 4, none⟩ = some (ptr cb (nx (el e.b))) := h.nxCell h1
  have a2 : w.cell? ⟨nx e.b, off cb (nx e.b) + 3, none⟩ = some (ptr cb (el (nx e.b))) := h.elCell h2
  have f1 := h.thaw h1 (off cb (el e.b) + 4)
  have f2 := h.thaw h2 (off cb (nx e.b) + 3)
  have p3 := (h.place e he).2.cell 3
  have p4 := (h.place e he).2.cell 4
  rw [show (#[Value.int .i64 e.n, e.x, .int .i64 e.pin, ptr cb (el e.b), ptr cb (nx e.b)] : Array Value)[3]? = some (.pointer (some ⟨el e.b, off cb (el e.b), none⟩)) from rfl] at p3
  rw [show (#[Value.int .i64 e.n, e.x, .int .i64 e.pin, ptr cb (el e.b), ptr cb (nx e.b)] : Array Value)[4]? = some (.pointer (some ⟨nx e.b, off cb (nx e.b), none⟩)) from rfl] at p4
  obtain ⟨a, ha⟩ : ∃ a, a = el e.b := ⟨_, rfl⟩
  obtain ⟨oa, hoa⟩ : ∃ o, o = off cb (el e.b) := ⟨_, rfl⟩
  obtain ⟨c, hc⟩ : ∃ c, c = nx e.b := ⟨_, rfl⟩
  obtain ⟨oc, hoc⟩ : ∃ o, o = off cb (nx e.b) := ⟨_, rfl⟩
  rw [← hoa, ← ha] at a1 p3
  rw [← hoc, ← hc] at a2 p4
  rw [← hoa, ← ha] at f1
  rw [← hoc, ← hc] at f2
  rw [← ha] at n1
  rw [← hc] at n2
  have d1 : a = c → ¬ (oa + 4 = oc + 3) := fun e1 => by rw [hoa, hoc, ← ha, ← hc, e1]; omega
  have d2 : c = a → ¬ (oc + 3 = oa + 4) := fun e1 => by rw [hoa, hoc, ← ha, ← hc, e1]; omega
  have HA := Lib.hid (And.intro ha (And.intro hoa (And.intro hc hoc)))
  clear h he h1 h2 ha hoa hc hoc
  generalize ptr cb (nx (el e.b)) = v1 at a1
  generalize ptr cb (el (nx e.b)) = v2 at a2
  go_enter Try.func19, Try.ntmps19
  go_wp2_with fail
  refine wp_region_held_drew (S := fun W' => W'.cell? ⟨e.b, 3, none⟩ = some (.pointer (some ⟨a, oa, none⟩)) ∧ W'.cell? ⟨e.b, 4, none⟩ = some (.pointer (some ⟨c, oc, none⟩))) (by kernel_rfl) (by exact ⟨p3, p4⟩) (fun hHeld => ?_)
  change wpAnyH _ _ _ _ _ _ _ _ w.drew
  refine takeTo (i := 0) (v := ?_) (some 2) rfl rfl (by kernel_rfl) (by kernel_rfl) (by kernel_rfl) (fun _ _ _ h => h) (Or.inl ⟨by rfl, ?_⟩) (by assumption) ?_
  rotate_left
  · (intro W7 hSw; (try dsimp only at hSw); go_simp; try with_reducible rfl)
  try simp only [Act.put, List.setIfInBounds_toArray, List.set_cons_zero, List.set_cons_succ]
  refine takeTo (i := 1) (v := ?_) (some 3) rfl rfl (by kernel_rfl) (by kernel_rfl) (by kernel_rfl) (fun _ _ _ h => h) (Or.inl ⟨by rfl, ?_⟩) (by assumption) ?_
  rotate_left
  · (intro W7 hSw; (try dsimp only at hSw); go_simp; try with_reducible rfl)
  try simp only [Act.put, List.setIfInBounds_toArray, List.set_cons_zero, List.set_cons_succ]
  refine takeTo (i := 2) (v := ?_) (some 4) rfl rfl (by kernel_rfl) (by kernel_rfl) (by kernel_rfl) (fun _ _ _ h => h) (Or.inl ⟨by rfl, ?_⟩) (by assumption) ?_
  rotate_left
  · (intro W7 hSw; (try dsimp only at hSw); go_simp; try with_reducible rfl)
  try simp only [Act.put, List.setIfInBounds_toArray, List.set_cons_zero, List.set_cons_succ]
  refine takeTo (i := 3) (v := ?_) (some 5) rfl rfl (by kernel_rfl) (by kernel_rfl) (by kernel_rfl) (fun _ _ _ h => h) (Or.inl ⟨by rfl, ?_⟩) (by assumption) ?_
  rotate_left
  · (intro W7 hSw; (try dsimp only at hSw); go_simp; try with_reducible rfl)
  try simp only [Act.put, List.setIfInBounds_toArray, List.set_cons_zero, List.set_cons_succ]
  refine takeTo (i := 4) (v := ?_) (some 6) rfl rfl (by kernel_rfl) (by kernel_rfl) (by kernel_rfl) (fun _ _ _ h => h) (Or.inl ⟨by rfl, ?_⟩) (by assumption) ?_
  rotate_left
  · (intro W7 hSw; (try dsimp only at hSw); go_simp; try with_reducible rfl)
  try simp only [Act.put, List.setIfInBounds_toArray, List.set_cons_zero, List.set_cons_succ]
  refine takeTo (i := 5) (v := ?_) (some 7) rfl rfl (by kernel_rfl) (by kernel_rfl) (by kernel_rfl) (fun _ _ _ h => h) (Or.inl ⟨by rfl, ?_⟩) (by assumption) ?_
  rotate_left
  · (intro W7 hSw; (try dsimp only at hSw); go_simp; try with_reducible rfl)
  try simp only [Act.put, List.setIfInBounds_toArray, List.set_cons_zero, List.set_cons_succ]
  refine takeTo (i := 6) (v := ?_) (some 8) rfl rfl (by kernel_rfl) (by kernel_rfl) (by kernel_rfl) (fun _ _ _ h => h) (Or.inl ⟨by rfl, ?_⟩) (by assumption) ?_
  rotate_left
  · (intro W7 hSw; (try dsimp only at hSw); go_simp; try with_reducible rfl)
  try simp only [Act.put, List.setIfInBounds_toArray, List.set_cons_zero, List.set_cons_succ]
  refine takeTo (i := 7) (v := ?_) (some 9) rfl rfl (by kernel_rfl) (by kernel_rfl) (by kernel_rfl) (fun _ _ _ h => h) (Or.inl ⟨by rfl, ?_⟩) (by assumption) ?_
  rotate_left
  · (intro W7 hSw; (try dsimp only at hSw); go_simp; try with_reducible rfl)
  try simp only [Act.put, List.setIfInBounds_toArray, List.set_cons_zero, List.set_cons_succ]
  refine takeTo (i := 8) (v := ?_) (some 10) rfl rfl (by kernel_rfl) (by kernel_rfl) (by kernel_rfl) (fun _ _ _ h => h) (Or.inl ⟨by rfl, ?_⟩) (by assumption) ?_
  rotate_left
  · (intro W7 hSw; (try dsimp only at hSw); go_simp; try with_reducible rfl)
  try simp only [Act.put, List.setIfInBounds_toArray, List.set_cons_zero, List.set_cons_succ]
  refine takeTo (i := 9) (v := ?_) (some 11) rfl rfl (by kernel_rfl) (by kernel_rfl) (by kernel_rfl) (fun _ _ _ h => h) (Or.inl ⟨by rfl, ?_⟩) (by assumption) ?_
  rotate_left
  · (intro W7 hSw; (try dsimp only at hSw); go_simp; try with_reducible rfl)
  try simp only [Act.put, List.setIfInBounds_toArray, List.set_cons_zero, List.set_cons_succ]
  refine takeTo (i := 10) (v := ?_) (some 12) rfl rfl (by kernel_rfl) (by kernel_rfl) (by kernel_rfl) (fun _ _ _ h => h) (Or.inl ⟨by rfl, ?_⟩) (by assumption) ?_
  rotate_left
  · (intro W7 hSw; (try dsimp only at hSw); go_simp; try with_reducible rfl)
  try simp only [Act.put, List.setIfInBounds_toArray, List.set_cons_zero, List.set_cons_succ]
  refine takeTo (i := 11) (v := ?_) (some 13) rfl rfl (by kernel_rfl) (by kernel_rfl) (by kernel_rfl) (fun _ _ _ h => h) (Or.inl ⟨by rfl, ?_⟩) (by assumption) ?_
  rotate_left
  · (intro W7 hSw; (try dsimp only at hSw); go_simp; try with_reducible rfl)
  try simp only [Act.put, List.setIfInBounds_toArray, List.set_cons_zero, List.set_cons_succ]
  refine takeTo (i := 12) (v := ?_) (some 14) rfl rfl (by kernel_rfl) (by kernel_rfl) (by kernel_rfl) (fun _ _ _ h => h) (Or.inl ⟨by rfl, ?_⟩) (by assumption) ?_
  rotate_left
  · (intro W7 hSw; (try dsimp only at hSw); go_simp; try with_reducible rfl)
  try simp only [Act.put, List.setIfInBounds_toArray, List.set_cons_zero, List.set_cons_succ]
  refine takeTo (i := 13) (v := ?_) (some 15) rfl rfl (by kernel_rfl) (by kernel_rfl) (by kernel_rfl) (fun _ _ _ h => h) (Or.inl ⟨by rfl, ?_⟩) (by assumption) ?_
  rotate_left
  · (intro W7 hSw; (try dsimp only at hSw); go_simp; try with_reducible rfl)
  try simp only [Act.put, List.setIfInBounds_toArray, List.set_cons_zero, List.set_cons_succ]
  refine takeTo (i := 14) (v := ?_) (some 16) rfl rfl (by kernel_rfl) (by kernel_rfl) (by kernel_rfl) (fun _ _ _ h => h) (Or.inl ⟨by rfl, ?_⟩) (by assumption) ?_
  rotate_left
  · (intro W7 hSw; (try dsimp only at hSw); go_simp; try with_reducible rfl)
  try simp only [Act.put, List.setIfInBounds_toArray, List.set_cons_zero, List.set_cons_succ]
  refine takeTo (i := 15) (v := ?_) (some 17) rfl rfl (by kernel_rfl) (by kernel_rfl) (by kernel_rfl) (fun _ _ _ h => h) (Or.inl ⟨by rfl, ?_⟩) (by assumption) ?_
  rotate_left
  · (intro W7 hSw; (try dsimp only at hSw); go_simp; try with_reducible rfl)
  try simp only [Act.put, List.setIfInBounds_toArray, List.set_cons_zero, List.set_cons_succ]
  refine takeTo (i := 16) (v := ?_) (some 18) rfl rfl (by kernel_rfl) (by kernel_rfl) (by kernel_rfl) (fun _ _ _ h => h) (Or.inl ⟨by rfl, ?_⟩) (by assumption) ?_
  rotate_left
  · (intro W7 hSw; (try dsimp only at hSw); go_simp; try with_reducible rfl)
  try simp only [Act.put, List.setIfInBounds_toArray, List.set_cons_zero, List.set_cons_succ]
  refine takeTo (i := 17) (v := ?_) (some 19) rfl rfl (by kernel_rfl) (by kernel_rfl) (by kernel_rfl) (fun _ _ _ h => h) (Or.inl ⟨by rfl, ?_⟩) (by assumption) ?_
  rotate_left
  · (intro W7 hSw; (try dsimp only at hSw); go_simp; try with_reducible rfl)
  try simp only [Act.put, List.setIfInBounds_toArray, List.set_cons_zero, List.set_cons_succ]
  refine wpAnyH_ready (rs := [18]) (by kernel_rfl) (by simp) ?_
  refine AllReadyH.cons rfl (fun K hK => ?_) AllReadyH.nil
  rw [if_pos (by rfl)]
  go_wp2_with fail
  have L1 := HL.out.setNx N1.out (nx e.b)
  rw [show ptr cb (nx e.b) = .pointer (some ⟨nx e.b, off cb (nx e.b), none⟩) from rfl, ← HA.out.2.1, ← HA.out.1, ← HA.out.2.2.2, ← HA.out.2.2.1] at L1
  have K1 := Lib.hid (((Kept.refl (Node cb L) w).setCell (p := ⟨a, oa + 4, none⟩) (show Node cb L a by rw [HA.out.1]; exact N1.out) (.pointer (some ⟨c, oc, none⟩))).drew)
  have L1' : Lk TC 56 zx (w.setCell ⟨a, oa + 4, none⟩ (.pointer (some ⟨c, oc, none⟩))).drew cb mb P hit miss L (upd nx a c) el := ⟨L1.cache, L1.place, L1.inj⟩
  generalize World.drew (World.setCell _ _ _) = W1 at K1 L1' ⊢
  have q3 := (L1'.place e HE.out).2.cell 3
  have q4 := (L1'.place e HE.out).2.cell 4
  rw [show (#[Value.int .i64 e.n, e.x, .int .i64 e.pin, ptr cb (el e.b), ptr cb (upd nx a c e.b)] : Array Value)[3]? = some (.pointer (some ⟨el e.b, off cb (el e.b), none⟩)) from rfl, ← HA.out.2.1, ← HA.out.1] at q3
  rw [show (#[Value.int .i64 e.n, e.x, .int .i64 e.pin, ptr cb (el e.b), ptr cb (upd nx a c e.b)] : Array Value)[4]? = some (ptr cb (upd nx a c e.b)) from rfl, upd_other _ _ _ (Ne.symm n1), show ptr cb (nx e.b) = .pointer (some ⟨nx e.b, off cb (nx e.b), none⟩) from rfl, ← HA.out.2.2.2, ← HA.out.2.2.1] at q4
  have a2' := L1'.elCell N2.out
  have f2' := L1'.thaw N2.out (off cb (nx e.b) + 3)
  rw [← HA.out.2.2.2, ← HA.out.2.2.1] at a2' f2'
  generalize ptr cb (el c) = v3 at a2'
  have HL1 := Lib.hid L1'
  clear L1 L1' a1 a2 f1 f2 p3 p4
  refine hK.out _ _ ⟨q3, q4⟩ (fun hHeld2 => ?_)
  clear hK K
  try simp only [Act.put, List.setIfInBounds_toArray, List.set_cons_zero, List.set_cons_succ]
  refine takeTo (i := 19) (v := ?_) (some 20) rfl rfl (by kernel_rfl) (by kernel_rfl) (by kernel_rfl) (fun _ _ _ h => h) (Or.inl ⟨by rfl, ?_⟩) hHeld2 ?_
  rotate_left
  · (intro W7 hSw; (try dsimp only at hSw); go_simp; try with_reducible rfl)
  try simp only [Act.put, List.setIfInBounds_toArray, List.set_cons_zero, List.set_cons_succ]
  refine takeTo (i := 20) (v := ?_) (some 21) rfl rfl (by kernel_rfl) (by kernel_rfl) (by kernel_rfl) (fun _ _ _ h => h) (Or.inl ⟨by rfl, ?_⟩) hHeld2 ?_
  rotate_left
  · (intro W7 hSw; (try dsimp only at hSw); go_simp; try with_reducible rfl)
  try simp only [Act.put, List.setIfInBounds_toArray, List.set_cons_zero, List.set_cons_succ]
  refine wpAnyH_ready (rs := [21]) (by kernel_rfl) (by simp) ?_
  refine AllReadyH.cons rfl (fun K hK => ?_) AllReadyH.nil
  rw [if_pos (by rfl)]
  go_wp2_with fail
  have L2 := HL1.out.setEl N2.out (el e.b)
  rw [show ptr cb (el e.b) = .pointer (some ⟨el e.b, off cb (el e.b), none⟩) from rfl, ← HA.out.2.1, ← HA.out.1, ← HA.out.2.2.2, ← HA.out.2.2.1] at L2
  have K2 := Lib.hid (K1.out.setCell (p := ⟨c, oc + 3, none⟩) (show Node cb L c by rw [HA.out.2.2.1]; exact N2.out) (.pointer (some ⟨a, oa, none⟩)))
  have q3' := (L2.place e HE.out).2.cell 3
  have q4' := (L2.place e HE.out).2.cell 4
  rw [show (#[Value.int .i64 e.n, e.x, .int .i64 e.pin, ptr cb (upd el c a e.b), ptr cb (upd nx a c e.b)] : Array Value)[3]? = some (ptr cb (upd el c a e.b)) from rfl, upd_other _ _ _ (Ne.symm n2), show ptr cb (el e.b) = .pointer (some ⟨el e.b, off cb (el e.b), none⟩) from rfl, ← HA.out.2.1, ← HA.out.1] at q3'
  rw [show (#[Value.int .i64 e.n, e.x, .int .i64 e.pin, ptr cb (upd el c a e.b), ptr cb (upd nx a c e.b)] : Array Value)[4]? = some (ptr cb (upd nx a c e.b)) from rfl, upd_other _ _ _ (Ne.symm n1), show ptr cb (nx e.b) = .pointer (some ⟨nx e.b, off cb (nx e.b), none⟩) from rfl, ← HA.out.2.2.2, ← HA.out.2.2.1] at q4'
  refine hK.out _ _ ⟨q3', q4'⟩ (fun hHeld3 => ?_)
  clear hK K
  try simp only [Act.put, List.setIfInBounds_toArray, List.set_cons_zero, List.set_cons_succ]
  refine wpAnyH_done (by kernel_rfl) ?_ _
  go_wp2_with fail
  go_end0
  exact ⟨rfl, by rw [← HA.out.1, ← HA.out.2.2.1]; exact L2, K2.out⟩
end Go.Proofs.Ytghakgepchlpgaa
