/- THE WALK of the world's made. -/
import Derived.Test.YtghakgepchlpgaaX6
import Derived.Deep.Cut
namespace Go.Proofs.Ytghakgepchlpgaa
open Go.RowKit Go.Maps
def MadeOut (B : Nat) (w0 w' : World) (gw steps : Nat) (OV WV : Value) (rs ws : List Row) : Prop :=
  ∃ N' pt' CV' LV' RV' ob', Md B w0 w' gw N' pt' CV' LV' RV' OV WV rs ws ob' ∧ Good N' (steps + 1) ob' ∧ N' ≤ 30
section
variable {B gw N steps : Nat} {w w0 : World} {pt : Nat → Nat → Nat} {CV LV RV OV WV : Value} {rs ws : List Row} {ob : Nat → Nat → Ob}
set_option maxHeartbeats 1000000 in
theorem made_full (h : Md B w0 w gw N pt CV LV RV OV WV rs ws ob) (hg : Good N steps ob) (P : Int) (hN : N ≤ 30) (h30 : 30 ≤ N) :
    Calls Try.prog 22 #[.pointer (some ⟨gw, 0, none⟩), .int .i64 P] w fun r w' => r = .returned (.bool true) ∧ MadeOut B w0 w' gw steps OV WV rs ws := by
  obtain ⟨A, c, rfl⟩ := rowShape h.wo.c
  have c0 : w.cell? ⟨gw, 0, none⟩ = some (.slice A N c) := h.wo.blk.cell 0
  have HG := Lib.hid (show MadeOut B w0 w gw steps OV WV rs ws from ⟨N, pt, _, LV, RV, ob, h, hg.more, hN⟩)
  have h3 : (30 : Int) ≤ (N : Int) := by omega
  clear h hg
  go_enter Try.func22, Try.ntmps22
  go_wp2_with fail
  go_ret
  exact ⟨rfl, HG.out⟩
set_option maxHeartbeats 1000000 in
theorem made_no (h : Md B w0 w gw N pt CV LV RV OV WV rs ws ob) (hg : Good N steps ob) (P : Int) (hN : N < 30) (hP : P < 1 ∨ 65536 < P) :
    Calls Try.prog 22 #[.pointer (some ⟨gw, 0, none⟩), .int .i64 P] w fun r w' => r = .returned (.bool true) ∧ MadeOut B w0 w' gw steps OV WV rs ws := by
  obtain ⟨A, c, rfl⟩ := rowShape h.wo.c
  have c0 : w.cell? ⟨gw, 0, none⟩ = some (.slice A N c) := h.wo.blk.cell 0
  have HG := Lib.hid (show MadeOut B w0 w gw steps OV WV rs ws from ⟨N, pt, _, LV, RV, ob, h, hg.more, by omega⟩)
  have HP := Lib.hid hP
  have h3 : ¬ (30 : Int) ≤ (N : Int) := by omega
  clear h hg
  go_enter Try.func22, Try.ntmps22
  go_wp2_with (first
    | (go_at_call 9; refine (new_no P _ HP.out).mono ?_; rintro r w' ⟨rfl, rfl⟩)
    | (go_at_call 34; refine (Sl.new_no P _ HP.out).mono ?_; rintro r w' ⟨rfl, rfl⟩)
    | (go_at_call 35; refine (rnew_no P _ HP.out).mono ?_; rintro r w' ⟨rfl, rfl⟩))
  go_ret
  exact ⟨rfl, HG.out⟩
set_option maxHeartbeats 2000000 in
set_option maxRecDepth 100000 in
theorem made_ok (h : Md B w0 w gw N pt CV LV RV OV WV rs ws ob) (hg : Good N steps ob) (P : Int) (hN : N < 30) (h1 : 1 ≤ P) (h2 : P ≤ 65536) :
    Calls Try.prog 22 #[.pointer (some ⟨gw, 0, none⟩), .int .i64 P] w fun r w' => r = .returned (.bool true) ∧ MadeOut B w0 w' gw steps OV WV rs ws := by
  obtain ⟨A0, c0, e0⟩ := rowShape h.wo.c
  obtain ⟨A1, c1, e1⟩ := rowShape h.wo.l
  obtain ⟨A2, c2, e2⟩ := rowShape h.wo.r
  subst e0 e1 e2
  have d0 : w.cell? ⟨gw, 0, none⟩ = some (.slice A0 N c0) := h.wo.blk.cell 0
  have H := Lib.hid h
  have HG := Lib.hid hg
  have HP := Lib.hid (And.intro h1 h2)
  have HN := Lib.hid hN
  have h3 : ¬ (30 : Int) ≤ (N : Int) := by omega
  clear h hg h1 h2 hN
  go_enter Try.func22, Try.ntmps22
  go_upto_region 9 with (first
    | (go_at_call 9
       refine (A_new P _ HP.out.1 HP.out.2).mono ?_
       rintro r w1 ⟨pA, rfl, a1, b1⟩
       have NA := Lib.hid (And.intro a1 b1)
       clear a1 b1 d0)
    | (go_at_call 34
       refine (L_new P _ HP.out.1 HP.out.2).mono ?_
       rintro r w2 ⟨pL, rfl, a2, b2⟩
       have NL := Lib.hid (And.intro a2 b2)
       clear a2 b2)
    | (go_at_call 35
       refine (R_new P _ HP.out.1 HP.out.2).mono ?_
       rintro r w3 ⟨pR, rfl, a3, b3⟩
       have NR := Lib.hid (And.intro a3 b3)
       clear a3 b3
       have k3 : Kept (fun _ => False) w w3 := ((Kept.of_below NA.out.2).trans (Kept.of_below NL.out.2)).trans (Kept.of_below NR.out.2)
       have m3 := Lib.hid (H.out.frame k3 fun _ _ e => e)
       clear k3))
  have z0 : w3.cell? ⟨gw, 0, none⟩ = some (.slice A0 N c0) := m3.out.wo.blk.cell 0
  have Z0 := Lib.hid (show B ≤ w3.heap.size from m3.out.wo.size)
  go_upto_region 10 with (first
    | (at_builtin
       refine wpList_append_one (ts := 43) (e := 25) Try.underlying43 info25 rfl (by omega) rfl (.tmp 60) (.tmp 62) rfl B (.slice A0 N c0) (ptrL N (pt 0)) [.pointer (some ⟨pA, 0, none⟩)] rfl (by rw [ptrL_length]; exact rowKept m3.out.wo.c ((Kept.refl (fun _ => False) w3).alloc _) fun _ _ e => e) w3.heap.size 1 rfl (Blk.new w3 25 #[.pointer (some ⟨pA, 0, none⟩)]) (by simp [Value.oneCell']) (by have := HN.out; simp [ptrL_length]; omega) (by have := Z0.out; simp; omega) ?_
       intro v4 w4 o4 g4
       obtain ⟨A4, c4, rfl⟩ := rowShape o4
       obtain ⟨m4, hm4⟩ : ∃ m, m = (ptrL N (pt 0) ++ [Value.pointer (some ⟨pA, 0, none⟩)]).length := ⟨_, rfl⟩
       rw [← hm4] at o4 g4 ⊢
       have M4 := Lib.hid hm4
       have B4 := Lib.hid (field_mid m3.out.wo.blk m3.out.wo.c (by decide) g4)
       have F4 := Lib.hid (field_done m3.out.wo.blk m3.out.wo.c (by decide) g4 o4 0)
       have y4 : w4.cell? ⟨gw, 0, none⟩ = some (.slice A0 N c0) := B4.out.cell 0
       have x4 := B4.out.free 0
       clear o4 g4 z0 hm4)
    | fail)
  clear x4 y4 B4
  generalize World.setCell w4 _ _ = u4 at F4 ⊢
  have L4 := Lib.hid (rowFar m3.out.wo.l m3.out.wo.blk m3.out.wo.c (by decide) (by decide) F4.out.2.2.1)
  have R4 := Lib.hid (rowFar m3.out.wo.r m3.out.wo.blk m3.out.wo.c (by decide) (by decide) F4.out.2.2.1)
  have z1 : u4.cell? ⟨gw, 1, none⟩ = some (.slice A1 N c1) := F4.out.1.cell 1
  have Z1 := Lib.hid (show B ≤ u4.heap.size from Nat.le_trans m3.out.wo.size F4.out.2.2.1.size)
  go_upto_region 11 with (first
    | (at_builtin
       refine wpList_append_one (ts := 44) (e := 63) Try.underlying44 info63 rfl (by omega) rfl (.tmp 70) (.tmp 72) rfl B (.slice A1 N c1) (ptrL N (pt 1)) [.pointer (some ⟨pL, 0, none⟩)] rfl (by rw [ptrL_length]; exact rowKept L4.out ((Kept.refl (fun _ => False) u4).alloc _) fun _ _ e => e) u4.heap.size 1 rfl (Blk.new u4 63 #[.pointer (some ⟨pL, 0, none⟩)]) (by simp [Value.oneCell']) (by have := HN.out; simp [ptrL_length]; omega) (by have := Z1.out; simp; omega) ?_
       intro v5 w5 o5 g5
       obtain ⟨A5, c5, rfl⟩ := rowShape o5
       obtain ⟨m5, hm5⟩ : ∃ m, m = (ptrL N (pt 1) ++ [Value.pointer (some ⟨pL, 0, none⟩)]).length := ⟨_, rfl⟩
       rw [← hm5] at o5 g5 ⊢
       have M5 := Lib.hid hm5
       have B5 := Lib.hid (field_mid F4.out.1 L4.out (by decide) g5)
       have F5 := Lib.hid (field_done F4.out.1 L4.out (by decide) g5 o5 1)
       have y5 : w5.cell? ⟨gw, 1, none⟩ = some (.slice A1 N c1) := B5.out.cell 1
       have x5 := B5.out.free 1
       clear o5 g5 z1 hm5)
    | fail)
  clear x5 y5 B5
  generalize World.setCell w5 _ _ = u5 at F5 ⊢
  have C5 := Lib.hid (rowFar F4.out.2.1 F4.out.1 L4.out (by decide) (by decide) F5.out.2.2.1)
  have R5 := Lib.hid (rowFar R4.out F4.out.1 L4.out (by decide) (by decide) F5.out.2.2.1)
  have z2 : u5.cell? ⟨gw, 2, none⟩ = some (.slice A2 N c2) := F5.out.1.cell 2
  have Z2 := Lib.hid (show B ≤ u5.heap.size from Nat.le_trans Z1.out F5.out.2.2.1.size)
  go_upto_region 12 with (first
    | (at_builtin
       refine wpList_append_one (ts := 45) (e := 65) Try.underlying45 info65 rfl (by omega) rfl (.tmp 80) (.tmp 82) rfl B (.slice A2 N c2) (ptrL N (pt 2)) [.pointer (some ⟨pR, 0, none⟩)] rfl (by rw [ptrL_length]; exact rowKept R5.out ((Kept.refl (fun _ => False) u5).alloc _) fun _ _ e => e) u5.heap.size 1 rfl (Blk.new u5 65 #[.pointer (some ⟨pR, 0, none⟩)]) (by simp [Value.oneCell']) (by have := HN.out; simp [ptrL_length]; omega) (by have := Z2.out; simp; omega) ?_
       intro v6 w6 o6 g6
       obtain ⟨A6, c6, rfl⟩ := rowShape o6
       obtain ⟨m6, hm6⟩ : ∃ m, m = (ptrL N (pt 2) ++ [Value.pointer (some ⟨pR, 0, none⟩)]).length := ⟨_, rfl⟩
       rw [← hm6] at o6 g6 ⊢
       have M6 := Lib.hid hm6
       have B6 := Lib.hid (field_mid F5.out.1 R5.out (by decide) g6)
       have F6 := Lib.hid (field_done F5.out.1 R5.out (by decide) g6 o6 2)
       have y6 : w6.cell? ⟨gw, 2, none⟩ = some (.slice A2 N c2) := B6.out.cell 2
       have x6 := B6.out.free 2
       clear o6 g6 z2 hm6)
    | fail)
  clear x6 y6 B6
  generalize World.setCell w6 _ _ = u6 at F6 ⊢
  have C6 := Lib.hid (rowFar C5.out F5.out.1 R5.out (by decide) (by decide) F6.out.2.2.1)
  have L6 := Lib.hid (rowFar F5.out.2.1 F5.out.1 R5.out (by decide) (by decide) F6.out.2.2.1)
  go_wp2_with fail
  go_ret
  have s4 := F4.out.2.2.1.size
  have s5 := F5.out.2.2.1.size
  have e4 : m4 = N + 1 := by rw [M4.out]; simp [ptrL_length]
  have e5 : m5 = N + 1 := by rw [M5.out]; simp [ptrL_length]
  have e6 : m6 = N + 1 := by rw [M6.out]; simp [ptrL_length]
  have km := ((F4.out.2.2.1.mono (T := fun k => k = gw ∨ (Value.slice A0 N c0).ownBlock = some k ∨ (Value.slice A1 N c1).ownBlock = some k ∨ (Value.slice A2 N c2).ownBlock = some k) fun k _ e => e.imp id .inl).since F5.out.2.2.1 fun k e => .inl (e.imp id fun e => .inr (.inl e))).since F6.out.2.2.1 fun k e => .inl (e.imp id fun e => .inr (.inr e))
  refine ⟨rfl, N + 1, _, _, _, _, _, H.out.made NA.out.1 NA.out.2 NL.out.1 NL.out.2 NR.out.1 NR.out.2 km F6.out.1 (by have := C6.out; rw [e4] at this ⊢; exact this) (by have := L6.out; rw [e5] at this ⊢; exact this) (by have := F6.out.2.1; rw [e6] at this ⊢; exact this) F4.out.2.2.2 (fun k e => (F5.out.2.2.2 k e).imp id fun e => by omega) (fun k e => (F6.out.2.2.2 k e).imp id fun e => by omega), HG.out.made HP.out.1 HP.out.2 ⟨rfl, rfl, rfl, rfl⟩ ⟨rfl, rfl, rfl, rfl⟩ ⟨rfl, rfl, rfl, rfl⟩, by have := HN.out; omega⟩
theorem made_any (h : Md B w0 w gw N pt CV LV RV OV WV rs ws ob) (hg : Good N steps ob) (P : Int) (hN : N ≤ 30) :
    Calls Try.prog 22 #[.pointer (some ⟨gw, 0, none⟩), .int .i64 P] w fun r w' => r = .returned (.bool true) ∧ MadeOut B w0 w' gw steps OV WV rs ws := by
  by_cases h1 : 30 ≤ N
  · exact made_full h hg P hN h1
  · by_cases h2 : P < 1 ∨ 65536 < P
    · exact made_no h hg P (by omega) h2
    · exact made_ok h hg P (by omega) (by omega) (by omega)
end
end Go.Proofs.Ytghakgepchlpgaa
