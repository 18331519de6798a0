/- Unpin, of ints and of lists: the walks. -/
import Derived.Test.YtghakgepchlpgaaT2
namespace Go.Proofs.Ytghakgepchlpgaa
open Go.RowKit Go.Maps
open Ring (upd upd_same upd_other)
section
variable {zx : Value} {w : World} {cb mb : Nat} {P hit miss : Int} {L : List Ent}
set_option maxHeartbeats 1000000 in
theorem unpin_none (h : CA 58 56 zx w cb mb P hit miss L) (n : Int) (hn : Wf n) (hno : ∀ e ∈ L, e.n ≠ n) : Calls Try.prog 42 #[.pointer (some ⟨cb, 0, none⟩), .int .i64 n] w fun r w' => r = .returned (.bool false) ∧ w = w' := by
  have c1 := h.mapCell
  have hrun := h.miss_ Try.underlying53 (zero54 w) hn hno
  clear h
  go_enter Try.func42, Try.ntmps42
  go_wp2_with fail
  go_ret
  exact ⟨rfl, rfl⟩
set_option maxHeartbeats 1000000 in
theorem unpin_zero {u v : List Ent} {e : Ent} (h : CA 58 56 zx w cb mb P hit miss (u ++ e :: v)) (hp : e.pin = 0) : Calls Try.prog 42 #[.pointer (some ⟨cb, 0, none⟩), .int .i64 e.n] w fun r w' => r = .returned (.bool false) ∧ w = w' := by
  have c1 := h.mapCell
  have hrun := h.hit_ Try.underlying53 (zero54 w)
  obtain ⟨⟨nx, el, hl, hr⟩, _⟩ := h
  have p2 : w.cell? ⟨e.b, 2, none⟩ = some (.int .i64 0) := by rw [← hp]; exact (hl.place e (by simp)).2.cell 2
  clear hl hr hp
  go_enter Try.func42, Try.ntmps42
  go_wp2_with fail
  go_ret
  exact ⟨rfl, rfl⟩
set_option maxHeartbeats 1000000 in
theorem unpin_some {u v : List Ent} {e : Ent} (h : CA 58 56 zx w cb mb P hit miss (u ++ e :: v)) (hp : e.pin ≠ 0) : Calls Try.prog 42 #[.pointer (some ⟨cb, 0, none⟩), .int .i64 e.n] w fun r w' =>
    r = .returned (.bool true) ∧ CA 58 56 zx w' cb mb P hit miss (u ++ { e with pin := wrap64 (e.pin - 1) } :: v) ∧ Kept (Bl cb mb (u ++ e :: v)) w w' := by
  have HC := Lib.hid h
  have c1 := h.mapCell
  have hrun := h.hit_ Try.underlying53 (zero54 w)
  obtain ⟨⟨nx, el, hl, hr⟩, _⟩ := h
  have p2 : w.cell? ⟨e.b, 2, none⟩ = some (.int .i64 e.pin) := (hl.place e (by simp)).2.cell 2
  have f2 := (hl.place e (by simp)).2.free 2
  have hq : (e.pin == 0) = false := by simpa using hp
  clear hl hr
  go_enter Try.func42, Try.ntmps42
  go_wp2_with fail
  go_ret
  exact ⟨rfl, HC.out.setPlace 2 _ { e with pin := wrap64 (e.pin - 1) } rfl rfl (fun _ _ => rfl)⟩
end
namespace Sl
section
variable {zx : Value} {w : World} {cb mb : Nat} {P hit miss : Int} {L : List Ent}
set_option maxHeartbeats 1000000 in
theorem unpin_none (h : CA 82 80 zx w cb mb P hit miss L) (n : Int) (hn : Wf n) (hno : ∀ e ∈ L, e.n ≠ n) : Calls Try.prog 43 #[.pointer (some ⟨cb, 0, none⟩), .int .i64 n] w fun r w' => r = .returned (.bool false) ∧ w = w' := by
  have c1 := h.mapCell
  have hrun := h.miss_ Try.underlying78 (zero77 w) hn hno
  clear h
  go_enter Try.func43, Try.ntmps43
  go_wp2_with fail
  go_ret
  exact ⟨rfl, rfl⟩
set_option maxHeartbeats 1000000 in
theorem unpin_zero {u v : List Ent} {e : Ent} (h : CA 82 80 zx w cb mb P hit miss (u ++ e :: v)) (hp : e.pin = 0) : Calls Try.prog 43 #[.pointer (some ⟨cb, 0, none⟩), .int .i64 e.n] w fun r w' => r = .returned (.bool false) ∧ w = w' := by
  have c1 := h.mapCell
  have hrun := h.hit_ Try.underlying78 (zero77 w)
  obtain ⟨⟨nx, el, hl, hr⟩, _⟩ := h
  have p2 : w.cell? ⟨e.b, 2, none⟩ = some (.int .i64 0) := by rw [← hp]; exact (hl.place e (by simp)).2.cell 2
  clear hl hr hp
  go_enter Try.func43, Try.ntmps43
  go_wp2_with fail
  go_ret
  exact ⟨rfl, rfl⟩
set_option maxHeartbeats 1000000 in
theorem unpin_some {u v : List Ent} {e : Ent} (h : CA 82 80 zx w cb mb P hit miss (u ++ e :: v)) (hp : e.pin ≠ 0) : Calls Try.prog 43 #[.pointer (some ⟨cb, 0, none⟩), .int .i64 e.n] w fun r w' =>
    r = .returned (.bool true) ∧ CA 82 80 zx w' cb mb P hit miss (u ++ { e with pin := wrap64 (e.pin - 1) } :: v) ∧ Kept (Bl cb mb (u ++ e :: v)) w w' := by
  have HC := Lib.hid h
  have c1 := h.mapCell
  have hrun := h.hit_ Try.underlying78 (zero77 w)
  obtain ⟨⟨nx, el, hl, hr⟩, _⟩ := h
  have p2 : w.cell? ⟨e.b, 2, none⟩ = some (.int .i64 e.pin) := (hl.place e (by simp)).2.cell 2
  have f2 := (hl.place e (by simp)).2.free 2
  have hq : (e.pin == 0) = false := by simpa using hp
  clear hl hr
  go_enter Try.func43, Try.ntmps43
  go_wp2_with fail
  go_ret
  exact ⟨rfl, HC.out.setPlace 2 _ { e with pin := wrap64 (e.pin - 1) } rfl rfl (fun _ _ => rfl)⟩
end
end Sl
end Go.Proofs.Ytghakgepchlpgaa
