/- PAGES OPENED AND HELD AGAINST THEIR HEAD; bytes as strings; the chapter example (alive); PageNames. -/
import Derived.Test.YtofhdehigfdmkaaT
import Derived.Lib.SmallJoins
import Derived.Laws.BytesArg
namespace Go.Proofs.Ytofhdehigfdmkaa
open Go.RowKit
theorem eq39 (a b c a' b' c' : Int) (w : World) : (binOp .eql 39 (.agg #[.int .i64 a, .int .i64 b, .int .u64 c]) (.agg #[.int .i64 a', .int .i64 b', .int .u64 c'])).run Try.prog w = .ok (.bool (a == a' && b == b' && c == c')) w := by
  by_cases h0 : a = a' <;> by_cases h1 : b = b' <;> by_cases h2 : c = c' <;> go_simp
theorem neq39 (a b c a' b' c' : Int) (w : World) : (binOp .neq 39 (.agg #[.int .i64 a, .int .i64 b, .int .u64 c]) (.agg #[.int .i64 a', .int .i64 b', .int .u64 c'])).run Try.prog w = .ok (.bool (!(a == a' && b == b' && c == c'))) w := by
  by_cases h0 : a = a' <;> by_cases h1 : b = b' <;> by_cases h2 : c = c' <;> go_simp

/-- Open, of a page -/
def OpenPage (kind num gen : Nat) (p : List UInt8) (number : Int) (w w' : World) (v : Value) : Prop :=
  ((num : Int) ≠ number ∧ v = openBad 33) ∨ ((num : Int) = number ∧ ∃ A c, v = .tuple #[.agg #[.int .i64 (kind : Int), .int .i64 (num : Int), .int .u64 (gen : Int)], .slice A p.length c, .int .i64 0] ∧ p.length ≤ c ∧ Owns w' w.heap.size (.slice A p.length c) p)
theorem open_page_post {size kind num gen : Nat} {p : List UInt8} (hf : Page.Fits size kind num gen p) {number : Int} {w w' : World} {v : Value} (h : OpenPost (Page.pageL size kind num gen p) number w w' v) : OpenPage kind num gen p number w w' v := by
  have hl : (Page.pageL size kind num gen p).length = size := Page.pageL_length _ _ _ _ _
  have hd := fun i hi => Page.page_data size kind num gen p i hi
  have HK := Page.head_of_data hf _ hl hd
  have hs := Page.page_sum size kind num gen p (by have := Page.sized_512 hf.sized; omega)
  obtain ⟨e1, e2, e3, e4, e5⟩ := Page.data_get hf _ hl hd
  rcases h with ⟨n, _⟩ | ⟨_, n, _⟩ | ⟨_, _, n, hv⟩ | ⟨_, _, n, A, c, hv, hc, ho⟩
  · exact absurd HK n
  · exact absurd hs n
  · left; rw [e2] at n; exact ⟨n, hv⟩
  · right
    rw [e2] at n
    rw [openYes, e1, e2, e3, e5] at hv
    rw [e5] at hc ho
    exact ⟨n, A, c, hv, hc, ho⟩
theorem open_page {size kind num gen : Nat} {p : List UInt8} (g c : Nat) (number : Int) (w : World) (hf : Page.Fits size kind num gen p) (hc : size ≤ c) (hg : Blk w g 5 (arr size (byF (Page.pageF size kind num gen p)))) :
    Calls Try.prog 33 #[.slice (some ⟨g, 0, none⟩) size c, .int .i64 number] w fun e w' => ∃ v, e = .returned v ∧ OpenPage kind num gen p number w w' v ∧ Below w.heap.size w w' := by
  have hl : (Page.pageL size kind num gen p).length = size := Page.pageL_length _ _ _ _ _
  refine (open_rd (some ⟨g, 0, none⟩) c size w.heap.size number (Page.pageL size kind num gen p) w hl hc (Nat.le_refl _) ?_).mono ?_
  · refine Rd.of_byF _ hg (by omega) (fun i hi => ?_) hg.lt
    rw [hl] at hi
    rw [Page.pageL, Page.rl_get _ _ _ hi]
  · rintro e w' ⟨v, he, hp, hb⟩
    exact ⟨v, he, open_page_post hf hp, hb⟩
/-- bytes as a string -/
def bs (l : List UInt8) : ByteArray := ⟨l.toArray⟩
theorem bs_inj {a b : List UInt8} : bs a = bs b ↔ a = b := by
  unfold bs
  constructor
  · intro h; injection h with h; exact Array.toList_inj.2 h |> fun e => by simpa using e
  · rintro rfl; rfl
theorem bs_nums (l : List UInt8) : strOfNums (l.map fun x => (x.toNat : Int)) = bs l := by
  unfold strOfNums bs
  rw [List.map_map]
  congr 2
  conv => rhs; rw [← List.map_id l]
  apply List.map_congr_left
  intro x _
  simp
theorem conv_str (A : Option Addr) (c : Nat) (l : List UInt8) (w : World) (B : Nat) (h : Rd w B A l) : (convert 22 9 (.slice A l.length c)).run Try.prog w = .ok (.string (bs l)) w := by
  rcases h with rfl | ⟨b, off, rfl, _, hc⟩
  · cases A with
    | none => exact run_convert_bytes_nil w 22 5 Try.underlying22 Try.underlying5 0 c 9 Try.underlying9
    | some a =>
      rw [run_convert_bytes_string w 22 9 5 _ _ _ Try.underlying22 Try.underlying5 Try.underlying9]
      exact run_bytesToString w a 0 c [] (by simp [loadCells, loadCellsFrom])
  · rw [run_convert_bytes_arg w 22 5 Try.underlying22 Try.underlying5 b off l.length c (l.map fun x => (x.toNat : Int)) (by simp) (fun i hi => by
      rw [hc i hi]; simp [List.getD, hi]) 9 Try.underlying9, bs_nums]
theorem wp_str {w : World} {o : Oper} {a : Act} {K : Act → World → Prop} {Q : Exit → Act → World → Prop} (s : Operand) (ho : o.op = .convert 22 9 s)
    (A : Option Addr) (c B : Nat) (l : List UInt8) (hx : a.eval s = .slice A l.length c) (hr : Rd w B A l) (h : K (a.put o.dst (.string (bs l))) w) : o.wp Try.prog a w K Q := by
  unfold Oper.wp execOp
  simp only [ho, hx, Sem.run_bind, Sem.run_pure, Result.andThen_ok, conv_str A c l w B hr]
  exact h
theorem wpList_str {w : World} {ops : Array Oper} {rest : List Oper} {o : Oper} {a : Act} {Q : Exit → Act → World → Prop} (hgd : o.guard = none) (s : Operand) (ho : o.op = .convert 22 9 s)
    (A : Option Addr) (c B : Nat) (l : List UInt8) (hx : a.eval s = .slice A l.length c) (hr : Rd w B A l) (h : wpList Try.prog ops Q rest (a.put o.dst (.string (bs l))) w) : wpList Try.prog ops Q (o :: rest) a w :=
  wpList_plain hgd fun _ hK => wp_str s ho A c B l hx hr (hK _ _ h)
def aliveL : List UInt8 := [66, 89, 3, 0, 0, 0, 0, 7, 0, 0, 0, 0, 0, 0, 0, 2, 0, 0, 0, 2, 0, 0, 0, 0, 97, 98]
theorem alive_head : ∀ i, i < 26 → Page.pageF 512 3 7 2 [97, 98] i = aliveL.getD i 0 := by decide +kernel
theorem alive_fits : Page.Fits 512 3 7 2 [97, 98] := ⟨.inl rfl, by decide, by decide, by decide, by decide, by decide⟩
set_option maxHeartbeats 1000000 in
set_option maxRecDepth 100000 in
theorem alive_true (w : World) : Calls Try.prog 22 #[] w fun e w' => e = .returned (.bool true) ∧ Below w.heap.size w w' := by
  have kc := Lib.hid (Go.Joins.run_convert_bytes_const_at (P := Try.prog) (w.alloc (.cells #[.int .i64 3, .int .i64 7, .int .u64 2] 39)) 22 5 #[.int .u8 97, .int .u8 98] 2 2 (w.heap.size + 1) (by simp) Try.underlying22 Try.underlying5)
  have B0 := Lib.hid (((Below.refl w.heap.size w).alloc (Nat.le_refl _) (.cells #[.int .i64 3, .int .i64 7, .int .u64 2] 39)).alloc (by simp) (.cells #[.int .u8 97, .int .u8 98] 5 (2, 3)))
  have R0 := Lib.hid (Rd.of_row (w := (w.alloc (.cells #[.int .i64 3, .int .i64 7, .int .u64 2] 39)).alloc (.cells #[.int .u8 97, .int .u8 98] 5 (2, 3))) (g := w.heap.size + 1) (B := w.heap.size + 2) (l := [97, 98]) (cs := #[.int .u8 97, .int .u8 98]) (t := 5) (fr := (2, 3)) (by rw [show w.heap.size + 1 = (w.alloc (.cells #[.int .i64 3, .int .i64 7, .int .u64 2] 39)).heap.size by simp]; exact heap_alloc_new _ _) (fun k hk => by rcases (by simp at hk; omega : k = 0 ∨ k = 1) with rfl | rfl <;> rfl) (by omega))
  have H0 := Lib.hid ((Blk.new w 39 #[.int .i64 3, .int .i64 7, .int .u64 2]).alloc (.cells #[.int .u8 97, .int .u8 98] 5 (2, 3)))
  have kc' := kc.out
  go_enter Try.func22, Try.ntmps22
  go_wp2_with fail
  refine (seal_ok (some ⟨w.heap.size + 1, 0, none⟩) 2 512 3 7 2 2 [97, 98] _ alive_fits rfl (R0.out.mono (by simp))).mono ?_
  rintro e w1 ⟨g, rfl, hg0, hg, b1⟩
  have H1 := Lib.hid (H0.out.below b1 H0.out.lt)
  have hgw : w.heap.size < g := by simp at hg0; omega
  have B1 := Lib.hid (B0.out.trans (b1.mono B0.out.size))
  have G1 := Lib.hid hg
  clear kc kc' B0 R0 H0 b1 hg0 hg
  have hcv : (convert 22 9 (.slice (some ⟨g, 0, none⟩) 26 512)).run Try.prog w1 = .ok (.string (bs aliveL)) w1 := conv_str (some ⟨g, 0, none⟩) 512 aliveL w1 w1.heap.size (Rd.of_byF _ G1.out (by decide) alive_head G1.out.lt)
  have hls : ((bs aliveL).toList == [66, 89, 3, 0, 0, 0, 0, 7, 0, 0, 0, 0, 0, 0, 0, 2, 0, 0, 0, 2, 0, 0, 0, 0, 97, 98]) = true := by decide +kernel
  have HLS := Lib.hid hls
  have hO := fun (n : Int) (W : World) (h : Below w1.heap.size w1 W) => open_page (p := [97, 98]) g 512 n W alive_fits (by decide) (G1.out.below h G1.out.lt)
  have HO := Lib.hid hO
  clear hO
  go_wp2_with fail
  refine (HO.out 7 w1 (Below.refl _ _)).mono ?_
  rintro e w2 ⟨v, rfl, hv, b2⟩
  rcases hv with ⟨h, _⟩ | ⟨_, A, c, rfl, hc, ho⟩
  · exact absurd rfl h
  have B2 := Lib.hid (B1.out.trans (b2.mono B1.out.size))
  have C2 := Lib.hid b2
  have O2 := Lib.hid (Owns.reads (show Owns (w2.alloc (.cells #[.int .i64 3, .int .i64 7, .int .u64 2] 39)) w1.heap.size (.slice A 2 c) [97, 98] from World.ownsRow.alloc ho (.cells #[.int .i64 3, .int .i64 7, .int .u64 2] 39)))
  have X2 := Lib.hid (Blk.new w2 39 #[.int .i64 3, .int .i64 7, .int .u64 2])
  have H2 := Lib.hid ((H1.out.below C2.out H1.out.lt).alloc (.cells #[.int .i64 3, .int .i64 7, .int .u64 2] 39))
  have C3 := Lib.hid (C2.out.alloc C2.out.size (.cells #[.int .i64 3, .int .i64 7, .int .u64 2] 39))
  have B3 := Lib.hid (B2.out.alloc B2.out.size (.cells #[.int .i64 3, .int .i64 7, .int .u64 2] 39))
  clear hcv hls HLS b2 ho hc
  go_wp2_with fail
  obtain ⟨hx, hhx⟩ : ∃ x, x = w2.heap.size := ⟨_, rfl⟩
  rw [← hhx] at X2 ⊢
  generalize World.alloc w2 _ = W3 at O2 X2 H2 C3 B3 ⊢
  clear C2 B2 hhx w2
  refine (HO.out 8 W3 C3.out).mono ?_
  rintro e w4 ⟨v, rfl, hv, b4⟩
  rcases hv with ⟨_, rfl⟩ | ⟨h, _⟩
  · have B4 := Lib.hid (B3.out.trans (b4.mono B3.out.size))
    have O4 := Lib.hid (O2.out.below b4 (Nat.le_refl _))
    have X4 := Lib.hid (X2.out.below b4 X2.out.lt)
    have H4 := Lib.hid (H2.out.below b4 H2.out.lt)
    have O4sz := Lib.hid (b4.size)
    clear b4 B3 O2 X2 H2 C3 HO
    have hcv : (convert 22 9 (.slice A 2 c)).run Try.prog (w4.alloc (.cells #[.int .i64 0, .int .i64 0, .int .u64 0] 39)) = .ok (.string (bs [97, 98])) (w4.alloc (.cells #[.int .i64 0, .int .i64 0, .int .u64 0] 39)) := conv_str A c [97, 98] _ _ (O4.out.below ((Below.refl w4.heap.size w4).alloc (Nat.le_refl _) _) O4sz.out)
    have hls : ((bs [97, 98]).toList == [97, 98]) = true := by decide +kernel
    rw [openBad]
    have x0 : (w4.alloc (.cells #[.int .i64 0, .int .i64 0, .int .u64 0] 39)).cell? ⟨hx, 0, none⟩ = some (.int .i64 3) := (X4.out.alloc _).cell 0
    have x1 : (w4.alloc (.cells #[.int .i64 0, .int .i64 0, .int .u64 0] 39)).cell? ⟨hx, 1, none⟩ = some (.int .i64 7) := (X4.out.alloc _).cell 1
    have x2 : (w4.alloc (.cells #[.int .i64 0, .int .i64 0, .int .u64 0] 39)).cell? ⟨hx, 2, none⟩ = some (.int .u64 2) := (X4.out.alloc _).cell 2
    have y0 : (w4.alloc (.cells #[.int .i64 0, .int .i64 0, .int .u64 0] 39)).cell? ⟨w.heap.size, 0, none⟩ = some (.int .i64 3) := (H4.out.alloc _).cell 0
    have y1 : (w4.alloc (.cells #[.int .i64 0, .int .i64 0, .int .u64 0] 39)).cell? ⟨w.heap.size, 1, none⟩ = some (.int .i64 7) := (H4.out.alloc _).cell 1
    have y2 : (w4.alloc (.cells #[.int .i64 0, .int .i64 0, .int .u64 0] 39)).cell? ⟨w.heap.size, 2, none⟩ = some (.int .u64 2) := (H4.out.alloc _).cell 2
    go_wp2_with fail
    go_ret
    exact ⟨rfl, B4.out.alloc B4.out.size _⟩
  · exact absurd h (by decide)
set_option maxHeartbeats 1000000 in
theorem pageNames_walk (w : World) : Calls Try.prog 9 #[] w fun e w' => e = .returned (.bool true) ∧ Below w.heap.size w w' := by
  go_enter Try.func9, Try.ntmps9
  go_wp2_with fail
  refine (alive_true w).mono ?_
  rintro e w2 ⟨rfl, b2⟩
  go_wp2_with fail
  go_ret
  exact ⟨rfl, b2⟩
end Go.Proofs.Ytofhdehigfdmkaa
