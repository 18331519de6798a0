/- FROM A WALK TO A ROW: a script of steps that came in. -/
import Derived.Test.YtghakgepchlpgaaDoorZ
namespace Go.Proofs.YtghakgepchlpgaaDoor
open Go.ChangeShapes Go.WideShapes Go.ChangeAt Go.RowKit Spc

/-- a slice of bytes in a cell of its own -/
theorem bytes_core {H : Type} {enc : TypeId × Value → H} {W : World} {fuel : Nat} {v : Value} {y : DataW H × List MemPlace}
    (hf : DataW.trod enc Tryd.prog W 0 (fun _ => true) true fuel 35 [v] = some y) :
    ∃ (A : Option Addr) (cap : Nat) (l : List UInt8), v = .slice A l.length cap ∧ Rd W W.heap.size A l ∧ l.length ≤ cap ∧
      ((y.1 = .nil ∧ l = []) ∨ ∃ es sp, y.1 = .slice es sp ∧ es.length = l.length) := by
  rcases open_ints Tryd.underlying35 Tryd.underlying5 (by kernel_rfl) hf with ⟨hcs, hx⟩ | ⟨x, len, cap, zs, hcs, _, hl, hm, hz, hx, hcell, hwz⟩
  · simp only [List.cons.injEq, and_true] at hcs
    exact ⟨none, 0, [], hcs, .inl rfl, by simp, .inl ⟨by rw [hx], rfl⟩⟩
  · simp only [List.cons.injEq, and_true] at hcs
    simp only [if_true] at hz
    obtain ⟨bs, hbl, hb⟩ := as_bytes zs hwz
    have hlen : (bs.take len).length = len := by rw [List.length_take]; omega
    refine ⟨some x, cap, bs.take len, by rw [hlen]; exact hcs, ?_, by omega, .inr ⟨lits .u8 (zs.take len), lits .u8 (zs.drop len), by rw [hx], ?_⟩⟩
    · by_cases h0 : len = 0
      · left; subst h0; simp
      · right
        obtain ⟨b, off, rfl, hc⟩ := ints_at hcell (by omega)
        refine ⟨b, off, rfl, ?_, fun k hk => ?_⟩
        · have := World.block_lt_of_cell? _ _ (hc 0 (by omega))
          exact this
        · rw [hlen] at hk
          rw [hc k (by omega), hb k (by omega)]
          congr 3
          simp [List.getD, hk]
    · rw [hlen]; simp [lits]; omega
theorem step_in {H : Type} {enc : TypeId × Value → H} {W : World} {n : Nat} {cs : List Value} {y : DataW H × List MemPlace}
    (h : DataW.trod enc Tryd.prog W 0 (fun _ => true) true n 56 cs = some y) (hl : cs.length = 4) :
    ∃ (k : Bool) (c z : Int) (A : Option Addr) (l : List UInt8) (cb : Nat) (d0 d1 d2 d3 : DataW H), cs = [.bool k, .int .i64 c, .int .i64 z, .slice A l.length cb] ∧ Rd W W.heap.size A l ∧ l.length ≤ cb ∧ y.1 = .agg [d0, d1, d2, d3] ∧
      ((d3 = .nil ∧ l = []) ∨ ∃ es sp, d3 = .slice es sp ∧ es.length = l.length) := by
  obtain ⟨xs, m, _, hx, _, hlen, hg⟩ := DataW.trod_struct Tryd.underlying56 h
  match cs, hl with
  | [c0, c1, c2, c3], _ =>
    match xs, hlen with
    | [y0, y1, y2, y3], _ =>
      have g0 := hg 0 _ rfl
      have g1 := hg 1 _ rfl
      have g2 := hg 2 _ rfl
      have g3 := hg 3 _ rfl
      have e4 : Tryd.prog.cellsOf 4 = 1 := by kernel_rfl
      have e3 : Tryd.prog.cellsOf 3 = 1 := by kernel_rfl
      have e35 : Tryd.prog.cellsOf 35 = 1 := by kernel_rfl
      simp [e4, e3, e35] at g0 g1 g2 g3
      obtain ⟨k, q0, _⟩ := DataW.trod_bool Tryd.underlying4 g0
      obtain ⟨c, q1, _, _⟩ := DataW.trod_int Tryd.underlying3 g1
      obtain ⟨z, q2, _, _⟩ := DataW.trod_int Tryd.underlying3 g2
      obtain ⟨A, cb, l, q3, r1, r2, r3⟩ := bytes_core g3
      simp at q0 q1 q2
      exact ⟨k, c, z, A, l, cb, y0.1, y1.1, y2.1, y3.1, by rw [q0, q1, q2, q3], r1, r2, by rw [hx]; rfl, r3⟩
theorem weights_all {H : Type} {e : TypeId} : ∀ {l : List (DataW H)} {d : DataW H}, d ∈ l → ∀ m ∈ d.weights Tryd.prog e, m ∈ DataW.weightsAll Tryd.prog e l
  | [], d, h, _, _ => by cases h
  | x :: l, d, h, m, hm => by
    simp only [DataW.weightsAll, List.mem_append]
    rcases List.mem_cons.1 h with rfl | h
    · exact .inl hm
    · exact .inr (weights_all h m hm)
instance : Inhabited StepD := ⟨⟨false, 0, 0, none, [], 0⟩⟩
theorem steps_in {H : Type} {enc : TypeId × Value → H} {W : World} {base : Nat} {v : Value} {d : DataW H} {p : List MemPlace}
    (hv : Value.okWide Tryd.prog W .any base 47 v) (h : DataW.Trod enc Tryd.prog W 0 (fun _ => true) true 47 v d p) (hsz : ∀ m ∈ d.weights Tryd.prog 47, m ≤ reachBytes) :
    ∃ (A : Option Addr) (cap : Nat) (l : List StepD), v = .slice A l.length cap ∧ RdO W W.heap.size A l ∧ l.length ≤ maxLen := by
  obtain ⟨a0, len, cap, rfl⟩ := okWide_slice Tryd.underlying47 hv
  obtain ⟨fuel, hf⟩ := h
  rcases Go.Deep.open_slice Tryd.underlying47 hf with ⟨hcs, _⟩ | ⟨a, l, c, m, n, D, Pl, hcs, _, hlc, hcm, hm, hd, hel⟩
  · simp [Value.cells] at hcs
    obtain ⟨rfl, rfl, rfl⟩ := hcs
    exact ⟨none, 0, [], rfl, ⟨fun o ho => (by cases ho), .inl rfl⟩, by simp⟩
  · simp [Value.cells] at hcs
    obtain ⟨rfl, rfl, rfl⟩ := hcs
    simp only [if_true] at hm
    have c56 : Tryd.prog.cellsOf 56 = 4 := by kernel_rfl
    have hdd : d = .slice ((List.range len).map D) ((List.range (m - len)).map fun j => D (len + j)) := congrArg Prod.fst hd
    rw [c56] at hel
    have hex : ∀ i, i < len → ∃ o : StepD, (W.cell? (a.add (i * 4)) = some (.bool o.k) ∧ W.cell? ((a.add (i * 4)).add 1) = some (.int .i64 o.c) ∧ W.cell? ((a.add (i * 4)).add 2) = some (.int .i64 o.z) ∧ W.cell? ((a.add (i * 4)).add 3) = some (.slice o.A o.l.length o.cb)) ∧ o.ok W W.heap.size := by
      intro i hi
      obtain ⟨cs', hc, ht⟩ := hel i (by omega)
      obtain ⟨_, hlen, hget⟩ := World.cells?_some hc
      obtain ⟨k, c, z, A, lb, cb, d0, d1, d2, d3, rfl, r1, r2, r3, r4⟩ := step_in ht hlen
      have h0 := hget 0 (by omega)
      have h1 := hget 1 (by omega)
      have h2 := hget 2 (by omega)
      have h3 := hget 3 (by omega)
      rw [show (a.add (i * 4)).add 0 = a.add (i * 4) by simp [Addr.add]] at h0
      refine ⟨⟨k, c, z, A, lb, cb⟩, ⟨h0, h1, h2, h3⟩, r1, r2, ?_⟩
      rcases r4 with ⟨_, rfl⟩ | ⟨es, sp, rfl, hes⟩
      · simp
      · have hw : (es.length + sp.length) * Tryd.prog.bytesOf 5 ∈ d.weights Tryd.prog 47 := by
          rw [hdd]
          simp only [DataW.weights, Tryd.underlying47]
          refine List.mem_cons_of_mem _ (List.mem_append_left _ (weights_all (d := D i) (List.mem_map.2 ⟨i, by simpa using hi, rfl⟩) _ ?_))
          rw [show D i = .agg [d0, d1, d2, .slice es sp] from r3]
          simp only [DataW.weights, Tryd.underlying56]
          refine DataW.weights_mem_each (j := 3) (t := 35) (d := .slice es sp) rfl rfl _ ?_
          simp only [DataW.weights, Tryd.underlying35]
          exact List.mem_cons_self ..
        have := hsz _ hw
        rw [show Tryd.prog.bytesOf 5 = 1 by kernel_rfl] at this
        unfold reachBytes at this
        show lb.length ≤ _
        omega
    obtain ⟨V, hV⟩ := Go.Deep.choose_lt hex
    refine ⟨some a, cap, (List.range len).map V, by simp, ⟨fun o ho => ?_, ?_⟩, by simp; omega⟩
    · obtain ⟨i, hi, rfl⟩ := List.mem_map.1 ho
      exact (hV i (by simpa using hi)).2
    · by_cases h0 : len = 0
      · left; subst h0; rfl
      · right
        obtain ⟨b, off, spot⟩ := a
        have hspot : spot = none := by
          have := World.cell?_spot (hV 0 (by omega)).1.1
          simpa [Addr.add] using this
        subst hspot
        refine ⟨b, off, rfl, ?_, fun k hk => ?_⟩
        · have := World.block_lt_of_cell? _ _ (hV 0 (by omega)).1.1
          simpa [Addr.add] using this
        · have hk' : k < len := by simpa using hk
          have hg : ((List.range len).map V)[k]'hk = V k := by simp
          rw [hg]
          have h1 := (hV k hk').1
          simp only [Go.WideShapes.add_plain] at h1
          exact h1
theorem spacePlays_walk (A : Option Addr) (c : Nat) (b1 u1 b2 u2 : Int) (l : List StepD) (w : World) (hT : Tab w) (hr : RdO w w.heap.size A l) (hl : l.length ≤ maxLen) :
    Calls Tryd.prog 7 #[.int .i64 b1, .int .i64 u1, .int .i64 b2, .int .i64 u2, .slice A l.length c] w fun e w' => e = .returned (.bool true) ∧ Below w.heap.size w w' := by
  by_cases h1 : badU b1 u1
  · by_cases h2 : badU b2 u2
    · exact plays_bb A c l.length b1 u1 b2 u2 w hT h1 h2
    · unfold badU at h2
      obtain ⟨N, rfl⟩ : ∃ N : Nat, b2 = (N : Int) := ⟨b2.toNat, by omega⟩
      obtain ⟨n, rfl⟩ : ∃ n : Nat, u2 = (n : Int) := ⟨u2.toNat, by omega⟩
      exact plays_bg A c l.length b1 u1 N n w hT h1 (by omega)
  · unfold badU at h1
    obtain ⟨N, rfl⟩ : ∃ N : Nat, b1 = (N : Int) := ⟨b1.toNat, by omega⟩
    obtain ⟨n, rfl⟩ : ∃ n : Nat, u1 = (n : Int) := ⟨u1.toNat, by omega⟩
    by_cases h2 : badU b2 u2
    · exact plays_gb A c l.length N n b2 u2 w hT (by omega) h2
    · unfold badU at h2
      obtain ⟨N2, rfl⟩ : ∃ N : Nat, b2 = (N : Int) := ⟨b2.toNat, by omega⟩
      obtain ⟨n2, rfl⟩ : ∃ n : Nat, u2 = (n : Int) := ⟨u2.toNat, by omega⟩
      exact plays_gg A c l N n N2 n2 w hT (by omega) (by omega) hr (by unfold maxLen at hl; omega)
end Go.Proofs.YtghakgepchlpgaaDoor
