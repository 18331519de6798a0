/- FROM A WALK TO A ROW: slices of bytes and of ints that came in; SpaceOnce's walk over both ways. -/
import Derived.Test.YtghakgepchlpgaaDoorL
import Derived.Test.YtghakgepchlpgaaDoorH
namespace Go.Proofs.YtghakgepchlpgaaDoor
open Go.ChangeShapes Go.WideShapes Go.ChangeAt Go.RowKit Spc

/-- numbers that are bytes -/
theorem as_bytes (zs : List Int) (h : ∀ n ∈ zs, (Lit.int .u8 n).wf = true) : ∃ l : List UInt8, l.length = zs.length ∧ ∀ k, k < zs.length → zs.getD k 0 = ((l.getD k 0).toNat : Int) := by
  induction zs with
  | nil => exact ⟨[], rfl, fun k hk => by simp at hk⟩
  | cons z zs ih =>
    obtain ⟨l, hl, hk⟩ := ih fun n hn => h n (by simp [hn])
    have hz := h z (by simp)
    have hb : 0 ≤ z ∧ z ≤ 255 := by simpa [Lit.wf, IntKind.min, IntKind.max, IntKind.signed, IntKind.bits] using hz
    refine ⟨UInt8.ofNat z.toNat :: l, by simp [hl], fun k hlt => ?_⟩
    cases k with
    | zero =>
      simp only [List.getD_cons_zero, UInt8.toNat_ofNat']
      omega
    | succ k =>
      simp only [List.getD_cons_succ]
      exact hk k (by simpa using hlt)

/-- a slice of bytes that came in -/
theorem bytes_in {H : Type} {enc : TypeId × Value → H} {W : World} {base : Nat} {v : Value} {d : DataW H} {p : List MemPlace}
    (hv : Value.okWide Tryd.prog W .any base 35 v) (h : DataW.Trod enc Tryd.prog W 0 (fun _ => true) true 35 v d p) :
    ∃ (A : Option Addr) (cap : Nat) (l : List UInt8), v = .slice A l.length cap ∧ Rd W W.heap.size A l ∧ l.length ≤ maxLen ∧ l.length ≤ cap ∧ (A = none → cap = 0) ∧
      ((d = .nil ∧ l = []) ∨ ∃ es sp, d = .slice es sp ∧ es.length = l.length) := by
  obtain ⟨a0, len, cap, rfl⟩ := okWide_slice Tryd.underlying35 hv
  obtain ⟨fuel, hf⟩ := h
  have hlt := DataW.trod_lt fuel _ _ _ hf
  rcases open_ints Tryd.underlying35 Tryd.underlying5 (by kernel_rfl) hf with ⟨hcs, hx⟩ | ⟨x, l, c, zs, hcs, _, hl, hm, hz, hx, hcell, hwz⟩
  · simp [Value.cells] at hcs
    obtain ⟨rfl, rfl, rfl⟩ := hcs
    simp only [Prod.mk.injEq] at hx
    exact ⟨none, 0, [], rfl, .inl rfl, by simp, Nat.le_refl _, fun _ => rfl, .inl ⟨hx.1, rfl⟩⟩
  · simp [Value.cells] at hcs
    obtain ⟨rfl, rfl, rfl⟩ := hcs
    simp only [if_true] at hz
    simp only [Prod.mk.injEq] at hx
    obtain ⟨bs, hbl, hb⟩ := as_bytes zs hwz
    have hd : d = .slice (lits .u8 (zs.take len)) (lits .u8 (zs.drop len)) := hx.1
    have hlen : (bs.take len).length = len := by rw [List.length_take]; omega
    refine ⟨some x, cap, bs.take len, by rw [hlen], ?_, by omega, by omega, (fun hh => by cases hh), .inr ⟨_, _, hd, ?_⟩⟩
    · by_cases h0 : len = 0
      · left; subst h0; simp
      · right
        obtain ⟨b, off, rfl, hc⟩ := ints_at hcell (by omega)
        refine ⟨b, off, rfl, ?_, fun k hk => ?_⟩
        · have := hlt (.cell b off) (by
            have := hx.2
            show MemPlace.cell b off ∈ p
            rw [this]
            obtain ⟨n, hn⟩ : ∃ n, zs.length = n + 1 := ⟨zs.length - 1, by omega⟩
            rw [hn]
            simp [MemPlace.row, List.range_succ_eq_map])
          exact this
        · rw [hlen] at hk
          rw [hc k (by omega), hb k (by omega)]
          congr 3
          simp [List.getD, hk]
    · rw [hlen]; simp [lits]; omega

/-- a slice of ints that came in -/
theorem ints_in {H : Type} {enc : TypeId × Value → H} {W : World} {base : Nat} {v : Value} {d : DataW H} {p : List MemPlace}
    (hv : Value.okWide Tryd.prog W .any base 23 v) (h : DataW.Trod enc Tryd.prog W 0 (fun _ => true) true 23 v d p) :
    ∃ (A : Option Addr) (cap : Nat) (l : List Int), v = .slice A l.length cap ∧ RdI W W.heap.size A l ∧ l.length ≤ maxLen ∧ l.length ≤ cap ∧ (∀ n ∈ l, -9223372036854775808 ≤ n ∧ n ≤ 9223372036854775807) := by
  obtain ⟨a0, len, cap, rfl⟩ := okWide_slice Tryd.underlying23 hv
  obtain ⟨fuel, hf⟩ := h
  have hlt := DataW.trod_lt fuel _ _ _ hf
  rcases open_ints Tryd.underlying23 Tryd.underlying3 (by kernel_rfl) hf with ⟨hcs, hx⟩ | ⟨x, l, c, zs, hcs, _, hl, hm, hz, hx, hcell, hwz⟩
  · simp [Value.cells] at hcs
    obtain ⟨rfl, rfl, rfl⟩ := hcs
    exact ⟨none, 0, [], rfl, .inl rfl, by simp, Nat.le_refl _, by simp⟩
  · simp [Value.cells] at hcs
    obtain ⟨rfl, rfl, rfl⟩ := hcs
    simp only [if_true] at hz
    simp only [Prod.mk.injEq] at hx
    have hlen : (zs.take len).length = len := by rw [List.length_take]; omega
    refine ⟨some x, cap, zs.take len, by rw [hlen], ?_, by omega, by omega, fun n hn => ⟨i64_ge _ (hwz n (List.mem_of_mem_take hn)), i64_le _ (hwz n (List.mem_of_mem_take hn))⟩⟩
    by_cases h0 : len = 0
    · left; subst h0; simp
    · right
      obtain ⟨b, off, rfl, hc⟩ := ints_at hcell (by omega)
      refine ⟨b, off, rfl, ?_, fun k hk => ?_⟩
      · have := hlt (.cell b off) (by
          have := hx.2
          show MemPlace.cell b off ∈ p
          rw [this]
          obtain ⟨n, hn⟩ : ∃ n, zs.length = n + 1 := ⟨zs.length - 1, by omega⟩
          rw [hn]
          simp [MemPlace.row, List.range_succ_eq_map])
        exact this
      · rw [hlen] at hk
        rw [hc k (by omega)]
        congr 2
        simp [List.getD, hk]

theorem spaceOnce_walk (A : Option Addr) (c : Nat) (a u : Int) (l : List Int) (w : World) (hT : Tab w) (hr : RdI w w.heap.size A l) (hl : l.length ≤ maxLen) :
    Calls Tryd.prog 4 #[.int .i64 a, .int .i64 u, .slice A l.length c] w fun e w' => e = .returned (.bool true) ∧ Below w.heap.size w w' := by
  by_cases h : a < 16 ∨ 65536 < a ∨ u < 0 ∨ a < u
  · exact bad_walk A c a u l.length w hT h
  · obtain ⟨N, rfl⟩ : ∃ N : Nat, a = (N : Int) := ⟨a.toNat, by omega⟩
    obtain ⟨n, rfl⟩ : ∃ n : Nat, u = (n : Int) := ⟨u.toNat, by omega⟩
    exact spaceOnce_good A c N n l w hT hr (by unfold maxLen at hl; omega) (by omega) (by omega) (by omega)
end Go.Proofs.YtghakgepchlpgaaDoor
