/- THE WORLD of layer 12's statements: its blocks, its caches. -/
import Derived.Test.YtghakgepchlpgaaX3
namespace Go.Proofs.Ytghakgepchlpgaa
open Go.RowKit Go.Maps
/-- a list that came out -/
structure Row where
  A : Option Addr
  c : Nat
  l : List Int
def Row.v (r : Row) : Value := .slice r.A r.l.length r.c
def ptrL (N : Nat) (p : Nat → Nat) : List Value := (List.range N).map fun i => .pointer (some ⟨p i, 0, none⟩)
theorem ptrL_length (N : Nat) (p : Nat → Nat) : (ptrL N p).length = N := by simp [ptrL]
theorem ptrL_get (N : Nat) (p : Nat → Nat) (i : Nat) (h : i < N) : (ptrL N p)[i]? = some (.pointer (some ⟨p i, 0, none⟩)) := by simp [ptrL, h]
theorem ptrL_one (N : Nat) (p : Nat → Nat) : ∀ u ∈ ptrL N p, u.oneCell' = true := by
  intro u hu
  obtain ⟨i, -, rfl⟩ := List.mem_map.1 hu
  rfl
structure Wo (B : Nat) (w : World) (gw N : Nat) (pt : Nat → Nat → Nat) (CV LV RV OV WV : Value) (rs ws : List Row) : Prop where
  blk : Blk w gw 48 #[CV, LV, RV, OV, WV]
  c : w.ownsRow B 25 1 CV N (ptrL N (pt 0))
  l : w.ownsRow B 63 1 LV N (ptrL N (pt 1))
  r : w.ownsRow B 65 1 RV N (ptrL N (pt 2))
  ov : w.ownsRow B 29 1 OV rs.length (rs.map Row.v)
  wv : w.ownsRow B 29 1 WV ws.length (ws.map Row.v)
  ne : ∀ k, OV.ownBlock = some k → WV.ownBlock ≠ some k
  rows : ∀ r ∈ rs, OwnsI w B r.v r.l ∧ r.l.length ≤ 65536
  was : ∀ r ∈ ws, OwnsI w B r.v r.l
  same : ws.map Row.l = rs.map Row.l
  apart : rs.Pairwise fun a b => ∀ k, a.v.ownBlock = some k → b.v.ownBlock ≠ some k
  low : B ≤ gw
  size : B ≤ w.heap.size
/-- the world's own blocks -/
def FWo (gw : Nat) (CV LV RV OV WV : Value) (rs ws : List Row) (k : Nat) : Prop :=
  k = gw ∨ CV.ownBlock = some k ∨ LV.ownBlock = some k ∨ RV.ownBlock = some k ∨ OV.ownBlock = some k ∨ WV.ownBlock = some k ∨ (∃ r ∈ rs, r.v.ownBlock = some k) ∨ ∃ r ∈ ws, r.v.ownBlock = some k
theorem rowKept {S : Nat → Prop} {w w' : World} {B e size n : Nat} {v : Value} {xs : List Value} (h : w.ownsRow B e size v n xs) (k : Kept S w w') (hs : ∀ g, v.ownBlock = some g → ¬ S g) : w'.ownsRow B e size v n xs := by
  refine ⟨h.1, h.2.imp id ?_⟩
  rintro ⟨g, cap, cur, rfl, hb, hg, rest⟩
  exact ⟨g, cap, cur, rfl, hb, (k.block g (Array.getElem?_eq_some_iff.1 hg).1 (hs g rfl)).trans hg, rest⟩
theorem rowType {w : World} {B e size n : Nat} {v : Value} {xs : List Value} (h : w.ownsRow B e size v n xs) (g : Nat) (hg : v.ownBlock = some g) : ∃ cs, w.heap[g]? = some (.cells cs e (0, 0)) := by
  rcases h.2 with ⟨rfl, _⟩ | ⟨g', cap, cur, rfl, hb, hh, rest⟩
  · simp [Value.ownBlock] at hg
  · simp [Value.ownBlock] at hg
    subst hg
    exact ⟨_, hh⟩
theorem types_ne {w : World} {g k : Nat} {a b : Array Value} {s t : TypeId} {fr fr' : Nat × Nat} (h : w.heap[g]? = some (.cells a s fr)) (h' : w.heap[k]? = some (.cells b t fr')) (ht : s ≠ t) : g ≠ k := by
  rintro rfl
  rw [h] at h'
  injection h' with h'
  injection h' with _ h2 _
  exact ht h2
theorem rowShape {w : World} {B e size n : Nat} {v : Value} {xs : List Value} (h : w.ownsRow B e size v n xs) : ∃ A c, v = .slice A n c := by
  rcases h.2 with ⟨rfl, rfl⟩ | ⟨g, cap, cur, rfl, _⟩
  · exact ⟨none, 0, rfl⟩
  · exact ⟨_, _, rfl⟩
/-- one value of a slice -/
theorem rowAt {w : World} {B e N : Nat} {v : Value} {xs : List Value} (h : w.ownsRow B e 1 v N xs) (i : Nat) (u : Value) (hi : i < N) (hu : xs[i]? = some u) :
    ∃ gL cL, v = .slice (some ⟨gL, 0, none⟩) N cL ∧ B ≤ gL ∧ gL < w.heap.size ∧ w.cell? ⟨gL, i, none⟩ = some u ∧ ∃ cs, w.heap[gL]? = some (Obj.cells cs e (0, 0)) := by
  rcases h.2 with ⟨rfl, h0⟩ | ⟨g, cap, cur, rfl, hb, hg, hn, hc, hs, hk⟩
  · omega
  · refine ⟨g, cap, rfl, hb, (Array.getElem?_eq_some_iff.1 hg).1, ?_, cur, hg⟩
    rw [cell_of_row w g i cur e (0, 0) hg, ← hu, ← hk, List.getElem?_take, if_pos (by omega), Array.getElem?_toList]
section
variable {B gw N : Nat} {w w' w0 : World} {pt : Nat → Nat → Nat} {CV LV RV OV WV : Value} {rs ws : List Row} {ob : Nat → Nat → Ob}
theorem Wo.kept {S : Nat → Prop} (h : Wo B w gw N pt CV LV RV OV WV rs ws) (hk : Kept S w w') (hs : ∀ k, FWo gw CV LV RV OV WV rs ws k → ¬ S k) : Wo B w' gw N pt CV LV RV OV WV rs ws :=
  ⟨h.blk.kept hk (hs gw (.inl rfl)), rowKept h.c hk fun g e => hs g (.inr (.inl e)), rowKept h.l hk fun g e => hs g (.inr (.inr (.inl e))), rowKept h.r hk fun g e => hs g (.inr (.inr (.inr (.inl e)))),
    rowKept h.ov hk fun g e => hs g (.inr (.inr (.inr (.inr (.inl e))))), rowKept h.wv hk fun g e => hs g (.inr (.inr (.inr (.inr (.inr (.inl e)))))), h.ne,
    fun r hr => ⟨rowKept (h.rows r hr).1 hk fun g e => hs g (.inr (.inr (.inr (.inr (.inr (.inr (.inl ⟨r, hr, e⟩))))))), (h.rows r hr).2⟩,
    fun r hr => rowKept (h.was r hr) hk fun g e => hs g (.inr (.inr (.inr (.inr (.inr (.inr (.inr ⟨r, hr, e⟩))))))), h.same, h.apart, h.low, Nat.le_trans h.size hk.size⟩
theorem Wo.in_ (h : Wo B w gw N pt CV LV RV OV WV rs ws) : ∀ k, FWo gw CV LV RV OV WV rs ws k → B ≤ k ∧ k < w.heap.size := by
  rintro k (rfl | e | e | e | e | e | ⟨r, hr, e⟩ | ⟨r, hr, e⟩)
  · exact ⟨h.low, h.blk.lt⟩
  · exact World.ownsRow.lt h.c k e
  · exact World.ownsRow.lt h.l k e
  · exact World.ownsRow.lt h.r k e
  · exact World.ownsRow.lt h.ov k e
  · exact World.ownsRow.lt h.wv k e
  · exact World.ownsRow.lt (h.rows r hr).1 k e
  · exact World.ownsRow.lt (h.was r hr) k e
structure Md (B : Nat) (w0 w : World) (gw N : Nat) (pt : Nat → Nat → Nat) (CV LV RV OV WV : Value) (rs ws : List Row) (ob : Nat → Nat → Ob) : Prop where
  wo : Wo B w gw N pt CV LV RV OV WV rs ws
  sys : Sys B w N ob (FWo gw CV LV RV OV WV rs ws)
  pts : ∀ K i, K < 3 → i < N → (ob K i).p = pt K i
  bel : Below B w0 w
theorem Md.step (h : Md B w0 w gw N pt CV LV RV OV WV rs ws ob) {K i : Nat} (hK : K < 3) (hi : i < N) {o' : Ob} (ho : isK K w' o') (hp : o'.p = pt K i) (hk : Kept (ob K i).F w w') (hnw : Nw (ob K i).F o'.F w) : Md B w0 w' gw N pt CV LV RV OV WV rs ws (upO ob K i o') := by
  refine ⟨h.wo.kept hk fun k f1 f2 => h.sys.fw K i hK hi k f2 f1, h.sys.step hK hi ho hk hnw (fun k f => (h.wo.in_ k f).2) h.wo.size, fun K' i' a b => ?_, h.bel.trans ?_⟩
  · by_cases e : K' = K ∧ i' = i
    · obtain ⟨rfl, rfl⟩ := e
      rw [upO_same]; exact hp
    · have e' : K' ≠ K ∨ i' ≠ i := by
        by_cases h1 : K' = K
        · exact .inr fun h2 => e ⟨h1, h2⟩
        · exact .inl h1
      rw [upO_other _ _ _ _ _ _ e']
      exact h.pts K' i' a b
  · exact hk.below (fun k f => h.sys.lo K i hK hi k f) h.wo.size
theorem Md.frame {S : Nat → Prop} (h : Md B w0 w gw N pt CV LV RV OV WV rs ws ob) (hk : Kept S w w') (hs : ∀ k, k < w.heap.size → ¬ S k) : Md B w0 w' gw N pt CV LV RV OV WV rs ws ob := by
  refine ⟨h.wo.kept hk fun k f1 f2 => hs k (h.wo.in_ k f1).2 f2, h.sys.frame hk (fun k a b => absurd b (hs k a)) fun k f => .inl f, h.pts, h.bel.trans ?_⟩
  exact ⟨hk.os, hk.tape, hk.output, hk.size, fun k hk' => hk.block k (Nat.lt_of_lt_of_le hk' h.wo.size) (hs k (Nat.lt_of_lt_of_le hk' h.wo.size))⟩
/-- a triple that agrees -/
def Ok3 (ob : Nat → Nat → Ob) (i : Nat) (P hit miss : Int) (M : List Th) : Prop := ∀ K, K < 3 → (ob K i).P = P ∧ (ob K i).hit = hit ∧ (ob K i).miss = miss ∧ (ob K i).M = M
structure Good (N steps : Nat) (ob : Nat → Nat → Ob) : Prop where
  ok : ∀ i, i < N → ∃ P hit miss M, Ok3 ob i P hit miss M ∧ 1 ≤ P ∧ P ≤ 65536 ∧ (M.length : Int) ≤ P ∧ ∀ t ∈ M, 0 ≤ t.p ∧ t.p ≤ steps
theorem Good.set {steps : Nat} (h : Good N steps ob) {i : Nat} {oA oL oR : Ob} {P hit miss : Int} {M : List Th} (hA : oA.P = P ∧ oA.hit = hit ∧ oA.miss = miss ∧ oA.M = M) (hL : oL.P = P ∧ oL.hit = hit ∧ oL.miss = miss ∧ oL.M = M) (hR : oR.P = P ∧ oR.hit = hit ∧ oR.miss = miss ∧ oR.M = M)
    (h1 : 1 ≤ P) (h2 : P ≤ 65536) (h3 : (M.length : Int) ≤ P) (h4 : ∀ t ∈ M, 0 ≤ t.p ∧ t.p ≤ ((steps + 1 : Nat) : Int)) : Good N (steps + 1) (upO (upO (upO ob 0 i oA) 1 i oL) 2 i oR) := by
  refine ⟨fun j hj => ?_⟩
  by_cases e : j = i
  · subst e
    refine ⟨P, hit, miss, M, fun K hK => ?_, h1, h2, h3, h4⟩
    match K, hK with
    | 0, _ => rw [upO_other _ _ _ _ _ _ (.inl (by decide)), upO_other _ _ _ _ _ _ (.inl (by decide)), upO_same]; exact hA
    | 1, _ => rw [upO_other _ _ _ _ _ _ (.inl (by decide)), upO_same]; exact hL
    | 2, _ => rw [upO_same]; exact hR
  · obtain ⟨P, hit, miss, M, a, b, c, d, f⟩ := h.ok j hj
    refine ⟨P, hit, miss, M, fun K hK => ?_, b, c, d, fun t ht => ⟨(f t ht).1, by have := (f t ht).2; omega⟩⟩
    rw [upO_other _ _ _ _ _ _ (.inr e), upO_other _ _ _ _ _ _ (.inr e), upO_other _ _ _ _ _ _ (.inr e)]
    exact a K hK
theorem Good.more {steps : Nat} (h : Good N steps ob) : Good N (steps + 1) ob := ⟨fun j hj => by
  obtain ⟨P, hit, miss, M, a, b, c, d, f⟩ := h.ok j hj
  exact ⟨P, hit, miss, M, a, b, c, d, fun t ht => ⟨(f t ht).1, by have := (f t ht).2; omega⟩⟩⟩
/-- a number in a model: there, at a place, or not -/
theorem split_or (M : List Th) (n : Int) : (∃ u e v, M = u ++ e :: v ∧ e.n = n ∧ ∀ y ∈ u, y.n ≠ n) ∨ ∀ y ∈ M, y.n ≠ n := by
  induction M with
  | nil => exact .inr fun y hy => by cases hy
  | cons t M ih =>
    by_cases h : t.n = n
    · exact .inl ⟨[], t, M, rfl, h, fun y hy => by cases hy⟩
    · rcases ih with ⟨u, e, v, rfl, he, hu⟩ | hno
      · refine .inl ⟨t :: u, e, v, rfl, he, fun y hy => ?_⟩
        rcases List.mem_cons.1 hy with rfl | hy
        · exact h
        · exact hu y hy
      · refine .inr fun y hy => ?_
        rcases List.mem_cons.1 hy with rfl | hy
        · exact h
        · exact hno y hy
theorem Wo.three (h : Wo B w gw N pt CV LV RV OV WV rs ws) {i : Nat} (hi : i < N) : ∃ g0 c0 g1 c1 g2 c2, CV = .slice (some ⟨g0, 0, none⟩) N c0 ∧ LV = .slice (some ⟨g1, 0, none⟩) N c1 ∧ RV = .slice (some ⟨g2, 0, none⟩) N c2 := by
  obtain ⟨g0, c0, e0, -⟩ := rowAt h.c i _ hi (ptrL_get N (pt 0) i hi)
  obtain ⟨g1, c1, e1, -⟩ := rowAt h.l i _ hi (ptrL_get N (pt 1) i hi)
  obtain ⟨g2, c2, e2, -⟩ := rowAt h.r i _ hi (ptrL_get N (pt 2) i hi)
  exact ⟨g0, c0, g1, c1, g2, c2, e0, e1, e2⟩
theorem Wo.at0 {g0 c0 : Nat} (h : Wo B w gw N pt (.slice (some ⟨g0, 0, none⟩) N c0) LV RV OV WV rs ws) {i : Nat} (hi : i < N) : w.cell? ⟨gw, 0, none⟩ = some (.slice (some ⟨g0, 0, none⟩) N c0) ∧ w.cell? ⟨g0, i, none⟩ = some (.pointer (some ⟨pt 0 i, 0, none⟩)) := by
  obtain ⟨g, c, e, -, -, hc, -⟩ := rowAt h.c i _ hi (ptrL_get N (pt 0) i hi)
  injection e with e1 _ _
  injection e1 with e1
  injection e1 with e1 _ _
  subst e1
  exact ⟨h.blk.cell 0, hc⟩
theorem Wo.at1 {g0 c0 : Nat} (h : Wo B w gw N pt CV (.slice (some ⟨g0, 0, none⟩) N c0) RV OV WV rs ws) {i : Nat} (hi : i < N) : w.cell? ⟨gw, 1, none⟩ = some (.slice (some ⟨g0, 0, none⟩) N c0) ∧ w.cell? ⟨g0, i, none⟩ = some (.pointer (some ⟨pt 1 i, 0, none⟩)) := by
  obtain ⟨g, c, e, -, -, hc, -⟩ := rowAt h.l i _ hi (ptrL_get N (pt 1) i hi)
  injection e with e1 _ _
  injection e1 with e1
  injection e1 with e1 _ _
  subst e1
  exact ⟨h.blk.cell 1, hc⟩
theorem Wo.at2 {g0 c0 : Nat} (h : Wo B w gw N pt CV LV (.slice (some ⟨g0, 0, none⟩) N c0) OV WV rs ws) {i : Nat} (hi : i < N) : w.cell? ⟨gw, 2, none⟩ = some (.slice (some ⟨g0, 0, none⟩) N c0) ∧ w.cell? ⟨g0, i, none⟩ = some (.pointer (some ⟨pt 2 i, 0, none⟩)) := by
  obtain ⟨g, c, e, -, -, hc, -⟩ := rowAt h.r i _ hi (ptrL_get N (pt 2) i hi)
  injection e with e1 _ _
  injection e1 with e1
  injection e1 with e1 _ _
  subst e1
  exact ⟨h.blk.cell 2, hc⟩
end
end Go.Proofs.Ytghakgepchlpgaa
