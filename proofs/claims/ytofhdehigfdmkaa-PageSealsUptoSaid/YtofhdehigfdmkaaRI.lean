/- THE WALKS of mark and full; an append of a mark, told by what it leaves. -/
import Derived.Test.YtofhdehigfdmkaaRG
import Derived.ArgAppend
namespace Go.Proofs.Ytofhdehigfdmkaa
open Go.RowKit
/-- of a list, its mark -/
def mk (i : Nat) : UInt8 := UInt8.ofNat (1 + i % 251)
theorem mk_nat (i : Nat) : (mk i).toNat = 1 + i % 251 := by
  unfold mk; rw [UInt8.toNat_ofNat']; omega
set_option maxHeartbeats 400000 in
theorem mark_any (i : Nat) (w : World) (hi : i ≤ 1000000) : Calls Try.prog 51 #[.int .i64 (i : Int)] w fun e w' => e = .returned (.int .u8 ((mk i).toNat : Int)) ∧ w = w' := by
  obtain ⟨m, hm⟩ : ∃ m : Nat, m = i % 251 := ⟨_, rfl⟩
  have e1 : ((i : Int)).tmod 251 = (m : Int) := by rw [Int.tmod_eq_emod_of_nonneg (by omega)]; omega
  have e2 : IntKind.i64.wrap (1 + (m : Int)) = 1 + (m : Int) := by rw [IntKind.wrap_i64]; omega
  have e3 : IntKind.u8.wrap (1 + (m : Int)) = 1 + (m : Int) := by rw [IntKind.wrap_u8']; omega
  have e0 : (i : Int) % 251 = (m : Int) := by omega
  have hM := Lib.hid (mk_nat i)
  have HM := Lib.hid hm
  clear hm
  go_enter Try.func51, Try.ntmps51
  go_wp2
  go_ret
  exact ⟨ret_int (by rw [hM.out, ← HM.out]; omega), rfl⟩
set_option maxHeartbeats 400000 in
theorem full_any (A : Option Addr) (c n B : Nat) (m : UInt8) (w : World) (hr : Rd w B A (List.replicate n m)) (hn : n ≤ 1000000) :
    Calls Try.prog 52 #[.slice A n c, .int .u8 (m.toNat : Int)] w fun e w' => e = .returned (.bool true) ∧ w = w' := by
  have HR := Lib.hid hr
  clear hr
  go_enter Try.func52, Try.ntmps52
  go_wp2
  go_loop [5] (fun i => ∃ k : Nat, k ≤ n ∧ i = .int .i64 k) (fun i => n - (intOf i).toNat)
  case atStart => exact ⟨0, by omega, rfl⟩
  case round =>
    obtain ⟨k, hk, rfl⟩ := hrel
    by_cases hlt : k < n
    · rcases HR.out with h | ⟨b, off, rfl, hb, hcb⟩
      · have := congrArg List.length h
        simp at this; omega
      · have hcb' := hcb k (by simpa using hlt)
        have hx : (List.replicate n m).getD k 0 = m := by simp [List.getD, hlt]
        rw [hx] at hcb'
        have hd : decide ((k : Int) < (n : Int)) = true := by simp; omega
        clear hcb hx
        go_wp2
        go_round
        case rel => exact ⟨k + 1, by omega, by go_num⟩
        case measure => simp [intOf] <;> omega
    · obtain rfl : k = n := by omega
      go_wp2
      go_ret
      exact ⟨rfl, rfl⟩
/-- nothing but some cells of bytes in block b, each now m, has turned -/
structure Tint (m : UInt8) (b : Option Nat) (w w' : World) : Prop where
  os : w'.os = w.os
  tape : w'.tape = w.tape
  output : w'.output = w.output
  size : w.heap.size ≤ w'.heap.size
  block : ∀ k, k < w.heap.size → b ≠ some k → w'.heap[k]? = w.heap[k]?
  own : ∀ (k : Nat) (cs : Array Value), b = some k → w.heap[k]? = some (Obj.cells cs 5 (0, 0)) → ∃ cs', w'.heap[k]? = some (Obj.cells cs' 5 (0, 0)) ∧ cs'.size = cs.size ∧ ∀ j : Nat, cs'[j]? = cs[j]? ∨ cs'[j]? = some (byteV m)
theorem Tint.refl (m : UInt8) (b : Option Nat) (w : World) : Tint m b w w := ⟨rfl, rfl, rfl, Nat.le_refl _, fun _ _ _ => rfl, fun _ cs _ h => ⟨cs, h, rfl, fun _ => .inl rfl⟩⟩
theorem Tint.trans {m : UInt8} {b : Option Nat} {u v w : World} (h : Tint m b u v) (h' : Tint m b v w) : Tint m b u w := by
  refine ⟨h'.os.trans h.os, h'.tape.trans h.tape, h'.output.trans h.output, Nat.le_trans h.size h'.size, fun k hk hb => (h'.block k (Nat.lt_of_lt_of_le hk h.size) hb).trans (h.block k hk hb), fun k cs hb hg => ?_⟩
  obtain ⟨c1, g1, s1, j1⟩ := h.own k cs hb hg
  obtain ⟨c2, g2, s2, j2⟩ := h'.own k c1 hb g1
  refine ⟨c2, g2, s2.trans s1, fun j => ?_⟩
  rcases j2 j with e | e
  · rcases j1 j with e1 | e1
    · exact .inl (e.trans e1)
    · exact .inr (e.trans e1)
  · exact .inr e
theorem Tint.of_below {m : UInt8} {b : Option Nat} {w w' : World} (h : Below w.heap.size w w') : Tint m b w w' :=
  ⟨h.os, h.tape, h.output, h.size, fun k hk _ => h.block k hk, fun k cs _ hg => ⟨cs, (h.block k (Array.getElem?_eq_some_iff.1 hg).1).trans hg, rfl, fun _ => .inl rfl⟩⟩
/-- a turn in a block that was made since is no turn -/
theorem Tint.since {m : UInt8} {b b' : Option Nat} {u v w : World} (h : Tint m b u v) (h' : Tint m b' v w) (hb : ∀ k, b' = some k → b = some k ∨ u.heap.size ≤ k) : Tint m b u w := by
  refine ⟨h'.os.trans h.os, h'.tape.trans h.tape, h'.output.trans h.output, Nat.le_trans h.size h'.size, fun k hk hn => ?_, fun k cs hk hg => ?_⟩
  · refine (h'.block k (Nat.lt_of_lt_of_le hk h.size) fun e => ?_).trans (h.block k hk hn)
    rcases hb k e with e | e
    · exact hn e
    · omega
  · obtain ⟨c1, g1, s1, j1⟩ := h.own k cs hk hg
    by_cases e : b' = some k
    · obtain ⟨c2, g2, s2, j2⟩ := h'.own k c1 e g1
      refine ⟨c2, g2, s2.trans s1, fun j => ?_⟩
      rcases j2 j with e | e
      · rcases j1 j with e1 | e1
        · exact .inl (e.trans e1)
        · exact .inr (e.trans e1)
      · exact .inr e
    · exact ⟨c1, (h'.block k (Array.getElem?_eq_some_iff.1 g1).1 e).trans g1, s1, j1⟩
/-- a slice that bears one mark -/
theorem Owns.tint {m : UInt8} {b : Option Nat} {w w' : World} {B n c : Nat} {A : Option Addr} (h : Owns w B (.slice A n c) (List.replicate n m)) (ht : Tint m b w w') : Owns w' B (.slice A n c) (List.replicate n m) := by
  refine ⟨h.1, h.2.imp id ?_⟩
  rintro ⟨g, cap, cur, hv, hb, hg, hn, hc, hs, hk⟩
  by_cases e : b = some g
  · obtain ⟨c2, g2, s2, j2⟩ := ht.own g cur e hg
    refine ⟨g, cap, c2, hv, hb, g2, hn, hc, by omega, ?_⟩
    rw [List.length_replicate, Nat.mul_one] at hk ⊢
    rw [List.length_replicate] at hn
    apply List.ext_getElem?
    intro i
    have h1 := congrArg (fun q : List Value => q[i]?) hk
    simp only [List.getElem?_take, Array.getElem?_toList, List.map_replicate, List.getElem?_replicate] at h1 ⊢
    by_cases hi : i < n
    · rw [if_pos hi] at h1 ⊢
      rcases j2 i with e | e
      · rw [e, h1]
      · rw [e, if_pos hi]
    · rw [if_neg hi]
      rw [if_neg hi]
  · exact ⟨g, cap, cur, hv, hb, (ht.block g (Array.getElem?_eq_some_iff.1 hg).1 e).trans hg, hn, hc, hs, hk⟩
theorem Owns.far_tint {m : UInt8} {b : Option Nat} {w w' : World} {B : Nat} {v : Value} {l : List UInt8} (h : Owns w B v l) (ht : Tint m b w w') (hb : ∀ k, v.ownBlock = some k → b ≠ some k) : Owns w' B v l := by
  refine ⟨h.1, h.2.imp id ?_⟩
  rintro ⟨g, cap, cur, rfl, hB, hg, rest⟩
  exact ⟨g, cap, cur, rfl, hB, (ht.block g (Array.getElem?_eq_some_iff.1 hg).1 (hb g rfl)).trans hg, rest⟩
theorem rowTint {m : UInt8} {b : Option Nat} {w w' : World} {B e size n : Nat} {v : Value} {xs : List Value} (h : w.ownsRow B e size v n xs) (ht : Tint m b w w') (hb : ∀ k, v.ownBlock = some k → b ≠ some k) : w'.ownsRow B e size v n xs := by
  refine ⟨h.1, h.2.imp id ?_⟩
  rintro ⟨g, cap, cur, rfl, hB, hg, rest⟩
  exact ⟨g, cap, cur, rfl, hB, (ht.block g (Array.getElem?_eq_some_iff.1 hg).1 (hb g rfl)).trans hg, rest⟩
/-- an append of a mark to a slice that bears it -/
theorem run_append_tint (w : World) (B ty n c : Nat) (m : UInt8) (A : Option Addr) (ho : Owns w B (.slice A n c) (List.replicate n m)) (gb cb : Nat) (hr : Blk w gb 5 #[byteV m]) (hn : n ≤ 1000000) (hB : B ≤ w.heap.size) :
    ∃ A' c' w', (Builtin.append_ #[22, 22] ty #[.slice A n c, .slice (some ⟨gb, 0, none⟩) 1 cb]).run Try.prog w = .ok (.slice A' (n + 1) c') w' ∧ Owns w' B (.slice A' (n + 1) c') (List.replicate (n + 1) m) ∧
      Tint m (Value.slice A n c).ownBlock w w' ∧ (∀ k, (Value.slice A' (n + 1) c').ownBlock = some k → (Value.slice A n c).ownBlock = some k ∨ w.heap.size ≤ k) := by
  obtain ⟨i0, hi, hz0, hz1, hz2⟩ := info_parts info5
  have hnews : ∀ (j : Nat) (u : Value), [byteV m][j]? = some u → w.cell? ((⟨gb, 0, none⟩ : Addr).add j) = some u := fun j u hu => by
    rw [Go.WideShapes.add_plain, Nat.zero_add, hr.cell]; simpa using hu
  have hone : ∀ u ∈ [byteV m], u.oneCell' = true := fun u hu => by rw [List.mem_singleton.1 hu]; rfl
  have hrep : (List.replicate n m).map byteV ++ [byteV m] = (List.replicate (n + 1) m).map byteV := by rw [List.replicate_succ', List.map_append]; rfl
  have grown : ∀ v' w', w'.ownsRow B 5 1 v' (n + 1) ((List.replicate n m).map byteV ++ [byteV m]) → w.grownBy w' none → (∀ k, v'.ownBlock = some k → w.heap.size ≤ k) →
      ∃ A' c', v' = .slice A' (n + 1) c' ∧ Owns w' B (.slice A' (n + 1) c') (List.replicate (n + 1) m) ∧ Tint m (Value.slice A n c).ownBlock w w' ∧ (∀ k, (Value.slice A' (n + 1) c').ownBlock = some k → (Value.slice A n c).ownBlock = some k ∨ w.heap.size ≤ k) := by
    intro v' w' h1 h2 h3
    rw [hrep] at h1
    have hsh : ∃ A c, v' = .slice A (n + 1) c := by
      rcases h1.2 with ⟨rfl, h⟩ | ⟨g, cap, cur, rfl, _⟩
      · omega
      · exact ⟨_, _, rfl⟩
    obtain ⟨A', c', rfl⟩ := hsh
    refine ⟨A', c', rfl, ?_, Tint.of_below ⟨h2.os, h2.tape, h2.output, h2.size, fun k hk => h2.block k hk (by simp)⟩, fun k e => ?_⟩
    · unfold Owns
      rw [List.length_replicate]
      exact h1
    · exact .inr (h3 k e)
  have ho' := ho
  rcases ho.2 with ⟨hv, h0⟩ | ⟨g, cap, cur, hv, hb, hg, hnc, hcm, hcs, hk⟩
  · injection hv with h1 h2 h3
    subst h1 h2 h3
    obtain ⟨v', w', hrun, h2, h3, _, h5⟩ := run_append_own_at (P := Try.prog) w B 22 ty 5 i0 (.int .u8 0) 1 1 Try.underlying22 hi hz0 hz1 hz2 rfl (by omega) (.slice none 0 0) 0 [] (World.ownsRow_nil _ _ _ _) ⟨gb, 0, none⟩ 1 cb [byteV m] rfl hnews hone
      (by unfold maxLen; omega) (by omega) hB
    obtain ⟨A', c', rfl, h6, h7, h8⟩ := grown v' w' h2 h3 (fun k e => by
      rcases h5 with h | h
      · rw [h] at e; simp [Value.ownBlock] at e
      · rw [h] at e; injection e with e; omega)
    exact ⟨A', c', w', hrun, h6, h7, h8⟩
  · injection hv with h1 h2 h3
    subst h1 h3
    rw [List.length_replicate, Nat.mul_one] at hk
    rw [List.length_replicate] at hnc
    by_cases hroom : n + 1 ≤ c
    · have hrun := run_append_room (P := Try.prog) w 22 ty 5 i0 Try.underlying22 hi g n c cur hg ⟨gb, 0, none⟩ 1 cb [byteV m] (by rw [hz1]; rfl) hnews hone hroom (by rw [hz1]; simp; omega)
      rw [hz1] at hrun
      simp only [Nat.mul_one, List.length_singleton] at hrun
      have hsz : (cur.toList.take n ++ [byteV m] ++ cur.toList.drop (n + 1)).toArray.size = cur.size := by
        simp only [List.size_toArray, List.length_append, List.length_take, List.length_drop, Array.length_toList, List.length_singleton]
        omega
      refine ⟨some ⟨g, 0, none⟩, c, _, hrun, ?_, ⟨rfl, rfl, rfl, by simp [World.setRow], fun k hk' hne => setRow_other w g k _ (fun e => hne (by rw [e]; rfl)), ?_⟩, fun k e => .inl e⟩
      · refine ⟨by simp, .inr ⟨g, c, _, by rw [List.length_replicate], hb, setRow_heap w g cur _ 5 (0, 0) hg, by rw [List.length_replicate]; exact hroom, hcm, by rw [hsz]; exact hcs, ?_⟩⟩
        rw [List.length_replicate, Nat.mul_one, ← hrep, ← hk]
        have hl : (cur.toList.take n ++ [byteV m]).length = n + 1 := by
          simp only [List.length_append, List.length_take, Array.length_toList, List.length_singleton]
          omega
        rw [show (cur.toList.take n ++ [byteV m] ++ cur.toList.drop (n + 1)).toArray.toList = cur.toList.take n ++ [byteV m] ++ cur.toList.drop (n + 1) from rfl, ← hl]
        exact List.take_left
      · intro k cs hk' hcs'
        have hkg : g = k := by simpa [Value.ownBlock] using hk'
        subst hkg
        rw [hg] at hcs'
        injection hcs' with hcs'
        injection hcs' with hcs' _ _
        subst hcs'
        refine ⟨_, setRow_heap w g cur _ 5 (0, 0) hg, hsz, fun j => ?_⟩
        have hln : (cur.toList.take n).length = n := by simp only [List.length_take, Array.length_toList]; omega
        simp only [List.getElem?_toArray, List.append_assoc]
        by_cases hj : j < n
        · left
          rw [List.getElem?_append_left (by omega), List.getElem?_take, if_pos hj, Array.getElem?_toList]
        · by_cases hj2 : j = n
          · right
            subst hj2
            rw [List.getElem?_append_right (by omega), hln, Nat.sub_self]
            rfl
          · left
            rw [List.getElem?_append_right (by omega), hln, List.getElem?_append_right (by simp; omega), List.getElem?_drop, Array.getElem?_toList]
            congr 1
            simp
            omega
    · obtain ⟨v', w', hrun, h2, h3⟩ := run_append_arg_grows (P := Try.prog) w 22 ty 5 i0 (.int .u8 0) 1 1 Try.underlying22 hi hz0 hz1 hz2 rfl (by omega) ⟨g, 0, none⟩ n c ((List.replicate n m).map byteV) (by simp)
        (fun j u hu => by
          rw [Go.WideShapes.add_plain, Nat.zero_add, cell_of_row w g j cur 5 (0, 0) hg]
          rw [← hk] at hu
          rw [List.getElem?_take] at hu
          split at hu
          · simpa using hu
          · cases hu) ⟨gb, 0, none⟩ 1 cb [byteV m] rfl hnews (by omega) (by unfold maxLen; omega) (by omega)
      have h4 : w'.ownsRow B 5 1 v' (n + 1) ((List.replicate n m).map byteV ++ [byteV m]) := ⟨h2.1, h2.2.imp id fun ⟨g', cap', cur', e, hb', rest⟩ => ⟨g', cap', cur', e, Nat.le_trans hB hb', rest⟩⟩
      obtain ⟨A', c', rfl, h6, h7, h8⟩ := grown v' w' h4 h3 fun k e => (World.ownsRow.lt h2 k e).1
      exact ⟨A', c', w', hrun, h6, h7, h8⟩
theorem wpList_append_tint {w : World} {ops : Array Oper} {rest : List Oper} {o : Oper} {a : Act} {Q : Exit → Act → World → Prop} (hgd : o.guard = none) (s x : Operand)
    (hop : o.op = .call { callee := .builtin .append, args := #[s, x], argTypes := #[22, 22] })
    (B n c : Nat) (m : UInt8) (A : Option Addr) (hs : a.eval s = .slice A n c) (ho : Owns w B (.slice A n c) (List.replicate n m)) (gb cb : Nat) (hx : a.eval x = .slice (some ⟨gb, 0, none⟩) 1 cb) (hr : Blk w gb 5 #[byteV m]) (hn : n ≤ 1000000) (hB : B ≤ w.heap.size)
    (h : ∀ A' c' w', Owns w' B (.slice A' (n + 1) c') (List.replicate (n + 1) m) → Tint m (Value.slice A n c).ownBlock w w' → (∀ k, (Value.slice A' (n + 1) c').ownBlock = some k → (Value.slice A n c).ownBlock = some k ∨ w.heap.size ≤ k) →
      wpList Try.prog ops Q rest (a.put o.dst (.slice A' (n + 1) c')) w') : wpList Try.prog ops Q (o :: rest) a w := by
  refine wpList_plain hgd fun K hK => ?_
  obtain ⟨A', c', w', hrun, h1, h2, h3⟩ := run_append_tint w B o.type n c m A ho gb cb hr hn hB
  unfold Oper.wp execOp
  simp only [hop, resolve, invoke, builtin, Sem.run_bind, Sem.run_pure, Result.andThen_ok, List.map_toArray, List.map_cons, List.map_nil, hs, hx, hrun]
  exact hK _ _ (h A' c' w' h1 h2 h3)
end Go.Proofs.Ytofhdehigfdmkaa
