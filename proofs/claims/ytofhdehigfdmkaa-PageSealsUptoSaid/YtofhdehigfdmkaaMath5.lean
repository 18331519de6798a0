/- A PAGE AS IT IS LAID DOWN from the front on: plain Lean. -/
import Derived.Test.YtofhdehigfdmkaaMath4
namespace Go.Proofs.Ytofhdehigfdmkaa
namespace Page
open Crc
theorem app_getD (a b : List UInt8) (i : Nat) : (a ++ b).getD i 0 = if i < a.length then a.getD i 0 else b.getD (i - a.length) 0 := by
  by_cases h : i < a.length
  · rw [if_pos h, List.getD_eq_getElem?_getD, List.getElem?_append_left h, ← List.getD_eq_getElem?_getD]
  · rw [if_neg h, List.getD_eq_getElem?_getD, List.getElem?_append_right (by omega), ← List.getD_eq_getElem?_getD]
theorem rep_getD (k i : Nat) : (List.replicate k (0 : UInt8)).getD i 0 = 0 := by
  simp only [List.getD_eq_getElem?_getD, List.getElem?_replicate]
  split <;> rfl
theorem laid_front (size kind num gen : Nat) (p : List UInt8) (kb : UInt8) (k : Nat) (hk : kb = UInt8.ofNat kind) (h : 24 + p.length + k = size - 8) :
    [66, 89, kb, 0] ++ rl 4 (beB num 4) ++ rl 8 (beB gen 8) ++ rl 4 (beB p.length 4) ++ [0, 0, 0, 0] ++ p ++ List.replicate k 0 = dataL size kind num gen p := by
  refine (rl_eq _ _ _ (by simp [rl_length]; omega) fun i hi => ?_).symm
  simp only [app_getD, List.length_append, rl_length, List.length_cons, List.length_nil, rep_getD]
  unfold dataF
  by_cases e0 : i < 4
  · rcases (by omega : i = 0 ∨ i = 1 ∨ i = 2 ∨ i = 3) with rfl | rfl | rfl | rfl
    · simp
    · simp; omega
    · simp [hk]; intro _; omega
    · simp
  rw [if_neg (show ¬ i = 0 by omega), if_neg (show ¬ i = 1 by omega), if_neg (show ¬ i = 2 by omega), if_neg (show ¬ i = 3 by omega)]
  by_cases e1 : i < 8
  · rw [if_pos e1, if_pos (by omega), if_pos (by omega), if_pos (by omega), if_pos (by omega), if_pos (by omega), if_neg (by omega), rl_get _ _ _ (by omega)]
  rw [if_neg e1]
  by_cases e2 : i < 16
  · rw [if_pos e2, if_pos (by omega), if_pos (by omega), if_pos (by omega), if_pos (by omega), if_neg (by omega), rl_get _ _ _ (by omega)]
  rw [if_neg e2]
  by_cases e3 : i < 20
  · rw [if_pos e3, if_pos (by omega), if_pos (by omega), if_pos (by omega), if_neg (by omega), rl_get _ _ _ (by omega)]
  rw [if_neg e3]
  by_cases e4 : i < 24
  · rw [if_pos e4, if_pos (by omega), if_pos (by omega), if_neg (by omega)]
    rcases (by omega : i = 20 ∨ i = 21 ∨ i = 22 ∨ i = 23) with rfl | rfl | rfl | rfl <;> simp
  rw [if_neg e4]
  by_cases e5 : i < 24 + p.length
  · rw [if_pos e5, if_pos (by omega), if_neg (by omega)]
  · rw [if_neg e5, if_neg (by omega)]
theorem page_front (size kind num gen : Nat) (p : List UInt8) (h : 8 ≤ size) : dataL size kind num gen p ++ rl 8 (leB (sumOf (dataL size kind num gen p))) = pageL size kind num gen p := by
  have hl : (dataL size kind num gen p).length = size - 8 := rl_length _ _
  refine (rl_eq _ _ _ (by rw [List.length_append, hl, rl_length]; omega) fun i hi => ?_).symm
  rw [app_getD, hl]
  unfold pageF
  by_cases e : i < size - 8
  · rw [if_pos e, if_pos e, dataL, rl_get _ _ _ e]
  · rw [if_neg e, if_neg e, rl_get _ _ _ (by omega)]
end Page
end Go.Proofs.Ytofhdehigfdmkaa
