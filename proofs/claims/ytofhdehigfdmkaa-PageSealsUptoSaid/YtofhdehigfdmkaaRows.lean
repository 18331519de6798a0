/-
  No cell of these rows narrows 'for every input' (looked for: loops, veiled, ifaces, maps, wideKeys, modest, calm, conditions, laid).
  DERIVED. THE GIVEN ROWS OF THIS SEAT. 12 by the template 'for every input the law returns true; each argument reads behind the call as it read before'; 0 by the template 'total and deterministic' (their statements: YtofhdehigfdmkaaTotals.lean).
  GIVEN WITH THE SEED: the statements are not yours to turn. If you find one false, say at which input.
  Laid BY PROGRAM, IN A SANDBOX (cutbox-rows.mjs): the forced cells as the released guide's own fill.sh prints them over the translation 37b369f2a482eb51… (all of the seat's roots in one cut). By AI agents, Wed Nov 11 2026. No macro, syntax, notation, axiom, sorry.
-/
import Derived.Test.YtofhdehigfdmkaaChecked
import GoSem.Claim
import GoSem.ClaimJoined
import GoSem.ClaimMapViews
import Derived.JoinedTies
import Derived.KernelRfl
namespace Go.Proofs.Ytofhdehigfdmkaa
/- THE CELL 'sum', in the pinned program and in every row, IS THE sha256 OF THE DUMP (.gsa) THAT YtofhdehigfdmkaaProg.lean LOADS. Nothing in Lean hashes anything: it is a label: what it is worth is what the hold of that sum in a sandbox is worth. -/
noncomputable def Try.pinned : Pinned := { name := "ytofhdehigfdmkaa", sum := "37b369f2a482eb51faa23de3eaf8f550ed8118a9fa38f67346f5ae8e59140186", checked := Try.checked }
namespace Rows
def none {H : Type} : Left H := { results := [], args := [] }

/-- 'banyanlaw02.SumSums': WHATEVER THE INPUT: true; the input reads as it did. -/
def sumSumsSpec : ChangeSpec := { name := "sumSums", fn := fun _ => fun
  | [d1, d2, d3] => { results := [.lit (.bool true)], args := [d1, d2, d3] }
  | _ => none }
def sumSumsRow : OpenClaim := { program := "ytofhdehigfdmkaa", sum := "37b369f2a482eb51faa23de3eaf8f550ed8118a9fa38f67346f5ae8e59140186", func := "banyan/banyanlaw02.SumSums", spec := "sumSums", apart := false }
def SumSumsSaid : Prop := sumSumsRow.holds Try.pinned (OpenSpec.ofChange sumSumsSpec)

/-- ITS FALSE NEIGHBOUR: 'it returns false'. Refute it at one input. -/
def sumSumsWrong : ChangeSpec := { name := "sumSums", fn := fun _ => fun
  | [d1, d2, d3] => { results := [.lit (.bool false)], args := [d1, d2, d3] }
  | _ => none }
def SumSumsWrongFalsely : Prop := sumSumsRow.holds Try.pinned (OpenSpec.ofChange sumSumsWrong)

/-- 'banyanlaw02.SumTurned': WHATEVER THE INPUT: true; the input reads as it did. -/
def sumTurnedSpec : ChangeSpec := { name := "sumTurned", fn := fun _ => fun
  | [d1, d2, d3] => { results := [.lit (.bool true)], args := [d1, d2, d3] }
  | _ => none }
def sumTurnedRow : OpenClaim := { program := "ytofhdehigfdmkaa", sum := "37b369f2a482eb51faa23de3eaf8f550ed8118a9fa38f67346f5ae8e59140186", func := "banyan/banyanlaw02.SumTurned", spec := "sumTurned", apart := false }
def SumTurnedSaid : Prop := sumTurnedRow.holds Try.pinned (OpenSpec.ofChange sumTurnedSpec)

/-- ITS FALSE NEIGHBOUR: 'it returns false'. Refute it at one input. -/
def sumTurnedWrong : ChangeSpec := { name := "sumTurned", fn := fun _ => fun
  | [d1, d2, d3] => { results := [.lit (.bool false)], args := [d1, d2, d3] }
  | _ => none }
def SumTurnedWrongFalsely : Prop := sumTurnedRow.holds Try.pinned (OpenSpec.ofChange sumTurnedWrong)

/-- 'banyanlaw02.SumPlain': WHATEVER THE INPUT: true; the input reads as it did. -/
def sumPlainSpec : ChangeSpec := { name := "sumPlain", fn := fun _ => fun
  | [d1, d2, d3] => { results := [.lit (.bool true)], args := [d1, d2, d3] }
  | _ => none }
def sumPlainRow : OpenClaim := { program := "ytofhdehigfdmkaa", sum := "37b369f2a482eb51faa23de3eaf8f550ed8118a9fa38f67346f5ae8e59140186", func := "banyan/banyanlaw02.SumPlain", spec := "sumPlain", apart := false }
def SumPlainSaid : Prop := sumPlainRow.holds Try.pinned (OpenSpec.ofChange sumPlainSpec)

/-- ITS FALSE NEIGHBOUR: 'it returns false'. Refute it at one input. -/
def sumPlainWrong : ChangeSpec := { name := "sumPlain", fn := fun _ => fun
  | [d1, d2, d3] => { results := [.lit (.bool false)], args := [d1, d2, d3] }
  | _ => none }
def SumPlainWrongFalsely : Prop := sumPlainRow.holds Try.pinned (OpenSpec.ofChange sumPlainWrong)

/-- 'banyanlaw02.SumJoins': WHATEVER THE INPUT: true; the input reads as it did. -/
def sumJoinsSpec : ChangeSpec := { name := "sumJoins", fn := fun _ => fun
  | [d1, d2, d3] => { results := [.lit (.bool true)], args := [d1, d2, d3] }
  | _ => none }
def sumJoinsRow : OpenClaim := { program := "ytofhdehigfdmkaa", sum := "37b369f2a482eb51faa23de3eaf8f550ed8118a9fa38f67346f5ae8e59140186", func := "banyan/banyanlaw02.SumJoins", spec := "sumJoins", apart := false }
def SumJoinsSaid : Prop := sumJoinsRow.holds Try.pinned (OpenSpec.ofChange sumJoinsSpec)

/-- ITS FALSE NEIGHBOUR: 'it returns false'. Refute it at one input. -/
def sumJoinsWrong : ChangeSpec := { name := "sumJoins", fn := fun _ => fun
  | [d1, d2, d3] => { results := [.lit (.bool false)], args := [d1, d2, d3] }
  | _ => none }
def SumJoinsWrongFalsely : Prop := sumJoinsRow.holds Try.pinned (OpenSpec.ofChange sumJoinsWrong)

/-- 'banyanlaw02.SumParts': WHATEVER THE INPUT: true; the input reads as it did. -/
def sumPartsSpec : ChangeSpec := { name := "sumParts", fn := fun _ => fun
  | [d1, d2, d3] => { results := [.lit (.bool true)], args := [d1, d2, d3] }
  | _ => none }
def sumPartsRow : OpenClaim := { program := "ytofhdehigfdmkaa", sum := "37b369f2a482eb51faa23de3eaf8f550ed8118a9fa38f67346f5ae8e59140186", func := "banyan/banyanlaw02.SumParts", spec := "sumParts", apart := false }
def SumPartsSaid : Prop := sumPartsRow.holds Try.pinned (OpenSpec.ofChange sumPartsSpec)

/-- ITS FALSE NEIGHBOUR: 'it returns false'. Refute it at one input. -/
def sumPartsWrong : ChangeSpec := { name := "sumParts", fn := fun _ => fun
  | [d1, d2, d3] => { results := [.lit (.bool false)], args := [d1, d2, d3] }
  | _ => none }
def SumPartsWrongFalsely : Prop := sumPartsRow.holds Try.pinned (OpenSpec.ofChange sumPartsWrong)

/-- 'banyanlaw02.SumJoined': WHATEVER THE INPUT: true; the input reads as it did. -/
def sumJoinedSpec : ChangeSpec := { name := "sumJoined", fn := fun _ => fun
  | [d] => { results := [.lit (.bool true)], args := [d] }
  | _ => none }
def sumJoinedRow : OpenClaim := { program := "ytofhdehigfdmkaa", sum := "37b369f2a482eb51faa23de3eaf8f550ed8118a9fa38f67346f5ae8e59140186", func := "banyan/banyanlaw02.SumJoined", spec := "sumJoined", apart := false }
def SumJoinedSaid : Prop := sumJoinedRow.holds Try.pinned (OpenSpec.ofChange sumJoinedSpec)

/-- ITS FALSE NEIGHBOUR: 'it returns false'. Refute it at one input. -/
def sumJoinedWrong : ChangeSpec := { name := "sumJoined", fn := fun _ => fun
  | [d] => { results := [.lit (.bool false)], args := [d] }
  | _ => none }
def SumJoinedWrongFalsely : Prop := sumJoinedRow.holds Try.pinned (OpenSpec.ofChange sumJoinedWrong)

/-- 'banyanlaw03.PageNames': WHATEVER THE INPUT: true; the input reads as it did. -/
def pageNamesSpec : ChangeSpec := { name := "pageNames", fn := fun _ => fun
  | [] => { results := [.lit (.bool true)], args := [] }
  | _ => none }
def pageNamesRow : OpenClaim := { program := "ytofhdehigfdmkaa", sum := "37b369f2a482eb51faa23de3eaf8f550ed8118a9fa38f67346f5ae8e59140186", func := "banyan/banyanlaw03.PageNames", spec := "pageNames", apart := false }
def PageNamesSaid : Prop := pageNamesRow.holds Try.pinned (OpenSpec.ofChange pageNamesSpec)

/-- ITS FALSE NEIGHBOUR: 'it returns false'. Refute it at one input. -/
def pageNamesWrong : ChangeSpec := { name := "pageNames", fn := fun _ => fun
  | [] => { results := [.lit (.bool false)], args := [] }
  | _ => none }
def PageNamesWrongFalsely : Prop := pageNamesRow.holds Try.pinned (OpenSpec.ofChange pageNamesWrong)

/-- 'banyanlaw03.PageSeals': WHATEVER THE INPUT: true; the input reads as it did. -/
def pageSealsSpec : ChangeSpec := { name := "pageSeals", fn := fun _ => fun
  | [d1, d2, d3, d4] => { results := [.lit (.bool true)], args := [d1, d2, d3, d4] }
  | _ => none }
def pageSealsRow : OpenClaim := { program := "ytofhdehigfdmkaa", sum := "37b369f2a482eb51faa23de3eaf8f550ed8118a9fa38f67346f5ae8e59140186", func := "banyan/banyanlaw03.PageSeals", spec := "pageSeals", apart := false }
def PageSealsSaid : Prop := pageSealsRow.holds Try.pinned (OpenSpec.ofChange pageSealsSpec)

/-- ITS FALSE NEIGHBOUR: 'it returns false'. Refute it at one input. -/
def pageSealsWrong : ChangeSpec := { name := "pageSeals", fn := fun _ => fun
  | [d1, d2, d3, d4] => { results := [.lit (.bool false)], args := [d1, d2, d3, d4] }
  | _ => none }
def PageSealsWrongFalsely : Prop := pageSealsRow.holds Try.pinned (OpenSpec.ofChange pageSealsWrong)

/-- 'banyanlaw03.PageOpens': WHATEVER THE INPUT: true; the input reads as it did. -/
def pageOpensSpec : ChangeSpec := { name := "pageOpens", fn := fun _ => fun
  | [d1, d2, d3] => { results := [.lit (.bool true)], args := [d1, d2, d3] }
  | _ => none }
def pageOpensRow : OpenClaim := { program := "ytofhdehigfdmkaa", sum := "37b369f2a482eb51faa23de3eaf8f550ed8118a9fa38f67346f5ae8e59140186", func := "banyan/banyanlaw03.PageOpens", spec := "pageOpens", apart := false }
def PageOpensSaid : Prop := pageOpensRow.holds Try.pinned (OpenSpec.ofChange pageOpensSpec)

/-- ITS FALSE NEIGHBOUR: 'it returns false'. Refute it at one input. -/
def pageOpensWrong : ChangeSpec := { name := "pageOpens", fn := fun _ => fun
  | [d1, d2, d3] => { results := [.lit (.bool false)], args := [d1, d2, d3] }
  | _ => none }
def PageOpensWrongFalsely : Prop := pageOpensRow.holds Try.pinned (OpenSpec.ofChange pageOpensWrong)

/-- 'banyanlaw03.PageBack': WHATEVER THE INPUT: true; the input reads as it did. -/
def pageBackSpec : ChangeSpec := { name := "pageBack", fn := fun _ => fun
  | [d1, d2, d3, d4] => { results := [.lit (.bool true)], args := [d1, d2, d3, d4] }
  | _ => none }
def pageBackRow : OpenClaim := { program := "ytofhdehigfdmkaa", sum := "37b369f2a482eb51faa23de3eaf8f550ed8118a9fa38f67346f5ae8e59140186", func := "banyan/banyanlaw03.PageBack", spec := "pageBack", apart := false }
def PageBackSaid : Prop := pageBackRow.holds Try.pinned (OpenSpec.ofChange pageBackSpec)

/-- ITS FALSE NEIGHBOUR: 'it returns false'. Refute it at one input. -/
def pageBackWrong : ChangeSpec := { name := "pageBack", fn := fun _ => fun
  | [d1, d2, d3, d4] => { results := [.lit (.bool false)], args := [d1, d2, d3, d4] }
  | _ => none }
def PageBackWrongFalsely : Prop := pageBackRow.holds Try.pinned (OpenSpec.ofChange pageBackWrong)

/-- 'banyanlaw03.PageForm': WHATEVER THE INPUT: true; the input reads as it did. -/
def pageFormSpec : ChangeSpec := { name := "pageForm", fn := fun _ => fun
  | [d1, d2] => { results := [.lit (.bool true)], args := [d1, d2] }
  | _ => none }
def pageFormRow : OpenClaim := { program := "ytofhdehigfdmkaa", sum := "37b369f2a482eb51faa23de3eaf8f550ed8118a9fa38f67346f5ae8e59140186", func := "banyan/banyanlaw03.PageForm", spec := "pageForm", apart := false }
def PageFormSaid : Prop := pageFormRow.holds Try.pinned (OpenSpec.ofChange pageFormSpec)

/-- ITS FALSE NEIGHBOUR: 'it returns false'. Refute it at one input. -/
def pageFormWrong : ChangeSpec := { name := "pageForm", fn := fun _ => fun
  | [d1, d2] => { results := [.lit (.bool false)], args := [d1, d2] }
  | _ => none }
def PageFormWrongFalsely : Prop := pageFormRow.holds Try.pinned (OpenSpec.ofChange pageFormWrong)

/-- 'banyanlaw03.PageTurned': WHATEVER THE INPUT: true; the input reads as it did. -/
def pageTurnedSpec : ChangeSpec := { name := "pageTurned", fn := fun _ => fun
  | [d1, d2, d3, d4, d5] => { results := [.lit (.bool true)], args := [d1, d2, d3, d4, d5] }
  | _ => none }
def pageTurnedRow : OpenClaim := { program := "ytofhdehigfdmkaa", sum := "37b369f2a482eb51faa23de3eaf8f550ed8118a9fa38f67346f5ae8e59140186", func := "banyan/banyanlaw03.PageTurned", spec := "pageTurned", apart := false }
def PageTurnedSaid : Prop := pageTurnedRow.holds Try.pinned (OpenSpec.ofChange pageTurnedSpec)

/-- ITS FALSE NEIGHBOUR: 'it returns false'. Refute it at one input. -/
def pageTurnedWrong : ChangeSpec := { name := "pageTurned", fn := fun _ => fun
  | [d1, d2, d3, d4, d5] => { results := [.lit (.bool false)], args := [d1, d2, d3, d4, d5] }
  | _ => none }
def PageTurnedWrongFalsely : Prop := pageTurnedRow.holds Try.pinned (OpenSpec.ofChange pageTurnedWrong)

/- THE SECOND FORM. 'bulk': how many values and letters a reading holds, each counted each time it is reached (what is shared counts as often as it is met; a slice's spare places count too). A statement '..UptoSaid' is the law's where the arguments, and the package variables that the reading takes, are together of bulk at most 1048576: NARROWER than '..Said'. Prove '..Said' where nothing that the law and all that it calls make is longer than what came in: it says more and counts as full. Else prove '..UptoSaid'. A law counts once. -/
mutual
def uptoBulk {H : Type} : DataW H → Nat
  | .lit (.string bytes) => bytes.length + 1
  | .lit _ => 1
  | .nil => 1
  | .ptr d => uptoBulk d + 1
  | .slice elems spare => uptoBulkAll elems + uptoBulkAll spare + 1
  | .agg parts => uptoBulkAll parts + 1
  | .iface _ d => uptoBulk d + 1
  | .map entries => uptoBulkEntries entries + 1
  | .held _ => 1
def uptoBulkAll {H : Type} : List (DataW H) → Nat
  | [] => 0
  | d :: r => uptoBulk d + uptoBulkAll r
def uptoBulkEntries {H : Type} : List (Lit × DataW H) → Nat
  | [] => 0
  | x :: r => uptoBulkEntry x + uptoBulkEntries r
def uptoBulkEntry {H : Type} : Lit × DataW H → Nat
  | (.string bytes, d) => bytes.length + uptoBulk d + 1
  | (_, d) => uptoBulk d + 1
 end
def uptoSmall : (H : Type) → List (DataW H) → Bool := fun _ ds => decide (uptoBulkAll ds ≤ 1048576)
def OpenSpec.upto (s : _root_.Go.ChangeSpec) : _root_.Go.OpenSpec := { _root_.Go.OpenSpec.ofChange s with cond := some uptoSmall }

/-- 'banyanlaw02.SumSums', WHERE WHAT IT READS IS OF BULK AT MOST 1048576: true; the input reads as it did. -/
def sumSumsUptoRow : OpenClaim := { program := "ytofhdehigfdmkaa", sum := "37b369f2a482eb51faa23de3eaf8f550ed8118a9fa38f67346f5ae8e59140186", func := "banyan/banyanlaw02.SumSums", spec := "sumSums", apart := false, narrowed := true }
def SumSumsUptoSaid : Prop := sumSumsUptoRow.holds Try.pinned (OpenSpec.upto sumSumsSpec)

/-- 'banyanlaw02.SumTurned', WHERE WHAT IT READS IS OF BULK AT MOST 1048576: true; the input reads as it did. -/
def sumTurnedUptoRow : OpenClaim := { program := "ytofhdehigfdmkaa", sum := "37b369f2a482eb51faa23de3eaf8f550ed8118a9fa38f67346f5ae8e59140186", func := "banyan/banyanlaw02.SumTurned", spec := "sumTurned", apart := false, narrowed := true }
def SumTurnedUptoSaid : Prop := sumTurnedUptoRow.holds Try.pinned (OpenSpec.upto sumTurnedSpec)

/-- 'banyanlaw02.SumPlain', WHERE WHAT IT READS IS OF BULK AT MOST 1048576: true; the input reads as it did. -/
def sumPlainUptoRow : OpenClaim := { program := "ytofhdehigfdmkaa", sum := "37b369f2a482eb51faa23de3eaf8f550ed8118a9fa38f67346f5ae8e59140186", func := "banyan/banyanlaw02.SumPlain", spec := "sumPlain", apart := false, narrowed := true }
def SumPlainUptoSaid : Prop := sumPlainUptoRow.holds Try.pinned (OpenSpec.upto sumPlainSpec)

/-- 'banyanlaw02.SumJoins', WHERE WHAT IT READS IS OF BULK AT MOST 1048576: true; the input reads as it did. -/
def sumJoinsUptoRow : OpenClaim := { program := "ytofhdehigfdmkaa", sum := "37b369f2a482eb51faa23de3eaf8f550ed8118a9fa38f67346f5ae8e59140186", func := "banyan/banyanlaw02.SumJoins", spec := "sumJoins", apart := false, narrowed := true }
def SumJoinsUptoSaid : Prop := sumJoinsUptoRow.holds Try.pinned (OpenSpec.upto sumJoinsSpec)

/-- 'banyanlaw02.SumParts', WHERE WHAT IT READS IS OF BULK AT MOST 1048576: true; the input reads as it did. -/
def sumPartsUptoRow : OpenClaim := { program := "ytofhdehigfdmkaa", sum := "37b369f2a482eb51faa23de3eaf8f550ed8118a9fa38f67346f5ae8e59140186", func := "banyan/banyanlaw02.SumParts", spec := "sumParts", apart := false, narrowed := true }
def SumPartsUptoSaid : Prop := sumPartsUptoRow.holds Try.pinned (OpenSpec.upto sumPartsSpec)

/-- 'banyanlaw02.SumJoined', WHERE WHAT IT READS IS OF BULK AT MOST 1048576: true; the input reads as it did. -/
def sumJoinedUptoRow : OpenClaim := { program := "ytofhdehigfdmkaa", sum := "37b369f2a482eb51faa23de3eaf8f550ed8118a9fa38f67346f5ae8e59140186", func := "banyan/banyanlaw02.SumJoined", spec := "sumJoined", apart := false, narrowed := true }
def SumJoinedUptoSaid : Prop := sumJoinedUptoRow.holds Try.pinned (OpenSpec.upto sumJoinedSpec)

/-- 'banyanlaw03.PageNames', WHERE WHAT IT READS IS OF BULK AT MOST 1048576: true; the input reads as it did. -/
def pageNamesUptoRow : OpenClaim := { program := "ytofhdehigfdmkaa", sum := "37b369f2a482eb51faa23de3eaf8f550ed8118a9fa38f67346f5ae8e59140186", func := "banyan/banyanlaw03.PageNames", spec := "pageNames", apart := false, narrowed := true }
def PageNamesUptoSaid : Prop := pageNamesUptoRow.holds Try.pinned (OpenSpec.upto pageNamesSpec)

/-- 'banyanlaw03.PageSeals', WHERE WHAT IT READS IS OF BULK AT MOST 1048576: true; the input reads as it did. -/
def pageSealsUptoRow : OpenClaim := { program := "ytofhdehigfdmkaa", sum := "37b369f2a482eb51faa23de3eaf8f550ed8118a9fa38f67346f5ae8e59140186", func := "banyan/banyanlaw03.PageSeals", spec := "pageSeals", apart := false, narrowed := true }
def PageSealsUptoSaid : Prop := pageSealsUptoRow.holds Try.pinned (OpenSpec.upto pageSealsSpec)

/-- 'banyanlaw03.PageOpens', WHERE WHAT IT READS IS OF BULK AT MOST 1048576: true; the input reads as it did. -/
def pageOpensUptoRow : OpenClaim := { program := "ytofhdehigfdmkaa", sum := "37b369f2a482eb51faa23de3eaf8f550ed8118a9fa38f67346f5ae8e59140186", func := "banyan/banyanlaw03.PageOpens", spec := "pageOpens", apart := false, narrowed := true }
def PageOpensUptoSaid : Prop := pageOpensUptoRow.holds Try.pinned (OpenSpec.upto pageOpensSpec)

/-- 'banyanlaw03.PageBack', WHERE WHAT IT READS IS OF BULK AT MOST 1048576: true; the input reads as it did. -/
def pageBackUptoRow : OpenClaim := { program := "ytofhdehigfdmkaa", sum := "37b369f2a482eb51faa23de3eaf8f550ed8118a9fa38f67346f5ae8e59140186", func := "banyan/banyanlaw03.PageBack", spec := "pageBack", apart := false, narrowed := true }
def PageBackUptoSaid : Prop := pageBackUptoRow.holds Try.pinned (OpenSpec.upto pageBackSpec)

/-- 'banyanlaw03.PageForm', WHERE WHAT IT READS IS OF BULK AT MOST 1048576: true; the input reads as it did. -/
def pageFormUptoRow : OpenClaim := { program := "ytofhdehigfdmkaa", sum := "37b369f2a482eb51faa23de3eaf8f550ed8118a9fa38f67346f5ae8e59140186", func := "banyan/banyanlaw03.PageForm", spec := "pageForm", apart := false, narrowed := true }
def PageFormUptoSaid : Prop := pageFormUptoRow.holds Try.pinned (OpenSpec.upto pageFormSpec)

/-- 'banyanlaw03.PageTurned', WHERE WHAT IT READS IS OF BULK AT MOST 1048576: true; the input reads as it did. -/
def pageTurnedUptoRow : OpenClaim := { program := "ytofhdehigfdmkaa", sum := "37b369f2a482eb51faa23de3eaf8f550ed8118a9fa38f67346f5ae8e59140186", func := "banyan/banyanlaw03.PageTurned", spec := "pageTurned", apart := false, narrowed := true }
def PageTurnedUptoSaid : Prop := pageTurnedUptoRow.holds Try.pinned (OpenSpec.upto pageTurnedSpec)

end Rows
end Go.Proofs.Ytofhdehigfdmkaa
