/-
  No cell of these rows narrows 'for every input' (looked for: loops, veiled, ifaces, maps, wideKeys, modest, calm, conditions, laid).
  DERIVED. THE GIVEN ROWS OF THIS SEAT. 11 by the template 'for every input the law returns true; each argument reads behind the call as it read before'; 0 by the template 'total and deterministic' (their statements: YtjjnmafoakoenaaTotals.lean).
  GIVEN WITH THE SEED: the statements are not yours to turn. If you find one false, say at which input.
  Laid BY PROGRAM, IN A SANDBOX (cutbox-rows.mjs): the forced cells as the released guide's own fill.sh prints them over the translation c2c3ca07a0309eb2… (all of the seat's roots in one cut). By AI agents, Wed Nov 11 2026. No macro, syntax, notation, axiom, sorry.
-/
import Derived.Test.YtjjnmafoakoenaaChecked
import GoSem.Claim
import GoSem.ClaimJoined
import GoSem.ClaimMapViews
import Derived.JoinedTies
import Derived.KernelRfl
namespace Go.Proofs.Ytjjnmafoakoenaa
/- THE CELL 'sum', in the pinned program and in every row, IS THE sha256 OF THE DUMP (.gsa) THAT YtjjnmafoakoenaaProg.lean LOADS. Nothing in Lean hashes anything: it is a label: what it is worth is what the hold of that sum in a sandbox is worth. -/
noncomputable def Try.pinned : Pinned := { name := "ytjjnmafoakoenaa", sum := "c2c3ca07a0309eb27620d25847dc1500ce668cafbb48379fa82d179aa6c74ecf", checked := Try.checked }
namespace Rows
def none {H : Type} : Left H := { results := [], args := [] }

/-- 'curialaw9.ViewApplies': WHATEVER THE INPUT: true; the input reads as it did. -/
def viewAppliesSpec : ChangeSpec := { name := "viewApplies", fn := fun _ => fun
  | [d1, d2, d3] => { results := [.lit (.bool true)], args := [d1, d2, d3] }
  | _ => none }
def viewAppliesRow : OpenClaim := { program := "ytjjnmafoakoenaa", sum := "c2c3ca07a0309eb27620d25847dc1500ce668cafbb48379fa82d179aa6c74ecf", func := "curia/curialaw9.ViewApplies", spec := "viewApplies", unfollowed := true, recurses := true, apart := false }
def ViewAppliesSaid : Prop := viewAppliesRow.holds Try.pinned (OpenSpec.ofChange viewAppliesSpec)

/-- ITS FALSE NEIGHBOUR: 'it returns false'. Refute it at one input. -/
def viewAppliesWrong : ChangeSpec := { name := "viewApplies", fn := fun _ => fun
  | [d1, d2, d3] => { results := [.lit (.bool false)], args := [d1, d2, d3] }
  | _ => none }
def ViewAppliesWrongFalsely : Prop := viewAppliesRow.holds Try.pinned (OpenSpec.ofChange viewAppliesWrong)

/-- 'curialaw9.ViewStays': WHATEVER THE INPUT: true; the input reads as it did. -/
def viewStaysSpec : ChangeSpec := { name := "viewStays", fn := fun _ => fun
  | [d1, d2, d3] => { results := [.lit (.bool true)], args := [d1, d2, d3] }
  | _ => none }
def viewStaysRow : OpenClaim := { program := "ytjjnmafoakoenaa", sum := "c2c3ca07a0309eb27620d25847dc1500ce668cafbb48379fa82d179aa6c74ecf", func := "curia/curialaw9.ViewStays", spec := "viewStays", unfollowed := true, recurses := true, apart := false }
def ViewStaysSaid : Prop := viewStaysRow.holds Try.pinned (OpenSpec.ofChange viewStaysSpec)

/-- ITS FALSE NEIGHBOUR: 'it returns false'. Refute it at one input. -/
def viewStaysWrong : ChangeSpec := { name := "viewStays", fn := fun _ => fun
  | [d1, d2, d3] => { results := [.lit (.bool false)], args := [d1, d2, d3] }
  | _ => none }
def ViewStaysWrongFalsely : Prop := viewStaysRow.holds Try.pinned (OpenSpec.ofChange viewStaysWrong)

/-- 'curialaw9.ViewFew': WHATEVER THE INPUT: true; the input reads as it did. -/
def viewFewSpec : ChangeSpec := { name := "viewFew", fn := fun _ => fun
  | [d1, d2, d3, d4] => { results := [.lit (.bool true)], args := [d1, d2, d3, d4] }
  | _ => none }
def viewFewRow : OpenClaim := { program := "ytjjnmafoakoenaa", sum := "c2c3ca07a0309eb27620d25847dc1500ce668cafbb48379fa82d179aa6c74ecf", func := "curia/curialaw9.ViewFew", spec := "viewFew", unfollowed := true, recurses := true, apart := false }
def ViewFewSaid : Prop := viewFewRow.holds Try.pinned (OpenSpec.ofChange viewFewSpec)

/-- ITS FALSE NEIGHBOUR: 'it returns false'. Refute it at one input. -/
def viewFewWrong : ChangeSpec := { name := "viewFew", fn := fun _ => fun
  | [d1, d2, d3, d4] => { results := [.lit (.bool false)], args := [d1, d2, d3, d4] }
  | _ => none }
def ViewFewWrongFalsely : Prop := viewFewRow.holds Try.pinned (OpenSpec.ofChange viewFewWrong)

/-- 'curialaw9.ViewAdds': WHATEVER THE INPUT: true; the input reads as it did. -/
def viewAddsSpec : ChangeSpec := { name := "viewAdds", fn := fun _ => fun
  | [d1, d2] => { results := [.lit (.bool true)], args := [d1, d2] }
  | _ => none }
def viewAddsRow : OpenClaim := { program := "ytjjnmafoakoenaa", sum := "c2c3ca07a0309eb27620d25847dc1500ce668cafbb48379fa82d179aa6c74ecf", func := "curia/curialaw9.ViewAdds", spec := "viewAdds", unfollowed := true, recurses := true, apart := false }
def ViewAddsSaid : Prop := viewAddsRow.holds Try.pinned (OpenSpec.ofChange viewAddsSpec)

/-- ITS FALSE NEIGHBOUR: 'it returns false'. Refute it at one input. -/
def viewAddsWrong : ChangeSpec := { name := "viewAdds", fn := fun _ => fun
  | [d1, d2] => { results := [.lit (.bool false)], args := [d1, d2] }
  | _ => none }
def ViewAddsWrongFalsely : Prop := viewAddsRow.holds Try.pinned (OpenSpec.ofChange viewAddsWrong)

/-- 'curialaw9.ViewSwaps': WHATEVER THE INPUT: true; the input reads as it did. -/
def viewSwapsSpec : ChangeSpec := { name := "viewSwaps", fn := fun _ => fun
  | [d1, d2, d3] => { results := [.lit (.bool true)], args := [d1, d2, d3] }
  | _ => none }
def viewSwapsRow : OpenClaim := { program := "ytjjnmafoakoenaa", sum := "c2c3ca07a0309eb27620d25847dc1500ce668cafbb48379fa82d179aa6c74ecf", func := "curia/curialaw9.ViewSwaps", spec := "viewSwaps", unfollowed := true, recurses := true, apart := false }
def ViewSwapsSaid : Prop := viewSwapsRow.holds Try.pinned (OpenSpec.ofChange viewSwapsSpec)

/-- ITS FALSE NEIGHBOUR: 'it returns false'. Refute it at one input. -/
def viewSwapsWrong : ChangeSpec := { name := "viewSwaps", fn := fun _ => fun
  | [d1, d2, d3] => { results := [.lit (.bool false)], args := [d1, d2, d3] }
  | _ => none }
def ViewSwapsWrongFalsely : Prop := viewSwapsRow.holds Try.pinned (OpenSpec.ofChange viewSwapsWrong)

/-- 'curialaw9.ViewOdd': WHATEVER THE INPUT: true; the input reads as it did. -/
def viewOddSpec : ChangeSpec := { name := "viewOdd", fn := fun _ => fun
  | [d] => { results := [.lit (.bool true)], args := [d] }
  | _ => none }
def viewOddRow : OpenClaim := { program := "ytjjnmafoakoenaa", sum := "c2c3ca07a0309eb27620d25847dc1500ce668cafbb48379fa82d179aa6c74ecf", func := "curia/curialaw9.ViewOdd", spec := "viewOdd", unfollowed := true, recurses := true, apart := false }
def ViewOddSaid : Prop := viewOddRow.holds Try.pinned (OpenSpec.ofChange viewOddSpec)

/-- ITS FALSE NEIGHBOUR: 'it returns false'. Refute it at one input. -/
def viewOddWrong : ChangeSpec := { name := "viewOdd", fn := fun _ => fun
  | [d] => { results := [.lit (.bool false)], args := [d] }
  | _ => none }
def ViewOddWrongFalsely : Prop := viewOddRow.holds Try.pinned (OpenSpec.ofChange viewOddWrong)

/-- 'curialaw9.ViewTurns': WHATEVER THE INPUT: true; the input reads as it did. -/
def viewTurnsSpec : ChangeSpec := { name := "viewTurns", fn := fun _ => fun
  | [d1, d2, d3] => { results := [.lit (.bool true)], args := [d1, d2, d3] }
  | _ => none }
def viewTurnsRow : OpenClaim := { program := "ytjjnmafoakoenaa", sum := "c2c3ca07a0309eb27620d25847dc1500ce668cafbb48379fa82d179aa6c74ecf", func := "curia/curialaw9.ViewTurns", spec := "viewTurns", unfollowed := true, recurses := true, apart := false }
def ViewTurnsSaid : Prop := viewTurnsRow.holds Try.pinned (OpenSpec.ofChange viewTurnsSpec)

/-- ITS FALSE NEIGHBOUR: 'it returns false'. Refute it at one input. -/
def viewTurnsWrong : ChangeSpec := { name := "viewTurns", fn := fun _ => fun
  | [d1, d2, d3] => { results := [.lit (.bool false)], args := [d1, d2, d3] }
  | _ => none }
def ViewTurnsWrongFalsely : Prop := viewTurnsRow.holds Try.pinned (OpenSpec.ofChange viewTurnsWrong)

/-- 'curialaw9.ViewBlanks': WHATEVER THE INPUT: true; the input reads as it did. -/
def viewBlanksSpec : ChangeSpec := { name := "viewBlanks", fn := fun _ => fun
  | [d1, d2, d3] => { results := [.lit (.bool true)], args := [d1, d2, d3] }
  | _ => none }
def viewBlanksRow : OpenClaim := { program := "ytjjnmafoakoenaa", sum := "c2c3ca07a0309eb27620d25847dc1500ce668cafbb48379fa82d179aa6c74ecf", func := "curia/curialaw9.ViewBlanks", spec := "viewBlanks", unfollowed := true, recurses := true, apart := false }
def ViewBlanksSaid : Prop := viewBlanksRow.holds Try.pinned (OpenSpec.ofChange viewBlanksSpec)

/-- ITS FALSE NEIGHBOUR: 'it returns false'. Refute it at one input. -/
def viewBlanksWrong : ChangeSpec := { name := "viewBlanks", fn := fun _ => fun
  | [d1, d2, d3] => { results := [.lit (.bool false)], args := [d1, d2, d3] }
  | _ => none }
def ViewBlanksWrongFalsely : Prop := viewBlanksRow.holds Try.pinned (OpenSpec.ofChange viewBlanksWrong)

/-- 'curialaw9.ViewMay': WHATEVER THE INPUT: true; the input reads as it did. -/
def viewMaySpec : ChangeSpec := { name := "viewMay", fn := fun _ => fun
  | [d1, d2, d3, d4] => { results := [.lit (.bool true)], args := [d1, d2, d3, d4] }
  | _ => none }
def viewMayRow : OpenClaim := { program := "ytjjnmafoakoenaa", sum := "c2c3ca07a0309eb27620d25847dc1500ce668cafbb48379fa82d179aa6c74ecf", func := "curia/curialaw9.ViewMay", spec := "viewMay", unfollowed := true, recurses := true, apart := false }
def ViewMaySaid : Prop := viewMayRow.holds Try.pinned (OpenSpec.ofChange viewMaySpec)

/-- ITS FALSE NEIGHBOUR: 'it returns false'. Refute it at one input. -/
def viewMayWrong : ChangeSpec := { name := "viewMay", fn := fun _ => fun
  | [d1, d2, d3, d4] => { results := [.lit (.bool false)], args := [d1, d2, d3, d4] }
  | _ => none }
def ViewMayWrongFalsely : Prop := viewMayRow.holds Try.pinned (OpenSpec.ofChange viewMayWrong)

/-- 'curialaw9.ViewRows': WHATEVER THE INPUT: true; the input reads as it did. -/
def viewRowsSpec : ChangeSpec := { name := "viewRows", fn := fun _ => fun
  | [d1, d2] => { results := [.lit (.bool true)], args := [d1, d2] }
  | _ => none }
def viewRowsRow : OpenClaim := { program := "ytjjnmafoakoenaa", sum := "c2c3ca07a0309eb27620d25847dc1500ce668cafbb48379fa82d179aa6c74ecf", func := "curia/curialaw9.ViewRows", spec := "viewRows", unfollowed := true, recurses := true, apart := false }
def ViewRowsSaid : Prop := viewRowsRow.holds Try.pinned (OpenSpec.ofChange viewRowsSpec)

/-- ITS FALSE NEIGHBOUR: 'it returns false'. Refute it at one input. -/
def viewRowsWrong : ChangeSpec := { name := "viewRows", fn := fun _ => fun
  | [d1, d2] => { results := [.lit (.bool false)], args := [d1, d2] }
  | _ => none }
def ViewRowsWrongFalsely : Prop := viewRowsRow.holds Try.pinned (OpenSpec.ofChange viewRowsWrong)

/-- 'curialaw9.ViewTells': WHATEVER THE INPUT: true; the input reads as it did. -/
def viewTellsSpec : ChangeSpec := { name := "viewTells", fn := fun _ => fun
  | [d1, d2] => { results := [.lit (.bool true)], args := [d1, d2] }
  | _ => none }
def viewTellsRow : OpenClaim := { program := "ytjjnmafoakoenaa", sum := "c2c3ca07a0309eb27620d25847dc1500ce668cafbb48379fa82d179aa6c74ecf", func := "curia/curialaw9.ViewTells", spec := "viewTells", unfollowed := true, recurses := true, apart := false }
def ViewTellsSaid : Prop := viewTellsRow.holds Try.pinned (OpenSpec.ofChange viewTellsSpec)

/-- ITS FALSE NEIGHBOUR: 'it returns false'. Refute it at one input. -/
def viewTellsWrong : ChangeSpec := { name := "viewTells", fn := fun _ => fun
  | [d1, d2] => { results := [.lit (.bool false)], args := [d1, d2] }
  | _ => none }
def ViewTellsWrongFalsely : Prop := viewTellsRow.holds Try.pinned (OpenSpec.ofChange viewTellsWrong)

/- THE SECOND FORM. 'bulk': how many values and letters a reading holds, each counted each time it is reached (what is shared counts as often as it is met; a slice's spare places count too). A statement '..UptoSaid' is the law's where the arguments, and the package variables that the reading takes, are together of bulk at most 1048576: NARROWER than '..Said'. Prove '..Said' where nothing that the law and all that it calls make is longer than what came in: it says more and counts as full. Else prove '..UptoSaid'. A law counts once. -/
mutual
def uptoBulk {H : Type} : DataW H → Nat
  | .lit (.string bytes) => bytes.length + 1
  | .lit _ => 1
  | .nil => 1
  | .ptr d => uptoBulk d + 1
  | .slice elems spare => uptoBulkAll elems + uptoBulkAll spare + 1
  | .agg parts => uptoBulkAll parts + 1
  | .iface _ d => uptoBulk d + 1
  | .map entries => uptoBulkEntries entries + 1
  | .held _ => 1
def uptoBulkAll {H : Type} : List (DataW H) → Nat
  | [] => 0
  | d :: r => uptoBulk d + uptoBulkAll r
def uptoBulkEntries {H : Type} : List (Lit × DataW H) → Nat
  | [] => 0
  | x :: r => uptoBulkEntry x + uptoBulkEntries r
def uptoBulkEntry {H : Type} : Lit × DataW H → Nat
  | (.string bytes, d) => bytes.length + uptoBulk d + 1
  | (_, d) => uptoBulk d + 1
 end
def uptoSmall : (H : Type) → List (DataW H) → Bool := fun _ ds => decide (uptoBulkAll ds ≤ 1048576)
def OpenSpec.upto (s : _root_.Go.ChangeSpec) : _root_.Go.OpenSpec := { _root_.Go.OpenSpec.ofChange s with cond := some uptoSmall }

/-- 'curialaw9.ViewApplies', WHERE WHAT IT READS IS OF BULK AT MOST 1048576: true; the input reads as it did. -/
def viewAppliesUptoRow : OpenClaim := { program := "ytjjnmafoakoenaa", sum := "c2c3ca07a0309eb27620d25847dc1500ce668cafbb48379fa82d179aa6c74ecf", func := "curia/curialaw9.ViewApplies", spec := "viewApplies", unfollowed := true, recurses := true, apart := false, narrowed := true }
def ViewAppliesUptoSaid : Prop := viewAppliesUptoRow.holds Try.pinned (OpenSpec.upto viewAppliesSpec)

/-- 'curialaw9.ViewStays', WHERE WHAT IT READS IS OF BULK AT MOST 1048576: true; the input reads as it did. -/
def viewStaysUptoRow : OpenClaim := { program := "ytjjnmafoakoenaa", sum := "c2c3ca07a0309eb27620d25847dc1500ce668cafbb48379fa82d179aa6c74ecf", func := "curia/curialaw9.ViewStays", spec := "viewStays", unfollowed := true, recurses := true, apart := false, narrowed := true }
def ViewStaysUptoSaid : Prop := viewStaysUptoRow.holds Try.pinned (OpenSpec.upto viewStaysSpec)

/-- 'curialaw9.ViewFew', WHERE WHAT IT READS IS OF BULK AT MOST 1048576: true; the input reads as it did. -/
def viewFewUptoRow : OpenClaim := { program := "ytjjnmafoakoenaa", sum := "c2c3ca07a0309eb27620d25847dc1500ce668cafbb48379fa82d179aa6c74ecf", func := "curia/curialaw9.ViewFew", spec := "viewFew", unfollowed := true, recurses := true, apart := false, narrowed := true }
def ViewFewUptoSaid : Prop := viewFewUptoRow.holds Try.pinned (OpenSpec.upto viewFewSpec)

/-- 'curialaw9.ViewAdds', WHERE WHAT IT READS IS OF BULK AT MOST 1048576: true; the input reads as it did. -/
def viewAddsUptoRow : OpenClaim := { program := "ytjjnmafoakoenaa", sum := "c2c3ca07a0309eb27620d25847dc1500ce668cafbb48379fa82d179aa6c74ecf", func := "curia/curialaw9.ViewAdds", spec := "viewAdds", unfollowed := true, recurses := true, apart := false, narrowed := true }
def ViewAddsUptoSaid : Prop := viewAddsUptoRow.holds Try.pinned (OpenSpec.upto viewAddsSpec)

/-- 'curialaw9.ViewSwaps', WHERE WHAT IT READS IS OF BULK AT MOST 1048576: true; the input reads as it did. -/
def viewSwapsUptoRow : OpenClaim := { program := "ytjjnmafoakoenaa", sum := "c2c3ca07a0309eb27620d25847dc1500ce668cafbb48379fa82d179aa6c74ecf", func := "curia/curialaw9.ViewSwaps", spec := "viewSwaps", unfollowed := true, recurses := true, apart := false, narrowed := true }
def ViewSwapsUptoSaid : Prop := viewSwapsUptoRow.holds Try.pinned (OpenSpec.upto viewSwapsSpec)

/-- 'curialaw9.ViewOdd', WHERE WHAT IT READS IS OF BULK AT MOST 1048576: true; the input reads as it did. -/
def viewOddUptoRow : OpenClaim := { program := "ytjjnmafoakoenaa", sum := "c2c3ca07a0309eb27620d25847dc1500ce668cafbb48379fa82d179aa6c74ecf", func := "curia/curialaw9.ViewOdd", spec := "viewOdd", unfollowed := true, recurses := true, apart := false, narrowed := true }
def ViewOddUptoSaid : Prop := viewOddUptoRow.holds Try.pinned (OpenSpec.upto viewOddSpec)

/-- 'curialaw9.ViewTurns', WHERE WHAT IT READS IS OF BULK AT MOST 1048576: true; the input reads as it did. -/
def viewTurnsUptoRow : OpenClaim := { program := "ytjjnmafoakoenaa", sum := "c2c3ca07a0309eb27620d25847dc1500ce668cafbb48379fa82d179aa6c74ecf", func := "curia/curialaw9.ViewTurns", spec := "viewTurns", unfollowed := true, recurses := true, apart := false, narrowed := true }
def ViewTurnsUptoSaid : Prop := viewTurnsUptoRow.holds Try.pinned (OpenSpec.upto viewTurnsSpec)

/-- 'curialaw9.ViewBlanks', WHERE WHAT IT READS IS OF BULK AT MOST 1048576: true; the input reads as it did. -/
def viewBlanksUptoRow : OpenClaim := { program := "ytjjnmafoakoenaa", sum := "c2c3ca07a0309eb27620d25847dc1500ce668cafbb48379fa82d179aa6c74ecf", func := "curia/curialaw9.ViewBlanks", spec := "viewBlanks", unfollowed := true, recurses := true, apart := false, narrowed := true }
def ViewBlanksUptoSaid : Prop := viewBlanksUptoRow.holds Try.pinned (OpenSpec.upto viewBlanksSpec)

/-- 'curialaw9.ViewMay', WHERE WHAT IT READS IS OF BULK AT MOST 1048576: true; the input reads as it did. -/
def viewMayUptoRow : OpenClaim := { program := "ytjjnmafoakoenaa", sum := "c2c3ca07a0309eb27620d25847dc1500ce668cafbb48379fa82d179aa6c74ecf", func := "curia/curialaw9.ViewMay", spec := "viewMay", unfollowed := true, recurses := true, apart := false, narrowed := true }
def ViewMayUptoSaid : Prop := viewMayUptoRow.holds Try.pinned (OpenSpec.upto viewMaySpec)

/-- 'curialaw9.ViewRows', WHERE WHAT IT READS IS OF BULK AT MOST 1048576: true; the input reads as it did. -/
def viewRowsUptoRow : OpenClaim := { program := "ytjjnmafoakoenaa", sum := "c2c3ca07a0309eb27620d25847dc1500ce668cafbb48379fa82d179aa6c74ecf", func := "curia/curialaw9.ViewRows", spec := "viewRows", unfollowed := true, recurses := true, apart := false, narrowed := true }
def ViewRowsUptoSaid : Prop := viewRowsUptoRow.holds Try.pinned (OpenSpec.upto viewRowsSpec)

/-- 'curialaw9.ViewTells', WHERE WHAT IT READS IS OF BULK AT MOST 1048576: true; the input reads as it did. -/
def viewTellsUptoRow : OpenClaim := { program := "ytjjnmafoakoenaa", sum := "c2c3ca07a0309eb27620d25847dc1500ce668cafbb48379fa82d179aa6c74ecf", func := "curia/curialaw9.ViewTells", spec := "viewTells", unfollowed := true, recurses := true, apart := false, narrowed := true }
def ViewTellsUptoSaid : Prop := viewTellsUptoRow.holds Try.pinned (OpenSpec.upto viewTellsSpec)

end Rows
end Go.Proofs.Ytjjnmafoakoenaa
