/-
  No cell of these rows narrows 'for every input' (looked for: loops, veiled, ifaces, maps, wideKeys, modest, calm, conditions, laid).
  DERIVED. THE GIVEN ROWS OF THIS SEAT. 9 by the template 'for every input the law returns true; each argument reads behind the call as it read before'; 0 by the template 'total and deterministic' (their statements: YtkiamgiobmgmmaaTotals.lean).
  GIVEN WITH THE SEED: the statements are not yours to turn. If you find one false, say at which input.
  Laid BY PROGRAM, IN A SANDBOX (cutbox-rows.mjs): the forced cells as the released guide's own fill.sh prints them over the translation f7f2d2284022b31b… (all of the seat's roots in one cut). By AI agents, Wed Nov 11 2026. No macro, syntax, notation, axiom, sorry.
-/
import Derived.Test.YtkiamgiobmgmmaaChecked
import GoSem.Claim
import GoSem.ClaimJoined
import GoSem.ClaimMapViews
import Derived.JoinedTies
import Derived.KernelRfl
namespace Go.Proofs.Ytkiamgiobmgmmaa
/- THE CELL 'sum', in the pinned program and in every row, IS THE sha256 OF THE DUMP (.gsa) THAT YtkiamgiobmgmmaaProg.lean LOADS. Nothing in Lean hashes anything: it is a label: what it is worth is what the hold of that sum in a sandbox is worth. -/
noncomputable def Try.pinned : Pinned := { name := "ytkiamgiobmgmmaa", sum := "f7f2d2284022b31bd4f37eac4ac54ff1d6a8c54ff246b25105b72429d6aa9cd0", checked := Try.checked }
namespace Rows
def none {H : Type} : Left H := { results := [], args := [] }

/-- 'curialaw1.SpongeTurns': WHATEVER THE INPUT: true; the input reads as it did. -/
def spongeTurnsSpec : ChangeSpec := { name := "spongeTurns", fn := fun _ => fun
  | [d1, d2, d3, d4, d5] => { results := [.lit (.bool true)], args := [d1, d2, d3, d4, d5] }
  | _ => none }
def spongeTurnsRow : OpenClaim := { program := "ytkiamgiobmgmmaa", sum := "f7f2d2284022b31bd4f37eac4ac54ff1d6a8c54ff246b25105b72429d6aa9cd0", func := "curia/curialaw1.SpongeTurns", spec := "spongeTurns", apart := false }
def SpongeTurnsSaid : Prop := spongeTurnsRow.holds Try.pinned (OpenSpec.ofChange spongeTurnsSpec)

/-- ITS FALSE NEIGHBOUR: 'it returns false'. Refute it at one input. -/
def spongeTurnsWrong : ChangeSpec := { name := "spongeTurns", fn := fun _ => fun
  | [d1, d2, d3, d4, d5] => { results := [.lit (.bool false)], args := [d1, d2, d3, d4, d5] }
  | _ => none }
def SpongeTurnsWrongFalsely : Prop := spongeTurnsRow.holds Try.pinned (OpenSpec.ofChange spongeTurnsWrong)

/-- 'curialaw1.SpongeSums': WHATEVER THE INPUT: true; the input reads as it did. -/
def spongeSumsSpec : ChangeSpec := { name := "spongeSums", fn := fun _ => fun
  | [d] => { results := [.lit (.bool true)], args := [d] }
  | _ => none }
def spongeSumsRow : OpenClaim := { program := "ytkiamgiobmgmmaa", sum := "f7f2d2284022b31bd4f37eac4ac54ff1d6a8c54ff246b25105b72429d6aa9cd0", func := "curia/curialaw1.SpongeSums", spec := "spongeSums", apart := false }
def SpongeSumsSaid : Prop := spongeSumsRow.holds Try.pinned (OpenSpec.ofChange spongeSumsSpec)

/-- ITS FALSE NEIGHBOUR: 'it returns false'. Refute it at one input. -/
def spongeSumsWrong : ChangeSpec := { name := "spongeSums", fn := fun _ => fun
  | [d] => { results := [.lit (.bool false)], args := [d] }
  | _ => none }
def SpongeSumsWrongFalsely : Prop := spongeSumsRow.holds Try.pinned (OpenSpec.ofChange spongeSumsWrong)

/-- 'curialaw1.SpongeBack': WHATEVER THE INPUT: true; the input reads as it did. -/
def spongeBackSpec : ChangeSpec := { name := "spongeBack", fn := fun _ => fun
  | [d1, d2] => { results := [.lit (.bool true)], args := [d1, d2] }
  | _ => none }
def spongeBackRow : OpenClaim := { program := "ytkiamgiobmgmmaa", sum := "f7f2d2284022b31bd4f37eac4ac54ff1d6a8c54ff246b25105b72429d6aa9cd0", func := "curia/curialaw1.SpongeBack", spec := "spongeBack", apart := false }
def SpongeBackSaid : Prop := spongeBackRow.holds Try.pinned (OpenSpec.ofChange spongeBackSpec)

/-- ITS FALSE NEIGHBOUR: 'it returns false'. Refute it at one input. -/
def spongeBackWrong : ChangeSpec := { name := "spongeBack", fn := fun _ => fun
  | [d1, d2] => { results := [.lit (.bool false)], args := [d1, d2] }
  | _ => none }
def SpongeBackWrongFalsely : Prop := spongeBackRow.holds Try.pinned (OpenSpec.ofChange spongeBackWrong)

/-- 'curialaw1.SpongeShort': WHATEVER THE INPUT: true; the input reads as it did. -/
def spongeShortSpec : ChangeSpec := { name := "spongeShort", fn := fun _ => fun
  | [d] => { results := [.lit (.bool true)], args := [d] }
  | _ => none }
def spongeShortRow : OpenClaim := { program := "ytkiamgiobmgmmaa", sum := "f7f2d2284022b31bd4f37eac4ac54ff1d6a8c54ff246b25105b72429d6aa9cd0", func := "curia/curialaw1.SpongeShort", spec := "spongeShort", apart := false }
def SpongeShortSaid : Prop := spongeShortRow.holds Try.pinned (OpenSpec.ofChange spongeShortSpec)

/-- ITS FALSE NEIGHBOUR: 'it returns false'. Refute it at one input. -/
def spongeShortWrong : ChangeSpec := { name := "spongeShort", fn := fun _ => fun
  | [d] => { results := [.lit (.bool false)], args := [d] }
  | _ => none }
def SpongeShortWrongFalsely : Prop := spongeShortRow.holds Try.pinned (OpenSpec.ofChange spongeShortWrong)

/-- 'curialaw1.SpongeEnds': WHATEVER THE INPUT: true; the input reads as it did. -/
def spongeEndsSpec : ChangeSpec := { name := "spongeEnds", fn := fun _ => fun
  | [d1, d2] => { results := [.lit (.bool true)], args := [d1, d2] }
  | _ => none }
def spongeEndsRow : OpenClaim := { program := "ytkiamgiobmgmmaa", sum := "f7f2d2284022b31bd4f37eac4ac54ff1d6a8c54ff246b25105b72429d6aa9cd0", func := "curia/curialaw1.SpongeEnds", spec := "spongeEnds", apart := false }
def SpongeEndsSaid : Prop := spongeEndsRow.holds Try.pinned (OpenSpec.ofChange spongeEndsSpec)

/-- ITS FALSE NEIGHBOUR: 'it returns false'. Refute it at one input. -/
def spongeEndsWrong : ChangeSpec := { name := "spongeEnds", fn := fun _ => fun
  | [d1, d2] => { results := [.lit (.bool false)], args := [d1, d2] }
  | _ => none }
def SpongeEndsWrongFalsely : Prop := spongeEndsRow.holds Try.pinned (OpenSpec.ofChange spongeEndsWrong)

/-- 'curialaw1.SpongeOwn': WHATEVER THE INPUT: true; the input reads as it did. -/
def spongeOwnSpec : ChangeSpec := { name := "spongeOwn", fn := fun _ => fun
  | [d1, d2] => { results := [.lit (.bool true)], args := [d1, d2] }
  | _ => none }
def spongeOwnRow : OpenClaim := { program := "ytkiamgiobmgmmaa", sum := "f7f2d2284022b31bd4f37eac4ac54ff1d6a8c54ff246b25105b72429d6aa9cd0", func := "curia/curialaw1.SpongeOwn", spec := "spongeOwn", apart := false }
def SpongeOwnSaid : Prop := spongeOwnRow.holds Try.pinned (OpenSpec.ofChange spongeOwnSpec)

/-- ITS FALSE NEIGHBOUR: 'it returns false'. Refute it at one input. -/
def spongeOwnWrong : ChangeSpec := { name := "spongeOwn", fn := fun _ => fun
  | [d1, d2] => { results := [.lit (.bool false)], args := [d1, d2] }
  | _ => none }
def SpongeOwnWrongFalsely : Prop := spongeOwnRow.holds Try.pinned (OpenSpec.ofChange spongeOwnWrong)

/-- 'curialaw1.SpongeDerives': WHATEVER THE INPUT: true; the input reads as it did. -/
def spongeDerivesSpec : ChangeSpec := { name := "spongeDerives", fn := fun _ => fun
  | [d1, d2, d3, d4] => { results := [.lit (.bool true)], args := [d1, d2, d3, d4] }
  | _ => none }
def spongeDerivesRow : OpenClaim := { program := "ytkiamgiobmgmmaa", sum := "f7f2d2284022b31bd4f37eac4ac54ff1d6a8c54ff246b25105b72429d6aa9cd0", func := "curia/curialaw1.SpongeDerives", spec := "spongeDerives", apart := false }
def SpongeDerivesSaid : Prop := spongeDerivesRow.holds Try.pinned (OpenSpec.ofChange spongeDerivesSpec)

/-- ITS FALSE NEIGHBOUR: 'it returns false'. Refute it at one input. -/
def spongeDerivesWrong : ChangeSpec := { name := "spongeDerives", fn := fun _ => fun
  | [d1, d2, d3, d4] => { results := [.lit (.bool false)], args := [d1, d2, d3, d4] }
  | _ => none }
def SpongeDerivesWrongFalsely : Prop := spongeDerivesRow.holds Try.pinned (OpenSpec.ofChange spongeDerivesWrong)

/-- 'curialaw1.SpongeRows': WHATEVER THE INPUT: true; the input reads as it did. -/
def spongeRowsSpec : ChangeSpec := { name := "spongeRows", fn := fun _ => fun
  | [d] => { results := [.lit (.bool true)], args := [d] }
  | _ => none }
def spongeRowsRow : OpenClaim := { program := "ytkiamgiobmgmmaa", sum := "f7f2d2284022b31bd4f37eac4ac54ff1d6a8c54ff246b25105b72429d6aa9cd0", func := "curia/curialaw1.SpongeRows", spec := "spongeRows", apart := false }
def SpongeRowsSaid : Prop := spongeRowsRow.holds Try.pinned (OpenSpec.ofChange spongeRowsSpec)

/-- ITS FALSE NEIGHBOUR: 'it returns false'. Refute it at one input. -/
def spongeRowsWrong : ChangeSpec := { name := "spongeRows", fn := fun _ => fun
  | [d] => { results := [.lit (.bool false)], args := [d] }
  | _ => none }
def SpongeRowsWrongFalsely : Prop := spongeRowsRow.holds Try.pinned (OpenSpec.ofChange spongeRowsWrong)

/-- 'curialaw1.SpongeLabels': WHATEVER THE INPUT: true; the input reads as it did. -/
def spongeLabelsSpec : ChangeSpec := { name := "spongeLabels", fn := fun _ => fun
  | [d1, d2, d3] => { results := [.lit (.bool true)], args := [d1, d2, d3] }
  | _ => none }
def spongeLabelsRow : OpenClaim := { program := "ytkiamgiobmgmmaa", sum := "f7f2d2284022b31bd4f37eac4ac54ff1d6a8c54ff246b25105b72429d6aa9cd0", func := "curia/curialaw1.SpongeLabels", spec := "spongeLabels", apart := false }
def SpongeLabelsSaid : Prop := spongeLabelsRow.holds Try.pinned (OpenSpec.ofChange spongeLabelsSpec)

/-- ITS FALSE NEIGHBOUR: 'it returns false'. Refute it at one input. -/
def spongeLabelsWrong : ChangeSpec := { name := "spongeLabels", fn := fun _ => fun
  | [d1, d2, d3] => { results := [.lit (.bool false)], args := [d1, d2, d3] }
  | _ => none }
def SpongeLabelsWrongFalsely : Prop := spongeLabelsRow.holds Try.pinned (OpenSpec.ofChange spongeLabelsWrong)

/- THE SECOND FORM. 'bulk': how many values and letters a reading holds, each counted each time it is reached (what is shared counts as often as it is met; a slice's spare places count too). A statement '..UptoSaid' is the law's where the arguments, and the package variables that the reading takes, are together of bulk at most 1048576: NARROWER than '..Said'. Prove '..Said' where nothing that the law and all that it calls make is longer than what came in: it says more and counts as full. Else prove '..UptoSaid'. A law counts once. -/
mutual
def uptoBulk {H : Type} : DataW H → Nat
  | .lit (.string bytes) => bytes.length + 1
  | .lit _ => 1
  | .nil => 1
  | .ptr d => uptoBulk d + 1
  | .slice elems spare => uptoBulkAll elems + uptoBulkAll spare + 1
  | .agg parts => uptoBulkAll parts + 1
  | .iface _ d => uptoBulk d + 1
  | .map entries => uptoBulkEntries entries + 1
  | .held _ => 1
def uptoBulkAll {H : Type} : List (DataW H) → Nat
  | [] => 0
  | d :: r => uptoBulk d + uptoBulkAll r
def uptoBulkEntries {H : Type} : List (Lit × DataW H) → Nat
  | [] => 0
  | x :: r => uptoBulkEntry x + uptoBulkEntries r
def uptoBulkEntry {H : Type} : Lit × DataW H → Nat
  | (.string bytes, d) => bytes.length + uptoBulk d + 1
  | (_, d) => uptoBulk d + 1
 end
def uptoSmall : (H : Type) → List (DataW H) → Bool := fun _ ds => decide (uptoBulkAll ds ≤ 1048576)
def OpenSpec.upto (s : _root_.Go.ChangeSpec) : _root_.Go.OpenSpec := { _root_.Go.OpenSpec.ofChange s with cond := some uptoSmall }

/-- 'curialaw1.SpongeTurns', WHERE WHAT IT READS IS OF BULK AT MOST 1048576: true; the input reads as it did. -/
def spongeTurnsUptoRow : OpenClaim := { program := "ytkiamgiobmgmmaa", sum := "f7f2d2284022b31bd4f37eac4ac54ff1d6a8c54ff246b25105b72429d6aa9cd0", func := "curia/curialaw1.SpongeTurns", spec := "spongeTurns", apart := false, narrowed := true }
def SpongeTurnsUptoSaid : Prop := spongeTurnsUptoRow.holds Try.pinned (OpenSpec.upto spongeTurnsSpec)

/-- 'curialaw1.SpongeSums', WHERE WHAT IT READS IS OF BULK AT MOST 1048576: true; the input reads as it did. -/
def spongeSumsUptoRow : OpenClaim := { program := "ytkiamgiobmgmmaa", sum := "f7f2d2284022b31bd4f37eac4ac54ff1d6a8c54ff246b25105b72429d6aa9cd0", func := "curia/curialaw1.SpongeSums", spec := "spongeSums", apart := false, narrowed := true }
def SpongeSumsUptoSaid : Prop := spongeSumsUptoRow.holds Try.pinned (OpenSpec.upto spongeSumsSpec)

/-- 'curialaw1.SpongeBack', WHERE WHAT IT READS IS OF BULK AT MOST 1048576: true; the input reads as it did. -/
def spongeBackUptoRow : OpenClaim := { program := "ytkiamgiobmgmmaa", sum := "f7f2d2284022b31bd4f37eac4ac54ff1d6a8c54ff246b25105b72429d6aa9cd0", func := "curia/curialaw1.SpongeBack", spec := "spongeBack", apart := false, narrowed := true }
def SpongeBackUptoSaid : Prop := spongeBackUptoRow.holds Try.pinned (OpenSpec.upto spongeBackSpec)

/-- 'curialaw1.SpongeShort', WHERE WHAT IT READS IS OF BULK AT MOST 1048576: true; the input reads as it did. -/
def spongeShortUptoRow : OpenClaim := { program := "ytkiamgiobmgmmaa", sum := "f7f2d2284022b31bd4f37eac4ac54ff1d6a8c54ff246b25105b72429d6aa9cd0", func := "curia/curialaw1.SpongeShort", spec := "spongeShort", apart := false, narrowed := true }
def SpongeShortUptoSaid : Prop := spongeShortUptoRow.holds Try.pinned (OpenSpec.upto spongeShortSpec)

/-- 'curialaw1.SpongeEnds', WHERE WHAT IT READS IS OF BULK AT MOST 1048576: true; the input reads as it did. -/
def spongeEndsUptoRow : OpenClaim := { program := "ytkiamgiobmgmmaa", sum := "f7f2d2284022b31bd4f37eac4ac54ff1d6a8c54ff246b25105b72429d6aa9cd0", func := "curia/curialaw1.SpongeEnds", spec := "spongeEnds", apart := false, narrowed := true }
def SpongeEndsUptoSaid : Prop := spongeEndsUptoRow.holds Try.pinned (OpenSpec.upto spongeEndsSpec)

/-- 'curialaw1.SpongeOwn', WHERE WHAT IT READS IS OF BULK AT MOST 1048576: true; the input reads as it did. -/
def spongeOwnUptoRow : OpenClaim := { program := "ytkiamgiobmgmmaa", sum := "f7f2d2284022b31bd4f37eac4ac54ff1d6a8c54ff246b25105b72429d6aa9cd0", func := "curia/curialaw1.SpongeOwn", spec := "spongeOwn", apart := false, narrowed := true }
def SpongeOwnUptoSaid : Prop := spongeOwnUptoRow.holds Try.pinned (OpenSpec.upto spongeOwnSpec)

/-- 'curialaw1.SpongeDerives', WHERE WHAT IT READS IS OF BULK AT MOST 1048576: true; the input reads as it did. -/
def spongeDerivesUptoRow : OpenClaim := { program := "ytkiamgiobmgmmaa", sum := "f7f2d2284022b31bd4f37eac4ac54ff1d6a8c54ff246b25105b72429d6aa9cd0", func := "curia/curialaw1.SpongeDerives", spec := "spongeDerives", apart := false, narrowed := true }
def SpongeDerivesUptoSaid : Prop := spongeDerivesUptoRow.holds Try.pinned (OpenSpec.upto spongeDerivesSpec)

/-- 'curialaw1.SpongeRows', WHERE WHAT IT READS IS OF BULK AT MOST 1048576: true; the input reads as it did. -/
def spongeRowsUptoRow : OpenClaim := { program := "ytkiamgiobmgmmaa", sum := "f7f2d2284022b31bd4f37eac4ac54ff1d6a8c54ff246b25105b72429d6aa9cd0", func := "curia/curialaw1.SpongeRows", spec := "spongeRows", apart := false, narrowed := true }
def SpongeRowsUptoSaid : Prop := spongeRowsUptoRow.holds Try.pinned (OpenSpec.upto spongeRowsSpec)

/-- 'curialaw1.SpongeLabels', WHERE WHAT IT READS IS OF BULK AT MOST 1048576: true; the input reads as it did. -/
def spongeLabelsUptoRow : OpenClaim := { program := "ytkiamgiobmgmmaa", sum := "f7f2d2284022b31bd4f37eac4ac54ff1d6a8c54ff246b25105b72429d6aa9cd0", func := "curia/curialaw1.SpongeLabels", spec := "spongeLabels", apart := false, narrowed := true }
def SpongeLabelsUptoSaid : Prop := spongeLabelsUptoRow.holds Try.pinned (OpenSpec.upto spongeLabelsSpec)

end Rows
end Go.Proofs.Ytkiamgiobmgmmaa
