/-
  No cell of these rows narrows 'for every input' (looked for: loops, veiled, ifaces, maps, wideKeys, modest, calm, conditions, laid).
  DERIVED. THE GIVEN ROWS OF THIS SEAT. 4 by the template 'for every input the law returns true; each argument reads behind the call as it read before'; 0 by the template 'total and deterministic' (their statements: YtabiknpgakhkkaaTotals.lean).
  GIVEN WITH THE SEED: the statements are not yours to turn. If you find one false, say at which input.
  Laid BY PROGRAM, IN A SANDBOX (cutbox-rows.mjs): the forced cells as the released guide's own fill.sh prints them over the translation f79708799eab9ebe… (all of the seat's roots in one cut). By AI agents, Wed Nov 11 2026. No macro, syntax, notation, axiom, sorry.
-/
import Derived.Test.YtabiknpgakhkkaaChecked
import GoSem.Claim
import GoSem.ClaimJoined
import GoSem.ClaimMapViews
import Derived.JoinedTies
import Derived.KernelRfl
namespace Go.Proofs.Ytabiknpgakhkkaa
/- THE CELL 'sum', in the pinned program and in every row, IS THE sha256 OF THE DUMP (.gsa) THAT YtabiknpgakhkkaaProg.lean LOADS. Nothing in Lean hashes anything: it is a label: what it is worth is what the hold of that sum in a sandbox is worth. -/
noncomputable def Try.pinned : Pinned := { name := "ytabiknpgakhkkaa", sum := "f79708799eab9ebe7da921888b8236d4b2536db7e0843bdf57c69e0300d54790", checked := Try.checked }
namespace Rows
def none {H : Type} : Left H := { results := [], args := [] }

/-- 'curialaw10.VoteOther': WHATEVER THE INPUT: true; the input reads as it did. -/
def voteOtherSpec : ChangeSpec := { name := "voteOther", fn := fun _ => fun
  | [d1, d2, d3, d4] => { results := [.lit (.bool true)], args := [d1, d2, d3, d4] }
  | _ => none }
def voteOtherRow : OpenClaim := { program := "ytabiknpgakhkkaa", sum := "f79708799eab9ebe7da921888b8236d4b2536db7e0843bdf57c69e0300d54790", func := "curia/curialaw10.VoteOther", spec := "voteOther", unfollowed := true, recurses := true, apart := false }
def VoteOtherSaid : Prop := voteOtherRow.holds Try.pinned (OpenSpec.ofChange voteOtherSpec)

/-- ITS FALSE NEIGHBOUR: 'it returns false'. Refute it at one input. -/
def voteOtherWrong : ChangeSpec := { name := "voteOther", fn := fun _ => fun
  | [d1, d2, d3, d4] => { results := [.lit (.bool false)], args := [d1, d2, d3, d4] }
  | _ => none }
def VoteOtherWrongFalsely : Prop := voteOtherRow.holds Try.pinned (OpenSpec.ofChange voteOtherWrong)

/-- 'curialaw10.VoteForged': WHATEVER THE INPUT: true; the input reads as it did. -/
def voteForgedSpec : ChangeSpec := { name := "voteForged", fn := fun _ => fun
  | [d1, d2] => { results := [.lit (.bool true)], args := [d1, d2] }
  | _ => none }
def voteForgedRow : OpenClaim := { program := "ytabiknpgakhkkaa", sum := "f79708799eab9ebe7da921888b8236d4b2536db7e0843bdf57c69e0300d54790", func := "curia/curialaw10.VoteForged", spec := "voteForged", unfollowed := true, recurses := true, apart := false }
def VoteForgedSaid : Prop := voteForgedRow.holds Try.pinned (OpenSpec.ofChange voteForgedSpec)

/-- ITS FALSE NEIGHBOUR: 'it returns false'. Refute it at one input. -/
def voteForgedWrong : ChangeSpec := { name := "voteForged", fn := fun _ => fun
  | [d1, d2] => { results := [.lit (.bool false)], args := [d1, d2] }
  | _ => none }
def VoteForgedWrongFalsely : Prop := voteForgedRow.holds Try.pinned (OpenSpec.ofChange voteForgedWrong)

/-- 'curialaw10.VoteEmpty': WHATEVER THE INPUT: true; the input reads as it did. -/
def voteEmptySpec : ChangeSpec := { name := "voteEmpty", fn := fun _ => fun
  | [d1, d2, d3, d4] => { results := [.lit (.bool true)], args := [d1, d2, d3, d4] }
  | _ => none }
def voteEmptyRow : OpenClaim := { program := "ytabiknpgakhkkaa", sum := "f79708799eab9ebe7da921888b8236d4b2536db7e0843bdf57c69e0300d54790", func := "curia/curialaw10.VoteEmpty", spec := "voteEmpty", unfollowed := true, recurses := true, apart := false }
def VoteEmptySaid : Prop := voteEmptyRow.holds Try.pinned (OpenSpec.ofChange voteEmptySpec)

/-- ITS FALSE NEIGHBOUR: 'it returns false'. Refute it at one input. -/
def voteEmptyWrong : ChangeSpec := { name := "voteEmpty", fn := fun _ => fun
  | [d1, d2, d3, d4] => { results := [.lit (.bool false)], args := [d1, d2, d3, d4] }
  | _ => none }
def VoteEmptyWrongFalsely : Prop := voteEmptyRow.holds Try.pinned (OpenSpec.ofChange voteEmptyWrong)

/-- 'curialaw10.VotePapers': WHATEVER THE INPUT: true; the input reads as it did. -/
def votePapersSpec : ChangeSpec := { name := "votePapers", fn := fun _ => fun
  | [d1, d2] => { results := [.lit (.bool true)], args := [d1, d2] }
  | _ => none }
def votePapersRow : OpenClaim := { program := "ytabiknpgakhkkaa", sum := "f79708799eab9ebe7da921888b8236d4b2536db7e0843bdf57c69e0300d54790", func := "curia/curialaw10.VotePapers", spec := "votePapers", unfollowed := true, recurses := true, apart := false }
def VotePapersSaid : Prop := votePapersRow.holds Try.pinned (OpenSpec.ofChange votePapersSpec)

/-- ITS FALSE NEIGHBOUR: 'it returns false'. Refute it at one input. -/
def votePapersWrong : ChangeSpec := { name := "votePapers", fn := fun _ => fun
  | [d1, d2] => { results := [.lit (.bool false)], args := [d1, d2] }
  | _ => none }
def VotePapersWrongFalsely : Prop := votePapersRow.holds Try.pinned (OpenSpec.ofChange votePapersWrong)

/- THE SECOND FORM. 'bulk': how many values and letters a reading holds, each counted each time it is reached (what is shared counts as often as it is met; a slice's spare places count too). A statement '..UptoSaid' is the law's where the arguments, and the package variables that the reading takes, are together of bulk at most 1048576: NARROWER than '..Said'. Prove '..Said' where nothing that the law and all that it calls make is longer than what came in: it says more and counts as full. Else prove '..UptoSaid'. A law counts once. -/
mutual
def uptoBulk {H : Type} : DataW H → Nat
  | .lit (.string bytes) => bytes.length + 1
  | .lit _ => 1
  | .nil => 1
  | .ptr d => uptoBulk d + 1
  | .slice elems spare => uptoBulkAll elems + uptoBulkAll spare + 1
  | .agg parts => uptoBulkAll parts + 1
  | .iface _ d => uptoBulk d + 1
  | .map entries => uptoBulkEntries entries + 1
  | .held _ => 1
def uptoBulkAll {H : Type} : List (DataW H) → Nat
  | [] => 0
  | d :: r => uptoBulk d + uptoBulkAll r
def uptoBulkEntries {H : Type} : List (Lit × DataW H) → Nat
  | [] => 0
  | x :: r => uptoBulkEntry x + uptoBulkEntries r
def uptoBulkEntry {H : Type} : Lit × DataW H → Nat
  | (.string bytes, d) => bytes.length + uptoBulk d + 1
  | (_, d) => uptoBulk d + 1
 end
def uptoSmall : (H : Type) → List (DataW H) → Bool := fun _ ds => decide (uptoBulkAll ds ≤ 1048576)
def OpenSpec.upto (s : _root_.Go.ChangeSpec) : _root_.Go.OpenSpec := { _root_.Go.OpenSpec.ofChange s with cond := some uptoSmall }

/-- 'curialaw10.VoteOther', WHERE WHAT IT READS IS OF BULK AT MOST 1048576: true; the input reads as it did. -/
def voteOtherUptoRow : OpenClaim := { program := "ytabiknpgakhkkaa", sum := "f79708799eab9ebe7da921888b8236d4b2536db7e0843bdf57c69e0300d54790", func := "curia/curialaw10.VoteOther", spec := "voteOther", unfollowed := true, recurses := true, apart := false, narrowed := true }
def VoteOtherUptoSaid : Prop := voteOtherUptoRow.holds Try.pinned (OpenSpec.upto voteOtherSpec)

/-- 'curialaw10.VoteForged', WHERE WHAT IT READS IS OF BULK AT MOST 1048576: true; the input reads as it did. -/
def voteForgedUptoRow : OpenClaim := { program := "ytabiknpgakhkkaa", sum := "f79708799eab9ebe7da921888b8236d4b2536db7e0843bdf57c69e0300d54790", func := "curia/curialaw10.VoteForged", spec := "voteForged", unfollowed := true, recurses := true, apart := false, narrowed := true }
def VoteForgedUptoSaid : Prop := voteForgedUptoRow.holds Try.pinned (OpenSpec.upto voteForgedSpec)

/-- 'curialaw10.VoteEmpty', WHERE WHAT IT READS IS OF BULK AT MOST 1048576: true; the input reads as it did. -/
def voteEmptyUptoRow : OpenClaim := { program := "ytabiknpgakhkkaa", sum := "f79708799eab9ebe7da921888b8236d4b2536db7e0843bdf57c69e0300d54790", func := "curia/curialaw10.VoteEmpty", spec := "voteEmpty", unfollowed := true, recurses := true, apart := false, narrowed := true }
def VoteEmptyUptoSaid : Prop := voteEmptyUptoRow.holds Try.pinned (OpenSpec.upto voteEmptySpec)

/-- 'curialaw10.VotePapers', WHERE WHAT IT READS IS OF BULK AT MOST 1048576: true; the input reads as it did. -/
def votePapersUptoRow : OpenClaim := { program := "ytabiknpgakhkkaa", sum := "f79708799eab9ebe7da921888b8236d4b2536db7e0843bdf57c69e0300d54790", func := "curia/curialaw10.VotePapers", spec := "votePapers", unfollowed := true, recurses := true, apart := false, narrowed := true }
def VotePapersUptoSaid : Prop := votePapersUptoRow.holds Try.pinned (OpenSpec.upto votePapersSpec)

end Rows
end Go.Proofs.Ytabiknpgakhkkaa
