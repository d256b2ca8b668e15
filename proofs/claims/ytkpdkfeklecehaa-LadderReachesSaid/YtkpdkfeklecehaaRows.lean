/-
  No cell of these rows narrows 'for every input' (looked for: loops, veiled, ifaces, maps, wideKeys, modest, calm, conditions, laid).
  DERIVED. THE GIVEN ROWS OF THIS SEAT. 5 by the template 'for every input the law returns true; each argument reads behind the call as it read before'; 0 by the template 'total and deterministic' (their statements: YtkpdkfeklecehaaTotals.lean).
  GIVEN WITH THE SEED: the statements are not yours to turn. If you find one false, say at which input.
  Laid BY PROGRAM, IN A SANDBOX (cutbox-rows.mjs): the forced cells as the released guide's own fill.sh prints them over the translation 0f7764c517a9ceb8… (all of the seat's roots in one cut). By AI agents, Wed Nov 11 2026. No macro, syntax, notation, axiom, sorry.
-/
import Derived.Test.YtkpdkfeklecehaaChecked
import GoSem.Claim
import GoSem.ClaimJoined
import GoSem.ClaimMapViews
import Derived.JoinedTies
import Derived.KernelRfl
namespace Go.Proofs.Ytkpdkfeklecehaa
/- THE CELL 'sum', in the pinned program and in every row, IS THE sha256 OF THE DUMP (.gsa) THAT YtkpdkfeklecehaaProg.lean LOADS. Nothing in Lean hashes anything: it is a label: what it is worth is what the hold of that sum in a sandbox is worth. -/
noncomputable def Try.pinned : Pinned := { name := "ytkpdkfeklecehaa", sum := "0f7764c517a9ceb8ecf1a402b1da293329d439da5af52dfeee97f8286a8fb4d6", checked := Try.checked }
namespace Rows
def none {H : Type} : Left H := { results := [], args := [] }

/-- 'curialaw8.LadderReaches': WHATEVER THE INPUT: true; the input reads as it did. -/
def ladderReachesSpec : ChangeSpec := { name := "ladderReaches", fn := fun _ => fun
  | [d1, d2, d3] => { results := [.lit (.bool true)], args := [d1, d2, d3] }
  | _ => none }
def ladderReachesRow : OpenClaim := { program := "ytkpdkfeklecehaa", sum := "0f7764c517a9ceb8ecf1a402b1da293329d439da5af52dfeee97f8286a8fb4d6", func := "curia/curialaw8.LadderReaches", spec := "ladderReaches", recurses := true, apart := false }
def LadderReachesSaid : Prop := ladderReachesRow.holds Try.pinned (OpenSpec.ofChange ladderReachesSpec)

/-- ITS FALSE NEIGHBOUR: 'it returns false'. Refute it at one input. -/
def ladderReachesWrong : ChangeSpec := { name := "ladderReaches", fn := fun _ => fun
  | [d1, d2, d3] => { results := [.lit (.bool false)], args := [d1, d2, d3] }
  | _ => none }
def LadderReachesWrongFalsely : Prop := ladderReachesRow.holds Try.pinned (OpenSpec.ofChange ladderReachesWrong)

/-- 'curialaw8.LadderFull': WHATEVER THE INPUT: true; the input reads as it did. -/
def ladderFullSpec : ChangeSpec := { name := "ladderFull", fn := fun _ => fun
  | [d1, d2, d3] => { results := [.lit (.bool true)], args := [d1, d2, d3] }
  | _ => none }
def ladderFullRow : OpenClaim := { program := "ytkpdkfeklecehaa", sum := "0f7764c517a9ceb8ecf1a402b1da293329d439da5af52dfeee97f8286a8fb4d6", func := "curia/curialaw8.LadderFull", spec := "ladderFull", recurses := true, apart := false }
def LadderFullSaid : Prop := ladderFullRow.holds Try.pinned (OpenSpec.ofChange ladderFullSpec)

/-- ITS FALSE NEIGHBOUR: 'it returns false'. Refute it at one input. -/
def ladderFullWrong : ChangeSpec := { name := "ladderFull", fn := fun _ => fun
  | [d1, d2, d3] => { results := [.lit (.bool false)], args := [d1, d2, d3] }
  | _ => none }
def LadderFullWrongFalsely : Prop := ladderFullRow.holds Try.pinned (OpenSpec.ofChange ladderFullWrong)

/-- 'curialaw8.LadderBut': WHATEVER THE INPUT: true; the input reads as it did. -/
def ladderButSpec : ChangeSpec := { name := "ladderBut", fn := fun _ => fun
  | [d1, d2, d3] => { results := [.lit (.bool true)], args := [d1, d2, d3] }
  | _ => none }
def ladderButRow : OpenClaim := { program := "ytkpdkfeklecehaa", sum := "0f7764c517a9ceb8ecf1a402b1da293329d439da5af52dfeee97f8286a8fb4d6", func := "curia/curialaw8.LadderBut", spec := "ladderBut", recurses := true, apart := false }
def LadderButSaid : Prop := ladderButRow.holds Try.pinned (OpenSpec.ofChange ladderButSpec)

/-- ITS FALSE NEIGHBOUR: 'it returns false'. Refute it at one input. -/
def ladderButWrong : ChangeSpec := { name := "ladderBut", fn := fun _ => fun
  | [d1, d2, d3] => { results := [.lit (.bool false)], args := [d1, d2, d3] }
  | _ => none }
def LadderButWrongFalsely : Prop := ladderButRow.holds Try.pinned (OpenSpec.ofChange ladderButWrong)

/-- 'curialaw8.LadderTells': WHATEVER THE INPUT: true; the input reads as it did. -/
def ladderTellsSpec : ChangeSpec := { name := "ladderTells", fn := fun _ => fun
  | [d] => { results := [.lit (.bool true)], args := [d] }
  | _ => none }
def ladderTellsRow : OpenClaim := { program := "ytkpdkfeklecehaa", sum := "0f7764c517a9ceb8ecf1a402b1da293329d439da5af52dfeee97f8286a8fb4d6", func := "curia/curialaw8.LadderTells", spec := "ladderTells", inPlace := ["sync/atomic.StoreUint32", "sync/atomic.LoadUint32", "(*internal/sync.Mutex).Lock", "internal/race.Disable", "sync/atomic.CompareAndSwapInt32", "internal/race.Enable", "internal/race.Acquire", "(*internal/sync.Mutex).lockSlow", "internal/sync.runtime_canSpin", "internal/sync.runtime_doSpin", "internal/sync.throw", "internal/sync.runtime_nanotime", "internal/sync.runtime_SemacquireMutex", "sync/atomic.AddInt32", "(*internal/sync.Mutex).Unlock", "internal/race.ReleaseMerge", "(*internal/sync.Mutex).unlockSlow", "internal/sync.fatal", "internal/sync.runtime_Semrelease"], unfollowed := true, recurses := true, apart := false }
def LadderTellsSaid : Prop := ladderTellsRow.holds Try.pinned (OpenSpec.ofChange ladderTellsSpec)

/-- ITS FALSE NEIGHBOUR: 'it returns false'. Refute it at one input. -/
def ladderTellsWrong : ChangeSpec := { name := "ladderTells", fn := fun _ => fun
  | [d] => { results := [.lit (.bool false)], args := [d] }
  | _ => none }
def LadderTellsWrongFalsely : Prop := ladderTellsRow.holds Try.pinned (OpenSpec.ofChange ladderTellsWrong)

/-- 'curialaw8.LadderClimbs': WHATEVER THE INPUT: true; the input reads as it did. -/
def ladderClimbsSpec : ChangeSpec := { name := "ladderClimbs", fn := fun _ => fun
  | [d1, d2] => { results := [.lit (.bool true)], args := [d1, d2] }
  | _ => none }
def ladderClimbsRow : OpenClaim := { program := "ytkpdkfeklecehaa", sum := "0f7764c517a9ceb8ecf1a402b1da293329d439da5af52dfeee97f8286a8fb4d6", func := "curia/curialaw8.LadderClimbs", spec := "ladderClimbs", inPlace := ["sync/atomic.StoreUint32", "sync/atomic.LoadUint32", "(*internal/sync.Mutex).Lock", "internal/race.Disable", "sync/atomic.CompareAndSwapInt32", "internal/race.Enable", "internal/race.Acquire", "(*internal/sync.Mutex).lockSlow", "internal/sync.runtime_canSpin", "internal/sync.runtime_doSpin", "internal/sync.throw", "internal/sync.runtime_nanotime", "internal/sync.runtime_SemacquireMutex", "sync/atomic.AddInt32", "(*internal/sync.Mutex).Unlock", "internal/race.ReleaseMerge", "(*internal/sync.Mutex).unlockSlow", "internal/sync.fatal", "internal/sync.runtime_Semrelease"], unfollowed := true, recurses := true, apart := false }
def LadderClimbsSaid : Prop := ladderClimbsRow.holds Try.pinned (OpenSpec.ofChange ladderClimbsSpec)

/-- ITS FALSE NEIGHBOUR: 'it returns false'. Refute it at one input. -/
def ladderClimbsWrong : ChangeSpec := { name := "ladderClimbs", fn := fun _ => fun
  | [d1, d2] => { results := [.lit (.bool false)], args := [d1, d2] }
  | _ => none }
def LadderClimbsWrongFalsely : Prop := ladderClimbsRow.holds Try.pinned (OpenSpec.ofChange ladderClimbsWrong)

/- THE SECOND FORM. 'bulk': how many values and letters a reading holds, each counted each time it is reached (what is shared counts as often as it is met; a slice's spare places count too). A statement '..UptoSaid' is the law's where the arguments, and the package variables that the reading takes, are together of bulk at most 1048576: NARROWER than '..Said'. Prove '..Said' where nothing that the law and all that it calls make is longer than what came in: it says more and counts as full. Else prove '..UptoSaid'. A law counts once. -/
mutual
def uptoBulk {H : Type} : DataW H → Nat
  | .lit (.string bytes) => bytes.length + 1
  | .lit _ => 1
  | .nil => 1
  | .ptr d => uptoBulk d + 1
  | .slice elems spare => uptoBulkAll elems + uptoBulkAll spare + 1
  | .agg parts => uptoBulkAll parts + 1
  | .iface _ d => uptoBulk d + 1
  | .map entries => uptoBulkEntries entries + 1
  | .held _ => 1
def uptoBulkAll {H : Type} : List (DataW H) → Nat
  | [] => 0
  | d :: r => uptoBulk d + uptoBulkAll r
def uptoBulkEntries {H : Type} : List (Lit × DataW H) → Nat
  | [] => 0
  | x :: r => uptoBulkEntry x + uptoBulkEntries r
def uptoBulkEntry {H : Type} : Lit × DataW H → Nat
  | (.string bytes, d) => bytes.length + uptoBulk d + 1
  | (_, d) => uptoBulk d + 1
 end
def uptoSmall : (H : Type) → List (DataW H) → Bool := fun _ ds => decide (uptoBulkAll ds ≤ 1048576)
def OpenSpec.upto (s : _root_.Go.ChangeSpec) : _root_.Go.OpenSpec := { _root_.Go.OpenSpec.ofChange s with cond := some uptoSmall }

/-- 'curialaw8.LadderReaches', WHERE WHAT IT READS IS OF BULK AT MOST 1048576: true; the input reads as it did. -/
def ladderReachesUptoRow : OpenClaim := { program := "ytkpdkfeklecehaa", sum := "0f7764c517a9ceb8ecf1a402b1da293329d439da5af52dfeee97f8286a8fb4d6", func := "curia/curialaw8.LadderReaches", spec := "ladderReaches", recurses := true, apart := false, narrowed := true }
def LadderReachesUptoSaid : Prop := ladderReachesUptoRow.holds Try.pinned (OpenSpec.upto ladderReachesSpec)

/-- 'curialaw8.LadderFull', WHERE WHAT IT READS IS OF BULK AT MOST 1048576: true; the input reads as it did. -/
def ladderFullUptoRow : OpenClaim := { program := "ytkpdkfeklecehaa", sum := "0f7764c517a9ceb8ecf1a402b1da293329d439da5af52dfeee97f8286a8fb4d6", func := "curia/curialaw8.LadderFull", spec := "ladderFull", recurses := true, apart := false, narrowed := true }
def LadderFullUptoSaid : Prop := ladderFullUptoRow.holds Try.pinned (OpenSpec.upto ladderFullSpec)

/-- 'curialaw8.LadderBut', WHERE WHAT IT READS IS OF BULK AT MOST 1048576: true; the input reads as it did. -/
def ladderButUptoRow : OpenClaim := { program := "ytkpdkfeklecehaa", sum := "0f7764c517a9ceb8ecf1a402b1da293329d439da5af52dfeee97f8286a8fb4d6", func := "curia/curialaw8.LadderBut", spec := "ladderBut", recurses := true, apart := false, narrowed := true }
def LadderButUptoSaid : Prop := ladderButUptoRow.holds Try.pinned (OpenSpec.upto ladderButSpec)

/-- 'curialaw8.LadderTells', WHERE WHAT IT READS IS OF BULK AT MOST 1048576: true; the input reads as it did. -/
def ladderTellsUptoRow : OpenClaim := { program := "ytkpdkfeklecehaa", sum := "0f7764c517a9ceb8ecf1a402b1da293329d439da5af52dfeee97f8286a8fb4d6", func := "curia/curialaw8.LadderTells", spec := "ladderTells", inPlace := ["sync/atomic.StoreUint32", "sync/atomic.LoadUint32", "(*internal/sync.Mutex).Lock", "internal/race.Disable", "sync/atomic.CompareAndSwapInt32", "internal/race.Enable", "internal/race.Acquire", "(*internal/sync.Mutex).lockSlow", "internal/sync.runtime_canSpin", "internal/sync.runtime_doSpin", "internal/sync.throw", "internal/sync.runtime_nanotime", "internal/sync.runtime_SemacquireMutex", "sync/atomic.AddInt32", "(*internal/sync.Mutex).Unlock", "internal/race.ReleaseMerge", "(*internal/sync.Mutex).unlockSlow", "internal/sync.fatal", "internal/sync.runtime_Semrelease"], unfollowed := true, recurses := true, apart := false, narrowed := true }
def LadderTellsUptoSaid : Prop := ladderTellsUptoRow.holds Try.pinned (OpenSpec.upto ladderTellsSpec)

/-- 'curialaw8.LadderClimbs', WHERE WHAT IT READS IS OF BULK AT MOST 1048576: true; the input reads as it did. -/
def ladderClimbsUptoRow : OpenClaim := { program := "ytkpdkfeklecehaa", sum := "0f7764c517a9ceb8ecf1a402b1da293329d439da5af52dfeee97f8286a8fb4d6", func := "curia/curialaw8.LadderClimbs", spec := "ladderClimbs", inPlace := ["sync/atomic.StoreUint32", "sync/atomic.LoadUint32", "(*internal/sync.Mutex).Lock", "internal/race.Disable", "sync/atomic.CompareAndSwapInt32", "internal/race.Enable", "internal/race.Acquire", "(*internal/sync.Mutex).lockSlow", "internal/sync.runtime_canSpin", "internal/sync.runtime_doSpin", "internal/sync.throw", "internal/sync.runtime_nanotime", "internal/sync.runtime_SemacquireMutex", "sync/atomic.AddInt32", "(*internal/sync.Mutex).Unlock", "internal/race.ReleaseMerge", "(*internal/sync.Mutex).unlockSlow", "internal/sync.fatal", "internal/sync.runtime_Semrelease"], unfollowed := true, recurses := true, apart := false, narrowed := true }
def LadderClimbsUptoSaid : Prop := ladderClimbsUptoRow.holds Try.pinned (OpenSpec.upto ladderClimbsSpec)

end Rows
end Go.Proofs.Ytkpdkfeklecehaa
