/-
  What the sponge's turning computes, as plain functions of words.
-/
import Derived.Test.YtkpdkfeklecehaaSxI
import Derived.Test.YtkpdkfeklecehaaProg
namespace Go.Proofs.Ytkpdkfeklecehaa.Sp
open Go.RowKit Go.Proofs.Ytkpdkfeklecehaa.Sx
set_option linter.unusedVariables false

structure W5 where
  a : UInt64
  b : UInt64
  c : UInt64
  d : UInt64
  e : UInt64

def rotl (x : UInt64) (a : Int) : UInt64 := shlW x (UInt64.ofInt a &&& UInt64.ofNat (Int.toNat 63)).toNat ||| shrW x (UInt64.ofNat (Int.toNat 64) - (UInt64.ofInt a &&& UInt64.ofNat (Int.toNat 63))).toNat
def right (x n : UInt64) : UInt64 := shrW x n.toNat ||| shlW x (UInt64.ofNat (Int.toNat 64) - n).toNat
def turned (x : UInt64) (a b : Int) : UInt64 := x ^^^ rotl x (IntKind.i64.wrap (0 - a)) ^^^ rotl x (IntKind.i64.wrap (0 - b))

abbrev cw (x : W5) : List SC := [.u64 x.a, .u64 x.b, .u64 x.c, .u64 x.d, .u64 x.e]

def rotlC : Con := pureCon fun | [.c (.u64 x), .c (.int a)] => some (.c (.u64 (rotl x a))) | _ => none
def turnedC : Con := pureCon fun | [.c (.u64 x), .c (.int a), .c (.int b)] => some (.c (.u64 (turned x a b))) | _ => none
def rightC : Con := pureCon fun | [.c (.u64 x), .c (.u64 n)] => some (.c (.u64 (right x n))) | _ => none

theorem mixed : Try.prog.follows .mixedOrders = true := by kernel_rfl

theorem rotl_ok : ConOK Try.prog 76 rotlC := by
  refine pureCon_ok (fn := Try.f76) (by kernel_rfl) rfl rfl fun args v h => ?_
  split at h <;> try (cases h; done)
  rename_i x a
  simp only [Option.some.injEq] at h; subst h
  exact ⟨rfl, rfl, fun w => Fn.xv (fuel := 100) (told := []) (LibOK.nil _) mixed (r := .c (.u64 (rotl x a))) (ob := true) (obs := []) (by kernel_rfl) rfl trivial rfl⟩

theorem turned_ok : ConOK Try.prog 67 turnedC := by
  refine pureCon_ok (fn := Try.f67) (by kernel_rfl) rfl rfl fun args v h => ?_
  split at h <;> try (cases h; done)
  rename_i x a b
  simp only [Option.some.injEq] at h; subst h
  exact ⟨rfl, rfl, fun w => Fn.xv (fuel := 100) (told := []) (LibOK.cons rotl_ok (LibOK.nil _)) mixed (r := .c (.u64 (turned x a b))) (ob := true) (obs := []) (by kernel_rfl) rfl trivial rfl⟩

theorem right_ok : ConOK Try.prog 66 rightC := by
  refine pureCon_ok (fn := Try.f66) (by kernel_rfl) rfl rfl fun args v h => ?_
  split at h <;> try (cases h; done)
  rename_i x n
  simp only [Option.some.injEq] at h; subst h
  exact ⟨rfl, rfl, fun w => Fn.xv (fuel := 100) (told := []) (LibOK.nil _) mixed (r := .c (.u64 (right x n))) (ob := true) (obs := []) (by kernel_rfl) rfl trivial rfl⟩

/-- The word of a round. -/
def kw (r : Int) : UInt64 := UInt64.ofInt (IntKind.i64.wrap (240 - IntKind.i64.wrap (15 * r)))
/-- What is mixed in a round, ahead of the turning of each word. -/
def mixed5 (x : W5) (k : UInt64) : W5 :=
  let c1 := x.c ^^^ k
  let a1 := x.a ^^^ x.e
  let e1 := x.e ^^^ x.d
  let c2 := c1 ^^^ x.b
  let t0 := ~~~a1 &&& x.b
  let t1 := ~~~x.b &&& c2
  let t2 := ~~~c2 &&& x.d
  let t3 := ~~~x.d &&& e1
  let t4 := ~~~e1 &&& a1
  let a2 := a1 ^^^ t1
  let b2 := x.b ^^^ t2
  let c3 := c2 ^^^ t3
  let d2 := x.d ^^^ t4
  let e2 := e1 ^^^ t0
  let b3 := b2 ^^^ a2
  let a3 := a2 ^^^ e2
  let d3 := d2 ^^^ c3
  let c4 := ~~~c3
  ⟨a3, b3, c4, d3, e2⟩
def round (x : W5) (r : Int) : W5 :=
  let y := mixed5 x (kw r)
  ⟨turned y.a 19 28, turned y.b 61 39, turned y.c 1 6, turned y.d 10 17, turned y.e 7 41⟩
def roundC : Con := pureCon fun | [.agg [.u64 a, .u64 b, .u64 c, .u64 d, .u64 e], .c (.int r)] => some (.agg (cw (round ⟨a, b, c, d, e⟩ r))) | _ => none

theorem round_ok : ConOK Try.prog 63 roundC := by
  refine pureCon_ok (fn := Try.f63) (by kernel_rfl) rfl rfl fun args v h => ?_
  split at h <;> try (cases h; done)
  rename_i a b c d e r
  simp only [Option.some.injEq] at h; subst h
  exact ⟨rfl, rfl, fun w => Fn.xv (fuel := 1000) (told := []) (LibOK.cons turned_ok (LibOK.nil _)) mixed (r := .agg (cw (round ⟨a, b, c, d, e⟩ r))) (ob := true) (obs := []) (by kernel_rfl) rfl trivial rfl⟩

def turnN : Nat → W5 → W5
  | 0, x => x
  | n + 1, x => round (turnN n x) (n : Int)
def turn (x : W5) : W5 := turnN 12 x
def turnC : Con := pureCon fun | [.agg [.u64 a, .u64 b, .u64 c, .u64 d, .u64 e]] => some (.agg (cw (turn ⟨a, b, c, d, e⟩))) | _ => none

theorem turn_ok : ConOK Try.prog 57 turnC := by
  refine pureCon_ok (fn := Try.f57) (by kernel_rfl) rfl rfl fun args v h => ?_
  split at h <;> try (cases h; done)
  rename_i a b c d e
  simp only [Option.some.injEq] at h; subst h
  exact ⟨rfl, rfl, fun w => Fn.xv (fuel := 1000) (told := []) (LibOK.cons round_ok (LibOK.nil _)) mixed (r := .agg (cw (turn ⟨a, b, c, d, e⟩))) (ob := true) (obs := []) (by kernel_rfl) rfl trivial rfl⟩

/-! The document's turning. -/
def rround (x : W5) (r : Int) : W5 :=
  let y := mixed5 x (kw r)
  ⟨y.a ^^^ right y.a 19 ^^^ right y.a 28, y.b ^^^ right y.b 61 ^^^ right y.b 39, y.c ^^^ right y.c 1 ^^^ right y.c 6, y.d ^^^ right y.d 10 ^^^ right y.d 17, y.e ^^^ right y.e 7 ^^^ right y.e 41⟩
def rturnN : Nat → W5 → W5
  | 0, x => x
  | n + 1, x => rround (rturnN n x) (n : Int)
def rturn (x : W5) : W5 := rturnN 12 x
def rturnC : Con := pureCon fun | [.agg [.u64 a, .u64 b, .u64 c, .u64 d, .u64 e]] => some (.agg (cw (rturn ⟨a, b, c, d, e⟩))) | _ => none

abbrev fRT : Nat := 62
abbrev tW5 : Nat := 97
def rtI (a : W5 × Int) : St := ⟨[(1, .c (.ptr 0 0)), (2, .c (.ptr 1 0)), (3, .c (.int a.2))], [(0, some ⟨cw a.1, tW5, false, true⟩), (1, some ⟨cw ⟨0, 0, 0, 0, 0⟩, tW5, false, true⟩)], 2, 146⟩
def rtCut (k : Nat) : Cut := ⟨[(1, false), (2, false), (3, true)], [(0, 0, true), (k, 1, true)], 2⟩

theorem right_lib : LibOK Try.prog [(66, rightC)] := LibOK.cons right_ok (LibOK.nil _)

theorem rturn_fn (x : W5) (w : World) : Sx.Fn Try.prog fRT (atW w 0) [.agg (cw x)] [] 0 fun v _ => v = .agg (cw (rturn x)) := by
  refine Sx.Fn.of (nt := 146) (by kernel_rfl) rfl ?_
  refine SWs.step right_lib mixed (fuel := 1000) (n := 2) (told := []) (un := []) (c := rtCut 4) (t := rtI (x, 0)) (ob := true) (obs := []) (by kernel_rfl) rfl trivial ?_
  refine SWs.loop (by kernel_rfl) rtI (fun a => (12 - a.2).toNat) (fun a => ∃ n : Nat, a.2 = n ∧ n ≤ 12 ∧ a.1 = rturnN n x) (x, 0) ⟨0, rfl, by omega, rfl⟩ ?_
  rintro ⟨y, r⟩ ⟨n, hn, hle, hy⟩
  simp only at hn hy
  by_cases h : r < 12
  · refine SWs.round right_lib mixed (fuel := 1000) (n := 4) (told := [true]) (un := []) (c := rtCut 1) (t := rtI (rround y r, IntKind.i64.wrap (r + 1))) (ob := bnd true (decide (r < 12))) (obs := []) (by kernel_rfl) (by kernel_rfl) (by simp [bnd_true, h]) trivial ?_
    have hw : IntKind.i64.wrap (r + 1) = r + 1 := by rw [IntKind.wrap_i64]; omega
    refine ⟨_, ⟨n + 1, ?_, by omega, ?_⟩, ?_, rfl⟩
    · simp only [hw]; omega
    · simp only [hy, hn]; rfl
    · simp only [hw]; omega
  · have h12 : n = 12 := by omega
    subst h12
    refine SWs.out right_lib mixed (fuel := 1000) (n := 4) (told := [false]) (un := []) (c := rtCut 1) (t := rtI (y, r)) (ob := bnd true (!decide (r < 12))) (obs := []) (by kernel_rfl) (by simp [bnd_true]; omega) trivial ?_
    refine SWs.fin right_lib mixed (fuel := 1000) (n := 100) (told := []) (ob := true) (obs := []) (v := .agg (cw y)) (T := [(0, some ⟨cw y, tW5, false, true⟩), (1, some ⟨cw y, tW5, false, true⟩)]) (by kernel_rfl) rfl trivial ?_
    rw [hy]; rfl

theorem rturn_ok : ConOK Try.prog fRT rturnC := by
  refine pureCon_ok (fn := Try.f62) (by kernel_rfl) rfl rfl fun args v h => ?_
  split at h <;> try (cases h; done)
  rename_i a b c d e
  simp only [Option.some.injEq] at h; subst h
  exact ⟨rfl, rfl, fun w => rturn_fn ⟨a, b, c, d, e⟩ w⟩

end Go.Proofs.Ytkpdkfeklecehaa.Sp
