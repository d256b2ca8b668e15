/-
  What the sponge's turning computes, as plain functions of words. A word of bytes. The sponge's sum of rows.
-/
import Derived.Test.YtabiknpgakhkkaaGreatSxI
import Derived.Test.YtabiknpgakhkkaaGreatProg
import Derived.Test.YtabiknpgakhkkaaGreatSxJ
set_option maxRecDepth 20000
section
namespace Go.Proofs.YtabiknpgakhkkaaGreat.Sp
open Go.RowKit Go.Proofs.YtabiknpgakhkkaaGreat.Sx
set_option linter.unusedVariables false

structure W5 where
  a : UInt64
  b : UInt64
  c : UInt64
  d : UInt64
  e : UInt64

def rotl (x : UInt64) (a : Int) : UInt64 := shlW x (UInt64.ofInt a &&& UInt64.ofNat (Int.toNat 63)).toNat ||| shrW x (UInt64.ofNat (Int.toNat 64) - (UInt64.ofInt a &&& UInt64.ofNat (Int.toNat 63))).toNat
def right (x n : UInt64) : UInt64 := shrW x n.toNat ||| shlW x (UInt64.ofNat (Int.toNat 64) - n).toNat
def turned (x : UInt64) (a b : Int) : UInt64 := x ^^^ rotl x (IntKind.i64.wrap (0 - a)) ^^^ rotl x (IntKind.i64.wrap (0 - b))

abbrev cw (x : W5) : List SC := [.u64 x.a, .u64 x.b, .u64 x.c, .u64 x.d, .u64 x.e]

def rotlC : Con := pureCon fun | [.c (.u64 x), .c (.int a)] => some (.c (.u64 (rotl x a))) | _ => none
def turnedC : Con := pureCon fun | [.c (.u64 x), .c (.int a), .c (.int b)] => some (.c (.u64 (turned x a b))) | _ => none
def rightC : Con := pureCon fun | [.c (.u64 x), .c (.u64 n)] => some (.c (.u64 (right x n))) | _ => none

theorem mixed : Tryz.prog.follows .mixedOrders = true := by kernel_rfl

theorem rotl_ok : ConOK Tryz.prog 122 rotlC := by
  refine pureCon_ok (fn := Tryz.f122) (by kernel_rfl) rfl rfl fun args v h => ?_
  split at h <;> try (cases h; done)
  rename_i x a
  simp only [Option.some.injEq] at h; subst h
  exact ⟨rfl, rfl, fun w => Fn.xv (fuel := 100) (told := []) (LibOK.nil _) mixed (r := .c (.u64 (rotl x a))) (ob := true) (obs := []) (by kernel_rfl) rfl trivial rfl⟩

theorem turned_ok : ConOK Tryz.prog 112 turnedC := by
  refine pureCon_ok (fn := Tryz.f112) (by kernel_rfl) rfl rfl fun args v h => ?_
  split at h <;> try (cases h; done)
  rename_i x a b
  simp only [Option.some.injEq] at h; subst h
  exact ⟨rfl, rfl, fun w => Fn.xv (fuel := 100) (told := []) (LibOK.cons rotl_ok (LibOK.nil _)) mixed (r := .c (.u64 (turned x a b))) (ob := true) (obs := []) (by kernel_rfl) rfl trivial rfl⟩

theorem right_ok : ConOK Tryz.prog 106 rightC := by
  refine pureCon_ok (fn := Tryz.f106) (by kernel_rfl) rfl rfl fun args v h => ?_
  split at h <;> try (cases h; done)
  rename_i x n
  simp only [Option.some.injEq] at h; subst h
  exact ⟨rfl, rfl, fun w => Fn.xv (fuel := 100) (told := []) (LibOK.nil _) mixed (r := .c (.u64 (right x n))) (ob := true) (obs := []) (by kernel_rfl) rfl trivial rfl⟩

/-- The word of a round. -/
def kw (r : Int) : UInt64 := UInt64.ofInt (IntKind.i64.wrap (240 - IntKind.i64.wrap (15 * r)))
/-- What is mixed in a round, ahead of the turning of each word. -/
def mixed5 (x : W5) (k : UInt64) : W5 :=
  let c1 := x.c ^^^ k
  let a1 := x.a ^^^ x.e
  let e1 := x.e ^^^ x.d
  let c2 := c1 ^^^ x.b
  let t0 := ~~~a1 &&& x.b
  let t1 := ~~~x.b &&& c2
  let t2 := ~~~c2 &&& x.d
  let t3 := ~~~x.d &&& e1
  let t4 := ~~~e1 &&& a1
  let a2 := a1 ^^^ t1
  let b2 := x.b ^^^ t2
  let c3 := c2 ^^^ t3
  let d2 := x.d ^^^ t4
  let e2 := e1 ^^^ t0
  let b3 := b2 ^^^ a2
  let a3 := a2 ^^^ e2
  let d3 := d2 ^^^ c3
  let c4 := ~~~c3
  ⟨a3, b3, c4, d3, e2⟩
def round (x : W5) (r : Int) : W5 :=
  let y := mixed5 x (kw r)
  ⟨turned y.a 19 28, turned y.b 61 39, turned y.c 1 6, turned y.d 10 17, turned y.e 7 41⟩
def roundC : Con := pureCon fun | [.agg [.u64 a, .u64 b, .u64 c, .u64 d, .u64 e], .c (.int r)] => some (.agg (cw (round ⟨a, b, c, d, e⟩ r))) | _ => none

theorem round_ok : ConOK Tryz.prog 105 roundC := by
  refine pureCon_ok (fn := Tryz.f105) (by kernel_rfl) rfl rfl fun args v h => ?_
  split at h <;> try (cases h; done)
  rename_i a b c d e r
  simp only [Option.some.injEq] at h; subst h
  exact ⟨rfl, rfl, fun w => Fn.xv (fuel := 1000) (told := []) (LibOK.cons turned_ok (LibOK.nil _)) mixed (r := .agg (cw (round ⟨a, b, c, d, e⟩ r))) (ob := true) (obs := []) (by kernel_rfl) rfl trivial rfl⟩

def turnN : Nat → W5 → W5
  | 0, x => x
  | n + 1, x => round (turnN n x) (n : Int)
def turn (x : W5) : W5 := turnN 12 x
def turnC : Con := pureCon fun | [.agg [.u64 a, .u64 b, .u64 c, .u64 d, .u64 e]] => some (.agg (cw (turn ⟨a, b, c, d, e⟩))) | _ => none

theorem turn_ok : ConOK Tryz.prog 91 turnC := by
  refine pureCon_ok (fn := Tryz.f91) (by kernel_rfl) rfl rfl fun args v h => ?_
  split at h <;> try (cases h; done)
  rename_i a b c d e
  simp only [Option.some.injEq] at h; subst h
  exact ⟨rfl, rfl, fun w => Fn.xv (fuel := 1000) (told := []) (LibOK.cons round_ok (LibOK.nil _)) mixed (r := .agg (cw (turn ⟨a, b, c, d, e⟩))) (ob := true) (obs := []) (by kernel_rfl) rfl trivial rfl⟩

/-! The document's turning. -/
def rround (x : W5) (r : Int) : W5 :=
  let y := mixed5 x (kw r)
  ⟨y.a ^^^ right y.a 19 ^^^ right y.a 28, y.b ^^^ right y.b 61 ^^^ right y.b 39, y.c ^^^ right y.c 1 ^^^ right y.c 6, y.d ^^^ right y.d 10 ^^^ right y.d 17, y.e ^^^ right y.e 7 ^^^ right y.e 41⟩
def rturnN : Nat → W5 → W5
  | 0, x => x
  | n + 1, x => rround (rturnN n x) (n : Int)
def rturn (x : W5) : W5 := rturnN 12 x
def rturnC : Con := pureCon fun | [.agg [.u64 a, .u64 b, .u64 c, .u64 d, .u64 e]] => some (.agg (cw (rturn ⟨a, b, c, d, e⟩))) | _ => none

abbrev fRT : Nat := 93
abbrev tW5 : Nat := 136
def rtI (a : W5 × Int) : St := ⟨[(1, .c (.ptr 0 0)), (2, .c (.ptr 1 0)), (3, .c (.int a.2))], [(0, some ⟨cw a.1, tW5, false, true⟩), (1, some ⟨cw ⟨0, 0, 0, 0, 0⟩, tW5, false, true⟩)], 2, 146⟩
def rtCut (k : Nat) : Cut := ⟨[(1, false), (2, false), (3, true)], [(0, 0, true), (k, 1, true)], 2⟩

theorem right_lib : LibOK Tryz.prog [(106, rightC)] := LibOK.cons right_ok (LibOK.nil _)

theorem rturn_fn (x : W5) (w : World) : Sx.Fn Tryz.prog fRT (atW w 0) [.agg (cw x)] [] 0 fun v _ => v = .agg (cw (rturn x)) := by
  refine Sx.Fn.of (nt := 146) (by kernel_rfl) rfl ?_
  refine SWs.step right_lib mixed (fuel := 1000) (n := 2) (told := []) (un := []) (c := rtCut 4) (t := rtI (x, 0)) (ob := true) (obs := []) (by kernel_rfl) rfl trivial ?_
  refine SWs.loop (by kernel_rfl) rtI (fun a => (12 - a.2).toNat) (fun a => ∃ n : Nat, a.2 = n ∧ n ≤ 12 ∧ a.1 = rturnN n x) (x, 0) ⟨0, rfl, by omega, rfl⟩ ?_
  rintro ⟨y, r⟩ ⟨n, hn, hle, hy⟩
  simp only at hn hy
  by_cases h : r < 12
  · refine SWs.round right_lib mixed (fuel := 1000) (n := 4) (told := [true]) (un := []) (c := rtCut 1) (t := rtI (rround y r, IntKind.i64.wrap (r + 1))) (ob := bnd true (decide (r < 12))) (obs := []) (by kernel_rfl) (by kernel_rfl) (by simp [bnd_true, h]) trivial ?_
    have hw : IntKind.i64.wrap (r + 1) = r + 1 := by rw [IntKind.wrap_i64]; omega
    refine ⟨_, ⟨n + 1, ?_, by omega, ?_⟩, ?_, rfl⟩
    · simp only [hw]; omega
    · simp only [hy, hn]; rfl
    · simp only [hw]; omega
  · have h12 : n = 12 := by omega
    subst h12
    refine SWs.out right_lib mixed (fuel := 1000) (n := 4) (told := [false]) (un := []) (c := rtCut 1) (t := rtI (y, r)) (ob := bnd true (!decide (r < 12))) (obs := []) (by kernel_rfl) (by simp [bnd_true]; omega) trivial ?_
    refine SWs.fin right_lib mixed (fuel := 1000) (n := 100) (told := []) (ob := true) (obs := []) (v := .agg (cw y)) (T := [(0, some ⟨cw y, tW5, false, true⟩), (1, some ⟨cw y, tW5, false, true⟩)]) (by kernel_rfl) rfl trivial ?_
    rw [hy]; rfl

theorem rturn_ok : ConOK Tryz.prog fRT rturnC := by
  refine pureCon_ok (fn := Tryz.f93) (by kernel_rfl) rfl rfl fun args v h => ?_
  split at h <;> try (cases h; done)
  rename_i a b c d e
  simp only [Option.some.injEq] at h; subst h
  exact ⟨rfl, rfl, fun w => rturn_fn ⟨a, b, c, d, e⟩ w⟩

end Go.Proofs.YtabiknpgakhkkaaGreat.Sp
end

section
namespace Go.Proofs.YtabiknpgakhkkaaGreat.Sp
open Go.RowKit Go.Proofs.YtabiknpgakhkkaaGreat.Sx
set_option linter.unusedVariables false

abbrev fWord : Nat := 92
def wordS (bs : List UInt8) : UInt64 := bs.foldl (fun n c => shlW n 8 ||| c.toUInt64) 0
def wordC : Con := bytesCon 1000 fun ps bs => match ps with | [] => some (.c (.u64 (wordS bs))) | _ => none

theorem wrap_succ {n : Nat} (h : n < 2 ^ 62) : IntKind.i64.wrap ((n : Int) + 1) = ((n + 1 : Nat) : Int) := by
  rw [IntKind.wrap_i64]; omega

section
variable (off len : Nat) (b : Blk)
def wordI (a : Int × UInt64) : St := ⟨[(3, .c (.u64 a.2)), (6, .c (.slc 0 off 1 len none)), (7, .c (.int len)), (8, .c (.int a.1))], [(0, some b)], 1, 19⟩
end
def wordCut : Cut := ⟨[(3, true), (6, false), (7, true), (8, true)], [(0, 0, true)], 1⟩

theorem word_fn {bs : List UInt8} (w : World) {off : Nat} {b : Blk} (h : RowB off b bs) (hlen : bs.length < 2 ^ 61) : Sx.Fn Tryz.prog fWord (atW w 0) [.c (.slc 0 off 1 bs.length none)] [(0, some b)] 1 fun r _ => r = .c (.u64 (wordS bs)) := by
  refine Sx.Fn.of (nt := 19) (by kernel_rfl) rfl ?_
  refine SWs.step (LibOK.nil _) mixed (fuel := 1000) (n := 3) (told := []) (un := []) (c := wordCut) (t := wordI off bs.length b (0, 0)) (ob := bnd true (b.cells.all SC.plain && true)) (obs := []) (by kernel_rfl) (by simp [bnd_true, h.plain]) trivial ?_
  refine SWs.loop (by kernel_rfl) (wordI off bs.length b) (fun a => (bs.length - a.1).toNat) (fun a => ∃ n : Nat, a.1 = n ∧ n ≤ bs.length ∧ a.2 = wordS (bs.take n)) (0, 0) ⟨0, rfl, by omega, rfl⟩ ?_
  rintro ⟨i, y⟩ ⟨n, hn, hle, hy⟩
  simp only at hn hy
  subst hn
  by_cases hlt : n < bs.length
  · have hg := row_get h hlt
    refine SWs.round (LibOK.nil _) mixed (fuel := 1000) (n := 5) (told := [true]) (un := []) (c := wordCut) (t := wordI off bs.length b (IntKind.i64.wrap (n + 1), shlW y 8 ||| (b.cells.getD (off + n * 1) .nilp).asU8.toUInt64))
      (ob := bnd (bnd (bnd (bnd true (decide ((n : Int) < bs.length))) (decide (0 ≤ (n : Int)) && (Nat.blt n bs.length && true))) (Nat.blt (off + n * 1) b.cells.length && (b.cells.getD (off + n * 1) .nilp).isU8)) (b.cells.all SC.plain && true)) (obs := []) (by kernel_rfl) (by kernel_rfl) ?_ trivial ?_
    · have := h.len
      simp only [Nat.mul_one, hg, h.plain, SC.isU8]
      simp [bnd_true, Nat.blt_eq]
      omega
    · refine ⟨_, ⟨n + 1, wrap_succ (by omega), by omega, ?_⟩, ?_, rfl⟩
      · simp only [Nat.mul_one, hg, SC.asU8, hy]
        rw [List.take_add_one, List.getElem?_eq_getElem hlt]
        simp only [wordS, Option.toList_some, List.foldl_append, List.foldl_cons, List.foldl_nil, List.getD, List.getElem?_eq_getElem hlt, Option.getD_some]
      · simp only [wrap_succ (show n < 2 ^ 62 by omega)]; omega
  · have he : n = bs.length := by omega
    subst he
    refine SWs.out (LibOK.nil _) mixed (fuel := 1000) (n := 5) (told := [false]) (un := []) (c := wordCut) (t := wordI off bs.length b ((bs.length : Int), y)) (ob := bnd (bnd true (!decide ((bs.length : Int) < bs.length))) (b.cells.all SC.plain && true)) (obs := []) (by kernel_rfl) (by simp [bnd_true, h.plain]) trivial ?_
    refine SWs.fin (LibOK.nil _) mixed (fuel := 1000) (n := 100) (told := []) (ob := true) (obs := []) (v := .c (.u64 y)) (T := [(0, some b)]) (by kernel_rfl) rfl trivial ?_
    rw [hy, List.take_length]

theorem word_ok : ConOK Tryz.prog fWord wordC := by
  refine bytesCon_ok (fn := Tryz.f92) (by kernel_rfl) rfl rfl fun ps bs v h => ?_
  split at h <;> try (cases h; done)
  simp only [Option.some.injEq] at h; subst h
  exact ⟨rfl, fun w off b hb hl => word_fn w hb (by omega)⟩

end Go.Proofs.YtabiknpgakhkkaaGreat.Sp
end

section
namespace Go.Proofs.YtabiknpgakhkkaaGreat.Sp
open Go.RowKit Go.Proofs.YtabiknpgakhkkaaGreat.Sx
set_option linter.unusedVariables false

/-- A sum: four words. -/
structure H4 where
  p : UInt64
  q : UInt64
  r : UInt64
  s : UInt64
/-- A word's bytes, the highest first. -/
def hb (w : UInt64) : List SC := [.u8 (shrW w 56).toUInt8, .u8 (shrW w 48).toUInt8, .u8 (shrW w 40).toUInt8, .u8 (shrW w 32).toUInt8, .u8 (shrW w 24).toUInt8, .u8 (shrW w 16).toUInt8, .u8 (shrW w 8).toUInt8, .u8 (shrW w 0).toUInt8]
def hc (h : H4) : List SC := hb h.p ++ (hb h.q ++ (hb h.r ++ hb h.s))
def zeroH : List SC := hc ⟨0, 0, 0, 0⟩

/-- What is padded behind so many bytes. -/
def padK (n : Nat) : Nat := 7 - n % 8
def padded (bs : List UInt8) : List UInt8 := bs ++ 0x80 :: List.replicate (padK bs.length) 0
def absorb : Nat → List UInt8 → W5 → W5
  | 0, _, x => x
  | n + 1, bs, x => absorb n (bs.drop 8) (turn ⟨x.a ^^^ wordS (bs.take 8), x.b, x.c, x.d, x.e⟩)
def squeeze (x : W5) : H4 := ⟨x.a, (turn x).a, (turn (turn x)).a, (turn (turn (turn x))).a⟩
def sumS (bs : List UInt8) : H4 := squeeze (absorb ((padded bs).length / 8) (padded bs) (turn ⟨32, 0, 0, 0, 0⟩))

abbrev fSum : Nat := 67
abbrev tB : Nat := 5
abbrev tH : Nat := 30
def sumLim : Nat := 2 ^ 40
def sumC : Con := rowsCon sumLim fun ps rows => match ps with | [] => some (.agg (hc (sumS rows.flatten))) | _ => none

theorem sum_lib : LibOK Tryz.prog [(91, turnC), (fWord, wordC)] := LibOK.cons turn_ok (LibOK.cons word_ok (LibOK.nil _))

section
variable (off n : Nat) (b : Blk)
def sumI (a : Int × Nat × List SC) : St := ⟨[(2, .c (.ptr 1 0)), (3, .c (.slc 2 0 1 a.2.1 none)), (10, .c (.slc 0 off 1 n none)), (11, .c (.int n)), (12, .c (.int a.1))], [(0, some b), (1, some ⟨zeroH, tH, false, true⟩), (2, some ⟨a.2.2, tB, true, true⟩)], 3, 69⟩
def sumJ (a : Int × Nat × List SC) (x : SC) : St := ⟨[(2, .c (.ptr 1 0)), (3, .c (.slc 2 0 1 a.2.1 none)), (5, .c x), (10, .c (.slc 0 off 1 n none)), (11, .c (.int n)), (12, .c (.int a.1))], [(0, some b), (1, some ⟨zeroH, tH, false, true⟩), (2, some ⟨a.2.2, tB, true, true⟩)], 3, 69⟩
def sumK (a : Int × Nat × List SC) (x : SC) (b5 : Blk) : St := ⟨[(2, .c (.ptr 1 0)), (3, .c (.slc 2 0 1 a.2.1 none)), (5, .c x), (10, .c (.slc 0 off 1 n none)), (11, .c (.int n)), (12, .c (.int a.1))], [(3, some b5), (0, some b), (1, some ⟨zeroH, tH, false, true⟩), (2, some ⟨a.2.2, tB, true, true⟩)], 4, 69⟩
end
def sumCut (k j : Nat) : Cut := ⟨[(2, false), (3, false), (10, false), (11, true), (12, true)], [(0, 0, true), (k, 1, true), (j, 2, true)], 3⟩
def sumCut5 : Cut := ⟨[(2, false), (3, false), (5, true), (10, false), (11, true), (12, true)], [(0, 0, true), (1, 1, true), (2, 2, true)], 3⟩
def padI (a : Nat × List SC) : St := ⟨[(2, .c (.ptr 1 0)), (3, .c (.slc 2 0 1 a.1 none))], [(1, some ⟨zeroH, tH, false, true⟩), (2, some ⟨a.2, tB, true, true⟩)], 3, 69⟩
def padCut (j : Nat) : Cut := ⟨[(2, false), (3, false)], [(1, 1, true), (j, 2, true)], 3⟩
def absI (cs : List SC) (a : Nat × Nat × W5) : St := ⟨[(2, .c (.ptr 1 0)), (3, .c (.slc 2 a.1 1 a.2.1 none)), (6, .c (.ptr 3 0))], [(1, some ⟨zeroH, tH, false, true⟩), (2, some ⟨cs, tB, true, true⟩), (3, some ⟨cw a.2.2, tW5, false, true⟩)], 4, 69⟩
def absCut (m : Nat) : Cut := ⟨[(2, false), (3, false), (6, false)], [(1, 1, true), (2, 2, true), (m, 3, true)], 4⟩

theorem plainU8 (l : List UInt8) : (l.map SC.u8).all SC.plain = true := by
  rw [List.all_eq_true]
  intro y hy
  obtain ⟨_, _, rfl⟩ := List.mem_map.1 hy; rfl
theorem isU8s (l : List UInt8) : (l.map SC.u8).all SC.isU8 = true := by
  rw [List.all_eq_true]
  intro y hy
  obtain ⟨_, _, rfl⟩ := List.mem_map.1 hy; rfl
theorem asU8s (l : List UInt8) : (l.map SC.u8).map SC.asU8 = l := by
  rw [List.map_map]
  exact List.map_id'' (fun _ => rfl) l
theorem row_take {off : Nat} {b : Blk} {bs : List UInt8} (h : RowB off b bs) : (b.cells.drop off).take (bs.length * 1) = bs.map SC.u8 := by
  rw [h.cells, Nat.mul_one, List.take_of_length_le (by simp)]
theorem own_take (l : List UInt8) : (l.map SC.u8).take (l.length * 1) = l.map SC.u8 := by
  rw [Nat.mul_one, List.take_of_length_le (by simp)]

/-- The rows that have been taken in. -/
def gone (rows : List (List UInt8)) (n : Nat) : List UInt8 := (rows.take n).flatten
theorem gone_succ {rows : List (List UInt8)} {n : Nat} (h : n < rows.length) : gone rows (n + 1) = gone rows n ++ rows[n] := by
  unfold gone
  rw [List.take_add_one, List.getElem?_eq_getElem h, Option.toList_some, List.flatten_append]
  simp
theorem gone_le {rows : List (List UInt8)} (n : Nat) : (gone rows n).length ≤ rows.flatten.length := by
  unfold gone
  have : rows.flatten.length = ((rows.take n).flatten ++ (rows.drop n).flatten).length := by rw [← List.flatten_append, List.take_append_drop]
  rw [this, List.length_append]; omega

set_option maxRecDepth 10000 in
theorem sum_rows {rows : List (List UInt8)} (w : World) {off : Nat} {b : Blk} {rs : List (Value × List UInt8)} (hrs : rs.map (·.2) = rows) (h : RowsB w off b rs) (hl : rows.length ≤ sumLim) (hf : rows.flatten.length ≤ sumLim) {Q : Out → St → Prop}
    (hk : SWs Tryz.prog (atW w 0) ((bodyOf Tryz.prog fSum).drop 4) (sumI off rows.length b (rows.length, rows.flatten.length, rows.flatten.map SC.u8)) Q) :
    SWs Tryz.prog (atW w 0) (bodyOf Tryz.prog fSum) ⟨argTmps [.c (.slc 0 off 1 rows.length none)] 0, [(0, some b)], 1, 69⟩ Q := by
  have hpl := h.plain
  have hrl : rs.length = rows.length := by rw [← hrs, List.length_map]
  refine SWs.step sum_lib mixed (fuel := 1000) (n := 3) (told := []) (un := [(3, 1, tB)]) (c := sumCut 1 21) (t := sumI off rows.length b (0, 0, [])) (ob := bnd true (b.cells.all SC.plain && true)) (obs := []) (by kernel_rfl) (by simp [bnd_true, hpl]) trivial ?_
  refine SWs.loop (by kernel_rfl) (sumI off rows.length b) (fun a => (rows.length - a.1).toNat) (fun a => ∃ n : Nat, a.1 = n ∧ n ≤ rows.length ∧ a.2.1 = (gone rows n).length ∧ a.2.2 = (gone rows n).map SC.u8) (0, 0, []) ⟨0, rfl, by omega, rfl, rfl⟩ ?_
  rintro ⟨i, l, cs⟩ ⟨n, hn, hle, hl1, hcs⟩
  simp only at hn hl1 hcs
  subst hn hl1 hcs
  have hpa := plainU8 (gone rows n)
  by_cases hlt : n < rows.length
  · refine SWs.step sum_lib mixed (fuel := 1000) (n := 2) (told := [true]) (un := []) (c := sumCut 1 2) (t := sumI off rows.length b (n, (gone rows n).length, (gone rows n).map SC.u8))
      (ob := bnd (bnd true (decide ((n : Int) < rows.length))) ((b.cells.all SC.plain) && (((gone rows n).map SC.u8).all SC.plain && true))) (obs := []) (by kernel_rfl) (by simp only [hpl, hpa]; simp [bnd_true]; omega) trivial ?_
    refine SWs.enter (by kernel_rfl) ?_
    have hg : b.cells.getD (off + n) .nilp = .row rows[n] (rs[n]'(by omega)).1 := by
      rw [rows_get h (by omega)]
      congr 1
      subst hrs; simp
    generalize (rs[n]'(by omega)).1 = u at hg
    have hpu : (b.cells.getD (off + n * 1) .nilp).plain = true := by rw [Nat.mul_one, hg]; rfl
    refine SWs.step sum_lib mixed (fuel := 1000) (n := 1) (told := []) (un := []) (c := sumCut5) (t := sumJ off rows.length b (n, (gone rows n).length, (gone rows n).map SC.u8) (b.cells.getD (off + n * 1) .nilp))
      (ob := bnd (bnd (bnd true (decide (0 ≤ (n : Int)) && (Nat.blt n rows.length && true))) (Nat.blt (off + n * 1) b.cells.length && true)) (((b.cells.getD (off + n * 1) .nilp).plain && true) && ((b.cells.all SC.plain) && (((gone rows n).map SC.u8).all SC.plain && true)))) (obs := []) (by kernel_rfl) ?_ trivial ?_
    · have := h.len
      simp only [hpl, hpa, hpu]; simp [bnd_true, Nat.blt_eq]; omega
    rw [Nat.mul_one, hg]
    have hgl := gone_le (rows := rows) (n + 1)
    rw [gone_succ hlt, List.length_append] at hgl
    refine SWs.done sum_lib mixed (fuel := 1000) (n := 1) (told := []) (un := []) (c := sumCut 1 11) (t := sumI off rows.length b (n, (gone rows n).length + rows[n].length, ((gone rows n).map SC.u8).take ((gone rows n).length * 1) ++ rows[n].map SC.u8))
      (ob := bnd (bnd true (Nat.ble ((gone rows n).length + rows[n].length) maxLen && (Nat.ble (((gone rows n).length + rows[n].length) * 1) 140737488355328 && Nat.ble ((gone rows n).length * 1) ((gone rows n).map SC.u8).length)))
        ((b.cells.all SC.plain) && ((((gone rows n).map SC.u8).take ((gone rows n).length * 1) ++ rows[n].map SC.u8).all SC.plain && true))) (obs := []) (by kernel_rfl) (by kernel_rfl) ?_ trivial ?_
    · rw [own_take, ← List.map_append]
      simp only [hpl, plainU8]
      have hS : sumLim = 1099511627776 := rfl
      have hM : maxLen = 9223372036854775807 := rfl
      have hf' : (gone rows n).length + rows[n].length ≤ 1099511627776 := by rw [← hS]; exact Nat.le_trans hgl hf
      simp only [bnd_true, Bool.and_eq_true, Nat.ble_eq, List.length_map, and_true, true_and]
      omega
    rw [own_take, ← List.map_append]
    refine SWs.round sum_lib mixed (fuel := 1000) (n := 1) (told := []) (un := []) (c := sumCut 1 2) (t := sumI off rows.length b (IntKind.i64.wrap (n + 1), (gone rows n).length + rows[n].length, (gone rows n ++ rows[n]).map SC.u8))
      (ob := bnd true ((b.cells.all SC.plain) && (((gone rows n ++ rows[n]).map SC.u8).all SC.plain && true))) (obs := []) (by kernel_rfl) (by kernel_rfl) (by simp only [hpl, plainU8]; simp [bnd_true]) trivial ?_
    have hw : IntKind.i64.wrap ((n : Int) + 1) = ((n + 1 : Nat) : Int) := wrap_succ (by simp [sumLim] at hl; omega)
    refine ⟨_, ⟨n + 1, hw, by omega, ?_, ?_⟩, ?_, rfl⟩
    · rw [gone_succ hlt, List.length_append]
    · rw [gone_succ hlt]
    · simp only [hw]; omega
  · have he : n = rows.length := by omega
    subst he
    have hg : gone rows rows.length = rows.flatten := by simp [gone]
    refine SWs.out sum_lib mixed (fuel := 1000) (n := 2) (told := [false]) (un := []) (c := sumCut 1 2) (t := sumI off rows.length b ((rows.length : Int), (gone rows rows.length).length, (gone rows rows.length).map SC.u8))
      (ob := bnd (bnd true (!decide ((rows.length : Int) < rows.length))) ((b.cells.all SC.plain) && (((gone rows rows.length).map SC.u8).all SC.plain && true))) (obs := []) (by kernel_rfl) (by simp only [hpl, hpa]; simp [bnd_true]) trivial ?_
    rw [hg]
    exact hk

theorem sum_fin {Q : Prop} (cs : List SC) (w : World) (o l : Nat) (x : W5) {Post : SV → Prop} (hP : Post (.agg (hc (squeeze x)))) : SWs Tryz.prog (atW w 0) ((bodyOf Tryz.prog fSum).drop 8) (absI cs (o, l, x)) (FinQ Tryz.prog fSum fun v _ => Post v) :=
  SWs.finv sum_lib mixed (fuel := 1000) (n := 100) (told := []) (ob := true) (obs := []) (v := .agg (hc (squeeze x))) (by kernel_rfl) rfl trivial hP

theorem sum_abs (bs : List UInt8) (w : World) (k0 : Nat) (h8 : bs.length = 8 * k0) (x0 : W5) {Post : SV → Prop} (hP : Post (.agg (hc (squeeze (absorb k0 bs x0))))) : SWs Tryz.prog (atW w 0) ((bodyOf Tryz.prog fSum).drop 7) (absI (bs.map SC.u8) (0, bs.length, x0)) (FinQ Tryz.prog fSum fun v _ => Post v) := by
  refine SWs.loop (by kernel_rfl) (absI (bs.map SC.u8)) (fun a => a.2.1) (fun a => ∃ k, a.2.1 = 8 * k ∧ a.1 + 8 * k = bs.length ∧ absorb k (bs.drop a.1) a.2.2 = absorb k0 bs x0) (0, bs.length, x0) ⟨k0, h8, by omega, by simp⟩ ?_
  rintro ⟨o, l, x⟩ ⟨k, hl, ho, ha⟩
  simp only at hl ho ha
  have hpl := plainU8 bs
  by_cases hk : k = 0
  · subst hk
    refine SWs.out sum_lib mixed (fuel := 1000) (n := 2) (told := [false]) (un := []) (c := absCut 3) (t := absI (bs.map SC.u8) (o, l, x)) (ob := bnd (bnd true (!decide ((l : Int) > 0))) ((bs.map SC.u8).all SC.plain && true)) (obs := []) (by kernel_rfl) (by simp only [hpl]; simp [bnd_true]; omega) trivial ?_
    refine sum_fin (Q := True) _ w o l x ?_
    simp only [absorb] at ha
    rw [ha]; exact hP
  · have hall : ((((bs.map SC.u8).drop (o + 0 * 1)).take ((8 - 0) * 1)).all SC.isU8) = true := by
      rw [← List.map_drop, ← List.map_take]; exact isU8s _
    refine SWs.round sum_lib mixed (fuel := 1000) (n := 4) (told := [true]) (un := []) (c := absCut 3) (t := absI (bs.map SC.u8) (o + 8 * 1, l - 8, turn ⟨x.a ^^^ wordS ((((bs.map SC.u8).drop (o + 0 * 1)).take ((8 - 0) * 1)).map SC.asU8), x.b, x.c, x.d, x.e⟩))
      (ob := bnd (bnd (bnd (bnd (bnd true (decide ((l : Int) > 0))) (Nat.ble 8 l && true)) ((Nat.ble (o + 0 * 1 + (8 - 0) * 1) (bs.map SC.u8).length && true) && ((((bs.map SC.u8).drop (o + 0 * 1)).take ((8 - 0) * 1)).all SC.isU8 && true))) (Nat.ble 8 l && (Nat.ble l l && true))) ((bs.map SC.u8).all SC.plain && true)) (obs := []) (by kernel_rfl) (by kernel_rfl) ?_ trivial ?_
    · simp only [hpl, hall]
      simp only [bnd_true, Bool.and_eq_true, Nat.ble_eq, decide_eq_true_eq, List.length_map, and_true, true_and]
      omega
    · have hw : (((bs.map SC.u8).drop (o + 0 * 1)).take ((8 - 0) * 1)).map SC.asU8 = (bs.drop o).take 8 := by
        rw [← List.map_drop, ← List.map_take, asU8s]; rfl
      rw [hw]
      refine ⟨_, ⟨k - 1, ?_, ?_, ?_⟩, ?_, rfl⟩
      · simp only; omega
      · simp only; omega
      · rw [← ha]
        obtain ⟨j, rfl⟩ : ∃ j, k = j + 1 := ⟨k - 1, by omega⟩
        simp only [absorb, Nat.add_sub_cancel, List.drop_drop, Nat.mul_one]
      · simp only; omega

theorem padded_eq (bs : List UInt8) (j : Nat) : bs ++ 0x80 :: List.replicate j 0 = (bs ++ [0x80]) ++ List.replicate j 0 := by simp

theorem sum_pad (bs : List UInt8) (hlim : bs.length ≤ sumLim) (w : World) {Post : SV → Prop} (hP : Post (.agg (hc (sumS bs)))) : SWs Tryz.prog (atW w 0) ((bodyOf Tryz.prog fSum).drop 5) (padI (bs.length + 1, bs.map SC.u8 ++ [.u8 0x80])) (FinQ Tryz.prog fSum fun v _ => Post v) := by
  have hS : sumLim = 1099511627776 := rfl
  have hM : maxLen = 9223372036854775807 := rfl
  refine SWs.loop (by kernel_rfl) padI (fun a => 1 + bs.length + 8 - a.1) (fun a => ∃ j, j ≤ padK bs.length ∧ a.1 = bs.length + 1 + j ∧ a.2 = (bs ++ 0x80 :: List.replicate j 0).map SC.u8) (bs.length + 1, bs.map SC.u8 ++ [.u8 0x80]) ⟨0, by omega, rfl, by simp⟩ ?_
  rintro ⟨l, cs⟩ ⟨j, hj, hl, hcs⟩
  simp only at hl hcs
  subst hcs
  have hpl := plainU8 (bs ++ 0x80 :: List.replicate j 0)
  have hlen : (bs ++ 0x80 :: List.replicate j 0).length = l := by simp; omega
  by_cases hk : j = padK bs.length
  · refine SWs.out sum_lib mixed (fuel := 1000) (n := 2) (told := [false]) (un := []) (c := padCut 2) (t := padI (l, (bs ++ 0x80 :: List.replicate j 0).map SC.u8)) (ob := bnd (bnd true (!((l : Int).tmod 8 != 0))) (((bs ++ 0x80 :: List.replicate j 0).map SC.u8).all SC.plain && true)) (obs := []) (by kernel_rfl) ?_ trivial ?_
    · have : (l : Int).tmod 8 = 0 := by
        rw [Int.tmod_eq_emod_of_nonneg (by omega)]; simp only [padK] at hk; omega
      simp only [hpl]; simp [bnd_true, this]
    · refine SWs.step sum_lib mixed (fuel := 1000) (n := 1) (told := []) (un := []) (c := absCut 11) (t := absI ((bs ++ 0x80 :: List.replicate j 0).map SC.u8) (0, l, turn ⟨32, 0, 0, 0, 0⟩)) (ob := bnd true (((bs ++ 0x80 :: List.replicate j 0).map SC.u8).all SC.plain && true)) (obs := []) (by kernel_rfl) (by simp only [hpl]; rfl) trivial ?_
      have h8 : (bs ++ 0x80 :: List.replicate j 0).length = 8 * (l / 8) := by rw [hlen]; simp only [padK] at hk; omega
      rw [← hlen]
      refine sum_abs _ w (l / 8) h8 _ ?_
      rw [← hlen]
      subst hk
      exact hP
  · refine SWs.round sum_lib mixed (fuel := 1000) (n := 3) (told := [true]) (un := []) (c := padCut 27) (t := padI (l + 1, ((bs ++ 0x80 :: List.replicate j 0).map SC.u8).take (l * 1) ++ [.u8 0]))
      (ob := bnd (bnd (bnd true ((l : Int).tmod 8 != 0)) (Nat.ble (l + 1) maxLen && (Nat.ble ((l + 1) * 1) 140737488355328 && Nat.ble (l * 1) ((bs ++ 0x80 :: List.replicate j 0).map SC.u8).length))) ((((bs ++ 0x80 :: List.replicate j 0).map SC.u8).take (l * 1) ++ [.u8 0]).all SC.plain && true)) (obs := []) (by kernel_rfl) (by kernel_rfl) ?_ trivial ?_
    · have h0 : ((l : Int).tmod 8 != 0) = true := by
        rw [Int.tmod_eq_emod_of_nonneg (by omega)]
        simp only [padK] at hk hj
        simp; omega
      have hp2 : (((bs ++ 0x80 :: List.replicate j 0).map SC.u8).take (l * 1) ++ [.u8 0]).all SC.plain = true := by
        rw [← List.map_take]; simp only [List.all_append, plainU8]; rfl
      simp only [h0, hp2]
      simp only [bnd_true, Bool.and_eq_true, Nat.ble_eq, List.length_map, and_true, true_and, hlen]
      simp only [padK] at hj
      omega
    · refine ⟨_, ⟨j + 1, by simp only [padK] at hj hk ⊢; omega, by simp only; omega, ?_⟩, ?_, rfl⟩
      · simp only
        have : l * 1 = ((bs ++ 0x80 :: List.replicate j 0).map SC.u8).length := by rw [List.length_map, hlen]; omega
        rw [this, List.take_length]
        simp [List.replicate_succ']
      · simp only; simp only [padK] at hj; omega

theorem sum_fn {rows : List (List UInt8)} (w : World) {off : Nat} {b : Blk} {rs : List (Value × List UInt8)} (hrs : rs.map (·.2) = rows) (h : RowsB w off b rs) (hl : rows.length ≤ sumLim) (hf : rows.flatten.length ≤ sumLim) : Sx.Fn Tryz.prog fSum (atW w 0) [.c (.slc 0 off 1 rows.length none)] [(0, some b)] 1 fun r _ => r = .agg (hc (sumS rows.flatten)) := by
  have hS : sumLim = 1099511627776 := rfl
  have hM : maxLen = 9223372036854775807 := rfl
  refine Sx.Fn.of (nt := 69) (by kernel_rfl) rfl ?_
  refine sum_rows w hrs h hl hf ?_
  refine SWs.step sum_lib mixed (fuel := 1000) (n := 1) (told := []) (un := []) (c := padCut 11) (t := padI (rows.flatten.length + 1, (rows.flatten.map SC.u8).take (rows.flatten.length * 1) ++ [.u8 0x80]))
    (ob := bnd (bnd true (Nat.ble (rows.flatten.length + 1) maxLen && (Nat.ble ((rows.flatten.length + 1) * 1) 140737488355328 && Nat.ble (rows.flatten.length * 1) (rows.flatten.map SC.u8).length))) (((rows.flatten.map SC.u8).take (rows.flatten.length * 1) ++ [SC.u8 0x80]).all SC.plain && true)) (obs := []) (by kernel_rfl) ?_ trivial ?_
  · rw [own_take]
    simp only [List.all_append, plainU8, bnd_true, Bool.and_eq_true, Nat.ble_eq, List.length_map]
    refine ⟨⟨trivial, by omega, by omega, by omega⟩, ⟨trivial, rfl⟩, trivial⟩
  · rw [own_take]
    exact sum_pad _ hf w rfl

theorem sum_ok : ConOK Tryz.prog fSum sumC := by
  refine rowsCon_ok (fn := Tryz.f67) (by kernel_rfl) rfl rfl fun ps rows v h => ?_
  split at h <;> try (cases h; done)
  simp only [Option.some.injEq] at h; subst h
  refine ⟨rfl, fun w off b rs hrs hb h1 h2 => ?_⟩
  have hrl : rs.length = rows.length := by rw [← hrs, List.length_map]
  rw [hrl]
  exact sum_fn w hrs hb h1 h2

end Go.Proofs.YtabiknpgakhkkaaGreat.Sp
end

