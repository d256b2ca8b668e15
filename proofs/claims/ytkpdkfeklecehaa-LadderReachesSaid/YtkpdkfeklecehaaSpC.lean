/-
  The sponge's sum of rows.
-/
import Derived.Test.YtkpdkfeklecehaaSpB
namespace Go.Proofs.Ytkpdkfeklecehaa.Sp
open Go.RowKit Go.Proofs.Ytkpdkfeklecehaa.Sx
set_option linter.unusedVariables false

/-- A sum: four words. -/
structure H4 where
  p : UInt64
  q : UInt64
  r : UInt64
  s : UInt64
/-- A word's bytes, the highest first. -/
def hb (w : UInt64) : List SC := [.u8 (shrW w 56).toUInt8, .u8 (shrW w 48).toUInt8, .u8 (shrW w 40).toUInt8, .u8 (shrW w 32).toUInt8, .u8 (shrW w 24).toUInt8, .u8 (shrW w 16).toUInt8, .u8 (shrW w 8).toUInt8, .u8 (shrW w 0).toUInt8]
def hc (h : H4) : List SC := hb h.p ++ (hb h.q ++ (hb h.r ++ hb h.s))
def zeroH : List SC := hc ⟨0, 0, 0, 0⟩

/-- What is padded behind so many bytes. -/
def padK (n : Nat) : Nat := 7 - n % 8
def padded (bs : List UInt8) : List UInt8 := bs ++ 0x80 :: List.replicate (padK bs.length) 0
def absorb : Nat → List UInt8 → W5 → W5
  | 0, _, x => x
  | n + 1, bs, x => absorb n (bs.drop 8) (turn ⟨x.a ^^^ wordS (bs.take 8), x.b, x.c, x.d, x.e⟩)
def squeeze (x : W5) : H4 := ⟨x.a, (turn x).a, (turn (turn x)).a, (turn (turn (turn x))).a⟩
def sumS (bs : List UInt8) : H4 := squeeze (absorb ((padded bs).length / 8) (padded bs) (turn ⟨32, 0, 0, 0, 0⟩))

abbrev fSum : Nat := 45
abbrev tB : Nat := 5
abbrev tH : Nat := 44
def sumLim : Nat := 2 ^ 40
def sumC : Con := rowsCon sumLim fun ps rows => match ps with | [] => some (.agg (hc (sumS rows.flatten))) | _ => none

theorem sum_lib : LibOK Try.prog [(57, turnC), (fWord, wordC)] := LibOK.cons turn_ok (LibOK.cons word_ok (LibOK.nil _))

section
variable (off n : Nat) (b : Blk)
def sumI (a : Int × Nat × List SC) : St := ⟨[(2, .c (.ptr 1 0)), (3, .c (.slc 2 0 1 a.2.1 none)), (10, .c (.slc 0 off 1 n none)), (11, .c (.int n)), (12, .c (.int a.1))], [(0, some b), (1, some ⟨zeroH, tH, false, true⟩), (2, some ⟨a.2.2, tB, true, true⟩)], 3, 69⟩
def sumJ (a : Int × Nat × List SC) (x : SC) : St := ⟨[(2, .c (.ptr 1 0)), (3, .c (.slc 2 0 1 a.2.1 none)), (5, .c x), (10, .c (.slc 0 off 1 n none)), (11, .c (.int n)), (12, .c (.int a.1))], [(0, some b), (1, some ⟨zeroH, tH, false, true⟩), (2, some ⟨a.2.2, tB, true, true⟩)], 3, 69⟩
def sumK (a : Int × Nat × List SC) (x : SC) (b5 : Blk) : St := ⟨[(2, .c (.ptr 1 0)), (3, .c (.slc 2 0 1 a.2.1 none)), (5, .c x), (10, .c (.slc 0 off 1 n none)), (11, .c (.int n)), (12, .c (.int a.1))], [(3, some b5), (0, some b), (1, some ⟨zeroH, tH, false, true⟩), (2, some ⟨a.2.2, tB, true, true⟩)], 4, 69⟩
end
def sumCut (k j : Nat) : Cut := ⟨[(2, false), (3, false), (10, false), (11, true), (12, true)], [(0, 0, true), (k, 1, true), (j, 2, true)], 3⟩
def sumCut5 : Cut := ⟨[(2, false), (3, false), (5, true), (10, false), (11, true), (12, true)], [(0, 0, true), (1, 1, true), (2, 2, true)], 3⟩
def padI (a : Nat × List SC) : St := ⟨[(2, .c (.ptr 1 0)), (3, .c (.slc 2 0 1 a.1 none))], [(1, some ⟨zeroH, tH, false, true⟩), (2, some ⟨a.2, tB, true, true⟩)], 3, 69⟩
def padCut (j : Nat) : Cut := ⟨[(2, false), (3, false)], [(1, 1, true), (j, 2, true)], 3⟩
def absI (cs : List SC) (a : Nat × Nat × W5) : St := ⟨[(2, .c (.ptr 1 0)), (3, .c (.slc 2 a.1 1 a.2.1 none)), (6, .c (.ptr 3 0))], [(1, some ⟨zeroH, tH, false, true⟩), (2, some ⟨cs, tB, true, true⟩), (3, some ⟨cw a.2.2, tW5, false, true⟩)], 4, 69⟩
def absCut (m : Nat) : Cut := ⟨[(2, false), (3, false), (6, false)], [(1, 1, true), (2, 2, true), (m, 3, true)], 4⟩

theorem plainU8 (l : List UInt8) : (l.map SC.u8).all SC.plain = true := by
  rw [List.all_eq_true]
  intro y hy
  obtain ⟨_, _, rfl⟩ := List.mem_map.1 hy; rfl
theorem isU8s (l : List UInt8) : (l.map SC.u8).all SC.isU8 = true := by
  rw [List.all_eq_true]
  intro y hy
  obtain ⟨_, _, rfl⟩ := List.mem_map.1 hy; rfl
theorem asU8s (l : List UInt8) : (l.map SC.u8).map SC.asU8 = l := by
  rw [List.map_map]
  exact List.map_id'' (fun _ => rfl) l
theorem row_take {off : Nat} {b : Blk} {bs : List UInt8} (h : RowB off b bs) : (b.cells.drop off).take (bs.length * 1) = bs.map SC.u8 := by
  rw [h.cells, Nat.mul_one, List.take_of_length_le (by simp)]
theorem own_take (l : List UInt8) : (l.map SC.u8).take (l.length * 1) = l.map SC.u8 := by
  rw [Nat.mul_one, List.take_of_length_le (by simp)]

/-- The rows that have been taken in. -/
def gone (rows : List (List UInt8)) (n : Nat) : List UInt8 := (rows.take n).flatten
theorem gone_succ {rows : List (List UInt8)} {n : Nat} (h : n < rows.length) : gone rows (n + 1) = gone rows n ++ rows[n] := by
  unfold gone
  rw [List.take_add_one, List.getElem?_eq_getElem h, Option.toList_some, List.flatten_append]
  simp
theorem gone_le {rows : List (List UInt8)} (n : Nat) : (gone rows n).length ≤ rows.flatten.length := by
  unfold gone
  have : rows.flatten.length = ((rows.take n).flatten ++ (rows.drop n).flatten).length := by rw [← List.flatten_append, List.take_append_drop]
  rw [this, List.length_append]; omega

set_option maxRecDepth 10000 in
theorem sum_rows {rows : List (List UInt8)} (w : World) {off : Nat} {b : Blk} {rs : List (Value × List UInt8)} (hrs : rs.map (·.2) = rows) (h : RowsB w off b rs) (hl : rows.length ≤ sumLim) (hf : rows.flatten.length ≤ sumLim) {Q : Out → St → Prop}
    (hk : SWs Try.prog (atW w 0) ((bodyOf Try.prog fSum).drop 4) (sumI off rows.length b (rows.length, rows.flatten.length, rows.flatten.map SC.u8)) Q) :
    SWs Try.prog (atW w 0) (bodyOf Try.prog fSum) ⟨argTmps [.c (.slc 0 off 1 rows.length none)] 0, [(0, some b)], 1, 69⟩ Q := by
  have hpl := h.plain
  have hrl : rs.length = rows.length := by rw [← hrs, List.length_map]
  refine SWs.step sum_lib mixed (fuel := 1000) (n := 3) (told := []) (un := [(3, 1, tB)]) (c := sumCut 1 21) (t := sumI off rows.length b (0, 0, [])) (ob := bnd true (b.cells.all SC.plain && true)) (obs := []) (by kernel_rfl) (by simp [bnd_true, hpl]) trivial ?_
  refine SWs.loop (by kernel_rfl) (sumI off rows.length b) (fun a => (rows.length - a.1).toNat) (fun a => ∃ n : Nat, a.1 = n ∧ n ≤ rows.length ∧ a.2.1 = (gone rows n).length ∧ a.2.2 = (gone rows n).map SC.u8) (0, 0, []) ⟨0, rfl, by omega, rfl, rfl⟩ ?_
  rintro ⟨i, l, cs⟩ ⟨n, hn, hle, hl1, hcs⟩
  simp only at hn hl1 hcs
  subst hn hl1 hcs
  have hpa := plainU8 (gone rows n)
  by_cases hlt : n < rows.length
  · refine SWs.step sum_lib mixed (fuel := 1000) (n := 2) (told := [true]) (un := []) (c := sumCut 1 2) (t := sumI off rows.length b (n, (gone rows n).length, (gone rows n).map SC.u8))
      (ob := bnd (bnd true (decide ((n : Int) < rows.length))) ((b.cells.all SC.plain) && (((gone rows n).map SC.u8).all SC.plain && true))) (obs := []) (by kernel_rfl) (by simp only [hpl, hpa]; simp [bnd_true]; omega) trivial ?_
    refine SWs.enter (by kernel_rfl) ?_
    have hg : b.cells.getD (off + n) .nilp = .row rows[n] (rs[n]'(by omega)).1 := by
      rw [rows_get h (by omega)]
      congr 1
      subst hrs; simp
    generalize (rs[n]'(by omega)).1 = u at hg
    have hpu : (b.cells.getD (off + n * 1) .nilp).plain = true := by rw [Nat.mul_one, hg]; rfl
    refine SWs.step sum_lib mixed (fuel := 1000) (n := 1) (told := []) (un := []) (c := sumCut5) (t := sumJ off rows.length b (n, (gone rows n).length, (gone rows n).map SC.u8) (b.cells.getD (off + n * 1) .nilp))
      (ob := bnd (bnd (bnd true (decide (0 ≤ (n : Int)) && (Nat.blt n rows.length && true))) (Nat.blt (off + n * 1) b.cells.length && true)) (((b.cells.getD (off + n * 1) .nilp).plain && true) && ((b.cells.all SC.plain) && (((gone rows n).map SC.u8).all SC.plain && true)))) (obs := []) (by kernel_rfl) ?_ trivial ?_
    · have := h.len
      simp only [hpl, hpa, hpu]; simp [bnd_true, Nat.blt_eq]; omega
    rw [Nat.mul_one, hg]
    have hgl := gone_le (rows := rows) (n + 1)
    rw [gone_succ hlt, List.length_append] at hgl
    refine SWs.done sum_lib mixed (fuel := 1000) (n := 1) (told := []) (un := []) (c := sumCut 1 11) (t := sumI off rows.length b (n, (gone rows n).length + rows[n].length, ((gone rows n).map SC.u8).take ((gone rows n).length * 1) ++ rows[n].map SC.u8))
      (ob := bnd (bnd true (Nat.ble ((gone rows n).length + rows[n].length) maxLen && (Nat.ble (((gone rows n).length + rows[n].length) * 1) 140737488355328 && Nat.ble ((gone rows n).length * 1) ((gone rows n).map SC.u8).length)))
        ((b.cells.all SC.plain) && ((((gone rows n).map SC.u8).take ((gone rows n).length * 1) ++ rows[n].map SC.u8).all SC.plain && true))) (obs := []) (by kernel_rfl) (by kernel_rfl) ?_ trivial ?_
    · rw [own_take, ← List.map_append]
      simp only [hpl, plainU8]
      have hS : sumLim = 1099511627776 := rfl
      have hM : maxLen = 9223372036854775807 := rfl
      have hf' : (gone rows n).length + rows[n].length ≤ 1099511627776 := by rw [← hS]; exact Nat.le_trans hgl hf
      simp only [bnd_true, Bool.and_eq_true, Nat.ble_eq, List.length_map, and_true, true_and]
      omega
    rw [own_take, ← List.map_append]
    refine SWs.round sum_lib mixed (fuel := 1000) (n := 1) (told := []) (un := []) (c := sumCut 1 2) (t := sumI off rows.length b (IntKind.i64.wrap (n + 1), (gone rows n).length + rows[n].length, (gone rows n ++ rows[n]).map SC.u8))
      (ob := bnd true ((b.cells.all SC.plain) && (((gone rows n ++ rows[n]).map SC.u8).all SC.plain && true))) (obs := []) (by kernel_rfl) (by kernel_rfl) (by simp only [hpl, plainU8]; simp [bnd_true]) trivial ?_
    have hw : IntKind.i64.wrap ((n : Int) + 1) = ((n + 1 : Nat) : Int) := wrap_succ (by simp [sumLim] at hl; omega)
    refine ⟨_, ⟨n + 1, hw, by omega, ?_, ?_⟩, ?_, rfl⟩
    · rw [gone_succ hlt, List.length_append]
    · rw [gone_succ hlt]
    · simp only [hw]; omega
  · have he : n = rows.length := by omega
    subst he
    have hg : gone rows rows.length = rows.flatten := by simp [gone]
    refine SWs.out sum_lib mixed (fuel := 1000) (n := 2) (told := [false]) (un := []) (c := sumCut 1 2) (t := sumI off rows.length b ((rows.length : Int), (gone rows rows.length).length, (gone rows rows.length).map SC.u8))
      (ob := bnd (bnd true (!decide ((rows.length : Int) < rows.length))) ((b.cells.all SC.plain) && (((gone rows rows.length).map SC.u8).all SC.plain && true))) (obs := []) (by kernel_rfl) (by simp only [hpl, hpa]; simp [bnd_true]) trivial ?_
    rw [hg]
    exact hk

theorem sum_fin {Q : Prop} (cs : List SC) (w : World) (o l : Nat) (x : W5) {Post : SV → Prop} (hP : Post (.agg (hc (squeeze x)))) : SWs Try.prog (atW w 0) ((bodyOf Try.prog fSum).drop 8) (absI cs (o, l, x)) (FinQ Try.prog fSum fun v _ => Post v) :=
  SWs.finv sum_lib mixed (fuel := 1000) (n := 100) (told := []) (ob := true) (obs := []) (v := .agg (hc (squeeze x))) (by kernel_rfl) rfl trivial hP

theorem sum_abs (bs : List UInt8) (w : World) (k0 : Nat) (h8 : bs.length = 8 * k0) (x0 : W5) {Post : SV → Prop} (hP : Post (.agg (hc (squeeze (absorb k0 bs x0))))) : SWs Try.prog (atW w 0) ((bodyOf Try.prog fSum).drop 7) (absI (bs.map SC.u8) (0, bs.length, x0)) (FinQ Try.prog fSum fun v _ => Post v) := by
  refine SWs.loop (by kernel_rfl) (absI (bs.map SC.u8)) (fun a => a.2.1) (fun a => ∃ k, a.2.1 = 8 * k ∧ a.1 + 8 * k = bs.length ∧ absorb k (bs.drop a.1) a.2.2 = absorb k0 bs x0) (0, bs.length, x0) ⟨k0, h8, by omega, by simp⟩ ?_
  rintro ⟨o, l, x⟩ ⟨k, hl, ho, ha⟩
  simp only at hl ho ha
  have hpl := plainU8 bs
  by_cases hk : k = 0
  · subst hk
    refine SWs.out sum_lib mixed (fuel := 1000) (n := 2) (told := [false]) (un := []) (c := absCut 3) (t := absI (bs.map SC.u8) (o, l, x)) (ob := bnd (bnd true (!decide ((l : Int) > 0))) ((bs.map SC.u8).all SC.plain && true)) (obs := []) (by kernel_rfl) (by simp only [hpl]; simp [bnd_true]; omega) trivial ?_
    refine sum_fin (Q := True) _ w o l x ?_
    simp only [absorb] at ha
    rw [ha]; exact hP
  · have hall : ((((bs.map SC.u8).drop (o + 0 * 1)).take ((8 - 0) * 1)).all SC.isU8) = true := by
      rw [← List.map_drop, ← List.map_take]; exact isU8s _
    refine SWs.round sum_lib mixed (fuel := 1000) (n := 4) (told := [true]) (un := []) (c := absCut 3) (t := absI (bs.map SC.u8) (o + 8 * 1, l - 8, turn ⟨x.a ^^^ wordS ((((bs.map SC.u8).drop (o + 0 * 1)).take ((8 - 0) * 1)).map SC.asU8), x.b, x.c, x.d, x.e⟩))
      (ob := bnd (bnd (bnd (bnd (bnd true (decide ((l : Int) > 0))) (Nat.ble 8 l && true)) ((Nat.ble (o + 0 * 1 + (8 - 0) * 1) (bs.map SC.u8).length && true) && ((((bs.map SC.u8).drop (o + 0 * 1)).take ((8 - 0) * 1)).all SC.isU8 && true))) (Nat.ble 8 l && (Nat.ble l l && true))) ((bs.map SC.u8).all SC.plain && true)) (obs := []) (by kernel_rfl) (by kernel_rfl) ?_ trivial ?_
    · simp only [hpl, hall]
      simp only [bnd_true, Bool.and_eq_true, Nat.ble_eq, decide_eq_true_eq, List.length_map, and_true, true_and]
      omega
    · have hw : (((bs.map SC.u8).drop (o + 0 * 1)).take ((8 - 0) * 1)).map SC.asU8 = (bs.drop o).take 8 := by
        rw [← List.map_drop, ← List.map_take, asU8s]; rfl
      rw [hw]
      refine ⟨_, ⟨k - 1, ?_, ?_, ?_⟩, ?_, rfl⟩
      · simp only; omega
      · simp only; omega
      · rw [← ha]
        obtain ⟨j, rfl⟩ : ∃ j, k = j + 1 := ⟨k - 1, by omega⟩
        simp only [absorb, Nat.add_sub_cancel, List.drop_drop, Nat.mul_one]
      · simp only; omega

theorem padded_eq (bs : List UInt8) (j : Nat) : bs ++ 0x80 :: List.replicate j 0 = (bs ++ [0x80]) ++ List.replicate j 0 := by simp

theorem sum_pad (bs : List UInt8) (hlim : bs.length ≤ sumLim) (w : World) {Post : SV → Prop} (hP : Post (.agg (hc (sumS bs)))) : SWs Try.prog (atW w 0) ((bodyOf Try.prog fSum).drop 5) (padI (bs.length + 1, bs.map SC.u8 ++ [.u8 0x80])) (FinQ Try.prog fSum fun v _ => Post v) := by
  have hS : sumLim = 1099511627776 := rfl
  have hM : maxLen = 9223372036854775807 := rfl
  refine SWs.loop (by kernel_rfl) padI (fun a => 1 + bs.length + 8 - a.1) (fun a => ∃ j, j ≤ padK bs.length ∧ a.1 = bs.length + 1 + j ∧ a.2 = (bs ++ 0x80 :: List.replicate j 0).map SC.u8) (bs.length + 1, bs.map SC.u8 ++ [.u8 0x80]) ⟨0, by omega, rfl, by simp⟩ ?_
  rintro ⟨l, cs⟩ ⟨j, hj, hl, hcs⟩
  simp only at hl hcs
  subst hcs
  have hpl := plainU8 (bs ++ 0x80 :: List.replicate j 0)
  have hlen : (bs ++ 0x80 :: List.replicate j 0).length = l := by simp; omega
  by_cases hk : j = padK bs.length
  · refine SWs.out sum_lib mixed (fuel := 1000) (n := 2) (told := [false]) (un := []) (c := padCut 2) (t := padI (l, (bs ++ 0x80 :: List.replicate j 0).map SC.u8)) (ob := bnd (bnd true (!((l : Int).tmod 8 != 0))) (((bs ++ 0x80 :: List.replicate j 0).map SC.u8).all SC.plain && true)) (obs := []) (by kernel_rfl) ?_ trivial ?_
    · have : (l : Int).tmod 8 = 0 := by
        rw [Int.tmod_eq_emod_of_nonneg (by omega)]; simp only [padK] at hk; omega
      simp only [hpl]; simp [bnd_true, this]
    · refine SWs.step sum_lib mixed (fuel := 1000) (n := 1) (told := []) (un := []) (c := absCut 11) (t := absI ((bs ++ 0x80 :: List.replicate j 0).map SC.u8) (0, l, turn ⟨32, 0, 0, 0, 0⟩)) (ob := bnd true (((bs ++ 0x80 :: List.replicate j 0).map SC.u8).all SC.plain && true)) (obs := []) (by kernel_rfl) (by simp only [hpl]; rfl) trivial ?_
      have h8 : (bs ++ 0x80 :: List.replicate j 0).length = 8 * (l / 8) := by rw [hlen]; simp only [padK] at hk; omega
      rw [← hlen]
      refine sum_abs _ w (l / 8) h8 _ ?_
      rw [← hlen]
      subst hk
      exact hP
  · refine SWs.round sum_lib mixed (fuel := 1000) (n := 3) (told := [true]) (un := []) (c := padCut 27) (t := padI (l + 1, ((bs ++ 0x80 :: List.replicate j 0).map SC.u8).take (l * 1) ++ [.u8 0]))
      (ob := bnd (bnd (bnd true ((l : Int).tmod 8 != 0)) (Nat.ble (l + 1) maxLen && (Nat.ble ((l + 1) * 1) 140737488355328 && Nat.ble (l * 1) ((bs ++ 0x80 :: List.replicate j 0).map SC.u8).length))) ((((bs ++ 0x80 :: List.replicate j 0).map SC.u8).take (l * 1) ++ [.u8 0]).all SC.plain && true)) (obs := []) (by kernel_rfl) (by kernel_rfl) ?_ trivial ?_
    · have h0 : ((l : Int).tmod 8 != 0) = true := by
        rw [Int.tmod_eq_emod_of_nonneg (by omega)]
        simp only [padK] at hk hj
        simp; omega
      have hp2 : (((bs ++ 0x80 :: List.replicate j 0).map SC.u8).take (l * 1) ++ [.u8 0]).all SC.plain = true := by
        rw [← List.map_take]; simp only [List.all_append, plainU8]; rfl
      simp only [h0, hp2]
      simp only [bnd_true, Bool.and_eq_true, Nat.ble_eq, List.length_map, and_true, true_and, hlen]
      simp only [padK] at hj
      omega
    · refine ⟨_, ⟨j + 1, by simp only [padK] at hj hk ⊢; omega, by simp only; omega, ?_⟩, ?_, rfl⟩
      · simp only
        have : l * 1 = ((bs ++ 0x80 :: List.replicate j 0).map SC.u8).length := by rw [List.length_map, hlen]; omega
        rw [this, List.take_length]
        simp [List.replicate_succ']
      · simp only; simp only [padK] at hj; omega

theorem sum_fn {rows : List (List UInt8)} (w : World) {off : Nat} {b : Blk} {rs : List (Value × List UInt8)} (hrs : rs.map (·.2) = rows) (h : RowsB w off b rs) (hl : rows.length ≤ sumLim) (hf : rows.flatten.length ≤ sumLim) : Sx.Fn Try.prog fSum (atW w 0) [.c (.slc 0 off 1 rows.length none)] [(0, some b)] 1 fun r _ => r = .agg (hc (sumS rows.flatten)) := by
  have hS : sumLim = 1099511627776 := rfl
  have hM : maxLen = 9223372036854775807 := rfl
  refine Sx.Fn.of (nt := 69) (by kernel_rfl) rfl ?_
  refine sum_rows w hrs h hl hf ?_
  refine SWs.step sum_lib mixed (fuel := 1000) (n := 1) (told := []) (un := []) (c := padCut 11) (t := padI (rows.flatten.length + 1, (rows.flatten.map SC.u8).take (rows.flatten.length * 1) ++ [.u8 0x80]))
    (ob := bnd (bnd true (Nat.ble (rows.flatten.length + 1) maxLen && (Nat.ble ((rows.flatten.length + 1) * 1) 140737488355328 && Nat.ble (rows.flatten.length * 1) (rows.flatten.map SC.u8).length))) (((rows.flatten.map SC.u8).take (rows.flatten.length * 1) ++ [SC.u8 0x80]).all SC.plain && true)) (obs := []) (by kernel_rfl) ?_ trivial ?_
  · rw [own_take]
    simp only [List.all_append, plainU8, bnd_true, Bool.and_eq_true, Nat.ble_eq, List.length_map]
    refine ⟨⟨trivial, by omega, by omega, by omega⟩, ⟨trivial, rfl⟩, trivial⟩
  · rw [own_take]
    exact sum_pad _ hf w rfl

theorem sum_ok : ConOK Try.prog fSum sumC := by
  refine rowsCon_ok (fn := Try.f45) (by kernel_rfl) rfl rfl fun ps rows v h => ?_
  split at h <;> try (cases h; done)
  simp only [Option.some.injEq] at h; subst h
  refine ⟨rfl, fun w off b rs hrs hb h1 h2 => ?_⟩
  have hrl : rs.length = rows.length := by rw [← hrs, List.length_map]
  rw [hrl]
  exact sum_fn w hrs hb h1 h2

end Go.Proofs.Ytkpdkfeklecehaa.Sp
