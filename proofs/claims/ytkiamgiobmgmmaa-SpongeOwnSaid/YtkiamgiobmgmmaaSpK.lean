/-
  The law of what is handed in.
-/
import Derived.Test.YtkiamgiobmgmmaaSpI
namespace Go.Proofs.Ytkiamgiobmgmmaa.Sp
open Go.RowKit Go.Proofs.Ytkiamgiobmgmmaa.Sx
set_option linter.unusedVariables false

abbrev fOwn : Nat := 8
/-- The block of the copied row. -/
def qb (cs : List SC) : Blk := ⟨cs, tB, true, true⟩
def ownI (m : Int) (off n : Nat) (b : Blk) (l : Nat) (cs : List SC) (h : H4) (i : Int) : St := ⟨[(0, .c (.slc 0 off 1 n none)), (1, .c (.int m)), (5, .c (.slc 1 0 1 l none)), (6, .c (.ptr 2 0)), (7, .c (.int i))], [(0, some b), (1, some (qb cs)), (2, some ⟨hc h, tH, false, true⟩)], 3, 43⟩
def ownCut (j k : Nat) : Cut := ⟨[(0, false), (1, true), (5, false), (6, false), (7, true)], [(0, 0, true), (j, 1, true), (k, 2, true)], 3⟩

theorem own_main {bs : List UInt8} (m : Int) (w : World) {off : Nat} {b : Blk} (h : RowB off b bs) (hA : ¬ (bs.length : Int) > 500) (hB : ¬ m < 1) (hC : ¬ m > 5) : Sx.Fn Try.prog fOwn (atW w 0) [.c (.slc 0 off 1 bs.length none), .c (.int m)] [(0, some b)] 1 fun r _ => r = .c (.bool true) := by
  have hS : sumLim = 1099511627776 := rfl
  have hM : maxLen = 9223372036854775807 := rfl
  have hpl := h.plain
  have hbl := h.len
  refine Sx.Fn.of (nt := 43) (by kernel_rfl) rfl ?_
  refine SWs.step law_lib mixed (fuel := 1000) (n := 6) (told := [false, false, false]) (un := []) (c := ownCut 57 77) (t := ownI m off bs.length b (0 + bs.length) (rd off bs.length b) (sumS [rdB 0 (0 + bs.length) (qb (rd off bs.length b))].flatten) 0)
    (ob := bnd (bnd (bnd (bnd (bnd (bnd (bnd (bnd true (decide ((bs.length : Int) > 500) == false && true)) (decide ((bs.length : Int) > 500) == false && true))
      ((bif decide ((bs.length : Int) > 500) then true else decide (m < 1)) == false && true)) ((bif decide ((bs.length : Int) > 500) then true else decide (m < 1)) == false && true))
      (!(bif (bif decide ((bs.length : Int) > 500) then true else decide (m < 1)) then true else decide (m > 5))))
      ((Nat.ble (off + bs.length * 1) b.cells.length && true) && (Nat.ble (0 + bs.length) maxLen && (Nat.ble ((0 + bs.length) * 1) 140737488355328 && true))))
      ((((Nat.ble (0 + (0 + bs.length) * 1) (rd off bs.length b).length && true) && (rd 0 (0 + bs.length) (qb (rd off bs.length b))).all SC.isU8) && true) && Nat.ble ([rdB 0 (0 + bs.length) (qb (rd off bs.length b))].flatten).length sumLim))
      ((b.cells.all SC.plain) && ((rd off bs.length b).all SC.plain && true))) (obs := []) (by kernel_rfl) ?_ trivial ?_
  all_goals rw [show 0 + bs.length = bs.length by omega, rd_eq h]; unfold qb; rw [rdB_own]; simp only [List.flatten_cons, List.flatten_nil, List.append_nil]
  · rw [rd_own, plainU8, isU8s, hpl]
    simp only [bnd_true, Bool.and_eq_true, Nat.ble_eq, and_true, true_and, List.length_map, hA, hB, hC, decide_false, cond_false, Bool.not_false, beq_self_eq_true]
    omega
  have hflat : [bs, []].flatten = bs := by simp
  have he : eqH (sumS [rdB 0 bs.length (qb (bs.map SC.u8)), []].flatten) (sumS bs) = true := by
    unfold qb; rw [rdB_own, hflat]; exact eqH_self _
  refine SWs.loop (by kernel_rfl) (ownI m off bs.length b bs.length (bs.map SC.u8) (sumS bs)) (fun i => (m - i).toNat) (fun i => 0 ≤ i ∧ i ≤ m) 0 ⟨by omega, by omega⟩ ?_
  rintro i ⟨hi1, hi2⟩
  by_cases hlt : i < m
  · refine SWs.round law_lib mixed (fuel := 1000) (n := 4) (told := [true, false]) (un := []) (c := ownCut 1 2) (t := ownI m off bs.length b bs.length (bs.map SC.u8) (sumS bs) (IntKind.i64.wrap (i + 1)))
      (ob := bnd (bnd (bnd (bnd true (decide (i < m))) ((((Nat.ble (0 + bs.length * 1) (bs.map SC.u8).length && true) && (rd 0 bs.length (qb (bs.map SC.u8))).all SC.isU8) && true) && Nat.ble ([rdB 0 bs.length (qb (bs.map SC.u8)), []].flatten).length sumLim)) (!(!eqH (sumS [rdB 0 bs.length (qb (bs.map SC.u8)), []].flatten) (sumS bs)))) ((b.cells.all SC.plain) && ((bs.map SC.u8).all SC.plain && true))) (obs := []) (by kernel_rfl) (by kernel_rfl) ?_ trivial ?_
    · rw [he, hpl, plainU8]
      unfold qb
      rw [rd_own, rdB_own, hflat, isU8s]
      simp only [bnd_true, Bool.and_eq_true, Nat.ble_eq, and_true, true_and, List.length_map, Bool.not_true, Bool.not_false, decide_eq_true_eq]
      omega
    · have hw : IntKind.i64.wrap (i + 1) = i + 1 := wrap_id (by omega) (by omega)
      rw [hw]
      exact ⟨i + 1, ⟨by omega, by omega⟩, by omega, rfl⟩
  · refine SWs.out law_lib mixed (fuel := 1000) (n := 2) (told := [false]) (un := []) (c := ownCut 1 2) (t := ownI m off bs.length b bs.length (bs.map SC.u8) (sumS bs) i) (ob := bnd (bnd true (!decide (i < m))) ((b.cells.all SC.plain) && ((bs.map SC.u8).all SC.plain && true))) (obs := []) (by kernel_rfl) (by rw [hpl, plainU8]; simp [bnd_true, hlt]; try omega) trivial ?_
    have hs : (rdB 0 bs.length (qb (bs.map SC.u8)) == rdB off bs.length b) = true := by
      unfold qb; rw [rdB_own, rdB_eq h]; simp
    refine SWs.finv law_lib mixed (fuel := 1000) (n := 100) (told := [true]) (v := .c (.bool (bif rdB 0 bs.length (qb (bs.map SC.u8)) == rdB off bs.length b then true else false)))
      (ob := bnd (bnd (bnd true ((Nat.ble (0 + bs.length * 1) (bs.map SC.u8).length && true) && (rd 0 bs.length (qb (bs.map SC.u8))).all SC.isU8)) ((Nat.ble (off + bs.length * 1) b.cells.length && true) && (rd off bs.length b).all SC.isU8)) ((rdB 0 bs.length (qb (bs.map SC.u8)) == rdB off bs.length b) == true && true)) (obs := []) (by kernel_rfl) ?_ trivial (by rw [hs]; rfl)
    rw [hs, rd_eq h]
    unfold qb
    rw [rd_own, isU8s]
    simp only [bnd_true, Bool.and_eq_true, Nat.ble_eq, and_true, true_and, List.length_map, beq_self_eq_true]
    omega

theorem spongeOwn_fn {bs : List UInt8} (m : Int) (w : World) {off : Nat} {b : Blk} (h : RowB off b bs) : Sx.Fn Try.prog fOwn (atW w 0) [.c (.slc 0 off 1 bs.length none), .c (.int m)] [(0, some b)] 1 fun r _ => r = .c (.bool true) := by
  by_cases hA : (bs.length : Int) > 500
  · exact Fn.xv (fuel := 1000) (told := [true]) law_lib mixed (r := .c (.bool true)) (ob := bnd (bnd (bnd true (decide ((bs.length : Int) > 500) == true && true)) (decide ((bs.length : Int) > 500) == true && true)) (decide ((bs.length : Int) > 500))) (obs := []) (by kernel_rfl) (by simp only [bnd_true, hA, decide_true, beq_self_eq_true, Bool.and_self, and_self]) trivial rfl
  by_cases hB : m < 1
  · exact Fn.xv (fuel := 1000) (told := [false, true]) law_lib mixed (r := .c (.bool true)) (ob := bnd (bnd (bnd (bnd (bnd true (decide ((bs.length : Int) > 500) == false && true)) (decide ((bs.length : Int) > 500) == false && true))
      ((bif decide ((bs.length : Int) > 500) then true else decide (m < 1)) == true && true)) ((bif decide ((bs.length : Int) > 500) then true else decide (m < 1)) == true && true)) (bif decide ((bs.length : Int) > 500) then true else decide (m < 1))) (obs := []) (by kernel_rfl) (by simp only [bnd_true, hA, hB, decide_true, decide_false, cond_false, beq_self_eq_true, Bool.and_self, and_self]) trivial rfl
  by_cases hC : m > 5
  · exact Fn.xv (fuel := 1000) (told := [false, false, true]) law_lib mixed (r := .c (.bool true)) (ob := bnd (bnd (bnd (bnd (bnd true (decide ((bs.length : Int) > 500) == false && true)) (decide ((bs.length : Int) > 500) == false && true))
      ((bif decide ((bs.length : Int) > 500) then true else decide (m < 1)) == false && true)) ((bif decide ((bs.length : Int) > 500) then true else decide (m < 1)) == false && true))
      (bif (bif decide ((bs.length : Int) > 500) then true else decide (m < 1)) then true else decide (m > 5))) (obs := []) (by kernel_rfl) (by simp only [bnd_true, hA, hB, hC, decide_true, decide_false, cond_false, beq_self_eq_true, Bool.and_self, and_self]) trivial rfl
  exact own_main m w h hA hB hC

end Go.Proofs.Ytkiamgiobmgmmaa.Sp
