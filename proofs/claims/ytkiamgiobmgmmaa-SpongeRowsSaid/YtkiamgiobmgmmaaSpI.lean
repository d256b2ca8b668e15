/-
  The laws of sums at the ends of words, and of what is handed in.
-/
import Derived.Test.YtkiamgiobmgmmaaSpF
namespace Go.Proofs.Ytkiamgiobmgmmaa.Sp
open Go.RowKit Go.Proofs.Ytkiamgiobmgmmaa.Sx
set_option linter.unusedVariables false

abbrev fEnds : Nat := 7
section
variable (n : Int) (c : UInt8)
def endsI (k : Int) : St := ⟨[(0, .c (.int n)), (1, .c (.u8 c)), (5, .c (.int k))], [], 0, 44⟩
def fillI (k : Int) (a : Int × List SC) : St := ⟨[(0, .c (.int n)), (1, .c (.u8 c)), (5, .c (.int k)), (6, .c (.slc 0 0 1 k.toNat (some k.toNat))), (7, .c (.int a.1))], [(0, some ⟨a.2, tB, false, true⟩)], 1, 44⟩
end
def endsCut : Cut := ⟨[(0, true), (1, true), (5, true)], [], 0⟩
def fillCut (j : Nat) : Cut := ⟨[(0, true), (1, true), (5, true), (6, false), (7, true)], [(j, 0, true)], 1⟩

theorem wrap_id {k : Int} (h : -9223372036854775808 ≤ k) (h' : k ≤ 9223372036854775807) : IntKind.i64.wrap k = k := by
  rw [IntKind.wrap_i64]; omega

theorem rd_own (bs : List UInt8) (t : TypeId) (x y : Bool) : rd 0 bs.length ⟨bs.map SC.u8, t, x, y⟩ = bs.map SC.u8 := by
  unfold rd
  rw [List.drop_zero, Nat.mul_one, List.take_of_length_le (by simp)]
theorem rdB_own (bs : List UInt8) (t : TypeId) (x y : Bool) : rdB 0 bs.length ⟨bs.map SC.u8, t, x, y⟩ = bs := by
  unfold rdB; rw [rd_own, asU8s]

/-- What is asked where both sums of one row are compared. -/
def sumsOk (off n : Nat) (b : Blk) (acc : Bool) : Bool :=
  bnd (bnd acc ((((Nat.ble (off + n * 1) b.cells.length && true) && (rd off n b).all SC.isU8) && true) && Nat.ble ([rdB off n b].flatten).length sumLim)) ((Nat.ble (off + n * 1) b.cells.length && true) && ((rd off n b).all SC.isU8 && Nat.ble n sumLim))

theorem ends_main (n : Int) (c : UInt8) (w : World) (h0 : ¬ n < 0) (h1 : ¬ n > 100) : Sx.Fn Try.prog fEnds (atW w 0) [.c (.int n), .c (.u8 c)] [] 0 fun r _ => r = .c (.bool true) := by
  have hS : sumLim = 1099511627776 := rfl
  have hM : maxLen = 9223372036854775807 := rfl
  have hw0 : IntKind.i64.wrap (n * 8) = n * 8 := wrap_id (by omega) (by omega)
  have hw8 : IntKind.i64.wrap (n * 8 + 8) = n * 8 + 8 := wrap_id (by omega) (by omega)
  refine Sx.Fn.of (nt := 44) (by kernel_rfl) rfl ?_
  refine SWs.step law_lib mixed (fuel := 1000) (n := 4) (told := [false, false]) (un := []) (c := endsCut) (t := endsI n c (IntKind.i64.wrap (n * 8)))
    (ob := bnd (bnd (bnd true (decide (n < 0) == false && true)) (decide (n < 0) == false && true)) (!(bif decide (n < 0) then true else decide (n > 100)))) (obs := []) (by kernel_rfl) (by simp [bnd_true, h0]; omega) trivial ?_
  rw [hw0]
  refine SWs.loop (by kernel_rfl) (endsI n c) (fun k => (n * 8 + 8 - k).toNat) (fun k => n * 8 ≤ k ∧ k ≤ n * 8 + 8) (n * 8) ⟨by omega, by omega⟩ ?_
  rintro k ⟨hk1, hk2⟩
  by_cases hk : k < n * 8 + 8
  · refine SWs.step law_lib mixed (fuel := 1000) (n := 2) (told := [true]) (un := []) (c := endsCut) (t := endsI n c k) (ob := bnd true (decide (k < IntKind.i64.wrap (IntKind.i64.wrap (n * 8) + 8)))) (obs := []) (by kernel_rfl) (by rw [hw0, hw8]; simp [bnd_true, hk]) trivial ?_
    refine SWs.enter (by kernel_rfl) ?_
    have hrep : List.replicate (k.toNat * 1) (SC.u8 0) = (List.replicate k.toNat (0 : UInt8)).map SC.u8 := by simp
    refine SWs.step law_lib mixed (fuel := 1000) (n := 2) (told := []) (un := []) (c := fillCut 4) (t := fillI n c k (0, List.replicate (k.toNat * 1) (SC.u8 0)))
      (ob := bnd (bnd true (decide (0 ≤ k) && (decide (k ≤ k) && (Nat.ble (1 * k.toNat) 281474976710656 && (Nat.ble k.toNat maxLen && true))))) ((List.replicate (k.toNat * 1) (SC.u8 0)).all SC.plain && true)) (obs := []) (by kernel_rfl) ?_ trivial ?_
    · rw [hrep, plainU8]
      simp only [bnd_true, Bool.and_eq_true, Nat.ble_eq, decide_eq_true_eq, and_true, true_and]
      omega
    rw [hrep]
    refine SWs.loop (by kernel_rfl) (fillI n c k) (fun a => (k - a.1).toNat) (fun a => ∃ (bs : List UInt8) (i : Nat), a.1 = i ∧ i ≤ k.toNat ∧ a.2 = bs.map SC.u8 ∧ bs.length = k.toNat) (0, (List.replicate k.toNat (0 : UInt8)).map SC.u8) ⟨_, 0, rfl, by omega, rfl, by simp⟩ ?_
    rintro ⟨i0, cs⟩ ⟨bs, i, hi, hik, hcs, hbl⟩
    simp only at hi hcs
    subst hi hcs
    have hpl := plainU8 bs
    by_cases hlt : (i : Int) < k
    · refine SWs.round law_lib mixed (fuel := 1000) (n := 4) (told := [true]) (un := []) (c := fillCut 0) (t := fillI n c k (IntKind.i64.wrap (i + 1), (bs.map SC.u8).set (0 + i * 1) (.u8 (c + UInt8.ofInt i))))
        (ob := bnd (bnd (bnd (bnd true (decide ((i : Int) < k))) (decide (0 ≤ (i : Int)) && (Nat.blt i k.toNat && true))) (Nat.ble (0 + i * 1 + 1) (bs.map SC.u8).length)) (((bs.map SC.u8).set (0 + i * 1) (.u8 (c + UInt8.ofInt i))).all SC.plain && true)) (obs := []) (by kernel_rfl) (by kernel_rfl) ?_ trivial ?_
      · have : ((bs.map SC.u8).set (0 + i * 1) (.u8 (c + UInt8.ofInt i))).all SC.plain = true := by rw [← List.map_set, plainU8]
        rw [this]
        simp only [bnd_true, Bool.and_eq_true, Nat.ble_eq, Nat.blt_eq, decide_eq_true_eq, and_true, true_and, List.length_map]
        omega
      · have hw : IntKind.i64.wrap ((i : Int) + 1) = ((i + 1 : Nat) : Int) := wrap_succ (by omega)
        refine ⟨_, ⟨bs.set (0 + i * 1) (c + UInt8.ofInt i), i + 1, hw, by omega, by rw [List.map_set], by simpa using hbl⟩, ?_, rfl⟩
        simp only [hw]; omega
    · refine SWs.out law_lib mixed (fuel := 1000) (n := 2) (told := [false]) (un := []) (c := fillCut 0) (t := fillI n c k ((i : Int), bs.map SC.u8)) (ob := bnd (bnd true (!decide ((i : Int) < k))) ((bs.map SC.u8).all SC.plain && true)) (obs := []) (by kernel_rfl) (by simp only [hpl]; simp [bnd_true]; omega) trivial ?_
      have hkl : k.toNat = bs.length := hbl.symm
      have he : eqH (sumS [rdB 0 k.toNat ⟨bs.map SC.u8, tB, false, true⟩].flatten) (sumS (rdB 0 k.toNat ⟨bs.map SC.u8, tB, false, true⟩)) = true := by
        rw [hkl, rdB_own]; simp only [List.flatten_cons, List.flatten_nil, List.append_nil]; exact eqH_self _
      refine SWs.done law_lib mixed (fuel := 1000) (n := 2) (told := [false]) (un := []) (c := endsCut) (t := endsI n c k)
        (ob := bnd (sumsOk 0 k.toNat ⟨bs.map SC.u8, tB, false, true⟩ true) (!(!eqH (sumS [rdB 0 k.toNat ⟨bs.map SC.u8, tB, false, true⟩].flatten) (sumS (rdB 0 k.toNat ⟨bs.map SC.u8, tB, false, true⟩))))) (obs := []) (by kernel_rfl) (by kernel_rfl) ?_ trivial ?_
      · rw [he]
        unfold sumsOk
        rw [hkl, rd_own, rdB_own, isU8s]
        simp only [List.flatten_cons, List.flatten_nil, List.append_nil, bnd_true, Bool.and_eq_true, Nat.ble_eq, and_true, true_and, List.length_map, Bool.not_true, Bool.not_false]
        omega
      refine SWs.round law_lib mixed (fuel := 1000) (n := 1) (told := []) (un := []) (c := endsCut) (t := endsI n c (IntKind.i64.wrap (k + 1))) (ob := true) (obs := []) (by kernel_rfl) (by kernel_rfl) rfl trivial ?_
      have hw : IntKind.i64.wrap (k + 1) = k + 1 := wrap_id (by omega) (by omega)
      rw [hw]
      exact ⟨k + 1, ⟨by omega, by omega⟩, by omega, rfl⟩
  · refine SWs.out law_lib mixed (fuel := 1000) (n := 2) (told := [false]) (un := []) (c := endsCut) (t := endsI n c k) (ob := bnd true (!decide (k < IntKind.i64.wrap (IntKind.i64.wrap (n * 8) + 8)))) (obs := []) (by kernel_rfl) (by rw [hw0, hw8]; simp [bnd_true]; omega) trivial ?_
    exact SWs.finv law_lib mixed (fuel := 1000) (n := 100) (told := []) (ob := true) (obs := []) (v := .c (.bool true)) (by kernel_rfl) rfl trivial rfl

theorem spongeEnds_fn (n : Int) (c : UInt8) (w : World) : Sx.Fn Try.prog fEnds (atW w 0) [.c (.int n), .c (.u8 c)] [] 0 fun r _ => r = .c (.bool true) := by
  by_cases h0 : n < 0
  · exact Fn.xv (fuel := 1000) (told := [true, true]) law_lib mixed (r := .c (.bool true)) (ob := bnd (bnd (bnd true (decide (n < 0) == true && true)) (decide (n < 0) == true && true)) (decide (n < 0))) (obs := []) (by kernel_rfl) (by simp [bnd_true, h0]) trivial rfl
  by_cases h1 : n > 100
  · exact Fn.xv (fuel := 1000) (told := [false, true]) law_lib mixed (r := .c (.bool true)) (ob := bnd (bnd (bnd true (decide (n < 0) == false && true)) (decide (n < 0) == false && true)) (bif decide (n < 0) then true else decide (n > 100))) (obs := []) (by kernel_rfl) (by simp [bnd_true, h0, h1]; try omega) trivial rfl
  exact ends_main n c w h0 h1

end Go.Proofs.Ytkiamgiobmgmmaa.Sp
