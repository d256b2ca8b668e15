/-
  The document's Join.
-/
import Derived.Test.YtdjimjjemiaokaaSpR
import Derived.Test.YtdjimjjemiaokaaSxK
namespace Go.Proofs.Ytdjimjjemiaokaa.Sp
open Go.RowKit Go.Proofs.Ytdjimjjemiaokaa.Sx
set_option linter.unusedVariables false

abbrev fJoin : Nat := 29
/-! Rows, one behind the other. -/
section
variable (off n : Nat) (b : Blk)
def joinI (a : Int × Nat × List SC) : St := ⟨[(0, .c (.slc 0 off 1 n none)), (3, .c (.slc 1 0 1 a.2.1 none)), (4, .c (.int a.1))], [(0, some b), (1, some ⟨a.2.2, tB, true, true⟩)], 2, 18⟩
def joinT (cs : List SC) : Tab := [(0, some b), (1, some ⟨cs, tB, true, true⟩)]
def joinE (i : Int) : SV := .c (b.cells.getD (off + i.toNat * 1) .nilp)
end
def joinCut (j : Nat) : Cut := ⟨[(0, false), (3, false), (4, true)], [(0, 0, true), (j, 1, true)], 2⟩

theorem join_fn {rows : List (List UInt8)} (w : World) {off : Nat} {b : Blk} {rs : List (Value × List UInt8)} (hrs : rs.map (·.2) = rows) (h : RowsB w off b rs) (hl : rows.length ≤ sumLim) (hf : rows.flatten.length ≤ sumLim) :
    Sx.Fn Try.prog fJoin (atW w 0) [.c (.slc 0 off 1 rows.length none)] [(0, some b)] 1 fun r T => ∃ k, r = .c (.slc k 0 1 rows.flatten.length none) ∧ T.blk k = some ⟨rows.flatten.map SC.u8, tB, true, true⟩ := by
  have hS : sumLim = 1099511627776 := rfl
  have hM : maxLen = 9223372036854775807 := rfl
  have hpl := h.plain
  have hrl : rs.length = rows.length := by rw [← hrs, List.length_map]
  refine Sx.Fn.of (nt := 18) (by kernel_rfl) rfl ?_
  refine SWs.step (LibOK.nil _) mixed (fuel := 1000) (n := 3) (told := []) (un := [(3, 1, tB)]) (c := joinCut 13) (t := joinI off rows.length b (0, 0, [])) (ob := bnd true (b.cells.all SC.plain && true)) (obs := []) (by kernel_rfl) (by simp [bnd_true, hpl]) trivial ?_
  refine SWs.loop (by kernel_rfl) (joinI off rows.length b) (fun a => (rows.length - a.1).toNat) (fun a => ∃ n : Nat, a.1 = n ∧ n ≤ rows.length ∧ a.2.1 = (gone rows n).length ∧ a.2.2 = (gone rows n).map SC.u8) (0, 0, []) ⟨0, rfl, by omega, rfl, rfl⟩ ?_
  rintro ⟨i, l, cs⟩ ⟨n, hn, hle, hl1, hcs⟩
  simp only at hn hl1 hcs
  subst hn hl1 hcs
  have hpa := plainU8 (gone rows n)
  by_cases hlt : n < rows.length
  · have hg : joinE off b n = .c (.row rows[n] (rs[n]'(by omega)).1) := by
      unfold joinE
      rw [Int.toNat_natCast, Nat.mul_one, rows_get h (by omega)]
      congr 2
      subst hrs; simp
    generalize (rs[n]'(by omega)).1 = u at hg
    have hgl := gone_le (rows := rows) (n + 1)
    rw [gone_succ hlt, List.length_append] at hgl
    have hbl := h.len
    refine SWs.round (LibOK.nil _) mixed (fuel := 1000) (n := 4) (told := [true]) (un := []) (c := joinCut 38) (t := joinI off rows.length b (IntKind.i64.wrap (n + 1), (gone rows n).length + srcN (joinE off b n), ((gone rows n).map SC.u8).take ((gone rows n).length * 1) ++ srcC (joinT b ((gone rows n).map SC.u8)) (joinE off b n)))
      (ob := bnd (bnd (bnd (bnd (bnd true (decide ((n : Int) < rows.length))) (decide (0 ≤ (n : Int)) && (Nat.blt (n : Int).toNat rows.length && true))) (Nat.blt (off + (n : Int).toNat * 1) b.cells.length && true))
        (srcOk (joinT b ((gone rows n).map SC.u8)) 1 (joinE off b n) && (Nat.ble ((gone rows n).length + srcN (joinE off b n)) maxLen && (Nat.ble (((gone rows n).length + srcN (joinE off b n)) * 1) 140737488355328 && Nat.ble ((gone rows n).length * 1) ((gone rows n).map SC.u8).length))))
        ((b.cells.all SC.plain) && ((((gone rows n).map SC.u8).take ((gone rows n).length * 1) ++ srcC (joinT b ((gone rows n).map SC.u8)) (joinE off b n)).all SC.plain && true))) (obs := []) (by kernel_rfl) (by kernel_rfl) ?_ trivial ?_
    · rw [hg]
      simp only [srcN, srcC, srcOk]
      rw [own_take, ← List.map_append, plainU8, hpl]
      simp only [bnd_true, Bool.and_eq_true, Nat.ble_eq, Nat.blt_eq, decide_eq_true_eq, List.length_map, and_true, true_and, Nat.beq_refl, Int.toNat_natCast]
      omega
    · rw [hg]
      simp only [srcN, srcC]
      rw [own_take, ← List.map_append]
      have hw : IntKind.i64.wrap ((n : Int) + 1) = ((n + 1 : Nat) : Int) := wrap_succ (by omega)
      refine ⟨_, ⟨n + 1, hw, by omega, ?_, ?_⟩, ?_, rfl⟩
      · rw [gone_succ hlt, List.length_append]
      · rw [gone_succ hlt]
      · simp only [hw]; omega
  · have he : n = rows.length := by omega
    subst he
    have hg : gone rows rows.length = rows.flatten := by simp [gone]
    refine SWs.out (LibOK.nil _) mixed (fuel := 1000) (n := 2) (told := [false]) (un := []) (c := joinCut 1) (t := joinI off rows.length b ((rows.length : Int), (gone rows rows.length).length, (gone rows rows.length).map SC.u8))
      (ob := bnd (bnd true (!decide ((rows.length : Int) < rows.length))) ((b.cells.all SC.plain) && (((gone rows rows.length).map SC.u8).all SC.plain && true))) (obs := []) (by kernel_rfl) (by simp only [hpl, hpa]; simp [bnd_true]) trivial ?_
    rw [hg]
    exact SWs.fin (LibOK.nil _) mixed (fuel := 1000) (n := 100) (told := []) (ob := true) (obs := []) (v := .c (.slc 1 0 1 rows.flatten.length none)) (T := joinT b (rows.flatten.map SC.u8)) (by kernel_rfl) rfl trivial ⟨1, rfl, rfl⟩

def joinC : Con := rowsNew 1073741824 tB (fun _ => true) fun ps rows => match ps with | [] => some rows.flatten | _ => none
theorem join_ok : ConOK Try.prog fJoin joinC := by
  refine rowsNew_ok (fn := Try.f29) (by kernel_rfl) rfl rfl fun ps rows bs _ h => ?_
  split at h <;> try (cases h; done)
  simp only [Option.some.injEq] at h; subst h
  intro w off b rs hrs hb h1 h2
  have hS : sumLim = 1099511627776 := rfl
  have hrl : rs.length = rows.length := by rw [← hrs, List.length_map]
  rw [hrl]
  exact join_fn w hrs hb (by omega) (by omega)


end Go.Proofs.Ytdjimjjemiaokaa.Sp
