/-
  A word of bytes.
-/
import Derived.Test.YtkpdkfeklecehaaSpA
import Derived.Test.YtkpdkfeklecehaaSxJ
namespace Go.Proofs.Ytkpdkfeklecehaa.Sp
open Go.RowKit Go.Proofs.Ytkpdkfeklecehaa.Sx
set_option linter.unusedVariables false

abbrev fWord : Nat := 58
def wordS (bs : List UInt8) : UInt64 := bs.foldl (fun n c => shlW n 8 ||| c.toUInt64) 0
def wordC : Con := bytesCon 1000 fun ps bs => match ps with | [] => some (.c (.u64 (wordS bs))) | _ => none

theorem wrap_succ {n : Nat} (h : n < 2 ^ 62) : IntKind.i64.wrap ((n : Int) + 1) = ((n + 1 : Nat) : Int) := by
  rw [IntKind.wrap_i64]; omega

section
variable (off len : Nat) (b : Blk)
def wordI (a : Int × UInt64) : St := ⟨[(3, .c (.u64 a.2)), (6, .c (.slc 0 off 1 len none)), (7, .c (.int len)), (8, .c (.int a.1))], [(0, some b)], 1, 19⟩
end
def wordCut : Cut := ⟨[(3, true), (6, false), (7, true), (8, true)], [(0, 0, true)], 1⟩

theorem word_fn {bs : List UInt8} (w : World) {off : Nat} {b : Blk} (h : RowB off b bs) (hlen : bs.length < 2 ^ 61) : Sx.Fn Try.prog fWord (atW w 0) [.c (.slc 0 off 1 bs.length none)] [(0, some b)] 1 fun r _ => r = .c (.u64 (wordS bs)) := by
  refine Sx.Fn.of (nt := 19) (by kernel_rfl) rfl ?_
  refine SWs.step (LibOK.nil _) mixed (fuel := 1000) (n := 3) (told := []) (un := []) (c := wordCut) (t := wordI off bs.length b (0, 0)) (ob := bnd true (b.cells.all SC.plain && true)) (obs := []) (by kernel_rfl) (by simp [bnd_true, h.plain]) trivial ?_
  refine SWs.loop (by kernel_rfl) (wordI off bs.length b) (fun a => (bs.length - a.1).toNat) (fun a => ∃ n : Nat, a.1 = n ∧ n ≤ bs.length ∧ a.2 = wordS (bs.take n)) (0, 0) ⟨0, rfl, by omega, rfl⟩ ?_
  rintro ⟨i, y⟩ ⟨n, hn, hle, hy⟩
  simp only at hn hy
  subst hn
  by_cases hlt : n < bs.length
  · have hg := row_get h hlt
    refine SWs.round (LibOK.nil _) mixed (fuel := 1000) (n := 5) (told := [true]) (un := []) (c := wordCut) (t := wordI off bs.length b (IntKind.i64.wrap (n + 1), shlW y 8 ||| (b.cells.getD (off + n * 1) .nilp).asU8.toUInt64))
      (ob := bnd (bnd (bnd (bnd true (decide ((n : Int) < bs.length))) (decide (0 ≤ (n : Int)) && (Nat.blt n bs.length && true))) (Nat.blt (off + n * 1) b.cells.length && (b.cells.getD (off + n * 1) .nilp).isU8)) (b.cells.all SC.plain && true)) (obs := []) (by kernel_rfl) (by kernel_rfl) ?_ trivial ?_
    · have := h.len
      simp only [Nat.mul_one, hg, h.plain, SC.isU8]
      simp [bnd_true, Nat.blt_eq]
      omega
    · refine ⟨_, ⟨n + 1, wrap_succ (by omega), by omega, ?_⟩, ?_, rfl⟩
      · simp only [Nat.mul_one, hg, SC.asU8, hy]
        rw [List.take_add_one, List.getElem?_eq_getElem hlt]
        simp only [wordS, Option.toList_some, List.foldl_append, List.foldl_cons, List.foldl_nil, List.getD, List.getElem?_eq_getElem hlt, Option.getD_some]
      · simp only [wrap_succ (show n < 2 ^ 62 by omega)]; omega
  · have he : n = bs.length := by omega
    subst he
    refine SWs.out (LibOK.nil _) mixed (fuel := 1000) (n := 5) (told := [false]) (un := []) (c := wordCut) (t := wordI off bs.length b ((bs.length : Int), y)) (ob := bnd (bnd true (!decide ((bs.length : Int) < bs.length))) (b.cells.all SC.plain && true)) (obs := []) (by kernel_rfl) (by simp [bnd_true, h.plain]) trivial ?_
    refine SWs.fin (LibOK.nil _) mixed (fuel := 1000) (n := 100) (told := []) (ob := true) (obs := []) (v := .c (.u64 y)) (T := [(0, some b)]) (by kernel_rfl) rfl trivial ?_
    rw [hy, List.take_length]

theorem word_ok : ConOK Try.prog fWord wordC := by
  refine bytesCon_ok (fn := Try.f58) (by kernel_rfl) rfl rfl fun ps bs v h => ?_
  split at h <;> try (cases h; done)
  simp only [Option.some.injEq] at h; subst h
  exact ⟨rfl, fun w off b hb hl => word_fn w hb (by omega)⟩

end Go.Proofs.Ytkpdkfeklecehaa.Sp
