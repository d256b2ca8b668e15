/-
  The document's Derive.
-/
import Derived.Test.YtkpdkfeklecehaaSpL
namespace Go.Proofs.Ytkpdkfeklecehaa.Sp
open Go.RowKit Go.Proofs.Ytkpdkfeklecehaa.Sx
set_option linter.unusedVariables false

abbrev fRDer : Nat := 36

section
variable (hcs : List SC) (s : List UInt8) (off n : Nat) (b : Blk)
/-- What is appended, step by step. -/
def rdA : List SC := List.take (32 * 1) hcs
def rdAA : List SC := (rdA hcs).take ((0 + 32) * 1) ++ [.u8 (UInt8.ofInt s.length)]
def rdAS : List SC := (rdAA hcs s).take ((0 + 32 + 1) * 1) ++ (s.map SC.u8).take (s.length * 1)
def rdAL : List SC := (rdAS hcs s).take ((0 + 32 + 1 + s.length) * 1) ++ rd off n b
def rdN : Nat := 0 + 32 + 1 + s.length + n

theorem rder_run (w : World)
    (hok : bnd (bnd (bnd (bnd (bnd (bnd true (Nat.ble (0 + 32 * 1) hcs.length)) ((Nat.ble (0 + 32 * 1) hcs.length && true) && true)) (Nat.ble ((0 + 32) * 1) (rdA hcs).length))
      ((Nat.ble (0 + s.length * 1) (s.map SC.u8).length && true) && (Nat.ble (0 + 32 + 1 + s.length) maxLen && (Nat.ble ((0 + 32 + 1 + s.length) * 1) 140737488355328 && Nat.ble ((0 + 32 + 1) * 1) (rdAA hcs s).length))))
      ((Nat.ble (off + n * 1) b.cells.length && true) && (Nat.ble (rdN s n) maxLen && (Nat.ble (rdN s n * 1) 140737488355328 && Nat.ble ((0 + 32 + 1 + s.length) * 1) (rdAS hcs s).length))))
      ((Nat.ble (0 + rdN s n * 1) (rdAL hcs s off n b).length && true) && ((rd 0 (rdN s n) ⟨rdAL hcs s off n b, tB, true, true⟩).all SC.isU8 && Nat.ble (rdN s n) sumLim)) = true) :
    Sx.Fn Try.prog fRDer (atW w 0) [.agg hcs, .c (.str s), .c (.slc 0 off 1 n none)] [(0, some b)] 1 fun r _ => r = .agg (hc (sumS (rdB 0 (rdN s n) ⟨rdAL hcs s off n b, tB, true, true⟩))) :=
  Fn.xv (fuel := 1000) (told := []) (LibOK.cons rsum_ok (LibOK.nil _)) mixed (r := .agg (hc (sumS (rdB 0 (rdN s n) ⟨rdAL hcs s off n b, tB, true, true⟩)))) (obs := []) (by kernel_rfl) hok trivial rfl
end

theorem rdAL_eq {hs s bs : List UInt8} {off : Nat} {b : Blk} (h32 : hs.length = 32) (h : RowB off b bs) : rdAL (hs.map SC.u8) s off bs.length b = (hs ++ (UInt8.ofInt s.length :: (s ++ bs))).map SC.u8 := by
  unfold rdAL rdAS rdAA rdA
  rw [rd_eq h, own_take s]
  have e1 : List.take (32 * 1) (hs.map SC.u8) = hs.map SC.u8 := List.take_of_length_le (by simp [h32])
  have e2 : List.take ((0 + 32) * 1) (hs.map SC.u8) = hs.map SC.u8 := List.take_of_length_le (by simp [h32])
  rw [e1, e2]
  have e3 : List.take ((0 + 32 + 1) * 1) (hs.map SC.u8 ++ [SC.u8 (UInt8.ofInt s.length)]) = hs.map SC.u8 ++ [SC.u8 (UInt8.ofInt s.length)] := List.take_of_length_le (by simp [h32])
  rw [e3]
  have e4 : List.take ((0 + 32 + 1 + s.length) * 1) (hs.map SC.u8 ++ [SC.u8 (UInt8.ofInt s.length)] ++ s.map SC.u8) = hs.map SC.u8 ++ [SC.u8 (UInt8.ofInt s.length)] ++ s.map SC.u8 := List.take_of_length_le (by simp [h32]; omega)
  rw [e4]; simp
theorem rder_fn {w : World} {off : Nat} {b : Blk} {bs : List UInt8} (hs s : List UInt8) (h32 : hs.length = 32) (h : RowB off b bs) (hl : bs.length ≤ 1073741824) (hsl : s.length ≤ 1073741824) :
    Sx.Fn Try.prog fRDer (atW w 0) [.agg (hs.map SC.u8), .c (.str s), .c (.slc 0 off 1 bs.length none)] [(0, some b)] 1 fun r _ => r = .agg (hc (deriveS hs s bs)) := by
  have hS : sumLim = 1099511627776 := rfl
  have hM : maxLen = 9223372036854775807 := rfl
  have hN : rdN s bs.length = (hs ++ (UInt8.ofInt s.length :: (s ++ bs))).length := by simp [rdN, h32]; omega
  have := rder_run (hs.map SC.u8) s off bs.length b w ?_
  · rw [rdAL_eq h32 h, hN, rdB_own] at this; exact this
  · have hbl := h.len
    rw [rdAL_eq h32 h, hN, rd_own, isU8s]
    have l1 : (rdA (hs.map SC.u8)).length = 32 := by simp [rdA, h32]
    have l2 : (rdAA (hs.map SC.u8) s).length = 33 := by simp [rdAA, l1]
    have l3 : (rdAS (hs.map SC.u8) s).length = 33 + s.length := by simp [rdAS, l2]
    simp only [bnd_true, Bool.and_eq_true, Nat.ble_eq, and_true, true_and, List.length_map, List.length_append, List.length_cons, l1, l2, l3]
    omega
def rderC : Con := bytesConB 1073741824 derOk fun ps bs => match ps with
  | [.agg hcs, .c (.str s)] => some (.agg (hc (deriveS (hcs.map SC.asU8) s bs)))
  | _ => none
theorem rder_ok : ConOK Try.prog fRDer rderC := by
  refine bytesConB_ok (fn := Try.f36) (by kernel_rfl) rfl rfl fun ps bs v hok h => ?_
  split at h <;> try (cases h; done)
  rename_i hcs s
  simp only [Option.some.injEq] at h; subst h
  simp only [derOk, Bool.and_eq_true, Nat.ble_eq] at hok
  obtain ⟨h32, hu, hsl⟩ := hok
  have h32 := Nat.eq_of_beq_eq_true h32
  refine ⟨rfl, fun w off b hb h1 => ?_⟩
  have := rder_fn (w := w) (hcs.map SC.asU8) s (by simpa using h32) hb h1 hsl
  rw [u8s_back hu] at this
  exact this


end Go.Proofs.Ytkpdkfeklecehaa.Sp
