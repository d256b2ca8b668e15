/-
  A secret's secret: what the sponge's Derive computes, by its rows.
-/
import Derived.Test.YtkpdkfeklecehaaSpR
namespace Go.Proofs.Ytkpdkfeklecehaa.Sp
open Go.RowKit Go.Proofs.Ytkpdkfeklecehaa.Sx
set_option linter.unusedVariables false

abbrev fDer : Nat := 31
abbrev tRow : Nat := 85
/-- The rows that are summed: the secret, the label with its length ahead, and all rows. -/
def derX (s : List UInt8) (off n : Nat) (b : Blk) : List SC := [SC.slc 1 0 1 32 (some 32), SC.slc 25 0 1 1 (some 1), SC.slc 33 0 1 s.length none] ++ rd off n b
def derT (hcs : List SC) (s : List UInt8) (off n : Nat) (b : Blk) : Tab := [(53, some ⟨derX s off n b, tRow, true, true⟩), (37, none), (33, some ⟨s.map SC.u8, tB, true, false⟩), (25, some ⟨[.u8 (UInt8.ofInt s.length)], tB, false, false⟩), (5, some ⟨zeroH, tH, false, true⟩), (1, some ⟨hcs, tH, false, true⟩), (0, some b)]
def derS (n : Nat) : SC := .slc 53 0 1 (3 + n) none

theorem der_run (hcs : List SC) (s : List UInt8) (off n : Nat) (b : Blk) (w : World)
    (hok : bnd (bnd (bnd true (Nat.ble (0 + 32 * 1) hcs.length)) ((Nat.ble (off + n * 1) b.cells.length && true) && (Nat.ble (3 + n) maxLen && (Nat.ble ((3 + n) * 24) 140737488355328 && true))))
      ((Nat.ble (0 + (3 + n) * 1) (derX s off n b).length && true) && ((srcC (derT hcs s off n b) (.c (derS n))).all (rowOk (derT hcs s off n b)) && (Nat.ble (rowsOf (derT hcs s off n b) (derS n)).length sumLim && Nat.ble (rowsOf (derT hcs s off n b) (derS n)).flatten.length sumLim))) = true) :
    Sx.Fn Try.prog fDer (atW w 0) [.agg hcs, .c (.str s), .c (.slc 0 off 1 n none)] [(0, some b)] 1 fun r _ => r = .agg (hc (sumS (rowsOf (derT hcs s off n b) (derS n)).flatten)) :=
  Fn.xv (fuel := 1000) (told := []) (LibOK.cons sum_ok (LibOK.nil _)) mixed (r := .agg (hc (sumS (rowsOf (derT hcs s off n b) (derS n)).flatten))) (obs := []) (by kernel_rfl) hok trivial rfl

theorem rd_rows {w : World} {off : Nat} {b : Blk} {rs : List (Value × List UInt8)} (h : RowsB w off b rs) : rd off rs.length b = rs.map rowSC := by
  unfold rd
  rw [h.cells, Nat.mul_one, List.take_of_length_le (by simp)]
theorem der_src {w : World} {off : Nat} {b : Blk} {rs : List (Value × List UInt8)} (hcs : List SC) (s : List UInt8) (h : RowsB w off b rs) : srcC (derT hcs s off rs.length b) (.c (derS rs.length)) = derX s off rs.length b := by
  show (List.drop 0 (derX s off rs.length b)).take ((3 + rs.length) * 1) = _
  rw [List.drop_zero, List.take_of_length_le]
  unfold derX
  rw [rd_rows h]
  simp; omega
theorem take_all {α : Type} (l : List α) {n : Nat} (h : l.length = n) : (l.drop 0).take (n * 1) = l := by
  rw [List.drop_zero, List.take_of_length_le (by omega)]
theorem der_rows {w : World} {off : Nat} {b : Blk} {rs : List (Value × List UInt8)} (hs s : List UInt8) (h32 : hs.length = 32) (h : RowsB w off b rs) :
    rowsOf (derT (hs.map SC.u8) s off rs.length b) (derS rs.length) = hs :: [UInt8.ofInt s.length] :: s :: rs.map (·.2) := by
  unfold rowsOf
  rw [der_src _ s h]
  unfold derX
  rw [rd_rows h, List.map_append, List.map_map]
  have e1 : srcC (derT (hs.map SC.u8) s off rs.length b) (.c (.slc 1 0 1 32 (some 32))) = hs.map SC.u8 := take_all (hs.map SC.u8) (by simpa using h32)
  have e2 : srcC (derT (hs.map SC.u8) s off rs.length b) (.c (.slc 25 0 1 1 (some 1))) = [.u8 (UInt8.ofInt s.length)] := rfl
  have e3 : srcC (derT (hs.map SC.u8) s off rs.length b) (.c (.slc 33 0 1 s.length none)) = s.map SC.u8 := take_all (s.map SC.u8) (by simp)
  simp only [List.map_cons, List.map_nil, e1, e2, e3, asU8s, List.cons_append, List.nil_append]
  congr 4
  funext p
  simp only [Function.comp, rowSC, srcC, asU8s]

def deriveS (hs s : List UInt8) (rows : List UInt8) : H4 := sumS (hs ++ (UInt8.ofInt s.length :: (s ++ rows)))
theorem der_fn {w : World} {off : Nat} {b : Blk} {rs : List (Value × List UInt8)} (hs s : List UInt8) (h32 : hs.length = 32) (h : RowsB w off b rs) (hl : rs.length ≤ 1073741824) (hf : (rs.map (·.2)).flatten.length ≤ 1073741824) (hsl : s.length ≤ 1073741824) :
    Sx.Fn Try.prog fDer (atW w 0) [.agg (hs.map SC.u8), .c (.str s), .c (.slc 0 off 1 rs.length none)] [(0, some b)] 1 fun r _ => r = .agg (hc (deriveS hs s (rs.map (·.2)).flatten)) := by
  have hS : sumLim = 1099511627776 := rfl
  have hM : maxLen = 9223372036854775807 := rfl
  have e : (rowsOf (derT (hs.map SC.u8) s off rs.length b) (derS rs.length)).flatten = hs ++ (UInt8.ofInt s.length :: (s ++ (rs.map (·.2)).flatten)) := by
    rw [der_rows hs s h32 h]; simp
  have hfl : (hs ++ (UInt8.ofInt s.length :: (s ++ (rs.map (·.2)).flatten))).length ≤ 1099511627776 := by
    simp only [List.length_append, List.length_cons]; omega
  have hall : (derX s off rs.length b).all (rowOk (derT (hs.map SC.u8) s off rs.length b)) = true := by
    unfold derX
    rw [rd_rows h, List.all_append]
    have e1 : rowOk (derT (hs.map SC.u8) s off rs.length b) (.slc 1 0 1 32 (some 32)) = true := by
      show (true && ((Nat.ble (0 + 32 * 1) (hs.map SC.u8).length && Nat.beq 1 1) && (List.take (32 * 1) (List.drop 0 (hs.map SC.u8))).all SC.isU8)) = true
      rw [take_all _ (by simpa using h32), isU8s]
      simp [h32]
    have e2 : rowOk (derT (hs.map SC.u8) s off rs.length b) (.slc 25 0 1 1 (some 1)) = true := rfl
    have e3 : rowOk (derT (hs.map SC.u8) s off rs.length b) (.slc 33 0 1 s.length none) = true := by
      show (true && ((Nat.ble (0 + s.length * 1) (s.map SC.u8).length && Nat.beq 1 1) && (List.take (s.length * 1) (List.drop 0 (s.map SC.u8))).all SC.isU8)) = true
      rw [take_all _ (by simp), isU8s]
      simp
    simp only [List.all_cons, List.all_nil, e1, e2, e3, Bool.and_self, Bool.true_and]
    rw [List.all_eq_true]
    intro y hy
    obtain ⟨p, _, rfl⟩ := List.mem_map.1 hy
    show (true && (Nat.beq 1 1 && (p.2.map SC.u8).all SC.isU8)) = true
    rw [isU8s]; rfl
  have := der_run (hs.map SC.u8) s off rs.length b w ?_
  · rw [e] at this; exact this
  · have hbl := h.len
    rw [e, der_src _ s h, hall, der_rows hs s h32 h]
    have hdx : (derX s off rs.length b).length = 3 + rs.length := by unfold derX; rw [rd_rows h]; simp; omega
    simp only [bnd_true, Bool.and_eq_true, Nat.ble_eq, and_true, true_and, List.length_map, List.length_cons, hdx]
    omega

theorem u8s_back : ∀ {cs : List SC}, cs.all SC.isU8 = true → (cs.map SC.asU8).map SC.u8 = cs
  | [], _ => rfl
  | c :: cs, h => by
    simp only [List.all_cons, Bool.and_eq_true] at h
    simp only [List.map_cons, u8s_back h.2]
    cases c <;> first | rfl | (simp [SC.isU8] at h; done)
def derOk : List SV → Bool
  | [.agg hcs, .c (.str s)] => Nat.beq hcs.length 32 && (hcs.all SC.isU8 && Nat.ble s.length 1073741824)
  | _ => false
def derC : Con := rowsConB 1073741824 derOk fun ps rows => match ps with
  | [.agg hcs, .c (.str s)] => some (.agg (hc (deriveS (hcs.map SC.asU8) s rows.flatten)))
  | _ => none
theorem der_ok : ConOK Try.prog fDer derC := by
  refine rowsConB_ok (fn := Try.f31) (by kernel_rfl) rfl rfl fun ps rows v hok h => ?_
  split at h <;> try (cases h; done)
  rename_i hcs s
  simp only [Option.some.injEq] at h; subst h
  simp only [derOk, Bool.and_eq_true, Nat.ble_eq] at hok
  obtain ⟨h32, hu, hsl⟩ := hok
  have h32 := Nat.eq_of_beq_eq_true h32
  refine ⟨rfl, fun w off b rs hrs hb h1 h2 => ?_⟩
  subst hrs
  have := der_fn (w := w) (hcs.map SC.asU8) s (by simpa using h32) hb (by simpa using h1) h2 hsl
  rw [u8s_back hu] at this
  exact this

end Go.Proofs.Ytkpdkfeklecehaa.Sp
