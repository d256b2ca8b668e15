/-
  A secret's secret: what the sponge's Derive computes, by its rows. The document's Derive. The document's Join.
-/
import Derived.Test.YtabiknpgakhkkaaGreatSpR
import Derived.Test.YtabiknpgakhkkaaGreatSxK
set_option maxRecDepth 20000
section
namespace Go.Proofs.YtabiknpgakhkkaaGreat.Sp
open Go.RowKit Go.Proofs.YtabiknpgakhkkaaGreat.Sx
set_option linter.unusedVariables false

abbrev fDer : Nat := 30
abbrev tRow : Nat := 70
/-- The rows that are summed: the secret, the label with its length ahead, and all rows. -/
def derX (s : List UInt8) (off n : Nat) (b : Blk) : List SC := [SC.slc 1 0 1 32 (some 32), SC.slc 25 0 1 1 (some 1), SC.slc 33 0 1 s.length none] ++ rd off n b
def derT (hcs : List SC) (s : List UInt8) (off n : Nat) (b : Blk) : Tab := [(53, some ⟨derX s off n b, tRow, true, true⟩), (37, none), (33, some ⟨s.map SC.u8, tB, true, false⟩), (25, some ⟨[.u8 (UInt8.ofInt s.length)], tB, false, false⟩), (5, some ⟨zeroH, tH, false, true⟩), (1, some ⟨hcs, tH, false, true⟩), (0, some b)]
def derS (n : Nat) : SC := .slc 53 0 1 (3 + n) none

theorem der_run (hcs : List SC) (s : List UInt8) (off n : Nat) (b : Blk) (w : World)
    (hok : bnd (bnd (bnd true (Nat.ble (0 + 32 * 1) hcs.length)) ((Nat.ble (off + n * 1) b.cells.length && true) && (Nat.ble (3 + n) maxLen && (Nat.ble ((3 + n) * 24) 140737488355328 && true))))
      ((Nat.ble (0 + (3 + n) * 1) (derX s off n b).length && true) && ((srcC (derT hcs s off n b) (.c (derS n))).all (rowOk (derT hcs s off n b)) && (Nat.ble (rowsOf (derT hcs s off n b) (derS n)).length sumLim && Nat.ble (rowsOf (derT hcs s off n b) (derS n)).flatten.length sumLim))) = true) :
    Sx.Fn Tryz.prog fDer (atW w 0) [.agg hcs, .c (.str s), .c (.slc 0 off 1 n none)] [(0, some b)] 1 fun r _ => r = .agg (hc (sumS (rowsOf (derT hcs s off n b) (derS n)).flatten)) :=
  Fn.xv (fuel := 1000) (told := []) (LibOK.cons sum_ok (LibOK.nil _)) mixed (r := .agg (hc (sumS (rowsOf (derT hcs s off n b) (derS n)).flatten))) (obs := []) (by kernel_rfl) hok trivial rfl

theorem rd_rows {w : World} {off : Nat} {b : Blk} {rs : List (Value × List UInt8)} (h : RowsB w off b rs) : rd off rs.length b = rs.map rowSC := by
  unfold rd
  rw [h.cells, Nat.mul_one, List.take_of_length_le (by simp)]
theorem der_src {w : World} {off : Nat} {b : Blk} {rs : List (Value × List UInt8)} (hcs : List SC) (s : List UInt8) (h : RowsB w off b rs) : srcC (derT hcs s off rs.length b) (.c (derS rs.length)) = derX s off rs.length b := by
  show (List.drop 0 (derX s off rs.length b)).take ((3 + rs.length) * 1) = _
  rw [List.drop_zero, List.take_of_length_le]
  unfold derX
  rw [rd_rows h]
  simp; omega
theorem take_all {α : Type} (l : List α) {n : Nat} (h : l.length = n) : (l.drop 0).take (n * 1) = l := by
  rw [List.drop_zero, List.take_of_length_le (by omega)]
theorem der_rows {w : World} {off : Nat} {b : Blk} {rs : List (Value × List UInt8)} (hs s : List UInt8) (h32 : hs.length = 32) (h : RowsB w off b rs) :
    rowsOf (derT (hs.map SC.u8) s off rs.length b) (derS rs.length) = hs :: [UInt8.ofInt s.length] :: s :: rs.map (·.2) := by
  unfold rowsOf
  rw [der_src _ s h]
  unfold derX
  rw [rd_rows h, List.map_append, List.map_map]
  have e1 : srcC (derT (hs.map SC.u8) s off rs.length b) (.c (.slc 1 0 1 32 (some 32))) = hs.map SC.u8 := take_all (hs.map SC.u8) (by simpa using h32)
  have e2 : srcC (derT (hs.map SC.u8) s off rs.length b) (.c (.slc 25 0 1 1 (some 1))) = [.u8 (UInt8.ofInt s.length)] := rfl
  have e3 : srcC (derT (hs.map SC.u8) s off rs.length b) (.c (.slc 33 0 1 s.length none)) = s.map SC.u8 := take_all (s.map SC.u8) (by simp)
  simp only [List.map_cons, List.map_nil, e1, e2, e3, asU8s, List.cons_append, List.nil_append]
  congr 4
  funext p
  simp only [Function.comp, rowSC, srcC, asU8s]

def deriveS (hs s : List UInt8) (rows : List UInt8) : H4 := sumS (hs ++ (UInt8.ofInt s.length :: (s ++ rows)))
theorem der_fn {w : World} {off : Nat} {b : Blk} {rs : List (Value × List UInt8)} (hs s : List UInt8) (h32 : hs.length = 32) (h : RowsB w off b rs) (hl : rs.length ≤ 1073741824) (hf : (rs.map (·.2)).flatten.length ≤ 1073741824) (hsl : s.length ≤ 1073741824) :
    Sx.Fn Tryz.prog fDer (atW w 0) [.agg (hs.map SC.u8), .c (.str s), .c (.slc 0 off 1 rs.length none)] [(0, some b)] 1 fun r _ => r = .agg (hc (deriveS hs s (rs.map (·.2)).flatten)) := by
  have hS : sumLim = 1099511627776 := rfl
  have hM : maxLen = 9223372036854775807 := rfl
  have e : (rowsOf (derT (hs.map SC.u8) s off rs.length b) (derS rs.length)).flatten = hs ++ (UInt8.ofInt s.length :: (s ++ (rs.map (·.2)).flatten)) := by
    rw [der_rows hs s h32 h]; simp
  have hfl : (hs ++ (UInt8.ofInt s.length :: (s ++ (rs.map (·.2)).flatten))).length ≤ 1099511627776 := by
    simp only [List.length_append, List.length_cons]; omega
  have hall : (derX s off rs.length b).all (rowOk (derT (hs.map SC.u8) s off rs.length b)) = true := by
    unfold derX
    rw [rd_rows h, List.all_append]
    have e1 : rowOk (derT (hs.map SC.u8) s off rs.length b) (.slc 1 0 1 32 (some 32)) = true := by
      show (true && ((Nat.ble (0 + 32 * 1) (hs.map SC.u8).length && Nat.beq 1 1) && (List.take (32 * 1) (List.drop 0 (hs.map SC.u8))).all SC.isU8)) = true
      rw [take_all _ (by simpa using h32), isU8s]
      simp [h32]
    have e2 : rowOk (derT (hs.map SC.u8) s off rs.length b) (.slc 25 0 1 1 (some 1)) = true := rfl
    have e3 : rowOk (derT (hs.map SC.u8) s off rs.length b) (.slc 33 0 1 s.length none) = true := by
      show (true && ((Nat.ble (0 + s.length * 1) (s.map SC.u8).length && Nat.beq 1 1) && (List.take (s.length * 1) (List.drop 0 (s.map SC.u8))).all SC.isU8)) = true
      rw [take_all _ (by simp), isU8s]
      simp
    simp only [List.all_cons, List.all_nil, e1, e2, e3, Bool.and_self, Bool.true_and]
    rw [List.all_eq_true]
    intro y hy
    obtain ⟨p, _, rfl⟩ := List.mem_map.1 hy
    show (true && (Nat.beq 1 1 && (p.2.map SC.u8).all SC.isU8)) = true
    rw [isU8s]; rfl
  have := der_run (hs.map SC.u8) s off rs.length b w ?_
  · rw [e] at this; exact this
  · have hbl := h.len
    rw [e, der_src _ s h, hall, der_rows hs s h32 h]
    have hdx : (derX s off rs.length b).length = 3 + rs.length := by unfold derX; rw [rd_rows h]; simp; omega
    simp only [bnd_true, Bool.and_eq_true, Nat.ble_eq, and_true, true_and, List.length_map, List.length_cons, hdx]
    omega

theorem u8s_back : ∀ {cs : List SC}, cs.all SC.isU8 = true → (cs.map SC.asU8).map SC.u8 = cs
  | [], _ => rfl
  | c :: cs, h => by
    simp only [List.all_cons, Bool.and_eq_true] at h
    simp only [List.map_cons, u8s_back h.2]
    cases c <;> first | rfl | (simp [SC.isU8] at h; done)
def derOk : List SV → Bool
  | [.agg hcs, .c (.str s)] => Nat.beq hcs.length 32 && (hcs.all SC.isU8 && Nat.ble s.length 1073741824)
  | _ => false
def derC : Con := rowsConB 1073741824 derOk fun ps rows => match ps with
  | [.agg hcs, .c (.str s)] => some (.agg (hc (deriveS (hcs.map SC.asU8) s rows.flatten)))
  | _ => none
theorem der_ok : ConOK Tryz.prog fDer derC := by
  refine rowsConB_ok (fn := Tryz.f30) (by kernel_rfl) rfl rfl fun ps rows v hok h => ?_
  split at h <;> try (cases h; done)
  rename_i hcs s
  simp only [Option.some.injEq] at h; subst h
  simp only [derOk, Bool.and_eq_true, Nat.ble_eq] at hok
  obtain ⟨h32, hu, hsl⟩ := hok
  have h32 := Nat.eq_of_beq_eq_true h32
  refine ⟨rfl, fun w off b rs hrs hb h1 h2 => ?_⟩
  subst hrs
  have := der_fn (w := w) (hcs.map SC.asU8) s (by simpa using h32) hb (by simpa using h1) h2 hsl
  rw [u8s_back hu] at this
  exact this

end Go.Proofs.YtabiknpgakhkkaaGreat.Sp
end

section
namespace Go.Proofs.YtabiknpgakhkkaaGreat.Sp
open Go.RowKit Go.Proofs.YtabiknpgakhkkaaGreat.Sx
set_option linter.unusedVariables false

abbrev fRDer : Nat := 34

section
variable (hcs : List SC) (s : List UInt8) (off n : Nat) (b : Blk)
/-- What is appended, step by step. -/
def rdA : List SC := List.take (32 * 1) hcs
def rdAA : List SC := (rdA hcs).take ((0 + 32) * 1) ++ [.u8 (UInt8.ofInt s.length)]
def rdAS : List SC := (rdAA hcs s).take ((0 + 32 + 1) * 1) ++ (s.map SC.u8).take (s.length * 1)
def rdAL : List SC := (rdAS hcs s).take ((0 + 32 + 1 + s.length) * 1) ++ rd off n b
def rdN : Nat := 0 + 32 + 1 + s.length + n

theorem rder_run (w : World)
    (hok : bnd (bnd (bnd (bnd (bnd (bnd true (Nat.ble (0 + 32 * 1) hcs.length)) ((Nat.ble (0 + 32 * 1) hcs.length && true) && true)) (Nat.ble ((0 + 32) * 1) (rdA hcs).length))
      ((Nat.ble (0 + s.length * 1) (s.map SC.u8).length && true) && (Nat.ble (0 + 32 + 1 + s.length) maxLen && (Nat.ble ((0 + 32 + 1 + s.length) * 1) 140737488355328 && Nat.ble ((0 + 32 + 1) * 1) (rdAA hcs s).length))))
      ((Nat.ble (off + n * 1) b.cells.length && true) && (Nat.ble (rdN s n) maxLen && (Nat.ble (rdN s n * 1) 140737488355328 && Nat.ble ((0 + 32 + 1 + s.length) * 1) (rdAS hcs s).length))))
      ((Nat.ble (0 + rdN s n * 1) (rdAL hcs s off n b).length && true) && ((rd 0 (rdN s n) ⟨rdAL hcs s off n b, tB, true, true⟩).all SC.isU8 && Nat.ble (rdN s n) sumLim)) = true) :
    Sx.Fn Tryz.prog fRDer (atW w 0) [.agg hcs, .c (.str s), .c (.slc 0 off 1 n none)] [(0, some b)] 1 fun r _ => r = .agg (hc (sumS (rdB 0 (rdN s n) ⟨rdAL hcs s off n b, tB, true, true⟩))) :=
  Fn.xv (fuel := 1000) (told := []) (LibOK.cons rsum_ok (LibOK.nil _)) mixed (r := .agg (hc (sumS (rdB 0 (rdN s n) ⟨rdAL hcs s off n b, tB, true, true⟩)))) (obs := []) (by kernel_rfl) hok trivial rfl
end

theorem rdAL_eq {hs s bs : List UInt8} {off : Nat} {b : Blk} (h32 : hs.length = 32) (h : RowB off b bs) : rdAL (hs.map SC.u8) s off bs.length b = (hs ++ (UInt8.ofInt s.length :: (s ++ bs))).map SC.u8 := by
  unfold rdAL rdAS rdAA rdA
  rw [rd_eq h, own_take s]
  have e1 : List.take (32 * 1) (hs.map SC.u8) = hs.map SC.u8 := List.take_of_length_le (by simp [h32])
  have e2 : List.take ((0 + 32) * 1) (hs.map SC.u8) = hs.map SC.u8 := List.take_of_length_le (by simp [h32])
  rw [e1, e2]
  have e3 : List.take ((0 + 32 + 1) * 1) (hs.map SC.u8 ++ [SC.u8 (UInt8.ofInt s.length)]) = hs.map SC.u8 ++ [SC.u8 (UInt8.ofInt s.length)] := List.take_of_length_le (by simp [h32])
  rw [e3]
  have e4 : List.take ((0 + 32 + 1 + s.length) * 1) (hs.map SC.u8 ++ [SC.u8 (UInt8.ofInt s.length)] ++ s.map SC.u8) = hs.map SC.u8 ++ [SC.u8 (UInt8.ofInt s.length)] ++ s.map SC.u8 := List.take_of_length_le (by simp [h32]; omega)
  rw [e4]; simp
theorem rder_fn {w : World} {off : Nat} {b : Blk} {bs : List UInt8} (hs s : List UInt8) (h32 : hs.length = 32) (h : RowB off b bs) (hl : bs.length ≤ 1073741824) (hsl : s.length ≤ 1073741824) :
    Sx.Fn Tryz.prog fRDer (atW w 0) [.agg (hs.map SC.u8), .c (.str s), .c (.slc 0 off 1 bs.length none)] [(0, some b)] 1 fun r _ => r = .agg (hc (deriveS hs s bs)) := by
  have hS : sumLim = 1099511627776 := rfl
  have hM : maxLen = 9223372036854775807 := rfl
  have hN : rdN s bs.length = (hs ++ (UInt8.ofInt s.length :: (s ++ bs))).length := by simp [rdN, h32]; omega
  have := rder_run (hs.map SC.u8) s off bs.length b w ?_
  · rw [rdAL_eq h32 h, hN, rdB_own] at this; exact this
  · have hbl := h.len
    rw [rdAL_eq h32 h, hN, rd_own, isU8s]
    have l1 : (rdA (hs.map SC.u8)).length = 32 := by simp [rdA, h32]
    have l2 : (rdAA (hs.map SC.u8) s).length = 33 := by simp [rdAA, l1]
    have l3 : (rdAS (hs.map SC.u8) s).length = 33 + s.length := by simp [rdAS, l2]
    simp only [bnd_true, Bool.and_eq_true, Nat.ble_eq, and_true, true_and, List.length_map, List.length_append, List.length_cons, l1, l2, l3]
    omega
def rderC : Con := bytesConB 1073741824 derOk fun ps bs => match ps with
  | [.agg hcs, .c (.str s)] => some (.agg (hc (deriveS (hcs.map SC.asU8) s bs)))
  | _ => none
theorem rder_ok : ConOK Tryz.prog fRDer rderC := by
  refine bytesConB_ok (fn := Tryz.f34) (by kernel_rfl) rfl rfl fun ps bs v hok h => ?_
  split at h <;> try (cases h; done)
  rename_i hcs s
  simp only [Option.some.injEq] at h; subst h
  simp only [derOk, Bool.and_eq_true, Nat.ble_eq] at hok
  obtain ⟨h32, hu, hsl⟩ := hok
  have h32 := Nat.eq_of_beq_eq_true h32
  refine ⟨rfl, fun w off b hb h1 => ?_⟩
  have := rder_fn (w := w) (hcs.map SC.asU8) s (by simpa using h32) hb h1 hsl
  rw [u8s_back hu] at this
  exact this


end Go.Proofs.YtabiknpgakhkkaaGreat.Sp
end

section
namespace Go.Proofs.YtabiknpgakhkkaaGreat.Sp
open Go.RowKit Go.Proofs.YtabiknpgakhkkaaGreat.Sx
set_option linter.unusedVariables false

abbrev fJoin : Nat := 36
/-! Rows, one behind the other. -/
section
variable (off n : Nat) (b : Blk)
def joinI (a : Int × Nat × List SC) : St := ⟨[(0, .c (.slc 0 off 1 n none)), (3, .c (.slc 1 0 1 a.2.1 none)), (4, .c (.int a.1))], [(0, some b), (1, some ⟨a.2.2, tB, true, true⟩)], 2, 18⟩
def joinT (cs : List SC) : Tab := [(0, some b), (1, some ⟨cs, tB, true, true⟩)]
def joinE (i : Int) : SV := .c (b.cells.getD (off + i.toNat * 1) .nilp)
end
def joinCut (j : Nat) : Cut := ⟨[(0, false), (3, false), (4, true)], [(0, 0, true), (j, 1, true)], 2⟩

theorem join_fn {rows : List (List UInt8)} (w : World) {off : Nat} {b : Blk} {rs : List (Value × List UInt8)} (hrs : rs.map (·.2) = rows) (h : RowsB w off b rs) (hl : rows.length ≤ sumLim) (hf : rows.flatten.length ≤ sumLim) :
    Sx.Fn Tryz.prog fJoin (atW w 0) [.c (.slc 0 off 1 rows.length none)] [(0, some b)] 1 fun r T => ∃ k, r = .c (.slc k 0 1 rows.flatten.length none) ∧ T.blk k = some ⟨rows.flatten.map SC.u8, tB, true, true⟩ := by
  have hS : sumLim = 1099511627776 := rfl
  have hM : maxLen = 9223372036854775807 := rfl
  have hpl := h.plain
  have hrl : rs.length = rows.length := by rw [← hrs, List.length_map]
  refine Sx.Fn.of (nt := 18) (by kernel_rfl) rfl ?_
  refine SWs.step (LibOK.nil _) mixed (fuel := 1000) (n := 3) (told := []) (un := [(3, 1, tB)]) (c := joinCut 13) (t := joinI off rows.length b (0, 0, [])) (ob := bnd true (b.cells.all SC.plain && true)) (obs := []) (by kernel_rfl) (by simp [bnd_true, hpl]) trivial ?_
  refine SWs.loop (by kernel_rfl) (joinI off rows.length b) (fun a => (rows.length - a.1).toNat) (fun a => ∃ n : Nat, a.1 = n ∧ n ≤ rows.length ∧ a.2.1 = (gone rows n).length ∧ a.2.2 = (gone rows n).map SC.u8) (0, 0, []) ⟨0, rfl, by omega, rfl, rfl⟩ ?_
  rintro ⟨i, l, cs⟩ ⟨n, hn, hle, hl1, hcs⟩
  simp only at hn hl1 hcs
  subst hn hl1 hcs
  have hpa := plainU8 (gone rows n)
  by_cases hlt : n < rows.length
  · have hg : joinE off b n = .c (.row rows[n] (rs[n]'(by omega)).1) := by
      unfold joinE
      rw [Int.toNat_natCast, Nat.mul_one, rows_get h (by omega)]
      congr 2
      subst hrs; simp
    generalize (rs[n]'(by omega)).1 = u at hg
    have hgl := gone_le (rows := rows) (n + 1)
    rw [gone_succ hlt, List.length_append] at hgl
    have hbl := h.len
    refine SWs.round (LibOK.nil _) mixed (fuel := 1000) (n := 4) (told := [true]) (un := []) (c := joinCut 38) (t := joinI off rows.length b (IntKind.i64.wrap (n + 1), (gone rows n).length + srcN (joinE off b n), ((gone rows n).map SC.u8).take ((gone rows n).length * 1) ++ srcC (joinT b ((gone rows n).map SC.u8)) (joinE off b n)))
      (ob := bnd (bnd (bnd (bnd (bnd true (decide ((n : Int) < rows.length))) (decide (0 ≤ (n : Int)) && (Nat.blt (n : Int).toNat rows.length && true))) (Nat.blt (off + (n : Int).toNat * 1) b.cells.length && true))
        (srcOk (joinT b ((gone rows n).map SC.u8)) 1 (joinE off b n) && (Nat.ble ((gone rows n).length + srcN (joinE off b n)) maxLen && (Nat.ble (((gone rows n).length + srcN (joinE off b n)) * 1) 140737488355328 && Nat.ble ((gone rows n).length * 1) ((gone rows n).map SC.u8).length))))
        ((b.cells.all SC.plain) && ((((gone rows n).map SC.u8).take ((gone rows n).length * 1) ++ srcC (joinT b ((gone rows n).map SC.u8)) (joinE off b n)).all SC.plain && true))) (obs := []) (by kernel_rfl) (by kernel_rfl) ?_ trivial ?_
    · rw [hg]
      simp only [srcN, srcC, srcOk]
      rw [own_take, ← List.map_append, plainU8, hpl]
      simp only [bnd_true, Bool.and_eq_true, Nat.ble_eq, Nat.blt_eq, decide_eq_true_eq, List.length_map, and_true, true_and, Nat.beq_refl, Int.toNat_natCast]
      omega
    · rw [hg]
      simp only [srcN, srcC]
      rw [own_take, ← List.map_append]
      have hw : IntKind.i64.wrap ((n : Int) + 1) = ((n + 1 : Nat) : Int) := wrap_succ (by omega)
      refine ⟨_, ⟨n + 1, hw, by omega, ?_, ?_⟩, ?_, rfl⟩
      · rw [gone_succ hlt, List.length_append]
      · rw [gone_succ hlt]
      · simp only [hw]; omega
  · have he : n = rows.length := by omega
    subst he
    have hg : gone rows rows.length = rows.flatten := by simp [gone]
    refine SWs.out (LibOK.nil _) mixed (fuel := 1000) (n := 2) (told := [false]) (un := []) (c := joinCut 1) (t := joinI off rows.length b ((rows.length : Int), (gone rows rows.length).length, (gone rows rows.length).map SC.u8))
      (ob := bnd (bnd true (!decide ((rows.length : Int) < rows.length))) ((b.cells.all SC.plain) && (((gone rows rows.length).map SC.u8).all SC.plain && true))) (obs := []) (by kernel_rfl) (by simp only [hpl, hpa]; simp [bnd_true]) trivial ?_
    rw [hg]
    exact SWs.fin (LibOK.nil _) mixed (fuel := 1000) (n := 100) (told := []) (ob := true) (obs := []) (v := .c (.slc 1 0 1 rows.flatten.length none)) (T := joinT b (rows.flatten.map SC.u8)) (by kernel_rfl) rfl trivial ⟨1, rfl, rfl⟩

def joinC : Con := rowsNew 1073741824 tB (fun _ => true) fun ps rows => match ps with | [] => some rows.flatten | _ => none
theorem join_ok : ConOK Tryz.prog fJoin joinC := by
  refine rowsNew_ok (fn := Tryz.f36) (by kernel_rfl) rfl rfl fun ps rows bs _ h => ?_
  split at h <;> try (cases h; done)
  simp only [Option.some.injEq] at h; subst h
  intro w off b rs hrs hb h1 h2
  have hS : sumLim = 1099511627776 := rfl
  have hrl : rs.length = rows.length := by rw [← hrs, List.length_map]
  rw [hrl]
  exact join_fn w hrs hb (by omega) (by omega)


end Go.Proofs.YtabiknpgakhkkaaGreat.Sp
end

