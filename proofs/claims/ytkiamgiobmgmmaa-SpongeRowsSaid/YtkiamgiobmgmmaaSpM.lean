/-
  A secret's secret: the document's Derive and Join; the laws of deriving and of labels.
-/
import Derived.Test.YtkiamgiobmgmmaaSpL
import Derived.Test.YtkiamgiobmgmmaaSpI
import Derived.Test.YtkiamgiobmgmmaaSxK
namespace Go.Proofs.Ytkiamgiobmgmmaa.Sp
open Go.RowKit Go.Proofs.Ytkiamgiobmgmmaa.Sx
set_option linter.unusedVariables false

abbrev fRDer : Nat := 18
abbrev fJoin : Nat := 19

section
variable (hcs : List SC) (s : List UInt8) (off n : Nat) (b : Blk)
/-- What is appended, step by step. -/
def rdA : List SC := List.take (32 * 1) hcs
def rdAA : List SC := (rdA hcs).take ((0 + 32) * 1) ++ [.u8 (UInt8.ofInt s.length)]
def rdAS : List SC := (rdAA hcs s).take ((0 + 32 + 1) * 1) ++ (s.map SC.u8).take (s.length * 1)
def rdAL : List SC := (rdAS hcs s).take ((0 + 32 + 1 + s.length) * 1) ++ rd off n b
def rdN : Nat := 0 + 32 + 1 + s.length + n

theorem rder_run (w : World)
    (hok : bnd (bnd (bnd (bnd (bnd (bnd true (Nat.ble (0 + 32 * 1) hcs.length)) ((Nat.ble (0 + 32 * 1) hcs.length && true) && true)) (Nat.ble ((0 + 32) * 1) (rdA hcs).length))
      ((Nat.ble (0 + s.length * 1) (s.map SC.u8).length && true) && (Nat.ble (0 + 32 + 1 + s.length) maxLen && (Nat.ble ((0 + 32 + 1 + s.length) * 1) 140737488355328 && Nat.ble ((0 + 32 + 1) * 1) (rdAA hcs s).length))))
      ((Nat.ble (off + n * 1) b.cells.length && true) && (Nat.ble (rdN s n) maxLen && (Nat.ble (rdN s n * 1) 140737488355328 && Nat.ble ((0 + 32 + 1 + s.length) * 1) (rdAS hcs s).length))))
      ((Nat.ble (0 + rdN s n * 1) (rdAL hcs s off n b).length && true) && ((rd 0 (rdN s n) ⟨rdAL hcs s off n b, tB, true, true⟩).all SC.isU8 && Nat.ble (rdN s n) sumLim)) = true) :
    Sx.Fn Try.prog fRDer (atW w 0) [.agg hcs, .c (.str s), .c (.slc 0 off 1 n none)] [(0, some b)] 1 fun r _ => r = .agg (hc (sumS (rdB 0 (rdN s n) ⟨rdAL hcs s off n b, tB, true, true⟩))) :=
  Fn.xv (fuel := 1000) (told := []) (LibOK.cons rsum_ok (LibOK.nil _)) mixed (r := .agg (hc (sumS (rdB 0 (rdN s n) ⟨rdAL hcs s off n b, tB, true, true⟩)))) (obs := []) (by kernel_rfl) hok trivial rfl
end

theorem rdAL_eq {hs s bs : List UInt8} {off : Nat} {b : Blk} (h32 : hs.length = 32) (h : RowB off b bs) : rdAL (hs.map SC.u8) s off bs.length b = (hs ++ (UInt8.ofInt s.length :: (s ++ bs))).map SC.u8 := by
  unfold rdAL rdAS rdAA rdA
  rw [rd_eq h, own_take s]
  have e1 : List.take (32 * 1) (hs.map SC.u8) = hs.map SC.u8 := List.take_of_length_le (by simp [h32])
  have e2 : List.take ((0 + 32) * 1) (hs.map SC.u8) = hs.map SC.u8 := List.take_of_length_le (by simp [h32])
  rw [e1, e2]
  have e3 : List.take ((0 + 32 + 1) * 1) (hs.map SC.u8 ++ [SC.u8 (UInt8.ofInt s.length)]) = hs.map SC.u8 ++ [SC.u8 (UInt8.ofInt s.length)] := List.take_of_length_le (by simp [h32])
  rw [e3]
  have e4 : List.take ((0 + 32 + 1 + s.length) * 1) (hs.map SC.u8 ++ [SC.u8 (UInt8.ofInt s.length)] ++ s.map SC.u8) = hs.map SC.u8 ++ [SC.u8 (UInt8.ofInt s.length)] ++ s.map SC.u8 := List.take_of_length_le (by simp [h32]; omega)
  rw [e4]; simp
theorem rder_fn {w : World} {off : Nat} {b : Blk} {bs : List UInt8} (hs s : List UInt8) (h32 : hs.length = 32) (h : RowB off b bs) (hl : bs.length ≤ 1073741824) (hsl : s.length ≤ 1073741824) :
    Sx.Fn Try.prog fRDer (atW w 0) [.agg (hs.map SC.u8), .c (.str s), .c (.slc 0 off 1 bs.length none)] [(0, some b)] 1 fun r _ => r = .agg (hc (deriveS hs s bs)) := by
  have hS : sumLim = 1099511627776 := rfl
  have hM : maxLen = 9223372036854775807 := rfl
  have hN : rdN s bs.length = (hs ++ (UInt8.ofInt s.length :: (s ++ bs))).length := by simp [rdN, h32]; omega
  have := rder_run (hs.map SC.u8) s off bs.length b w ?_
  · rw [rdAL_eq h32 h, hN, rdB_own] at this; exact this
  · have hbl := h.len
    rw [rdAL_eq h32 h, hN, rd_own, isU8s]
    have l1 : (rdA (hs.map SC.u8)).length = 32 := by simp [rdA, h32]
    have l2 : (rdAA (hs.map SC.u8) s).length = 33 := by simp [rdAA, l1]
    have l3 : (rdAS (hs.map SC.u8) s).length = 33 + s.length := by simp [rdAS, l2]
    simp only [bnd_true, Bool.and_eq_true, Nat.ble_eq, and_true, true_and, List.length_map, List.length_append, List.length_cons, l1, l2, l3]
    omega
def rderC : Con := bytesConB 1073741824 derOk fun ps bs => match ps with
  | [.agg hcs, .c (.str s)] => some (.agg (hc (deriveS (hcs.map SC.asU8) s bs)))
  | _ => none
theorem rder_ok : ConOK Try.prog fRDer rderC := by
  refine bytesConB_ok (fn := Try.f18) (by kernel_rfl) rfl rfl fun ps bs v hok h => ?_
  split at h <;> try (cases h; done)
  rename_i hcs s
  simp only [Option.some.injEq] at h; subst h
  simp only [derOk, Bool.and_eq_true, Nat.ble_eq] at hok
  obtain ⟨h32, hu, hsl⟩ := hok
  have h32 := Nat.eq_of_beq_eq_true h32
  refine ⟨rfl, fun w off b hb h1 => ?_⟩
  have := rder_fn (w := w) (hcs.map SC.asU8) s (by simpa using h32) hb h1 hsl
  rw [u8s_back hu] at this
  exact this

/-! Rows, one behind the other. -/
section
variable (off n : Nat) (b : Blk)
def joinI (a : Int × Nat × List SC) : St := ⟨[(0, .c (.slc 0 off 1 n none)), (3, .c (.slc 1 0 1 a.2.1 none)), (4, .c (.int a.1))], [(0, some b), (1, some ⟨a.2.2, tB, true, true⟩)], 2, 18⟩
def joinT (cs : List SC) : Tab := [(0, some b), (1, some ⟨cs, tB, true, true⟩)]
def joinE (i : Int) : SV := .c (b.cells.getD (off + i.toNat * 1) .nilp)
end
def joinCut (j : Nat) : Cut := ⟨[(0, false), (3, false), (4, true)], [(0, 0, true), (j, 1, true)], 2⟩

theorem join_fn {rows : List (List UInt8)} (w : World) {off : Nat} {b : Blk} {rs : List (Value × List UInt8)} (hrs : rs.map (·.2) = rows) (h : RowsB w off b rs) (hl : rows.length ≤ sumLim) (hf : rows.flatten.length ≤ sumLim) :
    Sx.Fn Try.prog fJoin (atW w 0) [.c (.slc 0 off 1 rows.length none)] [(0, some b)] 1 fun r T => ∃ k, r = .c (.slc k 0 1 rows.flatten.length none) ∧ T.blk k = some ⟨rows.flatten.map SC.u8, tB, true, true⟩ := by
  have hS : sumLim = 1099511627776 := rfl
  have hM : maxLen = 9223372036854775807 := rfl
  have hpl := h.plain
  have hrl : rs.length = rows.length := by rw [← hrs, List.length_map]
  refine Sx.Fn.of (nt := 18) (by kernel_rfl) rfl ?_
  refine SWs.step (LibOK.nil _) mixed (fuel := 1000) (n := 3) (told := []) (un := [(3, 1, tB)]) (c := joinCut 13) (t := joinI off rows.length b (0, 0, [])) (ob := bnd true (b.cells.all SC.plain && true)) (obs := []) (by kernel_rfl) (by simp [bnd_true, hpl]) trivial ?_
  refine SWs.loop (by kernel_rfl) (joinI off rows.length b) (fun a => (rows.length - a.1).toNat) (fun a => ∃ n : Nat, a.1 = n ∧ n ≤ rows.length ∧ a.2.1 = (gone rows n).length ∧ a.2.2 = (gone rows n).map SC.u8) (0, 0, []) ⟨0, rfl, by omega, rfl, rfl⟩ ?_
  rintro ⟨i, l, cs⟩ ⟨n, hn, hle, hl1, hcs⟩
  simp only at hn hl1 hcs
  subst hn hl1 hcs
  have hpa := plainU8 (gone rows n)
  by_cases hlt : n < rows.length
  · have hg : joinE off b n = .c (.row rows[n] (rs[n]'(by omega)).1) := by
      unfold joinE
      rw [Int.toNat_natCast, Nat.mul_one, rows_get h (by omega)]
      congr 2
      subst hrs; simp
    generalize (rs[n]'(by omega)).1 = u at hg
    have hgl := gone_le (rows := rows) (n + 1)
    rw [gone_succ hlt, List.length_append] at hgl
    have hbl := h.len
    refine SWs.round (LibOK.nil _) mixed (fuel := 1000) (n := 4) (told := [true]) (un := []) (c := joinCut 38) (t := joinI off rows.length b (IntKind.i64.wrap (n + 1), (gone rows n).length + srcN (joinE off b n), ((gone rows n).map SC.u8).take ((gone rows n).length * 1) ++ srcC (joinT b ((gone rows n).map SC.u8)) (joinE off b n)))
      (ob := bnd (bnd (bnd (bnd (bnd true (decide ((n : Int) < rows.length))) (decide (0 ≤ (n : Int)) && (Nat.blt (n : Int).toNat rows.length && true))) (Nat.blt (off + (n : Int).toNat * 1) b.cells.length && true))
        (srcOk (joinT b ((gone rows n).map SC.u8)) 1 (joinE off b n) && (Nat.ble ((gone rows n).length + srcN (joinE off b n)) maxLen && (Nat.ble (((gone rows n).length + srcN (joinE off b n)) * 1) 140737488355328 && Nat.ble ((gone rows n).length * 1) ((gone rows n).map SC.u8).length))))
        ((b.cells.all SC.plain) && ((((gone rows n).map SC.u8).take ((gone rows n).length * 1) ++ srcC (joinT b ((gone rows n).map SC.u8)) (joinE off b n)).all SC.plain && true))) (obs := []) (by kernel_rfl) (by kernel_rfl) ?_ trivial ?_
    · rw [hg]
      simp only [srcN, srcC, srcOk]
      rw [own_take, ← List.map_append, plainU8, hpl]
      simp only [bnd_true, Bool.and_eq_true, Nat.ble_eq, Nat.blt_eq, decide_eq_true_eq, List.length_map, and_true, true_and, Nat.beq_refl, Int.toNat_natCast]
      omega
    · rw [hg]
      simp only [srcN, srcC]
      rw [own_take, ← List.map_append]
      have hw : IntKind.i64.wrap ((n : Int) + 1) = ((n + 1 : Nat) : Int) := wrap_succ (by omega)
      refine ⟨_, ⟨n + 1, hw, by omega, ?_, ?_⟩, ?_, rfl⟩
      · rw [gone_succ hlt, List.length_append]
      · rw [gone_succ hlt]
      · simp only [hw]; omega
  · have he : n = rows.length := by omega
    subst he
    have hg : gone rows rows.length = rows.flatten := by simp [gone]
    refine SWs.out (LibOK.nil _) mixed (fuel := 1000) (n := 2) (told := [false]) (un := []) (c := joinCut 1) (t := joinI off rows.length b ((rows.length : Int), (gone rows rows.length).length, (gone rows rows.length).map SC.u8))
      (ob := bnd (bnd true (!decide ((rows.length : Int) < rows.length))) ((b.cells.all SC.plain) && (((gone rows rows.length).map SC.u8).all SC.plain && true))) (obs := []) (by kernel_rfl) (by simp only [hpl, hpa]; simp [bnd_true]) trivial ?_
    rw [hg]
    exact SWs.fin (LibOK.nil _) mixed (fuel := 1000) (n := 100) (told := []) (ob := true) (obs := []) (v := .c (.slc 1 0 1 rows.flatten.length none)) (T := joinT b (rows.flatten.map SC.u8)) (by kernel_rfl) rfl trivial ⟨1, rfl, rfl⟩

def joinC : Con := rowsNew 1073741824 tB (fun _ => true) fun ps rows => match ps with | [] => some rows.flatten | _ => none
theorem join_ok : ConOK Try.prog fJoin joinC := by
  refine rowsNew_ok (fn := Try.f19) (by kernel_rfl) rfl rfl fun ps rows bs _ h => ?_
  split at h <;> try (cases h; done)
  simp only [Option.some.injEq] at h; subst h
  intro w off b rs hrs hb h1 h2
  have hS : sumLim = 1099511627776 := rfl
  have hrl : rs.length = rows.length := by rw [← hrs, List.length_map]
  rw [hrl]
  exact join_fn w hrs hb (by omega) (by omega)

/-! The laws of labels and of deriving. -/
theorem der_lib : LibOK Try.prog [(fKnown, knownC), (fSum, sumC), (fDer, derC), (fRDer, rderC), (fJoin, joinC)] := LibOK.cons known_ok (LibOK.cons sum_ok (LibOK.cons der_ok (LibOK.cons rder_ok (LibOK.cons join_ok (LibOK.nil _)))))
def labA (hcs : List SC) : List SC := List.take 32 hcs
def labG (s : List UInt8) : Bool := decide ((s.length : Int) > 20)
def labR (hcs : List SC) (s : List UInt8) (off n : Nat) (b : Blk) : List (List UInt8) := [rdB 0 32 ⟨hcs, 0, true, true⟩, [UInt8.ofInt s.length], rdB 0 s.length ⟨s.map SC.u8, 0, true, true⟩, rdB off n b]
def labE (hcs : List SC) (s : List UInt8) (off n : Nat) (b : Blk) : Bool := eqH (deriveS ((labA hcs).map SC.asU8) s [rdB off n b].flatten) (sumS (labR hcs s off n b).flatten)
def labOb (hcs : List SC) (s : List UInt8) (off n : Nat) (b : Blk) : Bool :=
  bnd (bnd (bnd (bnd (bnd (bnd (bnd (bnd (bnd true (labG s == false && true)) (labG s == false && true)) (labG s == false && true)) (!(bif labG s then true else decide ((n : Int) > 500))))
   (Nat.ble (0 + 32) hcs.length))
   (((labA hcs).all SC.sole && true) && ((Nat.beq (labA hcs).length 32 && ((labA hcs).all SC.isU8 && Nat.ble s.length 1073741824)) && ((((Nat.ble (off + n * 1) b.cells.length && true) && (rd off n b).all SC.isU8) && true) && Nat.ble ([rdB off n b].flatten).length 1073741824))))
   (Nat.ble (0 + 32 * 1) hcs.length))
   ((((Nat.ble (0 + 32 * 1) hcs.length && true) && ((List.take (32 * 1) hcs)).all SC.isU8) && (((Nat.ble (0 + s.length * 1) (s.map SC.u8).length && true) && (List.take (s.length * 1) (s.map SC.u8)).all SC.isU8) && (((Nat.ble (off + n * 1) b.cells.length && true) && (rd off n b).all SC.isU8) && true))) && Nat.ble ((labR hcs s off n b).flatten).length sumLim))
   (labE hcs s off n b == true && true)

theorem labA_eq {hs : List UInt8} (h : hs.length = 32) : labA (hs.map SC.u8) = hs.map SC.u8 := List.take_of_length_le (by simp [h])
theorem soleU8 (l : List UInt8) : (l.map SC.u8).all SC.sole = true := by
  rw [List.all_eq_true]
  intro y hy
  obtain ⟨_, _, rfl⟩ := List.mem_map.1 hy; rfl
theorem rd32 {hs : List UInt8} (h : hs.length = 32) (x y : Bool) (t : TypeId) : rdB 0 32 ⟨hs.map SC.u8, t, x, y⟩ = hs := by
  have := rdB_own hs t x y
  rw [h] at this; exact this
theorem labE_eq {hs s bs : List UInt8} {off : Nat} {b : Blk} (h32 : hs.length = 32) (h : RowB off b bs) : labE (hs.map SC.u8) s off bs.length b = true := by
  unfold labE labR
  rw [labA_eq h32, rdB_eq h, rd32 h32, rdB_own, asU8s]
  have : deriveS hs s [bs].flatten = sumS [hs, [UInt8.ofInt s.length], s, bs].flatten := by
    unfold deriveS; simp
  rw [this]; exact eqH_self _

theorem spongeLabels_fn (hs s : List UInt8) {bs : List UInt8} (w : World) (h32 : hs.length = 32) {off : Nat} {b : Blk} (h : RowB off b bs) : Sx.Fn Try.prog 11 (atW w 0) [.agg (hs.map SC.u8), .c (.str s), .c (.slc 0 off 1 bs.length none)] [(0, some b)] 1 fun r _ => r = .c (.bool true) := by
  have hS : sumLim = 1099511627776 := rfl
  by_cases hA : (s.length : Int) > 20
  · have hG : labG s = true := by simp [labG]; omega
    exact Fn.xv (fuel := 1000) (told := [true, true]) der_lib mixed (r := .c (.bool true)) (ob := bnd (bnd (bnd (bnd true (labG s == true && true)) (labG s == true && true)) (labG s == true && true)) (labG s)) (obs := []) (by kernel_rfl) (by rw [hG]; rfl) trivial rfl
  have hG : labG s = false := by simp [labG]; omega
  by_cases hB : (bs.length : Int) > 500
  · exact Fn.xv (fuel := 1000) (told := [false, true]) der_lib mixed (r := .c (.bool true)) (ob := bnd (bnd (bnd (bnd true (labG s == false && true)) (labG s == false && true)) (labG s == false && true)) (bif labG s then true else decide ((bs.length : Int) > 500))) (obs := []) (by kernel_rfl) (by rw [hG]; simp only [cond_false, decide_eq_true hB]; rfl) trivial rfl
  have hE := labE_eq (s := s) h32 h
  refine Fn.xv (fuel := 1000) (told := [false, false, true]) der_lib mixed (r := .c (.bool (bif labE (hs.map SC.u8) s off bs.length b then true else false))) (ob := labOb (hs.map SC.u8) s off bs.length b) (obs := []) (by kernel_rfl) ?_ trivial (by rw [hE]; rfl)
  have hl := h.len
  unfold labOb
  rw [hE, hG, labA_eq h32, rd_eq h, rdB_eq h, soleU8, isU8s, own_take, isU8s]
  unfold labR
  rw [rd32 h32, rdB_own, rdB_eq h]
  have e1 : (List.take (32 * 1) (hs.map SC.u8)).all SC.isU8 = true := by rw [show List.take (32 * 1) (hs.map SC.u8) = hs.map SC.u8 from labA_eq h32]; exact isU8s hs
  rw [e1]
  simp only [bnd_true, Bool.and_eq_true, Nat.ble_eq, and_true, true_and, List.length_map, h32, hS, cond_false, Bool.not_eq_true', decide_eq_false_iff_not, beq_self_eq_true, Nat.beq_refl, List.flatten_cons, List.flatten_nil, List.length_append, List.length_nil, List.length_cons, isU8s]

  omega

section
variable (hcs : List SC) (s : List UInt8) (off n : Nat) (b : Blk) (off' n' : Nat) (b' : Blk)
def dvF : List UInt8 := [rdB off n b, rdB off' n' b'].flatten
def dvB : Blk := ⟨(dvF off n b off' n' b').map SC.u8, 0, true, true⟩
def dvN : Nat := (dvF off n b off' n' b').length
def dvG : Bool := bif labG s then true else decide (IntKind.i64.wrap ((n : Int) + n') > 1000)
def dvOk (acc : Bool) : Bool := bnd (bnd (bnd (bnd (bnd (bnd (bnd true (labG s == false && true)) (labG s == false && true)) (labG s == false && true)) (labG s == false && true)) (labG s == false && true)) (labG s == false && true)) acc
def dvHs : Bool := ((labA hcs).all SC.sole && true)
def dvH : Bool := (Nat.beq (labA hcs).length 32 && ((labA hcs).all SC.isU8 && Nat.ble s.length 1073741824))
def dvR : Bool := ((Nat.ble (off + n * 1) b.cells.length && true) && (rd off n b).all SC.isU8) && (((Nat.ble (off' + n' * 1) b'.cells.length && true) && (rd off' n' b').all SC.isU8) && true)
def dvE : Bool := eqH (deriveS ((labA hcs).map SC.asU8) s (dvF off n b off' n' b')) (deriveS ((labA hcs).map SC.asU8) s (rdB 0 (dvN off n b off' n' b') (dvB off n b off' n' b')))
def dvOb : Bool :=
  bnd (bnd (bnd (bnd (bnd (bnd (dvOk s (!dvG s n n')) (Nat.ble (0 + 32) hcs.length)) (dvHs hcs && (dvH hcs s && (dvR off n b off' n' b' && Nat.ble (dvN off n b off' n' b') 1073741824)))) (Nat.ble (0 + 32) hcs.length)) (dvR off n b off' n' b' && Nat.ble (dvN off n b off' n' b') 1073741824))
   (dvHs hcs && (dvH hcs s && ((Nat.ble (0 + dvN off n b off' n' b' * 1) (dvB off n b off' n' b').cells.length && true) && ((rd 0 (dvN off n b off' n' b') (dvB off n b off' n' b')).all SC.isU8 && Nat.ble (dvN off n b off' n' b') 1073741824)))))
   (dvE hcs s off n b off' n' b' == true && true)
end

theorem spongeDerives_fn (hs s : List UInt8) {xs bs : List UInt8} (w : World) (h32 : hs.length = 32) {off : Nat} {b : Blk} (h : RowB off b xs) {off' : Nat} {b' : Blk} (h' : RowB off' b' bs) (hb1 : xs.length ≤ 140737488351232) (hb2 : bs.length ≤ 140737488351232) : Sx.Fn Try.prog 9 (atW w 0) [.agg (hs.map SC.u8), .c (.str s), .c (.slc 0 off 1 xs.length none), .c (.slc 1 off' 1 bs.length none)] [(0, some b), (1, some b')] 2 fun r _ => r = .c (.bool true) := by
  have hS : sumLim = 1099511627776 := rfl
  have hbl := h.len
  have hbl' := h'.len
  by_cases hA : (s.length : Int) > 20
  · have hG : labG s = true := by simp [labG]; omega
    exact Fn.xv (fuel := 1000) (told := [true, true]) der_lib mixed (r := .c (.bool true)) (ob := bnd (bnd (bnd (bnd (bnd (bnd (bnd true (labG s == true && true)) (labG s == true && true)) (labG s == true && true)) (labG s == true && true)) (labG s == true && true)) (labG s == true && true)) (labG s)) (obs := []) (by kernel_rfl) (by rw [hG]; rfl) trivial rfl
  have hG : labG s = false := by simp [labG]; omega
  have hO : dvOk s true = true := by unfold dvOk; rw [hG]; rfl
  cases hd : dvG s xs.length bs.length with
  | true => exact Fn.xv (fuel := 1000) (told := [false, true]) der_lib mixed (r := .c (.bool true)) (ob := dvOk s (dvG s xs.length bs.length)) (obs := []) (by kernel_rfl) (by rw [hd]; exact hO) trivial rfl
  | false =>
  have hF : dvF off xs.length b off' bs.length b' = xs ++ bs := by unfold dvF; rw [rdB_eq h, rdB_eq h']; simp
  have hE : dvE (hs.map SC.u8) s off xs.length b off' bs.length b' = true := by
    unfold dvE dvN dvB
    rw [hF, rdB_own]; exact eqH_self _
  refine Fn.xv (fuel := 1000) (told := [false, false, true]) der_lib mixed (r := .c (.bool (bif dvE (hs.map SC.u8) s off xs.length b off' bs.length b' then true else false))) (ob := dvOb (hs.map SC.u8) s off xs.length b off' bs.length b') (obs := []) (by kernel_rfl) ?_ trivial (by rw [hE]; rfl)
  have hlen : xs.length + bs.length ≤ 1000 := by
    simp only [dvG, hG, cond_false, decide_eq_false_iff_not] at hd
    rw [wrap_id (by omega) (by omega)] at hd; omega
  unfold dvOb
  rw [hE, hd]
  unfold dvHs dvH dvR dvN dvB
  rw [hF, labA_eq h32, rd_eq h, rd_eq h', soleU8, isU8s, isU8s, isU8s, rd_own, isU8s]
  simp only [Bool.not_false, hO, bnd_true, Bool.and_eq_true, Nat.ble_eq, and_true, true_and, List.length_map, h32, hS, beq_self_eq_true, Nat.beq_refl, List.length_append, List.length_cons]
  simp only [labG, decide_eq_false_iff_not] at hG
  omega

end Go.Proofs.Ytkiamgiobmgmmaa.Sp
