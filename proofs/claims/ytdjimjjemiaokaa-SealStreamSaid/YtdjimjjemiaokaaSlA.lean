/-
  What Go's library does with rows of bytes: Clone, Equal, Grow, Concat.
-/
import Derived.Test.YtdjimjjemiaokaaSxY
import Derived.Test.YtdjimjjemiaokaaSxT
import Derived.Test.YtdjimjjemiaokaaSpT
import Derived.Test.YtdjimjjemiaokaaSpL
namespace Go.Proofs.Ytdjimjjemiaokaa.Sl
open Go.RowKit Go.Proofs.Ytdjimjjemiaokaa.Sx
open Go.Proofs.Ytdjimjjemiaokaa.Sp (rd rdB rd_eq rdB_eq rd_own rdB_own hc deriveS isU8s asU8s tB mixed own_take)
set_option linter.unusedVariables false

def tg (acc c t : Bool) : Bool := bnd acc (c == t && true)
def ty_ (acc c : Bool) : Bool := bnd acc c
def tn (acc c : Bool) : Bool := bnd acc (!c)
theorem tg_eq {acc c t : Bool} (h : acc = true) (hc : c = t) : tg acc c t = true := by subst h hc; cases c <;> rfl
theorem ty_eq {acc c : Bool} (h : acc = true) (hc : c = true) : ty_ acc c = true := by subst h hc; rfl
theorem tn_eq {acc c : Bool} (h : acc = true) (hc : c = false) : tn acc c = true := by subst h hc; rfl

def rowO (bs : List UInt8) : RowO := ⟨⟨bs.map SC.u8, tB, true, true⟩, bs.length, none, none⟩
theorem rowO_ok (bs : List UInt8) : (rowO bs).ok = true := by
  unfold rowO RowO.ok
  have : (bs.map SC.u8).all SC.sole = true := by rw [List.all_eq_true]; intro x hx; obtain ⟨_, _, rfl⟩ := List.mem_map.1 hx; rfl
  simp [this]

/-! Clone. -/
abbrev fClone : Nat := 43
theorem ble_of {a b : Nat} (h : a ≤ b) : Nat.ble a b = true := by rw [Nat.ble_eq]; exact h
theorem clone_fn (bs : List UInt8) (hl : bs.length ≤ 1000000) (w : World) (a : Option Addr) (c : Nat) (ha : a = none → bs = []) : Sx.Fn Try.prog fClone (atW w 0) [.c (.row bs (.slice a bs.length c))] [] 0 fun r T => (rowO bs).is r T := by
  cases a with
  | none =>
    obtain rfl := ha rfl
    exact Fn.xL (fuel := 1000) (LibOK.nil _) mixed [] (r := .c .nils) (T' := []) (ob := true) (obs := []) (by kernel_rfl) rfl trivial (Or.inr ⟨rfl, rfl, rfl, rfl, rfl⟩)
  | some a =>
    have := Fn.xtL (X := atW w 0) (fuel := 1000) (f := fClone) (LibOK.nil _) mixed (args := [.c (.row bs (.slice (some a) bs.length c))]) (T := []) (nk := 0) [] (r := .c (.slc 20 0 1 (0 + bs.length) none))
      (ob := bnd true (Nat.ble (0 + bs.length) 9223372036854775807 && (Nat.ble ((0 + bs.length) * 1) 140737488355328 && true))) (obs := []) (k := 20) (b := some ⟨[] ++ bs.map SC.u8, tB, true, true⟩) (by kernel_rfl) (by rw [ble_of (by omega), ble_of (by omega)]; rfl) trivial
    exact fun ρ w vs h1 h2 h3 => (this ρ w vs h1 h2 h3).mono fun e w' ⟨u, v, T', ρ', he, ⟨hv, hT⟩, h4⟩ => ⟨u, v, T', ρ', he, .inl ⟨20, by rw [hv, Nat.zero_add]; rfl, hT⟩, h4⟩
def cloneC : Con := gNew [true] 1000000 fun ps rs => match ps, rs with | [], [bs] => some (true, rowO bs) | _, _ => none
theorem clone_ok : ConOK Try.prog fClone cloneC :=
  gNew1_ok (fn := Try.f43) (by kernel_rfl) rfl rfl fun bs o h hl w a c ha => by
    simp only [Option.some.injEq, Prod.mk.injEq, true_and] at h; subst h
    exact clone_fn bs hl w a c ha

/-! Grow, of nil. -/
abbrev fGrow : Nat := 44
def growO (n : Int) : RowO := ⟨⟨List.replicate n.toNat (.u8 0), tB, true, true⟩, 0, none, none⟩
theorem grow_fn (n : Int) (h0 : 0 ≤ n) (h1 : n ≤ 1000000) (w : World) : Sx.Fn Try.prog fGrow (atW w 0) [.c .nils, .c (.int n)] [] 0 fun r T => (growO n).is r T := by
  have hw : IntKind.i64.wrap (n - 0) = n := by rw [IntKind.wrap_i64]; omega
  by_cases hn : n = 0
  · subst hn
    exact Fn.xL (fuel := 1000) (LibOK.nil _) mixed [] (r := .c .nils) (T' := []) (ob := true) (obs := []) (by kernel_rfl) rfl trivial (Or.inr ⟨rfl, rfl, rfl, rfl, rfl⟩)
  · have := Fn.xtL (X := atW w 0) (fuel := 1000) (f := fGrow) (LibOK.nil _) mixed (args := [.c .nils, .c (.int n)]) (T := []) (nk := 0) [false, true] (r := .c (.slc 72 0 1 0 none))
      (ob := bnd (bnd (tn true (decide (n < 0))) (decide (IntKind.i64.wrap (n - 0) > 0))) (decide (0 < IntKind.i64.wrap (n - 0)) && decide (IntKind.i64.wrap (n - 0) * 1 ≤ 140737488355328) && decide (IntKind.i64.wrap (n - 0) ≤ 9223372036854775807))) (obs := []) (k := 72)
      (b := some ⟨List.replicate ((IntKind.i64.wrap (n - 0)).toNat * 1) (.u8 0), tB, true, true⟩) (by kernel_rfl) (by rw [hw, decide_eq_false (show ¬ n < 0 by omega), decide_eq_true (show n > 0 by omega), decide_eq_true (show n * 1 ≤ 140737488355328 by omega), decide_eq_true (show n ≤ 9223372036854775807 by omega)]; rfl) trivial
    rw [hw, Nat.mul_one] at this
    exact fun ρ w vs h1 h2 h3 => (this ρ w vs h1 h2 h3).mono fun e w' ⟨u, v, T', ρ', he, ⟨hv, hT⟩, h4⟩ => ⟨u, v, T', ρ', he, .inl ⟨72, by rw [hv]; rfl, hT⟩, h4⟩
def growC : Con := gNew [false, false] 0 fun ps rs => match ps, rs with | [.c .nils, .c (.int n)], [] => some (decide (0 ≤ n) && decide (n ≤ 1000000), growO n) | _, _ => none
theorem grow_ok : ConOK Try.prog fGrow growC := by
  refine gNew_ok (fn := Try.f44) (by kernel_rfl) rfl rfl fun ps rs o h hs hl w rb hrb => ?_
  split at h <;> try (cases h; done)
  rename_i n
  simp only [Option.some.injEq, Prod.mk.injEq, Bool.and_eq_true, decide_eq_true_eq] at h
  obtain ⟨⟨h0, h1⟩, rfl⟩ := h
  cases hrb
  exact grow_fn n h0 h1 w

/-! Equal. -/
abbrev fEqual : Nat := 32
def ldU (off : Nat) (b : Blk) (i : Int) : UInt8 := (b.cells.getD (off + i.toNat * 1) .nilp).asU8
def ldOk (off n : Nat) (b : Blk) (i : Int) (acc : Bool) : Bool := bnd (bnd acc (decide (0 ≤ i) && (Nat.blt i.toNat n && true))) (Nat.blt (off + i.toNat * 1) b.cells.length && (b.cells.getD (off + i.toNat * 1) .nilp).isU8)
theorem ldU_eq {off : Nat} {b : Blk} {bs : List UInt8} (h : RowB off b bs) {i : Nat} (hi : i < bs.length) : ldU off b i = bs.getD i 0 := by
  unfold ldU
  rw [Int.toNat_natCast, Nat.mul_one, row_get h hi]; rfl
theorem ldOk_eq {off : Nat} {b : Blk} {bs : List UInt8} (h : RowB off b bs) {i : Nat} (hi : i < bs.length) {acc : Bool} (ha : acc = true) : ldOk off bs.length b i acc = true := by
  have hl := h.len
  unfold ldOk
  rw [Int.toNat_natCast, Nat.mul_one, row_get h hi, ha, show Nat.blt i bs.length = true by rw [Nat.blt_eq]; exact hi, show Nat.blt (off + i) b.cells.length = true by rw [Nat.blt_eq]; omega]
  simp [bnd, SC.isU8]
section
variable (o1 n1 o2 n2 : Nat) (b1 b2 : Blk)
def eqI (i : Int) : St := ⟨[(0, .c (.slc 0 o1 1 n1 none)), (1, .c (.slc 1 o2 1 n2 none)), (12, .c (.int n1)), (13, .c (.int i))], [(0, some b1), (1, some b2)], 2, 26⟩
def eqCut : Cut := ⟨[(0,false),(1,false),(12,true),(13,true)], [(0,0,true),(1,1,true)], 2⟩
def plainOk : Bool := b1.cells.all SC.plain && (b2.cells.all SC.plain && true)
def eqLd (i : Int) : Bool := ldOk o2 n2 b2 i (ldOk o1 n1 b1 i (ty_ true (decide (i < (n1 : Int)))))
theorem eq_0 : stepL Try.prog [] 0 1000 4 (bodyOf Try.prog fEqual) ⟨argTmps [.c (.slc 0 o1 1 n1 none), .c (.slc 1 o2 1 n2 none)] 0, [(0, some b1), (1, some b2)], 2, 26⟩ [false] [] eqCut = some (bnd (tn true ((n1 : Int) != n2)) (plainOk b1 b2), [], eqI o1 n1 o2 n2 b1 b2 0) := by kernel_rfl
theorem eq_1 (i : Int) : stepL Try.prog [] 0 1000 4 (loopB ((bodyOf Try.prog fEqual).drop 4)) (eqI o1 n1 o2 n2 b1 b2 i) [true, false] [] eqCut = some (bnd (tn (eqLd o1 n1 o2 n2 b1 b2 i) (ldU o1 b1 i != ldU o2 b2 i)) (plainOk b1 b2), [], eqI o1 n1 o2 n2 b1 b2 (IntKind.i64.wrap (i + 1))) := by kernel_rfl
theorem eq_2 (i : Int) : retL Try.prog [] fEqual 1000 4 (loopB ((bodyOf Try.prog fEqual).drop 4)) (eqI o1 n1 o2 n2 b1 b2 i) [true, true] = some (ty_ (eqLd o1 n1 o2 n2 b1 b2 i) (ldU o1 b1 i != ldU o2 b2 i), [], .c (.bool false)) := by kernel_rfl
end
theorem wrap_id {n : Int} (h0 : 0 ≤ n) (h1 : n ≤ 4611686018427387904) : IntKind.i64.wrap n = n := by rw [IntKind.wrap_i64]; omega
theorem equal_fn {a b : List UInt8} {o1 o2 : Nat} {b1 b2 : Blk} (ha : RowB o1 b1 a) (hb : RowB o2 b2 b) (hl : a.length ≤ 1000000) (w : World) : Sx.Fn Try.prog fEqual (atW w 0) [.c (.slc 0 o1 1 a.length none), .c (.slc 1 o2 1 b.length none)] [(0, some b1), (1, some b2)] 2 fun r _ => r = .c (.bool (a == b)) := by
  cases hn : (a.length : Int) != b.length with
  | true =>
    have hne : (a == b) = false := by
      rw [beq_eq_false_iff_ne]
      intro e; subst e; simp at hn
    rw [hne]
    exact Fn.xvL (fuel := 1000) (LibOK.nil _) mixed [true] (ob := ty_ true ((a.length : Int) != b.length)) (obs := []) (r := .c (.bool false)) (by kernel_rfl) (ty_eq rfl hn) trivial rfl
  | false =>
  have hll : a.length = b.length := by have : (a.length : Int) = b.length := by simpa using hn
                                       omega
  have hp : plainOk b1 b2 = true := by unfold plainOk; rw [ha.plain, hb.plain]; rfl
  refine Sx.Fn.of (nt := 26) (by kernel_rfl) rfl ?_
  refine SWs.stepL (LibOK.nil _) mixed [false] (eq_0 o1 a.length o2 b.length b1 b2) (by rw [hp]; exact tn_eq rfl hn) trivial ?_
  refine SWs.loop (by kernel_rfl) (fun i : Nat => eqI o1 a.length o2 b.length b1 b2 i) (fun i => a.length - i) (fun i => i ≤ a.length ∧ a.take i = b.take i) 0 ⟨by omega, rfl⟩ ?_
  rintro i ⟨hi, ht⟩
  by_cases hlt : i < a.length
  · have hld : eqLd o1 a.length o2 b.length b1 b2 i = true := ldOk_eq hb (by omega) (ldOk_eq ha hlt (ty_eq rfl (by simpa using hlt)))
    cases hx : ldU o1 b1 i != ldU o2 b2 i with
    | true =>
      refine SWs.retR (LibOK.nil _) mixed [true, true] (eq_2 o1 a.length o2 b.length b1 b2 i) (ty_eq hld hx) trivial fun _ => ?_
      have hne : (a == b) = false := by
        rw [beq_eq_false_iff_ne]
        intro e; subst e
        rw [ldU_eq ha hlt, ldU_eq hb hlt] at hx; simp at hx
      rw [hne]
    | false =>
      have hw : IntKind.i64.wrap ((i : Int) + 1) = ((i + 1 : Nat) : Int) := by rw [wrap_id (by omega) (by omega)]; omega
      refine SWs.roundL (LibOK.nil _) mixed [true, false] (eq_1 o1 a.length o2 b.length b1 b2 i) rfl (by rw [hp]; exact tn_eq hld hx) trivial ⟨i + 1, ⟨by omega, ?_⟩, by omega, by rw [hw]⟩
      rw [ldU_eq ha hlt, ldU_eq hb (by omega)] at hx
      have hx : a.getD i 0 = b.getD i 0 := by simpa using hx
      rw [List.take_succ_eq_append_getElem hlt, List.take_succ_eq_append_getElem (by omega), ht]
      simp only [List.getD, List.getElem?_eq_getElem hlt, List.getElem?_eq_getElem (show i < b.length by omega), Option.getD_some] at hx
      rw [hx]
  · obtain rfl : i = a.length := by omega
    refine SWs.outL (LibOK.nil _) mixed (fuel := 1000) (n := 4) [false] (un := []) (c := ⟨[], [], 2⟩) (t := ⟨[], [], 2, 26⟩) (ob := tn true (decide ((a.length : Int) < (a.length : Int)))) (obs := []) (by kernel_rfl) (tn_eq rfl (by simp)) trivial ?_
    have he : (a == b) = true := by
      rw [beq_iff_eq]
      rw [List.take_length, hll, List.take_length] at ht
      exact ht
    rw [he]
    exact SWs.finvL (LibOK.nil _) mixed (fuel := 1000) (n := 100) [] (ob := true) (obs := []) (v := .c (.bool true)) (by kernel_rfl) rfl trivial rfl
def equalC : Con := gVal [true, true] 1000000 fun ps rs => match ps, rs with | [], [a, b] => some (true, .c (.bool (a == b))) | _, _ => none
theorem equal_ok : ConOK Try.prog fEqual equalC := by
  refine gVal_ok (fn := Try.f32) (by kernel_rfl) rfl rfl fun ps rs v h hs hl => ?_
  split at h <;> try (cases h; done)
  rename_i a b
  simp only [Option.some.injEq, Prod.mk.injEq, true_and] at h; subst h
  refine ⟨rfl, fun w rb hrb => ?_⟩
  cases hrb with
  | @cons r1 _ _ _ h1 hrb =>
  cases hrb with
  | @cons r2 _ _ _ h2 hrb =>
  cases hrb
  obtain ⟨o1, n1, b1⟩ := r1
  obtain ⟨o2, n2, b2⟩ := r2
  obtain ⟨e1, h1⟩ := h1
  obtain ⟨e2, h2⟩ := h2
  simp only at e1 e2 h1 h2
  subst e1 e2
  exact equal_fn h1 h2 (hl a (by simp)) w

/-! Concat. -/
abbrev fConcat : Nat := 25
def coLib : List (Nat × Con) := [(fGrow, growC)]
theorem coLib_ok : LibOK Try.prog coLib := LibOK.cons grow_ok (LibOK.nil _)
section
variable (off n : Nat) (b : Blk)
def elC (i : Int) : SV := .c (b.cells.getD (off + i.toNat * 1) .nilp)
def coI (i s : Int) : St := ⟨[(0, .c (.slc 0 off 1 n none)), (3, .c (.int s)), (9, .c (.slc 0 off 1 n none)), (10, .c (.int n)), (11, .c (.int i))], [(0, some b)], 1, 36⟩
def coCut : Cut := ⟨[(0,false),(3,true),(9,false),(10,true),(11,true)], [(0,0,true)], 1⟩
def coJ (s : Int) : St := ⟨[(0, .c (.slc 0 off 1 n none)), (3, .c (.int s))], [(0, some b)], 1, 36⟩
def cpI (i : Int) (l : Nat) (cs : List SC) : St := ⟨[(6, .c (.slc 1 0 1 l none)), (25, .c (.slc 0 off 1 n none)), (26, .c (.int n)), (27, .c (.int i))], [(0, some b), (1, some ⟨cs, tB, true, true⟩)], 2, 36⟩
def cpCut (j : Nat) : Cut := ⟨[(6,false),(25,false),(26,true),(27,true)], [(0,0,true), (j,1,true)], 2⟩
def cpT (cs : List SC) : Tab := [(0, some b), (1, some ⟨cs, tB, true, true⟩)]
def cpF (l : Nat) (cs : List SC) : St := ⟨[(6, .c (.slc 1 0 1 l none))], [(1, some ⟨cs, tB, true, true⟩)], 2, 36⟩
def elRd (i : Int) : Bool := bnd (bnd (ty_ true (decide (i < (n : Int)))) (decide (0 ≤ i) && (Nat.blt i.toNat n && true))) (Nat.blt (off + i.toNat * 1) b.cells.length && true)
theorem co_0 : stepL Try.prog coLib 0 1000 3 (bodyOf Try.prog fConcat) ⟨argTmps [.c (.slc 0 off 1 n none)] 0, [(0, some b)], 1, 36⟩ [] [] coCut = some (ty_ true (b.cells.all SC.plain && true), [], coI off n b 0 0) := by kernel_rfl
theorem co_1 (i s : Int) : stepL Try.prog coLib 0 1000 4 (loopB ((bodyOf Try.prog fConcat).drop 3)) (coI off n b i s) [true, false] [] coCut =
  some (bnd (tn (bnd (elRd off n b i) (elC off b i).sliOk) (decide (IntKind.i64.wrap (s + ((elC off b i).sliN : Int)) < 0))) (b.cells.all SC.plain && true), [], coI off n b (IntKind.i64.wrap (i + 1)) (IntKind.i64.wrap (s + ((elC off b i).sliN : Int)))) := by kernel_rfl
theorem co_2 (i s : Int) : exitL Try.prog coLib 0 1000 4 (loopB ((bodyOf Try.prog fConcat).drop 3)) (coI off n b i s) [false] [] ⟨[(0,false),(3,true)], [(0,0,true)], 1⟩ = some (loopId ((bodyOf Try.prog fConcat).drop 3), bnd (tn true (decide (i < (n : Int)))) (b.cells.all SC.plain && true), [], coJ off n b s) := by kernel_rfl
theorem co_3 (s : Int) : stepL Try.prog coLib 0 1000 2 ((bodyOf Try.prog fConcat).drop 4) (coJ off n b s) [] [] (cpCut 5) =
  some (bnd (bnd true (decide (0 ≤ s) && decide (s ≤ 1000000) && ((List.replicate s.toNat (SC.u8 0)).all SC.sole && true))) (b.cells.all SC.plain && ((List.replicate s.toNat (SC.u8 0)).all SC.plain && true)), [], cpI off n b 0 0 (List.replicate s.toNat (.u8 0))) := by kernel_rfl
theorem co_4 (i : Int) (l : Nat) (cs : List SC) : stepL Try.prog coLib 0 1000 4 (loopB ((bodyOf Try.prog fConcat).drop 6)) (cpI off n b i l cs) [true] [] (cpCut 26) =
  some (bnd (bnd (elRd off n b i) (srcOk (cpT b cs) 1 (elC off b i) && (Nat.ble (l + srcN (elC off b i)) 9223372036854775807 && (Nat.ble ((l + srcN (elC off b i)) * 1) 140737488355328 && Nat.ble (l * 1) cs.length)))) (b.cells.all SC.plain && ((cs.take (l * 1) ++ srcC (cpT b cs) (elC off b i)).all SC.plain && true)), [],
    cpI off n b (IntKind.i64.wrap (i + 1)) (l + srcN (elC off b i)) (cs.take (l * 1) ++ srcC (cpT b cs) (elC off b i))) := by kernel_rfl
theorem co_5 (i : Int) (l : Nat) (cs : List SC) : exitL Try.prog coLib 0 1000 4 (loopB ((bodyOf Try.prog fConcat).drop 6)) (cpI off n b i l cs) [false] [] ⟨[(6,false)], [(1,1,true)], 2⟩ =
  some (loopId ((bodyOf Try.prog fConcat).drop 6), bnd (tn true (decide (i < (n : Int)))) (cs.all SC.plain && true), [], cpF l cs) := by kernel_rfl
end
theorem plain_u8s (bs : List UInt8) : (bs.map SC.u8).all SC.plain = true := Sp.plainU8 bs
theorem concat_fn {rows : List (List UInt8)} (w : World) {off : Nat} {b : Blk} {rs : List (Value × List UInt8)} (hrs : rs.map (·.2) = rows) (h : RowsB w off b rs) (hl : rows.length ≤ 1000000) (hf : rows.flatten.length ≤ 1000000) :
    Sx.Fn Try.prog fConcat (atW w 0) [.c (.slc 0 off 1 rows.length none)] [(0, some b)] 1 fun r T => ∃ k, r = .c (.slc k 0 1 rows.flatten.length none) ∧ T.blk k = some ⟨rows.flatten.map SC.u8, tB, true, true⟩ := by
  have hpl := h.plain
  have hbl := h.len
  have hrl : rs.length = rows.length := by rw [← hrs, List.length_map]
  have hel : ∀ n : Nat, (hn : n < rows.length) → ∃ u, elC off b n = .c (.row rows[n] u) := fun n hn => ⟨(rs[n]'(by omega)).1, by
    unfold elC
    rw [Int.toNat_natCast, Nat.mul_one, rows_get h (by omega)]
    congr 2
    subst hrs; simp⟩
  have hrd : ∀ n : Nat, n < rows.length → elRd off rows.length b n = true := fun n hn => by
    unfold elRd
    rw [Int.toNat_natCast, Nat.mul_one, show Nat.blt n rows.length = true by rw [Nat.blt_eq]; exact hn, show Nat.blt (off + n) b.cells.length = true by rw [Nat.blt_eq]; omega, ty_eq rfl (show decide ((n : Int) < (rows.length : Int)) = true by simpa using hn)]
    simp [bnd]
  have hgl : ∀ n, (Sp.gone rows n).length ≤ 1000000 := fun n => Nat.le_trans (Sp.gone_le n) hf
  refine Sx.Fn.of (nt := 36) (by kernel_rfl) rfl ?_
  refine SWs.stepL coLib_ok mixed [] (co_0 off rows.length b) (ty_eq rfl (by rw [hpl]; rfl)) trivial ?_
  refine SWs.loop (by kernel_rfl) (fun q : Nat × Int => coI off rows.length b q.1 q.2) (fun q => rows.length - q.1) (fun q => q.1 ≤ rows.length ∧ q.2 = ((Sp.gone rows q.1).length : Int)) (0, 0) ⟨by simp, by simp [Sp.gone]⟩ ?_
  rintro ⟨n, s⟩ ⟨hn, hs⟩
  simp only at hn hs
  subst hs
  by_cases hlt : n < rows.length
  · obtain ⟨u, hu⟩ := hel n hlt
    have hg := hgl (n + 1)
    have hgs : (Sp.gone rows (n + 1)).length = (Sp.gone rows n).length + rows[n].length := by rw [Sp.gone_succ hlt, List.length_append]
    have hw : IntKind.i64.wrap ((n : Int) + 1) = ((n + 1 : Nat) : Int) := by rw [wrap_id (by omega) (by omega)]; omega
    have hs : IntKind.i64.wrap (((Sp.gone rows n).length : Int) + ((elC off b n).sliN : Int)) = ((Sp.gone rows (n + 1)).length : Int) := by
      rw [hu]
      show IntKind.i64.wrap (((Sp.gone rows n).length : Int) + (rows[n].length : Int)) = _
      rw [wrap_id (by omega) (by omega)]; omega
    refine SWs.roundL coLib_ok mixed [true, false] (co_1 off rows.length b n (Sp.gone rows n).length) rfl ?_ trivial ⟨(n + 1, ((Sp.gone rows (n + 1)).length : Int)), ⟨by simp; omega, rfl⟩, by simp; omega, by simp only [hw, hs]⟩
    rw [hs, hrd n hlt, hu, hpl, tn_eq (show bnd true (SV.c (SC.row rows[n] u)).sliOk = true from rfl) (decide_eq_false (by omega))]; rfl
  · obtain rfl : n = rows.length := by omega
    have hg : Sp.gone rows rows.length = rows.flatten := by simp [Sp.gone]
    rw [hg]
    refine SWs.outL coLib_ok mixed [false] (co_2 off rows.length b rows.length rows.flatten.length) (by rw [tn_eq rfl (by simp), hpl]; rfl) trivial ?_
    have hr1 : (List.replicate ((rows.flatten.length : Int)).toNat (SC.u8 0)).all SC.plain = true := by rw [List.all_eq_true]; intro x hx; rw [List.eq_of_mem_replicate hx]; rfl
    have hr2 : (List.replicate ((rows.flatten.length : Int)).toNat (SC.u8 0)).all SC.sole = true := by rw [List.all_eq_true]; intro x hx; rw [List.eq_of_mem_replicate hx]; rfl
    refine SWs.stepL coLib_ok mixed [] (co_3 off rows.length b rows.flatten.length) (by rw [hr1, hr2, hpl, decide_eq_true (by omega), decide_eq_true (by omega)]; rfl) trivial ?_
    refine SWs.loop (by kernel_rfl) (fun q : Nat × Nat × List SC => cpI off rows.length b q.1 q.2.1 q.2.2) (fun q => rows.length - q.1) (fun q => q.1 ≤ rows.length ∧ q.2.1 = (Sp.gone rows q.1).length ∧ q.2.2.take q.2.1 = (Sp.gone rows q.1).map SC.u8 ∧ q.2.2.all SC.plain = true ∧ (q.1 = rows.length → q.2.2.length ≤ q.2.1)) (0, 0, List.replicate ((rows.flatten.length : Int)).toNat (.u8 0)) ⟨by simp, by simp [Sp.gone], by simp [Sp.gone], hr1, fun e => ?_⟩ ?_
    · have : rows = [] := List.length_eq_zero_iff.1 e.symm
      simp [this]
    rintro ⟨n, l, cs⟩ ⟨hn, hl1, hcs, hcp, hend⟩
    simp only at hn hl1 hcs hcp hend
    subst hl1
    have hle : (Sp.gone rows n).length ≤ cs.length := by
      have := congrArg List.length hcs
      simp only [List.length_take, List.length_map] at this; omega
    by_cases hlt : n < rows.length
    · obtain ⟨u, hu⟩ := hel n hlt
      have hg' := hgl (n + 1)
      have hgs : (Sp.gone rows (n + 1)).length = (Sp.gone rows n).length + rows[n].length := by rw [Sp.gone_succ hlt, List.length_append]
      have hw : IntKind.i64.wrap ((n : Int) + 1) = ((n + 1 : Nat) : Int) := by rw [wrap_id (by omega) (by omega)]; omega
      have e1 : cs.take ((Sp.gone rows n).length * 1) ++ srcC (cpT b cs) (elC off b n) = (Sp.gone rows (n + 1)).map SC.u8 := by
        rw [hu, Nat.mul_one, hcs, Sp.gone_succ hlt, List.map_append]; rfl
      have e2 : (Sp.gone rows n).length + srcN (elC off b n) = (Sp.gone rows (n + 1)).length := by rw [hu, hgs]; rfl
      refine SWs.roundL coLib_ok mixed [true] (co_4 off rows.length b n (Sp.gone rows n).length cs) rfl ?_ trivial ⟨(n + 1, (Sp.gone rows (n + 1)).length, (Sp.gone rows (n + 1)).map SC.u8), ⟨by simp; omega, rfl, ?_, plain_u8s _, fun _ => by simp⟩, by simp; omega, by simp only [hw, e1, e2]⟩
      · rw [e1, e2, plain_u8s, hpl, hrd n hlt, show srcOk (cpT b cs) 1 (elC off b n) = true by rw [hu]; rfl, ble_of (by omega), ble_of (by omega), ble_of (by omega)]; rfl
      · simp only [List.take_of_length_le (show ((Sp.gone rows (n + 1)).map SC.u8).length ≤ (Sp.gone rows (n + 1)).length by simp)]
    · obtain rfl : n = rows.length := by omega
      have hcl := hend rfl
      rw [List.take_of_length_le hcl, hg] at hcs
      subst hcs
      rw [hg]
      refine SWs.outL coLib_ok mixed [false] (co_5 off rows.length b rows.length rows.flatten.length (rows.flatten.map SC.u8)) (by rw [tn_eq rfl (by simp), plain_u8s]; rfl) trivial ?_
      exact SWs.finL coLib_ok mixed (fuel := 1000) (n := 100) [] (ob := true) (obs := []) (v := .c (.slc 1 0 1 rows.flatten.length none)) (T := [(1, some ⟨rows.flatten.map SC.u8, tB, true, true⟩)]) (by kernel_rfl) rfl trivial ⟨1, rfl, rfl⟩
def concatC : Con := rowsNew 1000000 tB (fun _ => true) fun ps rows => match ps with | [] => some rows.flatten | _ => none
theorem concat_ok : ConOK Try.prog fConcat concatC := by
  refine rowsNew_ok (fn := Try.f25) (by kernel_rfl) rfl rfl fun ps rows bs _ h => ?_
  split at h <;> try (cases h; done)
  simp only [Option.some.injEq] at h; subst h
  intro w off b rs hrs hb h1 h2
  have hrl : rs.length = rows.length := by rw [← hrs, List.length_map]
  rw [hrl]
  exact concat_fn w hrs hb h1 h2

end Go.Proofs.Ytdjimjjemiaokaa.Sl
