/-
  The document's numbers and operations as bytes.
-/
import Derived.Test.YtabiknpgakhkkaaVwW
namespace Go.Proofs.Ytabiknpgakhkkaa.Vw
open Go.RowKit Go.Proofs.Ytabiknpgakhkkaa.Sx Go.Proofs.Ytabiknpgakhkkaa.Pw
set_option linter.unusedVariables false
set_option linter.unusedSimpArgs false

def rnL : List (Nat × Con) := [(frNum, rnumC)]
theorem rnL_ok : LibOK Try.prog rnL := LibOK.cons rnum_ok (LibOK.nil _)
def numsI (r : RB) (cs : List SC) (m : Nat) (i : Int) : St := ⟨[(0, .c (.slc 0 r.off 1 r.n none)), (3, .c (.slc 1 0 1 m none)), (4, .c (.int i))], [(0, some r.b), (1, some ⟨cs, tB, true, true⟩)], 2, 19⟩
def numsCut (j : Nat) : Cut := ⟨[(0, false), (3, false), (4, true)], [(0, 0, true), (j, 1, true)], 2⟩
/-- Rows of numbers. -/
def okInts (r : RB) : Bool := Nat.ble (r.off + r.n * 1) r.b.cells.length && ((r.b.cells.drop r.off).take (r.n * 1)).all SC.isInt
def intAt (r : RB) (i : Nat) : Int := gI r.b.cells (r.off + i * 1)
def intsL (r : RB) : List Int := (List.range r.n).map (intAt r)
def numsBy : List Int → List UInt8
  | [] => []
  | x :: l => numL x ++ numsBy l
def ldN (r : RB) (i : Nat) (acc : Bool) : Bool := bnd (bnd acc (decide (0 ≤ (i : Int)) && (Nat.blt (i : Int).toNat r.n && true))) (Nat.blt (r.off + i * 1) r.b.cells.length && isI r.b.cells (r.off + i * 1))
theorem nums_start (off n : Nat) (cells : List SC) (ty : TypeId) : stepL Try.prog rnL 0 1000 3 (bodyOf Try.prog fNums) ⟨argTmps [.c (.slc 0 off 1 n none)] 0, [(0, some ⟨cells, ty, true, false⟩)], 1, 19⟩ [] [(3, 1, tB)] (numsCut 13) =
    some (bnd true (pl (rbO off n cells ty)), [], numsI (rbO off n cells ty) [] 0 0) := by kernel_rfl
theorem nums_round (off n : Nat) (cells : List SC) (ty : TypeId) (m : Nat) (cs : List SC) (i : Nat) : stepL Try.prog rnL 0 1000 4 (loopB ((bodyOf Try.prog fNums).drop 3)) (numsI (rbO off n cells ty) cs m i) [true] [] (numsCut 42) =
    some (bnd (apO m cs (ldN (rbO off n cells ty) i (ltO (rbO off n cells ty) i))) (cells.all SC.plain && ((apC m cs (intAt (rbO off n cells ty) i)).all SC.plain && true)), [],
      numsI (rbO off n cells ty) (apC m cs (intAt (rbO off n cells ty) i)) (m + 8) (IntKind.i64.wrap ((i : Int) + 1))) := by kernel_rfl
theorem nums_out (off n : Nat) (cells : List SC) (ty : TypeId) (m : Nat) (cs : List SC) : exitL Try.prog rnL 0 1000 4 (loopB ((bodyOf Try.prog fNums).drop 3)) (numsI (rbO off n cells ty) cs m n) [false] [] (numsCut 1) =
    some (0, bnd (tn true (decide ((n : Int) < (n : Int)))) (cells.all SC.plain && (cs.all SC.plain && true)), [], numsI (rbO off n cells ty) cs m n) := by kernel_rfl
theorem nums_end (off n : Nat) (cells : List SC) (ty : TypeId) (m : Nat) (cs : List SC) : (finL Try.prog rnL fNums 1000 100 ((bodyOf Try.prog fNums).drop 4) (numsI (rbO off n cells ty) cs m n) []).map (fun q => (q.1, q.2.1, q.2.2.1, q.2.2.2.blk 1)) =
    some (true, [], .c (.slc 1 0 1 m none), some ⟨cs, tB, true, true⟩) := by kernel_rfl
theorem numsBy_len : ∀ l : List Int, (numsBy l).length = 8 * l.length
  | [] => rfl
  | o :: l => by
    unfold numsBy
    rw [List.length_append, numsBy_len l, List.length_cons]
    have : (numL o).length = 8 := rfl
    omega
theorem numsBy_app : ∀ l m : List Int, numsBy (l ++ m) = numsBy l ++ numsBy m
  | [], m => rfl
  | o :: l, m => by show numL o ++ numsBy (l ++ m) = numL o ++ numsBy l ++ numsBy m; rw [numsBy_app l m, List.append_assoc]
theorem intsL_take (r : RB) (i : Nat) (hi : i < r.n) : (intsL r).take (i + 1) = (intsL r).take i ++ [intAt r i] := by
  have hl : i < (intsL r).length := by unfold intsL; simpa using hi
  have hg : (intsL r)[i]? = some (intAt r i) := by unfold intsL; simp [hi]
  rw [List.getElem?_eq_getElem hl] at hg
  rw [List.take_succ_eq_append_getElem hl, Option.some.inj hg]
theorem ldN_eq {r : RB} (h : okInts r = true) {i : Nat} {acc : Bool} (ha : acc = true) (hi : i < r.n) : ldN r i acc = true := by
  unfold okInts at h
  simp only [Bool.and_eq_true, Nat.ble_eq, List.all_eq_true] at h
  have hlt : r.off + i * 1 < r.b.cells.length := by omega
  have hI : isI r.b.cells (r.off + i * 1) = true := by
    unfold isI
    have hg : r.b.cells.getD (r.off + i * 1) .nilp = r.b.cells[r.off + i * 1] := by rw [List.getD, List.getElem?_eq_getElem hlt]; rfl
    rw [hg]
    refine h.2 _ ?_
    have hs : ((r.b.cells.drop r.off).take (r.n * 1))[i]? = some r.b.cells[r.off + i * 1] := by
      rw [List.getElem?_take, if_pos (by omega), List.getElem?_drop, List.getElem?_eq_getElem (by omega)]
      simp
    exact List.mem_of_getElem? hs
  unfold ldN
  refine bnds (bnds ha ?_) ?_
  · rw [decide_eq_true (by omega), show Nat.blt (i : Int).toNat r.n = true by rw [Nat.blt_eq, Int.toNat_natCast]; exact hi]; rfl
  · rw [hI, show Nat.blt (r.off + i * 1) r.b.cells.length = true by rw [Nat.blt_eq]; exact hlt]; rfl
theorem nums_fn (r : RB) (hr : RBok r) (ho : okInts r = true) (hn : r.n ≤ 1000000) (w : World) : Sx.Fn Try.prog fNums (atW w 0) [.c (.slc 0 r.off 1 r.n none)] [(0, some r.b)] 1 fun x T => x = .c (.slc 1 0 1 (8 * r.n) none) ∧ T.blk 1 = some ⟨(numsBy (intsL r)).map SC.u8, tB, true, true⟩ := by
  have hlen : (intsL r).length = r.n := by unfold intsL; simp
  obtain ⟨off, n, cells, ty, tail, own⟩ := r
  obtain ⟨hown, htail, hsole⟩ := hr
  simp only at hown htail hn
  subst hown htail
  have hr : RBok (rbO off n cells ty) := ⟨rfl, rfl, hsole⟩
  have ho : okInts (rbO off n cells ty) = true := ho
  have hlen : (intsL (rbO off n cells ty)).length = n := hlen
  have hpl := pl_eq hr
  have hp1 : cells.all SC.plain = true := sole_plain hsole
  have hn8 : ∀ x, (numL x).length = 8 := fun _ => rfl
  show Sx.Fn Try.prog fNums (atW w 0) [.c (.slc 0 off 1 n none)] [(0, some ⟨cells, ty, true, false⟩)] 1 fun x T => x = .c (.slc 1 0 1 (8 * n) none) ∧ T.blk 1 = some ⟨(numsBy (intsL (rbO off n cells ty))).map SC.u8, tB, true, true⟩
  refine Sx.Fn.of (nt := 19) (by kernel_rfl) rfl ?_
  refine SWs.stepL rnL_ok Sp.mixed [] (nums_start off n cells ty) (bnd_eq rfl hpl) trivial ?_
  refine SWs.loop (by kernel_rfl) (fun i : Nat => numsI (rbO off n cells ty) ((numsBy ((intsL (rbO off n cells ty)).take i)).map SC.u8) (8 * i) i) (fun i => n - i) (fun i => i ≤ n) 0 (by omega) ?_
  intro i hi
  have hl : (numsBy ((intsL (rbO off n cells ty)).take i)).length = 8 * i := by rw [numsBy_len, List.length_take, hlen, Nat.min_eq_left hi]
  by_cases hlt : i < n
  · have hO : ldN (rbO off n cells ty) i (ltO (rbO off n cells ty) i) = true := ldN_eq ho (ty_eq rfl (decide_eq_true (by show (i : Int) < (n : Int); omega))) hlt
    refine SWs.roundL rnL_ok Sp.mixed [true] (nums_round off n cells ty (8 * i) _ i) rfl (bnds (apO_eq hO (by omega) (by simp [hl])) ?_) trivial ⟨i + 1, by omega, by omega, ?_⟩
    · rw [hp1, apC_eq _ _ hl, Sp.plainU8]; rfl
    · rw [apC_eq _ _ hl, intsL_take _ i hlt, numsBy_app, show numsBy [intAt (rbO off n cells ty) i] = numL (intAt (rbO off n cells ty) i) from List.append_nil _, wrapN (show (0 : Int) ≤ (i : Int) + 1 by omega) (by omega)]
      have : 8 * i + 8 = 8 * (i + 1) := by omega
      rw [this]; rfl
  · obtain rfl : i = n := by omega
    rw [List.take_of_length_le (by omega)]
    refine SWs.outL rnL_ok Sp.mixed [false] (nums_out off i cells ty (8 * i) _) (bnds (tn_eq rfl (decide_eq_false (by omega))) (by rw [hp1, Sp.plainU8]; rfl)) trivial ?_
    exact SWs.fintL rnL_ok Sp.mixed [] (nums_end off i cells ty (8 * i) _) rfl trivial
def numsC : Con := sNew [some 1] fun ps rs => match ps, rs with | [], [r] => some (okInts r && Nat.ble r.n 1000000, ⟨⟨(numsBy (intsL r)).map SC.u8, tB, true, true⟩, 8 * r.n, none, none⟩) | _, _ => none
theorem nums_ok : ConOK Try.prog fNums numsC := by
  refine sNew_ok (fn := Try.f62) (by kernel_rfl) rfl rfl fun ps rs o h hps hrs w => ?_
  split at h <;> try (cases h; done)
  rename_i r
  simp only [Option.some.injEq, Prod.mk.injEq, Bool.and_eq_true, Nat.ble_eq] at h
  obtain ⟨⟨ho, hn⟩, rfl⟩ := h
  exact Fn_post (nums_fn r (hrs r (by simp)) ho hn w) fun x T h => .inl ⟨1, h⟩

/-! The document's operations as bytes. -/
def rsL : List (Nat × Con) := [(fNums, numsC)]
theorem rsL_ok : LibOK Try.prog rsL := LibOK.cons nums_ok (LibOK.nil _)
def ropsI (r : RB) (cs : List SC) (m : Nat) (i : Int) : St := ⟨[(0, .c (.slc 0 r.off 5 r.n none)), (3, .c (.slc 1 0 1 m none)), (4, .c (.int i))], [(0, some r.b), (1, some ⟨cs, tB, true, true⟩)], 2, 43⟩
def ldF (r : RB) (i c : Nat) (acc : Bool) : Bool := bnd (bnd acc (decide (0 ≤ (i : Int)) && (Nat.blt (i : Int).toNat r.n && true))) (Nat.blt (r.off + i * 5 + c) r.b.cells.length && isI r.b.cells (r.off + i * 5 + c))
def apO40 (m : Nat) (cs : List SC) (acc : Bool) : Bool := bnd acc (Nat.ble (m + 40) maxLen && (Nat.ble ((m + 40) * 1) 140737488355328 && Nat.ble (m * 1) cs.length))
def rapC (m : Nat) (cs : List SC) (o : Ope) : List SC := cs.take (m * 1) ++ (opB o).map SC.u8
theorem rops_start (off n : Nat) (cells : List SC) (ty : TypeId) : stepL Try.prog rsL 0 1000 3 (bodyOf Try.prog frOps) ⟨argTmps [.c (.slc 0 off 5 n none)] 0, [(0, some ⟨cells, ty, true, false⟩)], 1, 43⟩ [] [(3, 1, tB)] (numsCut 13) =
    some (bnd true (pl (rbO off n cells ty)), [], ropsI (rbO off n cells ty) [] 0 0) := by kernel_rfl
def rldAll (r : RB) (i : Nat) : Bool := ldF r i 4 (ldF r i 3 (ldF r i 2 (ldF r i 1 (ldF r i 0 (ltO r i)))))
theorem rops_round (off n : Nat) (cells : List SC) (ty : TypeId) (m : Nat) (cs : List SC) (i : Nat) : stepL Try.prog rsL 0 1000 4 (loopB ((bodyOf Try.prog frOps).drop 3)) (ropsI (rbO off n cells ty) cs m i) [true] [] (numsCut 138) =
    some (bnd (apO40 m cs (rldAll (rbO off n cells ty) i)) (cells.all SC.plain && ((rapC m cs (opAt (rbO off n cells ty) i)).all SC.plain && true)), [],
      ropsI (rbO off n cells ty) (rapC m cs (opAt (rbO off n cells ty) i)) (m + 40) (IntKind.i64.wrap ((i : Int) + 1))) := by kernel_rfl
theorem rops_out (off n : Nat) (cells : List SC) (ty : TypeId) (m : Nat) (cs : List SC) : exitL Try.prog rsL 0 1000 4 (loopB ((bodyOf Try.prog frOps).drop 3)) (ropsI (rbO off n cells ty) cs m n) [false] [] (numsCut 1) =
    some (0, bnd (tn true (decide ((n : Int) < (n : Int)))) (cells.all SC.plain && (cs.all SC.plain && true)), [], ropsI (rbO off n cells ty) cs m n) := by kernel_rfl
theorem rops_end (off n : Nat) (cells : List SC) (ty : TypeId) (m : Nat) (cs : List SC) : (finL Try.prog rsL frOps 1000 100 ((bodyOf Try.prog frOps).drop 4) (ropsI (rbO off n cells ty) cs m n) []).map (fun q => (q.1, q.2.1, q.2.2.1, q.2.2.2.blk 1)) =
    some (true, [], .c (.slc 1 0 1 m none), some ⟨cs, tB, true, true⟩) := by kernel_rfl
theorem rapC_eq (bs : List UInt8) (o : Ope) {m : Nat} (h : bs.length = m) : rapC m (bs.map SC.u8) o = (bs ++ opB o).map SC.u8 := by
  unfold rapC
  rw [Nat.mul_one, List.take_of_length_le (by simp [h]), List.map_append]
theorem ldF_eq {r : RB} (h : okOps r = true) {i c : Nat} {acc : Bool} (ha : acc = true) (hi : i < r.n) (hc : c < 5) : ldF r i c acc = true := by
  have hI : isI r.b.cells (r.off + i * 5 + c) = true := by rw [Nat.add_assoc]; exact isI_of h (by omega)
  unfold okOps at h
  simp only [Bool.and_eq_true, Nat.ble_eq] at h
  unfold ldF
  refine bnds (bnds ha ?_) ?_
  · rw [decide_eq_true (by omega), show Nat.blt (i : Int).toNat r.n = true by rw [Nat.blt_eq, Int.toNat_natCast]; exact hi]; rfl
  · rw [hI, show Nat.blt (r.off + i * 5 + c) r.b.cells.length = true by rw [Nat.blt_eq]; omega]; rfl
theorem rops_fn (r : RB) (hr : RBok r) (ho : okOps r = true) (hn : r.n ≤ 1000000) (w : World) : Sx.Fn Try.prog frOps (atW w 0) [.c (.slc 0 r.off 5 r.n none)] [(0, some r.b)] 1 fun x T => x = .c (.slc 1 0 1 (40 * r.n) none) ∧ T.blk 1 = some ⟨(opsBy (opsL r)).map SC.u8, tB, true, true⟩ := by
  have hlen : (opsL r).length = r.n := by unfold opsL; simp
  obtain ⟨off, n, cells, ty, tail, own⟩ := r
  obtain ⟨hown, htail, hsole⟩ := hr
  simp only at hown htail hn
  subst hown htail
  have hr : RBok (rbO off n cells ty) := ⟨rfl, rfl, hsole⟩
  have ho : okOps (rbO off n cells ty) = true := ho
  have hlen : (opsL (rbO off n cells ty)).length = n := hlen
  have hpl := pl_eq hr
  have hp1 : cells.all SC.plain = true := sole_plain hsole
  have hM : maxLen = 9223372036854775807 := rfl
  show Sx.Fn Try.prog frOps (atW w 0) [.c (.slc 0 off 5 n none)] [(0, some ⟨cells, ty, true, false⟩)] 1 fun x T => x = .c (.slc 1 0 1 (40 * n) none) ∧ T.blk 1 = some ⟨(opsBy (opsL (rbO off n cells ty))).map SC.u8, tB, true, true⟩
  refine Sx.Fn.of (nt := 43) (by kernel_rfl) rfl ?_
  refine SWs.stepL rsL_ok Sp.mixed [] (rops_start off n cells ty) (bnd_eq rfl hpl) trivial ?_
  refine SWs.loop (by kernel_rfl) (fun i : Nat => ropsI (rbO off n cells ty) ((opsBy ((opsL (rbO off n cells ty)).take i)).map SC.u8) (40 * i) i) (fun i => n - i) (fun i => i ≤ n) 0 (by omega) ?_
  intro i hi
  have hl : (opsBy ((opsL (rbO off n cells ty)).take i)).length = 40 * i := by rw [opsBy_len, List.length_take, hlen, Nat.min_eq_left hi]
  by_cases hlt : i < n
  · have h0 : ltO (rbO off n cells ty) i = true := ty_eq rfl (decide_eq_true (by show (i : Int) < (n : Int); omega))
    have hO : rldAll (rbO off n cells ty) i = true := ldF_eq ho (ldF_eq ho (ldF_eq ho (ldF_eq ho (ldF_eq ho h0 hlt (by omega)) hlt (by omega)) hlt (by omega)) hlt (by omega)) hlt (by omega)
    refine SWs.roundL rsL_ok Sp.mixed [true] (rops_round off n cells ty (40 * i) _ i) rfl (bnds ?_ ?_) trivial ⟨i + 1, by omega, by omega, ?_⟩
    · unfold apO40
      refine bnds hO ?_
      simp only [Bool.and_eq_true, Nat.ble_eq, List.length_map, hl]
      omega
    · rw [hp1, rapC_eq _ _ hl, Sp.plainU8]; rfl
    · rw [rapC_eq _ _ hl, opsL_take _ i hlt, opsBy_app, show opsBy [opAt (rbO off n cells ty) i] = opB (opAt (rbO off n cells ty) i) from List.append_nil _, wrapN (show (0 : Int) ≤ (i : Int) + 1 by omega) (by omega)]
      have : 40 * i + 40 = 40 * (i + 1) := by omega
      rw [this]; rfl
  · obtain rfl : i = n := by omega
    rw [List.take_of_length_le (by omega)]
    refine SWs.outL rsL_ok Sp.mixed [false] (rops_out off i cells ty (40 * i) _) (bnds (tn_eq rfl (decide_eq_false (by omega))) (by rw [hp1, Sp.plainU8]; rfl)) trivial ?_
    exact SWs.fintL rsL_ok Sp.mixed [] (rops_end off i cells ty (40 * i) _) rfl trivial
theorem ropsB_ok : ConOK Try.prog frOps opsBC := by
  refine sNew_ok (fn := Try.f33) (by kernel_rfl) rfl rfl fun ps rs o h hps hrs w => ?_
  split at h <;> try (cases h; done)
  rename_i r
  simp only [Option.some.injEq, Prod.mk.injEq, Bool.and_eq_true, Nat.ble_eq] at h
  obtain ⟨⟨ho, hn⟩, rfl⟩ := h
  exact Fn_post (rops_fn r (hrs r (by simp)) ho hn w) fun x T h => .inl ⟨1, h⟩

end Go.Proofs.Ytabiknpgakhkkaa.Vw
