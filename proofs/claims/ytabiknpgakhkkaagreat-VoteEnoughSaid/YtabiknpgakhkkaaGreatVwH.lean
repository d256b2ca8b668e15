/-
  Operations that have their own fields alone; leaves that are put into trees. What an operation changes: the program's functions. One operation of the program; rows of operations; is one of them odd? The program's Apply.
-/
import Derived.Test.YtabiknpgakhkkaaGreatVwD
import Derived.Test.YtabiknpgakhkkaaGreatSxV
set_option maxRecDepth 20000
section
namespace Go.Proofs.YtabiknpgakhkkaaGreat.Vw
open Go.RowKit Go.Proofs.YtabiknpgakhkkaaGreat.Sx Go.Proofs.YtabiknpgakhkkaaGreat.Pw
set_option linter.unusedVariables false
set_option linter.unusedSimpArgs false

/-- An operation. -/
structure Ope where
  kind : Int
  who : Int
  k : Int
  sg : Int
  sl : Int
def Ope.cs (o : Ope) : List SC := [.int o.kind, .int o.who, .int o.k, .int o.sg, .int o.sl]
def ez3 (s p : Int) : Bool := (s == 0) && ((p == 0) && true)
def opOk (o : Ope) : Bool :=
  bif o.kind == 1 then (o.who == 0) && ((o.k == 0) && true)
  else bif (o.kind == 2 || (o.kind == 3 || o.kind == 4)) then (o.k == 0) && (ez3 o.sg o.sl && true)
  else bif o.kind == 5 then (o.who == 0) && (ez3 o.sg o.sl && true)
  else false
abbrev fIsOp : Nat := 48
abbrev frOwn : Nat := 42
def isOpC : Con := pureCon fun | [.agg [.int a, .int b, .int c, .int d, .int e]] => some (.c (.bool (opOk ⟨a, b, c, d, e⟩))) | _ => none
def kn (k : Int) : Bool := tn (tn (tn (tn (tn true (k == 1)) (k == 2)) (k == 3)) (k == 4)) (k == 5)
theorem kn_eq {k : Int} (h1 : (k == 1) = false) (h2 : (k == 2) = false) (h3 : (k == 3) = false) (h4 : (k == 4) = false) (h5 : (k == 5) = false) : kn k = true := tn_eq (tn_eq (tn_eq (tn_eq (tn_eq rfl h1) h2) h3) h4) h5
theorem isOp_fn (o : Ope) (w : World) : Sx.Fn Tryz.prog fIsOp (atW w 0) [.agg o.cs] [] 0 fun r _ => r = .c (.bool (opOk o)) := by
  obtain ⟨kind, who, k, sg, sl⟩ := o
  cases h1 : kind == 1 with
  | true => rw [beq_iff_eq] at h1; subst h1; exact Fn.xvL (fuel := 1000) (LibOK.nil _) Sp.mixed [] (r := .c (.bool ((who == 0) && ((k == 0) && true)))) (ob := true) (obs := []) (by kernel_rfl) rfl trivial rfl
  | false =>
  cases h2 : kind == 2 with
  | true => rw [beq_iff_eq] at h2; subst h2; exact Fn.xvL (fuel := 1000) (LibOK.nil _) Sp.mixed [] (r := .c (.bool ((k == 0) && (ez3 sg sl && true)))) (ob := true) (obs := []) (by kernel_rfl) rfl trivial rfl
  | false =>
  cases h3 : kind == 3 with
  | true => rw [beq_iff_eq] at h3; subst h3; exact Fn.xvL (fuel := 1000) (LibOK.nil _) Sp.mixed [] (r := .c (.bool ((k == 0) && (ez3 sg sl && true)))) (ob := true) (obs := []) (by kernel_rfl) rfl trivial rfl
  | false =>
  cases h4 : kind == 4 with
  | true => rw [beq_iff_eq] at h4; subst h4; exact Fn.xvL (fuel := 1000) (LibOK.nil _) Sp.mixed [] (r := .c (.bool ((k == 0) && (ez3 sg sl && true)))) (ob := true) (obs := []) (by kernel_rfl) rfl trivial rfl
  | false =>
  cases h5 : kind == 5 with
  | true => rw [beq_iff_eq] at h5; subst h5; exact Fn.xvL (fuel := 1000) (LibOK.nil _) Sp.mixed [] (r := .c (.bool ((who == 0) && (ez3 sg sl && true)))) (ob := true) (obs := []) (by kernel_rfl) rfl trivial rfl
  | false => exact Fn.xvL (fuel := 1000) (LibOK.nil _) Sp.mixed [false, false, false, false, false, false] (r := .c (.bool false)) (ob := kn kind) (obs := []) (by kernel_rfl) (kn_eq h1 h2 h3 h4 h5) trivial (by unfold opOk; rw [h1, h2, h3, h4, h5]; rfl)
theorem isOp_ok : ConOK Tryz.prog fIsOp isOpC := by
  refine pureCon_ok (fn := Tryz.f48) (by kernel_rfl) rfl rfl fun args v h => ?_
  split at h <;> try (cases h; done)
  rename_i a b c d e
  simp only [Option.some.injEq] at h; subst h
  exact ⟨rfl, rfl, fun w => isOp_fn ⟨a, b, c, d, e⟩ w⟩

theorem own2 (x : Bool) (s p : Int) (h : x = true) : (x && (ez3 s p && true)) = ((s == 0) && ((p == 0) && true)) := by subst h; unfold ez3; simp
theorem own_fn (o : Ope) (w : World) : Sx.Fn Tryz.prog frOwn (atW w 0) [.agg o.cs] [] 0 fun r _ => r = .c (.bool (opOk o)) := by
  obtain ⟨kind, who, k, sg, sl⟩ := o
  have two : ∀ x : Int, kind = x → (x = 2 ∨ x = 3 ∨ x = 4) → opOk ⟨kind, who, k, sg, sl⟩ = ((k == 0) && (ez3 sg sl && true)) := fun x hx h => by
    subst hx
    rcases h with rfl | rfl | rfl <;> rfl
  cases h1 : kind == 1 with
  | true =>
    rw [beq_iff_eq] at h1; subst h1
    cases hw : who == 0 with
    | true => exact Fn.xvL (fuel := 1000) (LibOK.nil _) Sp.mixed [true, true] (r := .c (.bool (k == 0))) (ob := tg true (who == 0) true) (obs := []) (by kernel_rfl) (tg_eq rfl hw) trivial (by show _ = SV.c (.bool ((who == 0) && ((k == 0) && true))); rw [hw]; simp)
    | false => exact Fn.xvL (fuel := 1000) (LibOK.nil _) Sp.mixed [true, false] (r := .c (.bool false)) (ob := tg true (who == 0) false) (obs := []) (by kernel_rfl) (tg_eq rfl hw) trivial (by show _ = SV.c (.bool ((who == 0) && ((k == 0) && true))); rw [hw]; rfl)
  | false =>
  cases h2 : kind == 2 with
  | true =>
    rw [beq_iff_eq] at h2; subst h2
    cases hw : k == 0 with
    | true => exact Fn.xvL (fuel := 1000) (LibOK.nil _) Sp.mixed [false, true, true, true] (r := .c (.bool (ez3 sg sl))) (ob := tg true (k == 0) true) (obs := []) (by kernel_rfl) (tg_eq rfl hw) trivial (by rw [two 2 rfl (by omega), hw]; simp)
    | false => exact Fn.xvL (fuel := 1000) (LibOK.nil _) Sp.mixed [false, true, true, false] (r := .c (.bool false)) (ob := tg true (k == 0) false) (obs := []) (by kernel_rfl) (tg_eq rfl hw) trivial (by rw [two 2 rfl (by omega), hw]; rfl)
  | false =>
  cases h3 : kind == 3 with
  | true =>
    rw [beq_iff_eq] at h3; subst h3
    cases hw : k == 0 with
    | true => exact Fn.xvL (fuel := 1000) (LibOK.nil _) Sp.mixed [false, false, true, true, true] (r := .c (.bool (ez3 sg sl))) (ob := tg true (k == 0) true) (obs := []) (by kernel_rfl) (tg_eq rfl hw) trivial (by rw [two 3 rfl (by omega), hw]; simp)
    | false => exact Fn.xvL (fuel := 1000) (LibOK.nil _) Sp.mixed [false, false, true, true, false] (r := .c (.bool false)) (ob := tg true (k == 0) false) (obs := []) (by kernel_rfl) (tg_eq rfl hw) trivial (by rw [two 3 rfl (by omega), hw]; rfl)
  | false =>
  cases h4 : kind == 4 with
  | true =>
    rw [beq_iff_eq] at h4; subst h4
    cases hw : k == 0 with
    | true => exact Fn.xvL (fuel := 1000) (LibOK.nil _) Sp.mixed [false, false, false, true, true] (r := .c (.bool (ez3 sg sl))) (ob := tg true (k == 0) true) (obs := []) (by kernel_rfl) (tg_eq rfl hw) trivial (by rw [two 4 rfl (by omega), hw]; simp)
    | false => exact Fn.xvL (fuel := 1000) (LibOK.nil _) Sp.mixed [false, false, false, true, false] (r := .c (.bool false)) (ob := tg true (k == 0) false) (obs := []) (by kernel_rfl) (tg_eq rfl hw) trivial (by rw [two 4 rfl (by omega), hw]; rfl)
  | false =>
  cases h5 : kind == 5 with
  | true =>
    rw [beq_iff_eq] at h5; subst h5
    cases hw : who == 0 with
    | true => exact Fn.xvL (fuel := 1000) (LibOK.nil _) Sp.mixed [false, false, false, false, true, true] (r := .c (.bool (ez3 sg sl))) (ob := tg true (who == 0) true) (obs := []) (by kernel_rfl) (tg_eq rfl hw) trivial (by show _ = SV.c (.bool ((who == 0) && (ez3 sg sl && true))); rw [hw]; simp)
    | false => exact Fn.xvL (fuel := 1000) (LibOK.nil _) Sp.mixed [false, false, false, false, true, false] (r := .c (.bool false)) (ob := tg true (who == 0) false) (obs := []) (by kernel_rfl) (tg_eq rfl hw) trivial (by show _ = SV.c (.bool ((who == 0) && (ez3 sg sl && true))); rw [hw]; rfl)
  | false => exact Fn.xvL (fuel := 1000) (LibOK.nil _) Sp.mixed [false, false, false, false, false, false] (r := .c (.bool false)) (ob := kn kind) (obs := []) (by kernel_rfl) (kn_eq h1 h2 h3 h4 h5) trivial (by unfold opOk; rw [h1, h2, h3, h4, h5]; rfl)
theorem own_ok : ConOK Tryz.prog frOwn isOpC := by
  refine pureCon_ok (fn := Tryz.f42) (by kernel_rfl) rfl rfl fun args v h => ?_
  split at h <;> try (cases h; done)
  rename_i a b c d e
  simp only [Option.some.injEq] at h; subst h
  exact ⟨rfl, rfl, fun w => own_fn ⟨a, b, c, d, e⟩ w⟩

/-! Leaves put into trees. -/
abbrev fPut : Nat := 101
abbrev frPut : Nat := 78
def putT (t : Tr) (i : Nat) (s p : Int) : Tr := ⟨fun j => bif Nat.beq j i then s else t.sg j, fun j => bif Nat.beq j i then p else t.sl j,
  fun j => bif Nat.beq j (i / 2 * 4 + 1) || (Nat.beq j (i / 4 * 8 + 3) || Nat.beq j 7) then 0 else t.nd j⟩
def putC : Con := pureConB (fun | [.agg cs, .c (.int n), _] => isTr cs && (decide (n ≥ 0) && decide (n < 8)) | _ => true) fun | [.agg cs, .c (.int n), .agg [.int s, .int p]] => some (.agg (putT (Tr.of cs 0) n.toNat s p).cs) | _ => none
def putFs : List Nat := [108, 109, 113]
noncomputable abbrev putL : List (Nat × Con) := deep Tryz.prog 1000 putFs [] 4
theorem putFs_ok : putFs.all (inlOk Tryz.prog) = true := by kernel_rfl
theorem put_lib : LibOK Tryz.prog putL := deep_ok (LibOK.nil _) Sp.mixed putFs_ok 4
theorem put_at (t : Tr) (s p : Int) (i : Nat) (hi : i < 8) : (xfunL Tryz.prog putL 1000 fPut [.agg t.cs, .c (.int i), .agg [.int s, .int p]] [] 0 []).map (fun q => (q.1, q.2.1, q.2.2.1)) = some (true, [], .agg (putT t i s p).cs) := by
  revert i
  refine all8 ?_ ?_ ?_ ?_ ?_ ?_ ?_ ?_ <;> kernel_rfl
def rputFs : List Nat := [95, 96]
noncomputable abbrev rputL : List (Nat × Con) := deep Tryz.prog 1000 rputFs [] 4
theorem rputFs_ok : rputFs.all (inlOk Tryz.prog) = true := by kernel_rfl
theorem rput_lib : LibOK Tryz.prog rputL := deep_ok (LibOK.nil _) Sp.mixed rputFs_ok 4
theorem rput_at (t : Tr) (s p : Int) (i : Nat) (hi : i < 8) : (xfunL Tryz.prog rputL 1000 frPut [.agg t.cs, .c (.int i), .agg [.int s, .int p]] [] 0 []).map (fun q => (q.1, q.2.1, q.2.2.1)) = some (true, [SV.c (.int ((i / 4 * 8 + 3 : Nat) : Int)) = SV.c (.int ((i / 4 * 8 + 3 : Nat) : Int)), SV.c (.int 7) = SV.c (.int 7), SV.c (.int 7) = SV.c (.int 7)], .agg (putT t i s p).cs) := by
  revert i
  refine all8 ?_ ?_ ?_ ?_ ?_ ?_ ?_ ?_ <;> kernel_rfl
theorem put_ok : ConOK Tryz.prog fPut putC := by
  refine pureConB_ok (fn := Tryz.f101) (by kernel_rfl) rfl rfl fun args v hok h => ?_
  split at h <;> try (cases h; done)
  rename_i cs n s p
  simp only [Option.some.injEq] at h; subst h
  simp only [Bool.and_eq_true, decide_eq_true_eq] at hok
  obtain ⟨hok, h0, h8⟩ := hok
  have e := Tr.of_cs hok
  refine ⟨rfl, by rw [e]; rfl, fun w => ?_⟩
  generalize Tr.of cs 0 = t at e
  subst e
  obtain ⟨i, rfl⟩ : ∃ i : Nat, n = i := ⟨n.toNat, by omega⟩
  exact Fn.xvL put_lib Sp.mixed [] (put_at t s p i (by omega)) rfl trivial rfl
theorem rput_ok : ConOK Tryz.prog frPut putC := by
  refine pureConB_ok (fn := Tryz.f78) (by kernel_rfl) rfl rfl fun args v hok h => ?_
  split at h <;> try (cases h; done)
  rename_i cs n s p
  simp only [Option.some.injEq] at h; subst h
  simp only [Bool.and_eq_true, decide_eq_true_eq] at hok
  obtain ⟨hok, h0, h8⟩ := hok
  have e := Tr.of_cs hok
  refine ⟨rfl, by rw [e]; rfl, fun w => ?_⟩
  generalize Tr.of cs 0 = t at e
  subst e
  obtain ⟨i, rfl⟩ : ∃ i : Nat, n = i := ⟨n.toNat, by omega⟩
  exact Fn.xvL rput_lib Sp.mixed [] (rput_at t s p i (by omega)) rfl ⟨rfl, rfl, rfl, trivial⟩ rfl

end Go.Proofs.YtabiknpgakhkkaaGreat.Vw
end

section
namespace Go.Proofs.YtabiknpgakhkkaaGreat.Vw
open Go.RowKit Go.Proofs.YtabiknpgakhkkaaGreat.Sx Go.Proofs.YtabiknpgakhkkaaGreat.Pw
set_option linter.unusedVariables false
set_option linter.unusedSimpArgs false

abbrev tChange : Nat := 108
/-- A view that changes. -/
structure Chg' where
  v : Vi
  fr : Int
  ad : Nat → Bool
  gn : Nat → Bool
def Chg'.cs (c : Chg') : List SC := c.v.cs ++ (.int c.fr :: (adC c.ad ++ adC c.gn))
def Chg'.of (cs : List SC) : Chg' := ⟨Vi.of cs, gI cs 73, fun i => gB cs (74 + i), fun i => gB cs (82 + i)⟩
def isCh (cs : List SC) : Bool := Nat.beq cs.length 90 && (isVi (cs.take 73) && ((cs.getD 73 .nilp).isInt && (cs.drop 74).all SC.isBool))
theorem Vi.of_take {cs : List SC} (h : 73 ≤ cs.length) : (Vi.of (cs.take 73)).cs = (Vi.of cs).cs := by
  have e : ∀ i, i < 73 → (cs.take 73).getD i .nilp = cs.getD i .nilp := fun i hi => by
    simp [List.getD, List.getElem?_take_of_lt hi]
  apply List.ext_getElem?
  intro i
  by_cases hi : i < 73
  · rw [Vi.at_ _ i hi, Vi.at_ _ i hi]
    simp only [gI, gB, gU, e i hi]
  · rw [List.getElem?_eq_none (by show 73 ≤ i; omega), List.getElem?_eq_none (by show 73 ≤ i; omega)]
theorem Chg'.of_cs {cs : List SC} (h : isCh cs = true) : cs = (Chg'.of cs).cs := by
  unfold isCh at h
  simp only [Bool.and_eq_true, List.all_eq_true] at h
  obtain ⟨hl, hv, hi, hb⟩ := h
  have hl := Nat.eq_of_beq_eq_true hl
  have hv' := Vi.of_cs hv
  rw [Vi.of_take (by omega)] at hv'
  have hd : cs.drop 73 = cs[73] :: cs.drop 74 := List.drop_eq_getElem_cons (by omega)
  have h73 : cs[73] = .int (gI cs 73) := by
    have hx : cs[73]? = some cs[73] := List.getElem?_eq_getElem (by omega)
    have := int_of hx (by rw [List.getD, hx] at hi; exact hi)
    rw [hx] at this; exact Option.some.inj this
  have h74 : cs.drop 74 = adC (fun i => gB cs (74 + i)) ++ adC (fun i => gB cs (82 + i)) := by
    have hat : ∀ j, j < 16 → (adC (fun i => gB cs (74 + i)) ++ adC (fun i => gB cs (82 + i)))[j]? = some (.bool (gB cs (74 + j))) := fun j hj => by
      have : j = 0 ∨ j = 1 ∨ j = 2 ∨ j = 3 ∨ j = 4 ∨ j = 5 ∨ j = 6 ∨ j = 7 ∨ j = 8 ∨ j = 9 ∨ j = 10 ∨ j = 11 ∨ j = 12 ∨ j = 13 ∨ j = 14 ∨ j = 15 := by omega
      rcases this with rfl | rfl | rfl | rfl | rfl | rfl | rfl | rfl | rfl | rfl | rfl | rfl | rfl | rfl | rfl | rfl <;> rfl
    apply List.ext_getElem?
    intro j
    by_cases hj : j < 16
    · rw [hat j hj, List.getElem?_drop]
      have hx : cs[74 + j]? = some cs[74 + j] := List.getElem?_eq_getElem (by omega)
      refine bool_of hx (hb _ ?_)
      have : (cs.drop 74)[j]? = some cs[74 + j] := by rw [List.getElem?_drop]; exact hx
      exact List.mem_of_getElem? this
    · rw [List.getElem?_eq_none (by simp; omega), List.getElem?_eq_none (by show 16 ≤ j; omega)]
  calc cs = cs.take 73 ++ cs.drop 73 := (List.take_append_drop 73 cs).symm
    _ = (Chg'.of cs).cs := by rw [hd, h73, h74]; rw [hv']; rfl

/-! Add. -/
abbrev fAdd : Nat := 81
abbrev fSame : Nat := 98
abbrev fConL : Nat := 99
abbrev fIdxF : Nat := 107
abbrev fIdx : Nat := 100
def sameC : Con := capR fun ps off cs => match ps with
  | [.agg [.int a, .int b]] => match off, cs with
    | 0, [.int c, .int d] => some (true, .c (.bool (a == c)))
    | _, _ => none
  | _ => none
theorem same_ok : ConOK Tryz.prog fSame sameC := by
  refine capR_ok (fn := Tryz.f98) (by kernel_rfl) rfl rfl fun ps off b v h hps hs ho ht w => ?_
  split at h <;> try (cases h; done)
  rename_i x y
  split at h <;> try (cases h; done)
  rename_i c d hb
  simp only [Option.some.injEq, Prod.mk.injEq, true_and] at h; subst h
  obtain ⟨cells, ty, tail, own⟩ := b
  simp only at hb ho ht
  subst hb ho ht
  exact Fn.xvL (fuel := 1000) (LibOK.nil _) Sp.mixed [] (r := .c (.bool (x == c))) (ob := true) (obs := []) (by kernel_rfl) rfl trivial rfl
/-- How far one looks: so many that are not it; one that is; none. -/
def nos : Nat → List Bool
  | 0 => []
  | n + 1 => true :: false :: nos n
def toldAt : Option Nat → List Bool
  | some i => nos i ++ [true, true]
  | none => nos 8 ++ [false]
noncomputable def conL (a : Option Nat) : List (Nat × Con) := [(fIdxF, inlM Tryz.prog [(fSame, sameC)] 1000 fIdxF (toldAt a))]
theorem idxF_in : inlOk Tryz.prog fIdxF = true := by kernel_rfl
theorem conL_in : inlOk Tryz.prog fConL = true := by kernel_rfl
theorem idx_in : inlOk Tryz.prog fIdx = true := by kernel_rfl
theorem conL_ok (a : Option Nat) : LibOK Tryz.prog (conL a) := LibOK.cons (inlM_ok (LibOK.cons same_ok (LibOK.nil _)) Sp.mixed idxF_in) (LibOK.nil _)
noncomputable def addL (a b : Option Nat) : List (Nat × Con) := [(fpIs, isC), (fConL, inlM Tryz.prog (conL a) 1000 fConL []), (fIdx, inlM Tryz.prog [] 1000 fIdx (toldAt b)), (fPut, putC)]
theorem addL_ok (a b : Option Nat) : LibOK Tryz.prog (addL a b) :=
  LibOK.cons pis_ok (LibOK.cons (inlM_ok (conL_ok a) Sp.mixed conL_in) (LibOK.cons (inlM_ok (LibOK.nil _) Sp.mixed idx_in) (LibOK.cons put_ok (LibOK.nil _))))
/-- None has this number; the first that has it. -/
def noneC (t : Tr) (s : Int) : Nat → Bool
  | 0 => true
  | i + 1 => tn (noneC t s i) (t.sg i == s)
def ezs (s p : Int) : Bool := (0 == s) && ((0 == p) && true)
def noneE (t : Tr) : Nat → Bool
  | 0 => true
  | i + 1 => tn (noneE t i) (ezs (t.sg i) (t.sl i))
def addA (s p : Int) : Bool := tg (tg true (!isS s) false) (!isS p) false
def addB (t : Tr) (s p : Int) : Bool := bnd (addA s p) (bnd true (noneC t s 8))
def chB (c : Chg') : Option Blk := some ⟨c.cs, tChange, false, true⟩
def addN (c : Chg') (i : Nat) (s p : Int) : Chg' := { c with v := { c.v with t := putT c.v.t i s p }, ad := fun j => bif Nat.beq j i then true else c.ad j }
noncomputable def runM (C : List (Nat × Con)) (f : Nat) (args : List SV) (c : Chg') (ty : TypeId) (told : List Bool) : Option (Bool × List Prop × SV × Option Blk) := (xfunL Tryz.prog C 1000 f (.c (.ptr 0 0) :: args) [(0, some ⟨c.cs, ty, false, true⟩)] 1 told).map (fun q => (q.1, q.2.1, q.2.2.1, q.2.2.2.blk 0))
theorem add_1 (c : Chg') (ty : TypeId) (s p : Int) : runM (addL none none) fAdd [.agg [.int s, .int p]] c ty [true] = some (tg true (!isS s) true, [], .c (.int 7), some ⟨c.cs, ty, false, true⟩) := by kernel_rfl
theorem add_2 (c : Chg') (ty : TypeId) (s p : Int) : runM (addL none none) fAdd [.agg [.int s, .int p]] c ty [false, true] = some (tg (tg true (!isS s) false) (!isS p) true, [], .c (.int 7), some ⟨c.cs, ty, false, true⟩) := by kernel_rfl
theorem add_3 (c : Chg') (ty : TypeId) (s p : Int) (i : Nat) (hi : i < 8) : runM (addL (some i) none) fAdd [.agg [.int s, .int p]] c ty [false, false, true] = some (bnd (addA s p) (bnd true (ty_ (noneC c.v.t s i) (c.v.t.sg i == s))), [], .c (.int 7), some ⟨c.cs, ty, false, true⟩) := by
  revert i
  refine all8 ?_ ?_ ?_ ?_ ?_ ?_ ?_ ?_ <;> kernel_rfl
theorem add_4 (c : Chg') (ty : TypeId) (s p : Int) : runM (addL none none) fAdd [.agg [.int s, .int p]] c ty [false, false, false, true] = some (bnd (addB c.v.t s p) (noneE c.v.t 8), [], .c (.int 12), some ⟨c.cs, ty, false, true⟩) := by kernel_rfl
theorem add_5 (c : Chg') (ty : TypeId) (s p : Int) (i : Nat) (hi : i < 8) : runM (addL none (some i)) fAdd [.agg [.int s, .int p]] c ty [false, false, false, false] = some (bnd (addB c.v.t s p) (ty_ (noneE c.v.t i) (ezs (c.v.t.sg i) (c.v.t.sl i))), [], .c (.int 0), some ⟨(addN c i s p).cs, ty, false, true⟩) := by
  revert i
  refine all8 ?_ ?_ ?_ ?_ ?_ ?_ ?_ ?_ <;> kernel_rfl

/-- The first of so many. -/
def fstF (f : Nat → Bool) : Nat → Option Nat
  | 0 => none
  | n + 1 => match fstF f n with
    | some i => some i
    | none => bif f n then some n else none
theorem fstF_some {f : Nat → Bool} : ∀ {n i : Nat}, fstF f n = some i → i < n ∧ f i = true ∧ ∀ j, j < i → f j = false
  | 0, i, h => by simp [fstF] at h
  | n + 1, i, h => by
    unfold fstF at h
    split at h
    · rename_i k hk
      simp only [Option.some.injEq] at h; subst h
      obtain ⟨h1, h2, h3⟩ := fstF_some hk
      exact ⟨by omega, h2, h3⟩
    · rename_i hk
      cases hf : f n with
      | false => rw [hf] at h; simp at h
      | true =>
        rw [hf] at h
        simp only [cond_true, Option.some.injEq] at h; subst h
        refine ⟨by omega, hf, fun j hj => ?_⟩
        have none : ∀ {m : Nat}, fstF f m = none → ∀ j, j < m → f j = false := by
          intro m
          induction m with
          | zero => intro _ j hj; omega
          | succ m ih =>
            intro hm j hj
            unfold fstF at hm
            split at hm
            · cases hm
            · rename_i hm'
              cases hfm : f m with
              | true => rw [hfm] at hm; simp at hm
              | false =>
                by_cases hjm : j = m
                · subst hjm; exact hfm
                · exact ih hm' j (by omega)
        exact none hk j hj
theorem fstF_none {f : Nat → Bool} : ∀ {n : Nat}, fstF f n = none → ∀ j, j < n → f j = false
  | 0, _, j, hj => absurd hj (by omega)
  | n + 1, h, j, hj => by
    unfold fstF at h
    split at h
    · cases h
    · rename_i hn
      cases hf : f n with
      | true => rw [hf] at h; simp at h
      | false =>
        by_cases hjn : j = n
        · subst hjn; exact hf
        · exact fstF_none hn j (by omega)
theorem noneC_eq {t : Tr} {s : Int} : ∀ {n : Nat}, (∀ j, j < n → (t.sg j == s) = false) → noneC t s n = true
  | 0, _ => rfl
  | n + 1, h => tn_eq (noneC_eq fun j hj => h j (by omega)) (h n (by omega))
theorem noneE_eq {t : Tr} : ∀ {n : Nat}, (∀ j, j < n → ezs (t.sg j) (t.sl j) = false) → noneE t n = true
  | 0, _ => rfl
  | n + 1, h => tn_eq (noneE_eq fun j hj => h j (by omega)) (h n (by omega))
theorem bnd_eq {a b : Bool} (ha : a = true) (hb : b = true) : bnd a b = true := by subst ha hb; rfl

def addR (c : Chg') (s p : Int) : Int × Chg' := bif !isS s then (7, c) else bif !isS p then (7, c) else match fstF (fun i => c.v.t.sg i == s) 8 with
  | some _ => (7, c)
  | none => match fstF (fun i => ezs (c.v.t.sg i) (c.v.t.sl i)) 8 with
    | none => (12, c)
    | some i => (0, addN c i s p)
def remN (c : Chg') (i : Nat) : Chg' := { c with v := { c.v with t := putT c.v.t i 0 0, ad := fun j => bif Nat.beq j i then false else c.v.ad j }, ad := fun j => bif Nat.beq j i then false else c.ad j, gn := fun j => bif Nat.beq j i then true else c.gn j }
def remR (c : Chg') (n : Int) : Int × Chg' := bif !memI c.v n then (7, c) else bif n == c.fr then (7, c) else (0, remN c n.toNat)
def admN (c : Chg') (i : Nat) (b : Bool) : Chg' := { c with v := { c.v with ad := fun j => bif Nat.beq j i then b else c.v.ad j } }
def admR (c : Chg') (n : Int) (b : Bool) : Int × Chg' := bif !memI c.v n then (7, c) else bif c.v.ad n.toNat == b then (7, c) else (0, admN c n.toNat b)
def limN (c : Chg') (k : Int) : Chg' := { c with v := { c.v with k := k } }
def limR (c : Chg') (k : Int) : Int × Chg' := bif decide (k < 1) then (7, c) else bif decide (k > 8) then (7, c) else (0, limN c k)
def opR (c : Chg') (o : Ope) : Int × Chg' := bif o.kind == 1 then addR c o.sg o.sl else bif o.kind == 2 then remR c o.who else bif o.kind == 3 then admR c o.who true else bif o.kind == 4 then admR c o.who false else limR c o.k

/-- What holds of an object's function, shown by walks over the object's table. -/
theorem ch_step {f : FuncId} {c : Chg'} {ps : List SV} {e : Int} {c' : Chg'} {C : List (Nat × Con)} {told : List Bool} {ob : Bool} (hC : LibOK Tryz.prog C) (h : ∀ ty, runM C f ps c ty told = some (ob, [], .c (.int e), some ⟨c'.cs, ty, false, true⟩)) (hob : ob = true) (hps : ps.all SV.sole = true) :
    ObjStep Tryz.prog f 0 c.cs ps (.c (.int e)) c'.cs :=
  objStep_of rfl rfl rfl (fun ρ ρ' u h => h) (fun X hX ty => Fn.xtL hC Sp.mixed told (h ty) hob trivial) hps

theorem add_step (c : Chg') (s p : Int) : ObjStep Tryz.prog fAdd 0 c.cs [.agg [.int s, .int p]] (.c (.int (addR c s p).1)) (addR c s p).2.cs := by
  unfold addR
  cases h1 : isS s with
  | false => exact ch_step (addL_ok none none) (fun ty => add_1 c ty s p) (tg_eq rfl (by rw [h1]; rfl)) rfl
  | true =>
  cases h2 : isS p with
  | false => exact ch_step (addL_ok none none) (fun ty => add_2 c ty s p) (tg_eq (tg_eq rfl (by rw [h1]; rfl)) (by rw [h2]; rfl)) rfl
  | true =>
  have hA : addA s p = true := tg_eq (tg_eq rfl (by rw [h1]; rfl)) (by rw [h2]; rfl)
  simp only [Bool.not_true, cond_false]
  split
  · rename_i i hi
    obtain ⟨hi8, hit, hij⟩ := fstF_some hi
    exact ch_step (addL_ok (some i) none) (fun ty => add_3 c ty s p i hi8) (bnd_eq hA (bnd_eq rfl (ty_eq (noneC_eq hij) hit))) rfl
  · rename_i hn
    have hB : addB c.v.t s p = true := bnd_eq hA (bnd_eq rfl (noneC_eq (fstF_none hn)))
    split
    · rename_i he
      exact ch_step (addL_ok none none) (fun ty => add_4 c ty s p) (bnd_eq hB (noneE_eq (fstF_none he))) rfl
    · rename_i i hi
      obtain ⟨hi8, hit, hij⟩ := fstF_some hi
      exact ch_step (addL_ok none (some i)) (fun ty => add_5 c ty s p i hi8) (bnd_eq hB (ty_eq (noneE_eq hij) hit)) rfl

/-! Remove. -/
abbrev fRem : Nat := 82
abbrev fAdmin : Nat := 83
abbrev fOp : Nat := 52
abbrev remL : List (Nat × Con) := [(fMem, memC), (fPut, putC)]
theorem remL_ok : LibOK Tryz.prog remL := LibOK.cons mem_ok (LibOK.cons put_ok (LibOK.nil _))
theorem memI_of (v : Vi) (n : Int) : memI (Vi.of v.cs) n = memI v n := by
  unfold memI
  cases h1 : decide (n ≥ 0) with
  | false => rfl
  | true =>
    cases h2 : decide (n < 8) with
    | false => rfl
    | true =>
      rw [decide_eq_true_eq] at h1 h2
      obtain ⟨i, rfl⟩ : ∃ i : Nat, n = i := ⟨n.toNat, by omega⟩
      have : ∀ i, i < 8 → memT (Vi.of v.cs).t i = memT v.t i := all8 rfl rfl rfl rfl rfl rfl rfl rfl
      exact this i (by omega)
theorem memI_no {v : Vi} {n : Int} (h : memI v n = true) : ∃ i : Nat, i < 8 ∧ n = i ∧ memT v.t i = true := by
  unfold memI at h
  cases h1 : decide (n ≥ 0) with
  | false => rw [h1] at h; cases h
  | true =>
    rw [h1] at h
    cases h2 : decide (n < 8) with
    | false => rw [h2] at h; cases h
    | true =>
      rw [h2] at h
      rw [decide_eq_true_eq] at h1 h2
      exact ⟨n.toNat, by omega, by omega, h⟩
theorem rem_1 (c : Chg') (ty : TypeId) (n : Int) : runM remL fRem [.c (.int n)] c ty [true] = some (tg true (!memI (Vi.of c.v.cs) n) true, [], .c (.int 7), some ⟨c.cs, ty, false, true⟩) := by kernel_rfl
theorem rem_2 (c : Chg') (ty : TypeId) (i : Nat) (hi : i < 8) : runM remL fRem [.c (.int i)] c ty [false, true] = some (ty_ (tg true (!memT c.v.t i) false) ((i : Int) == c.fr), [], .c (.int 7), some ⟨c.cs, ty, false, true⟩) := by
  revert i
  refine all8 ?_ ?_ ?_ ?_ ?_ ?_ ?_ ?_ <;> kernel_rfl
theorem rem_3 (c : Chg') (ty : TypeId) (i : Nat) (hi : i < 8) : runM remL fRem [.c (.int i)] c ty [false, false] = some (tn (tg true (!memT c.v.t i) false) ((i : Int) == c.fr), [], .c (.int 0), some ⟨(remN c i).cs, ty, false, true⟩) := by
  revert i
  refine all8 ?_ ?_ ?_ ?_ ?_ ?_ ?_ ?_ <;> kernel_rfl
theorem adm_1 (c : Chg') (ty : TypeId) (n : Int) (b : Bool) : runM remL fAdmin [.c (.int n), .c (.bool b)] c ty [true] = some (tg true (!memI (Vi.of c.v.cs) n) true, [], .c (.int 7), some ⟨c.cs, ty, false, true⟩) := by kernel_rfl
theorem adm_2 (c : Chg') (ty : TypeId) (b : Bool) (i : Nat) (hi : i < 8) : runM remL fAdmin [.c (.int i), .c (.bool b)] c ty [false, true] = some (ty_ (tg true (!memT c.v.t i) false) (c.v.ad i == b), [], .c (.int 7), some ⟨c.cs, ty, false, true⟩) := by
  revert i
  refine all8 ?_ ?_ ?_ ?_ ?_ ?_ ?_ ?_ <;> kernel_rfl
theorem adm_3 (c : Chg') (ty : TypeId) (b : Bool) (i : Nat) (hi : i < 8) : runM remL fAdmin [.c (.int i), .c (.bool b)] c ty [false, false] = some (tn (tg true (!memT c.v.t i) false) (c.v.ad i == b), [], .c (.int 0), some ⟨(admN c i b).cs, ty, false, true⟩) := by
  revert i
  refine all8 ?_ ?_ ?_ ?_ ?_ ?_ ?_ ?_ <;> kernel_rfl
theorem rem_step (c : Chg') (n : Int) : ObjStep Tryz.prog fRem 0 c.cs [.c (.int n)] (.c (.int (remR c n).1)) (remR c n).2.cs := by
  unfold remR
  cases h1 : memI c.v n with
  | false => exact ch_step remL_ok (fun ty => rem_1 c ty n) (tg_eq rfl (by rw [memI_of, h1]; rfl)) rfl
  | true =>
    obtain ⟨i, hi, rfl, hm⟩ := memI_no h1
    have hA : tg true (!memT c.v.t i) false = true := tg_eq rfl (by rw [hm]; rfl)
    cases h2 : (i : Int) == c.fr with
    | true => exact ch_step remL_ok (fun ty => rem_2 c ty i hi) (ty_eq hA h2) rfl
    | false => exact ch_step remL_ok (fun ty => rem_3 c ty i hi) (tn_eq hA h2) rfl
theorem adm_step (c : Chg') (n : Int) (b : Bool) : ObjStep Tryz.prog fAdmin 0 c.cs [.c (.int n), .c (.bool b)] (.c (.int (admR c n b).1)) (admR c n b).2.cs := by
  unfold admR
  cases h1 : memI c.v n with
  | false => exact ch_step remL_ok (fun ty => adm_1 c ty n b) (tg_eq rfl (by rw [memI_of, h1]; rfl)) rfl
  | true =>
    obtain ⟨i, hi, rfl, hm⟩ := memI_no h1
    have hA : tg true (!memT c.v.t i) false = true := tg_eq rfl (by rw [hm]; rfl)
    simp only [Int.toNat_natCast]
    cases h2 : c.v.ad i == b with
    | true => exact ch_step remL_ok (fun ty => adm_2 c ty b i hi) (ty_eq hA h2) rfl
    | false => exact ch_step remL_ok (fun ty => adm_3 c ty b i hi) (tn_eq hA h2) rfl

end Go.Proofs.YtabiknpgakhkkaaGreat.Vw
end

section
namespace Go.Proofs.YtabiknpgakhkkaaGreat.Vw
open Go.RowKit Go.Proofs.YtabiknpgakhkkaaGreat.Sx Go.Proofs.YtabiknpgakhkkaaGreat.Pw
set_option linter.unusedVariables false
set_option linter.unusedSimpArgs false

/-! One operation. -/
def chW (args : List SV → Bool) (f : Chg' → List SV → Int × Chg') : Con := objW fun off cs ps => bif args ps then some (Nat.beq off 0 && isCh cs, .c (.int (f (Chg'.of cs) ps).1), (f (Chg'.of cs) ps).2.cs) else none
theorem chW_ok {f : FuncId} {args : List SV → Bool} {g : Chg' → List SV → Int × Chg'} {fn : Func} (hf : Tryz.prog.funcs[f]? = some fn) (hn : (fn.name == "runtime.NumGoroutine") = false) (hb : fn.body.isNone = false)
    (h : ∀ c ps, args ps = true → ObjStep Tryz.prog f 0 c.cs ps (.c (.int (g c ps).1)) (g c ps).2.cs) (hof : ∀ c ps, args ps = true → (g (Chg'.of c.cs) ps).1 = (g c ps).1 ∧ (g (Chg'.of c.cs) ps).2.cs = (g c ps).2.cs) : ConOK Tryz.prog f (chW args g) := by
  refine objW_ok hf hn hb fun off cs ps v cs' he _ _ => ?_
  cases ha : args ps with
  | false => rw [ha] at he; cases he
  | true =>
    rw [ha] at he
    simp only [cond_true, Option.some.injEq, Prod.mk.injEq, Bool.and_eq_true] at he
    obtain ⟨⟨h0, hc⟩, rfl, rfl⟩ := he
    obtain rfl := Nat.eq_of_beq_eq_true h0
    have e := Chg'.of_cs hc
    generalize Chg'.of cs = c at e
    subst e
    exact h c ps ha
def argA : List SV → Bool | [.agg [.int _, .int _]] => true | _ => false
def argR : List SV → Bool | [.c (.int _)] => true | _ => false
def argM : List SV → Bool | [.c (.int _), .c (.bool _)] => true | _ => false
def argO : List SV → Bool | [.agg [.int _, .int _, .int _, .int _, .int _]] => true | _ => false
def addW : Con := chW argA fun c ps => match ps with | [.agg [.int s, .int p]] => addR c s p | _ => (0, c)
def remW : Con := chW argR fun c ps => match ps with | [.c (.int n)] => remR c n | _ => (0, c)
def admW : Con := chW argM fun c ps => match ps with | [.c (.int n), .c (.bool b)] => admR c n b | _ => (0, c)
def opW : Con := chW argO fun c ps => match ps with | [.agg [.int a, .int b, .int d, .int s, .int p]] => opR c ⟨a, b, d, s, p⟩ | _ => (0, c)

theorem fstF_congr {f g : Nat → Bool} : ∀ {n : Nat}, (∀ j, j < n → f j = g j) → fstF f n = fstF g n
  | 0, _ => rfl
  | n + 1, h => by
    unfold fstF
    rw [fstF_congr fun j hj => h j (by omega), h n (by omega)]
theorem sg_of (c : Chg') : ∀ i, i < 8 → (Chg'.of c.cs).v.t.sg i = c.v.t.sg i := by refine all8 ?_ ?_ ?_ ?_ ?_ ?_ ?_ ?_ <;> kernel_rfl
theorem sl_of (c : Chg') : ∀ i, i < 8 → (Chg'.of c.cs).v.t.sl i = c.v.t.sl i := by refine all8 ?_ ?_ ?_ ?_ ?_ ?_ ?_ ?_ <;> kernel_rfl
theorem addR_of (c : Chg') (s p : Int) : (addR (Chg'.of c.cs) s p).1 = (addR c s p).1 ∧ (addR (Chg'.of c.cs) s p).2.cs = (addR c s p).2.cs := by
  have e0 : (Chg'.of c.cs).cs = c.cs := by kernel_rfl
  have e1 : fstF (fun i => (Chg'.of c.cs).v.t.sg i == s) 8 = fstF (fun i => c.v.t.sg i == s) 8 := fstF_congr fun j hj => by rw [sg_of c j hj]
  have e2 : fstF (fun i => ezs ((Chg'.of c.cs).v.t.sg i) ((Chg'.of c.cs).v.t.sl i)) 8 = fstF (fun i => ezs (c.v.t.sg i) (c.v.t.sl i)) 8 := fstF_congr fun j hj => by rw [sg_of c j hj, sl_of c j hj]
  have e3 : ∀ i, i < 8 → (addN (Chg'.of c.cs) i s p).cs = (addN c i s p).cs := by refine all8 ?_ ?_ ?_ ?_ ?_ ?_ ?_ ?_ <;> kernel_rfl
  unfold addR
  rw [e1, e2]
  cases isS s with
  | false => exact ⟨rfl, e0⟩
  | true =>
    cases isS p with
    | false => exact ⟨rfl, e0⟩
    | true =>
      simp only [Bool.not_true, cond_false]
      split
      · exact ⟨rfl, e0⟩
      · split
        · exact ⟨rfl, e0⟩
        · rename_i i hi
          exact ⟨rfl, e3 i (fstF_some hi).1⟩
theorem memI_ofc (c : Chg') (n : Int) : memI (Chg'.of c.cs).v n = memI c.v n := by
  unfold memI
  cases h1 : decide (n ≥ 0) with
  | false => rfl
  | true =>
    cases h2 : decide (n < 8) with
    | false => rfl
    | true =>
      rw [decide_eq_true_eq] at h1 h2
      obtain ⟨i, rfl⟩ : ∃ i : Nat, n = i := ⟨n.toNat, by omega⟩
      have : ∀ i, i < 8 → memT (Chg'.of c.cs).v.t i = memT c.v.t i := by refine all8 ?_ ?_ ?_ ?_ ?_ ?_ ?_ ?_ <;> kernel_rfl
      exact this i (by omega)
theorem remR_of (c : Chg') (n : Int) : (remR (Chg'.of c.cs) n).1 = (remR c n).1 ∧ (remR (Chg'.of c.cs) n).2.cs = (remR c n).2.cs := by
  cases h : memI c.v n with
  | false =>
    have h' : memI (Chg'.of c.cs).v n = false := by rw [memI_ofc, h]
    unfold remR
    rw [h, h']
    exact ⟨rfl, by kernel_rfl⟩
  | true =>
    have h' : memI (Chg'.of c.cs).v n = true := by rw [memI_ofc, h]
    obtain ⟨i, hi, rfl, _⟩ := memI_no h
    unfold remR
    rw [h, h']
    have e1 : (Chg'.of c.cs).fr = c.fr := rfl
    rw [e1]
    cases h2 : (i : Int) == c.fr with
    | true => exact ⟨rfl, by kernel_rfl⟩
    | false =>
      refine ⟨rfl, ?_⟩
      show (remN (Chg'.of c.cs) (i : Int).toNat).cs = (remN c (i : Int).toNat).cs
      rw [Int.toNat_natCast]
      have : ∀ i, i < 8 → (remN (Chg'.of c.cs) i).cs = (remN c i).cs := by refine all8 ?_ ?_ ?_ ?_ ?_ ?_ ?_ ?_ <;> kernel_rfl
      exact this i hi
theorem admR_of (c : Chg') (n : Int) (b : Bool) : (admR (Chg'.of c.cs) n b).1 = (admR c n b).1 ∧ (admR (Chg'.of c.cs) n b).2.cs = (admR c n b).2.cs := by
  cases h : memI c.v n with
  | false =>
    have h' : memI (Chg'.of c.cs).v n = false := by rw [memI_ofc, h]
    unfold admR
    rw [h, h']
    exact ⟨rfl, by kernel_rfl⟩
  | true =>
    have h' : memI (Chg'.of c.cs).v n = true := by rw [memI_ofc, h]
    obtain ⟨i, hi, rfl, _⟩ := memI_no h
    have e1 : ∀ i, i < 8 → (Chg'.of c.cs).v.ad i = c.v.ad i := by refine all8 ?_ ?_ ?_ ?_ ?_ ?_ ?_ ?_ <;> kernel_rfl
    have e2 : ∀ i, i < 8 → (admN (Chg'.of c.cs) i b).cs = (admN c i b).cs := by refine all8 ?_ ?_ ?_ ?_ ?_ ?_ ?_ ?_ <;> kernel_rfl
    unfold admR
    rw [h, h', Int.toNat_natCast, e1 i hi]
    cases h2 : c.v.ad i == b with
    | true => exact ⟨rfl, by kernel_rfl⟩
    | false => exact ⟨rfl, e2 i hi⟩
theorem opR_of (c : Chg') (o : Ope) : (opR (Chg'.of c.cs) o).1 = (opR c o).1 ∧ (opR (Chg'.of c.cs) o).2.cs = (opR c o).2.cs := by
  unfold opR
  cases o.kind == 1 with
  | true => exact addR_of c o.sg o.sl
  | false =>
  cases o.kind == 2 with
  | true => exact remR_of c o.who
  | false =>
  cases o.kind == 3 with
  | true => exact admR_of c o.who true
  | false =>
  cases o.kind == 4 with
  | true => exact admR_of c o.who false
  | false =>
    simp only [cond_false]
    unfold limR
    cases decide (o.k < 1) with
    | true => exact ⟨rfl, by kernel_rfl⟩
    | false =>
      cases decide (o.k > 8) with
      | true => exact ⟨rfl, by kernel_rfl⟩
      | false => exact ⟨rfl, rfl⟩

theorem addW_ok : ConOK Tryz.prog fAdd addW := chW_ok (fn := Tryz.f81) (by kernel_rfl) rfl rfl (fun c ps h => by
  unfold argA at h
  split at h <;> try (cases h; done)
  exact add_step c _ _) (fun c ps h => by
  unfold argA at h
  split at h <;> try (cases h; done)
  exact addR_of c _ _)
theorem remW_ok : ConOK Tryz.prog fRem remW := chW_ok (fn := Tryz.f82) (by kernel_rfl) rfl rfl (fun c ps h => by
  unfold argR at h
  split at h <;> try (cases h; done)
  exact rem_step c _) (fun c ps h => by
  unfold argR at h
  split at h <;> try (cases h; done)
  exact remR_of c _)
theorem admW_ok : ConOK Tryz.prog fAdmin admW := chW_ok (fn := Tryz.f83) (by kernel_rfl) rfl rfl (fun c ps h => by
  unfold argM at h
  split at h <;> try (cases h; done)
  exact adm_step c _ _) (fun c ps h => by
  unfold argM at h
  split at h <;> try (cases h; done)
  exact admR_of c _ _)
abbrev opL : List (Nat × Con) := [(fAdd, addW), (fRem, remW), (fAdmin, admW)]
theorem opL_ok : LibOK Tryz.prog opL := LibOK.cons addW_ok (LibOK.cons remW_ok (LibOK.cons admW_ok (LibOK.nil _)))
def kn4 (k : Int) : Bool := tn (tn (tn (tn true (k == 1)) (k == 2)) (k == 3)) (k == 4)
theorem op_1 (c : Chg') (ty : TypeId) (w k s p : Int) : runM opL fOp [.agg [.int 1, .int w, .int k, .int s, .int p]] c ty [] = some (true, [], .c (.int (addR (Chg'.of c.cs) s p).1), some ⟨(addR (Chg'.of c.cs) s p).2.cs, ty, false, true⟩) := by kernel_rfl
theorem op_2 (c : Chg') (ty : TypeId) (w k s p : Int) : runM opL fOp [.agg [.int 2, .int w, .int k, .int s, .int p]] c ty [] = some (true, [], .c (.int (remR (Chg'.of c.cs) w).1), some ⟨(remR (Chg'.of c.cs) w).2.cs, ty, false, true⟩) := by kernel_rfl
theorem op_3 (c : Chg') (ty : TypeId) (w k s p : Int) : runM opL fOp [.agg [.int 3, .int w, .int k, .int s, .int p]] c ty [] = some (true, [], .c (.int (admR (Chg'.of c.cs) w true).1), some ⟨(admR (Chg'.of c.cs) w true).2.cs, ty, false, true⟩) := by kernel_rfl
theorem op_4 (c : Chg') (ty : TypeId) (w k s p : Int) : runM opL fOp [.agg [.int 4, .int w, .int k, .int s, .int p]] c ty [] = some (true, [], .c (.int (admR (Chg'.of c.cs) w false).1), some ⟨(admR (Chg'.of c.cs) w false).2.cs, ty, false, true⟩) := by kernel_rfl
theorem op_5 (c : Chg') (ty : TypeId) (a w k s p : Int) : runM opL fOp [.agg [.int a, .int w, .int k, .int s, .int p]] c ty [false, false, false, false, true] = some (tg (kn4 a) (decide (k < 1)) true, [], .c (.int 7), some ⟨c.cs, ty, false, true⟩) := by kernel_rfl
theorem op_6 (c : Chg') (ty : TypeId) (a w k s p : Int) : runM opL fOp [.agg [.int a, .int w, .int k, .int s, .int p]] c ty [false, false, false, false, false, true] = some (ty_ (tg (kn4 a) (decide (k < 1)) false) (decide (k > 8)), [], .c (.int 7), some ⟨c.cs, ty, false, true⟩) := by kernel_rfl
theorem op_7 (c : Chg') (ty : TypeId) (a w k s p : Int) : runM opL fOp [.agg [.int a, .int w, .int k, .int s, .int p]] c ty [false, false, false, false, false, false] = some (tn (tg (kn4 a) (decide (k < 1)) false) (decide (k > 8)), [], .c (.int 0), some ⟨(limN c k).cs, ty, false, true⟩) := by kernel_rfl
theorem op_step (c : Chg') (o : Ope) : ObjStep Tryz.prog fOp 0 c.cs [.agg o.cs] (.c (.int (opR c o).1)) (opR c o).2.cs := by
  obtain ⟨a, w, k, s, p⟩ := o
  unfold opR
  cases h1 : a == 1 with
  | true =>
    rw [beq_iff_eq] at h1; subst h1
    have := addR_of c s p
    exact ch_step (c' := (addR c s p).2) (e := (addR c s p).1) opL_ok (fun ty => by rw [← this.1, ← this.2]; exact op_1 c ty w k s p) rfl rfl
  | false =>
  cases h2 : a == 2 with
  | true =>
    rw [beq_iff_eq] at h2; subst h2
    have := remR_of c w
    exact ch_step (c' := (remR c w).2) (e := (remR c w).1) opL_ok (fun ty => by rw [← this.1, ← this.2]; exact op_2 c ty w k s p) rfl rfl
  | false =>
  cases h3 : a == 3 with
  | true =>
    rw [beq_iff_eq] at h3; subst h3
    have := admR_of c w true
    exact ch_step (c' := (admR c w true).2) (e := (admR c w true).1) opL_ok (fun ty => by rw [← this.1, ← this.2]; exact op_3 c ty w k s p) rfl rfl
  | false =>
  cases h4 : a == 4 with
  | true =>
    rw [beq_iff_eq] at h4; subst h4
    have := admR_of c w false
    exact ch_step (c' := (admR c w false).2) (e := (admR c w false).1) opL_ok (fun ty => by rw [← this.1, ← this.2]; exact op_4 c ty w k s p) rfl rfl
  | false =>
    have hk : kn4 a = true := tn_eq (tn_eq (tn_eq (tn_eq rfl h1) h2) h3) h4
    simp only [cond_false]
    unfold limR
    cases hA : decide (k < 1) with
    | true => exact ch_step opL_ok (fun ty => op_5 c ty a w k s p) (tg_eq hk hA) rfl
    | false =>
      cases hB : decide (k > 8) with
      | true => exact ch_step opL_ok (fun ty => op_6 c ty a w k s p) (ty_eq (tg_eq hk hA) hB) rfl
      | false => exact ch_step opL_ok (fun ty => op_7 c ty a w k s p) (tn_eq (tg_eq hk hA) hB) rfl
theorem opW_ok : ConOK Tryz.prog fOp opW := chW_ok (fn := Tryz.f52) (by kernel_rfl) rfl rfl (fun c ps h => by
  unfold argO at h
  split at h <;> try (cases h; done)
  exact op_step c ⟨_, _, _, _, _⟩) (fun c ps h => by
  unfold argO at h
  split at h <;> try (cases h; done)
  exact opR_of c ⟨_, _, _, _, _⟩)

/-! Rows of operations. -/
def opAt (r : RB) (i : Nat) : Ope := ⟨gI r.b.cells (r.off + i * 5), gI r.b.cells (r.off + i * 5 + 1), gI r.b.cells (r.off + i * 5 + 1 + 1), gI r.b.cells (r.off + i * 5 + 1 + 1 + 1), gI r.b.cells (r.off + i * 5 + 1 + 1 + 1 + 1)⟩
def okOps (r : RB) : Bool := Nat.ble (r.off + r.n * 5) r.b.cells.length && ((r.b.cells.drop r.off).take (r.n * 5)).all SC.isInt
def isI (cs : List SC) (i : Nat) : Bool := (cs.getD i .nilp).isInt
def ldO (r : RB) (i : Nat) (acc : Bool) : Bool := bnd (bnd acc (decide (0 ≤ (i : Int)) && (Nat.blt (i : Int).toNat r.n && true)))
  (Nat.ble (r.off + i * 5 + 5) r.b.cells.length && (isI r.b.cells (r.off + i * 5) && (isI r.b.cells (r.off + i * 5 + 1) && (isI r.b.cells (r.off + i * 5 + 1 + 1) && (isI r.b.cells (r.off + i * 5 + 1 + 1 + 1) && (isI r.b.cells (r.off + i * 5 + 1 + 1 + 1 + 1) && true))))))
theorem isI_of {r : RB} (h : okOps r = true) {j : Nat} (hj : j < r.n * 5) : isI r.b.cells (r.off + j) = true := by
  unfold okOps at h
  simp only [Bool.and_eq_true, Nat.ble_eq, List.all_eq_true] at h
  have hlt : r.off + j < r.b.cells.length := by omega
  unfold isI
  have hg : r.b.cells.getD (r.off + j) .nilp = r.b.cells[r.off + j] := by simp [List.getD, List.getElem?_eq_getElem hlt]
  rw [hg]
  refine h.2 _ ?_
  have : ((r.b.cells.drop r.off).take (r.n * 5))[j]? = some r.b.cells[r.off + j] := by
    rw [List.getElem?_take_of_lt hj, List.getElem?_drop, List.getElem?_eq_getElem hlt]
  exact List.mem_of_getElem? this
theorem ldO_eq {r : RB} (h : okOps r = true) {i : Nat} (hi : i < r.n) (acc : Bool) : ldO r i acc = acc := by
  have hl : r.off + r.n * 5 ≤ r.b.cells.length := by
    unfold okOps at h
    simp only [Bool.and_eq_true, Nat.ble_eq] at h
    exact h.1
  have hI : ∀ k, k < 5 → isI r.b.cells (r.off + i * 5 + k) = true := fun k hk => by
    rw [Nat.add_assoc]; exact isI_of h (by omega)
  have h0 := hI 0 (by omega)
  have h1 := hI 1 (by omega)
  have h2 := hI 2 (by omega)
  have h3 := hI 3 (by omega)
  have h4 := hI 4 (by omega)
  unfold ldO
  have e1 : decide (0 ≤ (i : Int)) = true := decide_eq_true (by omega)
  have e2 : Nat.blt (i : Int).toNat r.n = true := by rw [Int.toNat_natCast, Nat.blt_eq]; exact hi
  have e3 : Nat.ble (r.off + i * 5 + 5) r.b.cells.length = true := by rw [Nat.ble_eq]; omega
  simp only [Nat.add_assoc] at h0 h1 h2 h3 h4 e3 ⊢
  rw [e1, e2, e3]
  simp only [Nat.reduceAdd, Nat.add_zero] at h0 h1 h2 h3 h4 ⊢
  rw [h0, h1, h2, h3, h4]
  rfl
theorem sole_plain {cs : List SC} (h : cs.all SC.sole = true) : cs.all SC.plain = true := by
  rw [List.all_eq_true] at h ⊢
  intro x hx
  have := h x hx
  cases x <;> first | rfl | (simp [SC.sole] at this; done) | skip
  rename_i f caps
  cases caps with
  | nil => rfl
  | cons a r => simp [SC.sole] at this

/-! Is one of them odd? -/
abbrev fOdd : Nat := 47
abbrev fIdxO : Nat := 80
abbrev fConO : Nat := 50
def oddC : Con := pureCon fun | [.agg [.int a, .int b, .int c, .int d, .int e]] => some (.c (.bool (!opOk ⟨a, b, c, d, e⟩))) | _ => none
theorem odd_ok : ConOK Tryz.prog fOdd oddC := by
  refine pureCon_ok (fn := Tryz.f47) (by kernel_rfl) rfl rfl fun args v h => ?_
  split at h <;> try (cases h; done)
  rename_i a b c d e
  simp only [Option.some.injEq] at h; subst h
  exact ⟨rfl, rfl, fun w => Fn.xvL (fuel := 1000) (LibOK.cons isOp_ok (LibOK.nil _)) Sp.mixed [] (r := .c (.bool (!opOk ⟨a, b, c, d, e⟩))) (ob := true) (obs := []) (by kernel_rfl) rfl trivial rfl⟩
def oddF (r : RB) (i : Nat) : Bool := !opOk (opAt r i)
def idxV (a : Option Nat) : Int := match a with | some i => i | none => -1
def idxO (r : RB) : Int := idxV (fstF (oddF r) r.n)
def idxOC : Con := sVal [some 5, none] fun ps rs => match ps, rs with | [.c (.fn f [])], [r] => bif Nat.beq f fOdd then some (okOps r && Nat.ble r.n 1000000, .c (.int (idxO r))) else none | _, _ => none
abbrev idxOL : List (Nat × Con) := [(fOdd, oddC)]
theorem idxOL_ok : LibOK Tryz.prog idxOL := LibOK.cons odd_ok (LibOK.nil _)
def idxI (r : RB) (i : Int) : St := ⟨[(0, .c (.slc 0 r.off 5 r.n none)), (1, .c (.fn fOdd [])), (4, .c (.int 0)), (7, .c (.int r.n)), (8, .c (.int i))], [(0, some r.b)], 1, 19⟩
def idxCut : Cut := ⟨[(0, false), (1, false), (4, true), (7, true), (8, true)], [(0, 0, true)], 1⟩
def pl (r : RB) : Bool := r.b.cells.all SC.plain && true
theorem pl_eq {r : RB} (h : RBok r) : pl r = true := by unfold pl; rw [sole_plain h.2.2]; rfl
theorem idxO_fn (r : RB) (hr : RBok r) (ho : okOps r = true) (hn : r.n ≤ 1000000) (w : World) : Sx.Fn Tryz.prog fIdxO (atW w 0) [.c (.slc 0 r.off 5 r.n none), .c (.fn fOdd [])] [(0, some r.b)] 1 fun v _ => v = .c (.int (idxO r)) := by
  have hpl := pl_eq hr
  refine Sx.Fn.of (nt := 19) (by kernel_rfl) rfl ?_
  refine SWs.stepL idxOL_ok Sp.mixed (fuel := 1000) (n := 2) [] (un := []) (c := idxCut) (t := idxI r 0) (ob := bnd true (pl r)) (obs := []) (by kernel_rfl) (bnd_eq rfl hpl) trivial ?_
  refine SWs.loop (by kernel_rfl) (fun i : Nat => idxI r i) (fun i => r.n - i) (fun i => i ≤ r.n ∧ fstF (oddF r) i = none) 0 ⟨by omega, rfl⟩ ?_
  rintro i ⟨hi, hf⟩
  by_cases hlt : i < r.n
  · have hc : decide ((i : Int) < (r.n : Int)) = true := decide_eq_true (by omega)
    cases hodd : oddF r i with
    | true =>
      refine SWs.retR idxOL_ok Sp.mixed (fuel := 1000) (n := 4) [true, true] (ob := ty_ (ldO r i (ty_ true (decide ((i : Int) < (r.n : Int))))) (oddF r i)) (obs := []) (v := .c (.int i)) (by kernel_rfl) (ty_eq (by rw [ldO_eq ho hlt]; exact ty_eq rfl hc) hodd) trivial fun _ => ?_
      have : fstF (oddF r) r.n = some i := by
        cases h : fstF (oddF r) r.n with
        | none => rw [fstF_none h i hlt] at hodd; cases hodd
        | some j =>
          obtain ⟨h1, h2, h3⟩ := fstF_some h
          have hji : ¬ j < i := fun hji => by rw [fstF_none hf j hji] at h2; cases h2
          have hij : ¬ i < j := fun hij => by rw [h3 i hij] at hodd; cases hodd
          congr 1; omega
      unfold idxO idxV
      rw [this]
    | false =>
      refine SWs.roundL idxOL_ok Sp.mixed (fuel := 1000) (n := 4) [true, false] (un := []) (c := idxCut) (t := idxI r (IntKind.i64.wrap ((i : Int) + 1))) (ob := bnd (tn (ldO r i (ty_ true (decide ((i : Int) < (r.n : Int))))) (oddF r i)) (pl r)) (obs := []) (by kernel_rfl) rfl (bnd_eq (tn_eq (by rw [ldO_eq ho hlt]; exact ty_eq rfl hc) hodd) hpl) trivial ⟨i + 1, ⟨by omega, ?_⟩, by omega, ?_⟩
      · unfold fstF; rw [hf, hodd]; rfl
      · rw [wrapN (by omega) (by omega)]; rfl
  · obtain rfl : i = r.n := by omega
    refine SWs.outL idxOL_ok Sp.mixed (fuel := 1000) (n := 2) [false] (un := []) (c := idxCut) (t := idxI r r.n) (ob := bnd (tn true (decide ((r.n : Int) < (r.n : Int)))) (pl r)) (obs := []) (by kernel_rfl) (bnd_eq (tn_eq rfl (decide_eq_false (by omega))) hpl) trivial ?_
    exact SWs.finvL idxOL_ok Sp.mixed (fuel := 1000) (n := 100) [] (ob := true) (obs := []) (v := .c (.int (-1))) (by kernel_rfl) rfl trivial (by unfold idxO idxV; rw [hf])
theorem idxO_ok : ConOK Tryz.prog fIdxO idxOC := by
  refine sVal_ok (fn := Tryz.f80) (by kernel_rfl) rfl rfl fun ps rs v h hps hrs => ?_
  split at h <;> try (cases h; done)
  rename_i f r
  cases hf : Nat.beq f fOdd with
  | false => rw [hf] at h; cases h
  | true =>
    rw [hf] at h
    obtain rfl := Nat.eq_of_beq_eq_true hf
    simp only [cond_true, Option.some.injEq, Prod.mk.injEq, Bool.and_eq_true, Nat.ble_eq] at h
    obtain ⟨⟨ho, hn⟩, rfl⟩ := h
    exact ⟨rfl, fun w => idxO_fn r (hrs r (by simp)) ho hn w⟩
def conOC : Con := sVal [some 5, none] fun ps rs => match ps, rs with | [.c (.fn f [])], [r] => bif Nat.beq f fOdd then some (okOps r && Nat.ble r.n 1000000, .c (.bool (decide (idxO r ≥ 0)))) else none | _, _ => none
theorem conO_ok : ConOK Tryz.prog fConO conOC := by
  refine sVal_ok (fn := Tryz.f50) (by kernel_rfl) rfl rfl fun ps rs v h hps hrs => ?_
  split at h <;> try (cases h; done)
  rename_i f r
  cases hf : Nat.beq f fOdd with
  | false => rw [hf] at h; cases h
  | true =>
    rw [hf] at h
    obtain rfl := Nat.eq_of_beq_eq_true hf
    simp only [cond_true, Option.some.injEq, Prod.mk.injEq, Bool.and_eq_true, Nat.ble_eq] at h
    obtain ⟨⟨ho, hn⟩, rfl⟩ := h
    refine ⟨rfl, fun w => ?_⟩
    obtain ⟨off, n, cells, ty, tail, own⟩ := r
    obtain ⟨h1, h2, h3⟩ := hrs _ List.mem_cons_self
    simp only at h1 h2
    subst h1 h2
    exact Fn.xvL (fuel := 1000) (LibOK.cons idxO_ok (LibOK.nil _)) Sp.mixed [] (r := .c (.bool (decide (idxO ⟨off, n, ⟨cells, ty, true, false⟩⟩ ≥ 0)))) (ob := bnd true ((cells.all SC.sole && true) && (okOps ⟨off, n, ⟨cells, ty, true, false⟩⟩ && Nat.ble n 1000000))) (obs := []) (by kernel_rfl)
      (bnd_eq rfl (by simp only [Bool.and_eq_true, Nat.ble_eq]; exact ⟨⟨h3, trivial⟩, ho, hn⟩)) trivial rfl

end Go.Proofs.YtabiknpgakhkkaaGreat.Vw
end

section
namespace Go.Proofs.YtabiknpgakhkkaaGreat.Vw
open Go.RowKit Go.Proofs.YtabiknpgakhkkaaGreat.Sx Go.Proofs.YtabiknpgakhkkaaGreat.Pw
set_option linter.unusedVariables false
set_option linter.unusedSimpArgs false

abbrev fApp : Nat := 21
abbrev tB8 : Nat := 28
def no8 : Nat → Bool := fun _ => false
def zeroV : Vi := ⟨0, ⟨fun _ => 0, fun _ => 0, fun _ => 0⟩, no8, 0, fun _ => 0⟩
def resT (v : Vi) (a g : Nat → Bool) (e : Int) : SV := .tup [.inr v.cs, .inr (adC a), .inr (adC g), .inl (.int e)]
def AA (a : Nat → Bool) : Prop := SV.agg (adC a) = SV.agg (adC a)
def obs3 : List Prop := [AA no8, AA no8, AA no8]
theorem obs3_ok : All obs3 := ⟨rfl, rfl, rfl, trivial⟩
abbrev apL : List (Nat × Con) := [(fVIs, vIsC), (fConO, conOC), (fMem, memC), (fOp, opW), (fAdm, admC)]
theorem apL_ok : LibOK Tryz.prog apL := LibOK.cons vIs_ok (LibOK.cons conO_ok (LibOK.cons mem_ok (LibOK.cons opW_ok (LibOK.cons adm_ok (LibOK.nil _)))))
def rbO (off n : Nat) (cells : List SC) (ty : TypeId) : RB := ⟨off, n, ⟨cells, ty, true, false⟩⟩
def apA (v : Vi) : Bool := !isVS (Vi.of v.cs)
def conOb (r : RB) : Bool := (r.b.cells.all SC.sole && true) && (okOps r && Nat.ble r.n 1000000)
theorem conOb_eq {r : RB} (h : RBok r) (ho : okOps r = true) (hn : r.n ≤ 1000000) : conOb r = true := by
  unfold conOb
  simp only [Bool.and_eq_true, Nat.ble_eq]
  exact ⟨⟨h.2.2, trivial⟩, ho, hn⟩
def apI (r : RB) (cs : List SC) (i : Int) : St := ⟨[(6, .c (.ptr 1 0)), (7, .c (.ptr 2 0)), (8, .c (.ptr 3 0)), (9, .c (.int 0)), (11, .c (.ptr 4 0)), (44, .c (.slc 0 r.off 5 r.n none)), (45, .c (.int r.n)), (46, .c (.int i))],
  [(0, some r.b), (1, some ⟨zeroV.cs, tView, false, true⟩), (2, some ⟨adC no8, tB8, false, true⟩), (3, some ⟨adC no8, tB8, false, true⟩), (4, some ⟨cs, tChange, false, true⟩)], 5, 86⟩
def apCut (a b c d : Nat) : Cut := ⟨[(6, false), (7, false), (8, false), (9, true), (11, false), (44, false), (45, true), (46, true)], [(0, 0, true), (a, 1, true), (b, 2, true), (c, 3, true), (d, 4, true)], 5⟩
def ap1 (v : Vi) (r : RB) : Bool := bnd (tg (tg true (apA v) false) (decide ((r.n : Int) > 4)) false) (conOb r)
def ap2 (v : Vi) (f : Int) (r : RB) : Bool := tn (tn (ap1 v r) (decide (idxO r ≥ 0))) (!memI (Vi.of v.cs) f)
def startC (v : Vi) (f : Int) : Chg' := ⟨v, f, no8, no8⟩
theorem ap_e1 (v : Vi) (f : Int) (off n : Nat) (cells : List SC) (ty : TypeId) (w : World) (h : apA v = true) : Sx.Fn Tryz.prog fApp (atW w 0) [.agg v.cs, .c (.int f), .c (.slc 0 off 5 n none)] [(0, some ⟨cells, ty, true, false⟩)] 1 fun x _ => x = resT zeroV no8 no8 1 :=
  Fn.xvL (fuel := 1000) apL_ok Sp.mixed [true] (r := resT zeroV no8 no8 1) (ob := tg true (apA v) true) (obs := obs3) (by kernel_rfl) (tg_eq rfl h) obs3_ok rfl
theorem ap_e2 (v : Vi) (f : Int) (off n : Nat) (cells : List SC) (ty : TypeId) (w : World) (h : apA v = false) (h2 : decide ((n : Int) > 4) = true) : Sx.Fn Tryz.prog fApp (atW w 0) [.agg v.cs, .c (.int f), .c (.slc 0 off 5 n none)] [(0, some ⟨cells, ty, true, false⟩)] 1 fun x _ => x = resT zeroV no8 no8 1 :=
  Fn.xvL (fuel := 1000) apL_ok Sp.mixed [false, true] (r := resT zeroV no8 no8 1) (ob := tg (tg true (apA v) false) (decide ((n : Int) > 4)) true) (obs := obs3) (by kernel_rfl) (tg_eq (tg_eq rfl h) h2) obs3_ok rfl
theorem ap_e3 (v : Vi) (f : Int) (off n : Nat) (cells : List SC) (ty : TypeId) (w : World) (h : ap1 v (rbO off n cells ty) = true) (h2 : decide (idxO (rbO off n cells ty) ≥ 0) = true) : Sx.Fn Tryz.prog fApp (atW w 0) [.agg v.cs, .c (.int f), .c (.slc 0 off 5 n none)] [(0, some ⟨cells, ty, true, false⟩)] 1 fun x _ => x = resT zeroV no8 no8 1 :=
  Fn.xvL (fuel := 1000) apL_ok Sp.mixed [false, false, true] (r := resT zeroV no8 no8 1) (ob := ty_ (ap1 v (rbO off n cells ty)) (decide (idxO (rbO off n cells ty) ≥ 0))) (obs := obs3) (by kernel_rfl) (ty_eq h h2) obs3_ok rfl
theorem ap_e4 (v : Vi) (f : Int) (off n : Nat) (cells : List SC) (ty : TypeId) (w : World) (h : ap1 v (rbO off n cells ty) = true) (h2 : decide (idxO (rbO off n cells ty) ≥ 0) = false) (h3 : (!memI (Vi.of v.cs) f) = true) : Sx.Fn Tryz.prog fApp (atW w 0) [.agg v.cs, .c (.int f), .c (.slc 0 off 5 n none)] [(0, some ⟨cells, ty, true, false⟩)] 1 fun x _ => x = resT zeroV no8 no8 6 :=
  Fn.xvL (fuel := 1000) apL_ok Sp.mixed [false, false, false, true] (r := resT zeroV no8 no8 6) (ob := ty_ (tn (ap1 v (rbO off n cells ty)) (decide (idxO (rbO off n cells ty) ≥ 0))) (!memI (Vi.of v.cs) f)) (obs := obs3) (by kernel_rfl) (ty_eq (tn_eq h h2) h3) obs3_ok rfl

/-- All operations, one by one. -/
def runL : List Ope → Chg' → Int × Chg'
  | [], c => (0, c)
  | o :: l, c => bif (opR c o).1 == 0 then runL l (opR c o).2 else ((opR c o).1, c)
def opsL (r : RB) : List Ope := (List.range r.n).map (opAt r)
theorem opsL_drop (r : RB) (i : Nat) (hi : i < r.n) : (opsL r).drop i = opAt r i :: (opsL r).drop (i + 1) := by
  have hl : i < (opsL r).length := by unfold opsL; simpa using hi
  have hg : (opsL r)[i]? = some (opAt r i) := by unfold opsL; simp [hi]
  rw [List.getElem?_eq_getElem hl] at hg
  rw [List.drop_eq_getElem_cons hl, Option.some.inj hg]
/-- What Apply answers. -/
def endR (q : Int × Chg') : SV := bif q.1 == 0 then (bif decide (admS q.2.v < q.2.v.k) then resT zeroV no8 no8 7 else resT q.2.v q.2.ad q.2.gn 0) else resT zeroV no8 no8 q.1
def applyR (v : Vi) (f : Int) (l : List Ope) : SV := bif !isVS v then resT zeroV no8 no8 1 else bif decide ((l.length : Int) > 4) then resT zeroV no8 no8 1 else bif l.any (fun o => !opOk o) then resT zeroV no8 no8 1 else
  bif !memI v f then resT zeroV no8 no8 6 else endR (runL l (startC v f))
theorem isVS_of (v : Vi) : isVS (Vi.of v.cs) = isVS v := by kernel_rfl
theorem admS_of (v : Vi) : admS (Vi.of v.cs) = admS v := by kernel_rfl
theorem any_odd (r : RB) : (opsL r).any (fun o => !opOk o) = decide (idxO r ≥ 0) := by
  unfold idxO idxV
  cases h : fstF (oddF r) r.n with
  | none =>
    have : (opsL r).any (fun o => !opOk o) = false := by
      rw [List.any_eq_false]
      intro o ho
      unfold opsL at ho
      obtain ⟨j, hj, rfl⟩ := List.mem_map.1 ho
      have := fstF_none h j (by simpa using hj)
      unfold oddF at this
      rw [this]; simp
    rw [this]; rfl
  | some i =>
    obtain ⟨h1, h2, _⟩ := fstF_some h
    have : (opsL r).any (fun o => !opOk o) = true := by
      rw [List.any_eq_true]
      refine ⟨opAt r i, ?_, h2⟩
      unfold opsL
      exact List.mem_map.2 ⟨i, by simpa using h1, rfl⟩
    rw [this]
    exact (decide_eq_true (by simp only; omega)).symm

def ltO (r : RB) (i : Nat) : Bool := ty_ true (decide ((i : Int) < (r.n : Int)))
def opE (r : RB) (c : Chg') (i : Nat) : Int := (opR (Chg'.of c.cs) (opAt r i)).1
def neE (r : RB) (c : Chg') (i : Nat) : Bool := opE r c i != 0
theorem ap_round (off n : Nat) (cells : List SC) (ty : TypeId) (c : Chg') (i : Nat) : stepL Tryz.prog apL 0 1000 4 (loopB ((bodyOf Tryz.prog fApp).drop 5)) (apI (rbO off n cells ty) c.cs i) [true, false] [] (apCut 1 2 3 4) =
    some (bnd (tn (ldO (rbO off n cells ty) i (ltO (rbO off n cells ty) i)) (neE (rbO off n cells ty) c i)) (pl (rbO off n cells ty)), [], apI (rbO off n cells ty) (opR (Chg'.of c.cs) (opAt (rbO off n cells ty) i)).2.cs (IntKind.i64.wrap ((i : Int) + 1))) := by kernel_rfl
theorem ap_no (off n : Nat) (cells : List SC) (ty : TypeId) (c : Chg') (i : Nat) : retL Tryz.prog apL fApp 1000 4 (loopB ((bodyOf Tryz.prog fApp).drop 5)) (apI (rbO off n cells ty) c.cs i) [true, true] =
    some (ty_ (ldO (rbO off n cells ty) i (ltO (rbO off n cells ty) i)) (neE (rbO off n cells ty) c i), obs3, resT zeroV no8 no8 (opE (rbO off n cells ty) c i)) := by kernel_rfl
theorem ap_start (v : Vi) (f : Int) (off n : Nat) (cells : List SC) (ty : TypeId) : stepL Tryz.prog apL 0 1000 5 (bodyOf Tryz.prog fApp) ⟨argTmps [.agg v.cs, .c (.int f), .c (.slc 0 off 5 n none)] 0, [(0, some ⟨cells, ty, true, false⟩)], 1, 86⟩ [false, false, false, false] [] (apCut 5 9 13 113) =
    some (bnd (ap2 v f (rbO off n cells ty)) (pl (rbO off n cells ty)), [], apI (rbO off n cells ty) (startC v f).cs 0) := by kernel_rfl
theorem ap_out (off n : Nat) (cells : List SC) (ty : TypeId) (c : Chg') : exitL Tryz.prog apL 0 1000 2 (loopB ((bodyOf Tryz.prog fApp).drop 5)) (apI (rbO off n cells ty) c.cs n) [false] [] (apCut 1 2 3 4) =
    some (1, bnd (tn true (decide ((n : Int) < (n : Int)))) (pl (rbO off n cells ty)), [], apI (rbO off n cells ty) c.cs n) := by kernel_rfl
def admLt (c : Chg') : Bool := decide (admS (Vi.of c.v.cs) < c.v.k)
theorem ap_end1 (off n : Nat) (cells : List SC) (ty : TypeId) (c : Chg') : (finL Tryz.prog apL fApp 1000 100 ((bodyOf Tryz.prog fApp).drop 6) (apI (rbO off n cells ty) c.cs n) [true]).map (fun q => (q.1, q.2.1, q.2.2.1)) =
    some (ty_ true (admLt c), obs3, resT zeroV no8 no8 7) := by kernel_rfl
theorem ap_end2 (off n : Nat) (cells : List SC) (ty : TypeId) (c : Chg') : (finL Tryz.prog apL fApp 1000 100 ((bodyOf Tryz.prog fApp).drop 6) (apI (rbO off n cells ty) c.cs n) [false]).map (fun q => (q.1, q.2.1, q.2.2.1)) =
    some (tn true (admLt c), [AA c.ad, AA c.gn, AA c.gn], resT c.v c.ad c.gn 0) := by kernel_rfl

theorem apply_fn (v : Vi) (f : Int) (r : RB) (hr : RBok r) (ho : okOps r = true) (w : World) : Sx.Fn Tryz.prog fApp (atW w 0) [.agg v.cs, .c (.int f), .c (.slc 0 r.off 5 r.n none)] [(0, some r.b)] 1 fun x _ => x = applyR v f (opsL r) := by
  have hlen : (opsL r).length = r.n := by unfold opsL; simp
  obtain ⟨off, n, cells, ty, tail, own⟩ := r
  obtain ⟨hown, htail, hsole⟩ := hr
  simp only at hown htail
  subst hown htail
  have hr : RBok (rbO off n cells ty) := ⟨rfl, rfl, hsole⟩
  have ho : okOps (rbO off n cells ty) = true := ho
  have hlen : (opsL (rbO off n cells ty)).length = n := hlen
  have hpl := pl_eq hr
  show Sx.Fn Tryz.prog fApp (atW w 0) [.agg v.cs, .c (.int f), .c (.slc 0 off 5 n none)] [(0, some ⟨cells, ty, true, false⟩)] 1 fun x _ => x = applyR v f (opsL (rbO off n cells ty))
  unfold applyR
  rw [hlen, any_odd]
  cases h1 : isVS v with
  | false => exact ap_e1 v f off n cells ty w (by unfold apA; rw [isVS_of, h1]; rfl)
  | true =>
  have hA : apA v = false := by unfold apA; rw [isVS_of, h1]; rfl
  cases h2 : decide ((n : Int) > 4) with
  | true => exact ap_e2 v f off n cells ty w hA h2
  | false =>
  have hn : n ≤ 4 := by rw [decide_eq_false_iff_not] at h2; omega
  have hB : ap1 v (rbO off n cells ty) = true := bnd_eq (tg_eq (tg_eq rfl hA) h2) (conOb_eq hr ho (by show n ≤ 1000000; omega))
  cases h3 : decide (idxO (rbO off n cells ty) ≥ 0) with
  | true => exact ap_e3 v f off n cells ty w hB h3
  | false =>
  cases h4 : memI v f with
  | false => exact ap_e4 v f off n cells ty w hB h3 (by rw [memI_of, h4]; rfl)
  | true =>
  have hC : ap2 v f (rbO off n cells ty) = true := tn_eq (tn_eq hB h3) (by rw [memI_of, h4]; rfl)
  refine Sx.Fn.of (nt := 86) (by kernel_rfl) rfl ?_
  refine SWs.stepL apL_ok Sp.mixed [false, false, false, false] (ap_start v f off n cells ty) (bnd_eq hC hpl) trivial ?_
  simp only [Bool.not_true, cond_false]
  refine SWs.loop (by kernel_rfl) (fun q : Chg' × Nat => apI (rbO off n cells ty) q.1.cs q.2) (fun q => n - q.2) (fun q => q.2 ≤ n ∧ runL ((opsL (rbO off n cells ty)).drop q.2) q.1 = runL (opsL (rbO off n cells ty)) (startC v f)) (startC v f, 0) ⟨by omega, rfl⟩ ?_
  rintro ⟨c, i⟩ ⟨hi, hrun⟩
  simp only at hi hrun
  by_cases hlt : i < n
  · have hO : ldO (rbO off n cells ty) i (ltO (rbO off n cells ty) i) = true := by
      rw [ldO_eq ho hlt]; exact ty_eq rfl (decide_eq_true (by show (i : Int) < (n : Int); omega))
    rw [opsL_drop _ i hlt] at hrun
    have hof := opR_of c (opAt (rbO off n cells ty) i)
    cases hE : (opR c (opAt (rbO off n cells ty) i)).1 == 0 with
    | true =>
      refine SWs.roundL apL_ok Sp.mixed [true, false] (ap_round off n cells ty c i) rfl (bnd_eq (tn_eq hO (by unfold neE opE bne; rw [hof.1, hE]; rfl)) hpl) trivial ⟨((opR c (opAt (rbO off n cells ty) i)).2, i + 1), ⟨by simp only; omega, ?_⟩, by simp only; omega, ?_⟩
      · simp only
        rw [← hrun]
        show _ = (bif (opR c (opAt (rbO off n cells ty) i)).1 == 0 then _ else _)
        rw [hE]; rfl
      · simp only [hof.2, wrapN (show (0 : Int) ≤ (i : Int) + 1 by omega) (by omega)]
        rfl
    | false =>
      refine SWs.retR apL_ok Sp.mixed [true, true] (ap_no off n cells ty c i) (ty_eq hO (by unfold neE opE bne; rw [hof.1, hE]; rfl)) obs3_ok fun _ => ?_
      have : runL (opAt (rbO off n cells ty) i :: (opsL (rbO off n cells ty)).drop (i + 1)) c = ((opR c (opAt (rbO off n cells ty) i)).1, c) := by
        show (bif (opR c (opAt (rbO off n cells ty) i)).1 == 0 then _ else _) = _
        rw [hE]; rfl
      rw [← hrun, this]
      unfold endR opE
      rw [hof.1]
      simp only [hE, cond_false]
  · obtain rfl : i = n := by omega
    have hnil : (opsL (rbO off i cells ty)).drop i = [] := List.drop_eq_nil_of_le (by rw [hlen]; omega)
    rw [hnil] at hrun
    have hrun : ((0 : Int), c) = runL (opsL (rbO off i cells ty)) (startC v f) := hrun
    refine SWs.outL apL_ok Sp.mixed [false] (ap_out off i cells ty c) (bnd_eq (tn_eq rfl (decide_eq_false (by omega))) hpl) trivial ?_
    have hlt' : admLt c = decide (admS c.v < c.v.k) := by unfold admLt; rw [admS_of]
    rw [← hrun]
    unfold endR
    simp only [BEq.rfl, cond_true]
    cases hk : decide (admS c.v < c.v.k) with
    | true => exact SWs.finvL apL_ok Sp.mixed [true] (ap_end1 off i cells ty c) (ty_eq rfl (by rw [hlt', hk])) obs3_ok rfl
    | false => exact SWs.finvL apL_ok Sp.mixed [false] (ap_end2 off i cells ty c) (tn_eq rfl (by rw [hlt', hk])) ⟨rfl, rfl, rfl, trivial⟩ rfl
def appC : Con := sVal [none, none, some 5] fun ps rs => match ps, rs with | [.agg cs, .c (.int f)], [r] => some (isVi cs && okOps r, applyR (Vi.of cs) f (opsL r)) | _, _ => none
theorem resT_sole (v : Vi) (a g : Nat → Bool) (e : Int) : (resT v a g e).soleT = true := rfl
theorem endR_sole (q : Int × Chg') : (endR q).soleT = true := by
  unfold endR
  cases q.1 == 0
  · rfl
  · cases decide (admS q.2.v < q.2.v.k) <;> rfl
theorem applyR_sole (v : Vi) (f : Int) (l : List Ope) : (applyR v f l).soleT = true := by
  unfold applyR
  cases isVS v
  · rfl
  · cases decide ((l.length : Int) > 4)
    · cases l.any (fun o => !opOk o)
      · cases memI v f
        · rfl
        · exact endR_sole _
      · rfl
    · rfl
theorem app_ok : ConOK Tryz.prog fApp appC := by
  refine sVal_ok (fn := Tryz.f21) (by kernel_rfl) rfl rfl fun ps rs v h hps hrs => ?_
  split at h <;> try (cases h; done)
  rename_i cs f r
  simp only [Option.some.injEq, Prod.mk.injEq, Bool.and_eq_true] at h
  obtain ⟨⟨hv, ho⟩, rfl⟩ := h
  refine ⟨applyR_sole _ _ _, fun w => ?_⟩
  have e := Vi.of_cs hv
  generalize Vi.of cs = t at e
  subst e
  exact apply_fn t f r (hrs r (by simp)) ho w

end Go.Proofs.YtabiknpgakhkkaaGreat.Vw
end

