/-
  What an operation changes: the program's functions.
-/
import Derived.Test.YtabiknpgakhkkaaVwE
namespace Go.Proofs.Ytabiknpgakhkkaa.Vw
open Go.RowKit Go.Proofs.Ytabiknpgakhkkaa.Sx Go.Proofs.Ytabiknpgakhkkaa.Pw
set_option linter.unusedVariables false
set_option linter.unusedSimpArgs false

abbrev tChange : Nat := 88
/-- A view that changes. -/
structure Chg' where
  v : Vi
  fr : Int
  ad : Nat → Bool
  gn : Nat → Bool
def Chg'.cs (c : Chg') : List SC := c.v.cs ++ (.int c.fr :: (adC c.ad ++ adC c.gn))
def Chg'.of (cs : List SC) : Chg' := ⟨Vi.of cs, gI cs 73, fun i => gB cs (74 + i), fun i => gB cs (82 + i)⟩
def isCh (cs : List SC) : Bool := Nat.beq cs.length 90 && (isVi (cs.take 73) && ((cs.getD 73 .nilp).isInt && (cs.drop 74).all SC.isBool))
theorem Vi.of_take {cs : List SC} (h : 73 ≤ cs.length) : (Vi.of (cs.take 73)).cs = (Vi.of cs).cs := by
  have e : ∀ i, i < 73 → (cs.take 73).getD i .nilp = cs.getD i .nilp := fun i hi => by
    simp [List.getD, List.getElem?_take_of_lt hi]
  apply List.ext_getElem?
  intro i
  by_cases hi : i < 73
  · rw [Vi.at_ _ i hi, Vi.at_ _ i hi]
    simp only [gI, gB, gU, e i hi]
  · rw [List.getElem?_eq_none (by show 73 ≤ i; omega), List.getElem?_eq_none (by show 73 ≤ i; omega)]
theorem Chg'.of_cs {cs : List SC} (h : isCh cs = true) : cs = (Chg'.of cs).cs := by
  unfold isCh at h
  simp only [Bool.and_eq_true, List.all_eq_true] at h
  obtain ⟨hl, hv, hi, hb⟩ := h
  have hl := Nat.eq_of_beq_eq_true hl
  have hv' := Vi.of_cs hv
  rw [Vi.of_take (by omega)] at hv'
  have hd : cs.drop 73 = cs[73] :: cs.drop 74 := List.drop_eq_getElem_cons (by omega)
  have h73 : cs[73] = .int (gI cs 73) := by
    have hx : cs[73]? = some cs[73] := List.getElem?_eq_getElem (by omega)
    have := int_of hx (by rw [List.getD, hx] at hi; exact hi)
    rw [hx] at this; exact Option.some.inj this
  have h74 : cs.drop 74 = adC (fun i => gB cs (74 + i)) ++ adC (fun i => gB cs (82 + i)) := by
    have hat : ∀ j, j < 16 → (adC (fun i => gB cs (74 + i)) ++ adC (fun i => gB cs (82 + i)))[j]? = some (.bool (gB cs (74 + j))) := fun j hj => by
      have : j = 0 ∨ j = 1 ∨ j = 2 ∨ j = 3 ∨ j = 4 ∨ j = 5 ∨ j = 6 ∨ j = 7 ∨ j = 8 ∨ j = 9 ∨ j = 10 ∨ j = 11 ∨ j = 12 ∨ j = 13 ∨ j = 14 ∨ j = 15 := by omega
      rcases this with rfl | rfl | rfl | rfl | rfl | rfl | rfl | rfl | rfl | rfl | rfl | rfl | rfl | rfl | rfl | rfl <;> rfl
    apply List.ext_getElem?
    intro j
    by_cases hj : j < 16
    · rw [hat j hj, List.getElem?_drop]
      have hx : cs[74 + j]? = some cs[74 + j] := List.getElem?_eq_getElem (by omega)
      refine bool_of hx (hb _ ?_)
      have : (cs.drop 74)[j]? = some cs[74 + j] := by rw [List.getElem?_drop]; exact hx
      exact List.mem_of_getElem? this
    · rw [List.getElem?_eq_none (by simp; omega), List.getElem?_eq_none (by show 16 ≤ j; omega)]
  calc cs = cs.take 73 ++ cs.drop 73 := (List.take_append_drop 73 cs).symm
    _ = (Chg'.of cs).cs := by rw [hd, h73, h74]; rw [hv']; rfl

/-! Add. -/
abbrev fAdd : Nat := 69
abbrev fSame : Nat := 82
abbrev fConL : Nat := 83
abbrev fIdxF : Nat := 89
abbrev fIdx : Nat := 84
def sameC : Con := capR fun ps off cs => match ps with
  | [.agg [.int a, .int b]] => match off, cs with
    | 0, [.int c, .int d] => some (true, .c (.bool (a == c)))
    | _, _ => none
  | _ => none
theorem same_ok : ConOK Try.prog fSame sameC := by
  refine capR_ok (fn := Try.f82) (by kernel_rfl) rfl rfl fun ps off b v h hps hs ho ht w => ?_
  split at h <;> try (cases h; done)
  rename_i x y
  split at h <;> try (cases h; done)
  rename_i c d hb
  simp only [Option.some.injEq, Prod.mk.injEq, true_and] at h; subst h
  obtain ⟨cells, ty, tail, own⟩ := b
  simp only at hb ho ht
  subst hb ho ht
  exact Fn.xvL (fuel := 1000) (LibOK.nil _) Sp.mixed [] (r := .c (.bool (x == c))) (ob := true) (obs := []) (by kernel_rfl) rfl trivial rfl
/-- How far one looks: so many that are not it; one that is; none. -/
def nos : Nat → List Bool
  | 0 => []
  | n + 1 => true :: false :: nos n
def toldAt : Option Nat → List Bool
  | some i => nos i ++ [true, true]
  | none => nos 8 ++ [false]
noncomputable def conL (a : Option Nat) : List (Nat × Con) := [(fIdxF, inlM Try.prog [(fSame, sameC)] 1000 fIdxF (toldAt a))]
theorem idxF_in : inlOk Try.prog fIdxF = true := by kernel_rfl
theorem conL_in : inlOk Try.prog fConL = true := by kernel_rfl
theorem idx_in : inlOk Try.prog fIdx = true := by kernel_rfl
theorem conL_ok (a : Option Nat) : LibOK Try.prog (conL a) := LibOK.cons (inlM_ok (LibOK.cons same_ok (LibOK.nil _)) Sp.mixed idxF_in) (LibOK.nil _)
noncomputable def addL (a b : Option Nat) : List (Nat × Con) := [(fpIs, isC), (fConL, inlM Try.prog (conL a) 1000 fConL []), (fIdx, inlM Try.prog [] 1000 fIdx (toldAt b)), (fPut, putC)]
theorem addL_ok (a b : Option Nat) : LibOK Try.prog (addL a b) :=
  LibOK.cons pis_ok (LibOK.cons (inlM_ok (conL_ok a) Sp.mixed conL_in) (LibOK.cons (inlM_ok (LibOK.nil _) Sp.mixed idx_in) (LibOK.cons put_ok (LibOK.nil _))))
/-- None has this number; the first that has it. -/
def noneC (t : Tr) (s : Int) : Nat → Bool
  | 0 => true
  | i + 1 => tn (noneC t s i) (t.sg i == s)
def ezs (s p : Int) : Bool := (0 == s) && ((0 == p) && true)
def noneE (t : Tr) : Nat → Bool
  | 0 => true
  | i + 1 => tn (noneE t i) (ezs (t.sg i) (t.sl i))
def addA (s p : Int) : Bool := tg (tg true (!isS s) false) (!isS p) false
def addB (t : Tr) (s p : Int) : Bool := bnd (addA s p) (bnd true (noneC t s 8))
def chB (c : Chg') : Option Blk := some ⟨c.cs, tChange, false, true⟩
def addN (c : Chg') (i : Nat) (s p : Int) : Chg' := { c with v := { c.v with t := putT c.v.t i s p }, ad := fun j => bif Nat.beq j i then true else c.ad j }
noncomputable def runM (C : List (Nat × Con)) (f : Nat) (args : List SV) (c : Chg') (ty : TypeId) (told : List Bool) : Option (Bool × List Prop × SV × Option Blk) := (xfunL Try.prog C 1000 f (.c (.ptr 0 0) :: args) [(0, some ⟨c.cs, ty, false, true⟩)] 1 told).map (fun q => (q.1, q.2.1, q.2.2.1, q.2.2.2.blk 0))
theorem add_1 (c : Chg') (ty : TypeId) (s p : Int) : runM (addL none none) fAdd [.agg [.int s, .int p]] c ty [true] = some (tg true (!isS s) true, [], .c (.int 7), some ⟨c.cs, ty, false, true⟩) := by kernel_rfl
theorem add_2 (c : Chg') (ty : TypeId) (s p : Int) : runM (addL none none) fAdd [.agg [.int s, .int p]] c ty [false, true] = some (tg (tg true (!isS s) false) (!isS p) true, [], .c (.int 7), some ⟨c.cs, ty, false, true⟩) := by kernel_rfl
theorem add_3 (c : Chg') (ty : TypeId) (s p : Int) (i : Nat) (hi : i < 8) : runM (addL (some i) none) fAdd [.agg [.int s, .int p]] c ty [false, false, true] = some (bnd (addA s p) (bnd true (ty_ (noneC c.v.t s i) (c.v.t.sg i == s))), [], .c (.int 7), some ⟨c.cs, ty, false, true⟩) := by
  revert i
  refine all8 ?_ ?_ ?_ ?_ ?_ ?_ ?_ ?_ <;> kernel_rfl
theorem add_4 (c : Chg') (ty : TypeId) (s p : Int) : runM (addL none none) fAdd [.agg [.int s, .int p]] c ty [false, false, false, true] = some (bnd (addB c.v.t s p) (noneE c.v.t 8), [], .c (.int 12), some ⟨c.cs, ty, false, true⟩) := by kernel_rfl
theorem add_5 (c : Chg') (ty : TypeId) (s p : Int) (i : Nat) (hi : i < 8) : runM (addL none (some i)) fAdd [.agg [.int s, .int p]] c ty [false, false, false, false] = some (bnd (addB c.v.t s p) (ty_ (noneE c.v.t i) (ezs (c.v.t.sg i) (c.v.t.sl i))), [], .c (.int 0), some ⟨(addN c i s p).cs, ty, false, true⟩) := by
  revert i
  refine all8 ?_ ?_ ?_ ?_ ?_ ?_ ?_ ?_ <;> kernel_rfl

/-- The first of so many. -/
def fstF (f : Nat → Bool) : Nat → Option Nat
  | 0 => none
  | n + 1 => match fstF f n with
    | some i => some i
    | none => bif f n then some n else none
theorem fstF_some {f : Nat → Bool} : ∀ {n i : Nat}, fstF f n = some i → i < n ∧ f i = true ∧ ∀ j, j < i → f j = false
  | 0, i, h => by simp [fstF] at h
  | n + 1, i, h => by
    unfold fstF at h
    split at h
    · rename_i k hk
      simp only [Option.some.injEq] at h; subst h
      obtain ⟨h1, h2, h3⟩ := fstF_some hk
      exact ⟨by omega, h2, h3⟩
    · rename_i hk
      cases hf : f n with
      | false => rw [hf] at h; simp at h
      | true =>
        rw [hf] at h
        simp only [cond_true, Option.some.injEq] at h; subst h
        refine ⟨by omega, hf, fun j hj => ?_⟩
        have none : ∀ {m : Nat}, fstF f m = none → ∀ j, j < m → f j = false := by
          intro m
          induction m with
          | zero => intro _ j hj; omega
          | succ m ih =>
            intro hm j hj
            unfold fstF at hm
            split at hm
            · cases hm
            · rename_i hm'
              cases hfm : f m with
              | true => rw [hfm] at hm; simp at hm
              | false =>
                by_cases hjm : j = m
                · subst hjm; exact hfm
                · exact ih hm' j (by omega)
        exact none hk j hj
theorem fstF_none {f : Nat → Bool} : ∀ {n : Nat}, fstF f n = none → ∀ j, j < n → f j = false
  | 0, _, j, hj => absurd hj (by omega)
  | n + 1, h, j, hj => by
    unfold fstF at h
    split at h
    · cases h
    · rename_i hn
      cases hf : f n with
      | true => rw [hf] at h; simp at h
      | false =>
        by_cases hjn : j = n
        · subst hjn; exact hf
        · exact fstF_none hn j (by omega)
theorem noneC_eq {t : Tr} {s : Int} : ∀ {n : Nat}, (∀ j, j < n → (t.sg j == s) = false) → noneC t s n = true
  | 0, _ => rfl
  | n + 1, h => tn_eq (noneC_eq fun j hj => h j (by omega)) (h n (by omega))
theorem noneE_eq {t : Tr} : ∀ {n : Nat}, (∀ j, j < n → ezs (t.sg j) (t.sl j) = false) → noneE t n = true
  | 0, _ => rfl
  | n + 1, h => tn_eq (noneE_eq fun j hj => h j (by omega)) (h n (by omega))
theorem bnd_eq {a b : Bool} (ha : a = true) (hb : b = true) : bnd a b = true := by subst ha hb; rfl

def addR (c : Chg') (s p : Int) : Int × Chg' := bif !isS s then (7, c) else bif !isS p then (7, c) else match fstF (fun i => c.v.t.sg i == s) 8 with
  | some _ => (7, c)
  | none => match fstF (fun i => ezs (c.v.t.sg i) (c.v.t.sl i)) 8 with
    | none => (12, c)
    | some i => (0, addN c i s p)
def remN (c : Chg') (i : Nat) : Chg' := { c with v := { c.v with t := putT c.v.t i 0 0, ad := fun j => bif Nat.beq j i then false else c.v.ad j }, ad := fun j => bif Nat.beq j i then false else c.ad j, gn := fun j => bif Nat.beq j i then true else c.gn j }
def remR (c : Chg') (n : Int) : Int × Chg' := bif !memI c.v n then (7, c) else bif n == c.fr then (7, c) else (0, remN c n.toNat)
def admN (c : Chg') (i : Nat) (b : Bool) : Chg' := { c with v := { c.v with ad := fun j => bif Nat.beq j i then b else c.v.ad j } }
def admR (c : Chg') (n : Int) (b : Bool) : Int × Chg' := bif !memI c.v n then (7, c) else bif c.v.ad n.toNat == b then (7, c) else (0, admN c n.toNat b)
def limN (c : Chg') (k : Int) : Chg' := { c with v := { c.v with k := k } }
def limR (c : Chg') (k : Int) : Int × Chg' := bif decide (k < 1) then (7, c) else bif decide (k > 8) then (7, c) else (0, limN c k)
def opR (c : Chg') (o : Ope) : Int × Chg' := bif o.kind == 1 then addR c o.sg o.sl else bif o.kind == 2 then remR c o.who else bif o.kind == 3 then admR c o.who true else bif o.kind == 4 then admR c o.who false else limR c o.k

/-- What holds of an object's function, shown by walks over the object's table. -/
theorem ch_step {f : FuncId} {c : Chg'} {ps : List SV} {e : Int} {c' : Chg'} {C : List (Nat × Con)} {told : List Bool} {ob : Bool} (hC : LibOK Try.prog C) (h : ∀ ty, runM C f ps c ty told = some (ob, [], .c (.int e), some ⟨c'.cs, ty, false, true⟩)) (hob : ob = true) (hps : ps.all SV.sole = true) :
    ObjStep Try.prog f 0 c.cs ps (.c (.int e)) c'.cs :=
  objStep_of rfl rfl rfl (fun ρ ρ' u h => h) (fun X hX ty => Fn.xtL hC Sp.mixed told (h ty) hob trivial) hps

theorem add_step (c : Chg') (s p : Int) : ObjStep Try.prog fAdd 0 c.cs [.agg [.int s, .int p]] (.c (.int (addR c s p).1)) (addR c s p).2.cs := by
  unfold addR
  cases h1 : isS s with
  | false => exact ch_step (addL_ok none none) (fun ty => add_1 c ty s p) (tg_eq rfl (by rw [h1]; rfl)) rfl
  | true =>
  cases h2 : isS p with
  | false => exact ch_step (addL_ok none none) (fun ty => add_2 c ty s p) (tg_eq (tg_eq rfl (by rw [h1]; rfl)) (by rw [h2]; rfl)) rfl
  | true =>
  have hA : addA s p = true := tg_eq (tg_eq rfl (by rw [h1]; rfl)) (by rw [h2]; rfl)
  simp only [Bool.not_true, cond_false]
  split
  · rename_i i hi
    obtain ⟨hi8, hit, hij⟩ := fstF_some hi
    exact ch_step (addL_ok (some i) none) (fun ty => add_3 c ty s p i hi8) (bnd_eq hA (bnd_eq rfl (ty_eq (noneC_eq hij) hit))) rfl
  · rename_i hn
    have hB : addB c.v.t s p = true := bnd_eq hA (bnd_eq rfl (noneC_eq (fstF_none hn)))
    split
    · rename_i he
      exact ch_step (addL_ok none none) (fun ty => add_4 c ty s p) (bnd_eq hB (noneE_eq (fstF_none he))) rfl
    · rename_i i hi
      obtain ⟨hi8, hit, hij⟩ := fstF_some hi
      exact ch_step (addL_ok none (some i)) (fun ty => add_5 c ty s p i hi8) (bnd_eq hB (ty_eq (noneE_eq hij) hit)) rfl

/-! Remove. -/
abbrev fRem : Nat := 70
abbrev fAdmin : Nat := 71
abbrev fOp : Nat := 50
abbrev remL : List (Nat × Con) := [(fMem, memC), (fPut, putC)]
theorem remL_ok : LibOK Try.prog remL := LibOK.cons mem_ok (LibOK.cons put_ok (LibOK.nil _))
theorem memI_of (v : Vi) (n : Int) : memI (Vi.of v.cs) n = memI v n := by
  unfold memI
  cases h1 : decide (n ≥ 0) with
  | false => rfl
  | true =>
    cases h2 : decide (n < 8) with
    | false => rfl
    | true =>
      rw [decide_eq_true_eq] at h1 h2
      obtain ⟨i, rfl⟩ : ∃ i : Nat, n = i := ⟨n.toNat, by omega⟩
      have : ∀ i, i < 8 → memT (Vi.of v.cs).t i = memT v.t i := all8 rfl rfl rfl rfl rfl rfl rfl rfl
      exact this i (by omega)
theorem memI_no {v : Vi} {n : Int} (h : memI v n = true) : ∃ i : Nat, i < 8 ∧ n = i ∧ memT v.t i = true := by
  unfold memI at h
  cases h1 : decide (n ≥ 0) with
  | false => rw [h1] at h; cases h
  | true =>
    rw [h1] at h
    cases h2 : decide (n < 8) with
    | false => rw [h2] at h; cases h
    | true =>
      rw [h2] at h
      rw [decide_eq_true_eq] at h1 h2
      exact ⟨n.toNat, by omega, by omega, h⟩
theorem rem_1 (c : Chg') (ty : TypeId) (n : Int) : runM remL fRem [.c (.int n)] c ty [true] = some (tg true (!memI (Vi.of c.v.cs) n) true, [], .c (.int 7), some ⟨c.cs, ty, false, true⟩) := by kernel_rfl
theorem rem_2 (c : Chg') (ty : TypeId) (i : Nat) (hi : i < 8) : runM remL fRem [.c (.int i)] c ty [false, true] = some (ty_ (tg true (!memT c.v.t i) false) ((i : Int) == c.fr), [], .c (.int 7), some ⟨c.cs, ty, false, true⟩) := by
  revert i
  refine all8 ?_ ?_ ?_ ?_ ?_ ?_ ?_ ?_ <;> kernel_rfl
theorem rem_3 (c : Chg') (ty : TypeId) (i : Nat) (hi : i < 8) : runM remL fRem [.c (.int i)] c ty [false, false] = some (tn (tg true (!memT c.v.t i) false) ((i : Int) == c.fr), [], .c (.int 0), some ⟨(remN c i).cs, ty, false, true⟩) := by
  revert i
  refine all8 ?_ ?_ ?_ ?_ ?_ ?_ ?_ ?_ <;> kernel_rfl
theorem adm_1 (c : Chg') (ty : TypeId) (n : Int) (b : Bool) : runM remL fAdmin [.c (.int n), .c (.bool b)] c ty [true] = some (tg true (!memI (Vi.of c.v.cs) n) true, [], .c (.int 7), some ⟨c.cs, ty, false, true⟩) := by kernel_rfl
theorem adm_2 (c : Chg') (ty : TypeId) (b : Bool) (i : Nat) (hi : i < 8) : runM remL fAdmin [.c (.int i), .c (.bool b)] c ty [false, true] = some (ty_ (tg true (!memT c.v.t i) false) (c.v.ad i == b), [], .c (.int 7), some ⟨c.cs, ty, false, true⟩) := by
  revert i
  refine all8 ?_ ?_ ?_ ?_ ?_ ?_ ?_ ?_ <;> kernel_rfl
theorem adm_3 (c : Chg') (ty : TypeId) (b : Bool) (i : Nat) (hi : i < 8) : runM remL fAdmin [.c (.int i), .c (.bool b)] c ty [false, false] = some (tn (tg true (!memT c.v.t i) false) (c.v.ad i == b), [], .c (.int 0), some ⟨(admN c i b).cs, ty, false, true⟩) := by
  revert i
  refine all8 ?_ ?_ ?_ ?_ ?_ ?_ ?_ ?_ <;> kernel_rfl
theorem rem_step (c : Chg') (n : Int) : ObjStep Try.prog fRem 0 c.cs [.c (.int n)] (.c (.int (remR c n).1)) (remR c n).2.cs := by
  unfold remR
  cases h1 : memI c.v n with
  | false => exact ch_step remL_ok (fun ty => rem_1 c ty n) (tg_eq rfl (by rw [memI_of, h1]; rfl)) rfl
  | true =>
    obtain ⟨i, hi, rfl, hm⟩ := memI_no h1
    have hA : tg true (!memT c.v.t i) false = true := tg_eq rfl (by rw [hm]; rfl)
    cases h2 : (i : Int) == c.fr with
    | true => exact ch_step remL_ok (fun ty => rem_2 c ty i hi) (ty_eq hA h2) rfl
    | false => exact ch_step remL_ok (fun ty => rem_3 c ty i hi) (tn_eq hA h2) rfl
theorem adm_step (c : Chg') (n : Int) (b : Bool) : ObjStep Try.prog fAdmin 0 c.cs [.c (.int n), .c (.bool b)] (.c (.int (admR c n b).1)) (admR c n b).2.cs := by
  unfold admR
  cases h1 : memI c.v n with
  | false => exact ch_step remL_ok (fun ty => adm_1 c ty n b) (tg_eq rfl (by rw [memI_of, h1]; rfl)) rfl
  | true =>
    obtain ⟨i, hi, rfl, hm⟩ := memI_no h1
    have hA : tg true (!memT c.v.t i) false = true := tg_eq rfl (by rw [hm]; rfl)
    simp only [Int.toNat_natCast]
    cases h2 : c.v.ad i == b with
    | true => exact ch_step remL_ok (fun ty => adm_2 c ty b i hi) (ty_eq hA h2) rfl
    | false => exact ch_step remL_ok (fun ty => adm_3 c ty b i hi) (tn_eq hA h2) rfl

end Go.Proofs.Ytabiknpgakhkkaa.Vw
