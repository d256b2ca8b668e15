/-
  Members, admins, views that may be.
-/
import Derived.Test.YtabiknpgakhkkaaVwC
namespace Go.Proofs.Ytabiknpgakhkkaa.Vw
open Go.RowKit Go.Proofs.Ytabiknpgakhkkaa.Sx Go.Proofs.Ytabiknpgakhkkaa.Pw
set_option linter.unusedVariables false
set_option linter.unusedSimpArgs false

abbrev tView : Nat := 33
abbrev fMem : Nat := 49
abbrev frMem : Nat := 36
def memT (t : Tr) (i : Nat) : Bool := nz (t.sg i) (t.sl i)
def memI (v : Vi) (n : Int) : Bool := bif decide (n ≥ 0) then (bif decide (n < 8) then memT v.t n.toNat else false) else false
theorem memI_in {v : Vi} {i : Nat} (hi : i < 8) : memI v i = memT v.t i := by
  unfold memI
  rw [decide_eq_true (by omega), decide_eq_true (by omega)]; rfl
def memC : Con := pureConB (fun | [.agg cs, .c (.int n)] => isVi cs | _ => true) fun | [.agg cs, .c (.int n)] => some (.c (.bool (memI (Vi.of cs) n))) | _ => none
theorem mem_at (v : Vi) (i : Nat) (hi : i < 8) : (xfunL Try.prog [] 1000 fMem [.agg v.cs, .c (.int i)] [] 0 []).map (fun q => (q.1, q.2.1, q.2.2.1)) = some (true, [], .c (.bool (memT v.t i))) := by
  revert i
  refine all8 ?_ ?_ ?_ ?_ ?_ ?_ ?_ ?_ <;> kernel_rfl
theorem rmem_at (v : Vi) (i : Nat) (hi : i < 8) : (xfunL Try.prog [] 1000 frMem [.agg v.cs, .c (.int i)] [] 0 []).map (fun q => (q.1, q.2.1, q.2.2.1)) = some (true, [], .c (.bool (memT v.t i))) := by
  revert i
  refine all8 ?_ ?_ ?_ ?_ ?_ ?_ ?_ ?_ <;> kernel_rfl
theorem mem_fn (v : Vi) (n : Int) (w : World) : Sx.Fn Try.prog fMem (atW w 0) [.agg v.cs, .c (.int n)] [] 0 fun r _ => r = .c (.bool (memI v n)) := by
  cases h1 : decide (n ≥ 0) with
  | false => exact Fn.xvL (fuel := 1000) (LibOK.nil _) Sp.mixed [false] (r := .c (.bool false)) (ob := tg true (decide (n ≥ 0)) false) (obs := []) (by kernel_rfl) (tg_eq rfl h1) trivial (by unfold memI; rw [h1]; rfl)
  | true =>
    cases h2 : decide (n < 8) with
    | false => exact Fn.xvL (fuel := 1000) (LibOK.nil _) Sp.mixed [true, false] (r := .c (.bool false)) (ob := tg (tg true (decide (n ≥ 0)) true) (decide (n < 8)) false) (obs := []) (by kernel_rfl) (tg_eq (tg_eq rfl h1) h2) trivial (by unfold memI; rw [h1, h2]; rfl)
    | true =>
      rw [decide_eq_true_eq] at h1 h2
      obtain ⟨i, rfl⟩ : ∃ i : Nat, n = i := ⟨n.toNat, by omega⟩
      exact Fn.xvL (LibOK.nil _) Sp.mixed [] (mem_at v i (by omega)) rfl trivial (by rw [memI_in (by omega)])
theorem rmem_fn (v : Vi) (n : Int) (w : World) : Sx.Fn Try.prog frMem (atW w 0) [.agg v.cs, .c (.int n)] [] 0 fun r _ => r = .c (.bool (memI v n)) := by
  cases h1 : decide (n ≥ 0) with
  | false => exact Fn.xvL (fuel := 1000) (LibOK.nil _) Sp.mixed [false] (r := .c (.bool false)) (ob := tg true (decide (n ≥ 0)) false) (obs := []) (by kernel_rfl) (tg_eq rfl h1) trivial (by unfold memI; rw [h1]; rfl)
  | true =>
    cases h2 : decide (n < 8) with
    | false => exact Fn.xvL (fuel := 1000) (LibOK.nil _) Sp.mixed [true, false] (r := .c (.bool false)) (ob := tg (tg true (decide (n ≥ 0)) true) (decide (n < 8)) false) (obs := []) (by kernel_rfl) (tg_eq (tg_eq rfl h1) h2) trivial (by unfold memI; rw [h1, h2]; rfl)
    | true =>
      rw [decide_eq_true_eq] at h1 h2
      obtain ⟨i, rfl⟩ : ∃ i : Nat, n = i := ⟨n.toNat, by omega⟩
      exact Fn.xvL (LibOK.nil _) Sp.mixed [] (rmem_at v i (by omega)) rfl trivial (by rw [memI_in (by omega)])
theorem mem_ok : ConOK Try.prog fMem memC := by
  refine pureConB_ok (fn := Try.f49) (by kernel_rfl) rfl rfl fun args v hok h => ?_
  split at h <;> try (cases h; done)
  rename_i cs n
  simp only [Option.some.injEq] at h; subst h
  simp only at hok
  have e := Vi.of_cs hok
  refine ⟨rfl, by rw [e]; rfl, fun w => ?_⟩
  generalize Vi.of cs = t at e
  subst e
  exact mem_fn t n w
theorem rmem_ok : ConOK Try.prog frMem memC := by
  refine pureConB_ok (fn := Try.f36) (by kernel_rfl) rfl rfl fun args v hok h => ?_
  split at h <;> try (cases h; done)
  rename_i cs n
  simp only [Option.some.injEq] at h; subst h
  simp only at hok
  have e := Vi.of_cs hok
  refine ⟨rfl, by rw [e]; rfl, fun w => ?_⟩
  generalize Vi.of cs = t at e
  subst e
  exact rmem_fn t n w

theorem wrapN {n : Int} (h0 : 0 ≤ n) (h1 : n < 4611686018427387904) : IntKind.i64.wrap n = n := by rw [IntKind.wrap_i64]; omega

/-! Admins. -/
abbrev fAdm : Nat := 51
abbrev frAdm : Nat := 39
def cnt (v : Vi) : Nat → Int
  | 0 => 0
  | i + 1 => bif v.ad i then cnt v i + 1 else cnt v i
theorem cnt_bd (v : Vi) : ∀ i, 0 ≤ cnt v i ∧ cnt v i ≤ i
  | 0 => ⟨Int.le_refl _, Int.le_refl _⟩
  | i + 1 => by
    have := cnt_bd v i
    unfold cnt
    cases v.ad i
    · simp only [cond_false]; omega
    · simp only [cond_true]; omega
def allMem (v : Vi) : Nat → Bool
  | 0 => true
  | i + 1 => allMem v i && (!(v.ad i) || memT v.t i)
theorem allMem_le {v : Vi} : ∀ {n i : Nat}, allMem v n = true → i < n → v.ad i = true → memT v.t i = true
  | 0, i, _, h, _ => absurd h (by omega)
  | n + 1, i, h, hi, ha => by
    simp only [allMem, Bool.and_eq_true] at h
    by_cases hin : i = n
    · subst hin; simpa [ha] using h.2
    · exact allMem_le h.1 (by omega) ha
theorem allMem_no {v : Vi} {i : Nat} (hi : i < 8) (ha : v.ad i = true) (hm : memT v.t i = false) : allMem v 8 = false := by
  cases hh : allMem v 8 with
  | false => rfl
  | true => rw [allMem_le hh hi ha] at hm; cases hm
def admS (v : Vi) : Int := bif allMem v 8 then cnt v 8 else -1
abbrev admL : List (Nat × Con) := [(fMem, memC)]
theorem adm_lib : LibOK Try.prog admL := LibOK.cons mem_ok (LibOK.nil _)
def admI (v : Vi) (i n : Int) : St := ⟨[(1, .c (.ptr 0 0)), (2, .c (.int 0)), (3, .c (.int n)), (7, .agg (adC v.ad)), (8, .c (.int i))], [(0, some ⟨v.cs, tView, false, true⟩)], 1, 24⟩
def admCut : Cut := ⟨[(1, false), (2, true), (3, true), (7, true), (8, true)], [(0, 0, true)], 1⟩
theorem adm_z (v : Vi) (n : Int) (i : Nat) (hi : i < 8) : stepL Try.prog admL 0 1000 4 (loopB ((bodyOf Try.prog fAdm).drop 3)) (admI v i n) [true, false, false, false] [] admCut = some (tn (tg true (v.ad i) false) (v.ad i), [], admI v (i + 1) n) := by
  revert i
  refine all8 ?_ ?_ ?_ ?_ ?_ ?_ ?_ ?_ <;> kernel_rfl
theorem adm_yes (v : Vi) (n : Int) (i : Nat) (hi : i < 8) : stepL Try.prog admL 0 1000 4 (loopB ((bodyOf Try.prog fAdm).drop 3)) (admI v i n) [true, true, false, true] [] admCut = some (ty_ (tn (tg true (v.ad i) true) (!memI v i)) (v.ad i), [], admI v (i + 1) (IntKind.i64.wrap (n + 1))) := by
  revert i
  refine all8 ?_ ?_ ?_ ?_ ?_ ?_ ?_ ?_ <;> kernel_rfl
theorem adm_no (v : Vi) (n : Int) (i : Nat) (hi : i < 8) : retL Try.prog admL fAdm 1000 4 (loopB ((bodyOf Try.prog fAdm).drop 3)) (admI v i n) [true, true, true] = some (ty_ (tg true (v.ad i) true) (!memI v i), [], .c (.int (-1))) := by
  revert i
  refine all8 ?_ ?_ ?_ ?_ ?_ ?_ ?_ ?_ <;> kernel_rfl
theorem adm_fn (v : Vi) (w : World) : Sx.Fn Try.prog fAdm (atW w 0) [.agg v.cs] [] 0 fun r _ => r = .c (.int (admS v)) := by
  refine Sx.Fn.of (nt := 24) (by kernel_rfl) rfl ?_
  refine SWs.stepL adm_lib Sp.mixed (fuel := 1000) (n := 3) [] (un := []) (c := admCut) (t := admI v 0 (cnt v 0)) (ob := true) (obs := []) (by kernel_rfl) rfl trivial ?_
  refine SWs.loop (by kernel_rfl) (fun i : Nat => admI v i (cnt v i)) (fun i => 8 - i) (fun i => i ≤ 8 ∧ allMem v i = true) 0 ⟨by omega, rfl⟩ ?_
  rintro i ⟨hi, hl⟩
  by_cases h8 : i = 8
  · subst h8
    refine SWs.outL adm_lib Sp.mixed (fuel := 1000) (n := 2) [false] (un := []) (c := admCut) (t := admI v 8 (cnt v 8)) (ob := true) (obs := []) (by kernel_rfl) rfl trivial ?_
    exact SWs.finvL adm_lib Sp.mixed (fuel := 1000) (n := 100) [] (ob := true) (obs := []) (v := .c (.int (cnt v 8))) (by kernel_rfl) rfl trivial (by unfold admS; rw [hl]; rfl)
  · have hi' : i < 8 := by omega
    have hb := cnt_bd v i
    cases ha : v.ad i with
    | false =>
      refine SWs.roundL adm_lib Sp.mixed [true, false, false, false] (adm_z v _ i hi') rfl (tn_eq (tg_eq rfl ha) ha) trivial ⟨i + 1, ⟨by omega, ?_⟩, by omega, ?_⟩
      · simp [allMem, hl, ha]
      · have e : cnt v (i + 1) = cnt v i := by show (bif v.ad i then cnt v i + 1 else cnt v i) = cnt v i; rw [ha]; rfl
        simp only [e]; rfl
    | true =>
      cases hm : memT v.t i with
      | false =>
        refine SWs.retR adm_lib Sp.mixed [true, true, true] (adm_no v _ i hi') (ty_eq (tg_eq rfl ha) (by rw [memI_in hi', hm]; rfl)) trivial fun _ => ?_
        unfold admS
        rw [allMem_no hi' ha hm]; rfl
      | true =>
        refine SWs.roundL adm_lib Sp.mixed [true, true, false, true] (adm_yes v _ i hi') rfl (ty_eq (tn_eq (tg_eq rfl ha) (by rw [memI_in hi', hm]; rfl)) ha) trivial ⟨i + 1, ⟨by omega, ?_⟩, by omega, ?_⟩
        · simp [allMem, hl, ha, hm]
        · have e : cnt v (i + 1) = cnt v i + 1 := by show (bif v.ad i then cnt v i + 1 else cnt v i) = cnt v i + 1; rw [ha]; rfl
          have ew : IntKind.i64.wrap (cnt v i + 1) = cnt v i + 1 := wrapN (by omega) (by omega)
          simp only [e, ew]; rfl
def radmI (v : Vi) (i n : Int) : St := ⟨[(1, .c (.ptr 0 0)), (2, .c (.int 0)), (3, .c (.int n)), (4, .c (.int i))], [(0, some ⟨v.cs, tView, false, true⟩)], 1, 16⟩
def radmCut : Cut := ⟨[(1, false), (2, true), (3, true), (4, true)], [(0, 0, true)], 1⟩
theorem radm_z (v : Vi) (n : Int) (i : Nat) (hi : i < 8) : stepL Try.prog [] 0 1000 4 (loopB ((bodyOf Try.prog frAdm).drop 3)) (radmI v i n) [true, false] [] radmCut = some (tn true (v.ad i), [], radmI v (i + 1) n) := by
  revert i
  refine all8 ?_ ?_ ?_ ?_ ?_ ?_ ?_ ?_ <;> kernel_rfl
theorem radm_yes (v : Vi) (n : Int) (i : Nat) (hi : i < 8) : stepL Try.prog [] 0 1000 4 (loopB ((bodyOf Try.prog frAdm).drop 3)) (radmI v i n) [true, true] [] radmCut = some (ty_ true (v.ad i), [], radmI v (i + 1) (IntKind.i64.wrap (n + 1))) := by
  revert i
  refine all8 ?_ ?_ ?_ ?_ ?_ ?_ ?_ ?_ <;> kernel_rfl
theorem radm_fn (v : Vi) (w : World) : Sx.Fn Try.prog frAdm (atW w 0) [.agg v.cs] [] 0 fun r _ => r = .c (.int (cnt v 8)) := by
  refine Sx.Fn.of (nt := 16) (by kernel_rfl) rfl ?_
  refine SWs.stepL (LibOK.nil _) Sp.mixed (fuel := 1000) (n := 3) [] (un := []) (c := radmCut) (t := radmI v 0 (cnt v 0)) (ob := true) (obs := []) (by kernel_rfl) rfl trivial ?_
  refine SWs.loop (by kernel_rfl) (fun i : Nat => radmI v i (cnt v i)) (fun i => 8 - i) (fun i => i ≤ 8) 0 (by omega) ?_
  rintro i hi
  by_cases h8 : i = 8
  · subst h8
    refine SWs.outL (LibOK.nil _) Sp.mixed (fuel := 1000) (n := 2) [false] (un := []) (c := radmCut) (t := radmI v 8 (cnt v 8)) (ob := true) (obs := []) (by kernel_rfl) rfl trivial ?_
    exact SWs.finvL (LibOK.nil _) Sp.mixed (fuel := 1000) (n := 100) [] (ob := true) (obs := []) (v := .c (.int (cnt v 8))) (by kernel_rfl) rfl trivial rfl
  · have hi' : i < 8 := by omega
    have hb := cnt_bd v i
    cases ha : v.ad i with
    | false =>
      refine SWs.roundL (LibOK.nil _) Sp.mixed [true, false] (radm_z v _ i hi') rfl (tn_eq rfl ha) trivial ⟨i + 1, by omega, by omega, ?_⟩
      have e : cnt v (i + 1) = cnt v i := by show (bif v.ad i then cnt v i + 1 else cnt v i) = cnt v i; rw [ha]; rfl
      simp only [e]; rfl
    | true =>
      refine SWs.roundL (LibOK.nil _) Sp.mixed [true, true] (radm_yes v _ i hi') rfl (ty_eq rfl ha) trivial ⟨i + 1, by omega, by omega, ?_⟩
      have e : cnt v (i + 1) = cnt v i + 1 := by show (bif v.ad i then cnt v i + 1 else cnt v i) = cnt v i + 1; rw [ha]; rfl
      have ew : IntKind.i64.wrap (cnt v i + 1) = cnt v i + 1 := wrapN (by omega) (by omega)
      simp only [e, ew]; rfl
/-- Contracts of functions of one view. -/
def viC (f : Vi → SV) : Con := pureConB (fun | [.agg cs] => isVi cs | _ => true) fun | [.agg cs] => some (f (Vi.of cs)) | _ => none
theorem viC_ok {f : FuncId} {g : Vi → SV} {fn : Func} (hf : Try.prog.funcs[f]? = some fn) (hn : (fn.name == "runtime.NumGoroutine") = false) (hb : fn.body.isNone = false) (hg : ∀ v, (g v).sole = true)
    (h : ∀ v w, Sx.Fn Try.prog f (atW w 0) [.agg v.cs] [] 0 fun r _ => r = g v) : ConOK Try.prog f (viC g) := by
  refine pureConB_ok hf hn hb fun args v hok he => ?_
  split at he <;> try (cases he; done)
  rename_i cs
  simp only [Option.some.injEq] at he; subst he
  simp only at hok
  have e := Vi.of_cs hok
  refine ⟨hg _, by rw [e]; rfl, fun w => ?_⟩
  generalize Vi.of cs = t at e
  subst e
  exact h t w
def admC : Con := viC fun v => .c (.int (admS v))
theorem adm_ok : ConOK Try.prog fAdm admC := viC_ok (fn := Try.f51) (by kernel_rfl) rfl rfl (fun _ => rfl) adm_fn
def radmC : Con := viC fun v => .c (.int (cnt v 8))
theorem radm_ok : ConOK Try.prog frAdm radmC := viC_ok (fn := Try.f39) (by kernel_rfl) rfl rfl (fun _ => rfl) radm_fn

/-! Views that may be. -/
abbrev fVIs : Nat := 47
abbrev frVIs : Nat := 34
def e0 (v : Vi) : Bool := decide (v.ep ≥ 0)
def e1' (v : Vi) : Bool := decide (v.ep ≤ 1099511627776)
def k1 (v : Vi) : Bool := decide (v.k ≥ 1)
def isVS (v : Vi) : Bool := e0 v && (e1' v && (isTS v.t && (k1 v && decide (v.k ≤ admS v))))
abbrev vIsL : List (Nat × Con) := [(fTIs, tIsC), (fAdm, admC)]
theorem vIs_lib : LibOK Try.prog vIsL := LibOK.cons tIs_ok (LibOK.cons adm_ok (LibOK.nil _))
theorem vIs_fn (v : Vi) (w : World) : Sx.Fn Try.prog fVIs (atW w 0) [.agg v.cs] [] 0 fun r _ => r = .c (.bool (isVS v)) := by
  cases h1 : e0 v with
  | false => exact Fn.xvL (fuel := 1000) vIs_lib Sp.mixed [false] (r := .c (.bool false)) (ob := tg true (e0 v) false) (obs := []) (by kernel_rfl) (tg_eq rfl h1) trivial (by unfold isVS; rw [h1]; rfl)
  | true =>
  cases h2 : e1' v with
  | false => exact Fn.xvL (fuel := 1000) vIs_lib Sp.mixed [true, false] (r := .c (.bool false)) (ob := tg (tg true (e0 v) true) (e1' v) false) (obs := []) (by kernel_rfl) (tg_eq (tg_eq rfl h1) h2) trivial (by unfold isVS; rw [h1, h2]; rfl)
  | true =>
  cases h3 : isTS v.t with
  | false => exact Fn.xvL (fuel := 1000) vIs_lib Sp.mixed [true, true, false] (r := .c (.bool false)) (ob := tg (tg (tg true (e0 v) true) (e1' v) true) (isTS v.t) false) (obs := []) (by kernel_rfl) (tg_eq (tg_eq (tg_eq rfl h1) h2) h3) trivial (by unfold isVS; rw [h1, h2, h3]; rfl)
  | true =>
  cases h4 : k1 v with
  | false => exact Fn.xvL (fuel := 1000) vIs_lib Sp.mixed [true, true, true, false] (r := .c (.bool false)) (ob := tg (tg (tg (tg true (e0 v) true) (e1' v) true) (isTS v.t) true) (k1 v) false) (obs := []) (by kernel_rfl) (tg_eq (tg_eq (tg_eq (tg_eq rfl h1) h2) h3) h4) trivial (by unfold isVS; rw [h1, h2, h3, h4]; rfl)
  | true => exact Fn.xvL (fuel := 1000) vIs_lib Sp.mixed [true, true, true, true] (r := .c (.bool (decide (v.k ≤ admS v)))) (ob := tg (tg (tg (tg true (e0 v) true) (e1' v) true) (isTS v.t) true) (k1 v) true) (obs := []) (by kernel_rfl) (tg_eq (tg_eq (tg_eq (tg_eq rfl h1) h2) h3) h4) trivial (by unfold isVS; rw [h1, h2, h3, h4]; simp)
def vIsC : Con := viC fun v => .c (.bool (isVS v))
theorem vIs_ok : ConOK Try.prog fVIs vIsC := viC_ok (fn := Try.f47) (by kernel_rfl) rfl rfl (fun _ => rfl) vIs_fn

abbrev rvIsL : List (Nat × Con) := [(frTIs, tIsC), (frAdm, radmC), (frMem, memC)]
theorem rvIs_lib : LibOK Try.prog rvIsL := LibOK.cons rtIs_ok (LibOK.cons radm_ok (LibOK.cons rmem_ok (LibOK.nil _)))
def rvI (v : Vi) (i : Int) : St := ⟨[(1, .c (.ptr 0 0)), (2, .c (.bool false)), (3, .c (.int i))], [(0, some ⟨v.cs, tView, false, true⟩)], 1, 43⟩
def rvCut : Cut := ⟨[(1, false), (2, true), (3, true)], [(0, 0, true)], 1⟩
theorem rv_z (v : Vi) (i : Nat) (hi : i < 8) : stepL Try.prog rvIsL 0 1000 4 (loopB ((bodyOf Try.prog frVIs).drop 2)) (rvI v i) [true, false, false] [] rvCut = some (tg true (v.ad i) false, [], rvI v (i + 1)) := by
  revert i
  refine all8 ?_ ?_ ?_ ?_ ?_ ?_ ?_ ?_ <;> kernel_rfl
theorem rv_yes (v : Vi) (i : Nat) (hi : i < 8) : stepL Try.prog rvIsL 0 1000 4 (loopB ((bodyOf Try.prog frVIs).drop 2)) (rvI v i) [true, true, false] [] rvCut = some (tn (tg true (v.ad i) true) (!memI v i), [], rvI v (i + 1)) := by
  revert i
  refine all8 ?_ ?_ ?_ ?_ ?_ ?_ ?_ ?_ <;> kernel_rfl
theorem rv_no (v : Vi) (i : Nat) (hi : i < 8) : retL Try.prog rvIsL frVIs 1000 4 (loopB ((bodyOf Try.prog frVIs).drop 2)) (rvI v i) [true, true, true] = some (ty_ (tg true (v.ad i) true) (!memI v i), [], .c (.bool false)) := by
  revert i
  refine all8 ?_ ?_ ?_ ?_ ?_ ?_ ?_ ?_ <;> kernel_rfl
theorem isVS_no {v : Vi} (h : allMem v 8 = false) : isVS v = false := by
  unfold isVS admS k1
  rw [h]
  cases hk : decide (v.k ≥ 1) with
  | false => simp
  | true =>
    rw [decide_eq_true_eq] at hk
    have : decide (v.k ≤ bif false then cnt v 8 else -1) = false := by
      rw [decide_eq_false_iff_not]
      simp only [cond_false]; omega
    rw [this]; simp
theorem rvIs_fn (v : Vi) (w : World) : Sx.Fn Try.prog frVIs (atW w 0) [.agg v.cs] [] 0 fun r _ => r = .c (.bool (isVS v)) := by
  refine Sx.Fn.of (nt := 43) (by kernel_rfl) rfl ?_
  refine SWs.stepL rvIs_lib Sp.mixed (fuel := 1000) (n := 2) [] (un := []) (c := rvCut) (t := rvI v 0) (ob := true) (obs := []) (by kernel_rfl) rfl trivial ?_
  refine SWs.loop (by kernel_rfl) (fun i : Nat => rvI v i) (fun i => 8 - i) (fun i => i ≤ 8 ∧ allMem v i = true) 0 ⟨by omega, rfl⟩ ?_
  rintro i ⟨hi, hl⟩
  by_cases h8 : i = 8
  · subst h8
    refine SWs.outL rvIs_lib Sp.mixed (fuel := 1000) (n := 2) [false] (un := []) (c := rvCut) (t := rvI v 8) (ob := true) (obs := []) (by kernel_rfl) rfl trivial ?_
    have hadm : admS v = cnt v 8 := by unfold admS; rw [hl]; rfl
    cases h1 : e0 v with
    | false => exact SWs.finvL rvIs_lib Sp.mixed (fuel := 1000) (n := 100) [false] (v := .c (.bool false)) (ob := tg true (e0 v) false) (obs := []) (by kernel_rfl) (tg_eq rfl h1) trivial (by unfold isVS; rw [h1]; rfl)
    | true =>
    cases h2 : e1' v with
    | false => exact SWs.finvL rvIs_lib Sp.mixed (fuel := 1000) (n := 100) [true, false] (v := .c (.bool false)) (ob := tg (tg true (e0 v) true) (e1' v) false) (obs := []) (by kernel_rfl) (tg_eq (tg_eq rfl h1) h2) trivial (by unfold isVS; rw [h1, h2]; rfl)
    | true =>
    cases h3 : isTS v.t with
    | false => exact SWs.finvL rvIs_lib Sp.mixed (fuel := 1000) (n := 100) [true, true, false] (v := .c (.bool false)) (ob := tg (tg (tg true (e0 v) true) (e1' v) true) (isTS v.t) false) (obs := []) (by kernel_rfl) (tg_eq (tg_eq (tg_eq rfl h1) h2) h3) trivial (by unfold isVS; rw [h1, h2, h3]; rfl)
    | true =>
    cases h4 : k1 v with
    | false => exact SWs.finvL rvIs_lib Sp.mixed (fuel := 1000) (n := 100) [true, true, true, false] (v := .c (.bool false)) (ob := tg (tg (tg (tg true (e0 v) true) (e1' v) true) (isTS v.t) true) (k1 v) false) (obs := []) (by kernel_rfl) (tg_eq (tg_eq (tg_eq (tg_eq rfl h1) h2) h3) h4) trivial (by unfold isVS; rw [h1, h2, h3, h4]; rfl)
    | true => exact SWs.finvL rvIs_lib Sp.mixed (fuel := 1000) (n := 100) [true, true, true, true] (v := .c (.bool (decide (v.k ≤ cnt v 8)))) (ob := tg (tg (tg (tg true (e0 v) true) (e1' v) true) (isTS v.t) true) (k1 v) true) (obs := []) (by kernel_rfl) (tg_eq (tg_eq (tg_eq (tg_eq rfl h1) h2) h3) h4) trivial (by unfold isVS; rw [h1, h2, h3, h4, hadm]; simp)
  · have hi' : i < 8 := by omega
    cases ha : v.ad i with
    | false =>
      refine SWs.roundL rvIs_lib Sp.mixed [true, false, false] (rv_z v i hi') rfl (tg_eq rfl ha) trivial ⟨i + 1, ⟨by omega, ?_⟩, by omega, rfl⟩
      simp [allMem, hl, ha]
    | true =>
      cases hm : memT v.t i with
      | false =>
        refine SWs.retR rvIs_lib Sp.mixed [true, true, true] (rv_no v i hi') (ty_eq (tg_eq rfl ha) (by rw [memI_in hi', hm]; rfl)) trivial fun _ => ?_
        rw [isVS_no (allMem_no hi' ha hm)]
      | true =>
        refine SWs.roundL rvIs_lib Sp.mixed [true, true, false] (rv_yes v i hi') rfl (tn_eq (tg_eq rfl ha) (by rw [memI_in hi', hm]; rfl)) trivial ⟨i + 1, ⟨by omega, ?_⟩, by omega, rfl⟩
        simp [allMem, hl, ha, hm]
theorem rvIs_ok : ConOK Try.prog frVIs vIsC := viC_ok (fn := Try.f34) (by kernel_rfl) rfl rfl (fun _ => rfl) rvIs_fn

end Go.Proofs.Ytabiknpgakhkkaa.Vw
