/-
  The executor's way through a function's code; contracts of functions that it walks through.
-/
import Derived.Test.YtkpdkfeklecehaaSxP
namespace Go.Proofs.Ytkpdkfeklecehaa.Sx
open Go.RowKit
set_option linter.unusedVariables false
set_option linter.unusedSimpArgs false

inductive Out where
  | norm
  | exit (id : Nat)
  | ret

def OutIs : Exit → Out → Prop
  | .normal, .norm => True
  | .exit i, .exit j => i = j
  | .ret, .ret => True
  | _, _ => False

/-- A way through code: rounds of loops one by one; tests by what is told, or by what they come to. -/
def xcode (P : Program) (C : List (Nat × Con)) : Nat → Code → RSt → Option (Out × RSt)
  | 0, _, _ => none
  | f + 1, c, s => match c with
    | .skip => some (.norm, s)
    | .label _ => some (.norm, s)
    | .exit id => some (.exit id, s)
    | .ret => some (.ret, s)
    | .region _ ops draw => match draw with
      | true => match anyF P C ops s with
        | some s' => some (.norm, { s' with orc := { s'.orc with known := [] } })
        | none => none
      | false => match seqR P C ops ops.toList s with
        | some s' => some (.norm, { s' with orc := { s'.orc with known := [] } })
        | none => none
    | .seq a b => match xcode P C f a s with
      | some (.norm, s') => xcode P C f b s'
      | some (o, s') => some (o, s')
      | none => none
    | .cond c a b => match sev s.st.tmps c with
      | .c (.bool t) => match s.orc.told with
        | true :: r => xcode P C f a { s with ob := bnd s.ob t, orc := ⟨r, []⟩ }
        | false :: r => xcode P C f b { s with ob := bnd s.ob (!t), orc := ⟨r, []⟩ }
        | [] => match t with
          | true => xcode P C f a s
          | false => xcode P C f b s
      | _ => none
    | .block id c => match xcode P C f c s with
      | some (.exit j, s') => bif Nat.beq j id then some (.norm, s') else some (.exit j, s')
      | r => r
    | .loop c => match xcode P C f c s with
      | some (.norm, s') => xcode P C f (.loop c) s'
      | some (o, s') => some (o, s')
      | none => none
    | _ => none

section
variable {P : Program} {C : List (Nat × Con)}

theorem seqR_mono {ops : Array Oper} : ∀ (l : List Oper) (s s' : RSt), seqR P C ops l s = some s' → s'.ob = true → All s'.obs → s.ob = true ∧ All s.obs := by
  intro l
  induction l with
  | nil => intro s s' h h1 h2; simp only [seqR, Option.some.injEq] at h; subst h; exact ⟨h1, h2⟩
  | cons o l ih =>
    intro s s' h h1 h2
    unfold seqR at h
    split at h <;> try (cases h; done)
    · split at h <;> try (cases h; done)
      · obtain ⟨g1, g2⟩ := ih _ _ h h1 h2
        simp only [bnd_true, Bool.and_eq_true] at g1
        exact ⟨g1.1, (All_append.1 g2).2⟩
      · obtain ⟨g1, g2⟩ := ih _ _ h h1 h2
        simp only [bnd_true, Bool.and_eq_true] at g1
        exact ⟨g1.1, (All_append.1 g2).2⟩
    · obtain ⟨g1, g2⟩ := ih _ _ h h1 h2
      simp only [bnd_true, Bool.and_eq_true] at g1
      exact ⟨g1.1, g2⟩

theorem anyR_mono {ops : Array Oper} {s s' : RSt} (h : anyR P C ops s = some s') (h1 : s'.ob = true) (h2 : All s'.obs) : s.ob = true ∧ All s.obs := by
  unfold anyR at h
  simp only at h
  split at h <;> try (cases h; done)
  rename_i p hp
  obtain ⟨g1, g2⟩ := seqR_mono _ _ _ h h1 h2
  obtain ⟨m1, m2, _⟩ := preR_mono _ _ _ _ hp g1 g2
  simp only [bnd_true, Bool.and_eq_true] at m1
  exact ⟨m1.1, m2⟩

theorem anyF_mono {ops : Array Oper} {s s' : RSt} (h : anyF P C ops s = some s') (h1 : s'.ob = true) (h2 : All s'.obs) : s.ob = true ∧ All s.obs := by
  unfold anyF at h
  split at h
  · exact anyR_mono h h1 h2
  · split at h
    · exact anyT_mono h h1 h2
    · exact anyU_mono h h1 h2

theorem xcode_mono : ∀ (f : Nat) (c : Code) (s s' : RSt) (o : Out), xcode P C f c s = some (o, s') → s'.ob = true → All s'.obs → s.ob = true ∧ All s.obs
  | 0, c, s, s', o, h, _, _ => by simp [xcode] at h
  | f + 1, c, s, s', o, h, h1, h2 => by
    have ih := xcode_mono f
    unfold xcode at h
    split at h
    · simp only [Option.some.injEq, Prod.mk.injEq] at h; obtain ⟨_, rfl⟩ := h; exact ⟨h1, h2⟩
    · simp only [Option.some.injEq, Prod.mk.injEq] at h; obtain ⟨_, rfl⟩ := h; exact ⟨h1, h2⟩
    · simp only [Option.some.injEq, Prod.mk.injEq] at h; obtain ⟨_, rfl⟩ := h; exact ⟨h1, h2⟩
    · simp only [Option.some.injEq, Prod.mk.injEq] at h; obtain ⟨_, rfl⟩ := h; exact ⟨h1, h2⟩
    · split at h
      · split at h <;> try (cases h; done)
        rename_i s1 hs1
        simp only [Option.some.injEq, Prod.mk.injEq] at h; obtain ⟨_, rfl⟩ := h
        exact anyF_mono hs1 h1 h2
      · split at h <;> try (cases h; done)
        rename_i s1 hs1
        simp only [Option.some.injEq, Prod.mk.injEq] at h; obtain ⟨_, rfl⟩ := h
        exact seqR_mono _ _ _ hs1 h1 h2
    · split at h <;> try (cases h; done)
      · rename_i s1 hs1
        obtain ⟨g1, g2⟩ := ih _ _ _ _ h h1 h2
        exact ih _ _ _ _ hs1 g1 g2
      · rename_i o1 s1 hs1
        simp only [Option.some.injEq, Prod.mk.injEq] at h; obtain ⟨_, rfl⟩ := h
        exact ih _ _ _ _ hs1 h1 h2
    · split at h <;> try (cases h; done)
      split at h
      · obtain ⟨g1, g2⟩ := ih _ _ _ _ h h1 h2
        simp only [bnd_true, Bool.and_eq_true] at g1
        exact ⟨g1.1, g2⟩
      · obtain ⟨g1, g2⟩ := ih _ _ _ _ h h1 h2
        simp only [bnd_true, Bool.and_eq_true] at g1
        exact ⟨g1.1, g2⟩
      · split at h
        · exact ih _ _ _ _ h h1 h2
        · exact ih _ _ _ _ h h1 h2
    · split at h
      · rename_i j s1 hs1
        cases hb : Nat.beq j _ with
        | true => rw [hb] at h; simp only [cond_true, Option.some.injEq, Prod.mk.injEq] at h; obtain ⟨_, rfl⟩ := h; exact ih _ _ _ _ hs1 h1 h2
        | false => rw [hb] at h; simp only [cond_false, Option.some.injEq, Prod.mk.injEq] at h; obtain ⟨_, rfl⟩ := h; exact ih _ _ _ _ hs1 h1 h2
      · exact ih _ _ _ _ h h1 h2
    · split at h <;> try (cases h; done)
      · rename_i s1 hs1
        obtain ⟨g1, g2⟩ := ih _ _ _ _ h h1 h2
        exact ih _ _ _ _ hs1 g1 g2
      · rename_i o1 s1 hs1
        simp only [Option.some.injEq, Prod.mk.injEq] at h; obtain ⟨_, rfl⟩ := h
        exact ih _ _ _ _ hs1 h1 h2
    · cases h

/-- What holds behind code that has been gone through. -/
def Sound (P : Program) (X : Cx) (c : Code) (st : St) (o : Out) (st' : St) : Prop :=
  ∀ (ρ : Ren) (a : Act) (w : World) (Q : Exit → Act → World → Prop), RelA X ρ st a w → (∀ ex a' w' ρ', OutIs ex o → Le ρ ρ' → RelA X ρ' st' a' w' → Q ex a' w') → c.wp P Q a w

theorem RelA.drew {X : Cx} {ρ : Ren} {st : St} {a : Act} {w : World} (h : RelA X ρ st a w) : RelA X ρ st a { w with drawn := w.drawn + 1 } :=
  ⟨h.rel.draw, h.tmps, h.defers, h.fresh, h.sz⟩

theorem xcode_run (hC : LibOK P C) (hm : P.follows .mixedOrders = true) {X : Cx} (c : Code) : ∀ (f : Nat) (s s' : RSt) (o : Out), xcode P C f c s = some (o, s') → s'.ob = true → All s'.obs → Sound P X c s.st o s'.st := by
  induction c with
  | skip =>
    intro f s s' o h h1 h2
    cases f <;> simp only [xcode, reduceCtorEq, Option.some.injEq, Prod.mk.injEq] at h
    obtain ⟨rfl, rfl⟩ := h
    exact fun ρ a w Q hrel hQ => wp_skip (hQ .normal a w ρ trivial (Le.refl _) hrel)
  | label l =>
    intro f s s' o h h1 h2
    cases f <;> simp only [xcode, reduceCtorEq, Option.some.injEq, Prod.mk.injEq] at h
    obtain ⟨rfl, rfl⟩ := h
    exact fun ρ a w Q hrel hQ => wp_label (hQ .normal a w ρ trivial (Le.refl _) hrel)
  | exit id =>
    intro f s s' o h h1 h2
    cases f <;> simp only [xcode, reduceCtorEq, Option.some.injEq, Prod.mk.injEq] at h
    obtain ⟨rfl, rfl⟩ := h
    exact fun ρ a w Q hrel hQ => wp_exit (hQ (.exit id) a w ρ rfl (Le.refl _) hrel)
  | ret =>
    intro f s s' o h h1 h2
    cases f <;> simp only [xcode, reduceCtorEq, Option.some.injEq, Prod.mk.injEq] at h
    obtain ⟨rfl, rfl⟩ := h
    exact fun ρ a w Q hrel hQ => wp_ret (hQ .ret a w ρ trivial (Le.refl _) hrel)
  | region id ops draw =>
    intro f s s' o h h1 h2
    cases f <;> simp only [xcode, reduceCtorEq] at h
    split at h
    · split at h <;> try (cases h; done)
      rename_i s1 hs1
      simp only [Option.some.injEq, Prod.mk.injEq] at h; obtain ⟨rfl, rfl⟩ := h
      exact fun ρ a w Q hrel hQ => wp_region_any hm (anyF_run hC hs1 h1 h2 hrel.drew fun ρ' a' w' hle h => hQ .normal a' w' ρ' trivial hle h)
    · split at h <;> try (cases h; done)
      rename_i s1 hs1
      simp only [Option.some.injEq, Prod.mk.injEq] at h; obtain ⟨rfl, rfl⟩ := h
      exact fun ρ a w Q hrel hQ => wp_region_list (seqR_run hC _ _ _ ρ a w hs1 h1 h2 hrel fun ρ' a' w' hle h => hQ .normal a' w' ρ' trivial hle h)
  | seq x y ihx ihy =>
    intro f s s' o h h1 h2
    cases f <;> simp only [xcode, reduceCtorEq] at h
    rename_i f
    split at h <;> try (cases h; done)
    · rename_i s1 hs1
      obtain ⟨g1, g2⟩ := xcode_mono _ _ _ _ _ h h1 h2
      have hx := ihx f s s1 .norm hs1 g1 g2
      have hy := ihy f s1 s' o h h1 h2
      refine fun ρ a w Q hrel hQ => wp_seq (hx ρ a w _ hrel fun ex a1 w1 ρ1 ho hle1 hrel1 => ?_)
      cases ex <;> try exact ho.elim
      exact hy ρ1 a1 w1 Q hrel1 fun ex a2 w2 ρ2 ho2 hle2 hrel2 => hQ ex a2 w2 ρ2 ho2 (hle1.trans hle2) hrel2
    · rename_i o1 s1 hs1 hne
      simp only [Option.some.injEq, Prod.mk.injEq] at h; obtain ⟨rfl, rfl⟩ := h
      have hx := ihx f s _ _ hne h1 h2
      refine fun ρ a w Q hrel hQ => wp_seq (hx ρ a w _ hrel fun ex a1 w1 ρ1 ho hle1 hrel1 => ?_)
      cases ex
      case normal => cases o1 <;> first | exact False.elim ho | (exfalso; simp_all; done)
      all_goals exact hQ _ a1 w1 ρ1 ho hle1 hrel1
  | cond q x y ihx ihy =>
    intro f s s' o h h1 h2
    cases f <;> simp only [xcode, reduceCtorEq] at h
    rename_i f
    split at h <;> try (cases h; done)
    rename_i t ht
    have hev : ∀ {ρ a w}, RelA X ρ s.st a w → a.eval q = .bool t := fun {ρ a w} hrel => by
      have := sev_R hrel q
      rw [ht] at this
      exact this
    have yes : ∀ {s1 : RSt}, xcode P C f x s1 = some (o, s') → s1.st = s.st → t = true → Sound P X (.cond q x y) s.st o s'.st := fun {s1} h hst ht ρ a w Q hrel hQ => by
      have := ihx f _ s' o h h1 h2
      rw [hst] at this
      exact wp_cond_true (by rw [hev hrel, ht]) (this ρ a w Q hrel hQ)
    have no : ∀ {s1 : RSt}, xcode P C f y s1 = some (o, s') → s1.st = s.st → t = false → Sound P X (.cond q x y) s.st o s'.st := fun {s1} h hst ht ρ a w Q hrel hQ => by
      have := ihy f _ s' o h h1 h2
      rw [hst] at this
      exact wp_cond_false (by rw [hev hrel, ht]) (this ρ a w Q hrel hQ)
    split at h
    · obtain ⟨g1, g2⟩ := xcode_mono _ _ _ _ _ h h1 h2
      simp only [bnd_true, Bool.and_eq_true] at g1
      exact yes h rfl g1.2
    · obtain ⟨g1, g2⟩ := xcode_mono _ _ _ _ _ h h1 h2
      simp only [bnd_true, Bool.and_eq_true, Bool.not_eq_true'] at g1
      exact no h rfl g1.2
    · split at h
      · exact yes h rfl rfl
      · exact no h rfl rfl
  | block id c ih =>
    intro f s s' o h h1 h2
    cases f <;> simp only [xcode, reduceCtorEq] at h
    rename_i f
    split at h
    · rename_i j s1 hs1
      cases hb : Nat.beq j id with
      | true =>
        rw [hb] at h; simp only [cond_true, Option.some.injEq, Prod.mk.injEq] at h; obtain ⟨rfl, rfl⟩ := h
        have hc := ih f s s1 (.exit j) hs1 h1 h2
        obtain rfl := Nat.eq_of_beq_eq_true hb
        refine fun ρ a w Q hrel hQ => wp_block (hc ρ a w _ hrel fun ex a1 w1 ρ1 ho hle1 hrel1 => ?_)
        cases ex <;> try exact ho.elim
        rename_i i
        obtain rfl : i = j := ho
        simp only [Exit.inBlock, if_true]
        exact hQ .normal a1 w1 ρ1 trivial hle1 hrel1
      | false =>
        rw [hb] at h; simp only [cond_false, Option.some.injEq, Prod.mk.injEq] at h; obtain ⟨rfl, rfl⟩ := h
        have hc := ih f s s1 (.exit j) hs1 h1 h2
        have hne : j ≠ id := fun e => by subst e; simp at hb
        refine fun ρ a w Q hrel hQ => wp_block (hc ρ a w _ hrel fun ex a1 w1 ρ1 ho hle1 hrel1 => ?_)
        cases ex <;> try exact ho.elim
        rename_i i
        obtain rfl : i = j := ho
        simp only [Exit.inBlock, if_neg hne]
        exact hQ (.exit i) a1 w1 ρ1 rfl hle1 hrel1
    · rename_i r hr
      have hc := ih f s s' o h h1 h2
      refine fun ρ a w Q hrel hQ => wp_block (hc ρ a w _ hrel fun ex a1 w1 ρ1 ho hle1 hrel1 => ?_)
      cases ex
      case exit i => cases o <;> first | exact False.elim ho | exact (hr _ _ h).elim
      all_goals exact hQ _ a1 w1 ρ1 ho hle1 hrel1
  | loop c ih =>
    have key : ∀ (f : Nat) (s s' : RSt) (o : Out), xcode P C f (.loop c) s = some (o, s') → s'.ob = true → All s'.obs →
        ∃ n, ∀ (ρ : Ren) (a : Act) (w : World) (Q : Exit → Act → World → Prop), RelA X ρ s.st a w → (∀ ex a' w' ρ', OutIs ex o → Le ρ ρ' → RelA X ρ' s'.st a' w' → Q ex a' w') → Code.rounds P c Q n a w := by
      intro f
      induction f with
      | zero => intro s s' o h; simp [xcode] at h
      | succ f ihf =>
        intro s s' o h h1 h2
        simp only [xcode] at h
        split at h <;> try (cases h; done)
        · rename_i s1 hs1
          obtain ⟨g1, g2⟩ := xcode_mono _ _ _ _ _ h h1 h2
          obtain ⟨n, hn⟩ := ihf s1 s' o h h1 h2
          have hc := ih f s s1 .norm hs1 g1 g2
          refine ⟨n + 1, fun ρ a w Q hrel hQ => ?_⟩
          rw [rounds_succ]
          refine hc ρ a w _ hrel fun ex a1 w1 ρ1 ho hle1 hrel1 => ?_
          cases ex <;> try exact ho.elim
          exact hn ρ1 a1 w1 Q hrel1 fun ex a2 w2 ρ2 ho2 hle2 hrel2 => hQ ex a2 w2 ρ2 ho2 (hle1.trans hle2) hrel2
        · rename_i o1 s1 hne hs1
          simp only [Option.some.injEq, Prod.mk.injEq] at h; obtain ⟨rfl, rfl⟩ := h
          have hc := ih f s _ _ hs1 h1 h2
          refine ⟨1, fun ρ a w Q hrel hQ => ?_⟩
          rw [rounds_succ]
          refine hc ρ a w _ hrel fun ex a1 w1 ρ1 ho hle1 hrel1 => ?_
          cases ex
          case normal => cases o1 <;> first | exact False.elim ho | (exfalso; simp_all; done)
          all_goals exact hQ _ a1 w1 ρ1 ho hle1 hrel1
    intro f s s' o h h1 h2 ρ a w Q hrel hQ
    obtain ⟨n, hn⟩ := key f s s' o h h1 h2
    exact wp_loop_rounds n (hn ρ a w Q hrel hQ)
  | rangeFunc q ps x y _ _ => intro f s s' o h; cases f <;> simp [xcode] at h
  | scope c _ => intro f s s' o h; cases f <;> simp [xcode] at h
  | goto l => intro f s s' o h; cases f <;> simp [xcode] at h
  | refuse y => intro f s s' o h; cases f <;> simp [xcode] at h
end

/-- A function's results. -/
def resOne (P : Program) (st : St) : ResultVar → Option (Bool × SV)
  | .tmp t => some (true, sev st.tmps (.tmp t))
  | .cell a t => match sev st.tmps (.tmp a) with
    | .c (.ptr k off) => match st.tab.blk k with
      | some b => loadS P t b off
      | none => none
    | _ => none
def asPart : SV → Option (SC ⊕ List SC)
  | .c x => some (.inl x)
  | .agg cs => some (.inr cs)
  | _ => none
def resMany (P : Program) (st : St) : List ResultVar → Option (Bool × List (SC ⊕ List SC))
  | [] => some (true, [])
  | r :: l => match resOne P st r, resMany P st l with
    | some (o, v), some (o', vs) => match asPart v with
      | some p => some (o && o', p :: vs)
      | none => none
    | _, _ => none
def resS (P : Program) (st : St) : List ResultVar → Option (Bool × SV)
  | [r] => resOne P st r
  | l => match resMany P st l with
    | some (o, vs) => some (o, .tup vs)
    | none => none

section
variable {P : Program} {X : Cx} {ρ : Ren} {st : St} {a : Act} {w : World}

def resRun (tmps : Array Value) : ResultVar → Sem Value
  | .tmp t => pure (tmps.getD t undef)
  | .cell x t => do loadVar t (← asAddr (tmps.getD x undef))
theorem results_eq (fn : Func) (tmps : Array Value) : results fn tmps = (fn.results.mapM (resRun tmps) >>= fun vs => pure (if h : vs.size = 1 then vs[0] else .tuple vs)) := by
  unfold results
  congr 1

theorem resOne_run (h : RelA X ρ st a w) {r : ResultVar} {v : SV} (hr : resOne P st r = some (true, v)) :
    ∃ u, (resRun a.tmps r).run P w = .ok u w ∧ v.R ρ u := by
  cases r with
  | tmp t =>
    simp only [resOne, Option.some.injEq, Prod.mk.injEq, true_and] at hr; subst hr
    exact ⟨_, rfl, sev_R h (.tmp t)⟩
  | cell x t =>
    simp only [resOne] at hr
    split at hr <;> try (cases hr; done)
    rename_i k off hx
    split at hr <;> try (cases hr; done)
    rename_i b hb
    have h1 := sev_R h (.tmp x)
    rw [hx] at h1
    obtain ⟨l, hk, hv⟩ := h1
    obtain ⟨u, hu, hur⟩ := loadS_run (P := P) hr (h.rel.at hb hk)
    refine ⟨u, ?_, hur⟩
    have hv' : a.tmps.getD x undef = .pointer (some ⟨l.blk, l.o0 + off, none⟩) := hv
    simp only [resRun, Sem.run_bind, hv', asAddr, Sem.run_pure, Result.andThen_ok, hu]

theorem resMany_run (h : RelA X ρ st a w) : ∀ {rs : List ResultVar} {vs : List (SC ⊕ List SC)}, resMany P st rs = some (true, vs) →
    ∃ us : List Value, (rs.mapM (resRun a.tmps)).run P w = .ok us w ∧ All2 (PartR ρ) vs us
  | [], vs, h' => by
    simp only [resMany, Option.some.injEq, Prod.mk.injEq, true_and] at h'; subst h'
    exact ⟨[], rfl, .nil⟩
  | r :: rs, vs, h' => by
    simp only [resMany] at h'
    split at h' <;> try (cases h'; done)
    rename_i o v o' vs' hv hvs
    split at h' <;> try (cases h'; done)
    rename_i p hp
    simp only [Option.some.injEq, Prod.mk.injEq, Bool.and_eq_true] at h'
    obtain ⟨⟨rfl, rfl⟩, rfl⟩ := h'
    obtain ⟨u, hu, hur⟩ := resOne_run (P := P) h hv
    obtain ⟨us, hus, husr⟩ := resMany_run h hvs
    refine ⟨u :: us, ?_, .cons ?_ husr⟩
    · rw [List.mapM_cons, Sem.run_bind, hu, Result.andThen_ok, Sem.run_bind, hus, Result.andThen_ok]
      rfl
    · cases v <;> simp only [asPart, Option.some.injEq, reduceCtorEq] at hp <;> subst hp <;> exact hur

theorem resS_run (h : RelA X ρ st a w) {fn : Func} {v : SV} (hr : resS P st fn.results.toList = some (true, v)) :
    ∃ u, (results fn a.tmps).run P w = .ok u w ∧ v.R ρ u := by
  rw [results_eq, Array.mapM_eq_mapM_toList]
  unfold resS at hr
  split at hr
  · rename_i r hl
    obtain ⟨u, hu, hur⟩ := resOne_run (P := P) h hr
    refine ⟨u, ?_, hur⟩
    rw [hl]
    simp only [Sem.run_bind, Sem.run_map, List.mapM_cons, List.mapM_nil]
    rw [hu]
    simp
  · rename_i l hne
    split at hr <;> try (cases hr; done)
    rename_i o vs hvs
    simp only [Option.some.injEq, Prod.mk.injEq] at hr
    obtain ⟨rfl, rfl⟩ := hr
    obtain ⟨us, hus, husr⟩ := resMany_run h hvs
    refine ⟨.tuple us.toArray, ?_, us, rfl, husr⟩
    simp only [Sem.run_bind, Sem.run_map]
    rw [hus]
    have h1 : us.length = fn.results.toList.length := by
      have e1 := husr.length
      have e2 : ∀ {rs : List ResultVar} {o} {vs : List (SC ⊕ List SC)}, resMany P st rs = some (o, vs) → vs.length = rs.length := by
        intro rs
        induction rs with
        | nil => intro o vs h; simp only [resMany, Option.some.injEq, Prod.mk.injEq] at h; obtain ⟨_, rfl⟩ := h; rfl
        | cons r rs ih =>
          intro o vs h
          simp only [resMany] at h
          split at h <;> try (cases h; done)
          split at h <;> try (cases h; done)
          rename_i hvs _ _ _
          simp only [Option.some.injEq, Prod.mk.injEq] at h
          obtain ⟨_, rfl⟩ := h
          simp [ih hvs]
      rw [← e1, e2 hvs]
    have h2 : ¬ (us.toArray.size = 1) := by
      intro hh
      simp at hh
      rw [h1] at hh
      obtain ⟨r, hr⟩ := List.length_eq_one_iff.1 hh
      exact hne r hr
    simp only [Result.andThen_ok, Sem.run_pure, dif_neg h2]
end

def argTmps : List SV → Nat → List (Nat × SV)
  | [], _ => []
  | v :: r, i => (i, v) :: argTmps r (i + 1)
theorem argTmps_get {ρ : Ren} : ∀ {args : List SV} {vs : List Value} (i t : Nat) (v : SV), All2 (SV.R ρ) args vs → get (argTmps args i) t = some v → i ≤ t ∧ ∃ u, vs[t - i]? = some u ∧ v.R ρ u
  | [], vs, i, t, v, h, hg => by simp [argTmps, get] at hg
  | x :: args, vs, i, t, v, h, hg => by
    cases h with
    | @cons _ u _ vs h1 h2 =>
    by_cases hit : i = t
    · subst hit
      simp [argTmps, get] at hg; subst hg
      exact ⟨Nat.le_refl _, u, by simp, h1⟩
    · simp only [argTmps, get, beq_of_ne hit, cond_false] at hg
      obtain ⟨h3, u', hu, hr⟩ := argTmps_get (i + 1) t v h2 hg
      refine ⟨by omega, u', ?_, hr⟩
      have : t - i = (t - (i + 1)) + 1 := by omega
      rw [this, List.getElem?_cons_succ]; exact hu

def isEnd : Out → Bool
  | .norm => true
  | .ret => true
  | _ => false

/-- A function gone through: the arguments, a table; the end. -/
def xfun (P : Program) (C : List (Nat × Con)) (fuel : Nat) (f : FuncId) (args : List SV) (T : Tab) (nk : Nat) (told : List Bool) : Option (Bool × List Prop × SV × Tab) :=
  match P.funcs[f]? with
  | some fn => match fn.body with
    | some c => match xcode P C fuel c ⟨⟨argTmps args 0, T, nk, fn.ntmps⟩, true, [], ⟨told, []⟩⟩ with
      | some (o, s) => match resS P s.st fn.results.toList with
        | some (b, v) => some (bnd s.ob (b && (isEnd o && Nat.ble args.length fn.ntmps)), s.obs, v, s.st.tab)
        | none => none
      | none => none
    | none => none
  | none => none

theorem xfun_run {P : Program} {C : List (Nat × Con)} (hC : LibOK P C) (hm : P.follows .mixedOrders = true) {fuel : Nat} {f : FuncId} {args : List SV} {T T' : Tab} {nk : Nat} {told : List Bool} {obs : List Prop} {r : SV}
    (h : xfun P C fuel f args T nk told = some (true, obs, r, T')) (hobs : All obs) {X : Cx} {ρ : Ren} {w : World} {vs : List Value} (hrel : Rel X ρ T w) (ha : All2 (SV.R ρ) args vs) (hf : ∀ k, nk ≤ k → ρ k = none) :
    Calls P f vs.toArray w fun e w' => ∃ v ρ', e = .returned v ∧ r.R ρ' v ∧ Le ρ ρ' ∧ Rel X ρ' T' w' := by
  unfold xfun at h
  split at h <;> try (cases h; done)
  rename_i fn hfn
  split at h <;> try (cases h; done)
  rename_i c hc
  split at h <;> try (cases h; done)
  rename_i o s hs
  split at h <;> try (cases h; done)
  rename_i b v hv
  simp only [Option.some.injEq, Prod.mk.injEq, bnd_true, Bool.and_eq_true, Nat.ble_eq] at h
  obtain ⟨⟨hob, rfl, hend, hlen⟩, rfl, rfl, rfl⟩ := h
  have hal := ha.length
  refine calls_of_wp hfn hc (xcode_run hC hm c fuel _ s o hs hob hobs ρ _ w _ ⟨hrel, fun t x hx => ?_, rfl, hf, ?_⟩ fun ex a' w' ρ' ho hle hrel' => ?_)
  · obtain ⟨_, u, hu, hr⟩ := argTmps_get 0 t x ha hx
    rw [Nat.sub_zero] at hu
    have htl : t < vs.length := (List.getElem?_eq_some_iff.1 hu).1
    exact ⟨u, by rw [Array.getElem?_append_left (by simpa using htl)]; simpa using hu, hr⟩
  · simp; omega
  · obtain ⟨u, hu, hur⟩ := resS_run hrel' hv
    have : a'.defers = [] ∧ ∃ u, (results fn a'.tmps).run P w' = .ok u w' ∧ ∃ u1 ρ', Ending.returned u = .returned u1 ∧ SV.R ρ' v u1 ∧ Le ρ ρ' ∧ Rel X ρ' s.st.tab w' :=
      ⟨hrel'.defers, u, hu, u, ρ', rfl, hur, hle, hrel'.rel⟩
    cases o <;> cases ex <;> first | exact False.elim ho | (simp [isEnd] at hend; done) | exact this

end Go.Proofs.Ytkpdkfeklecehaa.Sx
