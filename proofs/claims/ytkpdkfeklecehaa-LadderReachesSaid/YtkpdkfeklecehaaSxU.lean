/-
  Functions gone through where they are called, in the caller's own table (of blocks whose cells are known one by one).
-/
import Derived.Test.YtkpdkfeklecehaaSxT
import Derived.Test.YtkpdkfeklecehaaSxN
namespace Go.Proofs.Ytkpdkfeklecehaa.Sx
open Go.RowKit
set_option linter.unusedVariables false
set_option linter.unusedSimpArgs false

/-- A function gone through: its end, and the first free key there. -/
def xfunN (P : Program) (C : List (Nat × Con)) (fuel : Nat) (f : FuncId) (args : List SV) (T : Tab) (nk : Nat) (told : List Bool) : Option (Bool × List Prop × SV × Tab × Nat) :=
  match P.funcs[f]? with
  | some fn => match fn.body with
    | some c => match xcodeL P C fuel c ⟨⟨argTmps args 0, T, nk, fn.ntmps⟩, true, [], ⟨told, []⟩⟩ with
      | some (o, s) => match resS P s.st fn.results.toList with
        | some (b, v) => some (bnd s.ob (b && (isEnd o && Nat.ble args.length fn.ntmps)), s.obs, v, s.st.tab, s.st.nk)
        | none => none
      | none => none
    | none => none
  | none => none
theorem xfunN_run {P : Program} {C : List (Nat × Con)} (hC : LibOK P C) (hm : P.follows .mixedOrders = true) {fuel : Nat} {f : FuncId} {args : List SV} {T T' : Tab} {nk n : Nat} {told : List Bool} {obs : List Prop} {r : SV}
    (h : xfunN P C fuel f args T nk told = some (true, obs, r, T', n)) (hobs : All obs) {X : Cx} {ρ : Ren} {w : World} {vs : List Value} (hrel : Rel X ρ T w) (ha : All2 (SV.R ρ) args vs) (hf : ∀ k, nk ≤ k → ρ k = none) :
    Calls P f vs.toArray w fun e w' => ∃ v ρ', e = .returned v ∧ r.R ρ' v ∧ Le ρ ρ' ∧ Rel X ρ' T' w' ∧ ∀ k, n ≤ k → ρ' k = none := by
  unfold xfunN at h
  split at h <;> try (cases h; done)
  rename_i fn hfn
  split at h <;> try (cases h; done)
  rename_i c hc
  split at h <;> try (cases h; done)
  rename_i o s hs
  split at h <;> try (cases h; done)
  rename_i b v hv
  simp only [Option.some.injEq, Prod.mk.injEq, bnd_true, Bool.and_eq_true, Nat.ble_eq] at h
  obtain ⟨⟨hob, rfl, hend, hlen⟩, rfl, rfl, rfl, rfl⟩ := h
  have hal := ha.length
  refine calls_of_wp hfn hc (xcode_run hC hm c fuel _ s o (xcodeL_eq _ _ _ _ _ hs hob hobs) hob hobs ρ _ w _ ⟨hrel, fun t x hx => ?_, rfl, hf, ?_⟩ fun ex a' w' ρ' ho hle hrel' => ?_)
  · obtain ⟨_, u, hu, hr⟩ := argTmps_get 0 t x ha hx
    rw [Nat.sub_zero] at hu
    have htl : t < vs.length := (List.getElem?_eq_some_iff.1 hu).1
    exact ⟨u, by rw [Array.getElem?_append_left (by simpa using htl)]; simpa using hu, hr⟩
  · simp; omega
  · obtain ⟨u, hu, hur⟩ := resS_run hrel' hv
    have : a'.defers = [] ∧ ∃ u, (results fn a'.tmps).run P w' = .ok u w' ∧ ∃ u1 ρ', Ending.returned u = .returned u1 ∧ SV.R ρ' v u1 ∧ Le ρ ρ' ∧ Rel X ρ' s.st.tab w' ∧ ∀ k, s.st.nk ≤ k → ρ' k = none :=
      ⟨hrel'.defers, u, hu, u, ρ', rfl, hur, hle, hrel'.rel, hrel'.fresh⟩
    cases o <;> cases ex <;> first | exact False.elim ho | (simp [isEnd] at hend; done) | exact this

/-! The keys that are still asked for. -/
def SC.keys : SC → List Nat
  | .ptr k _ => [k]
  | .slc k _ _ _ _ => [k]
  | .fn _ caps => caps.map fun q => q.1
  | _ => []
def cellsKeys : List SC → List Nat
  | [] => []
  | x :: r => match x.keys with
    | [] => cellsKeys r
    | l => l ++ cellsKeys r
def SV.keys : SV → List Nat
  | .c x => x.keys
  | .agg cs => cellsKeys cs
  | .tup vs => vs.flatMap fun | .inl x => x.keys | .inr cs => cellsKeys cs
  | .und => []
def addNew (kb : Nat) : List Nat → List Nat → List Nat
  | [], acc => acc
  | k :: r, acc => match Nat.blt k kb || acc.any (Nat.beq k) with
    | true => addNew kb r acc
    | false => addNew kb r (acc ++ [k])
def oldKeys (kb : Nat) : Tab → List Nat → List Nat
  | [], acc => acc
  | (k, _) :: r, acc => match Nat.blt k kb && !(acc.any (Nat.beq k)) with
    | true => oldKeys kb r (acc ++ [k])
    | false => oldKeys kb r acc
def blkKeys (T : Tab) (k : Nat) : List Nat := match T.blk k with
  | some b => cellsKeys b.cells
  | none => []
def isLive (T : Tab) (k : Nat) : Bool := match T.blk k with
  | some _ => true
  | none => false
def zipK : List Nat → Nat → List (Nat × Nat × Bool)
  | [], _ => []
  | k :: r, j => (k, j, false) :: zipK r (j + 1)
def cutOf (kb : Nat) (T : Tab) (v : SV) : Cut :=
  let olds := (oldKeys kb T []).filter (isLive T)
  let n1 := addNew kb (v.keys ++ olds.flatMap (blkKeys T)) []
  let n2 := addNew kb (n1.flatMap (blkKeys T)) n1
  let n3 := addNew kb (n2.flatMap (blkKeys T)) n2
  ⟨[(0, false)], olds.map (fun k => (k, k, false)) ++ zipK (n3.filter (isLive T)) kb, kb + 4⟩

/-- A function gone through in the caller's table. -/
def inlM (P : Program) (C : List (Nat × Con)) (fuel : Nat) (f : FuncId) (told : List Bool) : Con := ⟨true, fun args T kb => match xfunN P C fuel f args T kb told with
  | some (ob, obs, v, T', n) => match get ((cutOf kb T' v).st ⟨[(0, v)], T', n, 1⟩).tmps 0 with
    | some v' => some (.turn ⟨bnd ob ((cutOf kb T' v).ok kb ⟨[(0, v)], T', n, 1⟩), obs, v', ((cutOf kb T' v).st ⟨[(0, v)], T', n, 1⟩).tab⟩)
    | none => none
  | none => none⟩

theorem cutOf_nk (kb : Nat) (T : Tab) (v : SV) : (cutOf kb T v).nk = kb + 4 := rfl

theorem inlM_ok {P : Program} {C : List (Nat × Con)} (hC : LibOK P C) (hm : P.follows .mixedOrders = true) {fuel : Nat} {f : FuncId} {told : List Bool} (hf : inlOk P f = true) : ConOK P f (inlM P C fuel f told) := by
  unfold inlOk at hf
  split at hf <;> try (cases hf; done)
  rename_i fn hfn
  simp only [Bool.and_eq_true, Bool.not_eq_true'] at hf
  refine ⟨fun args w => enters_of hfn hf.1 hf.2 args w, fun args T kb r hr => ?_, fun args T kb r hr hob hobs X ρ w vs hrel ha hfr => ?_⟩
  · simp only [inlM] at hr
    split at hr
    · split at hr <;> cases hr
    · cases hr
  · simp only [inlM] at hr
    split at hr <;> try (cases hr; done)
    rename_i ob obs v T' n hx
    split at hr <;> try (cases hr; done)
    rename_i v' hv'
    simp only [Option.some.injEq, Eff.turn.injEq] at hr; subst hr
    simp only [bnd_true] at hob
    obtain ⟨rfl, hok⟩ := hob
    have hrel1 : Rel ⟨X.w0, X.B, X.mb, kb⟩ ρ T w := ⟨hrel.os, hrel.tape, hrel.output, hrel.size, hrel.size0, hrel.old, hrel.blk, hrel.sep, hrel.lit, hrel.rows⟩
    refine (xfunN_run hC hm hx hobs hrel1 ha hfr).mono fun e w' ⟨u, ρ1, he, hur, hle, hrel', hfr'⟩ => ⟨u, he, ?_⟩
    have hA : RelA ⟨X.w0, X.B, X.mb, kb⟩ ρ1 ⟨[(0, v)], T', n, 1⟩ { tmps := #[u], defers := [] } w' := by
      refine ⟨hrel', fun t x hx => ?_, rfl, hfr', rfl⟩
      by_cases ht : (0 : Nat) = t
      · subst ht
        simp only [get, beq_self, cond_true, Option.some.injEq] at hx
        subst hx
        exact ⟨u, by simp, hur⟩
      · simp [get, beq_of_ne ht] at hx
    obtain ⟨hag, hA2⟩ := hA.shift (Cut.shift hok)
    obtain ⟨u2, hu2, hr2⟩ := hA2.tmps 0 v' hv'
    simp at hu2; subst hu2
    refine ⟨_, hr2, ⟨fun k x hk => hag k ?_ x (hle _ _ hk), fun y bs hy => hle.row _ _ hy⟩, ⟨hA2.rel.os, hA2.rel.tape, hA2.rel.output, hA2.rel.size, hA2.rel.size0, hA2.rel.old, hA2.rel.blk, hA2.rel.sep, hA2.rel.lit, hA2.rel.rows⟩, fun k hk => hA2.fresh k hk⟩
    rcases Nat.lt_or_ge k kb with h | h
    · exact h
    · have := hfr k h; rw [this] at hk; cases hk

/-- A contract of plain values and, behind them, what was captured: a block that is looked at. -/
def capR (spec : List SV → Nat → List SC → Option (Bool × SV)) : Con := ⟨false, fun args T kb => match args.reverse with
  | .c (.ptr k off) :: ps => match T.blk k with
    | some b => match spec ps.reverse off b.cells with
      | some (ok, v) => some (.new ⟨b.cells.all SC.sole && (ps.all SV.sole && (v.soleT && ok)), [], v, []⟩)
      | none => none
    | none => none
  | _ => none⟩
theorem capR_ok {P : Program} {f : FuncId} {spec : List SV → Nat → List SC → Option (Bool × SV)} {fn : Func} (hf : P.funcs[f]? = some fn) (hn : (fn.name == "runtime.NumGoroutine") = false) (hb : fn.body.isNone = false)
    (h : ∀ ps off b v, spec ps off b.cells = some (true, v) → ps.all SV.sole = true → b.cells.all SC.sole = true → b.own = false → b.tail = true → ∀ w, Fn P f (atW w 0) (ps ++ [.c (.ptr 0 off)]) [(0, some b)] 1 fun r _ => r = v) : ConOK P f (capR spec) := by
  refine ⟨fun args w => enters_of hf hn hb args w, fun args T kb r hr hob hobs X ρ w vs hrel ha hfr => ?_, fun args T kb r hr => ?_⟩
  · simp only [capR] at hr
    split at hr <;> try (cases hr; done)
    rename_i k off ps hrev
    split at hr <;> try (cases hr; done)
    rename_i b hbk
    split at hr <;> try (cases hr; done)
    rename_i ok v hsp
    simp only [Option.some.injEq, Eff.new.injEq] at hr; subst hr
    simp only [Bool.and_eq_true] at hob
    obtain ⟨hs, hps, hv, rfl⟩ := hob
    have hargs : args = ps.reverse ++ [.c (.ptr k off)] := by
      have := congrArg List.reverse hrev
      simpa using this
    subst hargs
    obtain ⟨m1, m2, rfl, h1, h2⟩ := All2.of_append ha
    cases h2 with
    | @cons _ u _ us hu hnil =>
    cases hnil
    obtain ⟨l, hl, rfl⟩ := hu
    obtain ⟨x, hx, hR⟩ := hrel.blk k b hbk
    rw [hl] at hx; cases hx
    obtain ⟨pre, ws, rest, fr, hh, hc, htot, ht, hpre, _⟩ := hR
    have hblk : ∀ ρ' : Ren, (⟨b.cells, b.ty, true, false⟩ : Blk).R ρ' w (some ⟨l.blk, l.tot, false, l.o0⟩) := fun ρ' =>
      ⟨pre, ws, rest, fr, hh, sole_all hc hs, htot, fun h => by simp at h, hpre, fun h => by simp at h, fun _ h => by simp at h⟩
    have hF := h ps.reverse off ⟨b.cells, b.ty, true, false⟩ v hsp (by rw [List.all_reverse]; exact hps) hs rfl rfl w
    have hrel0 : Rel (atW w 0) (renL [some ⟨l.blk, l.tot, false, l.o0⟩]) [(0, some ⟨b.cells, b.ty, true, false⟩)] w :=
      relN (bs := [⟨b.cells, b.ty, true, false⟩]) (xs := [some ⟨l.blk, l.tot, false, l.o0⟩]) (rs := []) (.cons ⟨rfl, hblk _, fun l' hl' => by cases hl'; rfl⟩ .nil) (fun _ h => absurd h List.not_mem_nil)
    have hp : SV.R (renL [some ⟨l.blk, l.tot, false, l.o0⟩]) (.c (.ptr 0 off)) (.pointer (some ⟨l.blk, l.o0 + off, none⟩)) := ⟨⟨l.blk, l.tot, false, l.o0⟩, rfl, rfl⟩
    have hps' : ps.reverse.all SV.sole = true := by rw [List.all_reverse]; exact hps
    have hargs : All2 (SV.R (renL [some ⟨l.blk, l.tot, false, l.o0⟩])) (ps.reverse ++ [.c (.ptr 0 off)]) (m1 ++ [.pointer (some ⟨l.blk, l.o0 + off, none⟩)]) := (plains_R h1 hps').append (.cons hp .nil)
    refine (hF _ w _ hrel0 hargs (renL_fresh _ (by simp))).mono fun e w' ⟨u', v', T', ρ', he, hv', hur, _, hrel'⟩ => ⟨u', ρ, he, ?_, New.of_below hrel'.below⟩
    subst hv'; exact soleT_R hur hv
  · simp only [capR] at hr
    split at hr <;> try (cases hr; done)
    split at hr <;> try (cases hr; done)
    split at hr <;> cases hr

end Go.Proofs.Ytkpdkfeklecehaa.Sx
