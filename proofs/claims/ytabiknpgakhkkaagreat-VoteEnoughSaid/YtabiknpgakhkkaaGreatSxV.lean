/-
  Contracts of functions that look at slices of plain cells among plain arguments; what comes back is a plain value, or a new row of bytes.
-/
import Derived.Test.YtabiknpgakhkkaaGreatSxR
set_option maxRecDepth 20000
namespace Go.Proofs.YtabiknpgakhkkaaGreat.Sx
open Go.RowKit
set_option linter.unusedVariables false
set_option linter.unusedSimpArgs false

/-- Which arguments are slices (some m: of elements of m cells): the others; the slices. -/
def splitS (T : Tab) : List (Option Nat) → List SV → Option (Bool × List SV × List RB)
  | [], [] => some (true, [], [])
  | none :: fs, a :: as => match splitS T fs as with
    | some (ok, ps, rs) => some (a.sole && ok, a :: ps, rs)
    | none => none
  | some m :: fs, a :: as => match splitS T fs as with
    | some (ok, ps, rs) => match a with
      | .c (.slc k off e n _) => match T.blk k with
        | some b => some ((Nat.beq e m && b.cells.all SC.sole) && ok, ps, ⟨off, n, ⟨b.cells, b.ty, true, false⟩⟩ :: rs)
        | none => none
      | .c .nils => some (ok, ps, ⟨0, 0, ⟨[], 0, true, false⟩⟩ :: rs)
      | _ => none
    | none => none
  | _, _ => none
def joinS : List (Option Nat) → List SV → List RB → Nat → List SV
  | [], _, _, _ => []
  | some m :: fs, ps, r :: rs, j => .c (.slc j r.off m r.n none) :: joinS fs ps rs (j + 1)
  | none :: fs, p :: ps, rs, j => p :: joinS fs ps rs j
  | _, _, _, _ => []

theorem splitS_spec {X : Cx} {ρ : Ren} {T : Tab} {w : World} (hrel : Rel X ρ T w) : ∀ {fs : List (Option Nat)} {as : List SV} {vs : List Value} {ok : Bool} {ps : List SV} {rs : List RB}, splitS T fs as = some (ok, ps, rs) → ok = true → All2 (SV.R ρ) as vs →
    ps.all SV.sole = true ∧ (∀ r ∈ rs, r.b.own = false ∧ r.b.tail = true ∧ r.b.cells.all SC.sole = true) ∧ ∃ xs : List (Option Loc), xs.length = rs.length ∧ (∀ ρ' : Ren, All2 (ROb ρ' w) (rs.map RB.b) xs) ∧
      ∀ (ρ' : Ren) (j : Nat), (∀ i, i < xs.length → ρ' (j + i) = xs[i]?) → All2 (SV.R ρ') (joinS fs ps rs j) vs
  | [], [], vs, ok, ps, rs, h, ho, ha => by
    simp only [splitS, Option.some.injEq, Prod.mk.injEq] at h
    obtain ⟨rfl, rfl, rfl⟩ := h
    cases ha
    exact ⟨rfl, fun _ h => by simp at h, [], rfl, fun _ => .nil, fun _ _ _ => .nil⟩
  | none :: fs, a :: as, vs, ok, ps, rs, h, ho, ha => by
    unfold splitS at h
    split at h <;> try (cases h; done)
    rename_i ok' ps' rs' hs
    cases ha with
    | @cons _ u _ us h1 h2 =>
    simp only [Option.some.injEq, Prod.mk.injEq] at h
    obtain ⟨rfl, rfl, rfl⟩ := h
    simp only [Bool.and_eq_true] at ho
    obtain ⟨g1, g2, xs, g4, g5, g6⟩ := splitS_spec hrel hs ho.2 h2
    exact ⟨by simp [ho.1, g1], g2, xs, g4, g5, fun ρ' j hρ => .cons (plainS_R h1 ho.1) (g6 ρ' j hρ)⟩
  | some m :: fs, a :: as, vs, ok, ps, rs, h, ho, ha => by
    unfold splitS at h
    split at h <;> try (cases h; done)
    rename_i ok' ps' rs' hs
    cases ha with
    | @cons _ u _ us h1 h2 =>
    split at h <;> try (cases h; done)
    · rename_i k off e n cap
      split at h <;> try (cases h; done)
      rename_i b hb
      simp only [Option.some.injEq, Prod.mk.injEq] at h
      obtain ⟨rfl, rfl, rfl⟩ := h
      simp only [Bool.and_eq_true] at ho
      obtain ⟨⟨he, hsol⟩, ho⟩ := ho
      obtain rfl := Nat.eq_of_beq_eq_true he
      obtain ⟨g1, g2, xs, g4, g5, g6⟩ := splitS_spec hrel hs ho h2
      obtain ⟨x, hx, hR⟩ := hrel.blk k b hb
      refine ⟨g1, fun r hr => ?_, (x.map fun l => ⟨l.blk, l.tot, false, l.o0⟩) :: xs, by simp [g4], fun ρ' => .cons ⟨rfl, ?_, fun l hl => ?_⟩ (g5 ρ'), fun ρ' j hρ => .cons ?_ (g6 ρ' (j + 1) fun i hi => ?_)⟩
      · rcases List.mem_cons.1 hr with rfl | hr
        · exact ⟨rfl, rfl, hsol⟩
        · exact g2 r hr
      · cases x with
        | none => exact ⟨hR.1, rfl⟩
        | some l =>
          obtain ⟨pre, vs, rest, fr, a1, a2, a3, _, a5, _⟩ := hR
          exact ⟨pre, vs, rest, fr, a1, sole_all a2 hsol, a3, fun h => by simp at h, a5, fun h => by simp at h, fun _ h => by simp at h⟩
      · cases x with
        | none => cases hl
        | some l0 => simp at hl; subst hl; rfl
      · have h0 := hρ 0 (by simp)
        rw [Nat.add_zero] at h0
        have h0 : ρ' j = some (x.map fun l => ⟨l.blk, l.tot, false, l.o0⟩) := h0
        rcases h1 with ⟨c1, c2, c3, _⟩ | ⟨l, o, c, c1, c2, c3, c4, _⟩
        · rw [hx] at c1; cases c1
          exact .inl ⟨h0, c2, c3, fun q hq => by cases hq⟩
        · rw [hx] at c1; cases c1
          exact .inr ⟨_, o, c, h0, c2, c3, c4, fun q hq => by cases hq⟩
      · have := hρ (i + 1) (by simp; omega)
        rw [show j + 1 + i = j + (i + 1) by omega, this]; rfl
    · simp only [Option.some.injEq, Prod.mk.injEq] at h
      obtain ⟨rfl, rfl, rfl⟩ := h
      obtain ⟨g1, g2, xs, g4, g5, g6⟩ := splitS_spec hrel hs ho h2
      refine ⟨g1, fun r hr => ?_, none :: xs, by simp [g4], fun ρ' => .cons ⟨rfl, ⟨rfl, rfl⟩, fun l hl => by cases hl⟩ (g5 ρ'), fun ρ' j hρ => .cons ?_ (g6 ρ' (j + 1) fun i hi => ?_)⟩
      · rcases List.mem_cons.1 hr with rfl | hr
        · exact ⟨rfl, rfl, rfl⟩
        · exact g2 r hr
      · have h0 := hρ 0 (by simp)
        rw [Nat.add_zero] at h0
        have h0 : ρ' j = some none := h0
        have h1 : u = .slice none 0 0 := h1
        exact .inl ⟨h0, ⟨none, h1⟩, rfl, fun q hq => by cases hq⟩
      · have := hρ (i + 1) (by simp; omega)
        rw [show j + 1 + i = j + (i + 1) by omega, this]; rfl
  | [], _ :: _, _, _, _, _, h, _, _ => by simp [splitS] at h
  | none :: _, [], _, _, _, _, h, _, _ => by simp [splitS] at h
  | some _ :: _, [], _, _, _, _, h, _, _ => by simp [splitS] at h

/-- What is known of a slice that is looked at. -/
def RBok (r : RB) : Prop := r.b.own = false ∧ r.b.tail = true ∧ r.b.cells.all SC.sole = true

/-- The result is a plain value, or a tuple of such. -/
def sVal (fs : List (Option Nat)) (spec : List SV → List RB → Option (Bool × SV)) : Con := ⟨false, fun args T _ => match splitS T fs args with
  | some (o, ps, rs) => match spec ps rs with
    | some (ok, v) => some (.new ⟨o && ok, [], v, []⟩)
    | none => none
  | none => none⟩
theorem sVal_ok {P : Program} {f : FuncId} {fs : List (Option Nat)} {spec : List SV → List RB → Option (Bool × SV)} {fn : Func} (hf : P.funcs[f]? = some fn) (hn : (fn.name == "runtime.NumGoroutine") = false) (hb : fn.body.isNone = false)
    (h : ∀ ps rs v, spec ps rs = some (true, v) → ps.all SV.sole = true → (∀ r ∈ rs, RBok r) → v.soleT = true ∧ ∀ w, Fn P f (atW w 0) (joinS fs ps rs 0) (tabL 0 (rs.map RB.b)) rs.length fun r _ => r = v) : ConOK P f (sVal fs spec) := by
  refine ⟨fun args w => enters_of hf hn hb args w, fun args T kb r hr hob hobs X ρ w vs hrel ha hfr => ?_, fun args T kb r hr => ?_⟩
  · simp only [sVal] at hr
    split at hr <;> try (cases hr; done)
    rename_i o ps rs hs
    split at hr <;> try (cases hr; done)
    rename_i ok v hv
    simp only [Option.some.injEq, Eff.new.injEq] at hr; subst hr
    simp only [Bool.and_eq_true] at hob
    obtain ⟨ho, rfl⟩ := hob
    obtain ⟨g1, g2, xs, g4, g5, g6⟩ := splitS_spec hrel hs ho ha
    obtain ⟨hvs, hF⟩ := h ps rs v hv g1 g2
    refine (hF w (renL xs) w vs (relN (g5 _) fun _ h => by simp at h) (g6 (renL xs) 0 fun i hi => by simp [renL]) (renL_fresh xs (by omega))).mono fun e w' ⟨u', v', T', ρ', he, hv', hur, _, hrel'⟩ => ⟨u', ρ, he, ?_, New.of_below hrel'.below⟩
    subst hv'; exact soleT_R hur hvs
  · simp only [sVal] at hr
    split at hr <;> try (cases hr; done)
    split at hr <;> cases hr

/-- The result is a new row of bytes, alone or ahead of other values. -/
def sNew (fs : List (Option Nat)) (spec : List SV → List RB → Option (Bool × RowO)) : Con := ⟨false, fun args T kb => match splitS T fs args with
  | some (o, ps, rs) => match spec ps rs with
    | some (ok, r) => some (.new ⟨o && (ok && r.ok), [], rowSV (.slc kb 0 1 r.n r.cap) r.ps, [(kb, r.b)]⟩)
    | none => none
  | none => none⟩
theorem sNew_ok {P : Program} {f : FuncId} {fs : List (Option Nat)} {spec : List SV → List RB → Option (Bool × RowO)} {fn : Func} (hf : P.funcs[f]? = some fn) (hn : (fn.name == "runtime.NumGoroutine") = false) (hb : fn.body.isNone = false)
    (h : ∀ ps rs o, spec ps rs = some (true, o) → ps.all SV.sole = true → (∀ r ∈ rs, RBok r) → ∀ w, Fn P f (atW w 0) (joinS fs ps rs 0) (tabL 0 (rs.map RB.b)) rs.length fun r T => o.is r T) : ConOK P f (sNew fs spec) := by
  refine ⟨fun args w => enters_of hf hn hb args w, fun args T kb r hr hob hobs X ρ w vs hrel ha hfr => ?_, fun args T kb r hr => ?_⟩
  · simp only [sNew] at hr
    split at hr <;> try (cases hr; done)
    rename_i o ps rs hs
    split at hr <;> try (cases hr; done)
    rename_i ok ro hv
    simp only [Option.some.injEq, Eff.new.injEq] at hr; subst hr
    simp only [Bool.and_eq_true] at hob
    obtain ⟨ho, rfl, hro⟩ := hob
    obtain ⟨g1, g2, xs, g4, g5, g6⟩ := splitS_spec hrel hs ho ha
    have hF := h ps rs ro hv g1 g2
    refine (hF w (renL xs) w vs (relN (g5 _) fun _ h => by simp at h) (g6 (renL xs) 0 fun i hi => by simp [renL]) (renL_fresh xs (by omega))).mono fun e w' ⟨u', v', T', ρ', he, hv', hur, _, hrel'⟩ => ?_
    obtain ⟨ρ2, a1, a2⟩ := RowO.new hro hv' hrel' hur (hfr kb (Nat.le_refl _) (by omega))
    exact ⟨u', ρ2, he, a1, a2⟩
  · simp only [sNew] at hr
    split at hr <;> try (cases hr; done)
    split at hr <;> cases hr

end Go.Proofs.YtabiknpgakhkkaaGreat.Sx
