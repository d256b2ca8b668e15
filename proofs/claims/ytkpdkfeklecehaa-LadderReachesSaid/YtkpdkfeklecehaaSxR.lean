/-
  Contracts of functions that read any number of rows of bytes among plain arguments; what comes back is a plain value, or a new row, alone or ahead of other values.
-/
import Derived.Test.YtkpdkfeklecehaaSxN
import Derived.Test.YtkpdkfeklecehaaSxO
namespace Go.Proofs.Ytkpdkfeklecehaa.Sx
open Go.RowKit
set_option linter.unusedVariables false
set_option linter.unusedSimpArgs false

/-- Which arguments are rows of bytes (true): the others; the rows' bytes. -/
def splitA (T : Tab) (lim : Nat) : List Bool → List SV → Option (Bool × List SV × List (List UInt8))
  | [], [] => some (true, [], [])
  | f :: fs, a :: as => match splitA T lim fs as with
    | some (ok, ps, rs) => match f with
      | false => some (a.sole && ok, a :: ps, rs)
      | true => match a with
        | .c x => some (((SV.c x).noStr && (srcOk T 1 (.c x) && ((srcC T (.c x)).all SC.isU8 && Nat.ble (srcN (.c x)) lim))) && ok, ps, (srcC T (.c x)).map SC.asU8 :: rs)
        | _ => none
    | none => none
  | _, _ => none
/-- A row as the callee has it: a place in a block, a length. -/
structure RB where
  off : Nat
  n : Nat
  b : Blk
def joinA : List Bool → List SV → List RB → Nat → List SV
  | [], _, _, _ => []
  | true :: fs, ps, r :: rs, j => .c (.slc j r.off 1 r.n none) :: joinA fs ps rs (j + 1)
  | false :: fs, p :: ps, rs, j => p :: joinA fs ps rs j
  | _, _, _, _ => []
def RBof (r : RB) (bs : List UInt8) : Prop := r.n = bs.length ∧ RowB r.off r.b bs

theorem splitA_spec {X : Cx} {ρ : Ren} {T : Tab} {w : World} {lim : Nat} (hrel : Rel X ρ T w) : ∀ {fs : List Bool} {as : List SV} {vs : List Value} {ok : Bool} {ps : List SV} {rs : List (List UInt8)}, splitA T lim fs as = some (ok, ps, rs) → ok = true → All2 (SV.R ρ) as vs →
    ps.all SV.sole = true ∧ (∀ r ∈ rs, r.length ≤ lim) ∧ ∃ (rb : List RB) (xs : List (Option Loc)), All2 RBof rb rs ∧ xs.length = rb.length ∧ (∀ ρ' : Ren, All2 (ROb ρ' w) (rb.map RB.b) xs) ∧
      ∀ (ρ' : Ren) (j : Nat), (∀ i, i < xs.length → ρ' (j + i) = xs[i]?) → All2 (SV.R ρ') (joinA fs ps rb j) vs
  | [], [], vs, ok, ps, rs, h, ho, ha => by
    simp only [splitA, Option.some.injEq, Prod.mk.injEq] at h
    obtain ⟨rfl, rfl, rfl⟩ := h
    cases ha
    exact ⟨rfl, fun _ h => by simp at h, [], [], .nil, rfl, fun _ => .nil, fun _ _ _ => .nil⟩
  | f :: fs, a :: as, vs, ok, ps, rs, h, ho, ha => by
    unfold splitA at h
    split at h <;> try (cases h; done)
    rename_i ok' ps' rs' hs
    cases ha with
    | @cons _ u _ us h1 h2 =>
    split at h
    · simp only [Option.some.injEq, Prod.mk.injEq] at h
      obtain ⟨rfl, rfl, rfl⟩ := h
      simp only [Bool.and_eq_true] at ho
      obtain ⟨g1, g2, rb, xs, g3, g4, g5, g6⟩ := splitA_spec hrel hs ho.2 h2
      exact ⟨by simp [ho.1, g1], g2, rb, xs, g3, g4, g5, fun ρ' j hρ => .cons (plainS_R h1 ho.1) (g6 ρ' j hρ)⟩
    · split at h <;> try (cases h; done)
      rename_i x
      simp only [Option.some.injEq, Prod.mk.injEq] at h
      obtain ⟨rfl, rfl, rfl⟩ := h
      simp only [Bool.and_eq_true] at ho
      obtain ⟨⟨hno, hok, hu, hlim⟩, ho⟩ := ho
      obtain ⟨g1, g2, rb, xs, g3, g4, g5, g6⟩ := splitA_spec hrel hs ho h2
      obtain ⟨off, b, y, hrow, hbR, hsR, hyl⟩ := bytesAt_of hrel h1 hno hok hu
      refine ⟨g1, fun r hr => ?_, ⟨off, _, b⟩ :: rb, y :: xs, .cons ⟨rfl, hrow⟩ g3, by simp [g4], fun ρ' => .cons ⟨hrow.own, hbR ρ', hyl⟩ (g5 ρ'), fun ρ' j hρ => ?_⟩
      · rcases List.mem_cons.1 hr with rfl | hr
        · exact src_len hok hlim
        · exact g2 r hr
      · refine .cons (hsR ρ' j ?_) (g6 ρ' (j + 1) fun i hi => ?_)
        · have := hρ 0 (by simp)
          simpa using this
        · have := hρ (i + 1) (by simp; omega)
          rw [show j + 1 + i = j + (i + 1) by omega, this]; rfl
  | [], _ :: _, _, _, _, _, h, _, _ => by simp [splitA] at h
  | _ :: _, [], _, _, _, _, h, _, _ => by simp [splitA] at h

/-- A contract whose result is a plain value, or a tuple of such. -/
def gVal (fs : List Bool) (lim : Nat) (spec : List SV → List (List UInt8) → Option (Bool × SV)) : Con := ⟨false, fun args T _ => match splitA T lim fs args with
  | some (o, ps, rs) => match spec ps rs with
    | some (ok, v) => some (.new ⟨o && ok, [], v, []⟩)
    | none => none
  | none => none⟩
theorem gVal_ok {P : Program} {f : FuncId} {fs : List Bool} {lim : Nat} {spec : List SV → List (List UInt8) → Option (Bool × SV)} {fn : Func} (hf : P.funcs[f]? = some fn) (hn : (fn.name == "runtime.NumGoroutine") = false) (hb : fn.body.isNone = false)
    (h : ∀ ps rs v, spec ps rs = some (true, v) → ps.all SV.sole = true → (∀ r ∈ rs, r.length ≤ lim) → v.soleT = true ∧ ∀ w rb, All2 RBof rb rs → Fn P f (atW w 0) (joinA fs ps rb 0) (tabL 0 (rb.map RB.b)) rb.length fun r _ => r = v) : ConOK P f (gVal fs lim spec) := by
  refine ⟨fun args w => enters_of hf hn hb args w, fun args T kb r hr hob hobs X ρ w vs hrel ha hfr => ?_, fun args T kb r hr => ?_⟩
  · simp only [gVal] at hr
    split at hr <;> try (cases hr; done)
    rename_i o ps rs hs
    split at hr <;> try (cases hr; done)
    rename_i ok v hv
    simp only [Option.some.injEq, Eff.new.injEq] at hr; subst hr
    simp only [Bool.and_eq_true] at hob
    obtain ⟨ho, rfl⟩ := hob
    obtain ⟨g1, g2, rb, xs, g3, g4, g5, g6⟩ := splitA_spec hrel hs ho ha
    obtain ⟨hvs, hF⟩ := h ps rs v hv g1 g2
    refine (hF w rb g3 (renL xs) w vs (relN (g5 _) fun _ h => by simp at h) (g6 (renL xs) 0 fun i hi => by simp [renL]) (renL_fresh xs (by omega))).mono fun e w' ⟨u', v', T', ρ', he, hv', hur, _, hrel'⟩ => ⟨u', ρ, he, ?_, New.of_below hrel'.below⟩
    subst hv'; exact soleT_R hur hvs
  · simp only [gVal] at hr
    split at hr <;> try (cases hr; done)
    split at hr <;> cases hr

/-- A new row, alone or ahead of other values. -/
def rowSV (x : SC) : Option (List (SC ⊕ List SC)) → SV
  | none => .c x
  | some ps => .tup (.inl x :: ps)
theorem rowSV_split {ρ0 : Ren} {x : SC} {ps : Option (List (SC ⊕ List SC))} {u : Value} (h : (rowSV x ps).R ρ0 u) (hp : ∀ qs, ps = some qs → qs.all partSole = true) : ∃ v, x.R ρ0 v ∧ ∀ (ρ : Ren) (y : SC), y.R ρ v → (rowSV y ps).R ρ u := by
  cases ps with
  | none => exact ⟨u, h, fun ρ y hy => hy⟩
  | some qs =>
    obtain ⟨vs, rfl, hvs⟩ := h
    cases hvs with
    | @cons _ v _ vs' h1 h2 =>
    refine ⟨v, h1, fun ρ y hy => ?_⟩
    obtain ⟨vs2, e, h3⟩ := soleT_R (ρ := ρ0) (ρ' := ρ) (x := .tup qs) (v := .tuple vs'.toArray) ⟨vs', rfl, h2⟩ (hp qs rfl)
    have e : vs' = vs2 := by simpa using e
    subst e
    exact ⟨v :: vs', rfl, .cons hy h3⟩

/-- What a new row is: its block, length, capacity, what stands behind it. -/
structure RowO where
  b : Blk
  n : Nat
  cap : Option Nat := none
  ps : Option (List (SC ⊕ List SC)) := none
def RowO.ok (r : RowO) : Bool := r.b.own && (r.b.cells.all SC.sole && match r.ps with | some qs => qs.all partSole | none => true)
/-- What a function hands back is that row; or no row, where it has no bytes. -/
def RowO.is (o : RowO) (r : SV) (T : Tab) : Prop := (∃ k, r = rowSV (.slc k 0 1 o.n o.cap) o.ps ∧ T.blk k = some o.b) ∨ (o.n = 0 ∧ o.cap = none ∧ o.b.cells = [] ∧ o.b.tail = true ∧ r = rowSV .nils o.ps)
theorem RowO.new {o : RowO} {r : SV} {T : Tab} {ρ ρ0 : Ren} {w w' : World} {u : Value} {kb : Nat} (hok : o.ok = true) (h : o.is r T) (hrel : Rel (atW w 0) ρ0 T w') (hu : r.R ρ0 u) (hfr : ρ kb = none) :
    ∃ ρ', (rowSV (.slc kb 0 1 o.n o.cap) o.ps).R ρ' u ∧ New ρ ρ' [(kb, o.b)] w w' := by
  unfold RowO.ok at hok
  simp only [Bool.and_eq_true] at hok
  obtain ⟨hown, hs, hps⟩ := hok
  have hps' : ∀ qs, o.ps = some qs → qs.all partSole = true := fun qs e => by rw [e] at hps; exact hps
  rcases h with ⟨k, rfl, hk⟩ | ⟨hn, hc, hcs, ht, rfl⟩
  · obtain ⟨v, hv, hall⟩ := rowSV_split hu hps'
    obtain ⟨ρ', g1, g2⟩ := new_blk (ρ := ρ) (kb := kb) hk hown hs hrel hv hfr
    exact ⟨ρ', hall ρ' _ g1, g2⟩
  · obtain ⟨v, hv, hall⟩ := rowSV_split hu hps'
    obtain rfl : v = .slice none 0 0 := hv
    refine ⟨upd ρ kb none, hall _ _ (.inl ⟨upd_same _ _ _, ⟨_, rfl⟩, hn, fun q hq => by rw [hc] at hq; cases hq⟩), New.one hfr hrel.below ⟨hcs, ht⟩ (fun l hl => by cases hl) (fun l hl => by cases hl)⟩

/-- A contract whose result is a new row, alone or ahead of other values. -/
def gNew (fs : List Bool) (lim : Nat) (spec : List SV → List (List UInt8) → Option (Bool × RowO)) : Con := ⟨false, fun args T kb => match splitA T lim fs args with
  | some (o, ps, rs) => match spec ps rs with
    | some (ok, r) => some (.new ⟨o && (ok && r.ok), [], rowSV (.slc kb 0 1 r.n r.cap) r.ps, [(kb, r.b)]⟩)
    | none => none
  | none => none⟩
theorem gNew_ok {P : Program} {f : FuncId} {fs : List Bool} {lim : Nat} {spec : List SV → List (List UInt8) → Option (Bool × RowO)} {fn : Func} (hf : P.funcs[f]? = some fn) (hn : (fn.name == "runtime.NumGoroutine") = false) (hb : fn.body.isNone = false)
    (h : ∀ ps rs o, spec ps rs = some (true, o) → ps.all SV.sole = true → (∀ r ∈ rs, r.length ≤ lim) → ∀ w rb, All2 RBof rb rs → Fn P f (atW w 0) (joinA fs ps rb 0) (tabL 0 (rb.map RB.b)) rb.length fun r T => o.is r T) : ConOK P f (gNew fs lim spec) := by
  refine ⟨fun args w => enters_of hf hn hb args w, fun args T kb r hr hob hobs X ρ w vs hrel ha hfr => ?_, fun args T kb r hr => ?_⟩
  · simp only [gNew] at hr
    split at hr <;> try (cases hr; done)
    rename_i o ps rs hs
    split at hr <;> try (cases hr; done)
    rename_i ok ro hv
    simp only [Option.some.injEq, Eff.new.injEq] at hr; subst hr
    simp only [Bool.and_eq_true] at hob
    obtain ⟨ho, rfl, hro⟩ := hob
    obtain ⟨g1, g2, rb, xs, g3, g4, g5, g6⟩ := splitA_spec hrel hs ho ha
    have hF := h ps rs ro hv g1 g2
    refine (hF w rb g3 (renL xs) w vs (relN (g5 _) fun _ h => by simp at h) (g6 (renL xs) 0 fun i hi => by simp [renL]) (renL_fresh xs (by omega))).mono fun e w' ⟨u', v', T', ρ', he, hv', hur, _, hrel'⟩ => ?_
    obtain ⟨ρ2, a1, a2⟩ := RowO.new hro hv' hrel' hur (hfr kb (Nat.le_refl _) (by omega))
    exact ⟨u', ρ2, he, a1, a2⟩
  · simp only [gNew] at hr
    split at hr <;> try (cases hr; done)
    split at hr <;> cases hr

end Go.Proofs.Ytkpdkfeklecehaa.Sx
