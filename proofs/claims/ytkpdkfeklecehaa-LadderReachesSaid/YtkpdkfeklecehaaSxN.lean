/-
  Functions of plain values gone through where they are called.
-/
import Derived.Test.YtkpdkfeklecehaaSxM
import Derived.Test.YtkpdkfeklecehaaSxL
namespace Go.Proofs.Ytkpdkfeklecehaa.Sx
open Go.RowKit
set_option linter.unusedVariables false
set_option linter.unusedSimpArgs false

theorem new_blk {ρ ρ0 : Ren} {T : Tab} {w w' : World} {k kb m n : Nat} {cap : Option Nat} {b : Blk} {u : Value} (hk : T.blk k = some b) (hown : b.own = true) (hs : b.cells.all SC.sole = true) (hrel : Rel (atW w 0) ρ0 T w') (hu : (SC.slc k 0 m n cap).R ρ0 u) (hfr : ρ kb = none) :
    ∃ ρ', (SC.slc kb 0 m n cap).R ρ' u ∧ New ρ ρ' [(kb, b)] w w' := by
  obtain ⟨x, hx, hbR⟩ := hrel.blk _ _ hk
  have hsame : upd ρ kb x kb = some x := upd_same _ _ _
  have hle : Le ρ (upd ρ kb x) := Le.upd x hfr
  have hbR' : b.R (upd ρ kb x) w' x := by
    cases x with
    | none => exact hbR
    | some l =>
      obtain ⟨pre, vs, rest, fr, h1, h2, h3⟩ := hbR
      exact ⟨pre, vs, rest, fr, h1, sole_all h2 hs, h3⟩
  have hl : ∀ l, x = some l → w.heap.size ≤ l.blk := fun l hl => by
    subst hl
    rcases (hrel.sep _ _ _ hk hown hx).1 with h | h
    · exact h
    · simp [atW] at h
  refine ⟨upd ρ kb x, ?_, New.of hrel.below hle (fun j hj => upd_ne _ _ fun h => hj _ (by subst h; exact List.mem_singleton.2 rfl)) (fun j c hj => ?_) (fun j c j' c' l l' hj hj' hne => ?_) (fun j c l hj hjl hlit => ?_) rfl⟩
  · rcases hu with ⟨h1, h2⟩ | ⟨l, o, c, h1, h2⟩
    · rw [hx] at h1; cases h1; exact .inl ⟨hsame, h2⟩
    · rw [hx] at h1; cases h1; exact .inr ⟨l, o, c, hsame, h2⟩
  · simp only [List.mem_singleton, Prod.mk.injEq] at hj
    obtain ⟨rfl, rfl⟩ := hj
    exact ⟨x, hsame, hbR', hl⟩
  · simp only [List.mem_singleton, Prod.mk.injEq] at hj hj'
    exact absurd (hj.1.trans hj'.1.symm) hne
  · simp only [List.mem_singleton, Prod.mk.injEq] at hj
    obtain ⟨rfl, rfl⟩ := hj
    rw [hsame] at hjl; cases hjl
    exact absurd rfl ((hrel.lit _ _ hx hlit).2.2 k _ l hk hown hx)

/-- Values that stand for themselves alone, tuples too. -/
def partSole : SC ⊕ List SC → Bool
  | .inl x => x.sole
  | .inr cs => cs.all SC.sole
def SV.soleT : SV → Bool
  | .tup vs => vs.all partSole
  | v => v.sole
theorem soleT_R {ρ ρ' : Ren} {x : SV} {v : Value} (h : x.R ρ v) (hp : x.soleT = true) : x.R ρ' v := by
  cases x with
  | c x => exact plainS_R (x := .c x) h hp
  | agg cs => exact plainS_R (x := .agg cs) h hp
  | und => exact trivial
  | tup ts =>
    obtain ⟨vs, hv, hc⟩ := h
    refine ⟨vs, hv, ?_⟩
    simp only [SV.soleT] at hp
    clear hv
    induction hc with
    | nil => exact .nil
    | @cons t u ts us h1 h2 ih =>
      simp only [List.all_cons, Bool.and_eq_true] at hp
      refine .cons ?_ (ih hp.2)
      cases t with
      | inl x => exact plain_R h1 hp.1
      | inr cs => obtain ⟨us, hus, hcs⟩ := h1; exact ⟨us, hus, sole_all hcs hp.1⟩

/-- Slices among the arguments, as slices of blocks of their own that are only looked at. -/
def inArgs (T : Tab) : List SV → Nat → Option (List SV × List Blk)
  | [], _ => some ([], [])
  | a :: r, i => match a with
    | .c (.slc k off m n cap) => match T.blk k with
      | some b => match inArgs T r (i + 1) with
        | some q => some (.c (.slc i off m n cap) :: q.1, ⟨b.cells, b.ty, true, false⟩ :: q.2)
        | none => none
      | none => none
    | a => match inArgs T r i with
      | some q => some (a :: q.1, q.2)
      | none => none
def argSole : SV → Bool
  | .c (.slc _ _ _ _ _) => true
  | a => a.sole
theorem inArgs_R {X : Cx} {ρ : Ren} {T : Tab} {w : World} (hrel : Rel X ρ T w) : ∀ {args : List SV} {vs : List Value} {i : Nat} {q : List SV × List Blk}, inArgs T args i = some q → All2 (SV.R ρ) args vs → args.all argSole = true → q.2.all (fun b => b.cells.all SC.sole) = true →
    ∃ xs : List (Option Loc), xs.length = q.2.length ∧ (∀ ρ' : Ren, All2 (ROb ρ' w) q.2 xs) ∧ ∀ ρ' : Ren, (∀ j, j < xs.length → ρ' (i + j) = xs[j]?) → All2 (SV.R ρ') q.1 vs
  | [], vs, i, q, h, ha, _, _ => by
    simp only [inArgs, Option.some.injEq] at h; subst h
    cases ha
    exact ⟨[], rfl, fun _ => .nil, fun _ _ => .nil⟩
  | a :: r, vs, i, q, h, ha, hs, hq => by
    cases ha with
    | @cons _ u _ us h1 h2 =>
    simp only [List.all_cons, Bool.and_eq_true] at hs
    have plain : ∀ q', inArgs T r i = some q' → q = (a :: q'.1, q'.2) → a.sole = true → ∃ xs : List (Option Loc), xs.length = q.2.length ∧ (∀ ρ' : Ren, All2 (ROb ρ' w) q.2 xs) ∧ ∀ ρ' : Ren, (∀ j, j < xs.length → ρ' (i + j) = xs[j]?) → All2 (SV.R ρ') q.1 (u :: us) := fun q' hq' e hsol => by
      subst e
      obtain ⟨xs, g1, g2, g3⟩ := inArgs_R hrel hq' h2 hs.2 hq
      exact ⟨xs, g1, g2, fun ρ' hρ => .cons (plainS_R h1 hsol) (g3 ρ' hρ)⟩
    unfold inArgs at h
    split at h
    · rename_i k off m n cap
      split at h <;> try (cases h; done)
      rename_i b hb
      split at h <;> try (cases h; done)
      rename_i q' hq'
      simp only [Option.some.injEq] at h; subst h
      simp only [List.all_cons, Bool.and_eq_true] at hq
      obtain ⟨xs, g1, g2, g3⟩ := inArgs_R hrel hq' h2 hs.2 hq.2
      obtain ⟨x, hx, hR⟩ := hrel.blk k b hb
      refine ⟨(x.map fun l => ⟨l.blk, l.tot, false, l.o0⟩) :: xs, by simp [g1], fun ρ' => .cons ⟨rfl, ?_, fun l hl => ?_⟩ (g2 ρ'), fun ρ' hρ => .cons ?_ (g3 ρ' fun j hj => ?_)⟩
      · cases x with
        | none => exact ⟨hR.1, rfl⟩
        | some l =>
          obtain ⟨pre, vs, rest, fr, a1, a2, a3, _, a5, _⟩ := hR
          exact ⟨pre, vs, rest, fr, a1, sole_all a2 hq.1, a3, fun h => by simp at h, a5, fun h => by simp at h, fun _ h => by simp at h⟩
      · cases x with
        | none => cases hl
        | some l0 => simp at hl; subst hl; rfl
      · have h0 := hρ 0 (by simp)
        rw [Nat.add_zero] at h0
        have h0 : ρ' i = some (x.map fun l => ⟨l.blk, l.tot, false, l.o0⟩) := h0
        rcases h1 with ⟨c1, c2⟩ | ⟨l, o, c, c1, c2⟩
        · rw [hx] at c1; cases c1
          exact .inl ⟨h0, c2⟩
        · rw [hx] at c1; cases c1
          exact .inr ⟨_, o, c, h0, c2⟩
      · have := hρ (j + 1) (by simp; omega)
        rw [show i + 1 + j = i + (j + 1) by omega, this]; rfl
    · rename_i hne
      split at h <;> try (cases h; done)
      rename_i q' hq'
      simp only [Option.some.injEq] at h; subst h
      refine plain q' hq' rfl ?_
      have := hs.1
      unfold argSole at this
      split at this
      · rename_i k off m n cap; exact absurd rfl (hne k off m n cap)
      · exact this

/-- A function of plain values and of slices of such, gone through; its result a plain value or a new slice of such. -/
def inl (P : Program) (C : List (Nat × Con)) (fuel : Nat) (f : FuncId) : Con := ⟨false, fun args T kb => match inArgs T args 0 with
  | some q => match xfun P C fuel f q.1 (tabL 0 q.2) q.2.length [] with
    | some (ob, obs, v, T') => match v with
      | .c (.slc k off m n cap) => match T'.blk k with
        | some b => some (.new ⟨args.all argSole && (q.2.all (fun b => b.cells.all SC.sole) && (ob && (b.own && (b.cells.all SC.sole && Nat.beq off 0)))), obs, .c (.slc kb 0 m n cap), [(kb, b)]⟩)
        | none => none
      | v => some (.new ⟨args.all argSole && (q.2.all (fun b => b.cells.all SC.sole) && (ob && v.soleT)), obs, v, []⟩)
    | none => none
  | none => none⟩
def inlOk (P : Program) (f : FuncId) : Bool := match P.funcs[f]? with
  | some fn => !(fn.name == "runtime.NumGoroutine") && !fn.body.isNone
  | none => false
theorem inl_ok {P : Program} {C : List (Nat × Con)} (hC : LibOK P C) (hm : P.follows .mixedOrders = true) {fuel : Nat} {f : FuncId} (hf : inlOk P f = true) : ConOK P f (inl P C fuel f) := by
  unfold inlOk at hf
  split at hf <;> try (cases hf; done)
  rename_i fn hfn
  simp only [Bool.and_eq_true, Bool.not_eq_true'] at hf
  refine ⟨fun args w => enters_of hfn hf.1 hf.2 args w, fun args T kb r hr hob hobs X ρ w vs hrel ha hfr => ?_, fun args T kb r hr => ?_⟩
  · simp only [inl] at hr
    split at hr <;> try (cases hr; done)
    rename_i q hq
    split at hr <;> try (cases hr; done)
    rename_i ob obs v T' hx
    have hkb : ρ kb = none := hfr kb (Nat.le_refl _) (by omega)
    have start : args.all argSole = true → q.2.all (fun b => b.cells.all SC.sole) = true → ob = true → All obs → Calls P f vs.toArray w fun e w' => ∃ u ρ', e = .returned u ∧ v.R ρ' u ∧ Rel (atW w 0) ρ' T' w' := fun h1 h2 h3 h4 => by
      subst h3
      obtain ⟨xs, g1, g2, g3⟩ := inArgs_R hrel hq ha h1 h2
      refine (xfun_run hC hm hx h4 (relN (xs := xs) (rs := []) (g2 _) (fun _ h => absurd h List.not_mem_nil)) (g3 _ fun j hj => by simp [renL]) ?_).mono fun e w' ⟨u, ρ0, he, hur, _, hrel'⟩ => ⟨u, ρ0, he, hur, hrel'⟩
      exact renL_fresh _ (by omega)
    split at hr
    · rename_i k off m n cap
      split at hr <;> try (cases hr; done)
      rename_i b hb
      simp only [Option.some.injEq, Eff.new.injEq] at hr; subst hr
      simp only [Bool.and_eq_true] at hob
      obtain ⟨hp, hq2, hob, hown, hs, hoff⟩ := hob
      obtain rfl := Nat.eq_of_beq_eq_true hoff
      refine (start hp hq2 hob hobs).mono fun e w' ⟨u, ρ0, he, hur, hrel'⟩ => ?_
      obtain ⟨ρ2, g1, g2⟩ := new_blk (ρ := ρ) (kb := kb) hb hown hs hrel' hur hkb
      exact ⟨u, ρ2, he, g1, g2⟩
    · rename_i hne
      simp only [Option.some.injEq, Eff.new.injEq] at hr; subst hr
      simp only [Bool.and_eq_true] at hob
      obtain ⟨hp, hq2, hob, hs⟩ := hob
      refine (start hp hq2 hob hobs).mono fun e w' ⟨u, ρ0, he, hur, hrel'⟩ => ?_
      exact ⟨u, ρ, he, soleT_R hur hs, New.of_below hrel'.below⟩
  · simp only [inl] at hr
    split at hr <;> try (cases hr; done)
    split at hr <;> try (cases hr; done)
    split at hr
    · split at hr <;> cases hr
    · cases hr

/-- Many functions, each gone through where it is called, so deep. -/
def inls (P : Program) (C : List (Nat × Con)) (fuel : Nat) : List FuncId → List (Nat × Con) → List (Nat × Con)
  | [], C0 => C0
  | f :: r, C0 => (f, inl P C fuel f) :: inls P C fuel r C0
def deep (P : Program) (fuel : Nat) (fs : List FuncId) (C0 : List (Nat × Con)) : Nat → List (Nat × Con)
  | 0 => C0
  | n + 1 => inls P (deep P fuel fs C0 n) fuel fs C0
theorem inls_ok {P : Program} {C C0 : List (Nat × Con)} (hC : LibOK P C) (h0 : LibOK P C0) (hm : P.follows .mixedOrders = true) {fuel : Nat} : ∀ {fs : List FuncId}, fs.all (inlOk P) = true → LibOK P (inls P C fuel fs C0)
  | [], _ => h0
  | f :: r, h => by
    simp only [List.all_cons, Bool.and_eq_true] at h
    exact LibOK.cons (inl_ok hC hm h.1) (inls_ok hC h0 hm h.2)
theorem deep_ok {P : Program} {C0 : List (Nat × Con)} (h0 : LibOK P C0) (hm : P.follows .mixedOrders = true) {fuel : Nat} {fs : List FuncId} (hfs : fs.all (inlOk P) = true) : ∀ n, LibOK P (deep P fuel fs C0 n)
  | 0 => h0
  | n + 1 => inls_ok (deep_ok h0 hm hfs n) h0 hm hfs

end Go.Proofs.Ytkpdkfeklecehaa.Sx
