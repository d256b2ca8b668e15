/-
  Functions of plain values whose result is a new row of cells.
-/
import Derived.Test.YtkpdkfeklecehaaSxM
namespace Go.Proofs.Ytkpdkfeklecehaa.Sx
open Go.RowKit
set_option linter.unusedVariables false
set_option linter.unusedSimpArgs false

/-- A new row of cells, as one that the caller has under a key of his own. -/
theorem new_cells {ρ ρ0 : Ren} {T : Tab} {w w' : World} {k kb n m : Nat} {cap : Option Nat} {tl : Bool} {cs : List SC} {ty : TypeId} {u : Value} (hs : cs.all SC.sole = true) (hk : T.blk k = some ⟨cs, ty, tl, true⟩) (hrel : Rel (atW w 0) ρ0 T w') (hu : (SC.slc k 0 m n cap).R ρ0 u) (hfr : ρ kb = none) :
    ∃ ρ', (SC.slc kb 0 m n none).R ρ' u ∧ New ρ ρ' [(kb, ⟨cs, ty, true, true⟩)] w w' := by
  obtain ⟨x, hx, hbR⟩ := hrel.blk _ _ hk
  have hsame : upd ρ kb x kb = some x := upd_same _ _ _
  have hle : Le ρ (upd ρ kb x) := Le.upd x hfr
  have hbR' : (⟨cs, ty, true, true⟩ : Blk).R (upd ρ kb x) w' x := by
    cases x with
    | none => exact ⟨hbR.1, rfl⟩
    | some l =>
      obtain ⟨pre, vs, rest, fr, h1, h2, h3, _, h5, h6, _⟩ := hbR
      exact ⟨pre, vs, rest, fr, h1, sole_all h2 hs, h3, (fun h => by cases h), h5, h6, fun h => by cases h⟩
  have hl : ∀ l, x = some l → w.heap.size ≤ l.blk := fun l hl => by
    subst hl
    rcases (hrel.sep _ _ _ hk rfl hx).1 with h | h
    · exact h
    · simp [atW] at h
  refine ⟨upd ρ kb x, ?_, New.of hrel.below hle (fun j hj => upd_ne _ _ fun h => hj _ (by subst h; exact List.mem_singleton.2 rfl)) (fun j b hj => ?_) (fun j b j' b' l l' hj hj' hne => ?_) (fun j b l hj hjl hlit => ?_) rfl⟩
  · rcases hu with ⟨h1, h2, h3, _⟩ | ⟨l, o, c, h1, h2, h3, h4, _⟩
    · rw [hx] at h1; cases h1; exact .inl ⟨hsame, h2, h3, fun q hq => by cases hq⟩
    · rw [hx] at h1; cases h1; exact .inr ⟨l, o, c, hsame, h2, h3, h4, fun q hq => by cases hq⟩
  · simp only [List.mem_singleton, Prod.mk.injEq] at hj
    obtain ⟨rfl, rfl⟩ := hj
    exact ⟨x, hsame, hbR', hl⟩
  · simp only [List.mem_singleton, Prod.mk.injEq] at hj hj'
    exact absurd (hj.1.trans hj'.1.symm) hne
  · simp only [List.mem_singleton, Prod.mk.injEq] at hj
    obtain ⟨rfl, rfl⟩ := hj
    rw [hsame] at hjl; cases hjl
    exact absurd rfl ((hrel.lit _ _ hx hlit).2.2 k _ l hk rfl hx)

/-- What a function hands back is a row of so many elements, of m cells each; or nil where there are none. -/
def rowIs (m n : Nat) (ty : TypeId) (cs : List SC) (r : SV) (T : Tab) : Prop := (∃ k cap tl, r = .c (.slc k 0 m n cap) ∧ T.blk k = some ⟨cs, ty, tl, true⟩) ∨ (n = 0 ∧ cs = [] ∧ r = .c .nils)
/-- A contract of plain values; the result is a new row of cells, m of them to an element. -/
def pureRow (m : Nat) (ty : TypeId) (ok : List SV → Bool) (spec : List SV → Option (Nat × List SC)) : Con := ⟨false, fun args T kb => match spec args with
  | some (n, cs) => some (.new ⟨args.all SV.sole && (cs.all SC.sole && ok args), [], .c (.slc kb 0 m n none), [(kb, ⟨cs, ty, true, true⟩)]⟩)
  | none => none⟩
theorem pureRow_ok {P : Program} {f : FuncId} {m : Nat} {ty : TypeId} {spec : List SV → Option (Nat × List SC)} {fn : Func} (hf : P.funcs[f]? = some fn) (hn : (fn.name == "runtime.NumGoroutine") = false) (hb : fn.body.isNone = false) {ok : List SV → Bool}
    (h : ∀ args n cs, ok args = true → spec args = some (n, cs) → ∀ w, Fn P f (atW w 0) args [] 0 fun r T => rowIs m n ty cs r T) : ConOK P f (pureRow m ty ok spec) := by
  refine ⟨fun args w => enters_of hf hn hb args w, fun args T kb r hr hob hobs X ρ w vs hrel ha hfr => ?_, fun args T kb r hr => ?_⟩
  · simp only [pureRow] at hr
    split at hr <;> try (cases hr; done)
    rename_i n cs hv
    simp only [Option.some.injEq, Eff.new.injEq] at hr; subst hr
    simp only [Bool.and_eq_true] at hob
    obtain ⟨h1, h2, h3⟩ := hob
    refine (h _ n cs h3 hv w renNone w _ (rel0 w) (plains_R ha h1) fun k _ => rfl).mono fun e w' ⟨u', v', T', ρ', he, hv', hur, _, hrel'⟩ => ?_
    rcases hv' with ⟨k, cap, tl, rfl, hk⟩ | ⟨rfl, rfl, rfl⟩
    · obtain ⟨ρ2, g1, g2⟩ := new_cells (ρ := ρ) (kb := kb) h2 hk hrel' hur (hfr kb (Nat.le_refl _) (by omega))
      exact ⟨u', ρ2, he, g1, g2⟩
    · obtain rfl : u' = .slice none 0 0 := hur
      exact ⟨_, upd ρ kb none, he, .inl ⟨upd_same _ _ _, ⟨_, rfl⟩, rfl, fun q hq => by cases hq⟩, New.one (hfr kb (Nat.le_refl _) (by omega)) hrel'.below ⟨rfl, rfl⟩ (fun l hl => by cases hl) (fun l hl => by cases hl)⟩
  · simp only [pureRow] at hr
    split at hr <;> cases hr

end Go.Proofs.Ytkpdkfeklecehaa.Sx
