/-
  Contracts of functions that hand back a new row of bytes.
-/
import Derived.Test.YtkpdkfeklecehaaSxJ
namespace Go.Proofs.Ytkpdkfeklecehaa.Sx
open Go.RowKit
set_option linter.unusedVariables false
set_option linter.unusedSimpArgs false

/-- A function's results at a return, from within loops and blocks too. -/
def retF (P : Program) (C : List (Nat × Con)) (f fuel n : Nat) (l : List Code) (st : St) (told : List Bool) : Option (Bool × List Prop × SV) :=
  match P.funcs[f]? with
  | some fn => match Sx.xrow P C fuel n l ⟨st, true, [], ⟨told, []⟩⟩ with
    | some (.ret, s) => match resS P s.st fn.results.toList with
      | some (b, v) => some (bnd s.ob b, s.obs, v)
      | none => none
    | _ => none
  | none => none
theorem SWs.ret {P : Program} {C : List (Nat × Con)} {X : Cx} {Q : Out → St → Prop} (hC : LibOK P C) (hm : P.follows .mixedOrders = true) {f fuel n : Nat} {l : List Code} {st : St} {told : List Bool} {ob : Bool} {obs : List Prop} {v : SV} {Post : SV → Tab → Prop}
    (h : retF P C f fuel n l st told = some (ob, obs, v)) (hob : ob = true) (hobs : All obs) (hP : ∀ T, Post v T) (hQ : ∀ st', FinQ P f Post .ret st' → Q .ret st') : SWs P X l st Q := by
  unfold retF at h
  split at h <;> try (cases h; done)
  rename_i fn hfn
  split at h <;> try (cases h; done)
  rename_i s hs
  split at h <;> try (cases h; done)
  rename_i b v' hv
  simp only [Option.some.injEq, Prod.mk.injEq] at h
  obtain ⟨rfl, rfl, rfl⟩ := h
  simp only [bnd_true] at hob
  obtain ⟨h1, rfl⟩ := hob
  exact SWs.xrow hC hm n l _ s .ret hs h1 hobs (hQ _ ⟨rfl, fn, v', hfn, hv, hP _⟩)

theorem u8s_any {ρ ρ' : Ren} (bs : List UInt8) : ∀ {vs : List Value}, All2 (SC.R ρ) (bs.map SC.u8) vs → All2 (SC.R ρ') (bs.map SC.u8) vs := by
  induction bs with
  | nil => intro vs h; cases h; exact .nil
  | cons b bs ih => intro vs h; cases h with | cons h1 h2 => exact .cons h1 (ih h2)

/-- A new row of bytes, as one that the caller has under a key of his own. -/
theorem new_bytes {ρ ρ0 : Ren} {T : Tab} {w w' : World} {k kb n : Nat} {bs : List UInt8} {ty : TypeId} {u : Value} (hk : T.blk k = some ⟨bs.map SC.u8, ty, true, true⟩) (hrel : Rel (atW w 0) ρ0 T w') (hu : (SC.slc k 0 1 n none).R ρ0 u) (hfr : ρ kb = none) :
    ∃ ρ', (SC.slc kb 0 1 n none).R ρ' u ∧ New ρ ρ' [(kb, ⟨bs.map SC.u8, ty, true, true⟩)] w w' := by
  obtain ⟨x, hx, hbR⟩ := hrel.blk _ _ hk
  have hsame : upd ρ kb x kb = some x := upd_same _ _ _
  have hle : Le ρ (upd ρ kb x) := Le.upd x hfr
  have hbR' : (⟨bs.map SC.u8, ty, true, true⟩ : Blk).R (upd ρ kb x) w' x := by
    cases x with
    | none => exact hbR
    | some l =>
      obtain ⟨pre, vs, rest, fr, h1, h2, h3⟩ := hbR
      exact ⟨pre, vs, rest, fr, h1, u8s_any bs h2, h3⟩
  have hl : ∀ l, x = some l → w.heap.size ≤ l.blk := fun l hl => by
    subst hl
    rcases (hrel.sep _ _ _ hk rfl hx).1 with h | h
    · exact h
    · simp [atW] at h
  refine ⟨upd ρ kb x, ?_, New.of hrel.below hle (fun j hj => upd_ne _ _ fun h => hj _ (by subst h; exact List.mem_singleton.2 rfl)) (fun j b hj => ?_) (fun j b j' b' l l' hj hj' hne => ?_) (fun j b l hj hjl hlit => ?_) rfl⟩
  · rcases hu with ⟨h1, h2⟩ | ⟨l, o, c, h1, h2⟩
    · rw [hx] at h1; cases h1; exact .inl ⟨hsame, h2⟩
    · rw [hx] at h1; cases h1; exact .inr ⟨l, o, c, hsame, h2⟩
  · simp only [List.mem_singleton, Prod.mk.injEq] at hj
    obtain ⟨rfl, rfl⟩ := hj
    exact ⟨x, hsame, hbR', hl⟩
  · simp only [List.mem_singleton, Prod.mk.injEq] at hj hj'
    exact absurd (hj.1.trans hj'.1.symm) hne
  · simp only [List.mem_singleton, Prod.mk.injEq] at hj
    obtain ⟨rfl, rfl⟩ := hj
    rw [hsame] at hjl; cases hjl
    exact absurd rfl ((hrel.lit _ _ hx hlit).2.2 k _ l hk rfl hx)

def newBytes (kb : Nat) (ty : TypeId) (bs : List UInt8) : Nat × Blk := (kb, ⟨bs.map SC.u8, ty, true, true⟩)
/-- A contract of plain values and, behind them, rows of bytes; the result is a new row. -/
def rowsNew (lim : Nat) (ty : TypeId) (ok : List SV → Bool) (spec : List SV → List (List UInt8) → Option (List UInt8)) : Con := ⟨false, fun args T kb => match args.reverse with
  | .c x :: ps => match spec ps.reverse (rowsOf T x) with
    | some bs => some (.new ⟨ps.reverse.all SV.sole && (ok ps.reverse && (x.isSlc && (srcOk T 1 (.c x) && ((srcC T (.c x)).all (rowOk T) && (Nat.ble (rowsOf T x).length lim && Nat.ble (rowsOf T x).flatten.length lim))))), [], .c (.slc kb 0 1 bs.length none), [newBytes kb ty bs]⟩)
    | none => none
  | _ => none⟩
theorem rowsNew_ok {P : Program} {f : FuncId} {ty : TypeId} {spec : List SV → List (List UInt8) → Option (List UInt8)} {fn : Func} (hf : P.funcs[f]? = some fn) (hn : (fn.name == "runtime.NumGoroutine") = false) (hb : fn.body.isNone = false) {lim : Nat} {ok : List SV → Bool}
    (h : ∀ ps rows bs, ok ps = true → spec ps rows = some bs → ∀ w off b rs, rs.map (·.2) = rows → RowsB w off b rs → rows.length ≤ lim → rows.flatten.length ≤ lim → Fn P f (atW w 0) (ps ++ [.c (.slc 0 off 1 rs.length none)]) [(0, some b)] 1 fun r T => ∃ k, r = .c (.slc k 0 1 bs.length none) ∧ T.blk k = some ⟨bs.map SC.u8, ty, true, true⟩) : ConOK P f (rowsNew lim ty ok spec) := by
  refine ⟨fun args w => enters_of hf hn hb args w, fun args T kb r hr hob hobs X ρ w vs hrel ha hfr => ?_, fun args T kb r hr => ?_⟩
  · simp only [rowsNew] at hr
    split at hr <;> try (cases hr; done)
    rename_i x ps hargs
    split at hr <;> try (cases hr; done)
    rename_i bs hv
    simp only [Option.some.injEq, Eff.new.injEq] at hr; subst hr
    simp only [Bool.and_eq_true, Nat.ble_eq] at hob
    obtain ⟨hp, hpok, hno, hok, hu, hl1, hl2⟩ := hob
    have hargs' : args = ps.reverse ++ [.c x] := by rw [← List.reverse_reverse args, hargs, List.reverse_cons]
    subst hargs'
    obtain ⟨us, us2, rfl, h1, h2⟩ := All2.of_append ha
    cases h2 with
    | @cons _ u _ _ hxR h3 =>
    cases h3
    have hF := h _ _ bs hpok hv
    obtain ⟨off, b, y, rs, hrs, hrow, hbR, hsR, hyl⟩ := rowsAt_of hrel hxR hno hok hu
    have ha' : All2 (SV.R (ren1 y rs)) (ps.reverse ++ [.c (.slc 0 off 1 rs.length none)]) (us ++ [u]) :=
      (plains_R h1 hp).append (.cons (hsR _ 0 (by simp [ren1])) .nil)
    refine (hF w off b rs hrs hrow hl1 hl2 (ren1 y rs) w _ (rel1 (hbR _ fun p hp => hp) hrow.own hyl hrow.rows) ha' fun k hk => by simp only [ren1]; rw [if_neg (by omega)]).mono fun e w' ⟨u', v', T', ρ', he, ⟨k, hv', hk⟩, hur, _, hrel'⟩ => ?_
    subst hv'
    obtain ⟨ρ2, g1, g2⟩ := new_bytes (ρ := ρ) (kb := kb) hk hrel' hur (hfr kb (Nat.le_refl _) (by omega))
    exact ⟨u', ρ2, he, g1, g2⟩
  · simp only [rowsNew] at hr
    split at hr <;> try (cases hr; done)
    split at hr <;> cases hr

/-- A contract of plain values alone; the result is a new row. -/
def pureNew (ty : TypeId) (ok : List SV → Bool) (spec : List SV → Option (List UInt8)) : Con := ⟨false, fun args T kb => match spec args with
  | some bs => some (.new ⟨args.all SV.sole && ok args, [], .c (.slc kb 0 1 bs.length none), [newBytes kb ty bs]⟩)
  | none => none⟩
theorem pureNew_ok {P : Program} {f : FuncId} {ty : TypeId} {spec : List SV → Option (List UInt8)} {fn : Func} (hf : P.funcs[f]? = some fn) (hn : (fn.name == "runtime.NumGoroutine") = false) (hb : fn.body.isNone = false) {ok : List SV → Bool}
    (h : ∀ args bs, ok args = true → spec args = some bs → ∀ w, Fn P f (atW w 0) args [] 0 fun r T => ∃ k, r = .c (.slc k 0 1 bs.length none) ∧ T.blk k = some ⟨bs.map SC.u8, ty, true, true⟩) : ConOK P f (pureNew ty ok spec) := by
  refine ⟨fun args w => enters_of hf hn hb args w, fun args T kb r hr hob hobs X ρ w vs hrel ha hfr => ?_, fun args T kb r hr => ?_⟩
  · simp only [pureNew] at hr
    split at hr <;> try (cases hr; done)
    rename_i bs hv
    simp only [Option.some.injEq, Eff.new.injEq] at hr; subst hr
    simp only [Bool.and_eq_true] at hob
    refine (h _ bs hob.2 hv w renNone w _ (rel0 w) (plains_R ha hob.1) fun k _ => rfl).mono fun e w' ⟨u', v', T', ρ', he, ⟨k, hv', hk⟩, hur, _, hrel'⟩ => ?_
    subst hv'
    obtain ⟨ρ2, g1, g2⟩ := new_bytes (ρ := ρ) (kb := kb) hk hrel' hur (hfr kb (Nat.le_refl _) (by omega))
    exact ⟨u', ρ2, he, g1, g2⟩
  · simp only [pureNew] at hr
    split at hr <;> cases hr

end Go.Proofs.Ytkpdkfeklecehaa.Sx
