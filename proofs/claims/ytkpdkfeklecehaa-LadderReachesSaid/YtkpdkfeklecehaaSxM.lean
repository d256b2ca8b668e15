/-
  Contracts of functions that look at one object, or turn it: all of its cells are plain numbers.
-/
import Derived.Test.YtkpdkfeklecehaaSxK
namespace Go.Proofs.Ytkpdkfeklecehaa.Sx
open Go.RowKit
set_option linter.unusedVariables false
set_option linter.unusedSimpArgs false

/-- Of what was there, one block alone may be another one. -/
structure Chg (j : Nat) (w w' : World) : Prop where
  os : w'.os = w.os
  tape : w'.tape = w.tape
  output : w'.output = w.output
  size : w.heap.size ≤ w'.heap.size
  other : ∀ i, i < w.heap.size → i ≠ j → w'.heap[i]? = w.heap[i]?
theorem Chg.refl (j : Nat) (w : World) : Chg j w w := ⟨rfl, rfl, rfl, Nat.le_refl _, fun _ _ _ => rfl⟩
theorem Chg.trans {j : Nat} {w w' w'' : World} (h : Chg j w w') (h' : Chg j w' w'') : Chg j w w'' :=
  ⟨h'.os.trans h.os, h'.tape.trans h.tape, h'.output.trans h.output, Nat.le_trans h.size h'.size, fun i hi hne => (h'.other i (Nat.lt_of_lt_of_le hi h.size) hne).trans (h.other i hi hne)⟩
theorem Chg.drew {j : Nat} {w w' : World} (h : Chg j w w') : Chg j w w'.drew := ⟨h.os, h.tape, h.output, h.size, h.other⟩
theorem Chg.below {j : Nat} {w w' : World} (h : Below w.heap.size w w') : Chg j w w' := ⟨h.os, h.tape, h.output, h.size, fun i hi _ => h.block i hi⟩

/-- An object's cells, in a world. -/
def ObjAt (w : World) (g : Nat) (ty : TypeId) (cs : List SC) : Prop := ∃ vs : List Value, w.heap[g]? = some (.cells vs.toArray ty (0, 0)) ∧ All2 (SC.R renNone) cs vs

theorem sole_all {ρ ρ' : Ren} : ∀ {cs : List SC} {vs : List Value}, All2 (SC.R ρ) cs vs → cs.all SC.sole = true → All2 (SC.R ρ') cs vs
  | [], _, h, _ => by cases h; exact .nil
  | _ :: _, _, h, ha => by
    cases h with
    | cons h1 h2 =>
      simp only [List.all_cons, Bool.and_eq_true] at ha
      exact .cons (plain_R h1 ha.1) (sole_all h2 ha.2)

theorem obj_of {ρ : Ren} {w : World} {b : Blk} {l : Loc} (h : b.R ρ w (some l)) (hown : b.own = true) (htail : b.tail = false) (hs : b.cells.all SC.sole = true) : l.o0 = 0 ∧ l.tot = b.cells.length ∧ ObjAt w l.blk b.ty b.cells := by
  obtain ⟨pre, vs, rest, fr, hh, hc, htot, ht, hpre, hfr, _⟩ := h
  obtain ⟨ho, rfl⟩ := hfr hown
  obtain rfl := ht htail
  obtain rfl : pre = [] := List.eq_nil_of_length_eq_zero (hpre.trans ho)
  refine ⟨ho, ?_, vs, by simpa using hh, sole_all hc hs⟩
  rw [List.append_nil] at htot
  rw [← htot, hc.length]
theorem of_obj {ρ : Ren} {w : World} {ty : TypeId} {cs : List SC} {l : Loc} (ho : l.o0 = 0) (hl : l.tot = cs.length) (h : ObjAt w l.blk ty cs) (hs : cs.all SC.sole = true) : (⟨cs, ty, false, true⟩ : Blk).R ρ w (some l) := by
  obtain ⟨vs, hh, hc⟩ := h
  refine ⟨[], vs, [], (0, 0), by simpa using hh, sole_all hc hs, ?_, fun _ => rfl, ho.symm, fun _ => ⟨ho, rfl⟩, fun h => by simp at h⟩
  rw [List.append_nil, hl, hc.length]

theorem Rel.chg {X : Cx} {ρ : Ren} {T : Tab} {w w' : World} {k : Nat} {b b' : Blk} {l : Loc} (h : Rel X ρ T w) (hb : T.blk k = some b) (hown : b.own = true) (hl : ρ k = some (some l)) (hc : Chg l.blk w w') (hown' : b'.own = true) (hB : b'.R ρ w' (some l))
    (hlt : ∀ j c m, T.blk j = some c → ρ j = some (some m) → m.blk < w.heap.size) : Rel X ρ (set T k (some b')) w' := by
  obtain ⟨hsep1, hsep2⟩ := h.sep k b l hb hown hl
  have same : ∀ {k1 : Nat} {b1 : Blk}, Tab.blk (set T k (some b')) k1 = some b1 → ∃ b0, T.blk k1 = some b0 ∧ b0.own = b1.own ∨ (k1 = k ∧ b1 = b') := fun {k1 b1} hk1 => by
    by_cases hkk : k = k1
    · subst hkk; rw [blk_set_same] at hk1; cases hk1; exact ⟨b, .inr ⟨rfl, rfl⟩⟩
    · rw [blk_set_ne _ _ hkk] at hk1; exact ⟨b1, .inl ⟨hk1, rfl⟩⟩
  have was : ∀ {k1 : Nat} {b1 : Blk}, Tab.blk (set T k (some b')) k1 = some b1 → ∃ b0, T.blk k1 = some b0 ∧ b0.own = b1.own := fun {k1 b1} hk1 => by
    obtain ⟨b0, h0 | ⟨rfl, rfl⟩⟩ := same hk1
    · exact ⟨b0, h0⟩
    · exact ⟨b, hb, hown.trans hown'.symm⟩
  refine ⟨hc.os.trans h.os, hc.tape.trans h.tape, hc.output.trans h.output, Nat.le_trans h.size hc.size, Nat.le_trans h.size0 hc.size, ?_, ?_, ?_, fun k1 l1 hl1 hlit => ?_, h.rows⟩
  · intro i hi hm
    rw [hc.other i (Nat.lt_of_lt_of_le hi h.size) (fun e => by rcases hsep1 with h1 | h1; omega; subst e; exact hm h1)]
    exact h.old i hi hm
  · intro k1 b1 hk1
    by_cases hkk : k = k1
    · subst hkk; rw [blk_set_same] at hk1; cases hk1; exact ⟨some l, hl, hB⟩
    · rw [blk_set_ne _ _ hkk] at hk1
      obtain ⟨x, hx, hR⟩ := h.blk k1 b1 hk1
      refine ⟨x, hx, hR.keep (Le.refl _) fun m hm => ?_⟩
      subst hm
      exact hc.other _ (hlt k1 b1 m hk1 hx) (hsep2 k1 b1 m (Ne.symm hkk) hk1 hx)
  · intro k1 b1 l1 hk1 ho1 hl1
    obtain ⟨b0, hb0, ho0⟩ := was hk1
    obtain ⟨g1, g2⟩ := h.sep k1 b0 l1 hb0 (ho0.trans ho1) hl1
    exact ⟨g1, fun k' b2 l' hne hk' hl' => by obtain ⟨b3, hb3, _⟩ := was hk'; exact g2 k' b3 l' hne hb3 hl'⟩
  · obtain ⟨g1, g2, g3⟩ := h.lit k1 l1 hl1 hlit
    exact ⟨g1, Nat.lt_of_lt_of_le g2 hc.size, fun k' b2 l' hk' ho' hl' => by obtain ⟨b3, hb3, ho3⟩ := was hk'; exact g3 k' b3 l' hb3 (ho3.trans ho') hl'⟩
theorem blk_lt {ρ : Ren} {w : World} {b : Blk} {l : Loc} (h : b.R ρ w (some l)) : l.blk < w.heap.size := by
  obtain ⟨_, _, _, _, hh, _⟩ := h
  exact (Array.getElem?_eq_some_iff.1 hh).1

/-- A contract: of an object's cells, and plain arguments. -/
def objW (spec : Nat → List SC → List SV → Option (Bool × SV × List SC)) : Con := ⟨true, fun args T kb => match args with
  | .c (.ptr k off) :: ps => match T.blk k with
    | some b => match spec off b.cells ps with
      | some (ok, v, cs) => some (.turn ⟨b.own && (!b.tail && (b.cells.all SC.sole && (cs.all SC.sole && (ps.all SV.sole && (Nat.beq cs.length b.cells.length && ok))))), [], v, set T k (some ⟨cs, b.ty, false, true⟩)⟩)
      | none => none
    | none => none
  | _ => none⟩
def ObjStep (P : Program) (f : FuncId) (off : Nat) (cs : List SC) (ps : List SV) (v : SV) (cs' : List SC) : Prop :=
  ∀ (w : World) (g : Nat) (ty : TypeId) (us : List Value), ObjAt w g ty cs → All2 (SV.R renNone) ps us → Calls P f (.pointer (some ⟨g, off, none⟩) :: us).toArray w fun e w' => ∃ u, e = .returned u ∧ (∀ ρ, v.R ρ u) ∧ Chg g w w' ∧ ObjAt w' g ty cs'
theorem objW_ok {P : Program} {f : FuncId} {spec : Nat → List SC → List SV → Option (Bool × SV × List SC)} {fn : Func} (hf : P.funcs[f]? = some fn) (hn : (fn.name == "runtime.NumGoroutine") = false) (hb : fn.body.isNone = false)
    (h : ∀ off cs ps v cs', spec off cs ps = some (true, v, cs') → cs.all SC.sole = true → ps.all SV.sole = true → ObjStep P f off cs ps v cs') : ConOK P f (objW spec) := by
  refine ⟨fun args w => enters_of hf hn hb args w, fun args T kb r hr => ?_, fun args T kb r hr hob hobs X ρ w vs hrel ha hfr => ?_⟩
  · simp only [objW] at hr
    split at hr <;> try (cases hr; done)
    split at hr <;> try (cases hr; done)
    split at hr <;> cases hr
  · simp only [objW] at hr
    split at hr <;> try (cases hr; done)
    rename_i k off ps
    split at hr <;> try (cases hr; done)
    rename_i b hbk
    split at hr <;> try (cases hr; done)
    rename_i ok v cs hsp
    simp only [Option.some.injEq, Eff.turn.injEq] at hr; subst hr
    simp only [Bool.and_eq_true, Bool.not_eq_true'] at hob
    obtain ⟨hown, htail, hs, hs', hps, hlen, rfl⟩ := hob
    have hlen := Nat.eq_of_beq_eq_true hlen
    cases ha with
    | @cons _ u _ us hu hus =>
    obtain ⟨l, hl, rfl⟩ := hu
    obtain ⟨x, hx, hR⟩ := hrel.blk k b hbk
    rw [hl] at hx; cases hx
    obtain ⟨ho, htot, hobj⟩ := obj_of hR hown htail hs
    simp only [ho, Nat.zero_add]
    refine (h off b.cells ps v cs hsp hs hps w l.blk b.ty us hobj (plains_R hus hps)).mono fun e w' ⟨u, he, hv, hc, ho'⟩ => ⟨u, he, ρ, hv ρ, Le.refl _, ?_, fun j hj => hfr j (by omega)⟩
    refine Rel.chg hrel hbk hown hl hc rfl (of_obj ho (htot.trans hlen.symm) ho' hs') fun j c m hj hm => ?_
    obtain ⟨y, hy, hyR⟩ := hrel.blk j c hj
    rw [hm] at hy; cases hy
    exact blk_lt hyR

/-- Cells that can be read. -/
def ObjRd (w : World) (g o : Nat) (cs : List SC) : Prop := ∃ (pre vs rest : List Value) (ty : TypeId) (fr : Nat × Nat), w.heap[g]? = some (.cells (pre ++ (vs ++ rest)).toArray ty fr) ∧ All2 (SC.R renNone) cs vs ∧ pre.length = o
theorem ObjRd.cell {w : World} {g o off : Nat} {cs : List SC} {c : SC} (h : ObjRd w g o cs) (hc : cs[off]? = some c) : ∃ v, w.cell? ⟨g, o + off, none⟩ = some v ∧ c.R renNone v := by
  obtain ⟨pre, vs, rest, ty, fr, hh, hcs, hpre⟩ := h
  obtain ⟨v, hv, hr⟩ := hcs.get hc
  refine ⟨v, ?_, hr⟩
  have hlt : off < vs.length := (List.getElem?_eq_some_iff.1 hv).1
  rw [cell_of hh, List.getElem?_toArray, List.getElem?_append_right (by omega), hpre, Nat.add_sub_cancel_left, List.getElem?_append_left hlt, hv]
/-- The same, of what is only looked at. -/
def objR (spec : Nat → List SC → List SV → Option (Bool × SV)) : Con := ⟨false, fun args T kb => match args with
  | .c (.ptr k off) :: ps => match T.blk k with
    | some b => match spec off b.cells ps with
      | some (ok, v) => some (.new ⟨!b.cells.isEmpty && (b.cells.all SC.sole && (ps.all SV.sole && ok)), [], v, []⟩)
      | none => none
    | none => none
  | _ => none⟩
def ObjLook (P : Program) (f : FuncId) (off : Nat) (cs : List SC) (ps : List SV) (v : SV) : Prop :=
  ∀ (w : World) (g o : Nat) (us : List Value), ObjRd w g o cs → All2 (SV.R renNone) ps us → Calls P f (.pointer (some ⟨g, o + off, none⟩) :: us).toArray w fun e w' => ∃ u, e = .returned u ∧ (∀ ρ, v.R ρ u) ∧ Below w.heap.size w w'
theorem objR_ok {P : Program} {f : FuncId} {spec : Nat → List SC → List SV → Option (Bool × SV)} {fn : Func} (hf : P.funcs[f]? = some fn) (hn : (fn.name == "runtime.NumGoroutine") = false) (hb : fn.body.isNone = false)
    (h : ∀ off cs ps v, spec off cs ps = some (true, v) → cs.all SC.sole = true → ps.all SV.sole = true → ObjLook P f off cs ps v) : ConOK P f (objR spec) := by
  refine ⟨fun args w => enters_of hf hn hb args w, fun args T kb r hr hob hobs X ρ w vs hrel ha hfr => ?_, fun args T kb r hr => ?_⟩
  · simp only [objR] at hr
    split at hr <;> try (cases hr; done)
    rename_i k off ps
    split at hr <;> try (cases hr; done)
    rename_i b hbk
    split at hr <;> try (cases hr; done)
    rename_i ok v hsp
    simp only [Option.some.injEq, Eff.new.injEq] at hr; subst hr
    simp only [Bool.and_eq_true] at hob
    obtain ⟨_, hs, hps, rfl⟩ := hob
    cases ha with
    | @cons _ u _ us hu hus =>
    obtain ⟨l, hl, rfl⟩ := hu
    obtain ⟨x, hx, hR⟩ := hrel.blk k b hbk
    rw [hl] at hx; cases hx
    obtain ⟨pre, ws, rest, fr, hh, hc, htot, ht, hpre, _⟩ := hR
    exact (h off b.cells ps v hsp hs hps w l.blk l.o0 us ⟨pre, ws, rest, b.ty, fr, hh, sole_all hc hs, hpre⟩ (plains_R hus hps)).mono fun e w' ⟨u, he, hv, hc⟩ => ⟨u, ρ, he, hv ρ, New.of_below hc⟩
  · simp only [objR] at hr
    split at hr <;> try (cases hr; done)
    split at hr <;> try (cases hr; done)
    split at hr <;> cases hr

/-- From a walk over the object's table. -/
theorem objLook_of {P : Program} {f : FuncId} {off : Nat} {cs : List SC} {ps : List SV} {v : SV} (hs : cs.all SC.sole = true) (hv : v.sole = true)
    (h : ∀ w ty, Fn P f (atW w 0) (.c (.ptr 0 off) :: ps) [(0, some ⟨cs, ty, true, false⟩)] 1 fun r _ => r = v) (hps : ps.all SV.sole = true) : ObjLook P f off cs ps v := fun w g o us ⟨pre, vs, rest, ty, fr, hh, hc, hpre⟩ hus => by
  have hB : (⟨cs, ty, true, false⟩ : Blk).R (ren1 (some ⟨g, (vs ++ rest).length, false, o⟩)) w (some ⟨g, (vs ++ rest).length, false, o⟩) :=
    ⟨pre, vs, rest, fr, hh, sole_all hc hs, rfl, fun h => by simp at h, hpre, fun h => by simp at h, fun _ h => by simp at h⟩
  refine (h w ty (ren1 (some ⟨g, (vs ++ rest).length, false, o⟩)) w _ (rel1 hB rfl (fun l hl => by cases hl; rfl) (fun _ h => by simp at h)) (.cons ⟨⟨g, (vs ++ rest).length, false, o⟩, rfl, rfl⟩ (plains_R hus hps)) fun k hk => by simp only [ren1]; rw [if_neg (by omega)]).mono fun e w' ⟨u, v', T', ρ', he, hv', hur, _, hrel'⟩ => ⟨u, he, fun ρ => ?_, hrel'.below⟩
  subst hv'; exact plainS_R hur hv

theorem ObjAt.cell {w : World} {g off : Nat} {ty : TypeId} {cs : List SC} {c : SC} (h : ObjAt w g ty cs) (hc : cs[off]? = some c) : ∃ v, w.cell? ⟨g, off, none⟩ = some v ∧ c.R renNone v := by
  obtain ⟨vs, hh, hcs⟩ := h
  have := ObjRd.cell (o := 0) ⟨[], vs, [], ty, (0, 0), by simpa using hh, hcs, rfl⟩ hc
  simpa using this
theorem ObjAt.thaw {w : World} {g off : Nat} {ty : TypeId} {cs : List SC} (h : ObjAt w g ty cs) : w.frozen? ⟨g, off, none⟩ = false := by
  obtain ⟨vs, hh, _⟩ := h
  simp only [World.frozen?, hh]
  simp
theorem ObjAt.set {w : World} {g off : Nat} {ty : TypeId} {cs : List SC} {c : SC} {v : Value} (h : ObjAt w g ty cs) (hlt : off < cs.length) (hr : c.R renNone v) : ObjAt (w.setCell ⟨g, off, none⟩ v) g ty (cs.set off c) ∧ Chg g w (w.setCell ⟨g, off, none⟩ v) := by
  obtain ⟨vs, hh, hcs⟩ := h
  have hl := hcs.length
  have e := setCell_eq_setRow w g off vs.toArray ty (0, 0) v hh
  rw [e]
  refine ⟨⟨vs.set off v, ?_, ?_⟩, ?_, ?_, ?_, ?_, fun i _ hne => setRow_other w g i _ hne⟩
  · rw [setRow_heap w g _ _ ty (0, 0) hh]; simp
  · have := setRange_All2 (ρ := renNone) (xs := [c]) (vs := [v]) (.cons hr .nil) off hcs
    simpa [setRange, setRangeV] using this
  all_goals simp
theorem objStep_of {P : Program} {f : FuncId} {off : Nat} {cs cs' : List SC} {ps : List SV} {v : SV} (hs : cs.all SC.sole = true) (hs' : cs'.all SC.sole = true) (hl : cs'.length = cs.length) (hv : ∀ ρ ρ' u, v.R ρ u → v.R ρ' u)
    (h : ∀ X : Cx, X.nf = 1 → ∀ ty, Fn P f X (.c (.ptr 0 off) :: ps) [(0, some ⟨cs, ty, false, true⟩)] 1 fun r T => r = v ∧ T.blk 0 = some ⟨cs', ty, false, true⟩) (hps : ps.all SV.sole = true) : ObjStep P f off cs ps v cs' := fun w g ty us hobj hus => by
  have hlen : ∃ n, n = cs.length := ⟨_, rfl⟩
  have hlt : g < w.heap.size := by obtain ⟨vs, hh, _⟩ := hobj; exact (Array.getElem?_eq_some_iff.1 hh).1
  have hB : ∀ ρ, (⟨cs, ty, false, true⟩ : Blk).R ρ w (some ⟨g, cs.length, false, 0⟩) := fun ρ => of_obj (l := ⟨g, cs.length, false, 0⟩) rfl rfl hobj hs
  have hrel : Rel ⟨w, w.heap.size, [g], 1⟩ (ren1 (some ⟨g, cs.length, false, 0⟩)) [(0, some ⟨cs, ty, false, true⟩)] w := by
    refine ⟨rfl, rfl, rfl, Nat.le_refl _, Nat.le_refl _, fun _ _ _ => rfl, fun k c hc => ?_, fun k c l hc ho hl => ?_, fun k l hl hlit => ?_, fun _ _ h => by simp [ren1] at h⟩
    · rw [blk_cons] at hc
      by_cases h0 : 0 = k
      · subst h0; rw [if_pos rfl] at hc; cases hc; exact ⟨_, rfl, hB _⟩
      · rw [if_neg h0] at hc; simp [Tab.blk, get] at hc
    · simp only [ren1] at hl
      by_cases h0 : k = 0
      · rw [if_pos h0] at hl; cases hl
        refine ⟨.inr (by simp), fun k' c' l' hne hc' _ => ?_⟩
        rw [blk_cons] at hc'
        rw [if_neg (by omega)] at hc'; simp [Tab.blk, get] at hc'
      · rw [if_neg h0] at hl; cases hl
    · simp only [ren1] at hl
      by_cases h0 : k = 0
      · rw [if_pos h0] at hl; cases hl; cases hlit
      · rw [if_neg h0] at hl; cases hl
  refine (h ⟨w, w.heap.size, [g], 1⟩ rfl ty _ w _ hrel (.cons ⟨⟨g, cs.length, false, 0⟩, rfl, by simp⟩ (plains_R hus hps)) fun k hk => by simp only [ren1]; rw [if_neg (by omega)]).mono fun e w' ⟨u, v', T', ρ', he, ⟨hv', hT⟩, hur, hag, hrel'⟩ => ?_
  subst hv'
  have hk := hag 0 (Nat.lt_succ_self 0) _ (show (ren1 (some ⟨g, cs.length, false, 0⟩) : Ren) 0 = some (some ⟨g, cs.length, false, 0⟩) from rfl)
  obtain ⟨x, hx, hR⟩ := hrel'.blk 0 _ hT
  rw [hk] at hx; cases hx
  obtain ⟨_, _, ho⟩ := obj_of hR rfl rfl hs'
  exact ⟨u, he, fun ρ => hv _ _ _ hur, ⟨hrel'.os, hrel'.tape, hrel'.output, hrel'.size0, fun i hi hne => hrel'.old i hi (by simpa using hne)⟩, ho⟩

/-- A function gone through at one go: its result, and what one block has become. -/
theorem Fn.xt {P : Program} {C : List (Nat × Con)} {X : Cx} (hC : LibOK P C) (hm : P.follows .mixedOrders = true) {fuel : Nat} {f : FuncId} {args : List SV} {T : Tab} {nk : Nat} {told : List Bool} {ob : Bool} {obs : List Prop} {r : SV} {k : Nat} {b : Option Blk}
    (h : (xfun P C fuel f args T nk told).map (fun q => (q.1, q.2.1, q.2.2.1, q.2.2.2.blk k)) = some (ob, obs, r, b)) (hob : ob = true) (hobs : All obs) : Fn P f X args T nk fun v T' => v = r ∧ T'.blk k = b := by
  cases hx : xfun P C fuel f args T nk told with
  | none => rw [hx] at h; cases h
  | some q =>
    obtain ⟨q1, q2, q3, q4⟩ := q
    rw [hx] at h
    simp only [Option.map_some, Option.some.injEq, Prod.mk.injEq] at h
    obtain ⟨rfl, rfl, rfl, rfl⟩ := h
    exact Fn.x hC hm hx hob hobs ⟨rfl, rfl⟩

/-- A contract of plain values; the result is a new object. -/
def objNew (spec : List SV → Option (Bool × TypeId × List SC)) : Con := ⟨false, fun args T kb => match spec args with
  | some (ok, ty, cs) => some (.new ⟨args.all SV.sole && (cs.all SC.sole && ok), [], .c (.ptr kb 0), [(kb, ⟨cs, ty, false, true⟩)]⟩)
  | none => none⟩
theorem objNew_ok {P : Program} {f : FuncId} {spec : List SV → Option (Bool × TypeId × List SC)} {fn : Func} (hf : P.funcs[f]? = some fn) (hn : (fn.name == "runtime.NumGoroutine") = false) (hb : fn.body.isNone = false)
    (h : ∀ args ty cs, spec args = some (true, ty, cs) → args.all SV.sole = true → ∀ w, Fn P f (atW w 0) args [] 0 fun r T => ∃ k, r = .c (.ptr k 0) ∧ T.blk k = some ⟨cs, ty, false, true⟩) : ConOK P f (objNew spec) := by
  refine ⟨fun args w => enters_of hf hn hb args w, fun args T kb r hr hob hobs X ρ w vs hrel ha hfr => ?_, fun args T kb r hr => ?_⟩
  · simp only [objNew] at hr
    split at hr <;> try (cases hr; done)
    rename_i ok ty cs hsp
    simp only [Option.some.injEq, Eff.new.injEq] at hr; subst hr
    simp only [Bool.and_eq_true] at hob
    obtain ⟨hp, hs, rfl⟩ := hob
    refine (h args ty cs hsp hp w renNone w _ (rel0 w) (plains_R ha hp) fun k _ => rfl).mono fun e w' ⟨u', v', T', ρ0, he, ⟨k, hv', hk⟩, hur, _, hrel'⟩ => ?_
    subst hv'
    obtain ⟨l, hl, rfl⟩ := hur
    obtain ⟨x, hx, hbR⟩ := hrel'.blk _ _ hk
    rw [hl] at hx; cases hx
    have hkb : ρ kb = none := hfr kb (Nat.le_refl _) (by omega)
    have hsame : upd ρ kb (some l) kb = some (some l) := upd_same _ _ _
    have hle : Le ρ (upd ρ kb (some l)) := Le.upd _ hkb
    obtain ⟨ho, htot, hobj⟩ := obj_of hbR rfl rfl hs
    have hge : w.heap.size ≤ l.blk := by
      rcases (hrel'.sep _ _ _ hk rfl hl).1 with h | h
      · exact h
      · simp [atW] at h
    refine ⟨_, upd ρ kb (some l), he, ⟨l, hsame, rfl⟩, New.of hrel'.below hle (fun j hj => upd_ne _ _ fun h => hj _ (by subst h; exact List.mem_singleton.2 rfl)) (fun j b hj => ?_) (fun j b j' b' l l' hj hj' hne => ?_) (fun j b l' hj hjl hlit => ?_) rfl⟩
    · simp only [List.mem_singleton, Prod.mk.injEq] at hj
      obtain ⟨rfl, rfl⟩ := hj
      exact ⟨some l, hsame, of_obj ho htot hobj hs, fun m hm => by cases hm; exact hge⟩
    · simp only [List.mem_singleton, Prod.mk.injEq] at hj hj'
      exact absurd (hj.1.trans hj'.1.symm) hne
    · simp only [List.mem_singleton, Prod.mk.injEq] at hj
      obtain ⟨rfl, rfl⟩ := hj
      rw [hsame] at hjl; cases hjl
      exact absurd rfl ((hrel'.lit _ _ hl hlit).2.2 k _ l hk rfl hl)
  · simp only [objNew] at hr
    split at hr <;> cases hr

/-- A contract of plain values; the result is a literal row of bytes. -/
def pureLit (ty : TypeId) (spec : List SV → Option (List UInt8)) : Con := ⟨false, fun args T kb => match spec args with
  | some bs => some (.new ⟨args.all SV.sole, [], .c (.slc kb 0 1 bs.length (some bs.length)), [(kb, ⟨bs.map SC.u8, ty, false, false⟩)]⟩)
  | none => none⟩
theorem pureLit_ok {P : Program} {f : FuncId} {ty : TypeId} {spec : List SV → Option (List UInt8)} {fn : Func} (hf : P.funcs[f]? = some fn) (hn : (fn.name == "runtime.NumGoroutine") = false) (hb : fn.body.isNone = false)
    (h : ∀ args bs, spec args = some bs → args.all SV.sole = true → ∀ w, Fn P f (atW w 0) args [] 0 fun r T => ∃ k, r = .c (.slc k 0 1 bs.length (some bs.length)) ∧ T.blk k = some ⟨bs.map SC.u8, ty, false, false⟩) : ConOK P f (pureLit ty spec) := by
  refine ⟨fun args w => enters_of hf hn hb args w, fun args T kb r hr hob hobs X ρ w vs hrel ha hfr => ?_, fun args T kb r hr => ?_⟩
  · simp only [pureLit] at hr
    split at hr <;> try (cases hr; done)
    rename_i bs hsp
    simp only [Option.some.injEq, Eff.new.injEq] at hr; subst hr
    simp only at hob
    refine (h args bs hsp hob w renNone w _ (rel0 w) (plains_R ha hob) fun k _ => rfl).mono fun e w' ⟨u', v', T', ρ0, he, ⟨k, hv', hk⟩, hur, _, hrel'⟩ => ?_
    subst hv'
    obtain ⟨x, hx, hbR⟩ := hrel'.blk _ _ hk
    have hkb : ρ kb = none := hfr kb (Nat.le_refl _) (by omega)
    have hsame : upd ρ kb x kb = some x := upd_same _ _ _
    have hle : Le ρ (upd ρ kb x) := Le.upd _ hkb
    cases x with
    | none => obtain ⟨_, h⟩ := hbR; cases h
    | some l =>
    obtain ⟨pre, vs, rest, fr, h1, h2, h3, h4, h5, h6, h7⟩ := hbR
    have hlit := (h7 rfl rfl).1
    have hge : w.heap.size ≤ l.blk := (hrel'.lit k l hx hlit).1
    refine ⟨u', upd ρ kb (some l), he, ?_, New.of hrel'.below hle (fun j hj => upd_ne _ _ fun h => hj _ (by subst h; exact List.mem_singleton.2 rfl)) (fun j b hj => ?_) (fun j b j' b' l l' hj hj' hne => ?_) (fun j b l' hj hjl hlit => ?_) rfl⟩
    · rcases hur with ⟨g1, g2⟩ | ⟨l', o, c, g1, g2⟩
      · rw [hx] at g1; cases g1
      · rw [hx] at g1; cases g1; exact .inr ⟨l, o, c, hsame, g2⟩
    · simp only [List.mem_singleton, Prod.mk.injEq] at hj
      obtain ⟨rfl, rfl⟩ := hj
      exact ⟨some l, hsame, ⟨pre, vs, rest, fr, h1, u8s_any bs h2, h3, h4, h5, h6, h7⟩, fun m hm => by cases hm; exact hge⟩
    · simp only [List.mem_singleton, Prod.mk.injEq] at hj hj'
      exact absurd (hj.1.trans hj'.1.symm) hne
    · simp only [List.mem_singleton, Prod.mk.injEq] at hj
      obtain ⟨rfl, rfl⟩ := hj; rfl
  · simp only [pureLit] at hr
    split at hr <;> cases hr

end Go.Proofs.Ytkpdkfeklecehaa.Sx
