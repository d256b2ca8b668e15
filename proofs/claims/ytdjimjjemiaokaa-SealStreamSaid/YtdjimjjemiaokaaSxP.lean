/-
  A region that draws its order, where operations that turn something come one behind the other, and others may come before or behind them.
-/
import Derived.Test.YtdjimjjemiaokaaSxG
namespace Go.Proofs.Ytdjimjjemiaokaa.Sx
open Go.RowKit
set_option linter.unusedVariables false
set_option linter.unusedSimpArgs false

/-- Which operations may turn something. -/
def turnsOf (C : List (Nat × Con)) : List Oper → Nat → List Nat
  | [], _ => []
  | o :: r, i => match isTurn C o.op with
    | true => i :: turnsOf C r (i + 1)
    | false => turnsOf C r (i + 1)

theorem turnsOf_mem {C : List (Nat × Con)} : ∀ (l : List Oper) (i p h : Nat), (turnsOf C l i)[p]? = some h → i ≤ h ∧ ∃ o, l[h - i]? = some o ∧ isTurn C o.op = true
  | [], i, p, h, hp => by simp [turnsOf] at hp
  | o :: r, i, p, h, hp => by
    have go : ∀ p, (turnsOf C r (i + 1))[p]? = some h → i ≤ h ∧ ∃ o', (o :: r)[h - i]? = some o' ∧ isTurn C o'.op = true := fun p hp => by
      obtain ⟨h1, o', ho', ht⟩ := turnsOf_mem r (i + 1) p h hp
      refine ⟨by omega, o', ?_, ht⟩
      rw [show h - i = (h - (i + 1)) + 1 by omega, List.getElem?_cons_succ]; exact ho'
    unfold turnsOf at hp
    split at hp
    · rename_i ht
      cases p with
      | zero => simp at hp; subst hp; exact ⟨Nat.le_refl _, o, by simp, ht⟩
      | succ p => rw [List.getElem?_cons_succ] at hp; exact go p hp
    · exact go p hp

theorem turnsOf_sorted {C : List (Nat × Con)} : ∀ (l : List Oper) (i p p' h h' : Nat), (turnsOf C l i)[p]? = some h → (turnsOf C l i)[p']? = some h' → p < p' → h < h'
  | [], i, p, p', h, h', hp, _, _ => by simp [turnsOf] at hp
  | o :: r, i, p, p', h, h', hp, hp', hlt => by
    unfold turnsOf at hp hp'
    cases ht : isTurn C o.op with
    | false =>
      rw [ht] at hp hp'
      exact turnsOf_sorted r (i + 1) p p' h h' hp hp' hlt
    | true =>
      rw [ht] at hp hp'
      simp only at hp hp'
      cases p' with
      | zero => omega
      | succ p' =>
        rw [List.getElem?_cons_succ] at hp'
        cases p with
        | zero =>
          simp at hp; subst hp
          have := (turnsOf_mem r (i + 1) p' h' hp').1
          omega
        | succ p =>
          rw [List.getElem?_cons_succ] at hp
          exact turnsOf_sorted r (i + 1) p p' h h' hp hp' (by omega)

def chainB (M H : List Nat) : Bool := H.all fun h => H.all fun h' => !(Nat.blt h' h) || (maskAt M h).testBit h'
theorem chainB_spec {M H : List Nat} (hc : chainB M H = true) {p p' h h' : Nat} (hp : H[p]? = some h) (hp' : H[p']? = some h') (hlt : h' < h) : (maskAt M h).testBit h' = true := by
  unfold chainB at hc
  have := List.all_eq_true.1 (List.all_eq_true.1 hc h (List.mem_of_getElem? hp)) h' (List.mem_of_getElem? hp')
  have hb : Nat.blt h' h = true := by rw [Nat.blt_eq]; exact hlt
  simpa [hb] using this

/-- Whether an operation may come when so many have turned something. -/
def okStage (M : List Nat) (i s : Nat) : List Nat → Nat → Bool
  | [], _ => true
  | h :: r, p => (bif (maskAt M i).testBit h then Nat.blt p s else true) && ((bif (maskAt M h).testBit i then Nat.ble s p else true) && okStage M i s r (p + 1))
theorem okStage_iff {M : List Nat} {i s : Nat} : ∀ (H : List Nat) (p0 : Nat), okStage M i s H p0 = true ↔ ∀ p h, H[p]? = some h → ((maskAt M i).testBit h = true → p0 + p < s) ∧ ((maskAt M h).testBit i = true → s ≤ p0 + p)
  | [], p0 => by simp [okStage]
  | h :: r, p0 => by
    simp only [okStage, Bool.and_eq_true, okStage_iff r (p0 + 1)]
    constructor
    · rintro ⟨h1, h2, h3⟩ p h' hp
      cases p with
      | zero =>
        simp at hp; subst hp
        refine ⟨fun hb => ?_, fun hb => ?_⟩
        · rw [hb, cond_true, Nat.blt_eq] at h1; exact h1
        · rw [hb, cond_true, Nat.ble_eq] at h2; exact h2
      | succ p =>
        rw [List.getElem?_cons_succ] at hp
        have := h3 p h' hp
        exact ⟨fun hb => by have := this.1 hb; omega, fun hb => by have := this.2 hb; omega⟩
    · intro hh
      refine ⟨?_, ?_, fun p h' hp => ?_⟩
      · cases hb : (maskAt M i).testBit h with
        | false => rfl
        | true => have := (hh 0 h (by simp)).1 hb; rw [cond_true, Nat.blt_eq]; exact this
      · cases hb : (maskAt M h).testBit i with
        | false => rfl
        | true => have := (hh 0 h (by simp)).2 hb; rw [cond_true, Nat.ble_eq]; exact this
      · have := hh (p + 1) h' (by rw [List.getElem?_cons_succ]; exact hp)
        exact ⟨fun hb => by have := this.1 hb; omega, fun hb => by have := this.2 hb; omega⟩

def hardB (M H : List Nat) (i : Nat) : Bool := H.all fun h => Nat.beq h i || ((maskAt M i).testBit h || (maskAt M h).testBit i)
theorem hardB_spec {M H : List Nat} {i : Nat} (hh : hardB M H i = true) {p h : Nat} (hp : H[p]? = some h) : h = i ∨ (maskAt M i).testBit h = true ∨ (maskAt M h).testBit i = true := by
  have := List.all_eq_true.1 hh h (List.mem_of_getElem? hp)
  simp only [Bool.or_eq_true] at this
  exact this.imp Nat.eq_of_beq_eq_true id

def cntB (M : List Nat) (i : Nat) (H : List Nat) : Nat := (H.filter fun h => (maskAt M i).testBit h).length
def kbOf (nk N : Nat) (M H : List Nat) (i : Nat) : Nat := bif hardB M H i then nk + 4 * i else nk + 4 * N
def inT (M H : List Nat) (i s j : Nat) : Bool := (maskAt M i).testBit j && okStage M j s H 0

structure Rec where
  i : Nat
  o : Oper
  se : List (Nat × Ent)
  q : Nat
  v : SV
  E : List (Nat × Blk)

structure PreT where
  ents : List (Nat × Ent)
  recs : List Rec
  ts : List Tab
  ob : Bool
  obs : List Prop
  orc : Orc

/-- The operations one by one, each as early as it may come. -/
def preT (P : Program) (C : List (Nat × Con)) (base : St) (dsts : List (Nat × Nat)) (M H : List Nat) (N : Nat) : List Oper → Nat → PreT → Option PreT
  | [], _, s => some s
  | o :: rest, i, s => match guardS (valsAt s.ents M i) o.guard s.orc with
    | none => none
    | some (g, true, orc) => match effOf P C o.op (evAt base.tmps s.ents dsts M i) (tabAt (s.ts.getD (cntB M i H) []) s.ents (inT M H i (cntB M i H))) (kbOf base.nk N M H i) with
      | some (.new r) => preT P C base dsts M H N rest (i + 1) ⟨(i, ⟨o.dst, r.v, r.E⟩) :: s.ents, ⟨i, o, s.ents, cntB M i H, r.v, r.E⟩ :: s.recs, s.ts,
          bnd s.ob (g && (dstOk base.nt o.dst && (uniq dsts o.dst i && ((Nat.blt (cntB M i H) s.ts.length && (hardB M H i || r.E.isEmpty)) && (keysOk (kbOf base.nk N M H i) r.E && r.ob))))), r.obs ++ s.obs, orc⟩
      | some (.turn r) => preT P C base dsts M H N rest (i + 1) ⟨(i, ⟨o.dst, r.v, []⟩) :: s.ents, s.recs, s.ts ++ [r.T],
          bnd s.ob (g && (dstOk base.nt o.dst && (uniq dsts o.dst i && ((Nat.beq s.ts.length (cntB M i H + 1) && hardB M H i) && r.ob)))), r.obs ++ s.obs, orc⟩
      | none => none
    | some (g, false, orc) => match isTurn C o.op with
      | true => preT P C base dsts M H N rest (i + 1) ⟨(i, ⟨o.dst, .tup [], []⟩) :: s.ents, s.recs, s.ts ++ [tabAt (s.ts.getD (cntB M i H) []) s.ents (inT M H i (cntB M i H))],
          bnd s.ob (g && (dstOk base.nt o.dst && (uniq dsts o.dst i && (Nat.beq s.ts.length (cntB M i H + 1) && hardB M H i)))), s.obs, orc⟩
      | false => preT P C base dsts M H N rest (i + 1) ⟨(i, ⟨o.dst, .tup [], []⟩) :: s.ents, s.recs, s.ts, bnd s.ob (g && (dstOk base.nt o.dst && uniq dsts o.dst i)), s.obs, orc⟩

/-- An operation at another stage than the earliest: it comes to the same. -/
def chkS (P : Program) (C : List (Nat × Con)) (base : St) (dsts : List (Nat × Nat)) (M H : List Nat) (N : Nat) (ents : List (Nat × Ent)) (x : Rec) (s : Nat) (T : Tab) (acc : Bool × List Prop) : Option (Bool × List Prop) :=
  bif Nat.beq s x.q || !(okStage M x.i s H 0) then some acc else
  match pop P x.o.op (evAt base.tmps x.se dsts M x.i) with
  | some _ => some acc
  | none => match effOf P C x.o.op (evAt base.tmps x.se dsts M x.i) (tabAt T ents (inT M H x.i s)) (kbOf base.nk N M H x.i) with
    | some (.new r) => some (bnd acc.1 (r.E.isEmpty && (x.E.isEmpty && r.ob)), (r.v = x.v) :: (r.obs ++ acc.2))
    | _ => none
def chkT (P : Program) (C : List (Nat × Con)) (base : St) (dsts : List (Nat × Nat)) (M H : List Nat) (N : Nat) (ents : List (Nat × Ent)) (x : Rec) : List Tab → Nat → Bool × List Prop → Option (Bool × List Prop)
  | [], _, acc => some acc
  | T :: r, s, acc => match chkS P C base dsts M H N ents x s T acc with
    | some acc' => chkT P C base dsts M H N ents x r (s + 1) acc'
    | none => none
def chkR (P : Program) (C : List (Nat × Con)) (base : St) (dsts : List (Nat × Nat)) (M H : List Nat) (N : Nat) (ents : List (Nat × Ent)) (ts : List Tab) : List Rec → Bool × List Prop → Option (Bool × List Prop)
  | [], acc => some acc
  | x :: r, acc => match chkT P C base dsts M H N ents x ts 0 acc with
    | some acc' => chkR P C base dsts M H N ents ts r acc'
    | none => none

/-- A region in any order. -/
def anyT (P : Program) (C : List (Nat × Con)) (ops : Array Oper) (s : RSt) : Option RSt :=
  let l := ops.toList
  let N := l.length
  let M := masks l []
  let H := turnsOf C l 0
  let dsts := dstsOf l 0
  match preT P C s.st dsts M H N l 0 ⟨[], [], [s.st.tab], bnd s.ob (acyc l 0 && chainB M H), s.obs, s.orc⟩ with
  | none => none
  | some p => match chkR P C s.st dsts M H N p.ents p.ts p.recs (p.ob, p.obs) with
    | none => none
    | some (ob, obs) => some ⟨⟨putAll s.st.tmps p.ents, tabAt (p.ts.getD H.length []) p.ents (fun j => okStage M j H.length H 0), s.st.nk + 4 * N, s.st.nt⟩, ob, obs, p.orc⟩

theorem mask_lt {l : List Oper} (hac : acyc l 0 = true) : ∀ (i j : Nat), (maskAt (masks l []) i).testBit j = true → j < i := by
  intro i
  induction i using Nat.strongRecOn with
  | _ i ih =>
    intro j hj
    obtain ⟨o, ho, e, he, hb, hc⟩ := mask_bit l hac i j hj
    have hlt : e.on < i := by simpa using acyc_spec l 0 hac i o ho e he hb
    rcases hc with rfl | hc
    · exact hlt
    · have := ih e.on hlt j hc; omega

/-- What is known of an operation that turns nothing. -/
def SpecN (P : Program) (C : List (Nat × Con)) (base : St) (dsts : List (Nat × Nat)) (M H : List Nat) (N : Nat) (ents : List (Nat × Ent)) (ts : List Tab) (i : Nat) (o : Oper) (e : Ent) : Prop :=
  ∃ se : List (Nat × Ent), (∀ x ∈ se, x ∈ ents) ∧
    ((GuardIs (valsAt se M i) o.guard true ∧ (hardB M H i = true ∨ e.E = []) ∧ ∀ s, s < ts.length → okStage M i s H 0 = true → ∃ se2 r, (∀ x ∈ se2, x ∈ ents) ∧
        effOf P C o.op (evAt base.tmps se dsts M i) (tabAt (ts.getD s []) se2 (inT M H i s)) (kbOf base.nk N M H i) = some (.new r) ∧ r.ob = true ∧ All r.obs ∧ keysOk (kbOf base.nk N M H i) r.E = true ∧ e = ⟨o.dst, r.v, r.E⟩) ∨
     (GuardIs (valsAt se M i) o.guard false ∧ e = ⟨o.dst, .tup [], []⟩))
/-- What is known of one that may turn something. -/
def SpecT (P : Program) (C : List (Nat × Con)) (base : St) (dsts : List (Nat × Nat)) (M H : List Nat) (N : Nat) (ents : List (Nat × Ent)) (ts : List Tab) (i : Nat) (o : Oper) (e : Ent) : Prop :=
  ∃ (se : List (Nat × Ent)) (p : Nat), (∀ x ∈ se, x ∈ ents) ∧ H[p]? = some i ∧ hardB M H i = true ∧
    ((GuardIs (valsAt se M i) o.guard true ∧ ∃ r, effOf P C o.op (evAt base.tmps se dsts M i) (tabAt (ts.getD p []) se (inT M H i p)) (kbOf base.nk N M H i) = some (.turn r) ∧ r.ob = true ∧ All r.obs ∧ ts.getD (p + 1) [] = r.T ∧ e = ⟨o.dst, r.v, []⟩) ∨
     (GuardIs (valsAt se M i) o.guard false ∧ ts.getD (p + 1) [] = tabAt (ts.getD p []) se (inT M H i p) ∧ e = ⟨o.dst, .tup [], []⟩))
def SpecA (P : Program) (C : List (Nat × Con)) (base : St) (dsts : List (Nat × Nat)) (M H : List Nat) (N : Nat) (ents : List (Nat × Ent)) (ts : List Tab) (i : Nat) (o : Oper) : Prop :=
  ∃ e, (i, e) ∈ ents ∧ (∀ e', (i, e') ∈ ents → e' = e) ∧ e.dst = o.dst ∧ dstOk base.nt o.dst = true ∧ uniq dsts o.dst i = true ∧
    ((isTurn C o.op = false ∧ SpecN P C base dsts M H N ents ts i o e) ∨ (isTurn C o.op = true ∧ SpecT P C base dsts M H N ents ts i o e))

/-- The same, each at the earliest stage alone. -/
def Spec1 (P : Program) (C : List (Nat × Con)) (base : St) (dsts : List (Nat × Nat)) (M H : List Nat) (N : Nat) (p : PreT) (i : Nat) (o : Oper) : Prop :=
  ∃ e, (i, e) ∈ p.ents ∧ (∀ e', (i, e') ∈ p.ents → e' = e) ∧ e.dst = o.dst ∧ dstOk base.nt o.dst = true ∧ uniq dsts o.dst i = true ∧
    ((isTurn C o.op = false ∧ ∃ se : List (Nat × Ent), (∀ x ∈ se, x ∈ p.ents) ∧
      ((GuardIs (valsAt se M i) o.guard true ∧ ∃ r, effOf P C o.op (evAt base.tmps se dsts M i) (tabAt (p.ts.getD (cntB M i H) []) se (inT M H i (cntB M i H))) (kbOf base.nk N M H i) = some (.new r) ∧ r.ob = true ∧ All r.obs ∧ keysOk (kbOf base.nk N M H i) r.E = true ∧
          (hardB M H i = true ∨ r.E = []) ∧ (⟨i, o, se, cntB M i H, r.v, r.E⟩ : Rec) ∈ p.recs ∧ e = ⟨o.dst, r.v, r.E⟩) ∨
       (GuardIs (valsAt se M i) o.guard false ∧ e = ⟨o.dst, .tup [], []⟩))) ∨ (isTurn C o.op = true ∧ SpecT P C base dsts M H N p.ents p.ts i o e))

theorem getD_prefix {α : Type} {l t : List α} {i : Nat} {d : α} (h : i < l.length) : (l ++ t).getD i d = l.getD i d := by
  simp [List.getD, List.getElem?_append_left h]

theorem effOf_turn {P : Program} {C : List (Nat × Con)} {op : Op} {ev : Operand → SV} {T : Tab} {kb : Nat} {r : Turned} (h : effOf P C op ev T kb = some (.turn r)) : isTurn C op = true := by
  unfold effOf at h
  split at h
  · assumption
  · split at h
    · cases h
    · split at h <;> cases h
theorem effOf_new {P : Program} {C : List (Nat × Con)} {op : Op} {ev : Operand → SV} {T : Tab} {kb : Nat} {r : Res} (h : effOf P C op ev T kb = some (.new r)) : isTurn C op = false := by
  unfold effOf at h
  split at h
  · split at h <;> cases h
  · assumption
theorem effOf_pop {P : Program} {C : List (Nat × Con)} {op : Op} {ev : Operand → SV} {y : Bool × SV} (h : pop P op ev = some y) (ht : isTurn C op = false) (T : Tab) (kb : Nat) : effOf P C op ev T kb = some (.new ⟨y.1, [], y.2, []⟩) := by
  unfold effOf
  rw [ht, h]

section
variable {P : Program} {C : List (Nat × Con)} {base : St} {dsts : List (Nat × Nat)} {M H : List Nat} {N : Nat}

theorem preT_spec : ∀ (l : List Oper) (i : Nat) (s p : PreT) (H0 : List Nat), preT P C base dsts M H N l i s = some p → p.ob = true → All p.obs → H = H0 ++ turnsOf C l i → s.ts.length = H0.length + 1 → (∀ j e, (j, e) ∈ s.ents → j < i) →
    s.ob = true ∧ All s.obs ∧ (∀ x ∈ s.ents, x ∈ p.ents) ∧ (∀ x ∈ s.recs, x ∈ p.recs) ∧ (∃ t, p.ts = s.ts ++ t) ∧ p.ts.length = H.length + 1 ∧ (∀ j e, (j, e) ∈ p.ents → (j, e) ∈ s.ents ∨ i ≤ j ∧ j < i + l.length) ∧
    ∀ k o, l[k]? = some o → Spec1 P C base dsts M H N p (i + k) o
  | [], i, s, p, H0, h, h1, h2, hH, hts, hs => by
    simp only [preT, Option.some.injEq] at h; subst h
    refine ⟨h1, h2, fun _ h => h, fun _ h => h, ⟨[], by simp⟩, ?_, fun j e h => .inl h, fun k o hk => by simp at hk⟩
    rw [hts, hH]; simp [turnsOf]
  | o :: l, i, s, p, H0, h, h1, h2, hH, hts, hs => by
    have fin : ∀ {s' : PreT} {e : Ent} {H1 : List Nat}, preT P C base dsts M H N l (i + 1) s' = some p → s'.ents = (i, e) :: s.ents → (∀ x ∈ s.recs, x ∈ s'.recs) → (∃ t, s'.ts = s.ts ++ t) → H = H1 ++ turnsOf C l (i + 1) → s'.ts.length = H1.length + 1 →
        (s'.ob = true → All s'.obs → s.ob = true ∧ All s.obs ∧ e.dst = o.dst ∧ dstOk base.nt o.dst = true ∧ uniq dsts o.dst i = true ∧
          ∀ p' : PreT, (∃ t, p'.ts = s'.ts ++ t) → (∀ x ∈ s'.recs, x ∈ p'.recs) → (∀ x ∈ s.ents, x ∈ p'.ents) →
            ((isTurn C o.op = false ∧ ∃ se : List (Nat × Ent), (∀ x ∈ se, x ∈ p'.ents) ∧
      ((GuardIs (valsAt se M i) o.guard true ∧ ∃ r, effOf P C o.op (evAt base.tmps se dsts M i) (tabAt (p'.ts.getD (cntB M i H) []) se (inT M H i (cntB M i H))) (kbOf base.nk N M H i) = some (.new r) ∧ r.ob = true ∧ All r.obs ∧ keysOk (kbOf base.nk N M H i) r.E = true ∧
          (hardB M H i = true ∨ r.E = []) ∧ (⟨i, o, se, cntB M i H, r.v, r.E⟩ : Rec) ∈ p'.recs ∧ e = ⟨o.dst, r.v, r.E⟩) ∨
       (GuardIs (valsAt se M i) o.guard false ∧ e = ⟨o.dst, .tup [], []⟩))) ∨ (isTurn C o.op = true ∧ SpecT P C base dsts M H N p'.ents p'.ts i o e))) →
        s.ob = true ∧ All s.obs ∧ (∀ x ∈ s.ents, x ∈ p.ents) ∧ (∀ x ∈ s.recs, x ∈ p.recs) ∧ (∃ t, p.ts = s.ts ++ t) ∧ p.ts.length = H.length + 1 ∧ (∀ j e, (j, e) ∈ p.ents → (j, e) ∈ s.ents ∨ i ≤ j ∧ j < i + (o :: l).length) ∧
        ∀ k o', (o :: l)[k]? = some o' → Spec1 P C base dsts M H N p (i + k) o' := fun {s' e H1} h he hr hpre hH' hts' hx => by
      have hs' : ∀ j e', (j, e') ∈ s'.ents → j < i + 1 := fun j e' hj => by
        rw [he] at hj
        rcases List.mem_cons.1 hj with hj | hj
        · cases hj; omega
        · have := hs j e' hj; omega
      obtain ⟨g1, g2, g3, g4, g5, g6, g7, g8⟩ := preT_spec l (i + 1) s' p H1 h h1 h2 hH' hts' hs'
      obtain ⟨x1, x2, x3, x4, x5, x6⟩ := hx g1 g2
      have hse : ∀ x ∈ s.ents, x ∈ p.ents := fun x hx => g3 x (by rw [he]; exact List.mem_cons_of_mem _ hx)
      refine ⟨x1, x2, hse, fun x hx => g4 x (hr x hx), ?_, g6, fun j e' hj => ?_, fun k o' hk => ?_⟩
      · obtain ⟨t1, ht1⟩ := hpre
        obtain ⟨t2, ht2⟩ := g5
        exact ⟨t1 ++ t2, by rw [ht2, ht1, List.append_assoc]⟩
      · rcases g7 j e' hj with hj | hj
        · rw [he] at hj
          rcases List.mem_cons.1 hj with hj | hj
          · cases hj; exact .inr ⟨Nat.le_refl _, by simp⟩
          · exact .inl hj
        · exact .inr ⟨by omega, by simp; omega⟩
      · cases k with
        | succ k =>
          simp at hk
          have := g8 k o' hk
          rw [show i + (k + 1) = i + 1 + k by omega]; exact this
        | zero =>
          simp at hk; subst hk
          refine ⟨e, g3 _ (by rw [he]; simp), fun e' he' => ?_, x3, x4, x5, x6 p g5 g4 hse⟩
          rcases g7 _ _ he' with hj | hj
          · rw [he] at hj
            rcases List.mem_cons.1 hj with hj | hj
            · cases hj; rfl
            · have := hs _ _ hj; omega
          · omega
    unfold preT at h
    split at h <;> try (cases h; done)
    · rename_i g orc hg
      split at h <;> try (cases h; done)
      · rename_i r hr
        have hnt := effOf_new hr
        have hH' : H = H0 ++ turnsOf C l (i + 1) := by rw [hH]; simp only [turnsOf, hnt]
        refine fin h rfl (fun x hx => List.mem_cons_of_mem _ hx) ⟨[], by simp⟩ hH' hts fun ho hos => ?_
        simp only [bnd_true, Bool.and_eq_true, Bool.or_eq_true, Nat.blt_eq] at ho
        obtain ⟨ho, rfl, hd, hu, ⟨hq, hE⟩, hk, hro⟩ := ho
        obtain ⟨hos1, hos2⟩ := All_append.1 hos
        refine ⟨ho, hos2, rfl, hd, hu, fun p' hpt hpr hpe => .inl ⟨hnt, s.ents, hpe, .inl ⟨guardS_spec hg, r, ?_, hro, hos1, hk, hE.imp id List.isEmpty_iff.1, hpr _ (by simp), rfl⟩⟩⟩
        obtain ⟨t, ht⟩ := hpt
        rw [ht, getD_prefix hq]; exact hr
      · rename_i r hr
        have ht := effOf_turn hr
        have hH' : H = (H0 ++ [i]) ++ turnsOf C l (i + 1) := by rw [hH]; simp only [turnsOf, ht]; simp
        refine fin h rfl (fun x hx => hx) ⟨[r.T], rfl⟩ hH' (by simp [hts]) fun ho hos => ?_
        simp only [bnd_true, Bool.and_eq_true] at ho
        obtain ⟨ho, rfl, hd, hu, ⟨hq, hh⟩, hro⟩ := ho
        have hq := Nat.eq_of_beq_eq_true hq
        obtain ⟨hos1, hos2⟩ := All_append.1 hos
        refine ⟨ho, hos2, rfl, hd, hu, fun p' hpt hpr hpe => .inr ⟨ht, s.ents, cntB M i H, hpe, ?_, hh, .inl ⟨guardS_spec hg, r, ?_, hro, hos1, ?_, rfl⟩⟩⟩
        · have : cntB M i H = H0.length := by omega
          rw [this, hH']; simp
        · obtain ⟨t, ht⟩ := hpt
          rw [ht, getD_prefix (by simp; omega), getD_prefix (by omega)]; exact hr
        · obtain ⟨t, ht⟩ := hpt
          rw [ht, getD_prefix (by simp; omega), ← hq]; simp [List.getD]
    · rename_i g orc hg
      split at h
      · rename_i ht
        have hH' : H = (H0 ++ [i]) ++ turnsOf C l (i + 1) := by rw [hH]; simp only [turnsOf, ht]; simp
        refine fin h rfl (fun x hx => hx) ⟨[_], rfl⟩ hH' (by simp [hts]) fun ho hos => ?_
        simp only [bnd_true, Bool.and_eq_true] at ho
        obtain ⟨ho, rfl, hd, hu, hq, hh⟩ := ho
        have hq := Nat.eq_of_beq_eq_true hq
        refine ⟨ho, hos, rfl, hd, hu, fun p' hpt hpr hpe => .inr ⟨ht, s.ents, cntB M i H, hpe, ?_, hh, .inr ⟨guardS_spec hg, ?_, rfl⟩⟩⟩
        · have : cntB M i H = H0.length := by omega
          rw [this, hH']; simp
        · obtain ⟨t, ht⟩ := hpt
          rw [ht, getD_prefix (l := s.ts ++ _) (i := cntB M i H + 1) (by simp; omega), getD_prefix (l := s.ts ++ _) (i := cntB M i H) (by simp; omega), getD_prefix (i := cntB M i H) (by omega), ← hq]; simp [List.getD]
      · rename_i hnt
        have hH' : H = H0 ++ turnsOf C l (i + 1) := by rw [hH]; simp only [turnsOf, hnt]
        refine fin h rfl (fun x hx => hx) ⟨[], by simp⟩ hH' hts fun ho hos => ?_
        simp only [bnd_true, Bool.and_eq_true] at ho
        obtain ⟨ho, rfl, hd, hu⟩ := ho
        exact ⟨ho, hos, rfl, hd, hu, fun p' hpt hpr hpe => .inl ⟨hnt, s.ents, hpe, .inr ⟨guardS_spec hg, rfl⟩⟩⟩

/-- What the second look shows. -/
def CS (P : Program) (C : List (Nat × Con)) (base : St) (dsts : List (Nat × Nat)) (M H : List Nat) (N : Nat) (ents : List (Nat × Ent)) (x : Rec) (s : Nat) (T : Tab) : Prop :=
  s = x.q ∨ okStage M x.i s H 0 = false ∨ (∃ y, pop P x.o.op (evAt base.tmps x.se dsts M x.i) = some y) ∨
    ∃ r, effOf P C x.o.op (evAt base.tmps x.se dsts M x.i) (tabAt T ents (inT M H x.i s)) (kbOf base.nk N M H x.i) = some (.new r) ∧ r.E = [] ∧ x.E = [] ∧ r.ob = true ∧ All r.obs ∧ r.v = x.v

theorem chkS_spec {ents : List (Nat × Ent)} {x : Rec} {s : Nat} {T : Tab} {acc acc' : Bool × List Prop} (h : chkS P C base dsts M H N ents x s T acc = some acc') (h1 : acc'.1 = true) (h2 : All acc'.2) : acc.1 = true ∧ All acc.2 ∧ CS P C base dsts M H N ents x s T := by
  unfold chkS at h
  cases hb : (Nat.beq s x.q || !(okStage M x.i s H 0)) with
  | true =>
    rw [hb, cond_true, Option.some.injEq] at h; subst h
    simp only [Bool.or_eq_true, Bool.not_eq_true'] at hb
    exact ⟨h1, h2, hb.elim (fun h => .inl (Nat.eq_of_beq_eq_true h)) fun h => .inr (.inl h)⟩
  | false =>
    rw [hb, cond_false] at h
    split at h
    · rename_i y hy
      simp only [Option.some.injEq] at h; subst h
      exact ⟨h1, h2, .inr (.inr (.inl ⟨_, hy⟩))⟩
    · split at h <;> try (cases h; done)
      rename_i r hr
      simp only [Option.some.injEq] at h; subst h
      simp only [bnd_true, Bool.and_eq_true, List.isEmpty_iff] at h1
      obtain ⟨h1, h3, h4, h5⟩ := h1
      obtain ⟨h6, h7⟩ := h2
      obtain ⟨h7, h8⟩ := All_append.1 h7
      exact ⟨h1, h8, .inr (.inr (.inr ⟨r, hr, h3, h4, h5, h7, h6⟩))⟩

theorem chkT_spec {ents : List (Nat × Ent)} {x : Rec} : ∀ (Ts : List Tab) (s : Nat) (acc acc' : Bool × List Prop), chkT P C base dsts M H N ents x Ts s acc = some acc' → acc'.1 = true → All acc'.2 → acc.1 = true ∧ All acc.2 ∧ ∀ k T, Ts[k]? = some T → CS P C base dsts M H N ents x (s + k) T
  | [], s, acc, acc', h, h1, h2 => by
    simp only [chkT, Option.some.injEq] at h; subst h
    exact ⟨h1, h2, fun k T hk => by simp at hk⟩
  | T :: r, s, acc, acc', h, h1, h2 => by
    unfold chkT at h
    split at h <;> try (cases h; done)
    rename_i a ha
    obtain ⟨g1, g2, g3⟩ := chkT_spec r (s + 1) a acc' h h1 h2
    obtain ⟨f1, f2, f3⟩ := chkS_spec ha g1 g2
    refine ⟨f1, f2, fun k T' hk => ?_⟩
    cases k with
    | zero => simp at hk; subst hk; exact f3
    | succ k =>
      rw [List.getElem?_cons_succ] at hk
      rw [show s + (k + 1) = s + 1 + k by omega]
      exact g3 k T' hk

theorem chkR_spec {ents : List (Nat × Ent)} {ts : List Tab} : ∀ (l : List Rec) (acc acc' : Bool × List Prop), chkR P C base dsts M H N ents ts l acc = some acc' → acc'.1 = true → All acc'.2 → acc.1 = true ∧ All acc.2 ∧ ∀ x ∈ l, ∀ s T, ts[s]? = some T → CS P C base dsts M H N ents x s T
  | [], acc, acc', h, h1, h2 => by
    simp only [chkR, Option.some.injEq] at h; subst h
    exact ⟨h1, h2, fun x hx => by simp at hx⟩
  | x :: r, acc, acc', h, h1, h2 => by
    unfold chkR at h
    split at h <;> try (cases h; done)
    rename_i a ha
    obtain ⟨g1, g2, g3⟩ := chkR_spec r a acc' h h1 h2
    obtain ⟨f1, f2, f3⟩ := chkT_spec _ _ _ _ ha g1 g2
    refine ⟨f1, f2, fun y hy s T hs => ?_⟩
    rcases List.mem_cons.1 hy with rfl | hy
    · have := f3 s T hs
      rwa [Nat.zero_add] at this
    · exact g3 y hy s T hs

theorem specA_of {p : PreT} {i : Nat} {o : Oper} (h : Spec1 P C base dsts M H N p i o) (hc : ∀ x ∈ p.recs, ∀ s T, p.ts[s]? = some T → CS P C base dsts M H N p.ents x s T) : SpecA P C base dsts M H N p.ents p.ts i o := by
  obtain ⟨e, h1, h2, h3, h4, h5, h6⟩ := h
  refine ⟨e, h1, h2, h3, h4, h5, ?_⟩
  rcases h6 with ⟨hnt, se, hse, h6⟩ | h6
  · refine .inl ⟨hnt, se, hse, ?_⟩
    rcases h6 with ⟨hg, r, hr, hro, hros, hk, hE, hrec, he⟩ | h6
    · refine .inl ⟨hg, by rw [he]; exact hE, fun s hs hok => ?_⟩
      have hgs : p.ts[s]? = some (p.ts.getD s []) := by simp [List.getD, hs]
      rcases hc _ hrec s _ hgs with hq | hq | ⟨y, hy⟩ | ⟨r', hr', hE', hE0, hob', hobs', hv'⟩
      · simp only at hq; subst hq
        exact ⟨se, r, hse, hr, hro, hros, hk, he⟩
      · simp only at hq; rw [hok] at hq; cases hq
      · simp only at hy
        rw [effOf_pop hy hnt] at hr
        simp only [Option.some.injEq, Eff.new.injEq] at hr
        subst hr
        exact ⟨se, _, hse, effOf_pop hy hnt _ _, hro, hros, hk, he⟩
      · simp only at hr' hv' hE0
        refine ⟨p.ents, r', fun _ h => h, hr', hob', hobs', by rw [hE']; rfl, ?_⟩
        rw [he, hv', hE', hE0]
    · exact .inr h6
  · exact .inr h6
end

def lo (H : List Nat) : Nat → Nat
  | 0 => 0
  | q + 1 => H.getD q 0 + 1

/-- How many of those that turn something have been done. -/
def StInv (H : List Nat) (L : Array Bool) (q : Nat) : Prop := q ≤ H.length ∧ ∀ p h, H[p]? = some h → (L.getD h false = true ↔ p < q)

/-- The state while some of a region's operations have been done, so many of them such as turn something. -/
structure RelT (X : Cx) (base : St) (dsts : List (Nat × Nat)) (M H : List Nat) (ents : List (Nat × Ent)) (ts : List Tab) (N : Nat) (L : Array Bool) (q : Nat) (ρ : Ren) (a : Act) (w : World) : Prop where
  rel : RelP X ρ (fun k b => (ts.getD q []).blk k = some b ∨ ∃ j e, (j, e) ∈ ents ∧ L.getD j false = true ∧ okStage M j q H 0 = true ∧ (k, b) ∈ e.E) w
  ent : ∀ j e, (j, e) ∈ ents → L.getD j false = true → ∀ d, e.dst = some d → ∃ u, a.tmps[d]? = some u ∧ e.v.R ρ u
  bas : ∀ t v, get base.tmps t = some v → (∀ j, get dsts t = some j → L.getD j false = false) → ∃ u, a.tmps[t]? = some u ∧ v.R ρ u
  defers : a.defers = []
  sz : a.tmps.size = base.nt
  fresh : ∀ k, base.nk + 4 * lo H q ≤ k → (∀ j, j < N → hardB M H j = true → L.getD j false = true → ¬ (base.nk + 4 * j ≤ k ∧ k < base.nk + 4 * j + 4)) → ρ k = none

section
variable {P : Program} {C : List (Nat × Con)} {X : Cx} {ops : Array Oper} {base : St} {ents : List (Nat × Ent)} {ts : List Tab}

theorem dsts_op {l : List Oper} {t j : Nat} (h : get (dstsOf l 0) t = some j) : ∃ o, l[j]? = some o ∧ o.dst = some t := by
  obtain ⟨_, o, ho, hd⟩ := dstsOf_get _ _ _ _ h
  exact ⟨o, by simpa using ho, hd⟩

theorem ev_T {L : Array Bool} {i : Nat} {M : List Nat} {se : List (Nat × Ent)} {ρ : Ren} {a : Act} (hdst : ∀ j e, (j, e) ∈ ents → ∀ o, ops[j]? = some o → e.dst = o.dst) (hcl : ∀ i, L.getD i false = true → ∀ j, (maskAt M i).testBit j = true → L.getD j false = true)
    (hun : L.getD i false = false) (hdep : ∀ j, (maskAt M i).testBit j = true → L.getD j false = true) (hsub : ∀ x ∈ se, x ∈ ents)
    (hent : ∀ j e, (j, e) ∈ ents → L.getD j false = true → ∀ d, e.dst = some d → ∃ u, a.tmps[d]? = some u ∧ e.v.R ρ u)
    (hbas : ∀ t v, get base.tmps t = some v → (∀ j, get (dstsOf ops.toList 0) t = some j → L.getD j false = false) → ∃ u, a.tmps[t]? = some u ∧ v.R ρ u) (x : Operand) : (evAt base.tmps se (dstsOf ops.toList 0) M i x).R ρ (a.eval x) := by
  have hbase : ∀ t, (∀ j, get (dstsOf ops.toList 0) t = some j → L.getD j false = false) → (sev base.tmps (.tmp t)).R ρ (a.eval (.tmp t)) := fun t ht => by
    simp only [sev]
    split
    · rename_i v hv
      obtain ⟨u, hu, hr⟩ := hbas t v hv ht
      simpa [Act.eval, hu] using hr
    · exact trivial
  cases x with
  | tmp t =>
    simp only [evAt]
    split
    · rename_i j hj
      obtain ⟨oj, hoj, hdj⟩ := dsts_op hj
      have hoj' : ops[j]? = some oj := by simpa using hoj
      cases hb : (maskAt M i).testBit j with
      | true =>
        simp only [cond_true]
        split
        · rename_i ej hej
          have hm := hsub _ (get_of_mem hej)
          obtain ⟨u, hu, hr⟩ := hent j ej hm (hdep j hb) t (by rw [hdst j ej hm oj hoj']; exact hdj)
          simpa [Act.eval, hu] using hr
        · exact trivial
      | false =>
        simp only [cond_false]
        cases hb2 : (maskAt M j).testBit i with
        | true =>
          simp only [cond_true]
          refine hbase t fun j' hj' => ?_
          rw [hj] at hj'; cases hj'
          cases hq : L.getD j false with
          | false => rfl
          | true => have := hcl j hq i hb2; rw [this] at hun; cases hun
        | false => exact trivial
    · rename_i hnone
      exact hbase t fun j hj => by rw [hnone] at hj; cases hj
  | const v => exact ofVal_R v
  | func f => exact ⟨[], rfl, .nil⟩
  | global g => exact trivial

theorem guard_T {L : Array Bool} {i : Nat} {o : Oper} {M : List Nat} {se : List (Nat × Ent)} {ρ : Ren} {a : Act} (hmem : ∀ j e, (j, e) ∈ ents → j < ops.size) (hdst : ∀ j e, (j, e) ∈ ents → ∀ o, ops[j]? = some o → e.dst = o.dst)
    (hdep : ∀ j, (maskAt M i).testBit j = true → L.getD j false = true) (hsub : ∀ x ∈ se, x ∈ ents)
    (hent : ∀ j e, (j, e) ∈ ents → L.getD j false = true → ∀ d, e.dst = some d → ∃ u, a.tmps[d]? = some u ∧ e.v.R ρ u) (b : Bool) (hg : GuardIs (valsAt se M i) o.guard b) : Region.wanted o (yielded ops a.tmps) = b := by
  refine wanted_of (fun j c want hgo hc => ?_) (fun j want hgo hc => ?_) hg
  · unfold valsAt at hc
    cases hb : (maskAt M i).testBit j with
    | false => rw [hb] at hc; cases hc
    | true =>
      rw [hb, cond_true] at hc
      split at hc <;> try (cases hc; done)
      rename_i ej hej
      split at hc <;> try (cases hc; done)
      rename_i d hd
      have hm := hsub _ (get_of_mem hej)
      obtain ⟨u, hu, hr⟩ := hent j ej hm (hdep j hb) d hd
      rw [hc] at hr
      have hr' : u = .bool c := hr
      subst hr'
      have hjN := hmem j ej hm
      have hoj : ops[j]? = some ops[j] := by simp [hjN]
      have hdj := hdst j ej hm _ hoj
      rw [hd] at hdj
      simp [yielded, hoj, ← hdj, hu]
  · unfold valsAt at hc
    cases hb : (maskAt M i).testBit j with
    | false => rw [hb] at hc; cases hc
    | true =>
      rw [hb, cond_true] at hc
      split at hc <;> try (cases hc; done)
      rename_i ej hej
      split at hc <;> try (cases hc; done)
      rename_i d hd
      have hm := hsub _ (get_of_mem hej)
      obtain ⟨u, hu, hr⟩ := hent j ej hm (hdep j hb) d hd
      rw [hc] at hr
      obtain rfl := off_eq hr
      have hjN := hmem j ej hm
      have hoj : ops[j]? = some ops[j] := by simp [hjN]
      have hdj := hdst j ej hm _ hoj
      rw [hd] at hdj
      simp [yielded, hoj, ← hdj, hu, undef]

/-- One of a region's operations, when its turn comes. -/
theorem step_T (hC : LibOK P C) (hac : acyc ops.toList 0 = true) (hch : chainB (masks ops.toList []) (turnsOf C ops.toList 0) = true) (hts : ts.length = (turnsOf C ops.toList 0).length + 1)
    (hmem : ∀ j e, (j, e) ∈ ents → j < ops.size) (huq : ∀ j e, (j, e) ∈ ents → ∀ d, e.dst = some d → get (dstsOf ops.toList 0) d = some j) (hdst : ∀ j e, (j, e) ∈ ents → ∀ o, ops[j]? = some o → e.dst = o.dst)
    (hhard : ∀ j e, (j, e) ∈ ents → hardB (masks ops.toList []) (turnsOf C ops.toList 0) j = true ∨ e.E = [])
    (L : Array Bool) (hL : L.size = ops.size) (hcl : ∀ i, L.getD i false = true → ∀ j, (maskAt (masks ops.toList []) i).testBit j = true → L.getD j false = true) {q : Nat} (hst : StInv (turnsOf C ops.toList 0) L q)
    {i : Nat} {o : Oper} (ho : ops[i]? = some o) (hsp : SpecA P C base (dstsOf ops.toList 0) (masks ops.toList []) (turnsOf C ops.toList 0) ops.size ents ts i o) (hun : L.getD i false = false) (hdep : ∀ j, (maskAt (masks ops.toList []) i).testBit j = true → L.getD j false = true)
    {ρ : Ren} {a : Act} {w : World} (h : RelT X base (dstsOf ops.toList 0) (masks ops.toList []) (turnsOf C ops.toList 0) ents ts ops.size L q ρ a w) {K : Act → World → Prop} {Q : Exit → Act → World → Prop}
    (hK : ∀ ρ' a' w' q', Le ρ ρ' → StInv (turnsOf C ops.toList 0) (L.setIfInBounds i true) q' → RelT X base (dstsOf ops.toList 0) (masks ops.toList []) (turnsOf C ops.toList 0) ents ts ops.size (L.setIfInBounds i true) q' ρ' a' w' → K a' w') : wpOp P ops Q i K a w := by
  obtain ⟨e, hie, huni, hed, hdok, hunq, hcase⟩ := hsp
  have hi : i < ops.size := (Array.getElem?_eq_some_iff.1 ho).1
  have hdok' := dstOk_spec hdok
  have hiL : i < L.size := by omega
  have hset : (L.setIfInBounds i true).getD i false = true := by simp [hiL]
  have hget : ∀ d, o.dst = some d → get (dstsOf ops.toList 0) d = some i := fun d hd => by
    rw [hd] at hunq
    simp only [uniq] at hunq
    split at hunq
    · rename_i j hj; rw [hj, Nat.eq_of_beq_eq_true hunq]
    · cases hunq
  have turnOf : ∀ {p h' : Nat}, (turnsOf C ops.toList 0)[p]? = some h' → ∃ o', ops[h']? = some o' ∧ isTurn C o'.op = true := fun {p h'} hp => by
    obtain ⟨_, o', ho', ht⟩ := turnsOf_mem _ _ _ _ hp
    exact ⟨o', by simpa using ho', ht⟩
  -- the temporaries
  have hentT : ∀ {ρ' : Ren} {u : Value}, Le ρ ρ' → e.v.R ρ' u → ∀ j ej, (j, ej) ∈ ents → (L.setIfInBounds i true).getD j false = true → ∀ d, ej.dst = some d → ∃ u', (a.put o.dst u).tmps[d]? = some u' ∧ ej.v.R ρ' u' := fun {ρ' u} hle hr j ej hj hjl d hd => by
    by_cases hij : i = j
    · subst hij
      rw [huni ej hj] at hd ⊢
      have hd' : o.dst = some d := by rw [← hed]; exact hd
      refine ⟨u, ?_, hr⟩
      have := hdok' d hd'
      simp [hd', Act.put, Array.getElem?_setIfInBounds, h.sz, this]
    · rw [getD_set_ne false hij] at hjl
      obtain ⟨v, hv, hvr⟩ := h.ent j ej hj hjl d hd
      refine ⟨v, ?_, hvr.mono hle⟩
      cases hod : o.dst with
      | none => simpa [Act.put] using hv
      | some d' =>
        have hne : d' ≠ d := fun e => by
          subst e
          have h1 := hget d' hod
          rw [huq j ej hj d' hd] at h1; cases h1
          exact hij rfl
        simp [Act.put, Array.getElem?_setIfInBounds_ne hne, hv]
  have hbasT : ∀ {ρ' : Ren} {u : Value}, Le ρ ρ' → ∀ t v, get base.tmps t = some v → (∀ j, get (dstsOf ops.toList 0) t = some j → (L.setIfInBounds i true).getD j false = false) → ∃ u', (a.put o.dst u).tmps[t]? = some u' ∧ v.R ρ' u' := fun {ρ' u} hle t v hv ht => by
    have ht' : ∀ j, get (dstsOf ops.toList 0) t = some j → L.getD j false = false := fun j hj => by
      have := ht j hj
      by_cases hij : i = j
      · subst hij; rw [hset] at this; cases this
      · rwa [getD_set_ne false hij] at this
    obtain ⟨x, hx, hxr⟩ := h.bas t v hv ht'
    refine ⟨x, ?_, hxr.mono hle⟩
    cases hod : o.dst with
    | none => simpa [Act.put] using hx
    | some d' =>
      have hne : d' ≠ t := fun e => by
        subst e
        have := ht i (hget d' hod)
        rw [hset] at this; cases this
      simp [Act.put, Array.getElem?_setIfInBounds_ne hne, hx]
  have hdefT : ∀ {u : Value}, (a.put o.dst u).defers = [] := fun {u} => by cases o.dst <;> exact h.defers
  have hszT : ∀ {u : Value}, (a.put o.dst u).tmps.size = base.nt := fun {u} => by cases o.dst <;> simp [Act.put, h.sz]
  unfold wpOp
  rw [ho]
  simp only
  rcases hcase with ⟨hnt, se, hsub, hcase⟩ | ⟨ht, se, p, hsub, hp, hhd, hcase⟩
  · -- nothing is turned
    have hnH : ∀ p h', (turnsOf C ops.toList 0)[p]? = some h' → h' ≠ i := fun p h' hp e => by
      subst e
      obtain ⟨o', ho', ht⟩ := turnOf hp
      rw [ho] at ho'; cases ho'
      rw [hnt] at ht; cases ht
    have hst' : StInv (turnsOf C ops.toList 0) (L.setIfInBounds i true) q := ⟨hst.1, fun p h' hp => by
      rw [getD_set_ne false (Ne.symm (hnH p h' hp))]; exact hst.2 p h' hp⟩
    have hok : okStage (masks ops.toList []) i q (turnsOf C ops.toList 0) 0 = true := (okStage_iff _ _).2 fun p h' hp => by
      rw [Nat.zero_add]
      refine ⟨fun hb => (hst.2 p h' hp).1 (hdep h' hb), fun hb => ?_⟩
      refine Nat.le_of_not_lt fun hlt => ?_
      have := hcl h' ((hst.2 p h' hp).2 hlt) i hb
      rw [hun] at this; cases this
    have fin : ∀ {ρ' : Ren} {u : Value} {w' : World}, Le ρ ρ' → e.v.R ρ' u → New ρ ρ' e.E w w' → (e.E = [] ∨ ∀ k b, (k, b) ∈ e.E → base.nk + 4 * i ≤ k ∧ k < base.nk + 4 * i + 4) → (hardB (masks ops.toList []) (turnsOf C ops.toList 0) i = true ∨ e.E = []) →
        RelT X base (dstsOf ops.toList 0) (masks ops.toList []) (turnsOf C ops.toList 0) ents ts ops.size (L.setIfInBounds i true) q ρ' (a.put o.dst u) w' := fun {ρ' u w'} hle hr hn hkeys hhi => by
      refine ⟨?_, hentT hle hr, hbasT hle, hdefT, hszT, ?_⟩
      · refine (h.rel.new hn).sub fun k b hk => ?_
        rcases hk with hk | ⟨j, ej, hj, hjl, hjs, hkb⟩
        · exact .inr (.inl hk)
        · by_cases hij : i = j
          · subst hij
            rw [huni ej hj] at hkb
            exact .inl hkb
          · rw [getD_set_ne false hij] at hjl
            exact .inr (.inr ⟨j, ej, hj, hjl, hjs, hkb⟩)
      · intro k hk hno
        have hki : ∀ b, (k, b) ∉ e.E := fun b hb => by
          rcases hkeys with h0 | hkeys
          · rw [h0] at hb; cases hb
          · rcases hhi with hhi | h0
            · exact hno i hi hhi hset (hkeys k b hb)
            · rw [h0] at hb; cases hb
        rw [hn.only k hki]
        refine h.fresh k hk fun j hj hjh hjl => hno j hj hjh ?_
        by_cases hij : i = j
        · subst hij; exact hset
        · rw [getD_set_ne false hij]; exact hjl
    rcases hcase with ⟨hg, hhi, hall⟩ | ⟨hg, he⟩
    · rw [if_pos (guard_T hmem hdst hdep hsub h.ent true hg)]
      obtain ⟨se2, r, hsub2, heff, hrob, hros, hrk, he⟩ := hall q (by rw [hts]; have := hst.1; omega) hok
      have hkeys := keysOk_spec hrk
      have hfr : fresh ρ (kbOf base.nk ops.size (masks ops.toList []) (turnsOf C ops.toList 0) i) := fun k h1 h2 => by
        unfold kbOf at h1 h2
        cases hhb : hardB (masks ops.toList []) (turnsOf C ops.toList 0) i with
        | true =>
          rw [hhb, cond_true] at h1 h2
          refine h.fresh k ?_ fun j hj hjh hjl hh => ?_
          · have hlo : lo (turnsOf C ops.toList 0) q ≤ i := by
              cases q with
              | zero => exact Nat.zero_le _
              | succ q =>
                have hq1 := hst.1
                have hq : (turnsOf C ops.toList 0)[q]? = some ((turnsOf C ops.toList 0).getD q 0) := by
                  simp [List.getD, show q < (turnsOf C ops.toList 0).length by omega]
                have hdone := (hst.2 q _ hq).2 (by omega)
                rcases hardB_spec hhb hq with hh | hh | hh
                · exact absurd hh (hnH _ _ hq)
                · exact mask_lt hac _ _ hh
                · have := hcl _ hdone i hh; rw [hun] at this; cases this
            omega
          · have : j ≠ i := fun e => by subst e; rw [hjl] at hun; cases hun
            omega
        | false =>
          rw [hhb, cond_false] at h1 h2
          refine h.fresh k ?_ fun j hj hjh hjl hh => by omega
          have hlo : lo (turnsOf C ops.toList 0) q ≤ ops.size := by
            cases q with
            | zero => exact Nat.zero_le _
            | succ q =>
              have hq1 := hst.1
              have hq : (turnsOf C ops.toList 0)[q]? = some ((turnsOf C ops.toList 0).getD q 0) := by
                simp [List.getD, show q < (turnsOf C ops.toList 0).length by omega]
              obtain ⟨o', ho', _⟩ := turnOf hq
              exact (Array.getElem?_eq_some_iff.1 ho').1
          omega
      have hrel' : Rel X ρ (tabAt (ts.getD q []) se2 (inT (masks ops.toList []) (turnsOf C ops.toList 0) i q)) w := h.rel.sub fun k b hk => by
        rcases tabAt_blk _ _ _ _ _ hk with ⟨j, ej, hj, hb, hkb⟩ | hk
        · simp only [inT, Bool.and_eq_true] at hb
          exact .inr ⟨j, ej, hsub2 _ hj, hdep j hb.1, hb.2, hkb⟩
        · exact .inl hk
      have hdoes := eff_new hC (ev_T hdst hcl hun hdep hsub h.ent h.bas) hrel' hfr heff hrob hros
      refine .inl (hdoes.wp fun v w' ⟨ρ', hr, hn⟩ => hK ρ' _ _ q hn.le hst' ?_)
      rw [he] at fin hhi
      refine fin hn.le hr hn ?_ hhi
      rcases hhi with hhi | h0
      · right
        unfold kbOf at hkeys
        rw [hhi, cond_true] at hkeys
        exact hkeys
      · exact .inl h0
    · rw [if_neg (by simp [guard_T hmem hdst hdep hsub h.ent false hg])]
      rw [he] at fin
      exact hK ρ _ _ q (Le.refl _) hst' (fin (Le.refl _) off_R (New.refl _ _) (.inl rfl) (.inr rfl))
  · -- something is turned
    have hpq : p = q := by
      have h1 : ¬ p < q := fun hh => by have := (hst.2 p i hp).2 hh; rw [hun] at this; cases this
      rcases Nat.lt_or_ge q p with h2 | h2
      · exfalso
        have hpl := (List.getElem?_eq_some_iff.1 hp).1
        have hq : (turnsOf C ops.toList 0)[q]? = some ((turnsOf C ops.toList 0).getD q 0) := by simp [List.getD, show q < (turnsOf C ops.toList 0).length by omega]
        have hlt := turnsOf_sorted _ _ _ _ _ _ hq hp h2
        have := (hst.2 q _ hq).1 (hdep _ (chainB_spec hch hp hq hlt))
        omega
      · omega
    subst hpq
    have hpl := (List.getElem?_eq_some_iff.1 hp).1
    have hkb : kbOf base.nk ops.size (masks ops.toList []) (turnsOf C ops.toList 0) i = base.nk + 4 * i := by unfold kbOf; rw [hhd, cond_true]
    have hlo : lo (turnsOf C ops.toList 0) p ≤ i := by
      cases p with
      | zero => exact Nat.zero_le _
      | succ q =>
        have hq : (turnsOf C ops.toList 0)[q]? = some ((turnsOf C ops.toList 0).getD q 0) := by simp [List.getD, show q < (turnsOf C ops.toList 0).length by omega]
        exact turnsOf_sorted _ _ _ _ _ _ hq hp (by omega)
    have hothers : ∀ j, j < ops.size → hardB (masks ops.toList []) (turnsOf C ops.toList 0) j = true → L.getD j false = true → j < i ∧ (maskAt (masks ops.toList []) i).testBit j = true := fun j hj hjh hjl => by
      rcases hardB_spec hjh hp with hh | hh | hh
      · subst hh; rw [hjl] at hun; cases hun
      · have := hcl j hjl i hh; rw [hun] at this; cases this
      · exact ⟨mask_lt hac _ _ hh, hh⟩
    have hfrA : freshA ρ (base.nk + 4 * i) := fun k hk => h.fresh k (by omega) fun j hj hjh hjl hh => by
      have := (hothers j hj hjh hjl).1
      omega
    have hst' : StInv (turnsOf C ops.toList 0) (L.setIfInBounds i true) (p + 1) := ⟨by omega, fun p' h' hp' => by
      by_cases hih : i = h'
      · subst hih
        have hpp : p' = p := by
          rcases Nat.lt_trichotomy p' p with hlt | heq | hlt
          · have := turnsOf_sorted _ _ _ _ _ _ hp' hp hlt; omega
          · exact heq
          · have := turnsOf_sorted _ _ _ _ _ _ hp hp' hlt; omega
        subst hpp
        exact ⟨fun _ => by omega, fun _ => hset⟩
      · rw [getD_set_ne false hih, hst.2 p' h' hp']
        have : p' ≠ p := fun e => by subst e; rw [hp] at hp'; cases hp'; exact hih rfl
        omega⟩
    have hrel' : Rel X ρ (tabAt (ts.getD p []) se (inT (masks ops.toList []) (turnsOf C ops.toList 0) i p)) w := h.rel.sub fun k b hk => by
      rcases tabAt_blk _ _ _ _ _ hk with ⟨j, ej, hj, hb, hkb⟩ | hk
      · simp only [inT, Bool.and_eq_true] at hb
        exact .inr ⟨j, ej, hsub _ hj, hdep j hb.1, hb.2, hkb⟩
      · exact .inl hk
    have hnoE : ∀ {k : Nat} {b : Blk} {j : Nat} {ej : Ent}, e.E = [] → (j, ej) ∈ ents → (L.setIfInBounds i true).getD j false = true → okStage (masks ops.toList []) j (p + 1) (turnsOf C ops.toList 0) 0 = true → (k, b) ∈ ej.E → False := fun {k b j ej} hE hj hjl hjs hkb => by
      by_cases hij : i = j
      · subst hij; rw [huni ej hj, hE] at hkb; cases hkb
      · rw [getD_set_ne false hij] at hjl
        rcases hhard j ej hj with hjh | h0
        · have h1 := (hothers j (hmem j ej hj) hjh hjl).2
          have := ((okStage_iff _ _).1 hjs p i hp).2 h1
          omega
        · rw [h0] at hkb; cases hkb
    rcases hcase with ⟨hg, r, heff, hrob, hros, hT, he⟩ | ⟨hg, hT, he⟩
    · rw [if_pos (guard_T hmem hdst hdep hsub h.ent true hg)]
      rw [hkb] at heff
      have hdoes := eff_turn hC (ev_T hdst hcl hun hdep hsub h.ent h.bas) hrel' hfrA heff hrob hros
      refine .inl (hdoes.wp fun v w' ⟨ρ', hr, hle, hrelT, hfr⟩ => hK ρ' _ _ (p + 1) hle hst' ⟨?_, hentT hle (by rw [he]; exact hr), hbasT hle, hdefT, hszT, ?_⟩)
      · refine hrelT.sub fun k b hk => ?_
        rcases hk with hk | ⟨j, ej, hj, hjl, hjs, hkb⟩
        · rw [hT] at hk; exact hk
        · exact (hnoE (by rw [he]) hj hjl hjs hkb).elim
      · intro k hk _
        have hl : lo (turnsOf C ops.toList 0) (p + 1) = i + 1 := by simp only [lo, List.getD, hp, Option.getD_some]
        rw [hl] at hk
        exact hfr k (by omega)
    · rw [if_neg (by simp [guard_T hmem hdst hdep hsub h.ent false hg])]
      refine hK ρ _ _ (p + 1) (Le.refl _) hst' ⟨?_, hentT (Le.refl _) (by rw [he]; exact off_R), hbasT (Le.refl _), hdefT, hszT, ?_⟩
      · refine hrel'.sub fun k b hk => ?_
        rcases hk with hk | ⟨j, ej, hj, hjl, hjs, hkb⟩
        · rw [hT] at hk; exact hk
        · exact (hnoE (by rw [he]) hj hjl hjs hkb).elim
      · intro k hk _
        have hl : lo (turnsOf C ops.toList 0) (p + 1) = i + 1 := by simp only [lo, List.getD, hp, Option.getD_some]
        rw [hl] at hk
        exact hfrA k (by omega)
end

section
variable {P : Program} {C : List (Nat × Con)} {X : Cx} {ops : Array Oper} {base : St} {ents : List (Nat × Ent)} {ts : List Tab}

theorem main_T (hC : LibOK P C) (hac : acyc ops.toList 0 = true) (hch : chainB (masks ops.toList []) (turnsOf C ops.toList 0) = true) (hts : ts.length = (turnsOf C ops.toList 0).length + 1)
    (hmem : ∀ j e, (j, e) ∈ ents → j < ops.size) (huq : ∀ j e, (j, e) ∈ ents → ∀ d, e.dst = some d → get (dstsOf ops.toList 0) d = some j) (hdst : ∀ j e, (j, e) ∈ ents → ∀ o, ops[j]? = some o → e.dst = o.dst)
    (hhard : ∀ j e, (j, e) ∈ ents → hardB (masks ops.toList []) (turnsOf C ops.toList 0) j = true ∨ e.E = [])
    (hsp : ∀ i o, ops[i]? = some o → SpecA P C base (dstsOf ops.toList 0) (masks ops.toList []) (turnsOf C ops.toList 0) ops.size ents ts i o) {Q : Exit → Act → World → Prop} {ρ0 : Ren}
    (hQ : ∀ ρ a w, Le ρ0 ρ → RelA X ρ ⟨putAll base.tmps ents, tabAt (ts.getD (turnsOf C ops.toList 0).length []) ents (fun j => okStage (masks ops.toList []) j (turnsOf C ops.toList 0).length (turnsOf C ops.toList 0) 0), base.nk + 4 * ops.size, base.nt⟩ a w → Q .normal a w) :
    ∀ (fuel : Nat) (L : Array Bool) (q : Nat) (ρ : Ren) (a : Act) (w : World), L.size = ops.size → unl ops.size L ≤ fuel → (∀ i, L.getD i false = true → ∀ j, (maskAt (masks ops.toList []) i).testBit j = true → L.getD j false = true) → StInv (turnsOf C ops.toList 0) L q → Le ρ0 ρ →
      RelT X base (dstsOf ops.toList 0) (masks ops.toList []) (turnsOf C ops.toList 0) ents ts ops.size L q ρ a w → wpAny P .any ops Q fuel L a w := by
  -- the end
  have fin : ∀ (L : Array Bool) (q : Nat) (ρ : Ren) (a : Act) (w : World), (∀ i, i < ops.size → L.getD i false = true) → StInv (turnsOf C ops.toList 0) L q → Le ρ0 ρ → RelT X base (dstsOf ops.toList 0) (masks ops.toList []) (turnsOf C ops.toList 0) ents ts ops.size L q ρ a w → Q .normal a w := fun L q ρ a w hall hst hle h => by
    have hql : q = (turnsOf C ops.toList 0).length := by
      rcases Nat.eq_or_lt_of_le hst.1 with hh | hlt
      · exact hh
      · exfalso
        have hq : (turnsOf C ops.toList 0)[q]? = some ((turnsOf C ops.toList 0).getD q 0) := by simp [List.getD, hlt]
        obtain ⟨_, o', ho', _⟩ := turnsOf_mem _ _ _ _ hq
        have hlt2 : (turnsOf C ops.toList 0).getD q 0 < ops.size := by
          have := (List.getElem?_eq_some_iff.1 ho').1
          simpa using this
        have := (hst.2 q _ hq).1 (hall _ hlt2)
        omega
    subst hql
    refine hQ ρ a w hle ⟨h.rel.sub fun k b hk => ?_, fun t v hv => ?_, h.defers, fun k hk => ?_, h.sz⟩
    · rcases tabAt_blk _ _ _ _ _ hk with ⟨j, e, hj, hb, hkb⟩ | hk
      · exact .inr ⟨j, e, hj, hall j (hmem j e hj), hb, hkb⟩
      · exact .inl hk
    · rcases putAll_get _ _ _ _ hv with ⟨j, e, hj, hd, rfl⟩ | ⟨hno, hv⟩
      · exact h.ent j e hj (hall j (hmem j e hj)) t hd
      · refine h.bas t v hv fun j hj => ?_
        exfalso
        obtain ⟨o, ho, hd⟩ := dsts_op hj
        have ho' : ops[j]? = some o := by simpa using ho
        obtain ⟨e, hie, _, hed, _⟩ := hsp j o ho'
        exact hno j e hie (hed.trans hd)
    · refine h.fresh k ?_ fun j hj _ _ hh => ?_
      · have hlo : lo (turnsOf C ops.toList 0) (turnsOf C ops.toList 0).length ≤ ops.size := by
          cases hq : (turnsOf C ops.toList 0).length with
          | zero => exact Nat.zero_le _
          | succ q =>
            have hq' : (turnsOf C ops.toList 0)[q]? = some ((turnsOf C ops.toList 0).getD q 0) := by simp [List.getD, show q < (turnsOf C ops.toList 0).length by omega]
            obtain ⟨_, o', ho', _⟩ := turnsOf_mem _ _ _ _ hq'
            have h3 : (turnsOf C ops.toList 0).getD q 0 < ops.size := by
              have := (List.getElem?_eq_some_iff.1 ho').1
              simpa using this
            exact h3
        have h1 : base.nk + 4 * ops.size ≤ k := hk
        omega
      · have h1 : base.nk + 4 * ops.size ≤ k := hk
        omega
  intro fuel
  induction fuel with
  | zero =>
    intro L q ρ a w hL hu hcl hst hle h
    have hall : ∀ i, i < ops.size → L.getD i false = true := fun i hi => by
      cases hq : L.getD i false with
      | true => rfl
      | false =>
        have := unl_set hL hi hq
        omega
    refine ⟨?_, fin L q ρ a w hall hst hle h⟩
    rw [List.eq_nil_iff_forall_not_mem]
    intro j hj
    obtain ⟨h1, o, ho, _⟩ := mem_ready.1 hj
    have hjn := (Array.getElem?_eq_some_iff.1 ho).1
    rw [getD_true_false (by omega), hall j hjn] at h1
    cases h1
  | succ fuel ih =>
    intro L q ρ a w hL hu hcl hst hle h
    refine ⟨fun hr => ?_, fun i hi => ?_⟩
    · refine fin L q ρ a w (fun i hi => ?_) hst hle h
      refine Classical.byContradiction fun hne => ?_
      have hf : L.getD i false = false := by cases hq : L.getD i false with | false => rfl | true => exact absurd hq hne
      have hleast : ∃ i, i < ops.size ∧ L.getD i false = false ∧ ∀ j, j < i → L.getD j false = true := by
        clear hne
        induction i using Nat.strongRecOn with
        | _ i ihi =>
          by_cases hj : ∃ j, j < i ∧ L.getD j false = false
          · obtain ⟨j, hji, hjf⟩ := hj
            exact ihi j hji (by omega) hjf
          · refine ⟨i, hi, hf, fun j hji => ?_⟩
            cases hq : L.getD j false with
            | true => rfl
            | false => exact absurd ⟨j, hji, hq⟩ hj
      obtain ⟨i0, hi0, hf0, hlt0⟩ := hleast
      have hready : i0 ∈ Region.ready .any ops L := by
        have hoi : ops[i0]? = some ops[i0] := by simp [hi0]
        refine mem_ready.2 ⟨by rw [getD_true_false (by omega)]; exact hf0, ops[i0], hoi, fun e he hb => ?_⟩
        have := acyc_spec _ 0 hac i0 ops[i0] (by simp [hi0]) e he hb
        exact hlt0 e.on (by omega)
      rw [hr] at hready; cases hready
    · obtain ⟨h1, o, ho, hdeps⟩ := mem_ready.1 hi
      have hin := (Array.getElem?_eq_some_iff.1 ho).1
      rw [getD_true_false (by omega)] at h1
      have hclos : ∀ j, (maskAt (masks ops.toList []) i).testBit j = true → L.getD j false = true := fun j hj => by
        obtain ⟨o2, ho2, e, he, hb, hcase⟩ := mask_bit _ hac i j hj
        have ho2' : ops[i]? = some o2 := by simpa using ho2
        rw [ho] at ho2'; cases ho2'
        have hel := hdeps e he hb
        rcases hcase with rfl | hcase
        · exact hel
        · exact hcl e.on hel j hcase
      refine step_T hC hac hch hts hmem huq hdst hhard L hL hcl hst ho (hsp i o ho) h1 hclos h fun ρ' a' w' q' hle' hst' h' => ?_
      have hiL : i < L.size := by omega
      refine ih _ q' ρ' a' w' (by simp [hL]) ?_ ?_ hst' (hle.trans hle') h'
      · have := unl_set hL hin h1; omega
      · intro j hj k hk
        by_cases hij : i = j
        · subst hij
          have := hclos k hk
          by_cases hik : i = k
          · subst hik; simp [hiL]
          · rw [getD_set_ne false hik]; exact this
        · rw [getD_set_ne false hij] at hj
          have := hcl j hj k hk
          by_cases hik : i = k
          · subst hik; simp [hiL]
          · rw [getD_set_ne false hik]; exact this
end

theorem anyT_run {P : Program} {C : List (Nat × Con)} (hC : LibOK P C) {X : Cx} {ops : Array Oper} {Q : Exit → Act → World → Prop} {s s' : RSt} {ρ : Ren} {a : Act} {w : World} (h : anyT P C ops s = some s') (hob : s'.ob = true) (hobs : All s'.obs)
    (hrel : RelA X ρ s.st a w) (hQ : ∀ ρ' a' w', Le ρ ρ' → RelA X ρ' s'.st a' w' → Q .normal a' w') : wpAny P .any ops Q ops.size (Array.replicate ops.size false) a w := by
  unfold anyT at h
  simp only at h
  split at h <;> try (cases h; done)
  rename_i p hp
  split at h <;> try (cases h; done)
  rename_i ob obs hck
  simp only [Option.some.injEq] at h; subst h
  obtain ⟨pob, pobs, hcs⟩ := chkR_spec _ _ _ hck hob hobs
  obtain ⟨m1, m2, m3, m4, m5, m6, m7, m8⟩ := preT_spec (H := turnsOf C ops.toList 0) _ _ _ _ [] hp pob pobs rfl rfl (fun j e hj => by simp at hj)
  simp only [bnd_true, Bool.and_eq_true] at m1
  obtain ⟨_, hac, hch⟩ := m1
  have hlen : ops.toList.length = ops.size := by simp
  have hmem : ∀ j e, (j, e) ∈ p.ents → j < ops.size := fun j e hj => by
    rcases m7 j e hj with hj | hj
    · simp at hj
    · omega
  have hsp : ∀ i o, ops[i]? = some o → SpecA P C s.st (dstsOf ops.toList 0) (masks ops.toList []) (turnsOf C ops.toList 0) ops.size p.ents p.ts i o := fun i o ho => by
    have := m8 i o (by simpa using ho)
    rw [Nat.zero_add, hlen] at this
    rw [hlen] at hcs
    exact specA_of this hcs
  have hget : ∀ j, j < ops.size → ∃ o, ops[j]? = some o := fun j hj => ⟨ops[j], by simp [hj]⟩
  have hdst : ∀ j e, (j, e) ∈ p.ents → ∀ o, ops[j]? = some o → e.dst = o.dst := fun j e hj o ho => by
    obtain ⟨e', hie, huni, hed, _⟩ := hsp j o ho
    rw [huni e hj]; exact hed
  have huq : ∀ j e, (j, e) ∈ p.ents → ∀ d, e.dst = some d → get (dstsOf ops.toList 0) d = some j := fun j e hj d hd => by
    obtain ⟨o, ho⟩ := hget j (hmem j e hj)
    obtain ⟨e', hie, huni, hed, _, hunq, _⟩ := hsp j o ho
    rw [huni e hj, hed] at hd
    rw [hd] at hunq
    simp only [uniq] at hunq
    split at hunq
    · rename_i q hq; rw [hq, Nat.eq_of_beq_eq_true hunq]
    · cases hunq
  have hhard : ∀ j e, (j, e) ∈ p.ents → hardB (masks ops.toList []) (turnsOf C ops.toList 0) j = true ∨ e.E = [] := fun j e hj => by
    obtain ⟨o, ho⟩ := hget j (hmem j e hj)
    obtain ⟨e', hie, huni, _, _, _, hcase⟩ := hsp j o ho
    rw [huni e hj]
    rcases hcase with ⟨_, _, _, ⟨_, hh, _⟩ | ⟨_, he⟩⟩ | ⟨_, _, _, _, _, hh, _⟩
    · exact hh
    · exact .inr (by rw [he])
    · exact .inl hh
  have hnl : ∀ j, (Array.replicate ops.size false).getD j false = false := fun j => by simp [Array.getD]
  refine main_T (X := X) (ρ0 := ρ) hC hac hch m6 hmem huq hdst hhard hsp (fun ρ' a' w' hle hA => hQ ρ' a' w' hle ?_) ops.size _ 0 ρ a w (by simp) ?_ ?_ ?_ (Le.refl _) ?_
  · rw [hlen]; exact hA
  · unfold unl
    exact Nat.le_trans (List.length_filter_le _ _) (by simp)
  · intro i hi
    rw [hnl] at hi; cases hi
  · refine ⟨Nat.zero_le _, fun q h _ => ?_⟩
    rw [hnl]; simp
  · obtain ⟨t, ht⟩ := m5
    have ht0 : p.ts.getD 0 [] = s.st.tab := by rw [ht]; rfl
    refine ⟨hrel.rel.sub fun k b hk => ?_, fun j e _ hl => ?_, fun t v hv _ => hrel.tmps t v hv, hrel.defers, hrel.sz, fun k hk _ => hrel.fresh k (by simpa [lo] using hk)⟩
    · rcases hk with hk | ⟨j, e, _, hl, _⟩
      · rw [ht0] at hk; exact hk
      · rw [hnl] at hl; cases hl
    · rw [hnl] at hl; cases hl

theorem anyT_mono {P : Program} {C : List (Nat × Con)} {ops : Array Oper} {s s' : RSt} (h : anyT P C ops s = some s') (h1 : s'.ob = true) (h2 : All s'.obs) : s.ob = true ∧ All s.obs := by
  unfold anyT at h
  simp only at h
  split at h <;> try (cases h; done)
  rename_i p hp
  split at h <;> try (cases h; done)
  rename_i ob obs hck
  simp only [Option.some.injEq] at h; subst h
  obtain ⟨pob, pobs, _⟩ := chkR_spec _ _ _ hck h1 h2
  obtain ⟨m1, m2, _⟩ := preT_spec (H := turnsOf C ops.toList 0) _ _ _ _ [] hp pob pobs rfl rfl (fun j e hj => by simp at hj)
  simp only [bnd_true, Bool.and_eq_true] at m1
  exact ⟨m1.1, m2⟩

/-- A region in any order: where all behind the first that turns something is forced, that goes in the order of the text. -/
def anyF (P : Program) (C : List (Nat × Con)) (ops : Array Oper) (s : RSt) : Option RSt :=
  match forcedFrom (masks ops.toList []) (headLen C ops.toList) (ops.toList.length - headLen C ops.toList) with
  | true => anyR P C ops s
  | false => anyT P C ops s
theorem anyF_run {P : Program} {C : List (Nat × Con)} (hC : LibOK P C) {X : Cx} {ops : Array Oper} {Q : Exit → Act → World → Prop} {s s' : RSt} {ρ : Ren} {a : Act} {w : World} (h : anyF P C ops s = some s') (hob : s'.ob = true) (hobs : All s'.obs)
    (hrel : RelA X ρ s.st a w) (hQ : ∀ ρ' a' w', Le ρ ρ' → RelA X ρ' s'.st a' w' → Q .normal a' w') : wpAny P .any ops Q ops.size (Array.replicate ops.size false) a w := by
  unfold anyF at h
  split at h
  · exact anyR_run hC h hob hobs hrel hQ
  · exact anyT_run hC h hob hobs hrel hQ

end Go.Proofs.Ytdjimjjemiaokaa.Sx
