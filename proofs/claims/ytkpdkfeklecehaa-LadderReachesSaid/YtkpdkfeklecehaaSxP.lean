/-
  A region that draws its order, where operations that turn something come one behind the other, and others may come before or behind them.
-/
import Derived.Test.YtkpdkfeklecehaaSxG
namespace Go.Proofs.Ytkpdkfeklecehaa.Sx
open Go.RowKit
set_option linter.unusedVariables false
set_option linter.unusedSimpArgs false

/-- Which operations may turn something. -/
def turnsOf (C : List (Nat × Con)) : List Oper → Nat → List Nat
  | [], _ => []
  | o :: r, i => match isTurn C o.op with
    | true => i :: turnsOf C r (i + 1)
    | false => turnsOf C r (i + 1)

theorem turnsOf_mem {C : List (Nat × Con)} : ∀ (l : List Oper) (i p h : Nat), (turnsOf C l i)[p]? = some h → i ≤ h ∧ ∃ o, l[h - i]? = some o ∧ isTurn C o.op = true
  | [], i, p, h, hp => by simp [turnsOf] at hp
  | o :: r, i, p, h, hp => by
    have go : ∀ p, (turnsOf C r (i + 1))[p]? = some h → i ≤ h ∧ ∃ o', (o :: r)[h - i]? = some o' ∧ isTurn C o'.op = true := fun p hp => by
      obtain ⟨h1, o', ho', ht⟩ := turnsOf_mem r (i + 1) p h hp
      refine ⟨by omega, o', ?_, ht⟩
      rw [show h - i = (h - (i + 1)) + 1 by omega, List.getElem?_cons_succ]; exact ho'
    unfold turnsOf at hp
    split at hp
    · rename_i ht
      cases p with
      | zero => simp at hp; subst hp; exact ⟨Nat.le_refl _, o, by simp, ht⟩
      | succ p => rw [List.getElem?_cons_succ] at hp; exact go p hp
    · exact go p hp

theorem turnsOf_sorted {C : List (Nat × Con)} : ∀ (l : List Oper) (i p p' h h' : Nat), (turnsOf C l i)[p]? = some h → (turnsOf C l i)[p']? = some h' → p < p' → h < h'
  | [], i, p, p', h, h', hp, _, _ => by simp [turnsOf] at hp
  | o :: r, i, p, p', h, h', hp, hp', hlt => by
    unfold turnsOf at hp hp'
    cases ht : isTurn C o.op with
    | false =>
      rw [ht] at hp hp'
      exact turnsOf_sorted r (i + 1) p p' h h' hp hp' hlt
    | true =>
      rw [ht] at hp hp'
      simp only at hp hp'
      cases p' with
      | zero => omega
      | succ p' =>
        rw [List.getElem?_cons_succ] at hp'
        cases p with
        | zero =>
          simp at hp; subst hp
          have := (turnsOf_mem r (i + 1) p' h' hp').1
          omega
        | succ p =>
          rw [List.getElem?_cons_succ] at hp
          exact turnsOf_sorted r (i + 1) p p' h h' hp hp' (by omega)

def chainB (M H : List Nat) : Bool := H.all fun h => H.all fun h' => !(Nat.blt h' h) || (maskAt M h).testBit h'
theorem chainB_spec {M H : List Nat} (hc : chainB M H = true) {p p' h h' : Nat} (hp : H[p]? = some h) (hp' : H[p']? = some h') (hlt : h' < h) : (maskAt M h).testBit h' = true := by
  unfold chainB at hc
  have := List.all_eq_true.1 (List.all_eq_true.1 hc h (List.mem_of_getElem? hp)) h' (List.mem_of_getElem? hp')
  have hb : Nat.blt h' h = true := by rw [Nat.blt_eq]; exact hlt
  simpa [hb] using this

/-- Whether an operation may come when so many have turned something. -/
def okStage (M : List Nat) (i s : Nat) : List Nat → Nat → Bool
  | [], _ => true
  | h :: r, p => (bif (maskAt M i).testBit h then Nat.blt p s else true) && ((bif (maskAt M h).testBit i then Nat.ble s p else true) && okStage M i s r (p + 1))
theorem okStage_iff {M : List Nat} {i s : Nat} : ∀ (H : List Nat) (p0 : Nat), okStage M i s H p0 = true ↔ ∀ p h, H[p]? = some h → ((maskAt M i).testBit h = true → p0 + p < s) ∧ ((maskAt M h).testBit i = true → s ≤ p0 + p)
  | [], p0 => by simp [okStage]
  | h :: r, p0 => by
    simp only [okStage, Bool.and_eq_true, okStage_iff r (p0 + 1)]
    constructor
    · rintro ⟨h1, h2, h3⟩ p h' hp
      cases p with
      | zero =>
        simp at hp; subst hp
        refine ⟨fun hb => ?_, fun hb => ?_⟩
        · rw [hb, cond_true, Nat.blt_eq] at h1; exact h1
        · rw [hb, cond_true, Nat.ble_eq] at h2; exact h2
      | succ p =>
        rw [List.getElem?_cons_succ] at hp
        have := h3 p h' hp
        exact ⟨fun hb => by have := this.1 hb; omega, fun hb => by have := this.2 hb; omega⟩
    · intro hh
      refine ⟨?_, ?_, fun p h' hp => ?_⟩
      · cases hb : (maskAt M i).testBit h with
        | false => rfl
        | true => have := (hh 0 h (by simp)).1 hb; rw [cond_true, Nat.blt_eq]; exact this
      · cases hb : (maskAt M h).testBit i with
        | false => rfl
        | true => have := (hh 0 h (by simp)).2 hb; rw [cond_true, Nat.ble_eq]; exact this
      · have := hh (p + 1) h' (by rw [List.getElem?_cons_succ]; exact hp)
        exact ⟨fun hb => by have := this.1 hb; omega, fun hb => by have := this.2 hb; omega⟩

def hardB (M H : List Nat) (i : Nat) : Bool := H.all fun h => Nat.beq h i || ((maskAt M i).testBit h || (maskAt M h).testBit i)
theorem hardB_spec {M H : List Nat} {i : Nat} (hh : hardB M H i = true) {p h : Nat} (hp : H[p]? = some h) : h = i ∨ (maskAt M i).testBit h = true ∨ (maskAt M h).testBit i = true := by
  have := List.all_eq_true.1 hh h (List.mem_of_getElem? hp)
  simp only [Bool.or_eq_true] at this
  exact this.imp Nat.eq_of_beq_eq_true id

def cntB (M : List Nat) (i : Nat) (H : List Nat) : Nat := (H.filter fun h => (maskAt M i).testBit h).length
def kbOf (nk N : Nat) (M H : List Nat) (u i : Nat) : Nat := bif hardB M H i || Nat.beq i u then nk + 4 * i else nk + 4 * N
def inT (M H : List Nat) (i s j : Nat) : Bool := (maskAt M i).testBit j && okStage M j s H 0

/-- Cells without keys and rows. -/
def SC.norow : SC → Bool | .row _ _ => false | _ => true
def SC.lone (x : SC) : Bool := x.plain && x.norow
/-- An operation that takes a block for itself. -/
def isAlo : Op → Bool | .alloc _ => true | _ => false
def aloE (k : Nat) (v : SV) (E : List (Nat × Blk)) : Bool := match v, E with
  | .c (.ptr k1 _), [(k2, b)] => Nat.beq k1 k && (Nat.beq k2 k && (b.own && (!b.tail && b.cells.all SC.lone)))
  | _, _ => false
def uOk (u i k : Nat) (v : SV) (E : List (Nat × Blk)) : Bool := bif Nat.beq i u then aloE k v E else false
theorem uOk_spec {u i k : Nat} {v : SV} {E : List (Nat × Blk)} (h : uOk u i k v E = true) : i = u ∧ aloE k v E = true := by
  unfold uOk at h
  cases hb : Nat.beq i u with
  | true => rw [hb, cond_true] at h; exact ⟨Nat.eq_of_beq_eq_true hb, h⟩
  | false => rw [hb] at h; cases h
theorem effOf_alo {P : Program} {C : List (Nat × Con)} {op : Op} (h : isAlo op = true) (ev : Operand → SV) (T T' : Tab) (kb : Nat) : effOf P C op ev T kb = effOf P C op ev T' kb := by
  cases op <;> first | (cases h; done) | rfl

structure Rec where
  i : Nat
  o : Oper
  se : List (Nat × Ent)
  q : Nat
  v : SV
  E : List (Nat × Blk)

structure PreT where
  ents : List (Nat × Ent)
  recs : List Rec
  ts : List Tab
  ob : Bool
  obs : List Prop
  orc : Orc

/-- The operations one by one, each as early as it may come. -/
def preT (P : Program) (C : List (Nat × Con)) (base : St) (dsts : List (Nat × Nat)) (M H : List Nat) (N u : Nat) : List Oper → Nat → PreT → Option PreT
  | [], _, s => some s
  | o :: rest, i, s => match guardS (valsAt s.ents M i) o.guard s.orc with
    | none => none
    | some (g, true, orc) => match effOf P C o.op (evAt base.tmps s.ents dsts M i) (tabAt (s.ts.getD (cntB M i H) []) s.ents (inT M H i (cntB M i H))) (kbOf base.nk N M H u i) with
      | some (.new r) => preT P C base dsts M H N u rest (i + 1) ⟨(i, ⟨o.dst, r.v, r.E⟩) :: s.ents, ⟨i, o, s.ents, cntB M i H, r.v, r.E⟩ :: s.recs, s.ts,
          bnd s.ob (g && (dstOk base.nt o.dst && (uniq dsts o.dst i && ((Nat.blt (cntB M i H) s.ts.length && (hardB M H i || (r.E.isEmpty || uOk u i (base.nk + 4 * i) r.v r.E))) && (keysOk (kbOf base.nk N M H u i) r.E && r.ob))))), r.obs ++ s.obs, orc⟩
      | some (.turn r) => preT P C base dsts M H N u rest (i + 1) ⟨(i, ⟨o.dst, r.v, []⟩) :: s.ents, s.recs, s.ts ++ [r.T],
          bnd s.ob (g && (dstOk base.nt o.dst && (uniq dsts o.dst i && ((Nat.beq s.ts.length (cntB M i H + 1) && hardB M H i) && r.ob)))), r.obs ++ s.obs, orc⟩
      | none => none
    | some (g, false, orc) => match isTurn C o.op with
      | true => preT P C base dsts M H N u rest (i + 1) ⟨(i, ⟨o.dst, .tup [], []⟩) :: s.ents, s.recs, s.ts ++ [tabAt (s.ts.getD (cntB M i H) []) s.ents (inT M H i (cntB M i H))],
          bnd s.ob (g && (dstOk base.nt o.dst && (uniq dsts o.dst i && (Nat.beq s.ts.length (cntB M i H + 1) && hardB M H i)))), s.obs, orc⟩
      | false => preT P C base dsts M H N u rest (i + 1) ⟨(i, ⟨o.dst, .tup [], []⟩) :: s.ents, s.recs, s.ts, bnd s.ob (g && (dstOk base.nt o.dst && uniq dsts o.dst i)), s.obs, orc⟩

/-- An operation at another stage than the earliest: it comes to the same. -/
def chkS (P : Program) (C : List (Nat × Con)) (base : St) (dsts : List (Nat × Nat)) (M H : List Nat) (N u : Nat) (ents : List (Nat × Ent)) (x : Rec) (s : Nat) (T : Tab) (acc : Bool × List Prop) : Option (Bool × List Prop) :=
  bif Nat.beq s x.q || !(okStage M x.i s H 0) then some acc else
  match pop P x.o.op (evAt base.tmps x.se dsts M x.i) with
  | some _ => some acc
  | none => match isAlo x.o.op with
    | true => some acc
    | false => match effOf P C x.o.op (evAt base.tmps x.se dsts M x.i) (tabAt T ents (inT M H x.i s)) (kbOf base.nk N M H u x.i) with
      | some (.new r) => some (bnd acc.1 (r.E.isEmpty && (x.E.isEmpty && r.ob)), (r.v = x.v) :: (r.obs ++ acc.2))
      | _ => none
def chkT (P : Program) (C : List (Nat × Con)) (base : St) (dsts : List (Nat × Nat)) (M H : List Nat) (N u : Nat) (ents : List (Nat × Ent)) (x : Rec) : List Tab → Nat → Bool × List Prop → Option (Bool × List Prop)
  | [], _, acc => some acc
  | T :: r, s, acc => match chkS P C base dsts M H N u ents x s T acc with
    | some acc' => chkT P C base dsts M H N u ents x r (s + 1) acc'
    | none => none
def chkR (P : Program) (C : List (Nat × Con)) (base : St) (dsts : List (Nat × Nat)) (M H : List Nat) (N u : Nat) (ents : List (Nat × Ent)) (ts : List Tab) : List Rec → Bool × List Prop → Option (Bool × List Prop)
  | [], acc => some acc
  | x :: r, acc => match chkT P C base dsts M H N u ents x ts 0 acc with
    | some acc' => chkR P C base dsts M H N u ents ts r acc'
    | none => none

/-- A region in any order. -/
def anyT (P : Program) (C : List (Nat × Con)) (ops : Array Oper) (s : RSt) : Option RSt :=
  let l := ops.toList
  let N := l.length
  let M := masks l []
  let H := turnsOf C l 0
  let dsts := dstsOf l 0
  match preT P C s.st dsts M H N N l 0 ⟨[], [], [s.st.tab], bnd s.ob (acyc l 0 && chainB M H), s.obs, s.orc⟩ with
  | none => none
  | some p => match chkR P C s.st dsts M H N N p.ents p.ts p.recs (p.ob, p.obs) with
    | none => none
    | some (ob, obs) => some ⟨⟨putAll s.st.tmps p.ents, tabAt (p.ts.getD H.length []) p.ents (fun j => okStage M j H.length H 0), s.st.nk + 4 * N, s.st.nt⟩, ob, obs, p.orc⟩

theorem mask_lt {l : List Oper} (hac : acyc l 0 = true) : ∀ (i j : Nat), (maskAt (masks l []) i).testBit j = true → j < i := by
  intro i
  induction i using Nat.strongRecOn with
  | _ i ih =>
    intro j hj
    obtain ⟨o, ho, e, he, hb, hc⟩ := mask_bit l hac i j hj
    have hlt : e.on < i := by simpa using acyc_spec l 0 hac i o ho e he hb
    rcases hc with rfl | hc
    · exact hlt
    · have := ih e.on hlt j hc; omega

/-- What is known of an operation that turns nothing. -/
def SpecN (P : Program) (C : List (Nat × Con)) (base : St) (dsts : List (Nat × Nat)) (M H : List Nat) (N u : Nat) (ents : List (Nat × Ent)) (ts : List Tab) (i : Nat) (o : Oper) (e : Ent) : Prop :=
  ∃ se : List (Nat × Ent), (∀ x ∈ se, x ∈ ents) ∧
    ((GuardIs (valsAt se M i) o.guard true ∧ (hardB M H i = true ∨ e.E = [] ∨ (i = u ∧ aloE (base.nk + 4 * i) e.v e.E = true)) ∧ ∀ s, s < ts.length → okStage M i s H 0 = true → ∃ se2 r, (∀ x ∈ se2, x ∈ ents) ∧
        effOf P C o.op (evAt base.tmps se dsts M i) (tabAt (ts.getD s []) se2 (inT M H i s)) (kbOf base.nk N M H u i) = some (.new r) ∧ r.ob = true ∧ All r.obs ∧ keysOk (kbOf base.nk N M H u i) r.E = true ∧ e = ⟨o.dst, r.v, r.E⟩) ∨
     (GuardIs (valsAt se M i) o.guard false ∧ e = ⟨o.dst, .tup [], []⟩))
/-- What is known of one that may turn something. -/
def SpecT (P : Program) (C : List (Nat × Con)) (base : St) (dsts : List (Nat × Nat)) (M H : List Nat) (N u : Nat) (ents : List (Nat × Ent)) (ts : List Tab) (i : Nat) (o : Oper) (e : Ent) : Prop :=
  ∃ (se : List (Nat × Ent)) (p : Nat), (∀ x ∈ se, x ∈ ents) ∧ H[p]? = some i ∧ hardB M H i = true ∧
    ((GuardIs (valsAt se M i) o.guard true ∧ ∃ r, effOf P C o.op (evAt base.tmps se dsts M i) (tabAt (ts.getD p []) se (inT M H i p)) (kbOf base.nk N M H u i) = some (.turn r) ∧ r.ob = true ∧ All r.obs ∧ ts.getD (p + 1) [] = r.T ∧ e = ⟨o.dst, r.v, []⟩) ∨
     (GuardIs (valsAt se M i) o.guard false ∧ ts.getD (p + 1) [] = tabAt (ts.getD p []) se (inT M H i p) ∧ e = ⟨o.dst, .tup [], []⟩))
def SpecA (P : Program) (C : List (Nat × Con)) (base : St) (dsts : List (Nat × Nat)) (M H : List Nat) (N u : Nat) (ents : List (Nat × Ent)) (ts : List Tab) (i : Nat) (o : Oper) : Prop :=
  ∃ e, (i, e) ∈ ents ∧ (∀ e', (i, e') ∈ ents → e' = e) ∧ e.dst = o.dst ∧ dstOk base.nt o.dst = true ∧ uniq dsts o.dst i = true ∧
    ((isTurn C o.op = false ∧ SpecN P C base dsts M H N u ents ts i o e) ∨ (isTurn C o.op = true ∧ SpecT P C base dsts M H N u ents ts i o e))

/-- The same, each at the earliest stage alone. -/
def Spec1 (P : Program) (C : List (Nat × Con)) (base : St) (dsts : List (Nat × Nat)) (M H : List Nat) (N u : Nat) (p : PreT) (i : Nat) (o : Oper) : Prop :=
  ∃ e, (i, e) ∈ p.ents ∧ (∀ e', (i, e') ∈ p.ents → e' = e) ∧ e.dst = o.dst ∧ dstOk base.nt o.dst = true ∧ uniq dsts o.dst i = true ∧
    ((isTurn C o.op = false ∧ ∃ se : List (Nat × Ent), (∀ x ∈ se, x ∈ p.ents) ∧
      ((GuardIs (valsAt se M i) o.guard true ∧ ∃ r, effOf P C o.op (evAt base.tmps se dsts M i) (tabAt (p.ts.getD (cntB M i H) []) se (inT M H i (cntB M i H))) (kbOf base.nk N M H u i) = some (.new r) ∧ r.ob = true ∧ All r.obs ∧ keysOk (kbOf base.nk N M H u i) r.E = true ∧
          (hardB M H i = true ∨ r.E = [] ∨ (i = u ∧ aloE (base.nk + 4 * i) r.v r.E = true)) ∧ (⟨i, o, se, cntB M i H, r.v, r.E⟩ : Rec) ∈ p.recs ∧ e = ⟨o.dst, r.v, r.E⟩) ∨
       (GuardIs (valsAt se M i) o.guard false ∧ e = ⟨o.dst, .tup [], []⟩))) ∨ (isTurn C o.op = true ∧ SpecT P C base dsts M H N u p.ents p.ts i o e))

theorem getD_prefix {α : Type} {l t : List α} {i : Nat} {d : α} (h : i < l.length) : (l ++ t).getD i d = l.getD i d := by
  simp [List.getD, List.getElem?_append_left h]

theorem effOf_turn {P : Program} {C : List (Nat × Con)} {op : Op} {ev : Operand → SV} {T : Tab} {kb : Nat} {r : Turned} (h : effOf P C op ev T kb = some (.turn r)) : isTurn C op = true := by
  unfold effOf at h
  split at h
  · assumption
  · split at h
    · cases h
    · split at h <;> cases h
theorem effOf_new {P : Program} {C : List (Nat × Con)} {op : Op} {ev : Operand → SV} {T : Tab} {kb : Nat} {r : Res} (h : effOf P C op ev T kb = some (.new r)) : isTurn C op = false := by
  unfold effOf at h
  split at h
  · split at h <;> cases h
  · assumption
theorem effOf_pop {P : Program} {C : List (Nat × Con)} {op : Op} {ev : Operand → SV} {y : Bool × SV} (h : pop P op ev = some y) (ht : isTurn C op = false) (T : Tab) (kb : Nat) : effOf P C op ev T kb = some (.new ⟨y.1, [], y.2, []⟩) := by
  unfold effOf
  rw [ht, h]

section
variable {P : Program} {C : List (Nat × Con)} {base : St} {dsts : List (Nat × Nat)} {M H : List Nat} {N u : Nat}

theorem preT_spec : ∀ (l : List Oper) (i : Nat) (s p : PreT) (H0 : List Nat), preT P C base dsts M H N u l i s = some p → p.ob = true → All p.obs → H = H0 ++ turnsOf C l i → s.ts.length = H0.length + 1 → (∀ j e, (j, e) ∈ s.ents → j < i) →
    s.ob = true ∧ All s.obs ∧ (∀ x ∈ s.ents, x ∈ p.ents) ∧ (∀ x ∈ s.recs, x ∈ p.recs) ∧ (∃ t, p.ts = s.ts ++ t) ∧ p.ts.length = H.length + 1 ∧ (∀ j e, (j, e) ∈ p.ents → (j, e) ∈ s.ents ∨ i ≤ j ∧ j < i + l.length) ∧
    ∀ k o, l[k]? = some o → Spec1 P C base dsts M H N u p (i + k) o
  | [], i, s, p, H0, h, h1, h2, hH, hts, hs => by
    simp only [preT, Option.some.injEq] at h; subst h
    refine ⟨h1, h2, fun _ h => h, fun _ h => h, ⟨[], by simp⟩, ?_, fun j e h => .inl h, fun k o hk => by simp at hk⟩
    rw [hts, hH]; simp [turnsOf]
  | o :: l, i, s, p, H0, h, h1, h2, hH, hts, hs => by
    have fin : ∀ {s' : PreT} {e : Ent} {H1 : List Nat}, preT P C base dsts M H N u l (i + 1) s' = some p → s'.ents = (i, e) :: s.ents → (∀ x ∈ s.recs, x ∈ s'.recs) → (∃ t, s'.ts = s.ts ++ t) → H = H1 ++ turnsOf C l (i + 1) → s'.ts.length = H1.length + 1 →
        (s'.ob = true → All s'.obs → s.ob = true ∧ All s.obs ∧ e.dst = o.dst ∧ dstOk base.nt o.dst = true ∧ uniq dsts o.dst i = true ∧
          ∀ p' : PreT, (∃ t, p'.ts = s'.ts ++ t) → (∀ x ∈ s'.recs, x ∈ p'.recs) → (∀ x ∈ s.ents, x ∈ p'.ents) →
            ((isTurn C o.op = false ∧ ∃ se : List (Nat × Ent), (∀ x ∈ se, x ∈ p'.ents) ∧
      ((GuardIs (valsAt se M i) o.guard true ∧ ∃ r, effOf P C o.op (evAt base.tmps se dsts M i) (tabAt (p'.ts.getD (cntB M i H) []) se (inT M H i (cntB M i H))) (kbOf base.nk N M H u i) = some (.new r) ∧ r.ob = true ∧ All r.obs ∧ keysOk (kbOf base.nk N M H u i) r.E = true ∧
          (hardB M H i = true ∨ r.E = [] ∨ (i = u ∧ aloE (base.nk + 4 * i) r.v r.E = true)) ∧ (⟨i, o, se, cntB M i H, r.v, r.E⟩ : Rec) ∈ p'.recs ∧ e = ⟨o.dst, r.v, r.E⟩) ∨
       (GuardIs (valsAt se M i) o.guard false ∧ e = ⟨o.dst, .tup [], []⟩))) ∨ (isTurn C o.op = true ∧ SpecT P C base dsts M H N u p'.ents p'.ts i o e))) →
        s.ob = true ∧ All s.obs ∧ (∀ x ∈ s.ents, x ∈ p.ents) ∧ (∀ x ∈ s.recs, x ∈ p.recs) ∧ (∃ t, p.ts = s.ts ++ t) ∧ p.ts.length = H.length + 1 ∧ (∀ j e, (j, e) ∈ p.ents → (j, e) ∈ s.ents ∨ i ≤ j ∧ j < i + (o :: l).length) ∧
        ∀ k o', (o :: l)[k]? = some o' → Spec1 P C base dsts M H N u p (i + k) o' := fun {s' e H1} h he hr hpre hH' hts' hx => by
      have hs' : ∀ j e', (j, e') ∈ s'.ents → j < i + 1 := fun j e' hj => by
        rw [he] at hj
        rcases List.mem_cons.1 hj with hj | hj
        · cases hj; omega
        · have := hs j e' hj; omega
      obtain ⟨g1, g2, g3, g4, g5, g6, g7, g8⟩ := preT_spec l (i + 1) s' p H1 h h1 h2 hH' hts' hs'
      obtain ⟨x1, x2, x3, x4, x5, x6⟩ := hx g1 g2
      have hse : ∀ x ∈ s.ents, x ∈ p.ents := fun x hx => g3 x (by rw [he]; exact List.mem_cons_of_mem _ hx)
      refine ⟨x1, x2, hse, fun x hx => g4 x (hr x hx), ?_, g6, fun j e' hj => ?_, fun k o' hk => ?_⟩
      · obtain ⟨t1, ht1⟩ := hpre
        obtain ⟨t2, ht2⟩ := g5
        exact ⟨t1 ++ t2, by rw [ht2, ht1, List.append_assoc]⟩
      · rcases g7 j e' hj with hj | hj
        · rw [he] at hj
          rcases List.mem_cons.1 hj with hj | hj
          · cases hj; exact .inr ⟨Nat.le_refl _, by simp⟩
          · exact .inl hj
        · exact .inr ⟨by omega, by simp; omega⟩
      · cases k with
        | succ k =>
          simp at hk
          have := g8 k o' hk
          rw [show i + (k + 1) = i + 1 + k by omega]; exact this
        | zero =>
          simp at hk; subst hk
          refine ⟨e, g3 _ (by rw [he]; simp), fun e' he' => ?_, x3, x4, x5, x6 p g5 g4 hse⟩
          rcases g7 _ _ he' with hj | hj
          · rw [he] at hj
            rcases List.mem_cons.1 hj with hj | hj
            · cases hj; rfl
            · have := hs _ _ hj; omega
          · omega
    unfold preT at h
    split at h <;> try (cases h; done)
    · rename_i g orc hg
      split at h <;> try (cases h; done)
      · rename_i r hr
        have hnt := effOf_new hr
        have hH' : H = H0 ++ turnsOf C l (i + 1) := by rw [hH]; simp only [turnsOf, hnt]
        refine fin h rfl (fun x hx => List.mem_cons_of_mem _ hx) ⟨[], by simp⟩ hH' hts fun ho hos => ?_
        simp only [bnd_true, Bool.and_eq_true, Bool.or_eq_true, Nat.blt_eq] at ho
        obtain ⟨ho, rfl, hd, hu, ⟨hq, hE⟩, hk, hro⟩ := ho
        obtain ⟨hos1, hos2⟩ := All_append.1 hos
        refine ⟨ho, hos2, rfl, hd, hu, fun p' hpt hpr hpe => .inl ⟨hnt, s.ents, hpe, .inl ⟨guardS_spec hg, r, ?_, hro, hos1, hk, hE.imp id (fun h => h.imp List.isEmpty_iff.1 uOk_spec), hpr _ (by simp), rfl⟩⟩⟩
        obtain ⟨t, ht⟩ := hpt
        rw [ht, getD_prefix hq]; exact hr
      · rename_i r hr
        have ht := effOf_turn hr
        have hH' : H = (H0 ++ [i]) ++ turnsOf C l (i + 1) := by rw [hH]; simp only [turnsOf, ht]; simp
        refine fin h rfl (fun x hx => hx) ⟨[r.T], rfl⟩ hH' (by simp [hts]) fun ho hos => ?_
        simp only [bnd_true, Bool.and_eq_true] at ho
        obtain ⟨ho, rfl, hd, hu, ⟨hq, hh⟩, hro⟩ := ho
        have hq := Nat.eq_of_beq_eq_true hq
        obtain ⟨hos1, hos2⟩ := All_append.1 hos
        refine ⟨ho, hos2, rfl, hd, hu, fun p' hpt hpr hpe => .inr ⟨ht, s.ents, cntB M i H, hpe, ?_, hh, .inl ⟨guardS_spec hg, r, ?_, hro, hos1, ?_, rfl⟩⟩⟩
        · have : cntB M i H = H0.length := by omega
          rw [this, hH']; simp
        · obtain ⟨t, ht⟩ := hpt
          rw [ht, getD_prefix (by simp; omega), getD_prefix (by omega)]; exact hr
        · obtain ⟨t, ht⟩ := hpt
          rw [ht, getD_prefix (by simp; omega), ← hq]; simp [List.getD]
    · rename_i g orc hg
      split at h
      · rename_i ht
        have hH' : H = (H0 ++ [i]) ++ turnsOf C l (i + 1) := by rw [hH]; simp only [turnsOf, ht]; simp
        refine fin h rfl (fun x hx => hx) ⟨[_], rfl⟩ hH' (by simp [hts]) fun ho hos => ?_
        simp only [bnd_true, Bool.and_eq_true] at ho
        obtain ⟨ho, rfl, hd, hu, hq, hh⟩ := ho
        have hq := Nat.eq_of_beq_eq_true hq
        refine ⟨ho, hos, rfl, hd, hu, fun p' hpt hpr hpe => .inr ⟨ht, s.ents, cntB M i H, hpe, ?_, hh, .inr ⟨guardS_spec hg, ?_, rfl⟩⟩⟩
        · have : cntB M i H = H0.length := by omega
          rw [this, hH']; simp
        · obtain ⟨t, ht⟩ := hpt
          rw [ht, getD_prefix (l := s.ts ++ _) (i := cntB M i H + 1) (by simp; omega), getD_prefix (l := s.ts ++ _) (i := cntB M i H) (by simp; omega), getD_prefix (i := cntB M i H) (by omega), ← hq]; simp [List.getD]
      · rename_i hnt
        have hH' : H = H0 ++ turnsOf C l (i + 1) := by rw [hH]; simp only [turnsOf, hnt]
        refine fin h rfl (fun x hx => hx) ⟨[], by simp⟩ hH' hts fun ho hos => ?_
        simp only [bnd_true, Bool.and_eq_true] at ho
        obtain ⟨ho, rfl, hd, hu⟩ := ho
        exact ⟨ho, hos, rfl, hd, hu, fun p' hpt hpr hpe => .inl ⟨hnt, s.ents, hpe, .inr ⟨guardS_spec hg, rfl⟩⟩⟩

/-- What the second look shows. -/
def CS (P : Program) (C : List (Nat × Con)) (base : St) (dsts : List (Nat × Nat)) (M H : List Nat) (N u : Nat) (ents : List (Nat × Ent)) (x : Rec) (s : Nat) (T : Tab) : Prop :=
  s = x.q ∨ okStage M x.i s H 0 = false ∨ (∃ y, pop P x.o.op (evAt base.tmps x.se dsts M x.i) = some y) ∨ isAlo x.o.op = true ∨
    ∃ r, effOf P C x.o.op (evAt base.tmps x.se dsts M x.i) (tabAt T ents (inT M H x.i s)) (kbOf base.nk N M H u x.i) = some (.new r) ∧ r.E = [] ∧ x.E = [] ∧ r.ob = true ∧ All r.obs ∧ r.v = x.v

theorem chkS_spec {ents : List (Nat × Ent)} {x : Rec} {s : Nat} {T : Tab} {acc acc' : Bool × List Prop} (h : chkS P C base dsts M H N u ents x s T acc = some acc') (h1 : acc'.1 = true) (h2 : All acc'.2) : acc.1 = true ∧ All acc.2 ∧ CS P C base dsts M H N u ents x s T := by
  unfold chkS at h
  cases hb : (Nat.beq s x.q || !(okStage M x.i s H 0)) with
  | true =>
    rw [hb, cond_true, Option.some.injEq] at h; subst h
    simp only [Bool.or_eq_true, Bool.not_eq_true'] at hb
    exact ⟨h1, h2, hb.elim (fun h => .inl (Nat.eq_of_beq_eq_true h)) fun h => .inr (.inl h)⟩
  | false =>
    rw [hb, cond_false] at h
    split at h
    · rename_i y hy
      simp only [Option.some.injEq] at h; subst h
      exact ⟨h1, h2, .inr (.inr (.inl ⟨_, hy⟩))⟩
    · split at h
      · rename_i ha
        simp only [Option.some.injEq] at h; subst h
        exact ⟨h1, h2, .inr (.inr (.inr (.inl ha)))⟩
      split at h <;> try (cases h; done)
      rename_i r hr
      simp only [Option.some.injEq] at h; subst h
      simp only [bnd_true, Bool.and_eq_true, List.isEmpty_iff] at h1
      obtain ⟨h1, h3, h4, h5⟩ := h1
      obtain ⟨h6, h7⟩ := h2
      obtain ⟨h7, h8⟩ := All_append.1 h7
      exact ⟨h1, h8, .inr (.inr (.inr (.inr ⟨r, hr, h3, h4, h5, h7, h6⟩)))⟩

theorem chkT_spec {ents : List (Nat × Ent)} {x : Rec} : ∀ (Ts : List Tab) (s : Nat) (acc acc' : Bool × List Prop), chkT P C base dsts M H N u ents x Ts s acc = some acc' → acc'.1 = true → All acc'.2 → acc.1 = true ∧ All acc.2 ∧ ∀ k T, Ts[k]? = some T → CS P C base dsts M H N u ents x (s + k) T
  | [], s, acc, acc', h, h1, h2 => by
    simp only [chkT, Option.some.injEq] at h; subst h
    exact ⟨h1, h2, fun k T hk => by simp at hk⟩
  | T :: r, s, acc, acc', h, h1, h2 => by
    unfold chkT at h
    split at h <;> try (cases h; done)
    rename_i a ha
    obtain ⟨g1, g2, g3⟩ := chkT_spec r (s + 1) a acc' h h1 h2
    obtain ⟨f1, f2, f3⟩ := chkS_spec ha g1 g2
    refine ⟨f1, f2, fun k T' hk => ?_⟩
    cases k with
    | zero => simp at hk; subst hk; exact f3
    | succ k =>
      rw [List.getElem?_cons_succ] at hk
      rw [show s + (k + 1) = s + 1 + k by omega]
      exact g3 k T' hk

theorem chkR_spec {ents : List (Nat × Ent)} {ts : List Tab} : ∀ (l : List Rec) (acc acc' : Bool × List Prop), chkR P C base dsts M H N u ents ts l acc = some acc' → acc'.1 = true → All acc'.2 → acc.1 = true ∧ All acc.2 ∧ ∀ x ∈ l, ∀ s T, ts[s]? = some T → CS P C base dsts M H N u ents x s T
  | [], acc, acc', h, h1, h2 => by
    simp only [chkR, Option.some.injEq] at h; subst h
    exact ⟨h1, h2, fun x hx => by simp at hx⟩
  | x :: r, acc, acc', h, h1, h2 => by
    unfold chkR at h
    split at h <;> try (cases h; done)
    rename_i a ha
    obtain ⟨g1, g2, g3⟩ := chkR_spec r a acc' h h1 h2
    obtain ⟨f1, f2, f3⟩ := chkT_spec _ _ _ _ ha g1 g2
    refine ⟨f1, f2, fun y hy s T hs => ?_⟩
    rcases List.mem_cons.1 hy with rfl | hy
    · have := f3 s T hs
      rwa [Nat.zero_add] at this
    · exact g3 y hy s T hs

theorem specA_of {p : PreT} {i : Nat} {o : Oper} (h : Spec1 P C base dsts M H N u p i o) (hc : ∀ x ∈ p.recs, ∀ s T, p.ts[s]? = some T → CS P C base dsts M H N u p.ents x s T) : SpecA P C base dsts M H N u p.ents p.ts i o := by
  obtain ⟨e, h1, h2, h3, h4, h5, h6⟩ := h
  refine ⟨e, h1, h2, h3, h4, h5, ?_⟩
  rcases h6 with ⟨hnt, se, hse, h6⟩ | h6
  · refine .inl ⟨hnt, se, hse, ?_⟩
    rcases h6 with ⟨hg, r, hr, hro, hros, hk, hE, hrec, he⟩ | h6
    · refine .inl ⟨hg, by rw [he]; exact hE, fun s hs hok => ?_⟩
      have hgs : p.ts[s]? = some (p.ts.getD s []) := by simp [List.getD, hs]
      rcases hc _ hrec s _ hgs with hq | hq | ⟨y, hy⟩ | ha | ⟨r', hr', hE', hE0, hob', hobs', hv'⟩
      · simp only at hq; subst hq
        exact ⟨se, r, hse, hr, hro, hros, hk, he⟩
      · simp only at hq; rw [hok] at hq; cases hq
      · simp only at hy
        rw [effOf_pop hy hnt] at hr
        simp only [Option.some.injEq, Eff.new.injEq] at hr
        subst hr
        exact ⟨se, _, hse, effOf_pop hy hnt _ _, hro, hros, hk, he⟩
      · exact ⟨se, r, hse, (effOf_alo ha _ _ _ _).trans hr, hro, hros, hk, he⟩
      · simp only at hr' hv' hE0
        refine ⟨p.ents, r', fun _ h => h, hr', hob', hobs', by rw [hE']; rfl, ?_⟩
        rw [he, hv', hE', hE0]
    · exact .inr h6
  · exact .inr h6
end

def lo (H : List Nat) : Nat → Nat
  | 0 => 0
  | q + 1 => H.getD q 0 + 1

/-- How many of those that turn something have been done. -/
def StInv (H : List Nat) (L : Array Bool) (q : Nat) : Prop := q ≤ H.length ∧ ∀ p h, H[p]? = some h → (L.getD h false = true ↔ p < q)

/-- The blocks that stand at a stage. -/
abbrev MT (M H : List Nat) (ents : List (Nat × Ent)) (ts : List Tab) (L : Array Bool) (q : Nat) : Nat → Blk → Prop := fun k b => (ts.getD q []).blk k = some b ∨ ∃ j e, (j, e) ∈ ents ∧ L.getD j false = true ∧ okStage M j q H 0 = true ∧ (k, b) ∈ e.E
/-- A place at which nothing of a table stands. -/
structure Apart (X : Cx) (ρ : Ren) (M : Nat → Blk → Prop) (w : World) (z : Nat) : Prop where
  lt : z < w.heap.size
  ge : X.B ≤ z
  sep : ∀ k b l, M k b → ρ k = some (some l) → l.blk ≠ z
  lit : ∀ k l, ρ k = some (some l) → l.lit = true → l.blk ≠ z
theorem Apart.sub {X : Cx} {ρ : Ren} {M M' : Nat → Blk → Prop} {w : World} {z : Nat} (h : Apart X ρ M w z) (hs : ∀ k b, M' k b → M k b) : Apart X ρ M' w z :=
  ⟨h.lt, h.ge, fun k b l hk => h.sep k b l (hs k b hk), h.lit⟩
theorem Apart.new {X : Cx} {ρ ρ' : Ren} {M : Nat → Blk → Prop} {E : List (Nat × Blk)} {w w' : World} {z : Nat} (h : Apart X ρ M w z) (hrel : RelP X ρ M w) (hn : New ρ ρ' E w w') : w'.heap[z]? = w.heap[z]? ∧ Apart X ρ' (fun k b => (k, b) ∈ E ∨ M k b) w' z := by
  refine ⟨?_, Nat.lt_of_lt_of_le h.lt hn.size, h.ge, fun k b l hk hl => ?_, fun k l hl hlit => ?_⟩
  · rcases hn.block z h.lt with h1 | ⟨⟨k, l, hk, hl, he⟩, _⟩
    · exact h1
    · exact absurd he (h.lit k l hk hl)
  · rcases hk with hk | hk
    · obtain ⟨x, hx, _, hs⟩ := hn.blk k b hk
      rw [hl] at hx; cases hx
      have := hs l rfl
      have := h.lt
      omega
    · obtain ⟨x, hx, _⟩ := hrel.blk k b hk
      have hx' := hn.le _ _ hx
      rw [hl] at hx'; cases hx'
      exact h.sep k b l hk hx
  · by_cases hkE : ∃ b, (k, b) ∈ E
    · obtain ⟨b, hb⟩ := hkE
      obtain ⟨x, hx, _, hs⟩ := hn.blk k b hb
      rw [hl] at hx; cases hx
      have := hs l rfl
      have := h.lt
      omega
    · exact h.lit k l (by rw [← hn.only k (fun b hb => hkE ⟨b, hb⟩)]; exact hl) hlit
/-- No literals, no rows in them. -/
def Blk.mine (b : Blk) : Bool := (b.own || b.tail) && b.cells.all SC.norow
/-- What is looked at alone stood there before. -/
def Tab.from (T T' : Tab) : Bool := T'.all fun x => match x.2 with | some b => b.own || (match T.blk x.1 with | some _ => true | none => false) | none => true
def Tab.mine (T : Tab) : Bool := T.all fun x => match x.2 with | some b => b.mine | none => true
def SV.norow : SV → Bool
  | .c x => x.norow
  | .agg cs => cs.all SC.norow
  | .tup vs => vs.all fun | .inl x => x.norow | .inr cs => cs.all SC.norow
  | .und => true
def Mine (C : List (Nat × Con)) (ops : Array Oper) (ents : List (Nat × Ent)) (ts : List Tab) : Prop :=
  (∀ s, (ts.getD s []).mine = true ∧ (ts.getD s []).from (ts.getD (s + 1) []) = true) ∧ (∀ j e, (j, e) ∈ ents → ∀ x ∈ e.E, x.2.mine = true) ∧ ∀ (p h : Nat), (turnsOf C ops.toList 0)[p]? = some h → ∀ e, (h, e) ∈ ents → e.v.norow = true

/-- The state while some of a region's operations have been done, so many of them such as turn something. -/
structure RelT (X : Cx) (base : St) (dsts : List (Nat × Nat)) (M H : List Nat) (ents : List (Nat × Ent)) (ts : List Tab) (N u : Nat) (L : Array Bool) (q : Nat) (ρ : Ren) (a : Act) (w : World) : Prop where
  rel : RelP X ρ (MT M H ents ts L q) w
  ent : ∀ j e, (j, e) ∈ ents → L.getD j false = true → ∀ d, e.dst = some d → ∃ u, a.tmps[d]? = some u ∧ e.v.R ρ u
  bas : ∀ t v, get base.tmps t = some v → (∀ j, get dsts t = some j → L.getD j false = false) → ∃ u, a.tmps[t]? = some u ∧ v.R ρ u
  defers : a.defers = []
  sz : a.tmps.size = base.nt
  fresh : ∀ k, base.nk + 4 * lo H q ≤ k → (∀ j, j < N → hardB M H j = true ∨ j = u → L.getD j false = true → ¬ (base.nk + 4 * j ≤ k ∧ k < base.nk + 4 * j + 4)) → ρ k = none

section
variable {P : Program} {C : List (Nat × Con)} {X : Cx} {ops : Array Oper} {base : St} {ents : List (Nat × Ent)} {ts : List Tab}

theorem dsts_op {l : List Oper} {t j : Nat} (h : get (dstsOf l 0) t = some j) : ∃ o, l[j]? = some o ∧ o.dst = some t := by
  obtain ⟨_, o, ho, hd⟩ := dstsOf_get _ _ _ _ h
  exact ⟨o, by simpa using ho, hd⟩

theorem ev_T {L : Array Bool} {i : Nat} {M : List Nat} {se : List (Nat × Ent)} {ρ : Ren} {a : Act} (hdst : ∀ j e, (j, e) ∈ ents → ∀ o, ops[j]? = some o → e.dst = o.dst) (hcl : ∀ i, L.getD i false = true → ∀ j, (maskAt M i).testBit j = true → L.getD j false = true)
    (hun : L.getD i false = false) (hdep : ∀ j, (maskAt M i).testBit j = true → L.getD j false = true) (hsub : ∀ x ∈ se, x ∈ ents)
    (hent : ∀ j e, (j, e) ∈ ents → L.getD j false = true → ∀ d, e.dst = some d → ∃ u, a.tmps[d]? = some u ∧ e.v.R ρ u)
    (hbas : ∀ t v, get base.tmps t = some v → (∀ j, get (dstsOf ops.toList 0) t = some j → L.getD j false = false) → ∃ u, a.tmps[t]? = some u ∧ v.R ρ u) (x : Operand) : (evAt base.tmps se (dstsOf ops.toList 0) M i x).R ρ (a.eval x) := by
  have hbase : ∀ t, (∀ j, get (dstsOf ops.toList 0) t = some j → L.getD j false = false) → (sev base.tmps (.tmp t)).R ρ (a.eval (.tmp t)) := fun t ht => by
    simp only [sev]
    split
    · rename_i v hv
      obtain ⟨u, hu, hr⟩ := hbas t v hv ht
      simpa [Act.eval, hu] using hr
    · exact trivial
  cases x with
  | tmp t =>
    simp only [evAt]
    split
    · rename_i j hj
      obtain ⟨oj, hoj, hdj⟩ := dsts_op hj
      have hoj' : ops[j]? = some oj := by simpa using hoj
      cases hb : (maskAt M i).testBit j with
      | true =>
        simp only [cond_true]
        split
        · rename_i ej hej
          have hm := hsub _ (get_of_mem hej)
          obtain ⟨u, hu, hr⟩ := hent j ej hm (hdep j hb) t (by rw [hdst j ej hm oj hoj']; exact hdj)
          simpa [Act.eval, hu] using hr
        · exact trivial
      | false =>
        simp only [cond_false]
        cases hb2 : (maskAt M j).testBit i with
        | true =>
          simp only [cond_true]
          refine hbase t fun j' hj' => ?_
          rw [hj] at hj'; cases hj'
          cases hq : L.getD j false with
          | false => rfl
          | true => have := hcl j hq i hb2; rw [this] at hun; cases hun
        | false => exact trivial
    · rename_i hnone
      exact hbase t fun j hj => by rw [hnone] at hj; cases hj
  | const v => exact ofVal_R v
  | func f => exact ⟨[], rfl, .nil⟩
  | global g => exact trivial

theorem guard_T {L : Array Bool} {i : Nat} {o : Oper} {M : List Nat} {se : List (Nat × Ent)} {ρ : Ren} {a : Act} (hmem : ∀ j e, (j, e) ∈ ents → j < ops.size) (hdst : ∀ j e, (j, e) ∈ ents → ∀ o, ops[j]? = some o → e.dst = o.dst)
    (hdep : ∀ j, (maskAt M i).testBit j = true → L.getD j false = true) (hsub : ∀ x ∈ se, x ∈ ents)
    (hent : ∀ j e, (j, e) ∈ ents → L.getD j false = true → ∀ d, e.dst = some d → ∃ u, a.tmps[d]? = some u ∧ e.v.R ρ u) (b : Bool) (hg : GuardIs (valsAt se M i) o.guard b) : Region.wanted o (yielded ops a.tmps) = b := by
  refine wanted_of (fun j c want hgo hc => ?_) (fun j want hgo hc => ?_) hg
  · unfold valsAt at hc
    cases hb : (maskAt M i).testBit j with
    | false => rw [hb] at hc; cases hc
    | true =>
      rw [hb, cond_true] at hc
      split at hc <;> try (cases hc; done)
      rename_i ej hej
      split at hc <;> try (cases hc; done)
      rename_i d hd
      have hm := hsub _ (get_of_mem hej)
      obtain ⟨u, hu, hr⟩ := hent j ej hm (hdep j hb) d hd
      rw [hc] at hr
      have hr' : u = .bool c := hr
      subst hr'
      have hjN := hmem j ej hm
      have hoj : ops[j]? = some ops[j] := by simp [hjN]
      have hdj := hdst j ej hm _ hoj
      rw [hd] at hdj
      simp [yielded, hoj, ← hdj, hu]
  · unfold valsAt at hc
    cases hb : (maskAt M i).testBit j with
    | false => rw [hb] at hc; cases hc
    | true =>
      rw [hb, cond_true] at hc
      split at hc <;> try (cases hc; done)
      rename_i ej hej
      split at hc <;> try (cases hc; done)
      rename_i d hd
      have hm := hsub _ (get_of_mem hej)
      obtain ⟨u, hu, hr⟩ := hent j ej hm (hdep j hb) d hd
      rw [hc] at hr
      obtain rfl := off_eq hr
      have hjN := hmem j ej hm
      have hoj : ops[j]? = some ops[j] := by simp [hjN]
      have hdj := hdst j ej hm _ hoj
      rw [hd] at hdj
      simp [yielded, hoj, ← hdj, hu, undef]

/-! What a turning operation leaves alone. -/
theorem mine_blk {T : Tab} (h : T.mine = true) {k : Nat} {b : Blk} (hb : T.blk k = some b) : (b.own = true ∨ b.tail = true) ∧ b.cells.all SC.norow = true := by
  unfold Tab.blk at hb
  split at hb <;> try (cases hb; done)
  rename_i b' hg
  simp only [Option.some.injEq] at hb; subst hb
  have := List.all_eq_true.1 h _ (get_mem hg)
  simpa [Blk.mine] using this
theorem from_blk {T T' : Tab} (h : T.from T' = true) {k : Nat} {b : Blk} (hb : T'.blk k = some b) : b.own = true ∨ ∃ b', T.blk k = some b' := by
  unfold Tab.blk at hb
  split at hb <;> try (cases hb; done)
  rename_i b' hg
  simp only [Option.some.injEq] at hb; subst hb
  have := List.all_eq_true.1 h _ (get_mem hg)
  simp only [Bool.or_eq_true] at this
  refine this.imp id fun h => ?_
  split at h
  · rename_i b2 h2; exact ⟨b2, h2⟩
  · cases h
/-- A place without its mark. -/
def Loc.bare (l : Loc) : Loc := ⟨l.blk, l.tot, false, l.o0⟩
def Ren.bare (ρ : Ren) : Ren := ⟨fun k => (ρ k).map fun x => x.map Loc.bare, ρ.row⟩
theorem bare_some {ρ : Ren} {k : Nat} {m : Loc} (h : ρ.bare k = some (some m)) : ∃ l, ρ k = some (some l) ∧ m = l.bare := by
  simp only [Ren.bare, Option.map_eq_some_iff] at h
  obtain ⟨x, hx, l, rfl, h⟩ := h
  exact ⟨l, hx, h.symm⟩
theorem bare_of {ρ : Ren} {k : Nat} {l : Loc} (h : ρ k = some (some l)) : ρ.bare k = some (some l.bare) := by simp [Ren.bare, h]
theorem bare_nil {ρ : Ren} {k : Nat} (h : ρ k = some none) : ρ.bare k = some none := by simp [Ren.bare, h]
theorem bare_none {ρ : Ren} {k : Nat} : ρ.bare k = none ↔ ρ k = none := by simp [Ren.bare]
/-- Keys stand for the same places but for marks. -/
def Near (ρ ρ' : Ren) : Prop := (∀ k l, ρ k = some (some l) → ∃ m, ρ' k = some (some m) ∧ m.bare = l.bare) ∧ (∀ k, ρ k = some none → ρ' k = some none)
theorem PtrR.near {ρ ρ' : Ren} (h : Near ρ ρ') {p : Nat × Nat} {v : Value} (hp : PtrR ρ p v) : PtrR ρ' p v := by
  obtain ⟨l, hl, rfl⟩ := hp
  obtain ⟨m, hm, he⟩ := h.1 _ _ hl
  cases l; cases m; simp only [Loc.bare, Loc.mk.injEq] at he
  obtain ⟨rfl, rfl, _, rfl⟩ := he
  exact ⟨_, hm, rfl⟩
theorem SC.R.near {ρ ρ' : Ren} (h : Near ρ ρ') {x : SC} {v : Value} (hr : (∀ v bs, ρ.row v bs → ρ'.row v bs) ∨ x.norow = true) (hx : x.R ρ v) : x.R ρ' v := by
  cases x <;> first | exact hx | exact PtrR.near h hx | skip
  case slc k off esz len cap =>
    rcases hx with ⟨h1, h2⟩ | ⟨l, o, c, hl, h2, h3, h4, h5⟩
    · exact .inl ⟨h.2 _ h1, h2⟩
    · obtain ⟨m, hm, he⟩ := h.1 _ _ hl
      cases l; cases m; simp only [Loc.bare, Loc.mk.injEq] at he
      obtain ⟨rfl, rfl, _, rfl⟩ := he
      exact .inr ⟨_, o, c, hm, h2, h3, h4, h5⟩
  case fn f caps => obtain ⟨vs, hv, hc⟩ := hx; exact ⟨vs, hv, forall₂_imp (fun _ _ => PtrR.near h) hc⟩
  case row bs y => 
    rcases hr with hr | hr
    · exact ⟨hx.1, hr _ _ hx.2.1, hx.2.2⟩
    · cases hr
theorem cells_near {ρ ρ' : Ren} (h : Near ρ ρ') : ∀ {cs : List SC} {vs : List Value}, ((∀ v bs, ρ.row v bs → ρ'.row v bs) ∨ cs.all SC.norow = true) → All2 (SC.R ρ) cs vs → All2 (SC.R ρ') cs vs
  | _, _, _, .nil => .nil
  | _, _, hr, .cons hx hc => .cons (SC.R.near h (hr.imp id fun h => by simp only [List.all_cons, Bool.and_eq_true] at h; exact h.1) hx) (cells_near h (hr.imp id fun h => by simp only [List.all_cons, Bool.and_eq_true] at h; exact h.2) hc)
theorem SV.R.near {ρ ρ' : Ren} (h : Near ρ ρ') {x : SV} {v : Value} (hr : (∀ v bs, ρ.row v bs → ρ'.row v bs) ∨ x.norow = true) (hx : x.R ρ v) : x.R ρ' v := by
  cases x with
  | c x => exact SC.R.near h hr hx
  | agg cs => obtain ⟨vs, hv, hc⟩ := hx; exact ⟨vs, hv, cells_near h hr hc⟩
  | tup ts =>
    obtain ⟨vs, hv, hc⟩ := hx
    refine ⟨vs, hv, ?_⟩
    have go : ∀ {ts : List (SC ⊕ List SC)} {vs : List Value}, ((∀ v bs, ρ.row v bs → ρ'.row v bs) ∨ (SV.tup ts).norow = true) → All2 (PartR ρ) ts vs → All2 (PartR ρ') ts vs := by
      intro ts vs hr hc
      induction hc with
      | nil => exact .nil
      | cons hx hc ih =>
        rename_i t u ts us
        refine .cons ?_ (ih (hr.imp id fun h => by simp only [SV.norow, List.all_cons, Bool.and_eq_true] at h ⊢; exact h.2))
        have hr1 := hr.imp id fun h => (by simp only [SV.norow, List.all_cons, Bool.and_eq_true] at h; exact h.1 : (match t with | .inl x => x.norow | .inr cs => cs.all SC.norow) = true)
        cases t with
        | inl x => exact SC.R.near h hr1 hx
        | inr cs => obtain ⟨vs, hv, hc⟩ := hx; exact ⟨vs, hv, cells_near h hr1 hc⟩
    exact go hr hc
  | und => exact trivial
theorem Blk.R.near {ρ ρ' : Ren} {w : World} {b : Blk} {l m : Loc} (h : Near ρ ρ') (hr : (∀ v bs, ρ.row v bs → ρ'.row v bs) ∨ b.cells.all SC.norow = true) (ho : b.own = true ∨ b.tail = true) (he : m.bare = l.bare) (hb : b.R ρ w (some l)) : b.R ρ' w (some m) := by
  cases l; cases m; simp only [Loc.bare, Loc.mk.injEq] at he
  obtain ⟨rfl, rfl, _, rfl⟩ := he
  obtain ⟨pre, vs, rest, fr, h1, h2, h3, h4, h5, h6, h7⟩ := hb
  exact ⟨pre, vs, rest, fr, h1, cells_near h hr h2, h3, h4, h5, h6, fun h1 h2 => by rcases ho with ho | ho; (rw [ho] at h1; cases h1); (rw [ho] at h2; cases h2)⟩
theorem near_bare (ρ : Ren) : Near ρ ρ.bare := ⟨fun k l h => ⟨_, bare_of h, rfl⟩, fun k h => bare_nil h⟩

open Classical in
/-- The places of a table's blocks. -/
noncomputable def placesOf (ρ : Ren) (T : Tab) (n : Nat) : List Nat := (List.range n).filter fun z => decide (∃ k b l, T.blk k = some b ∧ b.own = true ∧ ρ k = some (some l) ∧ l.blk = z)
theorem placesOf_mem {ρ : Ren} {T : Tab} {n z : Nat} : z ∈ placesOf ρ T n ↔ z < n ∧ ∃ k b l, T.blk k = some b ∧ b.own = true ∧ ρ k = some (some l) ∧ l.blk = z := by
  simp [placesOf]

theorem BytesOld.now {X : Cx} {ρ : Ren} {M : Nat → Blk → Prop} {w : World} (h : RelP X ρ M w) {v : Value} {bs : List UInt8} (hb : BytesOld X v bs) (B : Nat) (mb : List Nat) (nf : Nat) (hB : X.B ≤ B) (hmb : ∀ z, z ∈ mb → X.B ≤ z ∨ z ∈ X.mb) : BytesOld ⟨w, B, mb, nf⟩ v bs := by
  obtain ⟨off, b, x, h1, h2, h3, h4, h5⟩ := hb
  refine ⟨off, b, x, h1, fun ρ' => ?_, h3, h4, fun l hl => ⟨Nat.lt_of_lt_of_le (h5 l hl).1 hB, fun hm => ?_⟩⟩
  · exact (h2 ρ').keep (Le.refl _) fun l hl => h.old _ (h5 l hl).1 (h5 l hl).2
  · rcases hmb _ hm with h6 | h6
    · have := (h5 l hl).1; omega
    · exact (h5 l hl).2 h6

theorem eff_frame {P : Program} {C : List (Nat × Con)} (hC : LibOK P C) {ρ : Ren} {ev : Operand → SV} {val : Operand → Value} {X : Cx} {T : Tab} {w : World} {kb : Nat} {o : Oper} (hv : ∀ x, (ev x).R ρ (val x)) (hrel : Rel X ρ T w) (hf : freshA ρ kb) {r : Turned}
    (h : effOf P C o.op ev T kb = some (.turn r)) (hob : r.ob = true) (hobs : All r.obs) (hT : T.mine = true) (hT' : r.T.mine = true) (hfrom : T.from r.T = true) (hn : r.v.norow = true) : Does P val o w fun v w' => ∃ ρ', r.v.R ρ' v ∧ Le ρ ρ' ∧ Rel X ρ' r.T w' ∧ freshA ρ' (kb + 4) ∧
      ∀ z, Apart X ρ (fun k b => T.blk k = some b) w z → w'.heap[z]? = w.heap[z]? ∧ Apart X ρ' (fun k b => r.T.blk k = some b) w' z := by
  have hmb : ∀ z, z ∈ placesOf ρ T w.heap.size → X.B ≤ z ∨ z ∈ X.mb := fun z hz => by
    obtain ⟨_, k, b, l, hk, ho, hl, rfl⟩ := placesOf_mem.1 hz
    exact (hrel.sep k b l hk ho hl).1
  have hrel1 : Rel ⟨w, w.heap.size, placesOf ρ T w.heap.size, X.nf⟩ ρ.bare T w := by
    refine ⟨rfl, rfl, rfl, Nat.le_refl _, Nat.le_refl _, fun _ _ _ => rfl, fun k b hk => ?_, fun k b m hk ho hm => ?_, fun k m hm hl => ?_, fun v bs hr => (hrel.rows v bs hr).now hrel _ _ _ hrel.size hmb⟩
    · obtain ⟨x, hx, hb⟩ := hrel.blk k b hk
      cases x with
      | none => exact ⟨none, bare_nil hx, hb⟩
      | some l => exact ⟨_, bare_of hx, Blk.R.near (l := l) (m := l.bare) (near_bare ρ) (.inl fun _ _ h => h) (mine_blk hT hk).1 rfl hb⟩
    · obtain ⟨l, hl, rfl⟩ := bare_some hm
      obtain ⟨h1, h2⟩ := hrel.sep k b l hk ho hl
      refine ⟨.inr (placesOf_mem.2 ⟨(by have := hrel.lt hk hl; exact this), k, b, l, hk, ho, hl, rfl⟩), fun k' b' m' hne hk' hm' => ?_⟩
      obtain ⟨l', hl', rfl⟩ := bare_some hm'
      exact h2 k' b' l' hne hk' hl'
    · obtain ⟨l, _, rfl⟩ := bare_some hm
      cases hl
  have hdoes := eff_turn hC (fun x => (hv x).near (near_bare ρ) (.inl fun _ _ h => h)) hrel1 (fun k hk => bare_none.2 (hf k hk)) h hob hobs
  refine hdoes.mono fun v w' ⟨ρ', hr, hle, hR, hfr⟩ => ?_
  let ρ2 : Ren := ⟨fun k => match ρ k with | some x => some x | none => ρ' k, ρ.row⟩
  have o2 : ∀ k x, ρ k = some x → ρ2 k = some x := fun k x hx => by show (match ρ k with | some x => some x | none => ρ' k) = _; rw [hx]
  have n2 : ∀ k, ρ k = none → ρ2 k = ρ' k := fun k hx => by show (match ρ k with | some x => some x | none => ρ' k) = _; rw [hx]
  have back : ∀ k l, ρ2 k = some (some l) → (ρ k = some (some l) ∧ ρ' k = some (some l.bare)) ∨ (ρ k = none ∧ ρ' k = some (some l)) := fun k l hl => by
    cases hk : ρ k with
    | none => rw [n2 k hk] at hl; exact .inr ⟨rfl, hl⟩
    | some x => rw [o2 k x hk] at hl; simp only [Option.some.injEq] at hl; subst hl; exact .inl ⟨rfl, hle _ _ (bare_of hk)⟩
  have near : Near ρ' ρ2 := by
    refine ⟨fun k l hl => ?_, fun k hk => ?_⟩
    · cases hk : ρ k with
      | none => exact ⟨l, (n2 k hk).trans hl, rfl⟩
      | some x =>
        cases x with
        | none => have := hle _ _ (bare_nil hk); rw [hl] at this; cases this
        | some l0 => 
          have := hle _ _ (bare_of hk); rw [hl] at this; simp only [Option.some.injEq] at this; subst this
          exact ⟨l0, o2 k _ hk, rfl⟩
    · cases hk' : ρ k with
      | none => exact (n2 k hk').trans hk
      | some x =>
        cases x with
        | none => exact o2 k _ hk'
        | some l0 => have := hle _ _ (bare_of hk'); rw [hk] at this; cases this
  -- a place under the new keys, as the contract knows it
  have plc : ∀ k l, ρ2 k = some (some l) → ∃ m, ρ' k = some (some m) ∧ m.blk = l.blk := fun k l hl => by
    rcases back k l hl with ⟨_, h⟩ | ⟨_, h⟩
    · exact ⟨_, h, rfl⟩
    · exact ⟨_, h, rfl⟩
  have hold : ∀ z, z < w.heap.size → z ∉ placesOf ρ T w.heap.size → w'.heap[z]? = w.heap[z]? := fun z h1 h2 => hR.old z h1 h2
  have hnw : ∀ k b l, r.T.blk k = some b → b.own = true → ρ2 k = some (some l) → w.heap.size ≤ l.blk ∨ l.blk ∈ placesOf ρ T w.heap.size := fun k b l hk ho hl => by
    obtain ⟨m, hm, he⟩ := plc k l hl
    rw [← he]
    exact (hR.sep k b m hk ho hm).1
  refine ⟨ρ2, hr.near near (.inr hn), ⟨fun k x hx => o2 k x hx, fun _ _ h => h⟩, ?_, ?_, fun z hz => ?_⟩
  · refine ⟨hR.os.trans hrel.os, hR.tape.trans hrel.tape, hR.output.trans hrel.output, Nat.le_trans hrel.size hR.size0, Nat.le_trans hrel.size0 hR.size0, fun z hz hzm => ?_, fun k b hk => ?_, fun k b l hk ho hl => ?_, fun k l hl hlit => ?_, fun v bs hr => hrel.rows v bs hr⟩
    · refine (hold z (Nat.lt_of_lt_of_le hz hrel.size) fun hm => ?_).trans (hrel.old z hz hzm)
      rcases hmb z hm with h | h
      · omega
      · exact hzm h
    · obtain ⟨x, hx, hb⟩ := hR.blk k b hk
      cases x with
      | none => exact ⟨none, near.2 k hx, hb⟩
      | some l =>
        obtain ⟨m, hm, he⟩ := near.1 k l hx
        exact ⟨some m, hm, hb.near near (.inr (mine_blk hT' hk).2) (mine_blk hT' hk).1 he⟩
    · obtain ⟨m, hm, he⟩ := plc k l hl
      obtain ⟨h1, h2⟩ := hR.sep k b m hk ho hm
      refine ⟨?_, fun k' b' l' hne hk' hl' => ?_⟩
      · rcases hnw k b l hk ho hl with h | h
        · exact .inl (Nat.le_trans hrel.size h)
        · exact hmb _ h
      · obtain ⟨m', hm', he'⟩ := plc k' l' hl'
        rw [← he, ← he']
        exact h2 k' b' m' hne hk' hm'
    · rcases back k l hl with ⟨hk, _⟩ | ⟨_, hk⟩
      · obtain ⟨g1, g2, g3⟩ := hrel.lit k l hk hlit
        refine ⟨g1, Nat.lt_of_lt_of_le g2 hR.size0, fun k' b' l' hk' ho' hl' => ?_⟩
        rcases hnw k' b' l' hk' ho' hl' with h | h
        · omega
        · obtain ⟨_, k0, b0, l0, hk0, ho0, hl0, he⟩ := placesOf_mem.1 h
          rw [← he]
          exact g3 k0 b0 l0 hk0 ho0 hl0
      · obtain ⟨g1, g2, g3⟩ := hR.lit k l hk hlit
        refine ⟨Nat.le_trans hrel.size g1, g2, fun k' b' l' hk' ho' hl' => ?_⟩
        obtain ⟨m', hm', he'⟩ := plc k' l' hl'
        rw [← he']
        exact g3 k' b' m' hk' ho' hm'
  · intro k hk
    rw [n2 k (hf k (by omega))]
    exact hfr k hk
  · have hzp : z ∉ placesOf ρ T w.heap.size := fun hm => by
      obtain ⟨_, k, b, l, hk, _, hl, he⟩ := placesOf_mem.1 hm
      exact hz.sep k b l hk hl he
    refine ⟨hold z hz.lt hzp, Nat.lt_of_lt_of_le hz.lt hR.size0, hz.ge, fun k b l hk hl he => ?_, fun k l hl hlit he => ?_⟩
    · rcases from_blk hfrom hk with ho | ⟨b', hb'⟩
      · rcases hnw k b l hk ho hl with h | h
        · have := hz.lt; omega
        · rw [he] at h; exact hzp h
      · obtain ⟨x, hx, _⟩ := hrel.blk k b' hb'
        have h2 := o2 k x hx
        rw [hl] at h2; simp only [Option.some.injEq] at h2; subst h2
        exact hz.sep k b' l hb' hx he
    · rcases back k l hl with ⟨hk, _⟩ | ⟨_, hk⟩
      · exact hz.lit k l hk hlit he
      · have := (hR.lit k l hk hlit).1
        have h2 : w.heap.size ≤ l.blk := this
        have := hz.lt; omega

theorem tabAt_from {T T' : Tab} {se : List (Nat × Ent)} {p : Nat → Bool} (h : T.from T' = true) : (tabAt T se p).from T' = true := by
  have add : ∀ {E : List (Nat × Blk)} {T : Tab} {k : Nat} {b : Blk}, T.blk k = some b → ∃ b', (addAll T E).blk k = some b' := by
    intro E
    induction E with
    | nil => intro T k b h; exact ⟨b, h⟩
    | cons x E ih =>
      obtain ⟨j, c⟩ := x
      intro T k b h
      by_cases hj : j = k
      · exact ih (T := (j, some c) :: T) (b := c) (by rw [blk_cons, if_pos hj])
      · exact ih (T := (j, some c) :: T) (b := b) (by rw [blk_cons, if_neg hj]; exact h)
  have go : ∀ {se : List (Nat × Ent)} {k : Nat} {b : Blk}, T.blk k = some b → ∃ b', (tabAt T se p).blk k = some b' := by
    intro se
    induction se with
    | nil => intro k b h; exact ⟨b, h⟩
    | cons x se ih =>
      obtain ⟨j, e⟩ := x
      intro k b h
      obtain ⟨b', hb'⟩ := ih h
      unfold tabAt
      cases p j with
      | true => exact add hb'
      | false => exact ⟨b', hb'⟩
  unfold Tab.from at h ⊢
  rw [List.all_eq_true] at h ⊢
  intro x hx
  have := h x hx
  split
  · rename_i b hb
    rw [hb] at this
    simp only [Bool.or_eq_true] at this ⊢
    refine this.imp id fun h1 => ?_
    split at h1
    · rename_i b0 h0
      obtain ⟨b', hb'⟩ := go (se := se) h0
      rw [hb']
    · cases h1
  · rfl
theorem tabAt_mine {T : Tab} : ∀ {se : List (Nat × Ent)} {p : Nat → Bool}, T.mine = true → (∀ j e, (j, e) ∈ se → ∀ x ∈ e.E, x.2.mine = true) → (tabAt T se p).mine = true
  | [], p, h, _ => h
  | (j, e) :: r, p, h, hs => by
    have ih := tabAt_mine (se := r) (p := p) h fun j e hj => hs j e (List.mem_cons_of_mem _ hj)
    have add : ∀ {E : List (Nat × Blk)} {T : Tab}, T.mine = true → (∀ x ∈ E, x.2.mine = true) → (addAll T E).mine = true := by
      intro E
      induction E with
      | nil => intro T h _; exact h
      | cons x E ih => 
        obtain ⟨k, b⟩ := x
        intro T h hE
        refine ih ?_ fun x hx => hE x (List.mem_cons_of_mem _ hx)
        show (Tab.mine ((k, some b) :: T)) = true
        unfold Tab.mine at h ⊢
        rw [List.all_cons, h, Bool.and_true]
        exact hE (k, b) (by simp)
    unfold tabAt
    cases p j with
    | true => exact add ih (hs j e (by simp))
    | false => exact ih

/-- One of a region's operations, when its turn comes. -/
theorem step_T (hC : LibOK P C) (hac : acyc ops.toList 0 = true) (hch : chainB (masks ops.toList []) (turnsOf C ops.toList 0) = true) (hts : ts.length = (turnsOf C ops.toList 0).length + 1)
    (hmem : ∀ j e, (j, e) ∈ ents → j < ops.size) (huq : ∀ j e, (j, e) ∈ ents → ∀ d, e.dst = some d → get (dstsOf ops.toList 0) d = some j) (hdst : ∀ j e, (j, e) ∈ ents → ∀ o, ops[j]? = some o → e.dst = o.dst)
    {ux qu : Nat} (hu1 : ux < ops.size → ∀ p h, (turnsOf C ops.toList 0)[p]? = some h → p < qu → h < ux) (hu2 : ux < ops.size → ∀ p h, (turnsOf C ops.toList 0)[p]? = some h → qu ≤ p → (maskAt (masks ops.toList []) h).testBit ux = true)
    (hhard : ∀ j e, (j, e) ∈ ents → hardB (masks ops.toList []) (turnsOf C ops.toList 0) j = true ∨ e.E = [] ∨ j = ux)
    (L : Array Bool) (hL : L.size = ops.size) (hcl : ∀ i, L.getD i false = true → ∀ j, (maskAt (masks ops.toList []) i).testBit j = true → L.getD j false = true) {q : Nat} (hst : StInv (turnsOf C ops.toList 0) L q)
    {i : Nat} {o : Oper} (ho : ops[i]? = some o) (hsp : SpecA P C base (dstsOf ops.toList 0) (masks ops.toList []) (turnsOf C ops.toList 0) ops.size ux ents ts i o) (hun : L.getD i false = false) (hdep : ∀ j, (maskAt (masks ops.toList []) i).testBit j = true → L.getD j false = true) (hqu : qu ≤ q ∨ L.getD ux false = false)
    {ρ : Ren} {a : Act} {w : World} (h : RelT X base (dstsOf ops.toList 0) (masks ops.toList []) (turnsOf C ops.toList 0) ents ts ops.size ux L q ρ a w) {K : Act → World → Prop} {Q : Exit → Act → World → Prop}
    (hK : ∀ ρ' a' w' q', Le ρ ρ' → StInv (turnsOf C ops.toList 0) (L.setIfInBounds i true) q' → RelT X base (dstsOf ops.toList 0) (masks ops.toList []) (turnsOf C ops.toList 0) ents ts ops.size ux (L.setIfInBounds i true) q' ρ' a' w' →
      q ≤ q' → (∃ v, a' = a.put o.dst v ∧ (isTurn C o.op = false → ∃ e, (i, e) ∈ ents ∧ e.v.R ρ' v ∧ New ρ ρ' e.E w w')) → (Mine C ops ents ts → ∀ z, Apart X ρ (MT (masks ops.toList []) (turnsOf C ops.toList 0) ents ts L q) w z → w'.heap[z]? = w.heap[z]? ∧ Apart X ρ' (MT (masks ops.toList []) (turnsOf C ops.toList 0) ents ts (L.setIfInBounds i true) q') w' z) → K a' w') : wpOp P ops Q i K a w := by
  obtain ⟨e, hie, huni, hed, hdok, hunq, hcase⟩ := hsp
  have hi : i < ops.size := (Array.getElem?_eq_some_iff.1 ho).1
  have hdok' := dstOk_spec hdok
  have hiL : i < L.size := by omega
  have hset : (L.setIfInBounds i true).getD i false = true := by simp [hiL]
  have hget : ∀ d, o.dst = some d → get (dstsOf ops.toList 0) d = some i := fun d hd => by
    rw [hd] at hunq
    simp only [uniq] at hunq
    split at hunq
    · rename_i j hj; rw [hj, Nat.eq_of_beq_eq_true hunq]
    · cases hunq
  have turnOf : ∀ {p h' : Nat}, (turnsOf C ops.toList 0)[p]? = some h' → ∃ o', ops[h']? = some o' ∧ isTurn C o'.op = true := fun {p h'} hp => by
    obtain ⟨_, o', ho', ht⟩ := turnsOf_mem _ _ _ _ hp
    exact ⟨o', by simpa using ho', ht⟩
  -- the temporaries
  have hentT : ∀ {ρ' : Ren} {u : Value}, Le ρ ρ' → e.v.R ρ' u → ∀ j ej, (j, ej) ∈ ents → (L.setIfInBounds i true).getD j false = true → ∀ d, ej.dst = some d → ∃ u', (a.put o.dst u).tmps[d]? = some u' ∧ ej.v.R ρ' u' := fun {ρ' u} hle hr j ej hj hjl d hd => by
    by_cases hij : i = j
    · subst hij
      rw [huni ej hj] at hd ⊢
      have hd' : o.dst = some d := by rw [← hed]; exact hd
      refine ⟨u, ?_, hr⟩
      have := hdok' d hd'
      simp [hd', Act.put, Array.getElem?_setIfInBounds, h.sz, this]
    · rw [getD_set_ne false hij] at hjl
      obtain ⟨v, hv, hvr⟩ := h.ent j ej hj hjl d hd
      refine ⟨v, ?_, hvr.mono hle⟩
      cases hod : o.dst with
      | none => simpa [Act.put] using hv
      | some d' =>
        have hne : d' ≠ d := fun e => by
          subst e
          have h1 := hget d' hod
          rw [huq j ej hj d' hd] at h1; cases h1
          exact hij rfl
        simp [Act.put, Array.getElem?_setIfInBounds_ne hne, hv]
  have hbasT : ∀ {ρ' : Ren} {u : Value}, Le ρ ρ' → ∀ t v, get base.tmps t = some v → (∀ j, get (dstsOf ops.toList 0) t = some j → (L.setIfInBounds i true).getD j false = false) → ∃ u', (a.put o.dst u).tmps[t]? = some u' ∧ v.R ρ' u' := fun {ρ' u} hle t v hv ht => by
    have ht' : ∀ j, get (dstsOf ops.toList 0) t = some j → L.getD j false = false := fun j hj => by
      have := ht j hj
      by_cases hij : i = j
      · subst hij; rw [hset] at this; cases this
      · rwa [getD_set_ne false hij] at this
    obtain ⟨x, hx, hxr⟩ := h.bas t v hv ht'
    refine ⟨x, ?_, hxr.mono hle⟩
    cases hod : o.dst with
    | none => simpa [Act.put] using hx
    | some d' =>
      have hne : d' ≠ t := fun e => by
        subst e
        have := ht i (hget d' hod)
        rw [hset] at this; cases this
      simp [Act.put, Array.getElem?_setIfInBounds_ne hne, hx]
  have hdefT : ∀ {u : Value}, (a.put o.dst u).defers = [] := fun {u} => by cases o.dst <;> exact h.defers
  have hszT : ∀ {u : Value}, (a.put o.dst u).tmps.size = base.nt := fun {u} => by cases o.dst <;> simp [Act.put, h.sz]
  unfold wpOp
  rw [ho]
  simp only
  rcases hcase with ⟨hnt, se, hsub, hcase⟩ | ⟨ht, se, p, hsub, hp, hhd, hcase⟩
  · -- nothing is turned
    have hnH : ∀ p h', (turnsOf C ops.toList 0)[p]? = some h' → h' ≠ i := fun p h' hp e => by
      subst e
      obtain ⟨o', ho', ht⟩ := turnOf hp
      rw [ho] at ho'; cases ho'
      rw [hnt] at ht; cases ht
    have hst' : StInv (turnsOf C ops.toList 0) (L.setIfInBounds i true) q := ⟨hst.1, fun p h' hp => by
      rw [getD_set_ne false (Ne.symm (hnH p h' hp))]; exact hst.2 p h' hp⟩
    have hok : okStage (masks ops.toList []) i q (turnsOf C ops.toList 0) 0 = true := (okStage_iff _ _).2 fun p h' hp => by
      rw [Nat.zero_add]
      refine ⟨fun hb => (hst.2 p h' hp).1 (hdep h' hb), fun hb => ?_⟩
      refine Nat.le_of_not_lt fun hlt => ?_
      have := hcl h' ((hst.2 p h' hp).2 hlt) i hb
      rw [hun] at this; cases this
    have hsubN : ∀ k b, MT (masks ops.toList []) (turnsOf C ops.toList 0) ents ts (L.setIfInBounds i true) q k b → (k, b) ∈ e.E ∨ MT (masks ops.toList []) (turnsOf C ops.toList 0) ents ts L q k b := fun k b hk => by
      rcases hk with hk | ⟨j, ej, hj, hjl, hjs, hkb⟩
      · exact .inr (.inl hk)
      · by_cases hij : i = j
        · subst hij
          rw [huni ej hj] at hkb
          exact .inl hkb
        · rw [getD_set_ne false hij] at hjl
          exact .inr (.inr ⟨j, ej, hj, hjl, hjs, hkb⟩)
    have fin : ∀ {ρ' : Ren} {u : Value} {w' : World}, Le ρ ρ' → e.v.R ρ' u → New ρ ρ' e.E w w' → (e.E = [] ∨ ∀ k b, (k, b) ∈ e.E → base.nk + 4 * i ≤ k ∧ k < base.nk + 4 * i + 4) → (hardB (masks ops.toList []) (turnsOf C ops.toList 0) i = true ∨ e.E = [] ∨ i = ux) →
        RelT X base (dstsOf ops.toList 0) (masks ops.toList []) (turnsOf C ops.toList 0) ents ts ops.size ux (L.setIfInBounds i true) q ρ' (a.put o.dst u) w' := fun {ρ' u w'} hle hr hn hkeys hhi => by
      refine ⟨?_, hentT hle hr, hbasT hle, hdefT, hszT, ?_⟩
      · exact (h.rel.new hn).sub hsubN
      · intro k hk hno
        have hki : ∀ b, (k, b) ∉ e.E := fun b hb => by
          rcases hkeys with h0 | hkeys
          · rw [h0] at hb; cases hb
          · rcases hhi with hhi | h0 | hiu
            · exact hno i hi (.inl hhi) hset (hkeys k b hb)
            · rw [h0] at hb; cases hb
            · exact hno i hi (.inr hiu) hset (hkeys k b hb)
        rw [hn.only k hki]
        refine h.fresh k hk fun j hj hjh hjl => hno j hj hjh ?_
        by_cases hij : i = j
        · subst hij; exact hset
        · rw [getD_set_ne false hij]; exact hjl
    rcases hcase with ⟨hg, hhi, hall⟩ | ⟨hg, he⟩
    · rw [if_pos (guard_T hmem hdst hdep hsub h.ent true hg)]
      obtain ⟨se2, r, hsub2, heff, hrob, hros, hrk, he⟩ := hall q (by rw [hts]; have := hst.1; omega) hok
      have hkeys := keysOk_spec hrk
      have hfr : fresh ρ (kbOf base.nk ops.size (masks ops.toList []) (turnsOf C ops.toList 0) ux i) := fun k h1 h2 => by
        unfold kbOf at h1 h2
        cases hhb : (hardB (masks ops.toList []) (turnsOf C ops.toList 0) i || Nat.beq i ux) with
        | true =>
          rw [hhb, cond_true] at h1 h2
          refine h.fresh k ?_ fun j hj hjh hjl hh => ?_
          · have hlo : lo (turnsOf C ops.toList 0) q ≤ i := by
              cases q with
              | zero => exact Nat.zero_le _
              | succ q =>
                have hq1 := hst.1
                have hq : (turnsOf C ops.toList 0)[q]? = some ((turnsOf C ops.toList 0).getD q 0) := by
                  simp [List.getD, show q < (turnsOf C ops.toList 0).length by omega]
                have hdone := (hst.2 q _ hq).2 (by omega)
                simp only [Bool.or_eq_true] at hhb
                rcases hhb with hhb | hhb
                · rcases hardB_spec hhb hq with hh | hh | hh
                  · exact absurd hh (hnH _ _ hq)
                  · exact mask_lt hac _ _ hh
                  · have := hcl _ hdone i hh; rw [hun] at this; cases this
                · have hiu := Nat.eq_of_beq_eq_true hhb
                  by_cases hq' : q < qu
                  · have := hu1 (by omega) q _ hq hq'
                    show (turnsOf C ops.toList 0).getD q 0 + 1 ≤ i
                    omega
                  · have := hcl _ hdone ux (hu2 (by omega) q _ hq (by omega))
                    rw [← hiu, hun] at this; cases this
            omega
          · have : j ≠ i := fun e => by subst e; rw [hjl] at hun; cases hun
            omega
        | false =>
          rw [hhb, cond_false] at h1 h2
          refine h.fresh k ?_ fun j hj hjh hjl hh => by omega
          have hlo : lo (turnsOf C ops.toList 0) q ≤ ops.size := by
            cases q with
            | zero => exact Nat.zero_le _
            | succ q =>
              have hq1 := hst.1
              have hq : (turnsOf C ops.toList 0)[q]? = some ((turnsOf C ops.toList 0).getD q 0) := by
                simp [List.getD, show q < (turnsOf C ops.toList 0).length by omega]
              obtain ⟨o', ho', _⟩ := turnOf hq
              exact (Array.getElem?_eq_some_iff.1 ho').1
          omega
      have hrel' : Rel X ρ (tabAt (ts.getD q []) se2 (inT (masks ops.toList []) (turnsOf C ops.toList 0) i q)) w := h.rel.sub fun k b hk => by
        rcases tabAt_blk _ _ _ _ _ hk with ⟨j, ej, hj, hb, hkb⟩ | hk
        · simp only [inT, Bool.and_eq_true] at hb
          exact .inr ⟨j, ej, hsub2 _ hj, hdep j hb.1, hb.2, hkb⟩
        · exact .inl hk
      have hdoes := eff_new hC (ev_T hdst hcl hun hdep hsub h.ent h.bas) hrel' hfr heff hrob hros
      refine .inl (hdoes.wp fun v w' ⟨ρ', hr, hn⟩ => hK ρ' _ _ q hn.le hst' ?_ (Nat.le_refl _) ⟨v, rfl, fun _ => ⟨e, hie, by rw [he]; exact hr, by rw [he]; exact hn⟩⟩ fun _ z hz => ?_)
      · rw [he] at fin hhi
        refine fin hn.le hr hn ?_ (hhi.imp id fun h => h.imp id And.left)
        rcases hhi with hhi | h0 | ⟨hiu, _⟩
        · right
          unfold kbOf at hkeys
          rw [hhi, Bool.true_or, cond_true] at hkeys
          exact hkeys
        · exact .inl h0
        · right
          unfold kbOf at hkeys
          rw [show Nat.beq i ux = true by rw [hiu]; exact Nat.beq_refl _, Bool.or_true, cond_true] at hkeys
          exact hkeys
      · rw [he] at hsubN
        obtain ⟨h1, h2⟩ := hz.new h.rel hn
        exact ⟨h1, h2.sub hsubN⟩
    · rw [if_neg (by simp [guard_T hmem hdst hdep hsub h.ent false hg])]
      rw [he] at fin hsubN
      exact hK ρ _ _ q (Le.refl _) hst' (fin (Le.refl _) off_R (New.refl _ _) (.inl rfl) (.inr (.inl rfl))) (Nat.le_refl _) ⟨_, rfl, fun _ => ⟨e, hie, by rw [he]; exact off_R, by rw [he]; exact New.refl _ _⟩⟩ fun _ z hz => ⟨rfl, hz.sub fun k b hk => (hsubN k b hk).elim (fun h => by cases h) id⟩
  · -- something is turned
    have hpq : p = q := by
      have h1 : ¬ p < q := fun hh => by have := (hst.2 p i hp).2 hh; rw [hun] at this; cases this
      rcases Nat.lt_or_ge q p with h2 | h2
      · exfalso
        have hpl := (List.getElem?_eq_some_iff.1 hp).1
        have hq : (turnsOf C ops.toList 0)[q]? = some ((turnsOf C ops.toList 0).getD q 0) := by simp [List.getD, show q < (turnsOf C ops.toList 0).length by omega]
        have hlt := turnsOf_sorted _ _ _ _ _ _ hq hp h2
        have := (hst.2 q _ hq).1 (hdep _ (chainB_spec hch hp hq hlt))
        omega
      · omega
    subst hpq
    have hpl := (List.getElem?_eq_some_iff.1 hp).1
    have hkb : kbOf base.nk ops.size (masks ops.toList []) (turnsOf C ops.toList 0) ux i = base.nk + 4 * i := by unfold kbOf; rw [hhd, Bool.true_or, cond_true]
    have hlo : lo (turnsOf C ops.toList 0) p ≤ i := by
      cases p with
      | zero => exact Nat.zero_le _
      | succ q =>
        have hq : (turnsOf C ops.toList 0)[q]? = some ((turnsOf C ops.toList 0).getD q 0) := by simp [List.getD, show q < (turnsOf C ops.toList 0).length by omega]
        exact turnsOf_sorted _ _ _ _ _ _ hq hp (by omega)
    have hothers : ∀ j, j < ops.size → hardB (masks ops.toList []) (turnsOf C ops.toList 0) j = true ∨ j = ux → L.getD j false = true → j < i ∧ (maskAt (masks ops.toList []) i).testBit j = true := fun j hj hjh hjl => by
      rcases hjh with hjh | hju
      · rcases hardB_spec hjh hp with hh | hh | hh
        · subst hh; rw [hjl] at hun; cases hun
        · have := hcl j hjl i hh; rw [hun] at this; cases this
        · exact ⟨mask_lt hac _ _ hh, hh⟩
      · rcases hqu with hqu | hqu
        · have := hu2 (by omega) p i hp hqu
          rw [← hju] at this
          exact ⟨mask_lt hac _ _ this, this⟩
        · rw [← hju, hjl] at hqu; cases hqu
    have hfrA : freshA ρ (base.nk + 4 * i) := fun k hk => h.fresh k (by omega) fun j hj hjh hjl hh => by
      have := (hothers j hj hjh hjl).1
      omega
    have hst' : StInv (turnsOf C ops.toList 0) (L.setIfInBounds i true) (p + 1) := ⟨by omega, fun p' h' hp' => by
      by_cases hih : i = h'
      · subst hih
        have hpp : p' = p := by
          rcases Nat.lt_trichotomy p' p with hlt | heq | hlt
          · have := turnsOf_sorted _ _ _ _ _ _ hp' hp hlt; omega
          · exact heq
          · have := turnsOf_sorted _ _ _ _ _ _ hp hp' hlt; omega
        subst hpp
        exact ⟨fun _ => by omega, fun _ => hset⟩
      · rw [getD_set_ne false hih, hst.2 p' h' hp']
        have : p' ≠ p := fun e => by subst e; rw [hp] at hp'; cases hp'; exact hih rfl
        omega⟩
    have hsubT : ∀ k b, (tabAt (ts.getD p []) se (inT (masks ops.toList []) (turnsOf C ops.toList 0) i p)).blk k = some b → MT (masks ops.toList []) (turnsOf C ops.toList 0) ents ts L p k b := fun k b hk => by
      rcases tabAt_blk _ _ _ _ _ hk with ⟨j, ej, hj, hb, hkb⟩ | hk
      · simp only [inT, Bool.and_eq_true] at hb
        exact .inr ⟨j, ej, hsub _ hj, hdep j hb.1, hb.2, hkb⟩
      · exact .inl hk
    have hrel' : Rel X ρ (tabAt (ts.getD p []) se (inT (masks ops.toList []) (turnsOf C ops.toList 0) i p)) w := h.rel.sub hsubT
    have hnoE : ∀ {k : Nat} {b : Blk} {j : Nat} {ej : Ent}, e.E = [] → (j, ej) ∈ ents → (L.setIfInBounds i true).getD j false = true → okStage (masks ops.toList []) j (p + 1) (turnsOf C ops.toList 0) 0 = true → (k, b) ∈ ej.E → False := fun {k b j ej} hE hj hjl hjs hkb => by
      by_cases hij : i = j
      · subst hij; rw [huni ej hj, hE] at hkb; cases hkb
      · rw [getD_set_ne false hij] at hjl
        rcases hhard j ej hj with hjh | h0 | hju
        · have h1 := (hothers j (hmem j ej hj) (.inl hjh) hjl).2
          have := ((okStage_iff _ _).1 hjs p i hp).2 h1
          omega
        · rw [h0] at hkb; cases hkb
        · have h1 := (hothers j (hmem j ej hj) (.inr hju) hjl).2
          have := ((okStage_iff _ _).1 hjs p i hp).2 h1
          omega
    have hsubE : e.E = [] → ∀ k b, MT (masks ops.toList []) (turnsOf C ops.toList 0) ents ts (L.setIfInBounds i true) (p + 1) k b → (ts.getD (p + 1) []).blk k = some b := fun hE k b hk => by
      rcases hk with hk | ⟨j, ej, hj, hjl, hjs, hkb⟩
      · exact hk
      · exact (hnoE hE hj hjl hjs hkb).elim
    rcases hcase with ⟨hg, r, heff, hrob, hros, hT, he⟩ | ⟨hg, hT, he⟩
    · rw [if_pos (guard_T hmem hdst hdep hsub h.ent true hg)]
      rw [hkb] at heff
      have hdoes : Does P a.eval o w fun v w' => ∃ ρ', r.v.R ρ' v ∧ Le ρ ρ' ∧ Rel X ρ' r.T w' ∧ freshA ρ' (base.nk + 4 * i + 4) ∧
          (Mine C ops ents ts → ∀ z, Apart X ρ (MT (masks ops.toList []) (turnsOf C ops.toList 0) ents ts L p) w z → w'.heap[z]? = w.heap[z]? ∧ Apart X ρ' (fun k b => r.T.blk k = some b) w' z) := by
        by_cases hm : Mine C ops ents ts
        · have hvn : r.v.norow = true := by have := hm.2.2 p i hp e hie; rw [he] at this; exact this
          exact (eff_frame hC (ev_T hdst hcl hun hdep hsub h.ent h.bas) hrel' hfrA heff hrob hros (tabAt_mine (hm.1 p).1 fun j e hj => hm.2.1 j e (hsub _ hj)) (by rw [← hT]; exact (hm.1 (p + 1)).1) (by rw [← hT]; exact tabAt_from (hm.1 p).2) hvn).mono
            fun v w' ⟨ρ', h1, h2, h3, h4, h5⟩ => ⟨ρ', h1, h2, h3, h4, fun _ z hz => h5 z (hz.sub hsubT)⟩
        · exact (eff_turn hC (ev_T hdst hcl hun hdep hsub h.ent h.bas) hrel' hfrA heff hrob hros).mono fun v w' ⟨ρ', h1, h2, h3, h4⟩ => ⟨ρ', h1, h2, h3, h4, fun h => absurd h hm⟩
      have hE : e.E = [] := by rw [he]
      refine .inl (hdoes.wp fun v w' ⟨ρ', hr, hle, hrelT, hfr, hap⟩ => hK ρ' _ _ (p + 1) hle hst' ⟨?_, hentT hle (by rw [he]; exact hr), hbasT hle, hdefT, hszT, ?_⟩ (Nat.le_succ _) ⟨v, rfl, fun h => by rw [ht] at h; cases h⟩ fun hm z hz => ?_)
      · refine hrelT.sub fun k b hk => ?_
        rw [← hT]; exact hsubE hE k b hk
      · intro k hk _
        have hl : lo (turnsOf C ops.toList 0) (p + 1) = i + 1 := by simp only [lo, List.getD, hp, Option.getD_some]
        rw [hl] at hk
        exact hfr k (by omega)
      · obtain ⟨h1, h2⟩ := hap hm z hz
        refine ⟨h1, h2.sub fun k b hk => ?_⟩
        rw [← hT]; exact hsubE hE k b hk
    · rw [if_neg (by simp [guard_T hmem hdst hdep hsub h.ent false hg])]
      have hE : e.E = [] := by rw [he]
      refine hK ρ _ _ (p + 1) (Le.refl _) hst' ⟨?_, hentT (Le.refl _) (by rw [he]; exact off_R), hbasT (Le.refl _), hdefT, hszT, ?_⟩ (Nat.le_succ _) ⟨_, rfl, fun h => by rw [ht] at h; cases h⟩ fun _ z hz => ⟨rfl, hz.sub fun k b hk => hsubT k b ?_⟩
      · refine hrel'.sub fun k b hk => ?_
        rw [← hT]; exact hsubE hE k b hk
      · intro k hk _
        have hl : lo (turnsOf C ops.toList 0) (p + 1) = i + 1 := by simp only [lo, List.getD, hp, Option.getD_some]
        rw [hl] at hk
        exact hfrA k (by omega)
      · rw [← hT]; exact hsubE hE k b hk
end

section
variable {P : Program} {C : List (Nat × Con)} {X : Cx} {ops : Array Oper} {base : St} {ents : List (Nat × Ent)} {ts : List Tab}

theorem main_T (hC : LibOK P C) (hac : acyc ops.toList 0 = true) (hch : chainB (masks ops.toList []) (turnsOf C ops.toList 0) = true) (hts : ts.length = (turnsOf C ops.toList 0).length + 1)
    (hmem : ∀ j e, (j, e) ∈ ents → j < ops.size) (huq : ∀ j e, (j, e) ∈ ents → ∀ d, e.dst = some d → get (dstsOf ops.toList 0) d = some j) (hdst : ∀ j e, (j, e) ∈ ents → ∀ o, ops[j]? = some o → e.dst = o.dst)
    {ux qu : Nat} (hu1 : ux < ops.size → ∀ p h, (turnsOf C ops.toList 0)[p]? = some h → p < qu → h < ux) (hu2 : ux < ops.size → ∀ p h, (turnsOf C ops.toList 0)[p]? = some h → qu ≤ p → (maskAt (masks ops.toList []) h).testBit ux = true)
    (hhard : ∀ j e, (j, e) ∈ ents → hardB (masks ops.toList []) (turnsOf C ops.toList 0) j = true ∨ e.E = [] ∨ j = ux)
    (hsp : ∀ i o, ops[i]? = some o → SpecA P C base (dstsOf ops.toList 0) (masks ops.toList []) (turnsOf C ops.toList 0) ops.size ux ents ts i o) {Q : Exit → Act → World → Prop} {ρ0 : Ren}
    (hQ : ∀ ρ a w, Le ρ0 ρ → RelA X ρ ⟨putAll base.tmps ents, tabAt (ts.getD (turnsOf C ops.toList 0).length []) ents (fun j => okStage (masks ops.toList []) j (turnsOf C ops.toList 0).length (turnsOf C ops.toList 0) 0), base.nk + 4 * ops.size, base.nt⟩ a w → Q .normal a w) :
    ∀ (fuel : Nat) (L : Array Bool) (q : Nat) (ρ : Ren) (a : Act) (w : World), L.size = ops.size → unl ops.size L ≤ fuel → (∀ i, L.getD i false = true → ∀ j, (maskAt (masks ops.toList []) i).testBit j = true → L.getD j false = true) → StInv (turnsOf C ops.toList 0) L q → qu ≤ q → Le ρ0 ρ →
      RelT X base (dstsOf ops.toList 0) (masks ops.toList []) (turnsOf C ops.toList 0) ents ts ops.size ux L q ρ a w → wpAny P .any ops Q fuel L a w := by
  -- the end
  have fin : ∀ (L : Array Bool) (q : Nat) (ρ : Ren) (a : Act) (w : World), (∀ i, i < ops.size → L.getD i false = true) → StInv (turnsOf C ops.toList 0) L q → Le ρ0 ρ → RelT X base (dstsOf ops.toList 0) (masks ops.toList []) (turnsOf C ops.toList 0) ents ts ops.size ux L q ρ a w → Q .normal a w := fun L q ρ a w hall hst hle h => by
    have hql : q = (turnsOf C ops.toList 0).length := by
      rcases Nat.eq_or_lt_of_le hst.1 with hh | hlt
      · exact hh
      · exfalso
        have hq : (turnsOf C ops.toList 0)[q]? = some ((turnsOf C ops.toList 0).getD q 0) := by simp [List.getD, hlt]
        obtain ⟨_, o', ho', _⟩ := turnsOf_mem _ _ _ _ hq
        have hlt2 : (turnsOf C ops.toList 0).getD q 0 < ops.size := by
          have := (List.getElem?_eq_some_iff.1 ho').1
          simpa using this
        have := (hst.2 q _ hq).1 (hall _ hlt2)
        omega
    subst hql
    refine hQ ρ a w hle ⟨h.rel.sub fun k b hk => ?_, fun t v hv => ?_, h.defers, fun k hk => ?_, h.sz⟩
    · rcases tabAt_blk _ _ _ _ _ hk with ⟨j, e, hj, hb, hkb⟩ | hk
      · exact .inr ⟨j, e, hj, hall j (hmem j e hj), hb, hkb⟩
      · exact .inl hk
    · rcases putAll_get _ _ _ _ hv with ⟨j, e, hj, hd, rfl⟩ | ⟨hno, hv⟩
      · exact h.ent j e hj (hall j (hmem j e hj)) t hd
      · refine h.bas t v hv fun j hj => ?_
        exfalso
        obtain ⟨o, ho, hd⟩ := dsts_op hj
        have ho' : ops[j]? = some o := by simpa using ho
        obtain ⟨e, hie, _, hed, _⟩ := hsp j o ho'
        exact hno j e hie (hed.trans hd)
    · refine h.fresh k ?_ fun j hj _ _ hh => ?_
      · have hlo : lo (turnsOf C ops.toList 0) (turnsOf C ops.toList 0).length ≤ ops.size := by
          cases hq : (turnsOf C ops.toList 0).length with
          | zero => exact Nat.zero_le _
          | succ q =>
            have hq' : (turnsOf C ops.toList 0)[q]? = some ((turnsOf C ops.toList 0).getD q 0) := by simp [List.getD, show q < (turnsOf C ops.toList 0).length by omega]
            obtain ⟨_, o', ho', _⟩ := turnsOf_mem _ _ _ _ hq'
            have h3 : (turnsOf C ops.toList 0).getD q 0 < ops.size := by
              have := (List.getElem?_eq_some_iff.1 ho').1
              simpa using this
            exact h3
        have h1 : base.nk + 4 * ops.size ≤ k := hk
        omega
      · have h1 : base.nk + 4 * ops.size ≤ k := hk
        omega
  intro fuel
  induction fuel with
  | zero =>
    intro L q ρ a w hL hu hcl hst hqu hle h
    have hall : ∀ i, i < ops.size → L.getD i false = true := fun i hi => by
      cases hq : L.getD i false with
      | true => rfl
      | false =>
        have := unl_set hL hi hq
        omega
    refine ⟨?_, fin L q ρ a w hall hst hle h⟩
    rw [List.eq_nil_iff_forall_not_mem]
    intro j hj
    obtain ⟨h1, o, ho, _⟩ := mem_ready.1 hj
    have hjn := (Array.getElem?_eq_some_iff.1 ho).1
    rw [getD_true_false (by omega), hall j hjn] at h1
    cases h1
  | succ fuel ih =>
    intro L q ρ a w hL hu hcl hst hqu hle h
    refine ⟨fun hr => ?_, fun i hi => ?_⟩
    · refine fin L q ρ a w (fun i hi => ?_) hst hle h
      refine Classical.byContradiction fun hne => ?_
      have hf : L.getD i false = false := by cases hq : L.getD i false with | false => rfl | true => exact absurd hq hne
      have hleast : ∃ i, i < ops.size ∧ L.getD i false = false ∧ ∀ j, j < i → L.getD j false = true := by
        clear hne
        induction i using Nat.strongRecOn with
        | _ i ihi =>
          by_cases hj : ∃ j, j < i ∧ L.getD j false = false
          · obtain ⟨j, hji, hjf⟩ := hj
            exact ihi j hji (by omega) hjf
          · refine ⟨i, hi, hf, fun j hji => ?_⟩
            cases hq : L.getD j false with
            | true => rfl
            | false => exact absurd ⟨j, hji, hq⟩ hj
      obtain ⟨i0, hi0, hf0, hlt0⟩ := hleast
      have hready : i0 ∈ Region.ready .any ops L := by
        have hoi : ops[i0]? = some ops[i0] := by simp [hi0]
        refine mem_ready.2 ⟨by rw [getD_true_false (by omega)]; exact hf0, ops[i0], hoi, fun e he hb => ?_⟩
        have := acyc_spec _ 0 hac i0 ops[i0] (by simp [hi0]) e he hb
        exact hlt0 e.on (by omega)
      rw [hr] at hready; cases hready
    · obtain ⟨h1, o, ho, hdeps⟩ := mem_ready.1 hi
      have hin := (Array.getElem?_eq_some_iff.1 ho).1
      rw [getD_true_false (by omega)] at h1
      have hclos : ∀ j, (maskAt (masks ops.toList []) i).testBit j = true → L.getD j false = true := fun j hj => by
        obtain ⟨o2, ho2, e, he, hb, hcase⟩ := mask_bit _ hac i j hj
        have ho2' : ops[i]? = some o2 := by simpa using ho2
        rw [ho] at ho2'; cases ho2'
        have hel := hdeps e he hb
        rcases hcase with rfl | hcase
        · exact hel
        · exact hcl e.on hel j hcase
      refine step_T hC hac hch hts hmem huq hdst hu1 hu2 hhard L hL hcl hst ho (hsp i o ho) h1 hclos (.inl hqu) h fun ρ' a' w' q' hle' hst' h' hqq _ _ => ?_
      have hiL : i < L.size := by omega
      refine ih _ q' ρ' a' w' (by simp [hL]) ?_ ?_ hst' (Nat.le_trans hqu hqq) (hle.trans hle') h'
      · have := unl_set hL hin h1; omega
      · intro j hj k hk
        by_cases hij : i = j
        · subst hij
          have := hclos k hk
          by_cases hik : i = k
          · subst hik; simp [hiL]
          · rw [getD_set_ne false hik]; exact this
        · rw [getD_set_ne false hij] at hj
          have := hcl j hj k hk
          by_cases hik : i = k
          · subst hik; simp [hiL]
          · rw [getD_set_ne false hik]; exact this
end

theorem anyT_run {P : Program} {C : List (Nat × Con)} (hC : LibOK P C) {X : Cx} {ops : Array Oper} {Q : Exit → Act → World → Prop} {s s' : RSt} {ρ : Ren} {a : Act} {w : World} (h : anyT P C ops s = some s') (hob : s'.ob = true) (hobs : All s'.obs)
    (hrel : RelA X ρ s.st a w) (hQ : ∀ ρ' a' w', Le ρ ρ' → RelA X ρ' s'.st a' w' → Q .normal a' w') : wpAny P .any ops Q ops.size (Array.replicate ops.size false) a w := by
  unfold anyT at h
  simp only at h
  split at h <;> try (cases h; done)
  rename_i p hp
  split at h <;> try (cases h; done)
  rename_i ob obs hck
  simp only [Option.some.injEq] at h; subst h
  obtain ⟨pob, pobs, hcs⟩ := chkR_spec _ _ _ hck hob hobs
  obtain ⟨m1, m2, m3, m4, m5, m6, m7, m8⟩ := preT_spec (H := turnsOf C ops.toList 0) _ _ _ _ [] hp pob pobs rfl rfl (fun j e hj => by simp at hj)
  simp only [bnd_true, Bool.and_eq_true] at m1
  obtain ⟨_, hac, hch⟩ := m1
  have hlen : ops.toList.length = ops.size := by simp
  have hmem : ∀ j e, (j, e) ∈ p.ents → j < ops.size := fun j e hj => by
    rcases m7 j e hj with hj | hj
    · simp at hj
    · omega
  have hsp : ∀ i o, ops[i]? = some o → SpecA P C s.st (dstsOf ops.toList 0) (masks ops.toList []) (turnsOf C ops.toList 0) ops.size ops.size p.ents p.ts i o := fun i o ho => by
    have := m8 i o (by simpa using ho)
    rw [Nat.zero_add, hlen] at this
    rw [hlen] at hcs
    exact specA_of this hcs
  have hget : ∀ j, j < ops.size → ∃ o, ops[j]? = some o := fun j hj => ⟨ops[j], by simp [hj]⟩
  have hdst : ∀ j e, (j, e) ∈ p.ents → ∀ o, ops[j]? = some o → e.dst = o.dst := fun j e hj o ho => by
    obtain ⟨e', hie, huni, hed, _⟩ := hsp j o ho
    rw [huni e hj]; exact hed
  have huq : ∀ j e, (j, e) ∈ p.ents → ∀ d, e.dst = some d → get (dstsOf ops.toList 0) d = some j := fun j e hj d hd => by
    obtain ⟨o, ho⟩ := hget j (hmem j e hj)
    obtain ⟨e', hie, huni, hed, _, hunq, _⟩ := hsp j o ho
    rw [huni e hj, hed] at hd
    rw [hd] at hunq
    simp only [uniq] at hunq
    split at hunq
    · rename_i q hq; rw [hq, Nat.eq_of_beq_eq_true hunq]
    · cases hunq
  have hhard : ∀ j e, (j, e) ∈ p.ents → hardB (masks ops.toList []) (turnsOf C ops.toList 0) j = true ∨ e.E = [] ∨ j = ops.size := fun j e hj => by
    obtain ⟨o, ho⟩ := hget j (hmem j e hj)
    obtain ⟨e', hie, huni, _, _, _, hcase⟩ := hsp j o ho
    rw [huni e hj]
    rcases hcase with ⟨_, _, _, ⟨_, hh, _⟩ | ⟨_, he⟩⟩ | ⟨_, _, _, _, _, hh, _⟩
    · exact hh.imp id fun h => h.imp id And.left
    · exact .inr (.inl (by rw [he]))
    · exact .inl hh
  have hnl : ∀ j, (Array.replicate ops.size false).getD j false = false := fun j => by simp [Array.getD]
  refine main_T (X := X) (ρ0 := ρ) (ux := ops.size) (qu := 0) hC hac hch m6 hmem huq hdst (fun h => absurd h (Nat.lt_irrefl _)) (fun h => absurd h (Nat.lt_irrefl _)) hhard hsp (fun ρ' a' w' hle hA => hQ ρ' a' w' hle ?_) ops.size _ 0 ρ a w (by simp) ?_ ?_ ?_ (Nat.le_refl _) (Le.refl _) ?_
  · rw [hlen]; exact hA
  · unfold unl
    exact Nat.le_trans (List.length_filter_le _ _) (by simp)
  · intro i hi
    rw [hnl] at hi; cases hi
  · refine ⟨Nat.zero_le _, fun q h _ => ?_⟩
    rw [hnl]; simp
  · obtain ⟨t, ht⟩ := m5
    have ht0 : p.ts.getD 0 [] = s.st.tab := by rw [ht]; rfl
    refine ⟨hrel.rel.sub fun k b hk => ?_, fun j e _ hl => ?_, fun t v hv _ => hrel.tmps t v hv, hrel.defers, hrel.sz, fun k hk _ => hrel.fresh k (by simpa [lo] using hk)⟩
    · rcases hk with hk | ⟨j, e, _, hl, _⟩
      · rw [ht0] at hk; exact hk
      · rw [hnl] at hl; cases hl
    · rw [hnl] at hl; cases hl

theorem anyT_mono {P : Program} {C : List (Nat × Con)} {ops : Array Oper} {s s' : RSt} (h : anyT P C ops s = some s') (h1 : s'.ob = true) (h2 : All s'.obs) : s.ob = true ∧ All s.obs := by
  unfold anyT at h
  simp only at h
  split at h <;> try (cases h; done)
  rename_i p hp
  split at h <;> try (cases h; done)
  rename_i ob obs hck
  simp only [Option.some.injEq] at h; subst h
  obtain ⟨pob, pobs, _⟩ := chkR_spec _ _ _ hck h1 h2
  obtain ⟨m1, m2, _⟩ := preT_spec (H := turnsOf C ops.toList 0) _ _ _ _ [] hp pob pobs rfl rfl (fun j e hj => by simp at hj)
  simp only [bnd_true, Bool.and_eq_true] at m1
  exact ⟨m1.1, m2⟩

/-! One block taken in whatever order among operations that turn something. -/
theorem lone_R {ρ ρ' : Ren} {x : SC} {v : Value} (h : x.R ρ v) (hp : x.lone = true) : x.R ρ' v := by
  unfold SC.lone SC.plain at hp
  cases x <;> simp only [SC.allk, SC.norow, Bool.and_eq_true, Bool.false_eq_true, false_and, and_false] at hp <;> try exact h
  case fn f caps =>
    obtain ⟨vs, hv, hc⟩ := h
    cases hc with
    | nil => exact ⟨[], hv, .nil⟩
    | cons h1 h2 => simp at hp
theorem lones_R {ρ ρ' : Ren} : ∀ {cs : List SC} {vs : List Value}, All2 (SC.R ρ) cs vs → cs.all SC.lone = true → All2 (SC.R ρ') cs vs
  | _, _, .nil, _ => .nil
  | _, _, .cons h hc, hp => by
    simp only [List.all_cons, Bool.and_eq_true] at hp
    exact .cons (lone_R h hp.1) (lones_R hc hp.2)
theorem lone_blk {ρ ρ' : Ren} {w : World} {b : Blk} {l : Loc} (h : b.R ρ w (some l)) (hp : b.cells.all SC.lone = true) : b.R ρ' w (some l) := by
  obtain ⟨pre, vs, rest, fr, h1, h2, h3⟩ := h
  exact ⟨pre, vs, rest, fr, h1, lones_R h2 hp, h3⟩
theorem aloE_spec {k : Nat} {v : SV} {E : List (Nat × Blk)} (h : aloE k v E = true) : ∃ off b, v = .c (.ptr k off) ∧ E = [(k, b)] ∧ b.own = true ∧ b.tail = false ∧ b.cells.all SC.lone = true := by
  unfold aloE at h
  split at h <;> try (cases h; done)
  rename_i k1 off k2 b
  simp only [Bool.and_eq_true, Bool.not_eq_true'] at h
  obtain ⟨h1, h2, h3, h4, h5⟩ := h
  obtain rfl := Nat.eq_of_beq_eq_true h1
  obtain rfl := Nat.eq_of_beq_eq_true h2
  exact ⟨off, b, rfl, rfl, h3, h4, h5⟩

theorem RelP.bind {X : Cx} {ρ : Ren} {M : Nat → Blk → Prop} {w : World} (h : RelP X ρ M w) {k0 : Nat} {b : Blk} {l : Loc} (hk0 : ρ k0 = none) (hb : ∀ ρ2, b.R ρ2 w (some l)) (hl : l.lit = false) (hz : Apart X ρ M w l.blk) :
    RelP X (upd ρ k0 (some l)) (fun k c => (k = k0 ∧ c = b) ∨ M k c) w := by
  have old : ∀ {k c l1}, M k c → upd ρ k0 (some l) k = some (some l1) → ρ k = some (some l1) := fun {k c l1} hk h1 => by
    by_cases e : k = k0
    · subst e; obtain ⟨x, hx, _⟩ := h.blk k c hk; rw [hk0] at hx; cases hx
    · rwa [upd_ne _ _ e] at h1
  refine ⟨h.os, h.tape, h.output, h.size, h.size0, h.old, fun k c hk => ?_, fun k c l1 hk ho h1 => ?_, fun k l1 h1 hlit => ?_, h.rows⟩
  · rcases hk with ⟨rfl, rfl⟩ | hk
    · exact ⟨some l, upd_same _ _ _, hb _⟩
    · obtain ⟨x, hx, hc⟩ := h.blk k c hk
      exact ⟨x, (Le.upd (some l) hk0).key _ _ hx, hc.keep (Le.upd _ hk0) fun _ _ => rfl⟩
  · rcases hk with ⟨rfl, rfl⟩ | hk
    · rw [upd_same] at h1; simp only [Option.some.injEq] at h1; subst h1
      refine ⟨.inl hz.ge, fun k' c' l' hne hk' hl' => ?_⟩
      rcases hk' with ⟨rfl, rfl⟩ | hk'
      · exact absurd rfl hne
      · exact hz.sep k' c' l' hk' (old hk' hl')
    · have h1' := old hk h1
      obtain ⟨g1, g2⟩ := h.sep k c l1 hk ho h1'
      refine ⟨g1, fun k' c' l' hne hk' hl' => ?_⟩
      rcases hk' with ⟨rfl, rfl⟩ | hk'
      · rw [upd_same] at hl'; simp only [Option.some.injEq] at hl'; subst hl'
        exact Ne.symm (hz.sep k c l1 hk h1')
      · exact g2 k' c' l' hne hk' (old hk' hl')
  · by_cases e : k = k0
    · subst e; rw [upd_same] at h1; simp only [Option.some.injEq] at h1; subst h1; rw [hl] at hlit; cases hlit
    · rw [upd_ne _ _ e] at h1
      obtain ⟨g1, g2, g3⟩ := h.lit k l1 h1 hlit
      refine ⟨g1, g2, fun k' c' l' hk' ho' hl' => ?_⟩
      rcases hk' with ⟨rfl, rfl⟩ | hk'
      · rw [upd_same] at hl'; simp only [Option.some.injEq] at hl'; subst hl'
        exact Ne.symm (hz.lit k l1 h1 hlit)
      · exact g3 k' c' l' hk' ho' (old hk' hl')

theorem setf_same {L : Array Bool} {u : Nat} (h : L.getD u false = false) : L.setIfInBounds u false = L := by
  refine Array.ext (by simp) fun i h1 h2 => ?_
  rw [Array.getElem_setIfInBounds]
  split
  · rename_i e; subst e; simp [Array.getD, h2] at h; exact h.symm
  · rfl
theorem getD_setx_ne {L : Array Bool} {i j : Nat} {x : Bool} (h : i ≠ j) : (L.setIfInBounds i x).getD j false = L.getD j false := by
  rw [Array.getD_eq_getD_getElem?, Array.getD_eq_getD_getElem?, Array.getElem?_setIfInBounds_ne h]
theorem setf_get (L : Array Bool) (u : Nat) : (L.setIfInBounds u false).getD u false = false := by
  by_cases h : u < L.size <;> simp [Array.getD, h]
theorem setf_true {L : Array Bool} {u j : Nat} (h : (L.setIfInBounds u false).getD j false = true) : j ≠ u ∧ L.getD j false = true := by
  by_cases e : u = j
  · subst e; rw [setf_get] at h; cases h
  · rw [getD_setx_ne e] at h; exact ⟨fun h => e h.symm, h⟩

/-- A block that has been taken, under no key yet. -/
structure Pend (X : Cx) (nk : Nat) (M H : List Nat) (ents : List (Nat × Ent)) (ts : List Tab) (ux : Nat) (dst : Option Nat) (eu : Ent) (L : Array Bool) (q : Nat) (ρ : Ren) (a : Act) (w : World) (l : Loc) : Prop where
  nl : l.lit = false
  ap : Apart X ρ (MT M H ents ts L q) w l.blk
  blk : ∀ k b, (k, b) ∈ eu.E → ∀ ρ2, b.R ρ2 w (some l)
  tmp : ∀ d, dst = some d → ∃ u, a.tmps[d]? = some u ∧ ∀ ρ2 : Ren, ρ2 (nk + 4 * ux) = some (some l) → eu.v.R ρ2 u

section
variable {P : Program} {C : List (Nat × Con)} {X : Cx} {ops : Array Oper} {base : St} {ents : List (Nat × Ent)} {ts : List Tab}
theorem main_U (hC : LibOK P C) (hac : acyc ops.toList 0 = true) (hch : chainB (masks ops.toList []) (turnsOf C ops.toList 0) = true) (hts : ts.length = (turnsOf C ops.toList 0).length + 1)
    (hmem : ∀ j e, (j, e) ∈ ents → j < ops.size) (huq : ∀ j e, (j, e) ∈ ents → ∀ d, e.dst = some d → get (dstsOf ops.toList 0) d = some j) (hdst : ∀ j e, (j, e) ∈ ents → ∀ o, ops[j]? = some o → e.dst = o.dst)
    {ux qu : Nat} (hu1 : ux < ops.size → ∀ p h, (turnsOf C ops.toList 0)[p]? = some h → p < qu → h < ux) (hu2 : ux < ops.size → ∀ p h, (turnsOf C ops.toList 0)[p]? = some h → qu ≤ p → (maskAt (masks ops.toList []) h).testBit ux = true)
    (hu3 : ∀ i, (maskAt (masks ops.toList []) i).testBit ux = true → ∀ (p h : Nat), (turnsOf C ops.toList 0)[p]? = some h → p < qu → (maskAt (masks ops.toList []) i).testBit h = true) (hu4 : qu ≤ (turnsOf C ops.toList 0).length)
    (hmine : Mine C ops ents ts) {eu : Ent} {ou : Oper} (hou : ops[ux]? = some ou) (heu : (ux, eu) ∈ ents) (hea : aloE (base.nk + 4 * ux) eu.v eu.E = true) (hbase : ∀ d, ou.dst = some d → get base.tmps d = none)
    (hhard : ∀ j e, (j, e) ∈ ents → hardB (masks ops.toList []) (turnsOf C ops.toList 0) j = true ∨ e.E = [] ∨ j = ux)
    (hsp : ∀ i o, ops[i]? = some o → SpecA P C base (dstsOf ops.toList 0) (masks ops.toList []) (turnsOf C ops.toList 0) ops.size ux ents ts i o) {Q : Exit → Act → World → Prop} {ρ0 : Ren}
    (hQ : ∀ ρ a w, Le ρ0 ρ → RelA X ρ ⟨putAll base.tmps ents, tabAt (ts.getD (turnsOf C ops.toList 0).length []) ents (fun j => okStage (masks ops.toList []) j (turnsOf C ops.toList 0).length (turnsOf C ops.toList 0) 0), base.nk + 4 * ops.size, base.nt⟩ a w → Q .normal a w) :
    ∀ (fuel : Nat) (L : Array Bool) (q : Nat) (ρ : Ren) (a : Act) (w : World), L.size = ops.size → unl ops.size L ≤ fuel → (∀ i, L.getD i false = true → ∀ j, (maskAt (masks ops.toList []) i).testBit j = true → L.getD j false = true) → StInv (turnsOf C ops.toList 0) L q → q < qu → Le ρ0 ρ →
      RelT X base (dstsOf ops.toList 0) (masks ops.toList []) (turnsOf C ops.toList 0) ents ts ops.size ux (L.setIfInBounds ux false) q ρ a w →
      (L.getD ux false = true → ∃ l, Pend X base.nk (masks ops.toList []) (turnsOf C ops.toList 0) ents ts ux ou.dst eu (L.setIfInBounds ux false) q ρ a w l) → wpAny P .any ops Q fuel L a w := by
  have hux : ux < ops.size := (Array.getElem?_eq_some_iff.1 hou).1
  obtain ⟨off, bu, hvu, hEu, huown, hutail, hulone⟩ := aloE_spec hea
  have huniq : ∀ e', (ux, e') ∈ ents → e' = eu := by
    obtain ⟨e, h1, h2, _⟩ := hsp ux ou hou
    intro e' he'
    rw [h2 e' he', h2 eu heu]
  have hnotT : isTurn C ou.op = false := by
    obtain ⟨e, h1, h2, _, _, _, hc⟩ := hsp ux ou hou
    rcases hc with ⟨hn, _⟩ | ⟨_, _, _, _, _, _, hc⟩
    · exact hn
    · exfalso
      have h3 := h2 eu heu
      rcases hc with ⟨_, r, _, _, _, _, he⟩ | ⟨_, _, he⟩
      · rw [h3, he] at hEu; cases hEu
      · rw [h3, he] at hEu; cases hEu
  have hnH : ∀ p h', (turnsOf C ops.toList 0)[p]? = some h' → h' ≠ ux := fun p h' hp e => by
    subst e
    obtain ⟨_, o', ho', ht⟩ := turnsOf_mem _ _ _ _ hp
    have ho2 : ops[h']? = some o' := by simpa using ho'
    rw [hou] at ho2; cases ho2
    rw [hnotT] at ht; cases ht
  have hsz : ∀ {L : Array Bool} {q : Nat}, L.size = ops.size → StInv (turnsOf C ops.toList 0) L q → q < qu → ∃ h, (turnsOf C ops.toList 0)[q]? = some h ∧ h < ops.size ∧ L.getD h false = false := fun {L q} hL hst hq => by
    have hql : q < (turnsOf C ops.toList 0).length := by omega
    have hq' : (turnsOf C ops.toList 0)[q]? = some ((turnsOf C ops.toList 0).getD q 0) := by simp [List.getD, hql]
    obtain ⟨_, o', ho', _⟩ := turnsOf_mem _ _ _ _ hq'
    refine ⟨_, hq', ?_, ?_⟩
    · have := (List.getElem?_eq_some_iff.1 ho').1
      simpa using this
    · cases hl : L.getD ((turnsOf C ops.toList 0).getD q 0) false with
      | false => rfl
      | true => have := (hst.2 q _ hq').1 hl; omega
  have hsti : ∀ {L : Array Bool} {q : Nat}, StInv (turnsOf C ops.toList 0) (L.setIfInBounds ux false) q ↔ StInv (turnsOf C ops.toList 0) L q := fun {L q} => by
    constructor <;> rintro ⟨h1, h2⟩ <;> refine ⟨h1, fun p h hp => ?_⟩
    · rw [← h2 p h hp, getD_setx_ne (Ne.symm (hnH p h hp))]
    · rw [getD_setx_ne (Ne.symm (hnH p h hp))]; exact h2 p h hp
  -- who hangs on the block comes later
  have hlate : ∀ {L : Array Bool} {q i : Nat}, StInv (turnsOf C ops.toList 0) L q → q < qu → L.size = ops.size → (∀ j, (maskAt (masks ops.toList []) i).testBit j = true → L.getD j false = true) → (maskAt (masks ops.toList []) i).testBit ux = false := fun {L q i} hst hq hL hd => by
    cases hb : (maskAt (masks ops.toList []) i).testBit ux with
    | false => rfl
    | true =>
      obtain ⟨h, hq', _, hf⟩ := hsz hL hst hq
      rw [hd h (hu3 i hb q h hq' hq)] at hf; cases hf
  have hget : ∀ d, ou.dst = some d → get (dstsOf ops.toList 0) d = some ux := fun d hd => huq ux eu heu d ((hdst ux eu heu ou hou).trans hd)
  intro fuel
  induction fuel with
  | zero =>
    intro L q ρ a w hL hu hcl hst hq hle h hp
    obtain ⟨h', _, hlt, hf⟩ := hsz hL hst hq
    have := unl_set hL hlt hf
    omega
  | succ fuel ih =>
    intro L q ρ a w hL hu hcl hst hq hle h hpend
    refine ⟨fun hr => ?_, fun i hi => ?_⟩
    · exfalso
      obtain ⟨h', _, hlt, hf⟩ := hsz hL hst hq
      have hleast : ∃ i, i < ops.size ∧ L.getD i false = false ∧ ∀ j, j < i → L.getD j false = true := by
        clear hr
        revert hlt hf
        generalize h' = i
        intro hlt hf
        induction i using Nat.strongRecOn with
        | _ i ihi =>
          by_cases hj : ∃ j, j < i ∧ L.getD j false = false
          · obtain ⟨j, hji, hjf⟩ := hj
            exact ihi j hji (by omega) hjf
          · refine ⟨i, hlt, hf, fun j hji => ?_⟩
            cases hq : L.getD j false with
            | true => rfl
            | false => exact absurd ⟨j, hji, hq⟩ hj
      obtain ⟨i0, hi0, hf0, hlt0⟩ := hleast
      have hready : i0 ∈ Region.ready .any ops L := by
        have hoi : ops[i0]? = some ops[i0] := by simp [hi0]
        refine mem_ready.2 ⟨by rw [getD_true_false (by omega)]; exact hf0, ops[i0], hoi, fun e he hb => ?_⟩
        have := acyc_spec _ 0 hac i0 ops[i0] (by simp [hi0]) e he hb
        exact hlt0 e.on (by omega)
      rw [hr] at hready; cases hready
    · obtain ⟨h1, o, ho, hdeps⟩ := mem_ready.1 hi
      have hin := (Array.getElem?_eq_some_iff.1 ho).1
      rw [getD_true_false (by omega)] at h1
      have hclos : ∀ j, (maskAt (masks ops.toList []) i).testBit j = true → L.getD j false = true := fun j hj => by
        obtain ⟨o2, ho2, e, he, hb, hcase⟩ := mask_bit _ hac i j hj
        have ho2' : ops[i]? = some o2 := by simpa using ho2
        rw [ho] at ho2'; cases ho2'
        have hel := hdeps e he hb
        rcases hcase with rfl | hcase
        · exact hel
        · exact hcl e.on hel j hcase
      have hiL : i < L.size := by omega
      have hunl : unl ops.size (L.setIfInBounds i true) ≤ fuel := by have := unl_set hL hin h1; omega
      have hcl' : ∀ k, (L.setIfInBounds i true).getD k false = true → ∀ j, (maskAt (masks ops.toList []) k).testBit j = true → (L.setIfInBounds i true).getD j false = true := fun k hk j hj => by
        by_cases hij : i = j
        · subst hij; simp [hiL]
        · rw [getD_setx_ne hij]
          by_cases hik : i = k
          · subst hik; exact hclos j hj
          · rw [getD_setx_ne hik] at hk; exact hcl k hk j hj
      have hnu := hlate hst hq hL hclos
      have hcl0 : ∀ k, (L.setIfInBounds ux false).getD k false = true → ∀ j, (maskAt (masks ops.toList []) k).testBit j = true → (L.setIfInBounds ux false).getD j false = true := fun k hk j hj => by
        obtain ⟨_, hk⟩ := setf_true hk
        have hne : ux ≠ j := fun e => by
          subst e
          have := hlate (i := k) hst hq hL (hcl k hk)
          rw [hj] at this; cases this
        rw [getD_setx_ne hne]; exact hcl k hk j hj
      have hdep0 : ∀ j, (maskAt (masks ops.toList []) i).testBit j = true → (L.setIfInBounds ux false).getD j false = true := fun j hj => by
        have hne : ux ≠ j := fun e => by subst e; rw [hj] at hnu; cases hnu
        rw [getD_setx_ne hne]; exact hclos j hj
      have hun0 : (L.setIfInBounds ux false).getD i false = false := by
        cases hc : (L.setIfInBounds ux false).getD i false with
        | false => rfl
        | true => rw [(setf_true hc).2] at h1; cases h1
      refine step_T hC hac hch hts hmem huq hdst hu1 hu2 hhard (L.setIfInBounds ux false) (by simp [hL]) hcl0 (hsti.2 hst) ho (hsp i o ho) hun0 hdep0 (.inr (setf_get _ _)) h fun ρ' a' w' q' hle' hst' h' hqq hput hap => ?_
      obtain ⟨v, hav, hnew⟩ := hput
      by_cases hiu : i = ux
      · -- the block is taken
        subst hiu
        rw [hou] at ho; cases ho
        rw [setf_same h1] at h hst' h' hap
        have hqe : q' = q := by
          rcases Nat.lt_or_ge q q' with hlt | hge
          · exfalso
            obtain ⟨hh, hq', _, hf⟩ := hsz hL hst hq
            have := (hst'.2 q hh hq').2 hlt
            rw [getD_setx_ne (Ne.symm (hnH q hh hq')), hf] at this; cases this
          · omega
        subst hqe
        obtain ⟨e, he, hvR, hn⟩ := hnew hnotT
        obtain rfl := huniq e he
        have hn0 : New ρ ρ [] w w' := ⟨hn.os, hn.tape, hn.output, hn.size, hn.block, Le.refl _, fun _ _ => rfl, fun _ _ h => (by simp at h), fun _ _ _ _ _ _ h => (by simp at h), fun _ _ _ h => (by simp at h), rfl⟩
        have hback : (L.setIfInBounds i true).setIfInBounds i false = L := by rw [Array.setIfInBounds_setIfInBounds, setf_same h1]
        have hne : ∀ d t, ou.dst = some d → d ≠ t → (a.put ou.dst v).tmps[t]? = a.tmps[t]? := fun d t hd hdt => by
          simp [hd, Act.put, Array.getElem?_setIfInBounds_ne hdt]
        have hsame : ∀ t, (∀ d, ou.dst = some d → d ≠ t) → (a.put ou.dst v).tmps[t]? = a.tmps[t]? := fun t ht => by
          cases hd : ou.dst with
          | none => rfl
          | some d => rw [← hd]; exact hne d t hd (ht d hd)
        have hdok : dstOk base.nt ou.dst = true := by obtain ⟨_, _, _, _, h5, _⟩ := hsp i ou hou; exact h5
        subst hav
        refine ih _ q' ρ _ w' (by simp [hL]) hunl hcl' hst' hq hle ?_ fun _ => ?_
        · rw [hback]
          refine ⟨(h.rel.new hn0).sub fun k b hk => .inr hk, fun j ej hj hjl d hd => ?_, fun t x hx ht => ?_, ?_, ?_, h.fresh⟩
          · obtain ⟨u, hu, hr⟩ := h.ent j ej hj hjl d hd
            refine ⟨u, ?_, hr⟩
            rw [hsame d fun d' hd' e => ?_]; exact hu
            subst e
            have h3 := hget d' hd'
            rw [huq j ej hj d' hd] at h3; cases h3
            rw [hjl] at h1; cases h1
          · obtain ⟨u, hu, hr⟩ := h.bas t x hx ht
            refine ⟨u, ?_, hr⟩
            rw [hsame t fun d' hd' e => ?_]; exact hu
            subst e
            rw [hbase d' hd'] at hx; cases hx
          · cases ou.dst <;> exact h.defers
          · cases ou.dst <;> simp [Act.put, h.sz]
        · rw [hback]
          obtain ⟨x, hx, hbR, hs⟩ := hn.blk (base.nk + 4 * i) bu (by rw [hEu]; simp)
          cases x with
          | none => obtain ⟨_, h2⟩ := hbR; rw [hutail] at h2; cases h2
          | some l =>
            have hge := hs l rfl
            have hll : l.lit = false := by
              cases hll : l.lit with
              | false => rfl
              | true => have := hn.lit (base.nk + 4 * i) bu l (by rw [hEu]; simp) hx hll; rw [huown] at this; cases this
            refine ⟨l, hll, ⟨hbR.lt, Nat.le_trans h.rel.size hge, fun k b l1 hk h1' => ?_, fun k l1 hk hlit => ?_⟩, fun k b hb ρ2 => ?_, fun d hd => ⟨v, ?_, fun ρ2 h2 => ?_⟩⟩
            · have := h.rel.lt hk h1'; omega
            · have := (h.rel.lit k l1 hk hlit).2.1; omega
            · rw [hEu] at hb
              simp only [List.mem_singleton, Prod.mk.injEq] at hb
              obtain ⟨_, rfl⟩ := hb
              exact lone_blk hbR hulone
            · have := dstOk_spec hdok d hd
              simp [hd, Act.put, Array.getElem?_setIfInBounds, h.sz, this]
            · rw [hvu] at hvR ⊢
              obtain ⟨l', hl', hv⟩ := hvR
              simp only at hl'
              rw [hx] at hl'; simp only [Option.some.injEq] at hl'; subst hl'
              exact ⟨l, h2, hv⟩
      · -- another one
        have hcomm : (L.setIfInBounds ux false).setIfInBounds i true = (L.setIfInBounds i true).setIfInBounds ux false := Array.setIfInBounds_comm _ _ (fun e => hiu e.symm)
        rw [hcomm] at hst' h' hap
        have hst2 := hsti.1 hst'
        have hpend' : (L.setIfInBounds i true).getD ux false = true → ∃ l, Pend X base.nk (masks ops.toList []) (turnsOf C ops.toList 0) ents ts ux ou.dst eu ((L.setIfInBounds i true).setIfInBounds ux false) q' ρ' a' w' l := fun hl => by
          rw [getD_setx_ne hiu] at hl
          obtain ⟨l, hp⟩ := hpend hl
          obtain ⟨g1, g2⟩ := hap hmine l.blk hp.ap
          refine ⟨l, hp.nl, g2, fun k b hb ρ2 => (hp.blk k b hb ρ2).keep (Le.refl _) fun l2 hl2 => by cases hl2; exact g1, fun d hd => ?_⟩
          obtain ⟨u, hu, hr⟩ := hp.tmp d hd
          refine ⟨u, ?_, hr⟩
          subst hav
          cases hod : o.dst with
          | none => exact hu
          | some d' =>
            have hne : d' ≠ d := fun e => by
              subst e
              obtain ⟨ei, hei, _, hed, _⟩ := hsp i o ho
              have h3 := huq i ei hei d' (hed.trans hod)
              rw [hget d' hd] at h3; cases h3
              exact hiu rfl
            simp [Act.put, Array.getElem?_setIfInBounds_ne hne, hu]
        by_cases hq' : q' < qu
        · exact ih _ q' ρ' a' w' (by simp [hL]) hunl hcl' hst2 hq' (hle.trans hle') h' hpend'
        · have hmain := fun (ρ2 : Ren) (hle2 : Le ρ' ρ2) (h2 : RelT X base (dstsOf ops.toList 0) (masks ops.toList []) (turnsOf C ops.toList 0) ents ts ops.size ux (L.setIfInBounds i true) q' ρ2 a' w') =>
            main_T (X := X) (ρ0 := ρ0) hC hac hch hts hmem huq hdst hu1 hu2 hhard hsp hQ fuel (L.setIfInBounds i true) q' ρ2 a' w' (by simp [hL]) hunl hcl' hst2 (by omega) ((hle.trans hle').trans hle2) h2
          cases hl : (L.setIfInBounds i true).getD ux false with
          | false =>
            rw [setf_same hl] at h'
            exact hmain ρ' (Le.refl _) h'
          | true =>
            obtain ⟨l, hp⟩ := hpend' hl
            have hk0 : ρ' (base.nk + 4 * ux) = none := by
              refine h'.fresh _ ?_ fun j hj hjh hjl hh => ?_
              · have hlo : lo (turnsOf C ops.toList 0) q' ≤ ux := by
                  cases q' with
                  | zero => exact Nat.zero_le _
                  | succ q1 =>
                    have h3 := hst2.1
                    have hq1 : (turnsOf C ops.toList 0)[q1]? = some ((turnsOf C ops.toList 0).getD q1 0) := by simp [List.getD, show q1 < (turnsOf C ops.toList 0).length by omega]
                    have h4 : q1 < qu := by
                      rcases Nat.lt_or_ge q1 qu with h | h
                      · exact h
                      · exfalso
                        have hdone := (hst'.2 q1 _ hq1).2 (by omega)
                        obtain ⟨_, hd1⟩ := setf_true hdone
                        by_cases hih : i = (turnsOf C ops.toList 0).getD q1 0
                        · have h5 := hu2 hux q1 _ hq1 h
                          rw [← hih, hnu] at h5; cases h5
                        · rw [getD_setx_ne hih] at hd1
                          have := (hst.2 q1 _ hq1).1 hd1
                          omega
                    have := hu1 hux q1 _ hq1 h4
                    show (turnsOf C ops.toList 0).getD q1 0 + 1 ≤ ux
                    omega
                omega
              · have := (setf_true hjl).1; omega
            refine hmain (upd ρ' (base.nk + 4 * ux) (some l)) (Le.upd _ hk0) ⟨?_, fun j ej hj hjl d hd => ?_, fun t x hx ht => ?_, h'.defers, h'.sz, fun k hk hno => ?_⟩
            · refine (h'.rel.bind hk0 (hp.blk (base.nk + 4 * ux) bu (by rw [hEu]; simp)) hp.nl hp.ap).sub fun k b hk => ?_
              rcases hk with hk | ⟨j, ej, hj, hjl, hjs, hkb⟩
              · exact .inr (.inl hk)
              · by_cases hju : j = ux
                · subst hju
                  rw [huniq ej hj, hEu] at hkb
                  simp only [List.mem_singleton, Prod.mk.injEq] at hkb
                  exact .inl hkb
                · refine .inr (.inr ⟨j, ej, hj, ?_, hjs, hkb⟩)
                  rw [getD_setx_ne (Ne.symm hju)]; exact hjl
            · by_cases hju : j = ux
              · subst hju
                obtain rfl := huniq ej hj
                obtain ⟨u, hu, hr⟩ := hp.tmp d ((hdst _ _ hj ou hou).symm.trans hd)
                exact ⟨u, hu, hr _ (upd_same _ _ _)⟩
              · obtain ⟨u, hu, hr⟩ := h'.ent j ej hj (by rw [getD_setx_ne (Ne.symm hju)]; exact hjl) d hd
                exact ⟨u, hu, hr.mono (Le.upd _ hk0)⟩
            · obtain ⟨u, hu, hr⟩ := h'.bas t x hx fun j hj => by
                have := ht j hj
                by_cases hju : ux = j
                · subst hju; exact setf_get _ _
                · rw [getD_setx_ne hju]; exact this
              exact ⟨u, hu, hr.mono (Le.upd _ hk0)⟩
            · have hne : k ≠ base.nk + 4 * ux := fun e => hno ux hux (.inr rfl) hl (by omega)
              rw [upd_ne _ _ hne]
              exact h'.fresh k hk fun j hj hjh hjl => hno j hj hjh (setf_true hjl).2
end

/-- Which block may be taken in whatever order: the first of those that stand among what turns something. -/
def findU (M H : List Nat) : List Oper → Nat → Option Nat
  | [], _ => none
  | o :: r, i => bif isAlo o.op && !(hardB M H i) then some i else findU M H r (i + 1)
def qOf (M H : List Nat) (u : Nat) : Nat := (H.filter fun h => !((maskAt M h).testBit u)).length
def dropT (d : Option Nat) (tmps : List (Nat × SV)) : List (Nat × SV) := match d with
  | some d => tmps.filter fun x => !(Nat.beq x.1 d)
  | none => tmps
theorem get_filter {α : Type} {d t : Nat} {v : α} : ∀ {l : List (Nat × α)}, get (l.filter fun x => !(Nat.beq x.1 d)) t = some v → get l t = some v ∧ t ≠ d
  | [], h => by simp [get] at h
  | (j, b) :: r, h => by
    rw [List.filter_cons] at h
    cases hj : Nat.beq j d with
    | true =>
      simp only [hj, Bool.not_true, Bool.false_eq_true, if_false] at h
      obtain ⟨h1, h2⟩ := get_filter h
      refine ⟨?_, h2⟩
      have := Nat.eq_of_beq_eq_true hj
      simp only [get, beq_of_ne (show j ≠ t by omega), cond_false]; exact h1
    | false =>
      simp only [hj, Bool.not_false, if_true] at h
      by_cases ht : j = t
      · subst ht
        simp only [get, beq_self, cond_true] at h ⊢
        refine ⟨h, fun e => ?_⟩
        rw [e, beq_self] at hj; cases hj
      · simp only [get, beq_of_ne ht, cond_false] at h ⊢
        exact get_filter h
theorem dropT_get {d : Option Nat} {tmps : List (Nat × SV)} {t : Nat} {v : SV} (h : get (dropT d tmps) t = some v) : get tmps t = some v ∧ d ≠ some t := by
  cases d with
  | none => exact ⟨h, by simp⟩
  | some d => obtain ⟨h1, h2⟩ := get_filter h; exact ⟨h1, fun e => by cases e; exact h2 rfl⟩
def dstAt (l : List Oper) (u : Nat) : Option Nat := match l[u]? with | some o => o.dst | none => none
/-- What must hold of the block's place among the others. -/
def orderU (M H : List Nat) (N u : Nat) : Bool :=
  (H.take (qOf M H u)).all (fun h => Nat.blt h u) && ((H.drop (qOf M H u)).all (fun h => (maskAt M h).testBit u) &&
  ((List.range N).all fun i => bif (maskAt M i).testBit u then (H.take (qOf M H u)).all fun h => (maskAt M i).testBit h else true))
def fromU : List Tab → Bool
  | T :: T' :: r => T.from T' && fromU (T' :: r)
  | _ => true
theorem fromU_get : ∀ {ts : List Tab} {s : Nat}, fromU ts = true → (ts.getD s []).from (ts.getD (s + 1) []) = true
  | [], _, _ => rfl
  | [T], 0, _ => rfl
  | [T], s + 1, _ => rfl
  | T :: T' :: r, 0, h => by
    simp only [fromU, Bool.and_eq_true] at h
    exact h.1
  | T :: T' :: r, s + 1, h => by
    simp only [fromU, Bool.and_eq_true] at h
    exact fromU_get (ts := T' :: r) h.2
def mineU (H : List Nat) (nk u : Nat) (p : PreT) : Bool :=
  (p.ts.all Tab.mine && fromU p.ts) && ((p.ents.all fun x => x.2.E.all fun y => y.2.mine) && ((p.ents.all fun x => bif H.any fun h => Nat.beq h x.1 then x.2.v.norow else true) &&
  match get p.ents u with | some e => aloE (nk + 4 * u) e.v e.E | none => false))
def anyU (P : Program) (C : List (Nat × Con)) (ops : Array Oper) (u : Nat) (s : RSt) : Option RSt :=
  let l := ops.toList
  let N := l.length
  let M := masks l []
  let H := turnsOf C l 0
  let dsts := dstsOf l 0
  let b : St := ⟨dropT (dstAt l u) s.st.tmps, s.st.tab, s.st.nk, s.st.nt⟩
  match preT P C b dsts M H N u l 0 ⟨[], [], [s.st.tab], bnd s.ob (acyc l 0 && (chainB M H && orderU M H N u)), s.obs, s.orc⟩ with
  | none => none
  | some p => match chkR P C b dsts M H N u p.ents p.ts p.recs (bnd p.ob (mineU H s.st.nk u p), p.obs) with
    | none => none
    | some (ob, obs) => some ⟨⟨putAll b.tmps p.ents, tabAt (p.ts.getD H.length []) p.ents (fun j => okStage M j H.length H 0), s.st.nk + 4 * N, s.st.nt⟩, ob, obs, p.orc⟩

theorem mask_out {l : List Oper} {i : Nat} (h : l.length ≤ i) : maskAt (masks l []) i = 0 := by
  unfold maskAt
  rw [masks_get]
  simp [List.getElem?_eq_none h]

theorem anyU_run {P : Program} {C : List (Nat × Con)} (hC : LibOK P C) {X : Cx} {ops : Array Oper} {u : Nat} {Q : Exit → Act → World → Prop} {s s' : RSt} {ρ : Ren} {a : Act} {w : World} (h : anyU P C ops u s = some s') (hob : s'.ob = true) (hobs : All s'.obs)
    (hrel : RelA X ρ s.st a w) (hQ : ∀ ρ' a' w', Le ρ ρ' → RelA X ρ' s'.st a' w' → Q .normal a' w') : wpAny P .any ops Q ops.size (Array.replicate ops.size false) a w := by
  unfold anyU at h
  simp only at h
  split at h <;> try (cases h; done)
  rename_i p hp
  split at h <;> try (cases h; done)
  rename_i ob obs hck
  simp only [Option.some.injEq] at h; subst h
  obtain ⟨pob, pobs, hcs⟩ := chkR_spec _ _ _ hck hob hobs
  simp only [bnd_true] at pob
  obtain ⟨pob, hmU⟩ := pob
  obtain ⟨m1, m2, m3, m4, m5, m6, m7, m8⟩ := preT_spec (H := turnsOf C ops.toList 0) _ _ _ _ [] hp pob pobs rfl rfl (fun j e hj => by simp at hj)
  simp only [bnd_true, Bool.and_eq_true] at m1
  obtain ⟨_, hac, hch, hord⟩ := m1
  unfold orderU at hord
  simp only [Bool.and_eq_true] at hord
  obtain ⟨ho1, ho2, ho3⟩ := hord
  unfold mineU at hmU
  simp only [Bool.and_eq_true] at hmU
  obtain ⟨⟨hm1, hmf⟩, hm2, hm3, hm4⟩ := hmU
  have hlen : ops.toList.length = ops.size := by simp
  have hmem : ∀ j e, (j, e) ∈ p.ents → j < ops.size := fun j e hj => by
    rcases m7 j e hj with hj | hj
    · simp at hj
    · omega
  obtain ⟨eu, hge, hea⟩ : ∃ e, get p.ents u = some e ∧ aloE (s.st.nk + 4 * u) e.v e.E = true := by
    split at hm4
    · rename_i e he; exact ⟨e, he, hm4⟩
    · cases hm4
  have heu := get_mem hge
  have hu := hmem u eu heu
  have hou : ops[u]? = some ops[u] := by simp [hu]
  have hsp : ∀ i o, ops[i]? = some o → SpecA P C ⟨dropT (dstAt ops.toList u) s.st.tmps, s.st.tab, s.st.nk, s.st.nt⟩ (dstsOf ops.toList 0) (masks ops.toList []) (turnsOf C ops.toList 0) ops.size u p.ents p.ts i o := fun i o ho => by
    have := m8 i o (by simpa using ho)
    rw [Nat.zero_add, hlen] at this
    rw [hlen] at hcs
    exact specA_of this hcs
  have hget : ∀ j, j < ops.size → ∃ o, ops[j]? = some o := fun j hj => ⟨ops[j], by simp [hj]⟩
  have hdst : ∀ j e, (j, e) ∈ p.ents → ∀ o, ops[j]? = some o → e.dst = o.dst := fun j e hj o ho => by
    obtain ⟨e', hie, huni, hed, _⟩ := hsp j o ho
    rw [huni e hj]; exact hed
  have huq : ∀ j e, (j, e) ∈ p.ents → ∀ d, e.dst = some d → get (dstsOf ops.toList 0) d = some j := fun j e hj d hd => by
    obtain ⟨o, ho⟩ := hget j (hmem j e hj)
    obtain ⟨e', hie, huni, hed, _, hunq, _⟩ := hsp j o ho
    rw [huni e hj, hed] at hd
    rw [hd] at hunq
    simp only [uniq] at hunq
    split at hunq
    · rename_i q hq; rw [hq, Nat.eq_of_beq_eq_true hunq]
    · cases hunq
  have hhard : ∀ j e, (j, e) ∈ p.ents → hardB (masks ops.toList []) (turnsOf C ops.toList 0) j = true ∨ e.E = [] ∨ j = u := fun j e hj => by
    obtain ⟨o, ho⟩ := hget j (hmem j e hj)
    obtain ⟨e', hie, huni, _, _, _, hcase⟩ := hsp j o ho
    rw [huni e hj]
    rcases hcase with ⟨_, _, _, ⟨_, hh, _⟩ | ⟨_, he⟩⟩ | ⟨_, _, _, _, _, hh, _⟩
    · exact hh.imp id fun h => h.imp id And.left
    · exact .inr (.inl (by rw [he]))
    · exact .inl hh
  have hnl : ∀ j, (Array.replicate ops.size false).getD j false = false := fun j => by simp [Array.getD]
  have hmine : Mine C ops p.ents p.ts := by
    refine ⟨fun s => ⟨?_, fromU_get hmf⟩, fun j e hj x hx => List.all_eq_true.1 (List.all_eq_true.1 hm2 _ hj) x hx, fun q h hq e he => ?_⟩
    · cases hs : p.ts[s]? with
      | none => simp [List.getD, hs, Tab.mine]
      | some T => simp only [List.getD, hs, Option.getD_some]; exact List.all_eq_true.1 hm1 T (List.mem_of_getElem? hs)
    · have := List.all_eq_true.1 hm3 _ he
      rw [show (turnsOf C ops.toList 0).any (fun h' => Nat.beq h' h) = true from List.any_eq_true.2 ⟨h, List.mem_of_getElem? hq, beq_self h⟩] at this
      exact this
  have hqle : qOf (masks ops.toList []) (turnsOf C ops.toList 0) u ≤ (turnsOf C ops.toList 0).length := List.length_filter_le _ _
  have hu1 : u < ops.size → ∀ (q h : Nat), (turnsOf C ops.toList 0)[q]? = some h → q < qOf (masks ops.toList []) (turnsOf C ops.toList 0) u → h < u := fun _ q h hq hlt => by
    have := List.all_eq_true.1 ho1 h (List.mem_of_getElem? (by rw [List.getElem?_take_of_lt hlt]; exact hq))
    simpa using this
  have hu2 : u < ops.size → ∀ (q h : Nat), (turnsOf C ops.toList 0)[q]? = some h → qOf (masks ops.toList []) (turnsOf C ops.toList 0) u ≤ q → (maskAt (masks ops.toList []) h).testBit u = true := fun _ q h hq hle => by
    refine List.all_eq_true.1 ho2 h (List.mem_of_getElem? (i := q - qOf (masks ops.toList []) (turnsOf C ops.toList 0) u) ?_)
    rw [List.getElem?_drop, show qOf (masks ops.toList []) (turnsOf C ops.toList 0) u + (q - qOf (masks ops.toList []) (turnsOf C ops.toList 0) u) = q by omega]; exact hq
  have hu3 : ∀ i, (maskAt (masks ops.toList []) i).testBit u = true → ∀ (q h : Nat), (turnsOf C ops.toList 0)[q]? = some h → q < qOf (masks ops.toList []) (turnsOf C ops.toList 0) u → (maskAt (masks ops.toList []) i).testBit h = true := fun i hi q h hq hlt => by
    have hiN : i < ops.toList.length := by
      rcases Nat.lt_or_ge i ops.toList.length with h | h
      · exact h
      · rw [mask_out h] at hi; simp at hi
    have := List.all_eq_true.1 ho3 i (List.mem_range.2 hiN)
    rw [hi, cond_true] at this
    exact List.all_eq_true.1 this h (List.mem_of_getElem? (by rw [List.getElem?_take_of_lt hlt]; exact hq))
  have hbd : ∀ d, ops[u].dst = some d → get (dropT (dstAt ops.toList u) s.st.tmps) d = none := fun d hd => by
    cases hg : get (dropT (dstAt ops.toList u) s.st.tmps) d with
    | none => rfl
    | some v =>
      have h1 := (dropT_get hg).2
      have h2 : dstAt ops.toList u = ops[u].dst := by
        unfold dstAt
        have : ops.toList[u]? = some ops[u] := by rw [Array.getElem?_toList]; exact hou
        rw [this]
      rw [h2, hd] at h1; exact absurd rfl h1
  obtain ⟨t, ht⟩ := m5
  have ht0 : p.ts.getD 0 [] = s.st.tab := by rw [ht]; rfl
  have hstart : RelT X ⟨dropT (dstAt ops.toList u) s.st.tmps, s.st.tab, s.st.nk, s.st.nt⟩ (dstsOf ops.toList 0) (masks ops.toList []) (turnsOf C ops.toList 0) p.ents p.ts ops.size u (Array.replicate ops.size false) 0 ρ a w := by
    refine ⟨hrel.rel.sub fun k b hk => ?_, fun j e _ hl => ?_, fun t v hv _ => hrel.tmps t v (dropT_get hv).1, hrel.defers, hrel.sz, fun k hk _ => hrel.fresh k (by simpa [lo] using hk)⟩
    · rcases hk with hk | ⟨j, e, _, hl, _⟩
      · rw [ht0] at hk; exact hk
      · rw [hnl] at hl; cases hl
    · rw [hnl] at hl; cases hl
  have hst0 : StInv (turnsOf C ops.toList 0) (Array.replicate ops.size false) 0 := ⟨Nat.zero_le _, fun q h _ => by rw [hnl]; simp⟩
  have hunl : unl ops.size (Array.replicate ops.size false) ≤ ops.size := by
    unfold unl
    exact Nat.le_trans (List.length_filter_le _ _) (by simp)
  have hcl0 : ∀ i, (Array.replicate ops.size false).getD i false = true → ∀ j, (maskAt (masks ops.toList []) i).testBit j = true → (Array.replicate ops.size false).getD j false = true := fun i hi => by rw [hnl] at hi; cases hi
  have hfin : ∀ (ρ' : Ren) (a' : Act) (w' : World), Le ρ ρ' → RelA X ρ' ⟨putAll (dropT (dstAt ops.toList u) s.st.tmps) p.ents, tabAt (p.ts.getD (turnsOf C ops.toList 0).length []) p.ents (fun j => okStage (masks ops.toList []) j (turnsOf C ops.toList 0).length (turnsOf C ops.toList 0) 0), s.st.nk + 4 * ops.size, s.st.nt⟩ a' w' → Q .normal a' w' := fun ρ' a' w' hle hA => hQ ρ' a' w' hle (by rw [hlen]; exact hA)
  by_cases hq : 0 < qOf (masks ops.toList []) (turnsOf C ops.toList 0) u
  · refine main_U (X := X) (base := ⟨dropT (dstAt ops.toList u) s.st.tmps, s.st.tab, s.st.nk, s.st.nt⟩) (ρ0 := ρ) (ux := u) (qu := qOf (masks ops.toList []) (turnsOf C ops.toList 0) u) hC hac hch m6 hmem huq hdst hu1 hu2 hu3 hqle hmine hou heu hea hbd hhard hsp hfin ops.size _ 0 ρ a w (by simp) hunl hcl0 hst0 hq (Le.refl _) ?_ ?_
    · rw [setf_same (hnl u)]; exact hstart
    · intro h; rw [hnl] at h; cases h
  · exact main_T (X := X) (base := ⟨dropT (dstAt ops.toList u) s.st.tmps, s.st.tab, s.st.nk, s.st.nt⟩) (ρ0 := ρ) (ux := u) (qu := qOf (masks ops.toList []) (turnsOf C ops.toList 0) u) hC hac hch m6 hmem huq hdst hu1 hu2 hhard hsp hfin ops.size _ 0 ρ a w (by simp) hunl hcl0 hst0 (by omega) (Le.refl _) hstart

theorem anyU_mono {P : Program} {C : List (Nat × Con)} {ops : Array Oper} {u : Nat} {s s' : RSt} (h : anyU P C ops u s = some s') (h1 : s'.ob = true) (h2 : All s'.obs) : s.ob = true ∧ All s.obs := by
  unfold anyU at h
  simp only at h
  split at h <;> try (cases h; done)
  rename_i p hp
  split at h <;> try (cases h; done)
  rename_i ob obs hck
  simp only [Option.some.injEq] at h; subst h
  obtain ⟨pob, pobs, _⟩ := chkR_spec _ _ _ hck h1 h2
  simp only [bnd_true] at pob
  obtain ⟨m1, m2, _⟩ := preT_spec (H := turnsOf C ops.toList 0) _ _ _ _ [] hp pob.1 pobs rfl rfl (fun j e hj => by simp at hj)
  simp only [bnd_true, Bool.and_eq_true] at m1
  exact ⟨m1.1, m2⟩

/-- A region in any order: where all behind the first that turns something is forced, that goes in the order of the text. -/
def anyF (P : Program) (C : List (Nat × Con)) (ops : Array Oper) (s : RSt) : Option RSt :=
  match forcedFrom (masks ops.toList []) (headLen C ops.toList) (ops.toList.length - headLen C ops.toList) with
  | true => anyR P C ops s
  | false => match findU (masks ops.toList []) (turnsOf C ops.toList 0) ops.toList 0 with
    | none => anyT P C ops s
    | some u => anyU P C ops u s
theorem anyF_run {P : Program} {C : List (Nat × Con)} (hC : LibOK P C) {X : Cx} {ops : Array Oper} {Q : Exit → Act → World → Prop} {s s' : RSt} {ρ : Ren} {a : Act} {w : World} (h : anyF P C ops s = some s') (hob : s'.ob = true) (hobs : All s'.obs)
    (hrel : RelA X ρ s.st a w) (hQ : ∀ ρ' a' w', Le ρ ρ' → RelA X ρ' s'.st a' w' → Q .normal a' w') : wpAny P .any ops Q ops.size (Array.replicate ops.size false) a w := by
  unfold anyF at h
  split at h
  · exact anyR_run hC h hob hobs hrel hQ
  · split at h
    · exact anyT_run hC h hob hobs hrel hQ
    · exact anyU_run hC h hob hobs hrel hQ

end Go.Proofs.Ytkpdkfeklecehaa.Sx
