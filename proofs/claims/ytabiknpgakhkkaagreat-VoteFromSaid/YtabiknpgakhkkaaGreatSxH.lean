/-
  A region that draws its order: operations that turn nothing in whatever order the edges allow; behind them such as come one behind the other. A region that draws its order, where operations that turn something come one behind the other, and others may come before or behind them. The executor's way through a function's code; contracts of functions that it walks through.
-/
import Derived.Test.YtabiknpgakhkkaaGreatSxF
set_option maxRecDepth 20000
section
namespace Go.Proofs.YtabiknpgakhkkaaGreat.Sx
open Go.RowKit
set_option linter.unusedVariables false
set_option linter.unusedSimpArgs false

/-- What an operation hangs on, as bits. -/
def maskOf (acc : List Nat) (o : Oper) : Nat :=
  o.after.toList.foldl (fun s e => bif Region.binds .any e then s ||| (2 ^ e.on ||| acc.getD e.on 0) else s) 0
def masks : List Oper → List Nat → List Nat
  | [], acc => acc
  | o :: r, acc => masks r (acc ++ [maskOf acc o])

theorem maskOf_bit (acc : List Nat) (o : Oper) (j : Nat) (h : (maskOf acc o).testBit j = true) : ∃ e ∈ o.after, Region.binds .any e = true ∧ (e.on = j ∨ (acc.getD e.on 0).testBit j = true) := by
  unfold maskOf at h
  have key : ∀ (l : List Edge) (s : Nat), (l.foldl (fun s e => bif Region.binds .any e then s ||| (2 ^ e.on ||| acc.getD e.on 0) else s) s).testBit j = true →
      s.testBit j = true ∨ ∃ e ∈ l, Region.binds .any e = true ∧ (e.on = j ∨ (acc.getD e.on 0).testBit j = true) := by
    intro l
    induction l with
    | nil => intro s h; exact .inl h
    | cons e l ih =>
      intro s h
      simp only [List.foldl_cons] at h
      rcases ih _ h with h | ⟨e', he', hb⟩
      · cases hbind : Region.binds .any e with
        | false => rw [hbind] at h; exact .inl h
        | true =>
          rw [hbind, cond_true, Nat.testBit_or, Nat.testBit_or, Nat.testBit_two_pow] at h
          simp only [Bool.or_eq_true, decide_eq_true_eq] at h
          rcases h with h | h
          · exact .inl h
          · exact .inr ⟨e, by simp, hbind, h⟩
      · exact .inr ⟨e', by simp [he'], hb⟩
  rcases key _ _ h with h | ⟨e, he, hb⟩
  · simp at h
  · exact ⟨e, by simpa using he, hb⟩

theorem masks_get : ∀ (l : List Oper) (acc : List Nat) (i : Nat), (masks l acc).getD i 0 = if i < acc.length then acc.getD i 0 else match l[i - acc.length]? with
    | some o => maskOf ((masks l acc).take i) o
    | none => 0
  | [], acc, i => by
    simp only [masks, List.getElem?_nil]
    split
    · rfl
    · rename_i h; simp [List.getD, List.getElem?_eq_none (Nat.le_of_not_lt h)]
  | o :: r, acc, i => by
    have ih := masks_get r (acc ++ [maskOf acc o]) i
    simp only [masks]
    rw [ih]
    have hpre : ∀ (l : List Oper) (acc : List Nat), (masks l acc).take acc.length = acc := by
      intro l
      induction l with
      | nil => intro acc; simp [masks]
      | cons o l ihl => intro acc; simp only [masks]; have := ihl (acc ++ [maskOf acc o]); rw [List.length_append] at this; simp only [List.length_singleton] at this; have h2 := congrArg (List.take acc.length) this; rw [List.take_take] at h2; simpa using h2
    by_cases h1 : i < acc.length
    · rw [if_pos h1, if_pos (by simp; omega)]
      simp [List.getD, List.getElem?_append_left h1]
    · rw [if_neg h1]
      by_cases h2 : i = acc.length
      · subst h2
        rw [if_pos (by simp)]
        simp only [Nat.sub_self, List.getElem?_cons_zero]
        have := hpre (o :: r) acc
        simp only [masks] at this
        rw [this]
        simp [List.getD]
      · rw [if_neg (by simp; omega)]
        have : i - acc.length = (i - (acc ++ [maskOf acc o]).length) + 1 := by simp; omega
        rw [this, List.getElem?_cons_succ]

def maskAt (M : List Nat) (i : Nat) : Nat := M.getD i 0

/-- Each edge leads back. -/
def acyc (l : List Oper) (i : Nat) : Bool :=
  match l with
  | [] => true
  | o :: r => (o.after.toList.all fun e => !(Region.binds .any e) || Nat.blt e.on i) && acyc r (i + 1)
theorem acyc_spec : ∀ (l : List Oper) (i : Nat), acyc l i = true → ∀ j o, l[j]? = some o → ∀ e ∈ o.after, Region.binds .any e = true → e.on < i + j
  | [], _, _, _, _, h, _, _, _ => by simp at h
  | o :: r, i, h, j, o', ho, e, he, hb => by
    simp only [acyc, Bool.and_eq_true, List.all_eq_true] at h
    cases j with
    | zero =>
      simp at ho; subst ho
      have := h.1 e (by simpa using he)
      simpa [hb, Nat.blt_eq] using this
    | succ j =>
      simp at ho
      have := acyc_spec r (i + 1) h.2 j o' ho e he hb
      omega

theorem mask_bit (l : List Oper) (hac : acyc l 0 = true) (i j : Nat) (h : (maskAt (masks l []) i).testBit j = true) : ∃ o, l[i]? = some o ∧ ∃ e ∈ o.after, Region.binds .any e = true ∧ (e.on = j ∨ (maskAt (masks l []) e.on).testBit j = true) := by
  unfold maskAt at h
  rw [masks_get] at h
  simp only [List.length_nil, Nat.not_lt_zero, if_false, Nat.sub_zero] at h
  split at h
  · rename_i o ho
    refine ⟨o, ho, ?_⟩
    obtain ⟨e, he, hb, hj⟩ := maskOf_bit _ _ _ h
    refine ⟨e, he, hb, hj.imp id fun hj => ?_⟩
    have hlt : e.on < i := by simpa using acyc_spec l 0 hac i o ho e he hb
    unfold maskAt
    rw [List.getD, List.getElem?_take_of_lt hlt] at hj
    exact hj
  · simp at h

/-- An operation that has been evaluated. -/
structure Ent where
  dst : Option Nat
  v : SV
  E : List (Nat × Blk)

def dstsOf : List Oper → Nat → List (Nat × Nat)
  | [], _ => []
  | o :: r, i => match o.dst with
    | some d => (d, i) :: dstsOf r (i + 1)
    | none => dstsOf r (i + 1)
theorem dstsOf_get : ∀ (l : List Oper) (i t j : Nat), get (dstsOf l i) t = some j → i ≤ j ∧ ∃ o, l[j - i]? = some o ∧ o.dst = some t
  | [], _, _, _, h => by simp [dstsOf, get] at h
  | o :: r, i, t, j, h => by
    unfold dstsOf at h
    split at h
    · rename_i d hd
      by_cases hdt : d = t
      · subst hdt
        simp [get] at h; subst h
        exact ⟨Nat.le_refl _, o, by simp, hd⟩
      · simp only [get, beq_of_ne hdt, cond_false] at h
        obtain ⟨h1, o', ho', hd'⟩ := dstsOf_get r (i + 1) t j h
        refine ⟨by omega, o', ?_, hd'⟩
        have : j - i = (j - (i + 1)) + 1 := by omega
        rw [this, List.getElem?_cons_succ]; exact ho'
    · obtain ⟨h1, o', ho', hd'⟩ := dstsOf_get r (i + 1) t j h
      refine ⟨by omega, o', ?_, hd'⟩
      have : j - i = (j - (i + 1)) + 1 := by omega
      rw [this, List.getElem?_cons_succ]; exact ho'

/-- What an operand reads as when an operation's turn comes. -/
def evAt (base : List (Nat × SV)) (ents : List (Nat × Ent)) (dsts : List (Nat × Nat)) (M : List Nat) (i : Nat) : Operand → SV
  | .tmp t => match get dsts t with
    | some j => bif (maskAt M i).testBit j then (match get ents j with | some e => e.v | none => .und)
      else bif (maskAt M j).testBit i then sev base (.tmp t) else .und
    | none => sev base (.tmp t)
  | x => sev base x

def tabAt (base : Tab) : List (Nat × Ent) → (Nat → Bool) → Tab
  | [], _ => base
  | (j, e) :: r, p => bif p j then addAll (tabAt base r p) e.E else tabAt base r p

theorem tabAt_blk (base : Tab) : ∀ (ents : List (Nat × Ent)) (p : Nat → Bool) (k : Nat) (b : Blk), (tabAt base ents p).blk k = some b → (∃ j e, (j, e) ∈ ents ∧ p j = true ∧ (k, b) ∈ e.E) ∨ base.blk k = some b
  | [], p, k, b, h => .inr h
  | (j, e) :: r, p, k, b, h => by
    simp only [tabAt] at h
    cases hp : p j with
    | false =>
      rw [hp, cond_false] at h
      rcases tabAt_blk base r p k b h with ⟨j', e', h1, h2⟩ | h
      · exact .inl ⟨j', e', by simp [h1], h2⟩
      · exact .inr h
    | true =>
      rw [hp, cond_true] at h
      rcases blk_addAll h with h | ⟨_, h⟩
      · exact .inl ⟨j, e, by simp, hp, h⟩
      · rcases tabAt_blk base r p k b h with ⟨j', e', h1, h2⟩ | h
        · exact .inl ⟨j', e', by simp [h1], h2⟩
        · exact .inr h

def valsAt (ents : List (Nat × Ent)) (M : List Nat) (i j : Nat) : SV :=
  bif (maskAt M i).testBit j then (match get ents j with
    | some e => match e.dst with
      | some _ => e.v
      | none => .und
    | none => .und)
  else .und

structure Pre where
  ents : List (Nat × Ent)
  ob : Bool
  obs : List Prop
  orc : Orc

def uniq (dsts : List (Nat × Nat)) (dst : Option Nat) (i : Nat) : Bool :=
  match dst with
  | some d => match get dsts d with
    | some j => Nat.beq j i
    | none => false
  | none => true

/-- The operations that turn nothing, one by one, each as its turn may come first. -/
def preR (P : Program) (C : List (Nat × Con)) (base : St) (dsts : List (Nat × Nat)) (M : List Nat) : List Oper → Nat → Pre → Option Pre
  | [], _, s => some s
  | o :: rest, i, s => match guardS (valsAt s.ents M i) o.guard s.orc with
    | none => none
    | some (g, true, orc) => match effOf P C o.op (evAt base.tmps s.ents dsts M i) (tabAt base.tab s.ents (maskAt M i).testBit) (base.nk + 4 * i) with
      | some (.new r) => preR P C base dsts M rest (i + 1) ⟨(i, ⟨o.dst, r.v, r.E⟩) :: s.ents, bnd s.ob (g && (dstOk base.nt o.dst && (uniq dsts o.dst i && (keysOk (base.nk + 4 * i) r.E && r.ob)))), r.obs ++ s.obs, orc⟩
      | _ => none
    | some (g, false, orc) => preR P C base dsts M rest (i + 1) ⟨(i, ⟨o.dst, .tup [], []⟩) :: s.ents, bnd s.ob (g && (dstOk base.nt o.dst && uniq dsts o.dst i)), s.obs, orc⟩

def headLen (C : List (Nat × Con)) : List Oper → Nat
  | [] => 0
  | o :: r => bif isTurn C o.op then 0 else headLen C r + 1

def forcedFrom (M : List Nat) : Nat → Nat → Bool
  | _, 0 => true
  | m, k + 1 => Nat.beq (maskAt M m) (2 ^ m - 1) && forcedFrom M (m + 1) k

def putAll (tm : List (Nat × SV)) : List (Nat × Ent) → List (Nat × SV)
  | [] => tm
  | (_, e) :: r => putS (putAll tm r) e.dst e.v

/-- A region in any order. -/
def anyR (P : Program) (C : List (Nat × Con)) (ops : Array Oper) (s : RSt) : Option RSt :=
  let l := ops.toList
  let N := headLen C l
  let M := masks l []
  let dsts := dstsOf (l.take N) 0
  match preR P C s.st dsts M (l.take N) 0 ⟨[], bnd s.ob (acyc l 0 && forcedFrom M N (l.length - N)), s.obs, s.orc⟩ with
  | none => none
  | some p => seqR P C ops (l.drop N) ⟨⟨putAll s.st.tmps p.ents, tabAt s.st.tab p.ents (fun _ => true), s.st.nk + 4 * N, s.st.nt⟩, p.ob, p.obs, p.orc⟩

def unl (n : Nat) (L : Array Bool) : Nat := ((List.range n).filter fun i => !(L.getD i false)).length

theorem filter_lt {p q : Nat → Bool} : ∀ (l : List Nat), (∀ i ∈ l, q i = true → p i = true) → (∃ i ∈ l, p i = true ∧ q i = false) → (l.filter q).length < (l.filter p).length
  | [], _, ⟨i, h, _⟩ => by simp at h
  | x :: l, h, ⟨i, hi, hp, hq⟩ => by
    have hle : ∀ (l : List Nat), (∀ i ∈ l, q i = true → p i = true) → (l.filter q).length ≤ (l.filter p).length := by
      intro l
      induction l with
      | nil => intro _; simp
      | cons y l ih =>
        intro h
        have ih' := ih fun i hi => h i (by simp [hi])
        cases hqy : q y with
        | true => have hpy := h y (by simp) hqy; simp [List.filter_cons, hqy, hpy, ih']
        | false => cases hpy : p y <;> simp [List.filter_cons, hqy, hpy] <;> omega
    rcases List.mem_cons.1 hi with rfl | hi
    · have := hle l fun j hj => h j (by simp [hj])
      simp [List.filter_cons, hp, hq]; omega
    · have ih := filter_lt l (fun j hj => h j (by simp [hj])) ⟨i, hi, hp, hq⟩
      cases hqx : q x with
      | true => have hpx := h x (by simp) hqx; simp [List.filter_cons, hqx, hpx]; omega
      | false => cases hpx : p x <;> simp [List.filter_cons, hqx, hpx] <;> omega

theorem unl_set {n i : Nat} {L : Array Bool} (hs : L.size = n) (hi : i < n) (hu : L.getD i false = false) : unl n (L.setIfInBounds i true) < unl n L := by
  unfold unl
  refine filter_lt _ (fun j _ hj => ?_) ⟨i, by simpa using hi, by simp [hu], ?_⟩
  · by_cases hij : i = j
    · subst hij; simp [hu]
    · rw [getD_set_ne false hij] at hj; exact hj
  · have : (L.setIfInBounds i true).getD i false = true := by simp [hs, hi]
    rw [this]; rfl

theorem getD_true_false {L : Array Bool} {j : Nat} (h : j < L.size) : L.getD j true = L.getD j false := by
  simp [h]

theorem forcedFrom_spec {M : List Nat} : ∀ {k m : Nat}, forcedFrom M m k = true → ∀ i, m ≤ i → i < m + k → ∀ j, j < i → (maskAt M i).testBit j = true
  | 0, m, _, i, h1, h2, _, _ => by omega
  | k + 1, m, h, i, h1, h2, j, hj => by
    simp only [forcedFrom, Bool.and_eq_true] at h
    rcases Nat.eq_or_lt_of_le h1 with rfl | h1
    · rw [Nat.eq_of_beq_eq_true h.1, Nat.testBit_two_pow_sub_one]; simpa using hj
    · exact forcedFrom_spec h.2 i h1 (by omega) j hj

section
variable {P : Program} {ops : Array Oper} {Q : Exit → Act → World → Prop}

theorem tail_run {N : Nat} (hac : acyc ops.toList 0 = true) (hfo : forcedFrom (masks ops.toList []) N (ops.size - N) = true) : ∀ (fuel m : Nat) (L : Array Bool) (a : Act) (w : World), L.size = ops.size → (∀ j, j < ops.size → (L.getD j false = true ↔ j < m)) → N ≤ m → m ≤ ops.size → ops.size - m ≤ fuel →
    wpList P ops Q (ops.toList.drop m) a w → wpAny P .any ops Q fuel L a w := by
  intro fuel
  induction fuel with
  | zero =>
    intro m L a w hL hl hN hm hf h
    have hmn : m = ops.size := by omega
    subst hmn
    rw [List.drop_eq_nil_of_le (by simp)] at h
    refine ⟨?_, h⟩
    rw [List.eq_nil_iff_forall_not_mem]
    intro j hj
    obtain ⟨h1, o, ho, _⟩ := mem_ready.1 hj
    have hjn := (Array.getElem?_eq_some_iff.1 ho).1
    rw [getD_true_false (by omega), (hl j hjn).2 hjn] at h1
    cases h1
  | succ fuel ih =>
    intro m L a w hL hl hN hm hf h
    by_cases hmn : m = ops.size
    · subst hmn
      rw [List.drop_eq_nil_of_le (by simp)] at h
      refine ⟨fun _ => h, fun j hj => ?_⟩
      obtain ⟨h1, o, ho, _⟩ := mem_ready.1 hj
      have hjn := (Array.getElem?_eq_some_iff.1 ho).1
      rw [getD_true_false (by omega), (hl j hjn).2 hjn] at h1
      cases h1
    · have hlt : m < ops.size := by omega
      have hom : ops[m]? = some ops[m] := by simp [hlt]
      have hd : ops.toList.drop m = ops[m] :: ops.toList.drop (m + 1) := by
        rw [List.drop_eq_getElem_cons (by simpa using hlt)]; simp
      rw [hd] at h
      have hmr : m ∈ Region.ready .any ops L := by
        refine mem_ready.2 ⟨?_, ops[m], hom, fun e he hb => ?_⟩
        · rw [getD_true_false (by omega)]
          cases hq : L.getD m false with
          | false => rfl
          | true => have := (hl m hlt).1 hq; omega
        · have := acyc_spec _ 0 hac m ops[m] (by simp [hlt]) e he hb
          exact (hl e.on (by omega)).2 (by omega)
      refine ⟨fun h0 => (by rw [h0] at hmr; cases hmr), fun j hj => ?_⟩
      obtain ⟨h1, o, ho, hall⟩ := mem_ready.1 hj
      have hjn := (Array.getElem?_eq_some_iff.1 ho).1
      have hjm : j = m := by
        rw [getD_true_false (by omega)] at h1
        have hge : ¬ j < m := fun hh => by rw [(hl j hjn).2 hh] at h1; cases h1
        rcases Nat.eq_or_lt_of_le (Nat.le_of_not_lt hge) with h | hgt
        · exact h.symm
        · -- j hangs on m
          exfalso
          have key : ∀ k, k < ops.size → (maskAt (masks ops.toList []) k).testBit m = true → (∀ o, ops[k]? = some o → ∀ e ∈ o.after, Region.binds .any e = true → L.getD e.on false = true) → False := by
            intro k
            induction k using Nat.strongRecOn with
            | _ k ihk =>
              intro hk hbit hlist
              obtain ⟨o, ho, e, he, hb, hcase⟩ := mask_bit _ hac k m hbit
              have ho' : ops[k]? = some o := by simpa using ho
              have hel := hlist o ho' e he hb
              have helt : e.on < k := by simpa using acyc_spec _ 0 hac k o ho e he hb
              have hem := (hl e.on (by omega)).1 hel
              rcases hcase with rfl | hcase
              · omega
              · exact ihk e.on helt (by omega) hcase fun o2 ho2 e2 he2 hb2 => by
                  have := acyc_spec _ 0 hac e.on o2 (by simpa using ho2) e2 he2 hb2
                  exact (hl e2.on (by omega)).2 (by omega)
          exact key j hjn (forcedFrom_spec hfo j (by omega) (by omega) m hgt) fun o2 ho2 => by
            rw [ho] at ho2; cases ho2; exact hall
      subst hjm
      have hop : wpOp P ops Q j (wpList P ops Q (ops.toList.drop (j + 1))) a w := by
        unfold wpOp
        rw [hom]
        exact h
      refine wpOp_mono (fun a' w' h' => ih (j + 1) _ a' w' (by simp [hL]) (fun k hk => ?_) (by omega) (by omega) (by omega) h') hop
      by_cases hkj : j = k
      · subst hkj; simp [hL, hlt]
      · rw [getD_set_ne false hkj, hl k hk]; omega

end

/-- What is known of a region's operation i that turns nothing. -/
def Spec (P : Program) (C : List (Nat × Con)) (base : St) (dsts : List (Nat × Nat)) (M : List Nat) (ents : List (Nat × Ent)) (i : Nat) (o : Oper) : Prop :=
  ∃ (se : List (Nat × Ent)) (e : Ent), (i, e) ∈ ents ∧ (∀ e', (i, e') ∈ ents → e' = e) ∧ (∀ x ∈ se, x ∈ ents) ∧ e.dst = o.dst ∧ dstOk base.nt o.dst = true ∧ uniq dsts o.dst i = true ∧
    ((GuardIs (valsAt se M i) o.guard true ∧ ∃ r, effOf P C o.op (evAt base.tmps se dsts M i) (tabAt base.tab se (maskAt M i).testBit) (base.nk + 4 * i) = some (.new r) ∧ r.ob = true ∧ All r.obs ∧ keysOk (base.nk + 4 * i) r.E = true ∧ e = ⟨o.dst, r.v, r.E⟩) ∨
     (GuardIs (valsAt se M i) o.guard false ∧ e = ⟨o.dst, .tup [], []⟩))

theorem preR_mono {P : Program} {C : List (Nat × Con)} {base : St} {dsts : List (Nat × Nat)} {M : List Nat} : ∀ (l : List Oper) (i : Nat) (s p : Pre), preR P C base dsts M l i s = some p → p.ob = true → All p.obs →
    s.ob = true ∧ All s.obs ∧ (∀ x ∈ s.ents, x ∈ p.ents) ∧ (∀ j e, (j, e) ∈ p.ents → (j, e) ∈ s.ents ∨ i ≤ j ∧ j < i + l.length)
  | [], i, s, p, h, h1, h2 => by
    simp only [preR, Option.some.injEq] at h; subst h
    exact ⟨h1, h2, fun _ h => h, fun j e h => .inl h⟩
  | o :: l, i, s, p, h, h1, h2 => by
    have fin : ∀ {s' : Pre} {e : Ent}, preR P C base dsts M l (i + 1) s' = some p → s'.ents = (i, e) :: s.ents → (s'.ob = true → s.ob = true) → (All s'.obs → All s.obs) → s.ob = true ∧ All s.obs ∧ (∀ x ∈ s.ents, x ∈ p.ents) ∧ (∀ j e, (j, e) ∈ p.ents → (j, e) ∈ s.ents ∨ i ≤ j ∧ j < i + (o :: l).length) := fun {s' e} h he ho hos => by
      obtain ⟨g1, g2, g3, g4⟩ := preR_mono l (i + 1) s' p h h1 h2
      refine ⟨ho g1, hos g2, fun x hx => g3 x (by rw [he]; exact List.mem_cons_of_mem _ hx), fun j e' hj => ?_⟩
      rcases g4 j e' hj with hj | hj
      · rw [he] at hj
        rcases List.mem_cons.1 hj with hj | hj
        · cases hj; exact .inr ⟨Nat.le_refl _, by simp⟩
        · exact .inl hj
      · exact .inr ⟨by omega, by simp; omega⟩
    unfold preR at h
    split at h <;> try (cases h; done)
    · split at h <;> try (cases h; done)
      exact fin h rfl (fun h => by simp only [bnd_true, Bool.and_eq_true] at h; exact h.1) (fun h => (All_append.1 h).2)
    · exact fin h rfl (fun h => by simp only [bnd_true, Bool.and_eq_true] at h; exact h.1) (fun h => h)

theorem preR_spec {P : Program} {C : List (Nat × Con)} {base : St} {dsts : List (Nat × Nat)} {M : List Nat} : ∀ (l : List Oper) (i : Nat) (s p : Pre), preR P C base dsts M l i s = some p → p.ob = true → All p.obs → (∀ j e, (j, e) ∈ s.ents → j < i) →
    ∀ k o, l[k]? = some o → Spec P C base dsts M p.ents (i + k) o
  | [], i, s, p, h, h1, h2, hs, k, o, hk => by simp at hk
  | o :: l, i, s, p, h, h1, h2, hs, k, o', hk => by
    have fin : ∀ {s' : Pre} {e : Ent}, s'.ents = (i, e) :: s.ents → preR P C base dsts M l (i + 1) s' = some p →
        (s'.ob = true → All s'.obs → e.dst = o.dst ∧ dstOk base.nt o.dst = true ∧ uniq dsts o.dst i = true ∧
    ((GuardIs (valsAt s.ents M i) o.guard true ∧ ∃ r, effOf P C o.op (evAt base.tmps s.ents dsts M i) (tabAt base.tab s.ents (maskAt M i).testBit) (base.nk + 4 * i) = some (.new r) ∧ r.ob = true ∧ All r.obs ∧ keysOk (base.nk + 4 * i) r.E = true ∧ e = ⟨o.dst, r.v, r.E⟩) ∨
     (GuardIs (valsAt s.ents M i) o.guard false ∧ e = ⟨o.dst, .tup [], []⟩))) → Spec P C base dsts M p.ents (i + k) o' := fun {s' e} he h hx => by
      have hs' : ∀ j e', (j, e') ∈ s'.ents → j < i + 1 := fun j e' hj => by
        rw [he] at hj
        rcases List.mem_cons.1 hj with hj | hj
        · cases hj; omega
        · have := hs j e' hj; omega
      obtain ⟨g1, g2, g3, g4⟩ := preR_mono l (i + 1) s' p h h1 h2
      cases k with
      | succ k =>
        simp at hk
        have := preR_spec l (i + 1) s' p h h1 h2 hs' k o' hk
        rw [show i + (k + 1) = i + 1 + k by omega]; exact this
      | zero =>
        simp at hk; subst hk
        obtain ⟨x1, x2, x3, x4⟩ := hx g1 g2
        refine ⟨s.ents, e, g3 _ (by rw [he]; simp), fun e' he' => ?_, fun x hx => g3 x (by rw [he]; exact List.mem_cons_of_mem _ hx), x1, x2, x3, x4⟩
        rcases g4 _ _ he' with hj | hj
        · rw [he] at hj
          rcases List.mem_cons.1 hj with hj | hj
          · cases hj; rfl
          · have := hs _ _ hj; omega
        · omega
    unfold preR at h
    split at h <;> try (cases h; done)
    · rename_i g orc hg
      split at h <;> try (cases h; done)
      rename_i r hr
      refine fin rfl h fun ho hos => ?_
      simp only [bnd_true, Bool.and_eq_true] at ho
      obtain ⟨_, rfl, hd, hu, hk, hro⟩ := ho
      exact ⟨rfl, hd, hu, .inl ⟨guardS_spec hg, r, hr, hro, (All_append.1 hos).1, hk, rfl⟩⟩
    · rename_i g orc hg
      refine fin rfl h fun ho hos => ?_
      simp only [bnd_true, Bool.and_eq_true] at ho
      obtain ⟨_, rfl, hd, hu⟩ := ho
      exact ⟨rfl, hd, hu, .inr ⟨guardS_spec hg, rfl⟩⟩

/-- The state while some of a region's operations have been done. -/
structure RelS (X : Cx) (base : St) (dsts : List (Nat × Nat)) (ents : List (Nat × Ent)) (N : Nat) (L : Array Bool) (ρ : Ren) (a : Act) (w : World) : Prop where
  rel : RelP X ρ (fun k b => base.tab.blk k = some b ∨ ∃ j e, (j, e) ∈ ents ∧ L.getD j false = true ∧ (k, b) ∈ e.E) w
  ent : ∀ j e, (j, e) ∈ ents → L.getD j false = true → ∀ d, e.dst = some d → ∃ u, a.tmps[d]? = some u ∧ e.v.R ρ u
  bas : ∀ t v, get base.tmps t = some v → (∀ j, get dsts t = some j → L.getD j false = false) → ∃ u, a.tmps[t]? = some u ∧ v.R ρ u
  defers : a.defers = []
  sz : a.tmps.size = base.nt
  fresh : ∀ k, base.nk ≤ k → (∀ j, j < N → L.getD j false = true → ¬ (base.nk + 4 * j ≤ k ∧ k < base.nk + 4 * j + 4)) → ρ k = none

theorem get_of_mem {α : Type} {l : List (Nat × α)} {k : Nat} {a : α} (h : get l k = some a) : (k, a) ∈ l := get_mem h

section
variable {P : Program} {C : List (Nat × Con)} {X : Cx} {ops : Array Oper} {base : St} {ents : List (Nat × Ent)} {N : Nat}

/-- One of a region's operations, when its turn comes. -/
theorem step_any (hC : LibOK P C) (hN : N ≤ ops.size) (hac : acyc ops.toList 0 = true)
    (hmem : ∀ j e, (j, e) ∈ ents → j < N) (huq : ∀ j e, (j, e) ∈ ents → ∀ d, e.dst = some d → get (dstsOf (ops.toList.take N) 0) d = some j) (hdst : ∀ j e, (j, e) ∈ ents → ∀ o, ops[j]? = some o → e.dst = o.dst) (L : Array Bool) (hL : L.size = ops.size) (hcl : ∀ i, L.getD i false = true → ∀ j, (maskAt (masks ops.toList []) i).testBit j = true → L.getD j false = true)
    {i : Nat} {o : Oper} (hi : i < N) (ho : ops[i]? = some o) (hsp : Spec P C base (dstsOf (ops.toList.take N) 0) (masks ops.toList []) ents i o) (hun : L.getD i false = false) (hdep : ∀ j, (maskAt (masks ops.toList []) i).testBit j = true → L.getD j false = true)
    {ρ : Ren} {a : Act} {w : World} (h : RelS X base (dstsOf (ops.toList.take N) 0) ents N L ρ a w) {K : Act → World → Prop} {Q : Exit → Act → World → Prop}
    (hK : ∀ ρ' a' w', Le ρ ρ' → RelS X base (dstsOf (ops.toList.take N) 0) ents N (L.setIfInBounds i true) ρ' a' w' → K a' w') : wpOp P ops Q i K a w := by
  obtain ⟨se, e, hie, huni, hsub, hed, hdok, hunq, hcase⟩ := hsp
  have hdok' := dstOk_spec hdok
  have hiL : i < L.size := by omega
  have hset : (L.setIfInBounds i true).getD i false = true := by simp [hiL]
  -- the operands
  have hev : ∀ x, (evAt base.tmps se (dstsOf (ops.toList.take N) 0) (masks ops.toList []) i x).R ρ (a.eval x) := by
    intro x
    have hbase : ∀ t, (∀ j, get (dstsOf (ops.toList.take N) 0) t = some j → L.getD j false = false) → (sev base.tmps (.tmp t)).R ρ (a.eval (.tmp t)) := fun t ht => by
      simp only [sev]
      split
      · rename_i v hv
        obtain ⟨u, hu, hr⟩ := h.bas t v hv ht
        simpa [Act.eval, hu] using hr
      · exact trivial
    cases x with
    | tmp t =>
      simp only [evAt]
      split
      · rename_i j hj
        obtain ⟨_, oj, hoj, hdj⟩ := dstsOf_get _ _ _ _ hj
        have hjN : j < N := by
          have := (List.getElem?_eq_some_iff.1 hoj).1
          simp at this; omega
        have hoj' : ops[j]? = some oj := by
          have hh := hoj
          rw [Nat.sub_zero, List.getElem?_take_of_lt hjN] at hh
          simpa using hh
        cases hb : (maskAt (masks ops.toList []) i).testBit j with
        | true =>
          simp only [cond_true]
          split
          · rename_i ej hej
            have hm := hsub _ (get_of_mem hej)
            obtain ⟨u, hu, hr⟩ := h.ent j ej hm (hdep j hb) t (by rw [hdst j ej hm oj hoj']; exact hdj)
            simpa [Act.eval, hu] using hr
          · exact trivial
        | false =>
          simp only [cond_false]
          cases hb2 : (maskAt (masks ops.toList []) j).testBit i with
          | true =>
            simp only [cond_true]
            refine hbase t fun j' hj' => ?_
            rw [hj] at hj'; cases hj'
            cases hq : L.getD j false with
            | false => rfl
            | true => have := hcl j hq i hb2; rw [this] at hun; cases hun
          | false => exact trivial
      · rename_i hnone
        exact hbase t fun j hj => by rw [hnone] at hj; cases hj
    | const v => exact ofVal_R v
    | func f => exact ⟨[], rfl, .nil⟩
    | global g => exact trivial
  -- the guard
  have hguard : ∀ b, GuardIs (valsAt se (masks ops.toList []) i) o.guard b → Region.wanted o (yielded ops a.tmps) = b := fun b hg => by
    refine wanted_of (fun j c want hgo hc => ?_) (fun j want hgo hc => ?_) hg
    · unfold valsAt at hc
      cases hb : (maskAt (masks ops.toList []) i).testBit j with
      | false => rw [hb] at hc; cases hc
      | true =>
        rw [hb, cond_true] at hc
        split at hc <;> try (cases hc; done)
        rename_i ej hej
        split at hc <;> try (cases hc; done)
        rename_i d hd
        have hm := hsub _ (get_of_mem hej)
        obtain ⟨u, hu, hr⟩ := h.ent j ej hm (hdep j hb) d hd
        rw [hc] at hr
        have hr' : u = .bool c := hr
        subst hr'
        have hjN := hmem j ej hm
        have hoj : ops[j]? = some ops[j] := by simp [show j < ops.size by omega]
        have hdj := hdst j ej hm _ hoj
        rw [hd] at hdj
        simp [yielded, hoj, ← hdj, hu]
    · unfold valsAt at hc
      cases hb : (maskAt (masks ops.toList []) i).testBit j with
      | false => rw [hb] at hc; cases hc
      | true =>
        rw [hb, cond_true] at hc
        split at hc <;> try (cases hc; done)
        rename_i ej hej
        split at hc <;> try (cases hc; done)
        rename_i d hd
        have hm := hsub _ (get_of_mem hej)
        obtain ⟨u, hu, hr⟩ := h.ent j ej hm (hdep j hb) d hd
        rw [hc] at hr
        obtain rfl := off_eq hr
        have hjN := hmem j ej hm
        have hoj : ops[j]? = some ops[j] := by simp [show j < ops.size by omega]
        have hdj := hdst j ej hm _ hoj
        rw [hd] at hdj
        simp [yielded, hoj, ← hdj, hu, undef]
  -- what is behind it
  have fin : ∀ {ρ' : Ren} {u : Value} {w' : World}, Le ρ ρ' → e.v.R ρ' u → New ρ ρ' e.E w w' → (∀ k b, (k, b) ∈ e.E → base.nk + 4 * i ≤ k ∧ k < base.nk + 4 * i + 4) →
      RelS X base (dstsOf (ops.toList.take N) 0) ents N (L.setIfInBounds i true) ρ' (a.put o.dst u) w' := fun {ρ' u w'} hle hr hn hkeys => by
    have hget : ∀ d, o.dst = some d → get (dstsOf (ops.toList.take N) 0) d = some i := fun d hd => by
      rw [hd] at hunq
      simp only [uniq] at hunq
      split at hunq
      · rename_i j hj; rw [hj, Nat.eq_of_beq_eq_true hunq]
      · cases hunq
    refine ⟨?_, ?_, ?_, ?_, ?_, ?_⟩
    · refine (h.rel.new hn).sub fun k b hk => ?_
      rcases hk with hk | ⟨j, ej, hj, hjl, hkb⟩
      · exact .inr (.inl hk)
      · by_cases hij : i = j
        · subst hij
          rw [huni ej hj] at hkb
          exact .inl hkb
        · rw [getD_set_ne false hij] at hjl
          exact .inr (.inr ⟨j, ej, hj, hjl, hkb⟩)
    · intro j ej hj hjl d hd
      by_cases hij : i = j
      · subst hij
        rw [huni ej hj] at hd ⊢
        have hd' : o.dst = some d := by rw [← hed]; exact hd
        refine ⟨u, ?_, hr⟩
        have := hdok' d hd'
        simp [hd', Act.put, Array.getElem?_setIfInBounds, h.sz, this]
      · rw [getD_set_ne false hij] at hjl
        obtain ⟨v, hv, hvr⟩ := h.ent j ej hj hjl d hd
        refine ⟨v, ?_, hvr.mono hle⟩
        cases hod : o.dst with
        | none => simpa [Act.put] using hv
        | some d' =>
          have hne : d' ≠ d := fun e => by
            subst e
            have h1 := hget d' hod
            rw [huq j ej hj d' hd] at h1; cases h1
            exact hij rfl
          simp [Act.put, Array.getElem?_setIfInBounds_ne hne, hv]
    · intro t v hv ht
      have ht' : ∀ j, get (dstsOf (ops.toList.take N) 0) t = some j → L.getD j false = false := fun j hj => by
        have := ht j hj
        by_cases hij : i = j
        · subst hij; rw [hset] at this; cases this
        · rwa [getD_set_ne false hij] at this
      obtain ⟨x, hx, hxr⟩ := h.bas t v hv ht'
      refine ⟨x, ?_, hxr.mono hle⟩
      cases hod : o.dst with
      | none => simpa [Act.put] using hx
      | some d' =>
        have hne : d' ≠ t := fun e => by
          subst e
          have := ht i (hget d' hod)
          rw [hset] at this; cases this
        simp [Act.put, Array.getElem?_setIfInBounds_ne hne, hx]
    · cases o.dst <;> exact h.defers
    · cases o.dst <;> simp [Act.put, h.sz]
    · intro k hk hno
      have hki : ∀ b, (k, b) ∉ e.E := fun b hb => hno i hi hset (hkeys k b hb)
      rw [hn.only k hki]
      refine h.fresh k hk fun j hj hjl => hno j hj ?_
      by_cases hij : i = j
      · subst hij; exact hset
      · rw [getD_set_ne false hij]; exact hjl
  unfold wpOp
  rw [ho]
  simp only
  rcases hcase with ⟨hg, r, heff, hrob, hros, hrk, he⟩ | ⟨hg, he⟩
  · rw [if_pos (hguard _ hg)]
    have hkeys := keysOk_spec hrk
    have hfr : fresh ρ (base.nk + 4 * i) := fun k h1 h2 => h.fresh k (by omega) fun j hj hjl hh => by
      have : j ≠ i := fun e => by subst e; rw [hjl] at hun; cases hun
      omega
    have hrel' : Rel X ρ (tabAt base.tab se (maskAt (masks ops.toList []) i).testBit) w := h.rel.sub fun k b hk => by
      rcases tabAt_blk _ _ _ _ _ hk with ⟨j, ej, hj, hb, hkb⟩ | hk
      · exact .inr ⟨j, ej, hsub _ hj, hdep j hb, hkb⟩
      · exact .inl hk
    have hdoes := eff_new hC hev hrel' hfr heff hrob hros
    refine .inl (hdoes.wp fun v w' ⟨ρ', hr, hn⟩ => hK ρ' _ _ hn.le ?_)
    subst he
    exact fin hn.le hr hn hkeys
  · rw [if_neg (by simp [hguard _ hg])]
    subst he
    exact hK ρ _ _ (Le.refl _) (fin (Le.refl _) off_R (New.refl _ _) fun k b hk => by simp at hk)

theorem putAll_get : ∀ (ents : List (Nat × Ent)) (tm : List (Nat × SV)) (t : Nat) (v : SV), get (putAll tm ents) t = some v → (∃ j e, (j, e) ∈ ents ∧ e.dst = some t ∧ v = e.v) ∨ ((∀ j e, (j, e) ∈ ents → e.dst ≠ some t) ∧ get tm t = some v)
  | [], tm, t, v, h => .inr ⟨fun _ _ h => by simp at h, h⟩
  | (j, e) :: r, tm, t, v, h => by
    simp only [putAll] at h
    by_cases hd : e.dst = some t
    · rw [hd] at h
      simp only [putS, get_set_same, Option.some.injEq] at h
      exact .inl ⟨j, e, by simp, hd, h.symm⟩
    · have h' : get (putAll tm r) t = some v := by
        cases hed : e.dst with
        | none => rw [hed] at h; exact h
        | some d =>
          rw [hed] at h hd
          simp only [putS] at h
          rwa [get_set_ne _ _ (fun e => hd (by rw [e]))] at h
      rcases putAll_get r tm t v h' with ⟨j', e', h1, h2, h3⟩ | ⟨h1, h2⟩
      · exact .inl ⟨j', e', by simp [h1], h2, h3⟩
      · exact .inr ⟨fun j' e' hj => by rcases List.mem_cons.1 hj with hj | hj; (cases hj; exact hd); exact h1 j' e' hj, h2⟩

theorem toA (hmem : ∀ j e, (j, e) ∈ ents → j < N) (huq : ∀ j e, (j, e) ∈ ents → ∀ d, e.dst = some d → get (dstsOf (ops.toList.take N) 0) d = some j) (hdst : ∀ j e, (j, e) ∈ ents → ∀ o, ops[j]? = some o → e.dst = o.dst)
    (hsp : ∀ i o, i < N → ops[i]? = some o → Spec P C base (dstsOf (ops.toList.take N) 0) (masks ops.toList []) ents i o) (hN : N ≤ ops.size) {L : Array Bool} (hall : ∀ i, i < N → L.getD i false = true) {ρ : Ren} {a : Act} {w : World}
    (h : RelS X base (dstsOf (ops.toList.take N) 0) ents N L ρ a w) : RelA X ρ ⟨putAll base.tmps ents, tabAt base.tab ents (fun _ => true), base.nk + 4 * N, base.nt⟩ a w where
  rel := h.rel.sub fun k b hk => by
    rcases tabAt_blk _ _ _ _ _ hk with ⟨j, e, hj, _, hkb⟩ | hk
    · exact .inr ⟨j, e, hj, hall j (hmem j e hj), hkb⟩
    · exact .inl hk
  tmps := fun t v hv => by
    rcases putAll_get _ _ _ _ hv with ⟨j, e, hj, hd, rfl⟩ | ⟨hno, hv⟩
    · exact h.ent j e hj (hall j (hmem j e hj)) t hd
    · refine h.bas t v hv fun j hj => ?_
      exfalso
      obtain ⟨_, o, ho, hd⟩ := dstsOf_get _ _ _ _ hj
      have hjN : j < N := by
        have := (List.getElem?_eq_some_iff.1 ho).1
        simp at this; omega
      have ho' : ops[j]? = some o := by
        rw [Nat.sub_zero, List.getElem?_take_of_lt hjN] at ho
        simpa using ho
      obtain ⟨se, e, hie, _, _, hed, _⟩ := hsp j o hjN ho'
      exact hno j e hie (hed.trans hd)
  defers := h.defers
  sz := h.sz
  fresh := fun k hk => h.fresh k (Nat.le_trans (Nat.le_add_right _ _) hk) fun j hj _ hh => by
    have h1 : base.nk + 4 * N ≤ k := hk
    omega

theorem any_main (hC : LibOK P C) (hN : N ≤ ops.size) (hac : acyc ops.toList 0 = true) (hfo : forcedFrom (masks ops.toList []) N (ops.size - N) = true)
    (hmem : ∀ j e, (j, e) ∈ ents → j < N) (huq : ∀ j e, (j, e) ∈ ents → ∀ d, e.dst = some d → get (dstsOf (ops.toList.take N) 0) d = some j) (hdst : ∀ j e, (j, e) ∈ ents → ∀ o, ops[j]? = some o → e.dst = o.dst)
    (hsp : ∀ i o, i < N → ops[i]? = some o → Spec P C base (dstsOf (ops.toList.take N) 0) (masks ops.toList []) ents i o) {Q : Exit → Act → World → Prop} {ρ0 : Ren}
    (hQ : ∀ ρ a w, Le ρ0 ρ → RelA X ρ ⟨putAll base.tmps ents, tabAt base.tab ents (fun _ => true), base.nk + 4 * N, base.nt⟩ a w → wpList P ops Q (ops.toList.drop N) a w) :
    ∀ (fuel : Nat) (L : Array Bool) (ρ : Ren) (a : Act) (w : World), L.size = ops.size → unl ops.size L ≤ fuel → (∀ i, L.getD i false = true → ∀ j, (maskAt (masks ops.toList []) i).testBit j = true → L.getD j false = true) → (∀ i, N ≤ i → L.getD i false = false) → Le ρ0 ρ →
      RelS X base (dstsOf (ops.toList.take N) 0) ents N L ρ a w → wpAny P .any ops Q fuel L a w := by
  intro fuel
  induction fuel with
  | zero =>
    intro L ρ a w hL hu hcl htl hle h
    have hall : ∀ i, i < ops.size → L.getD i false = true := fun i hi => by
      cases hq : L.getD i false with
      | true => rfl
      | false =>
        have := unl_set hL hi hq
        omega
    have hNn : N = ops.size := by
      rcases Nat.eq_or_lt_of_le hN with h | h
      · exact h
      · have h1 := hall N h; rw [htl N (Nat.le_refl _)] at h1; cases h1
    refine tail_run hac hfo 0 N L a w hL (fun j hj => ⟨fun _ => by omega, fun _ => hall j hj⟩) (Nat.le_refl _) hN (by omega) (hQ ρ a w hle ?_)
    exact toA hmem huq hdst hsp hN (fun i hi => hall i (by omega)) h
  | succ fuel ih =>
    intro L ρ a w hL hu hcl htl hle h
    by_cases hall : ∀ i, i < N → L.getD i false = true
    · have hus : ops.size - N ≤ fuel + 1 := by
        have : ∀ (n : Nat), (∀ i, i < n → (L.getD i false = true ↔ i < N)) → n - N ≤ ((List.range n).filter fun i => !(L.getD i false)).length := by
          intro n
          induction n with
          | zero => intro _; simp
          | succ n ihn =>
            intro hn
            have := ihn fun i hi => hn i (by omega)
            rw [List.range_succ, List.filter_append, List.length_append]
            by_cases hnN : n < N
            · omega
            · have hf : L.getD n false = false := htl n (by omega)
              simp only [List.filter_cons, hf, Bool.not_false, if_true, List.filter_nil, List.length_singleton]
              omega
        have hlt' : ∀ i, L.getD i false = true → i < N := fun i hh => by
          rcases Nat.lt_or_ge i N with h | h
          · exact h
          · have h3 := htl i h; rw [hh] at h3; cases h3
        have h2 := this ops.size fun i hi => ⟨hlt' i, hall i⟩
        unfold unl at hu
        omega
      refine tail_run hac hfo (fuel + 1) N L a w hL (fun j hj => ⟨fun hh => ?_, fun hh => hall j hh⟩) (Nat.le_refl _) hN hus (hQ ρ a w hle (toA hmem huq hdst hsp hN hall h))
      rcases Nat.lt_or_ge j N with h | h
      · exact h
      · have h3 := htl j h; rw [hh] at h3; cases h3
    · -- the first that is still to come
      have hex : ∃ i, i < N ∧ L.getD i false = false := by
        refine Classical.byContradiction fun hno => hall fun i hi => ?_
        cases hq : L.getD i false with
        | true => rfl
        | false => exact absurd ⟨i, hi, hq⟩ hno
      have hleast : ∃ i, i < N ∧ L.getD i false = false ∧ ∀ j, j < i → L.getD j false = true := by
        obtain ⟨i, hi, hf⟩ := hex
        induction i using Nat.strongRecOn with
        | _ i ihi =>
          by_cases hj : ∃ j, j < i ∧ L.getD j false = false
          · obtain ⟨j, hji, hjf⟩ := hj
            exact ihi j hji (by omega) hjf
          · refine ⟨i, hi, hf, fun j hji => ?_⟩
            cases hq : L.getD j false with
            | true => rfl
            | false => exact absurd ⟨j, hji, hq⟩ hj
      obtain ⟨i0, hi0, hf0, hlt0⟩ := hleast
      have hready : i0 ∈ Region.ready .any ops L := by
        have hoi : ops[i0]? = some ops[i0] := by simp [show i0 < ops.size by omega]
        refine mem_ready.2 ⟨by rw [getD_true_false (by omega)]; exact hf0, ops[i0], hoi, fun e he hb => ?_⟩
        have := acyc_spec _ 0 hac i0 ops[i0] (by simp [show i0 < ops.size by omega]) e he hb
        exact hlt0 e.on (by omega)
      refine ⟨fun hr => (by rw [hr] at hready; cases hready), fun i hi => ?_⟩
      obtain ⟨h1, o, ho, hdeps⟩ := mem_ready.1 hi
      have hin := (Array.getElem?_eq_some_iff.1 ho).1
      rw [getD_true_false (by omega)] at h1
      have hclos : ∀ j, (maskAt (masks ops.toList []) i).testBit j = true → L.getD j false = true := fun j hj => by
        obtain ⟨o2, ho2, e, he, hb, hcase⟩ := mask_bit _ hac i j hj
        have ho2' : ops[i]? = some o2 := by simpa using ho2
        rw [ho] at ho2'; cases ho2'
        have hel := hdeps e he hb
        rcases hcase with rfl | hcase
        · exact hel
        · exact hcl e.on hel j hcase
      have hiN : i < N := by
        rcases Nat.lt_or_ge i N with h | hge
        · exact h
        · have := hclos i0 (forcedFrom_spec hfo i hge (by omega) i0 (by omega))
          rw [hf0] at this; cases this
      refine step_any hC hN hac hmem huq hdst L hL hcl hiN ho (hsp i o hiN ho) h1 hclos h fun ρ' a' w' hle' h' => ?_
      have hiL : i < L.size := by omega
      refine ih _ ρ' a' w' (by simp [hL]) ?_ ?_ ?_ (hle.trans hle') h'
      · have := unl_set hL hin h1; omega
      · intro j hj q hq
        by_cases hij : i = j
        · subst hij
          have := hclos q hq
          by_cases hiq : i = q
          · subst hiq; simp [hiL]
          · rw [getD_set_ne false hiq]; exact this
        · rw [getD_set_ne false hij] at hj
          have := hcl j hj q hq
          by_cases hiq : i = q
          · subst hiq; simp [hiL]
          · rw [getD_set_ne false hiq]; exact this
      · intro j hj
        rw [getD_set_ne false (by omega)]
        exact htl j hj
end

theorem headLen_le (C : List (Nat × Con)) : ∀ (l : List Oper), headLen C l ≤ l.length
  | [] => Nat.le_refl _
  | o :: r => by
    simp only [headLen]
    cases isTurn C o.op
    · have := headLen_le C r; simp; omega
    · simp

theorem anyR_run {P : Program} {C : List (Nat × Con)} (hC : LibOK P C) {X : Cx} {ops : Array Oper} {Q : Exit → Act → World → Prop} {s s' : RSt} {ρ : Ren} {a : Act} {w : World} (h : anyR P C ops s = some s') (hob : s'.ob = true) (hobs : All s'.obs)
    (hrel : RelA X ρ s.st a w) (hQ : ∀ ρ' a' w', Le ρ ρ' → RelA X ρ' s'.st a' w' → Q .normal a' w') : wpAny P .any ops Q ops.size (Array.replicate ops.size false) a w := by
  unfold anyR at h
  simp only at h
  split at h <;> try (cases h; done)
  rename_i p hp
  have hmono : ∀ (l : List Oper) (s s' : RSt), seqR P C ops l s = some s' → s'.ob = true → All s'.obs → s.ob = true ∧ All s.obs := by
      intro l
      induction l with
      | nil => intro s s' h h1 h2; simp only [seqR, Option.some.injEq] at h; subst h; exact ⟨h1, h2⟩
      | cons o l ih =>
        intro s s' h h1 h2
        unfold seqR at h
        split at h <;> try (cases h; done)
        · split at h <;> try (cases h; done)
          · obtain ⟨g1, g2⟩ := ih _ _ h h1 h2
            simp only [bnd_true, Bool.and_eq_true] at g1
            exact ⟨g1.1, (All_append.1 g2).2⟩
          · obtain ⟨g1, g2⟩ := ih _ _ h h1 h2
            simp only [bnd_true, Bool.and_eq_true] at g1
            exact ⟨g1.1, (All_append.1 g2).2⟩
        · obtain ⟨g1, g2⟩ := ih _ _ h h1 h2
          simp only [bnd_true, Bool.and_eq_true] at g1
          exact ⟨g1.1, g2⟩
  obtain ⟨pob, pobs⟩ := hmono _ _ _ h hob hobs
  obtain ⟨m1, m2, m3, m4⟩ := preR_mono _ _ _ _ hp pob pobs
  simp only [bnd_true, Bool.and_eq_true] at m1
  obtain ⟨_, hac, hfo⟩ := m1
  have hlen : ops.toList.length = ops.size := by simp
  have hN : headLen C ops.toList ≤ ops.size := by have := headLen_le C ops.toList; omega
  have hmem : ∀ j e, (j, e) ∈ p.ents → j < headLen C ops.toList := fun j e hj => by
    rcases m4 j e hj with hj | hj
    · simp at hj
    · simp at hj; omega
  have hsp : ∀ i o, i < headLen C ops.toList → ops[i]? = some o → Spec P C s.st (dstsOf (ops.toList.take (headLen C ops.toList)) 0) (masks ops.toList []) p.ents i o := fun i o hi ho => by
    have := preR_spec _ _ _ _ hp pob pobs (fun j e hj => by simp at hj) i o (by rw [List.getElem?_take_of_lt hi]; simpa using ho)
    rwa [Nat.zero_add] at this
  have hget : ∀ j, j < headLen C ops.toList → ∃ o, ops[j]? = some o := fun j hj => ⟨ops[j], by simp [show j < ops.size by omega]⟩
  have hdst : ∀ j e, (j, e) ∈ p.ents → ∀ o, ops[j]? = some o → e.dst = o.dst := fun j e hj o ho => by
    obtain ⟨se, e', hie, huni, _, hed, _⟩ := hsp j o (hmem j e hj) ho
    rw [huni e hj]; exact hed
  have huq : ∀ j e, (j, e) ∈ p.ents → ∀ d, e.dst = some d → get (dstsOf (ops.toList.take (headLen C ops.toList)) 0) d = some j := fun j e hj d hd => by
    obtain ⟨o, ho⟩ := hget j (hmem j e hj)
    obtain ⟨se, e', hie, huni, _, hed, _, hunq, _⟩ := hsp j o (hmem j e hj) ho
    rw [huni e hj, hed] at hd
    rw [hd] at hunq
    simp only [uniq] at hunq
    split at hunq
    · rename_i q hq; rw [hq, Nat.eq_of_beq_eq_true hunq]
    · cases hunq
  rw [hlen] at hfo
  refine any_main (X := X) hC hN hac hfo hmem huq hdst hsp (ρ0 := ρ) (fun ρ' a' w' hle hA => ?_) ops.size _ ρ a w (by simp) ?_ ?_ ?_ (Le.refl _) ?_
  · exact seqR_run hC _ _ s' ρ' a' w' h hob hobs hA fun ρ2 a2 w2 hle2 => hQ ρ2 a2 w2 (hle.trans hle2)
  · unfold unl
    exact Nat.le_trans (List.length_filter_le _ _) (by simp)
  · intro i hi
    simp [Array.getD] at hi
  · intro i _
    simp [Array.getD]
  · have hnl : ∀ j, (Array.replicate ops.size false).getD j false = false := fun j => by
      simp [Array.getD]
    refine ⟨hrel.rel.sub fun k b hk => ?_, fun j e _ hl => ?_, fun t v hv _ => hrel.tmps t v hv, hrel.defers, hrel.sz, fun k hk _ => hrel.fresh k hk⟩
    · rcases hk with hk | ⟨j, e, _, hl, _⟩
      · exact hk
      · rw [hnl] at hl; cases hl
    · rw [hnl] at hl; cases hl

end Go.Proofs.YtabiknpgakhkkaaGreat.Sx
end

section
namespace Go.Proofs.YtabiknpgakhkkaaGreat.Sx
open Go.RowKit
set_option linter.unusedVariables false
set_option linter.unusedSimpArgs false

/-- Which operations may turn something. -/
def turnsOf (C : List (Nat × Con)) : List Oper → Nat → List Nat
  | [], _ => []
  | o :: r, i => match isTurn C o.op with
    | true => i :: turnsOf C r (i + 1)
    | false => turnsOf C r (i + 1)

theorem turnsOf_mem {C : List (Nat × Con)} : ∀ (l : List Oper) (i p h : Nat), (turnsOf C l i)[p]? = some h → i ≤ h ∧ ∃ o, l[h - i]? = some o ∧ isTurn C o.op = true
  | [], i, p, h, hp => by simp [turnsOf] at hp
  | o :: r, i, p, h, hp => by
    have go : ∀ p, (turnsOf C r (i + 1))[p]? = some h → i ≤ h ∧ ∃ o', (o :: r)[h - i]? = some o' ∧ isTurn C o'.op = true := fun p hp => by
      obtain ⟨h1, o', ho', ht⟩ := turnsOf_mem r (i + 1) p h hp
      refine ⟨by omega, o', ?_, ht⟩
      rw [show h - i = (h - (i + 1)) + 1 by omega, List.getElem?_cons_succ]; exact ho'
    unfold turnsOf at hp
    split at hp
    · rename_i ht
      cases p with
      | zero => simp at hp; subst hp; exact ⟨Nat.le_refl _, o, by simp, ht⟩
      | succ p => rw [List.getElem?_cons_succ] at hp; exact go p hp
    · exact go p hp

theorem turnsOf_sorted {C : List (Nat × Con)} : ∀ (l : List Oper) (i p p' h h' : Nat), (turnsOf C l i)[p]? = some h → (turnsOf C l i)[p']? = some h' → p < p' → h < h'
  | [], i, p, p', h, h', hp, _, _ => by simp [turnsOf] at hp
  | o :: r, i, p, p', h, h', hp, hp', hlt => by
    unfold turnsOf at hp hp'
    cases ht : isTurn C o.op with
    | false =>
      rw [ht] at hp hp'
      exact turnsOf_sorted r (i + 1) p p' h h' hp hp' hlt
    | true =>
      rw [ht] at hp hp'
      simp only at hp hp'
      cases p' with
      | zero => omega
      | succ p' =>
        rw [List.getElem?_cons_succ] at hp'
        cases p with
        | zero =>
          simp at hp; subst hp
          have := (turnsOf_mem r (i + 1) p' h' hp').1
          omega
        | succ p =>
          rw [List.getElem?_cons_succ] at hp
          exact turnsOf_sorted r (i + 1) p p' h h' hp hp' (by omega)

def chainB (M H : List Nat) : Bool := H.all fun h => H.all fun h' => !(Nat.blt h' h) || (maskAt M h).testBit h'
theorem chainB_spec {M H : List Nat} (hc : chainB M H = true) {p p' h h' : Nat} (hp : H[p]? = some h) (hp' : H[p']? = some h') (hlt : h' < h) : (maskAt M h).testBit h' = true := by
  unfold chainB at hc
  have := List.all_eq_true.1 (List.all_eq_true.1 hc h (List.mem_of_getElem? hp)) h' (List.mem_of_getElem? hp')
  have hb : Nat.blt h' h = true := by rw [Nat.blt_eq]; exact hlt
  simpa [hb] using this

/-- Whether an operation may come when so many have turned something. -/
def okStage (M : List Nat) (i s : Nat) : List Nat → Nat → Bool
  | [], _ => true
  | h :: r, p => (bif (maskAt M i).testBit h then Nat.blt p s else true) && ((bif (maskAt M h).testBit i then Nat.ble s p else true) && okStage M i s r (p + 1))
theorem okStage_iff {M : List Nat} {i s : Nat} : ∀ (H : List Nat) (p0 : Nat), okStage M i s H p0 = true ↔ ∀ p h, H[p]? = some h → ((maskAt M i).testBit h = true → p0 + p < s) ∧ ((maskAt M h).testBit i = true → s ≤ p0 + p)
  | [], p0 => by simp [okStage]
  | h :: r, p0 => by
    simp only [okStage, Bool.and_eq_true, okStage_iff r (p0 + 1)]
    constructor
    · rintro ⟨h1, h2, h3⟩ p h' hp
      cases p with
      | zero =>
        simp at hp; subst hp
        refine ⟨fun hb => ?_, fun hb => ?_⟩
        · rw [hb, cond_true, Nat.blt_eq] at h1; exact h1
        · rw [hb, cond_true, Nat.ble_eq] at h2; exact h2
      | succ p =>
        rw [List.getElem?_cons_succ] at hp
        have := h3 p h' hp
        exact ⟨fun hb => by have := this.1 hb; omega, fun hb => by have := this.2 hb; omega⟩
    · intro hh
      refine ⟨?_, ?_, fun p h' hp => ?_⟩
      · cases hb : (maskAt M i).testBit h with
        | false => rfl
        | true => have := (hh 0 h (by simp)).1 hb; rw [cond_true, Nat.blt_eq]; exact this
      · cases hb : (maskAt M h).testBit i with
        | false => rfl
        | true => have := (hh 0 h (by simp)).2 hb; rw [cond_true, Nat.ble_eq]; exact this
      · have := hh (p + 1) h' (by rw [List.getElem?_cons_succ]; exact hp)
        exact ⟨fun hb => by have := this.1 hb; omega, fun hb => by have := this.2 hb; omega⟩

def hardB (M H : List Nat) (i : Nat) : Bool := H.all fun h => Nat.beq h i || ((maskAt M i).testBit h || (maskAt M h).testBit i)
theorem hardB_spec {M H : List Nat} {i : Nat} (hh : hardB M H i = true) {p h : Nat} (hp : H[p]? = some h) : h = i ∨ (maskAt M i).testBit h = true ∨ (maskAt M h).testBit i = true := by
  have := List.all_eq_true.1 hh h (List.mem_of_getElem? hp)
  simp only [Bool.or_eq_true] at this
  exact this.imp Nat.eq_of_beq_eq_true id

def cntB (M : List Nat) (i : Nat) (H : List Nat) : Nat := (H.filter fun h => (maskAt M i).testBit h).length
def kbOf (nk N : Nat) (M H : List Nat) (i : Nat) : Nat := bif hardB M H i then nk + 4 * i else nk + 4 * N
def inT (M H : List Nat) (i s j : Nat) : Bool := (maskAt M i).testBit j && okStage M j s H 0

structure Rec where
  i : Nat
  o : Oper
  se : List (Nat × Ent)
  q : Nat
  v : SV
  E : List (Nat × Blk)

structure PreT where
  ents : List (Nat × Ent)
  recs : List Rec
  ts : List Tab
  ob : Bool
  obs : List Prop
  orc : Orc

/-- The operations one by one, each as early as it may come. -/
def preT (P : Program) (C : List (Nat × Con)) (base : St) (dsts : List (Nat × Nat)) (M H : List Nat) (N : Nat) : List Oper → Nat → PreT → Option PreT
  | [], _, s => some s
  | o :: rest, i, s => match guardS (valsAt s.ents M i) o.guard s.orc with
    | none => none
    | some (g, true, orc) => match effOf P C o.op (evAt base.tmps s.ents dsts M i) (tabAt (s.ts.getD (cntB M i H) []) s.ents (inT M H i (cntB M i H))) (kbOf base.nk N M H i) with
      | some (.new r) => preT P C base dsts M H N rest (i + 1) ⟨(i, ⟨o.dst, r.v, r.E⟩) :: s.ents, ⟨i, o, s.ents, cntB M i H, r.v, r.E⟩ :: s.recs, s.ts,
          bnd s.ob (g && (dstOk base.nt o.dst && (uniq dsts o.dst i && ((Nat.blt (cntB M i H) s.ts.length && (hardB M H i || r.E.isEmpty)) && (keysOk (kbOf base.nk N M H i) r.E && r.ob))))), r.obs ++ s.obs, orc⟩
      | some (.turn r) => preT P C base dsts M H N rest (i + 1) ⟨(i, ⟨o.dst, r.v, []⟩) :: s.ents, s.recs, s.ts ++ [r.T],
          bnd s.ob (g && (dstOk base.nt o.dst && (uniq dsts o.dst i && ((Nat.beq s.ts.length (cntB M i H + 1) && hardB M H i) && r.ob)))), r.obs ++ s.obs, orc⟩
      | none => none
    | some (g, false, orc) => match isTurn C o.op with
      | true => preT P C base dsts M H N rest (i + 1) ⟨(i, ⟨o.dst, .tup [], []⟩) :: s.ents, s.recs, s.ts ++ [tabAt (s.ts.getD (cntB M i H) []) s.ents (inT M H i (cntB M i H))],
          bnd s.ob (g && (dstOk base.nt o.dst && (uniq dsts o.dst i && (Nat.beq s.ts.length (cntB M i H + 1) && hardB M H i)))), s.obs, orc⟩
      | false => preT P C base dsts M H N rest (i + 1) ⟨(i, ⟨o.dst, .tup [], []⟩) :: s.ents, s.recs, s.ts, bnd s.ob (g && (dstOk base.nt o.dst && uniq dsts o.dst i)), s.obs, orc⟩

/-- An operation at another stage than the earliest: it comes to the same. -/
def chkS (P : Program) (C : List (Nat × Con)) (base : St) (dsts : List (Nat × Nat)) (M H : List Nat) (N : Nat) (ents : List (Nat × Ent)) (x : Rec) (s : Nat) (T : Tab) (acc : Bool × List Prop) : Option (Bool × List Prop) :=
  bif Nat.beq s x.q || !(okStage M x.i s H 0) then some acc else
  match pop P x.o.op (evAt base.tmps x.se dsts M x.i) with
  | some _ => some acc
  | none => match effOf P C x.o.op (evAt base.tmps x.se dsts M x.i) (tabAt T ents (inT M H x.i s)) (kbOf base.nk N M H x.i) with
    | some (.new r) => some (bnd acc.1 (r.E.isEmpty && (x.E.isEmpty && r.ob)), (r.v = x.v) :: (r.obs ++ acc.2))
    | _ => none
def chkT (P : Program) (C : List (Nat × Con)) (base : St) (dsts : List (Nat × Nat)) (M H : List Nat) (N : Nat) (ents : List (Nat × Ent)) (x : Rec) : List Tab → Nat → Bool × List Prop → Option (Bool × List Prop)
  | [], _, acc => some acc
  | T :: r, s, acc => match chkS P C base dsts M H N ents x s T acc with
    | some acc' => chkT P C base dsts M H N ents x r (s + 1) acc'
    | none => none
def chkR (P : Program) (C : List (Nat × Con)) (base : St) (dsts : List (Nat × Nat)) (M H : List Nat) (N : Nat) (ents : List (Nat × Ent)) (ts : List Tab) : List Rec → Bool × List Prop → Option (Bool × List Prop)
  | [], acc => some acc
  | x :: r, acc => match chkT P C base dsts M H N ents x ts 0 acc with
    | some acc' => chkR P C base dsts M H N ents ts r acc'
    | none => none

/-- A region in any order. -/
def anyT (P : Program) (C : List (Nat × Con)) (ops : Array Oper) (s : RSt) : Option RSt :=
  let l := ops.toList
  let N := l.length
  let M := masks l []
  let H := turnsOf C l 0
  let dsts := dstsOf l 0
  match preT P C s.st dsts M H N l 0 ⟨[], [], [s.st.tab], bnd s.ob (acyc l 0 && chainB M H), s.obs, s.orc⟩ with
  | none => none
  | some p => match chkR P C s.st dsts M H N p.ents p.ts p.recs (p.ob, p.obs) with
    | none => none
    | some (ob, obs) => some ⟨⟨putAll s.st.tmps p.ents, tabAt (p.ts.getD H.length []) p.ents (fun j => okStage M j H.length H 0), s.st.nk + 4 * N, s.st.nt⟩, ob, obs, p.orc⟩

theorem mask_lt {l : List Oper} (hac : acyc l 0 = true) : ∀ (i j : Nat), (maskAt (masks l []) i).testBit j = true → j < i := by
  intro i
  induction i using Nat.strongRecOn with
  | _ i ih =>
    intro j hj
    obtain ⟨o, ho, e, he, hb, hc⟩ := mask_bit l hac i j hj
    have hlt : e.on < i := by simpa using acyc_spec l 0 hac i o ho e he hb
    rcases hc with rfl | hc
    · exact hlt
    · have := ih e.on hlt j hc; omega

/-- What is known of an operation that turns nothing. -/
def SpecN (P : Program) (C : List (Nat × Con)) (base : St) (dsts : List (Nat × Nat)) (M H : List Nat) (N : Nat) (ents : List (Nat × Ent)) (ts : List Tab) (i : Nat) (o : Oper) (e : Ent) : Prop :=
  ∃ se : List (Nat × Ent), (∀ x ∈ se, x ∈ ents) ∧
    ((GuardIs (valsAt se M i) o.guard true ∧ (hardB M H i = true ∨ e.E = []) ∧ ∀ s, s < ts.length → okStage M i s H 0 = true → ∃ se2 r, (∀ x ∈ se2, x ∈ ents) ∧
        effOf P C o.op (evAt base.tmps se dsts M i) (tabAt (ts.getD s []) se2 (inT M H i s)) (kbOf base.nk N M H i) = some (.new r) ∧ r.ob = true ∧ All r.obs ∧ keysOk (kbOf base.nk N M H i) r.E = true ∧ e = ⟨o.dst, r.v, r.E⟩) ∨
     (GuardIs (valsAt se M i) o.guard false ∧ e = ⟨o.dst, .tup [], []⟩))
/-- What is known of one that may turn something. -/
def SpecT (P : Program) (C : List (Nat × Con)) (base : St) (dsts : List (Nat × Nat)) (M H : List Nat) (N : Nat) (ents : List (Nat × Ent)) (ts : List Tab) (i : Nat) (o : Oper) (e : Ent) : Prop :=
  ∃ (se : List (Nat × Ent)) (p : Nat), (∀ x ∈ se, x ∈ ents) ∧ H[p]? = some i ∧ hardB M H i = true ∧
    ((GuardIs (valsAt se M i) o.guard true ∧ ∃ r, effOf P C o.op (evAt base.tmps se dsts M i) (tabAt (ts.getD p []) se (inT M H i p)) (kbOf base.nk N M H i) = some (.turn r) ∧ r.ob = true ∧ All r.obs ∧ ts.getD (p + 1) [] = r.T ∧ e = ⟨o.dst, r.v, []⟩) ∨
     (GuardIs (valsAt se M i) o.guard false ∧ ts.getD (p + 1) [] = tabAt (ts.getD p []) se (inT M H i p) ∧ e = ⟨o.dst, .tup [], []⟩))
def SpecA (P : Program) (C : List (Nat × Con)) (base : St) (dsts : List (Nat × Nat)) (M H : List Nat) (N : Nat) (ents : List (Nat × Ent)) (ts : List Tab) (i : Nat) (o : Oper) : Prop :=
  ∃ e, (i, e) ∈ ents ∧ (∀ e', (i, e') ∈ ents → e' = e) ∧ e.dst = o.dst ∧ dstOk base.nt o.dst = true ∧ uniq dsts o.dst i = true ∧
    ((isTurn C o.op = false ∧ SpecN P C base dsts M H N ents ts i o e) ∨ (isTurn C o.op = true ∧ SpecT P C base dsts M H N ents ts i o e))

/-- The same, each at the earliest stage alone. -/
def Spec1 (P : Program) (C : List (Nat × Con)) (base : St) (dsts : List (Nat × Nat)) (M H : List Nat) (N : Nat) (p : PreT) (i : Nat) (o : Oper) : Prop :=
  ∃ e, (i, e) ∈ p.ents ∧ (∀ e', (i, e') ∈ p.ents → e' = e) ∧ e.dst = o.dst ∧ dstOk base.nt o.dst = true ∧ uniq dsts o.dst i = true ∧
    ((isTurn C o.op = false ∧ ∃ se : List (Nat × Ent), (∀ x ∈ se, x ∈ p.ents) ∧
      ((GuardIs (valsAt se M i) o.guard true ∧ ∃ r, effOf P C o.op (evAt base.tmps se dsts M i) (tabAt (p.ts.getD (cntB M i H) []) se (inT M H i (cntB M i H))) (kbOf base.nk N M H i) = some (.new r) ∧ r.ob = true ∧ All r.obs ∧ keysOk (kbOf base.nk N M H i) r.E = true ∧
          (hardB M H i = true ∨ r.E = []) ∧ (⟨i, o, se, cntB M i H, r.v, r.E⟩ : Rec) ∈ p.recs ∧ e = ⟨o.dst, r.v, r.E⟩) ∨
       (GuardIs (valsAt se M i) o.guard false ∧ e = ⟨o.dst, .tup [], []⟩))) ∨ (isTurn C o.op = true ∧ SpecT P C base dsts M H N p.ents p.ts i o e))

theorem getD_prefix {α : Type} {l t : List α} {i : Nat} {d : α} (h : i < l.length) : (l ++ t).getD i d = l.getD i d := by
  simp [List.getD, List.getElem?_append_left h]

theorem effOf_turn {P : Program} {C : List (Nat × Con)} {op : Op} {ev : Operand → SV} {T : Tab} {kb : Nat} {r : Turned} (h : effOf P C op ev T kb = some (.turn r)) : isTurn C op = true := by
  unfold effOf at h
  split at h
  · assumption
  · split at h
    · cases h
    · split at h <;> cases h
theorem effOf_new {P : Program} {C : List (Nat × Con)} {op : Op} {ev : Operand → SV} {T : Tab} {kb : Nat} {r : Res} (h : effOf P C op ev T kb = some (.new r)) : isTurn C op = false := by
  unfold effOf at h
  split at h
  · split at h <;> cases h
  · assumption
theorem effOf_pop {P : Program} {C : List (Nat × Con)} {op : Op} {ev : Operand → SV} {y : Bool × SV} (h : pop P op ev = some y) (ht : isTurn C op = false) (T : Tab) (kb : Nat) : effOf P C op ev T kb = some (.new ⟨y.1, [], y.2, []⟩) := by
  unfold effOf
  rw [ht, h]

section
variable {P : Program} {C : List (Nat × Con)} {base : St} {dsts : List (Nat × Nat)} {M H : List Nat} {N : Nat}

theorem preT_spec : ∀ (l : List Oper) (i : Nat) (s p : PreT) (H0 : List Nat), preT P C base dsts M H N l i s = some p → p.ob = true → All p.obs → H = H0 ++ turnsOf C l i → s.ts.length = H0.length + 1 → (∀ j e, (j, e) ∈ s.ents → j < i) →
    s.ob = true ∧ All s.obs ∧ (∀ x ∈ s.ents, x ∈ p.ents) ∧ (∀ x ∈ s.recs, x ∈ p.recs) ∧ (∃ t, p.ts = s.ts ++ t) ∧ p.ts.length = H.length + 1 ∧ (∀ j e, (j, e) ∈ p.ents → (j, e) ∈ s.ents ∨ i ≤ j ∧ j < i + l.length) ∧
    ∀ k o, l[k]? = some o → Spec1 P C base dsts M H N p (i + k) o
  | [], i, s, p, H0, h, h1, h2, hH, hts, hs => by
    simp only [preT, Option.some.injEq] at h; subst h
    refine ⟨h1, h2, fun _ h => h, fun _ h => h, ⟨[], by simp⟩, ?_, fun j e h => .inl h, fun k o hk => by simp at hk⟩
    rw [hts, hH]; simp [turnsOf]
  | o :: l, i, s, p, H0, h, h1, h2, hH, hts, hs => by
    have fin : ∀ {s' : PreT} {e : Ent} {H1 : List Nat}, preT P C base dsts M H N l (i + 1) s' = some p → s'.ents = (i, e) :: s.ents → (∀ x ∈ s.recs, x ∈ s'.recs) → (∃ t, s'.ts = s.ts ++ t) → H = H1 ++ turnsOf C l (i + 1) → s'.ts.length = H1.length + 1 →
        (s'.ob = true → All s'.obs → s.ob = true ∧ All s.obs ∧ e.dst = o.dst ∧ dstOk base.nt o.dst = true ∧ uniq dsts o.dst i = true ∧
          ∀ p' : PreT, (∃ t, p'.ts = s'.ts ++ t) → (∀ x ∈ s'.recs, x ∈ p'.recs) → (∀ x ∈ s.ents, x ∈ p'.ents) →
            ((isTurn C o.op = false ∧ ∃ se : List (Nat × Ent), (∀ x ∈ se, x ∈ p'.ents) ∧
      ((GuardIs (valsAt se M i) o.guard true ∧ ∃ r, effOf P C o.op (evAt base.tmps se dsts M i) (tabAt (p'.ts.getD (cntB M i H) []) se (inT M H i (cntB M i H))) (kbOf base.nk N M H i) = some (.new r) ∧ r.ob = true ∧ All r.obs ∧ keysOk (kbOf base.nk N M H i) r.E = true ∧
          (hardB M H i = true ∨ r.E = []) ∧ (⟨i, o, se, cntB M i H, r.v, r.E⟩ : Rec) ∈ p'.recs ∧ e = ⟨o.dst, r.v, r.E⟩) ∨
       (GuardIs (valsAt se M i) o.guard false ∧ e = ⟨o.dst, .tup [], []⟩))) ∨ (isTurn C o.op = true ∧ SpecT P C base dsts M H N p'.ents p'.ts i o e))) →
        s.ob = true ∧ All s.obs ∧ (∀ x ∈ s.ents, x ∈ p.ents) ∧ (∀ x ∈ s.recs, x ∈ p.recs) ∧ (∃ t, p.ts = s.ts ++ t) ∧ p.ts.length = H.length + 1 ∧ (∀ j e, (j, e) ∈ p.ents → (j, e) ∈ s.ents ∨ i ≤ j ∧ j < i + (o :: l).length) ∧
        ∀ k o', (o :: l)[k]? = some o' → Spec1 P C base dsts M H N p (i + k) o' := fun {s' e H1} h he hr hpre hH' hts' hx => by
      have hs' : ∀ j e', (j, e') ∈ s'.ents → j < i + 1 := fun j e' hj => by
        rw [he] at hj
        rcases List.mem_cons.1 hj with hj | hj
        · cases hj; omega
        · have := hs j e' hj; omega
      obtain ⟨g1, g2, g3, g4, g5, g6, g7, g8⟩ := preT_spec l (i + 1) s' p H1 h h1 h2 hH' hts' hs'
      obtain ⟨x1, x2, x3, x4, x5, x6⟩ := hx g1 g2
      have hse : ∀ x ∈ s.ents, x ∈ p.ents := fun x hx => g3 x (by rw [he]; exact List.mem_cons_of_mem _ hx)
      refine ⟨x1, x2, hse, fun x hx => g4 x (hr x hx), ?_, g6, fun j e' hj => ?_, fun k o' hk => ?_⟩
      · obtain ⟨t1, ht1⟩ := hpre
        obtain ⟨t2, ht2⟩ := g5
        exact ⟨t1 ++ t2, by rw [ht2, ht1, List.append_assoc]⟩
      · rcases g7 j e' hj with hj | hj
        · rw [he] at hj
          rcases List.mem_cons.1 hj with hj | hj
          · cases hj; exact .inr ⟨Nat.le_refl _, by simp⟩
          · exact .inl hj
        · exact .inr ⟨by omega, by simp; omega⟩
      · cases k with
        | succ k =>
          simp at hk
          have := g8 k o' hk
          rw [show i + (k + 1) = i + 1 + k by omega]; exact this
        | zero =>
          simp at hk; subst hk
          refine ⟨e, g3 _ (by rw [he]; simp), fun e' he' => ?_, x3, x4, x5, x6 p g5 g4 hse⟩
          rcases g7 _ _ he' with hj | hj
          · rw [he] at hj
            rcases List.mem_cons.1 hj with hj | hj
            · cases hj; rfl
            · have := hs _ _ hj; omega
          · omega
    unfold preT at h
    split at h <;> try (cases h; done)
    · rename_i g orc hg
      split at h <;> try (cases h; done)
      · rename_i r hr
        have hnt := effOf_new hr
        have hH' : H = H0 ++ turnsOf C l (i + 1) := by rw [hH]; simp only [turnsOf, hnt]
        refine fin h rfl (fun x hx => List.mem_cons_of_mem _ hx) ⟨[], by simp⟩ hH' hts fun ho hos => ?_
        simp only [bnd_true, Bool.and_eq_true, Bool.or_eq_true, Nat.blt_eq] at ho
        obtain ⟨ho, rfl, hd, hu, ⟨hq, hE⟩, hk, hro⟩ := ho
        obtain ⟨hos1, hos2⟩ := All_append.1 hos
        refine ⟨ho, hos2, rfl, hd, hu, fun p' hpt hpr hpe => .inl ⟨hnt, s.ents, hpe, .inl ⟨guardS_spec hg, r, ?_, hro, hos1, hk, hE.imp id List.isEmpty_iff.1, hpr _ (by simp), rfl⟩⟩⟩
        obtain ⟨t, ht⟩ := hpt
        rw [ht, getD_prefix hq]; exact hr
      · rename_i r hr
        have ht := effOf_turn hr
        have hH' : H = (H0 ++ [i]) ++ turnsOf C l (i + 1) := by rw [hH]; simp only [turnsOf, ht]; simp
        refine fin h rfl (fun x hx => hx) ⟨[r.T], rfl⟩ hH' (by simp [hts]) fun ho hos => ?_
        simp only [bnd_true, Bool.and_eq_true] at ho
        obtain ⟨ho, rfl, hd, hu, ⟨hq, hh⟩, hro⟩ := ho
        have hq := Nat.eq_of_beq_eq_true hq
        obtain ⟨hos1, hos2⟩ := All_append.1 hos
        refine ⟨ho, hos2, rfl, hd, hu, fun p' hpt hpr hpe => .inr ⟨ht, s.ents, cntB M i H, hpe, ?_, hh, .inl ⟨guardS_spec hg, r, ?_, hro, hos1, ?_, rfl⟩⟩⟩
        · have : cntB M i H = H0.length := by omega
          rw [this, hH']; simp
        · obtain ⟨t, ht⟩ := hpt
          rw [ht, getD_prefix (by simp; omega), getD_prefix (by omega)]; exact hr
        · obtain ⟨t, ht⟩ := hpt
          rw [ht, getD_prefix (by simp; omega), ← hq]; simp [List.getD]
    · rename_i g orc hg
      split at h
      · rename_i ht
        have hH' : H = (H0 ++ [i]) ++ turnsOf C l (i + 1) := by rw [hH]; simp only [turnsOf, ht]; simp
        refine fin h rfl (fun x hx => hx) ⟨[_], rfl⟩ hH' (by simp [hts]) fun ho hos => ?_
        simp only [bnd_true, Bool.and_eq_true] at ho
        obtain ⟨ho, rfl, hd, hu, hq, hh⟩ := ho
        have hq := Nat.eq_of_beq_eq_true hq
        refine ⟨ho, hos, rfl, hd, hu, fun p' hpt hpr hpe => .inr ⟨ht, s.ents, cntB M i H, hpe, ?_, hh, .inr ⟨guardS_spec hg, ?_, rfl⟩⟩⟩
        · have : cntB M i H = H0.length := by omega
          rw [this, hH']; simp
        · obtain ⟨t, ht⟩ := hpt
          rw [ht, getD_prefix (l := s.ts ++ _) (i := cntB M i H + 1) (by simp; omega), getD_prefix (l := s.ts ++ _) (i := cntB M i H) (by simp; omega), getD_prefix (i := cntB M i H) (by omega), ← hq]; simp [List.getD]
      · rename_i hnt
        have hH' : H = H0 ++ turnsOf C l (i + 1) := by rw [hH]; simp only [turnsOf, hnt]
        refine fin h rfl (fun x hx => hx) ⟨[], by simp⟩ hH' hts fun ho hos => ?_
        simp only [bnd_true, Bool.and_eq_true] at ho
        obtain ⟨ho, rfl, hd, hu⟩ := ho
        exact ⟨ho, hos, rfl, hd, hu, fun p' hpt hpr hpe => .inl ⟨hnt, s.ents, hpe, .inr ⟨guardS_spec hg, rfl⟩⟩⟩

/-- What the second look shows. -/
def CS (P : Program) (C : List (Nat × Con)) (base : St) (dsts : List (Nat × Nat)) (M H : List Nat) (N : Nat) (ents : List (Nat × Ent)) (x : Rec) (s : Nat) (T : Tab) : Prop :=
  s = x.q ∨ okStage M x.i s H 0 = false ∨ (∃ y, pop P x.o.op (evAt base.tmps x.se dsts M x.i) = some y) ∨
    ∃ r, effOf P C x.o.op (evAt base.tmps x.se dsts M x.i) (tabAt T ents (inT M H x.i s)) (kbOf base.nk N M H x.i) = some (.new r) ∧ r.E = [] ∧ x.E = [] ∧ r.ob = true ∧ All r.obs ∧ r.v = x.v

theorem chkS_spec {ents : List (Nat × Ent)} {x : Rec} {s : Nat} {T : Tab} {acc acc' : Bool × List Prop} (h : chkS P C base dsts M H N ents x s T acc = some acc') (h1 : acc'.1 = true) (h2 : All acc'.2) : acc.1 = true ∧ All acc.2 ∧ CS P C base dsts M H N ents x s T := by
  unfold chkS at h
  cases hb : (Nat.beq s x.q || !(okStage M x.i s H 0)) with
  | true =>
    rw [hb, cond_true, Option.some.injEq] at h; subst h
    simp only [Bool.or_eq_true, Bool.not_eq_true'] at hb
    exact ⟨h1, h2, hb.elim (fun h => .inl (Nat.eq_of_beq_eq_true h)) fun h => .inr (.inl h)⟩
  | false =>
    rw [hb, cond_false] at h
    split at h
    · rename_i y hy
      simp only [Option.some.injEq] at h; subst h
      exact ⟨h1, h2, .inr (.inr (.inl ⟨_, hy⟩))⟩
    · split at h <;> try (cases h; done)
      rename_i r hr
      simp only [Option.some.injEq] at h; subst h
      simp only [bnd_true, Bool.and_eq_true, List.isEmpty_iff] at h1
      obtain ⟨h1, h3, h4, h5⟩ := h1
      obtain ⟨h6, h7⟩ := h2
      obtain ⟨h7, h8⟩ := All_append.1 h7
      exact ⟨h1, h8, .inr (.inr (.inr ⟨r, hr, h3, h4, h5, h7, h6⟩))⟩

theorem chkT_spec {ents : List (Nat × Ent)} {x : Rec} : ∀ (Ts : List Tab) (s : Nat) (acc acc' : Bool × List Prop), chkT P C base dsts M H N ents x Ts s acc = some acc' → acc'.1 = true → All acc'.2 → acc.1 = true ∧ All acc.2 ∧ ∀ k T, Ts[k]? = some T → CS P C base dsts M H N ents x (s + k) T
  | [], s, acc, acc', h, h1, h2 => by
    simp only [chkT, Option.some.injEq] at h; subst h
    exact ⟨h1, h2, fun k T hk => by simp at hk⟩
  | T :: r, s, acc, acc', h, h1, h2 => by
    unfold chkT at h
    split at h <;> try (cases h; done)
    rename_i a ha
    obtain ⟨g1, g2, g3⟩ := chkT_spec r (s + 1) a acc' h h1 h2
    obtain ⟨f1, f2, f3⟩ := chkS_spec ha g1 g2
    refine ⟨f1, f2, fun k T' hk => ?_⟩
    cases k with
    | zero => simp at hk; subst hk; exact f3
    | succ k =>
      rw [List.getElem?_cons_succ] at hk
      rw [show s + (k + 1) = s + 1 + k by omega]
      exact g3 k T' hk

theorem chkR_spec {ents : List (Nat × Ent)} {ts : List Tab} : ∀ (l : List Rec) (acc acc' : Bool × List Prop), chkR P C base dsts M H N ents ts l acc = some acc' → acc'.1 = true → All acc'.2 → acc.1 = true ∧ All acc.2 ∧ ∀ x ∈ l, ∀ s T, ts[s]? = some T → CS P C base dsts M H N ents x s T
  | [], acc, acc', h, h1, h2 => by
    simp only [chkR, Option.some.injEq] at h; subst h
    exact ⟨h1, h2, fun x hx => by simp at hx⟩
  | x :: r, acc, acc', h, h1, h2 => by
    unfold chkR at h
    split at h <;> try (cases h; done)
    rename_i a ha
    obtain ⟨g1, g2, g3⟩ := chkR_spec r a acc' h h1 h2
    obtain ⟨f1, f2, f3⟩ := chkT_spec _ _ _ _ ha g1 g2
    refine ⟨f1, f2, fun y hy s T hs => ?_⟩
    rcases List.mem_cons.1 hy with rfl | hy
    · have := f3 s T hs
      rwa [Nat.zero_add] at this
    · exact g3 y hy s T hs

theorem specA_of {p : PreT} {i : Nat} {o : Oper} (h : Spec1 P C base dsts M H N p i o) (hc : ∀ x ∈ p.recs, ∀ s T, p.ts[s]? = some T → CS P C base dsts M H N p.ents x s T) : SpecA P C base dsts M H N p.ents p.ts i o := by
  obtain ⟨e, h1, h2, h3, h4, h5, h6⟩ := h
  refine ⟨e, h1, h2, h3, h4, h5, ?_⟩
  rcases h6 with ⟨hnt, se, hse, h6⟩ | h6
  · refine .inl ⟨hnt, se, hse, ?_⟩
    rcases h6 with ⟨hg, r, hr, hro, hros, hk, hE, hrec, he⟩ | h6
    · refine .inl ⟨hg, by rw [he]; exact hE, fun s hs hok => ?_⟩
      have hgs : p.ts[s]? = some (p.ts.getD s []) := by simp [List.getD, hs]
      rcases hc _ hrec s _ hgs with hq | hq | ⟨y, hy⟩ | ⟨r', hr', hE', hE0, hob', hobs', hv'⟩
      · simp only at hq; subst hq
        exact ⟨se, r, hse, hr, hro, hros, hk, he⟩
      · simp only at hq; rw [hok] at hq; cases hq
      · simp only at hy
        rw [effOf_pop hy hnt] at hr
        simp only [Option.some.injEq, Eff.new.injEq] at hr
        subst hr
        exact ⟨se, _, hse, effOf_pop hy hnt _ _, hro, hros, hk, he⟩
      · simp only at hr' hv' hE0
        refine ⟨p.ents, r', fun _ h => h, hr', hob', hobs', by rw [hE']; rfl, ?_⟩
        rw [he, hv', hE', hE0]
    · exact .inr h6
  · exact .inr h6
end

def lo (H : List Nat) : Nat → Nat
  | 0 => 0
  | q + 1 => H.getD q 0 + 1

/-- How many of those that turn something have been done. -/
def StInv (H : List Nat) (L : Array Bool) (q : Nat) : Prop := q ≤ H.length ∧ ∀ p h, H[p]? = some h → (L.getD h false = true ↔ p < q)

/-- The state while some of a region's operations have been done, so many of them such as turn something. -/
structure RelT (X : Cx) (base : St) (dsts : List (Nat × Nat)) (M H : List Nat) (ents : List (Nat × Ent)) (ts : List Tab) (N : Nat) (L : Array Bool) (q : Nat) (ρ : Ren) (a : Act) (w : World) : Prop where
  rel : RelP X ρ (fun k b => (ts.getD q []).blk k = some b ∨ ∃ j e, (j, e) ∈ ents ∧ L.getD j false = true ∧ okStage M j q H 0 = true ∧ (k, b) ∈ e.E) w
  ent : ∀ j e, (j, e) ∈ ents → L.getD j false = true → ∀ d, e.dst = some d → ∃ u, a.tmps[d]? = some u ∧ e.v.R ρ u
  bas : ∀ t v, get base.tmps t = some v → (∀ j, get dsts t = some j → L.getD j false = false) → ∃ u, a.tmps[t]? = some u ∧ v.R ρ u
  defers : a.defers = []
  sz : a.tmps.size = base.nt
  fresh : ∀ k, base.nk + 4 * lo H q ≤ k → (∀ j, j < N → hardB M H j = true → L.getD j false = true → ¬ (base.nk + 4 * j ≤ k ∧ k < base.nk + 4 * j + 4)) → ρ k = none

section
variable {P : Program} {C : List (Nat × Con)} {X : Cx} {ops : Array Oper} {base : St} {ents : List (Nat × Ent)} {ts : List Tab}

theorem dsts_op {l : List Oper} {t j : Nat} (h : get (dstsOf l 0) t = some j) : ∃ o, l[j]? = some o ∧ o.dst = some t := by
  obtain ⟨_, o, ho, hd⟩ := dstsOf_get _ _ _ _ h
  exact ⟨o, by simpa using ho, hd⟩

theorem ev_T {L : Array Bool} {i : Nat} {M : List Nat} {se : List (Nat × Ent)} {ρ : Ren} {a : Act} (hdst : ∀ j e, (j, e) ∈ ents → ∀ o, ops[j]? = some o → e.dst = o.dst) (hcl : ∀ i, L.getD i false = true → ∀ j, (maskAt M i).testBit j = true → L.getD j false = true)
    (hun : L.getD i false = false) (hdep : ∀ j, (maskAt M i).testBit j = true → L.getD j false = true) (hsub : ∀ x ∈ se, x ∈ ents)
    (hent : ∀ j e, (j, e) ∈ ents → L.getD j false = true → ∀ d, e.dst = some d → ∃ u, a.tmps[d]? = some u ∧ e.v.R ρ u)
    (hbas : ∀ t v, get base.tmps t = some v → (∀ j, get (dstsOf ops.toList 0) t = some j → L.getD j false = false) → ∃ u, a.tmps[t]? = some u ∧ v.R ρ u) (x : Operand) : (evAt base.tmps se (dstsOf ops.toList 0) M i x).R ρ (a.eval x) := by
  have hbase : ∀ t, (∀ j, get (dstsOf ops.toList 0) t = some j → L.getD j false = false) → (sev base.tmps (.tmp t)).R ρ (a.eval (.tmp t)) := fun t ht => by
    simp only [sev]
    split
    · rename_i v hv
      obtain ⟨u, hu, hr⟩ := hbas t v hv ht
      simpa [Act.eval, hu] using hr
    · exact trivial
  cases x with
  | tmp t =>
    simp only [evAt]
    split
    · rename_i j hj
      obtain ⟨oj, hoj, hdj⟩ := dsts_op hj
      have hoj' : ops[j]? = some oj := by simpa using hoj
      cases hb : (maskAt M i).testBit j with
      | true =>
        simp only [cond_true]
        split
        · rename_i ej hej
          have hm := hsub _ (get_of_mem hej)
          obtain ⟨u, hu, hr⟩ := hent j ej hm (hdep j hb) t (by rw [hdst j ej hm oj hoj']; exact hdj)
          simpa [Act.eval, hu] using hr
        · exact trivial
      | false =>
        simp only [cond_false]
        cases hb2 : (maskAt M j).testBit i with
        | true =>
          simp only [cond_true]
          refine hbase t fun j' hj' => ?_
          rw [hj] at hj'; cases hj'
          cases hq : L.getD j false with
          | false => rfl
          | true => have := hcl j hq i hb2; rw [this] at hun; cases hun
        | false => exact trivial
    · rename_i hnone
      exact hbase t fun j hj => by rw [hnone] at hj; cases hj
  | const v => exact ofVal_R v
  | func f => exact ⟨[], rfl, .nil⟩
  | global g => exact trivial

theorem guard_T {L : Array Bool} {i : Nat} {o : Oper} {M : List Nat} {se : List (Nat × Ent)} {ρ : Ren} {a : Act} (hmem : ∀ j e, (j, e) ∈ ents → j < ops.size) (hdst : ∀ j e, (j, e) ∈ ents → ∀ o, ops[j]? = some o → e.dst = o.dst)
    (hdep : ∀ j, (maskAt M i).testBit j = true → L.getD j false = true) (hsub : ∀ x ∈ se, x ∈ ents)
    (hent : ∀ j e, (j, e) ∈ ents → L.getD j false = true → ∀ d, e.dst = some d → ∃ u, a.tmps[d]? = some u ∧ e.v.R ρ u) (b : Bool) (hg : GuardIs (valsAt se M i) o.guard b) : Region.wanted o (yielded ops a.tmps) = b := by
  refine wanted_of (fun j c want hgo hc => ?_) (fun j want hgo hc => ?_) hg
  · unfold valsAt at hc
    cases hb : (maskAt M i).testBit j with
    | false => rw [hb] at hc; cases hc
    | true =>
      rw [hb, cond_true] at hc
      split at hc <;> try (cases hc; done)
      rename_i ej hej
      split at hc <;> try (cases hc; done)
      rename_i d hd
      have hm := hsub _ (get_of_mem hej)
      obtain ⟨u, hu, hr⟩ := hent j ej hm (hdep j hb) d hd
      rw [hc] at hr
      have hr' : u = .bool c := hr
      subst hr'
      have hjN := hmem j ej hm
      have hoj : ops[j]? = some ops[j] := by simp [hjN]
      have hdj := hdst j ej hm _ hoj
      rw [hd] at hdj
      simp [yielded, hoj, ← hdj, hu]
  · unfold valsAt at hc
    cases hb : (maskAt M i).testBit j with
    | false => rw [hb] at hc; cases hc
    | true =>
      rw [hb, cond_true] at hc
      split at hc <;> try (cases hc; done)
      rename_i ej hej
      split at hc <;> try (cases hc; done)
      rename_i d hd
      have hm := hsub _ (get_of_mem hej)
      obtain ⟨u, hu, hr⟩ := hent j ej hm (hdep j hb) d hd
      rw [hc] at hr
      obtain rfl := off_eq hr
      have hjN := hmem j ej hm
      have hoj : ops[j]? = some ops[j] := by simp [hjN]
      have hdj := hdst j ej hm _ hoj
      rw [hd] at hdj
      simp [yielded, hoj, ← hdj, hu, undef]

/-- One of a region's operations, when its turn comes. -/
theorem step_T (hC : LibOK P C) (hac : acyc ops.toList 0 = true) (hch : chainB (masks ops.toList []) (turnsOf C ops.toList 0) = true) (hts : ts.length = (turnsOf C ops.toList 0).length + 1)
    (hmem : ∀ j e, (j, e) ∈ ents → j < ops.size) (huq : ∀ j e, (j, e) ∈ ents → ∀ d, e.dst = some d → get (dstsOf ops.toList 0) d = some j) (hdst : ∀ j e, (j, e) ∈ ents → ∀ o, ops[j]? = some o → e.dst = o.dst)
    (hhard : ∀ j e, (j, e) ∈ ents → hardB (masks ops.toList []) (turnsOf C ops.toList 0) j = true ∨ e.E = [])
    (L : Array Bool) (hL : L.size = ops.size) (hcl : ∀ i, L.getD i false = true → ∀ j, (maskAt (masks ops.toList []) i).testBit j = true → L.getD j false = true) {q : Nat} (hst : StInv (turnsOf C ops.toList 0) L q)
    {i : Nat} {o : Oper} (ho : ops[i]? = some o) (hsp : SpecA P C base (dstsOf ops.toList 0) (masks ops.toList []) (turnsOf C ops.toList 0) ops.size ents ts i o) (hun : L.getD i false = false) (hdep : ∀ j, (maskAt (masks ops.toList []) i).testBit j = true → L.getD j false = true)
    {ρ : Ren} {a : Act} {w : World} (h : RelT X base (dstsOf ops.toList 0) (masks ops.toList []) (turnsOf C ops.toList 0) ents ts ops.size L q ρ a w) {K : Act → World → Prop} {Q : Exit → Act → World → Prop}
    (hK : ∀ ρ' a' w' q', Le ρ ρ' → StInv (turnsOf C ops.toList 0) (L.setIfInBounds i true) q' → RelT X base (dstsOf ops.toList 0) (masks ops.toList []) (turnsOf C ops.toList 0) ents ts ops.size (L.setIfInBounds i true) q' ρ' a' w' → K a' w') : wpOp P ops Q i K a w := by
  obtain ⟨e, hie, huni, hed, hdok, hunq, hcase⟩ := hsp
  have hi : i < ops.size := (Array.getElem?_eq_some_iff.1 ho).1
  have hdok' := dstOk_spec hdok
  have hiL : i < L.size := by omega
  have hset : (L.setIfInBounds i true).getD i false = true := by simp [hiL]
  have hget : ∀ d, o.dst = some d → get (dstsOf ops.toList 0) d = some i := fun d hd => by
    rw [hd] at hunq
    simp only [uniq] at hunq
    split at hunq
    · rename_i j hj; rw [hj, Nat.eq_of_beq_eq_true hunq]
    · cases hunq
  have turnOf : ∀ {p h' : Nat}, (turnsOf C ops.toList 0)[p]? = some h' → ∃ o', ops[h']? = some o' ∧ isTurn C o'.op = true := fun {p h'} hp => by
    obtain ⟨_, o', ho', ht⟩ := turnsOf_mem _ _ _ _ hp
    exact ⟨o', by simpa using ho', ht⟩
  -- the temporaries
  have hentT : ∀ {ρ' : Ren} {u : Value}, Le ρ ρ' → e.v.R ρ' u → ∀ j ej, (j, ej) ∈ ents → (L.setIfInBounds i true).getD j false = true → ∀ d, ej.dst = some d → ∃ u', (a.put o.dst u).tmps[d]? = some u' ∧ ej.v.R ρ' u' := fun {ρ' u} hle hr j ej hj hjl d hd => by
    by_cases hij : i = j
    · subst hij
      rw [huni ej hj] at hd ⊢
      have hd' : o.dst = some d := by rw [← hed]; exact hd
      refine ⟨u, ?_, hr⟩
      have := hdok' d hd'
      simp [hd', Act.put, Array.getElem?_setIfInBounds, h.sz, this]
    · rw [getD_set_ne false hij] at hjl
      obtain ⟨v, hv, hvr⟩ := h.ent j ej hj hjl d hd
      refine ⟨v, ?_, hvr.mono hle⟩
      cases hod : o.dst with
      | none => simpa [Act.put] using hv
      | some d' =>
        have hne : d' ≠ d := fun e => by
          subst e
          have h1 := hget d' hod
          rw [huq j ej hj d' hd] at h1; cases h1
          exact hij rfl
        simp [Act.put, Array.getElem?_setIfInBounds_ne hne, hv]
  have hbasT : ∀ {ρ' : Ren} {u : Value}, Le ρ ρ' → ∀ t v, get base.tmps t = some v → (∀ j, get (dstsOf ops.toList 0) t = some j → (L.setIfInBounds i true).getD j false = false) → ∃ u', (a.put o.dst u).tmps[t]? = some u' ∧ v.R ρ' u' := fun {ρ' u} hle t v hv ht => by
    have ht' : ∀ j, get (dstsOf ops.toList 0) t = some j → L.getD j false = false := fun j hj => by
      have := ht j hj
      by_cases hij : i = j
      · subst hij; rw [hset] at this; cases this
      · rwa [getD_set_ne false hij] at this
    obtain ⟨x, hx, hxr⟩ := h.bas t v hv ht'
    refine ⟨x, ?_, hxr.mono hle⟩
    cases hod : o.dst with
    | none => simpa [Act.put] using hx
    | some d' =>
      have hne : d' ≠ t := fun e => by
        subst e
        have := ht i (hget d' hod)
        rw [hset] at this; cases this
      simp [Act.put, Array.getElem?_setIfInBounds_ne hne, hx]
  have hdefT : ∀ {u : Value}, (a.put o.dst u).defers = [] := fun {u} => by cases o.dst <;> exact h.defers
  have hszT : ∀ {u : Value}, (a.put o.dst u).tmps.size = base.nt := fun {u} => by cases o.dst <;> simp [Act.put, h.sz]
  unfold wpOp
  rw [ho]
  simp only
  rcases hcase with ⟨hnt, se, hsub, hcase⟩ | ⟨ht, se, p, hsub, hp, hhd, hcase⟩
  · -- nothing is turned
    have hnH : ∀ p h', (turnsOf C ops.toList 0)[p]? = some h' → h' ≠ i := fun p h' hp e => by
      subst e
      obtain ⟨o', ho', ht⟩ := turnOf hp
      rw [ho] at ho'; cases ho'
      rw [hnt] at ht; cases ht
    have hst' : StInv (turnsOf C ops.toList 0) (L.setIfInBounds i true) q := ⟨hst.1, fun p h' hp => by
      rw [getD_set_ne false (Ne.symm (hnH p h' hp))]; exact hst.2 p h' hp⟩
    have hok : okStage (masks ops.toList []) i q (turnsOf C ops.toList 0) 0 = true := (okStage_iff _ _).2 fun p h' hp => by
      rw [Nat.zero_add]
      refine ⟨fun hb => (hst.2 p h' hp).1 (hdep h' hb), fun hb => ?_⟩
      refine Nat.le_of_not_lt fun hlt => ?_
      have := hcl h' ((hst.2 p h' hp).2 hlt) i hb
      rw [hun] at this; cases this
    have fin : ∀ {ρ' : Ren} {u : Value} {w' : World}, Le ρ ρ' → e.v.R ρ' u → New ρ ρ' e.E w w' → (e.E = [] ∨ ∀ k b, (k, b) ∈ e.E → base.nk + 4 * i ≤ k ∧ k < base.nk + 4 * i + 4) → (hardB (masks ops.toList []) (turnsOf C ops.toList 0) i = true ∨ e.E = []) →
        RelT X base (dstsOf ops.toList 0) (masks ops.toList []) (turnsOf C ops.toList 0) ents ts ops.size (L.setIfInBounds i true) q ρ' (a.put o.dst u) w' := fun {ρ' u w'} hle hr hn hkeys hhi => by
      refine ⟨?_, hentT hle hr, hbasT hle, hdefT, hszT, ?_⟩
      · refine (h.rel.new hn).sub fun k b hk => ?_
        rcases hk with hk | ⟨j, ej, hj, hjl, hjs, hkb⟩
        · exact .inr (.inl hk)
        · by_cases hij : i = j
          · subst hij
            rw [huni ej hj] at hkb
            exact .inl hkb
          · rw [getD_set_ne false hij] at hjl
            exact .inr (.inr ⟨j, ej, hj, hjl, hjs, hkb⟩)
      · intro k hk hno
        have hki : ∀ b, (k, b) ∉ e.E := fun b hb => by
          rcases hkeys with h0 | hkeys
          · rw [h0] at hb; cases hb
          · rcases hhi with hhi | h0
            · exact hno i hi hhi hset (hkeys k b hb)
            · rw [h0] at hb; cases hb
        rw [hn.only k hki]
        refine h.fresh k hk fun j hj hjh hjl => hno j hj hjh ?_
        by_cases hij : i = j
        · subst hij; exact hset
        · rw [getD_set_ne false hij]; exact hjl
    rcases hcase with ⟨hg, hhi, hall⟩ | ⟨hg, he⟩
    · rw [if_pos (guard_T hmem hdst hdep hsub h.ent true hg)]
      obtain ⟨se2, r, hsub2, heff, hrob, hros, hrk, he⟩ := hall q (by rw [hts]; have := hst.1; omega) hok
      have hkeys := keysOk_spec hrk
      have hfr : fresh ρ (kbOf base.nk ops.size (masks ops.toList []) (turnsOf C ops.toList 0) i) := fun k h1 h2 => by
        unfold kbOf at h1 h2
        cases hhb : hardB (masks ops.toList []) (turnsOf C ops.toList 0) i with
        | true =>
          rw [hhb, cond_true] at h1 h2
          refine h.fresh k ?_ fun j hj hjh hjl hh => ?_
          · have hlo : lo (turnsOf C ops.toList 0) q ≤ i := by
              cases q with
              | zero => exact Nat.zero_le _
              | succ q =>
                have hq1 := hst.1
                have hq : (turnsOf C ops.toList 0)[q]? = some ((turnsOf C ops.toList 0).getD q 0) := by
                  simp [List.getD, show q < (turnsOf C ops.toList 0).length by omega]
                have hdone := (hst.2 q _ hq).2 (by omega)
                rcases hardB_spec hhb hq with hh | hh | hh
                · exact absurd hh (hnH _ _ hq)
                · exact mask_lt hac _ _ hh
                · have := hcl _ hdone i hh; rw [hun] at this; cases this
            omega
          · have : j ≠ i := fun e => by subst e; rw [hjl] at hun; cases hun
            omega
        | false =>
          rw [hhb, cond_false] at h1 h2
          refine h.fresh k ?_ fun j hj hjh hjl hh => by omega
          have hlo : lo (turnsOf C ops.toList 0) q ≤ ops.size := by
            cases q with
            | zero => exact Nat.zero_le _
            | succ q =>
              have hq1 := hst.1
              have hq : (turnsOf C ops.toList 0)[q]? = some ((turnsOf C ops.toList 0).getD q 0) := by
                simp [List.getD, show q < (turnsOf C ops.toList 0).length by omega]
              obtain ⟨o', ho', _⟩ := turnOf hq
              exact (Array.getElem?_eq_some_iff.1 ho').1
          omega
      have hrel' : Rel X ρ (tabAt (ts.getD q []) se2 (inT (masks ops.toList []) (turnsOf C ops.toList 0) i q)) w := h.rel.sub fun k b hk => by
        rcases tabAt_blk _ _ _ _ _ hk with ⟨j, ej, hj, hb, hkb⟩ | hk
        · simp only [inT, Bool.and_eq_true] at hb
          exact .inr ⟨j, ej, hsub2 _ hj, hdep j hb.1, hb.2, hkb⟩
        · exact .inl hk
      have hdoes := eff_new hC (ev_T hdst hcl hun hdep hsub h.ent h.bas) hrel' hfr heff hrob hros
      refine .inl (hdoes.wp fun v w' ⟨ρ', hr, hn⟩ => hK ρ' _ _ q hn.le hst' ?_)
      rw [he] at fin hhi
      refine fin hn.le hr hn ?_ hhi
      rcases hhi with hhi | h0
      · right
        unfold kbOf at hkeys
        rw [hhi, cond_true] at hkeys
        exact hkeys
      · exact .inl h0
    · rw [if_neg (by simp [guard_T hmem hdst hdep hsub h.ent false hg])]
      rw [he] at fin
      exact hK ρ _ _ q (Le.refl _) hst' (fin (Le.refl _) off_R (New.refl _ _) (.inl rfl) (.inr rfl))
  · -- something is turned
    have hpq : p = q := by
      have h1 : ¬ p < q := fun hh => by have := (hst.2 p i hp).2 hh; rw [hun] at this; cases this
      rcases Nat.lt_or_ge q p with h2 | h2
      · exfalso
        have hpl := (List.getElem?_eq_some_iff.1 hp).1
        have hq : (turnsOf C ops.toList 0)[q]? = some ((turnsOf C ops.toList 0).getD q 0) := by simp [List.getD, show q < (turnsOf C ops.toList 0).length by omega]
        have hlt := turnsOf_sorted _ _ _ _ _ _ hq hp h2
        have := (hst.2 q _ hq).1 (hdep _ (chainB_spec hch hp hq hlt))
        omega
      · omega
    subst hpq
    have hpl := (List.getElem?_eq_some_iff.1 hp).1
    have hkb : kbOf base.nk ops.size (masks ops.toList []) (turnsOf C ops.toList 0) i = base.nk + 4 * i := by unfold kbOf; rw [hhd, cond_true]
    have hlo : lo (turnsOf C ops.toList 0) p ≤ i := by
      cases p with
      | zero => exact Nat.zero_le _
      | succ q =>
        have hq : (turnsOf C ops.toList 0)[q]? = some ((turnsOf C ops.toList 0).getD q 0) := by simp [List.getD, show q < (turnsOf C ops.toList 0).length by omega]
        exact turnsOf_sorted _ _ _ _ _ _ hq hp (by omega)
    have hothers : ∀ j, j < ops.size → hardB (masks ops.toList []) (turnsOf C ops.toList 0) j = true → L.getD j false = true → j < i ∧ (maskAt (masks ops.toList []) i).testBit j = true := fun j hj hjh hjl => by
      rcases hardB_spec hjh hp with hh | hh | hh
      · subst hh; rw [hjl] at hun; cases hun
      · have := hcl j hjl i hh; rw [hun] at this; cases this
      · exact ⟨mask_lt hac _ _ hh, hh⟩
    have hfrA : freshA ρ (base.nk + 4 * i) := fun k hk => h.fresh k (by omega) fun j hj hjh hjl hh => by
      have := (hothers j hj hjh hjl).1
      omega
    have hst' : StInv (turnsOf C ops.toList 0) (L.setIfInBounds i true) (p + 1) := ⟨by omega, fun p' h' hp' => by
      by_cases hih : i = h'
      · subst hih
        have hpp : p' = p := by
          rcases Nat.lt_trichotomy p' p with hlt | heq | hlt
          · have := turnsOf_sorted _ _ _ _ _ _ hp' hp hlt; omega
          · exact heq
          · have := turnsOf_sorted _ _ _ _ _ _ hp hp' hlt; omega
        subst hpp
        exact ⟨fun _ => by omega, fun _ => hset⟩
      · rw [getD_set_ne false hih, hst.2 p' h' hp']
        have : p' ≠ p := fun e => by subst e; rw [hp] at hp'; cases hp'; exact hih rfl
        omega⟩
    have hrel' : Rel X ρ (tabAt (ts.getD p []) se (inT (masks ops.toList []) (turnsOf C ops.toList 0) i p)) w := h.rel.sub fun k b hk => by
      rcases tabAt_blk _ _ _ _ _ hk with ⟨j, ej, hj, hb, hkb⟩ | hk
      · simp only [inT, Bool.and_eq_true] at hb
        exact .inr ⟨j, ej, hsub _ hj, hdep j hb.1, hb.2, hkb⟩
      · exact .inl hk
    have hnoE : ∀ {k : Nat} {b : Blk} {j : Nat} {ej : Ent}, e.E = [] → (j, ej) ∈ ents → (L.setIfInBounds i true).getD j false = true → okStage (masks ops.toList []) j (p + 1) (turnsOf C ops.toList 0) 0 = true → (k, b) ∈ ej.E → False := fun {k b j ej} hE hj hjl hjs hkb => by
      by_cases hij : i = j
      · subst hij; rw [huni ej hj, hE] at hkb; cases hkb
      · rw [getD_set_ne false hij] at hjl
        rcases hhard j ej hj with hjh | h0
        · have h1 := (hothers j (hmem j ej hj) hjh hjl).2
          have := ((okStage_iff _ _).1 hjs p i hp).2 h1
          omega
        · rw [h0] at hkb; cases hkb
    rcases hcase with ⟨hg, r, heff, hrob, hros, hT, he⟩ | ⟨hg, hT, he⟩
    · rw [if_pos (guard_T hmem hdst hdep hsub h.ent true hg)]
      rw [hkb] at heff
      have hdoes := eff_turn hC (ev_T hdst hcl hun hdep hsub h.ent h.bas) hrel' hfrA heff hrob hros
      refine .inl (hdoes.wp fun v w' ⟨ρ', hr, hle, hrelT, hfr⟩ => hK ρ' _ _ (p + 1) hle hst' ⟨?_, hentT hle (by rw [he]; exact hr), hbasT hle, hdefT, hszT, ?_⟩)
      · refine hrelT.sub fun k b hk => ?_
        rcases hk with hk | ⟨j, ej, hj, hjl, hjs, hkb⟩
        · rw [hT] at hk; exact hk
        · exact (hnoE (by rw [he]) hj hjl hjs hkb).elim
      · intro k hk _
        have hl : lo (turnsOf C ops.toList 0) (p + 1) = i + 1 := by simp only [lo, List.getD, hp, Option.getD_some]
        rw [hl] at hk
        exact hfr k (by omega)
    · rw [if_neg (by simp [guard_T hmem hdst hdep hsub h.ent false hg])]
      refine hK ρ _ _ (p + 1) (Le.refl _) hst' ⟨?_, hentT (Le.refl _) (by rw [he]; exact off_R), hbasT (Le.refl _), hdefT, hszT, ?_⟩
      · refine hrel'.sub fun k b hk => ?_
        rcases hk with hk | ⟨j, ej, hj, hjl, hjs, hkb⟩
        · rw [hT] at hk; exact hk
        · exact (hnoE (by rw [he]) hj hjl hjs hkb).elim
      · intro k hk _
        have hl : lo (turnsOf C ops.toList 0) (p + 1) = i + 1 := by simp only [lo, List.getD, hp, Option.getD_some]
        rw [hl] at hk
        exact hfrA k (by omega)
end

section
variable {P : Program} {C : List (Nat × Con)} {X : Cx} {ops : Array Oper} {base : St} {ents : List (Nat × Ent)} {ts : List Tab}

theorem main_T (hC : LibOK P C) (hac : acyc ops.toList 0 = true) (hch : chainB (masks ops.toList []) (turnsOf C ops.toList 0) = true) (hts : ts.length = (turnsOf C ops.toList 0).length + 1)
    (hmem : ∀ j e, (j, e) ∈ ents → j < ops.size) (huq : ∀ j e, (j, e) ∈ ents → ∀ d, e.dst = some d → get (dstsOf ops.toList 0) d = some j) (hdst : ∀ j e, (j, e) ∈ ents → ∀ o, ops[j]? = some o → e.dst = o.dst)
    (hhard : ∀ j e, (j, e) ∈ ents → hardB (masks ops.toList []) (turnsOf C ops.toList 0) j = true ∨ e.E = [])
    (hsp : ∀ i o, ops[i]? = some o → SpecA P C base (dstsOf ops.toList 0) (masks ops.toList []) (turnsOf C ops.toList 0) ops.size ents ts i o) {Q : Exit → Act → World → Prop} {ρ0 : Ren}
    (hQ : ∀ ρ a w, Le ρ0 ρ → RelA X ρ ⟨putAll base.tmps ents, tabAt (ts.getD (turnsOf C ops.toList 0).length []) ents (fun j => okStage (masks ops.toList []) j (turnsOf C ops.toList 0).length (turnsOf C ops.toList 0) 0), base.nk + 4 * ops.size, base.nt⟩ a w → Q .normal a w) :
    ∀ (fuel : Nat) (L : Array Bool) (q : Nat) (ρ : Ren) (a : Act) (w : World), L.size = ops.size → unl ops.size L ≤ fuel → (∀ i, L.getD i false = true → ∀ j, (maskAt (masks ops.toList []) i).testBit j = true → L.getD j false = true) → StInv (turnsOf C ops.toList 0) L q → Le ρ0 ρ →
      RelT X base (dstsOf ops.toList 0) (masks ops.toList []) (turnsOf C ops.toList 0) ents ts ops.size L q ρ a w → wpAny P .any ops Q fuel L a w := by
  -- the end
  have fin : ∀ (L : Array Bool) (q : Nat) (ρ : Ren) (a : Act) (w : World), (∀ i, i < ops.size → L.getD i false = true) → StInv (turnsOf C ops.toList 0) L q → Le ρ0 ρ → RelT X base (dstsOf ops.toList 0) (masks ops.toList []) (turnsOf C ops.toList 0) ents ts ops.size L q ρ a w → Q .normal a w := fun L q ρ a w hall hst hle h => by
    have hql : q = (turnsOf C ops.toList 0).length := by
      rcases Nat.eq_or_lt_of_le hst.1 with hh | hlt
      · exact hh
      · exfalso
        have hq : (turnsOf C ops.toList 0)[q]? = some ((turnsOf C ops.toList 0).getD q 0) := by simp [List.getD, hlt]
        obtain ⟨_, o', ho', _⟩ := turnsOf_mem _ _ _ _ hq
        have hlt2 : (turnsOf C ops.toList 0).getD q 0 < ops.size := by
          have := (List.getElem?_eq_some_iff.1 ho').1
          simpa using this
        have := (hst.2 q _ hq).1 (hall _ hlt2)
        omega
    subst hql
    refine hQ ρ a w hle ⟨h.rel.sub fun k b hk => ?_, fun t v hv => ?_, h.defers, fun k hk => ?_, h.sz⟩
    · rcases tabAt_blk _ _ _ _ _ hk with ⟨j, e, hj, hb, hkb⟩ | hk
      · exact .inr ⟨j, e, hj, hall j (hmem j e hj), hb, hkb⟩
      · exact .inl hk
    · rcases putAll_get _ _ _ _ hv with ⟨j, e, hj, hd, rfl⟩ | ⟨hno, hv⟩
      · exact h.ent j e hj (hall j (hmem j e hj)) t hd
      · refine h.bas t v hv fun j hj => ?_
        exfalso
        obtain ⟨o, ho, hd⟩ := dsts_op hj
        have ho' : ops[j]? = some o := by simpa using ho
        obtain ⟨e, hie, _, hed, _⟩ := hsp j o ho'
        exact hno j e hie (hed.trans hd)
    · refine h.fresh k ?_ fun j hj _ _ hh => ?_
      · have hlo : lo (turnsOf C ops.toList 0) (turnsOf C ops.toList 0).length ≤ ops.size := by
          cases hq : (turnsOf C ops.toList 0).length with
          | zero => exact Nat.zero_le _
          | succ q =>
            have hq' : (turnsOf C ops.toList 0)[q]? = some ((turnsOf C ops.toList 0).getD q 0) := by simp [List.getD, show q < (turnsOf C ops.toList 0).length by omega]
            obtain ⟨_, o', ho', _⟩ := turnsOf_mem _ _ _ _ hq'
            have h3 : (turnsOf C ops.toList 0).getD q 0 < ops.size := by
              have := (List.getElem?_eq_some_iff.1 ho').1
              simpa using this
            exact h3
        have h1 : base.nk + 4 * ops.size ≤ k := hk
        omega
      · have h1 : base.nk + 4 * ops.size ≤ k := hk
        omega
  intro fuel
  induction fuel with
  | zero =>
    intro L q ρ a w hL hu hcl hst hle h
    have hall : ∀ i, i < ops.size → L.getD i false = true := fun i hi => by
      cases hq : L.getD i false with
      | true => rfl
      | false =>
        have := unl_set hL hi hq
        omega
    refine ⟨?_, fin L q ρ a w hall hst hle h⟩
    rw [List.eq_nil_iff_forall_not_mem]
    intro j hj
    obtain ⟨h1, o, ho, _⟩ := mem_ready.1 hj
    have hjn := (Array.getElem?_eq_some_iff.1 ho).1
    rw [getD_true_false (by omega), hall j hjn] at h1
    cases h1
  | succ fuel ih =>
    intro L q ρ a w hL hu hcl hst hle h
    refine ⟨fun hr => ?_, fun i hi => ?_⟩
    · refine fin L q ρ a w (fun i hi => ?_) hst hle h
      refine Classical.byContradiction fun hne => ?_
      have hf : L.getD i false = false := by cases hq : L.getD i false with | false => rfl | true => exact absurd hq hne
      have hleast : ∃ i, i < ops.size ∧ L.getD i false = false ∧ ∀ j, j < i → L.getD j false = true := by
        clear hne
        induction i using Nat.strongRecOn with
        | _ i ihi =>
          by_cases hj : ∃ j, j < i ∧ L.getD j false = false
          · obtain ⟨j, hji, hjf⟩ := hj
            exact ihi j hji (by omega) hjf
          · refine ⟨i, hi, hf, fun j hji => ?_⟩
            cases hq : L.getD j false with
            | true => rfl
            | false => exact absurd ⟨j, hji, hq⟩ hj
      obtain ⟨i0, hi0, hf0, hlt0⟩ := hleast
      have hready : i0 ∈ Region.ready .any ops L := by
        have hoi : ops[i0]? = some ops[i0] := by simp [hi0]
        refine mem_ready.2 ⟨by rw [getD_true_false (by omega)]; exact hf0, ops[i0], hoi, fun e he hb => ?_⟩
        have := acyc_spec _ 0 hac i0 ops[i0] (by simp [hi0]) e he hb
        exact hlt0 e.on (by omega)
      rw [hr] at hready; cases hready
    · obtain ⟨h1, o, ho, hdeps⟩ := mem_ready.1 hi
      have hin := (Array.getElem?_eq_some_iff.1 ho).1
      rw [getD_true_false (by omega)] at h1
      have hclos : ∀ j, (maskAt (masks ops.toList []) i).testBit j = true → L.getD j false = true := fun j hj => by
        obtain ⟨o2, ho2, e, he, hb, hcase⟩ := mask_bit _ hac i j hj
        have ho2' : ops[i]? = some o2 := by simpa using ho2
        rw [ho] at ho2'; cases ho2'
        have hel := hdeps e he hb
        rcases hcase with rfl | hcase
        · exact hel
        · exact hcl e.on hel j hcase
      refine step_T hC hac hch hts hmem huq hdst hhard L hL hcl hst ho (hsp i o ho) h1 hclos h fun ρ' a' w' q' hle' hst' h' => ?_
      have hiL : i < L.size := by omega
      refine ih _ q' ρ' a' w' (by simp [hL]) ?_ ?_ hst' (hle.trans hle') h'
      · have := unl_set hL hin h1; omega
      · intro j hj k hk
        by_cases hij : i = j
        · subst hij
          have := hclos k hk
          by_cases hik : i = k
          · subst hik; simp [hiL]
          · rw [getD_set_ne false hik]; exact this
        · rw [getD_set_ne false hij] at hj
          have := hcl j hj k hk
          by_cases hik : i = k
          · subst hik; simp [hiL]
          · rw [getD_set_ne false hik]; exact this
end

theorem anyT_run {P : Program} {C : List (Nat × Con)} (hC : LibOK P C) {X : Cx} {ops : Array Oper} {Q : Exit → Act → World → Prop} {s s' : RSt} {ρ : Ren} {a : Act} {w : World} (h : anyT P C ops s = some s') (hob : s'.ob = true) (hobs : All s'.obs)
    (hrel : RelA X ρ s.st a w) (hQ : ∀ ρ' a' w', Le ρ ρ' → RelA X ρ' s'.st a' w' → Q .normal a' w') : wpAny P .any ops Q ops.size (Array.replicate ops.size false) a w := by
  unfold anyT at h
  simp only at h
  split at h <;> try (cases h; done)
  rename_i p hp
  split at h <;> try (cases h; done)
  rename_i ob obs hck
  simp only [Option.some.injEq] at h; subst h
  obtain ⟨pob, pobs, hcs⟩ := chkR_spec _ _ _ hck hob hobs
  obtain ⟨m1, m2, m3, m4, m5, m6, m7, m8⟩ := preT_spec (H := turnsOf C ops.toList 0) _ _ _ _ [] hp pob pobs rfl rfl (fun j e hj => by simp at hj)
  simp only [bnd_true, Bool.and_eq_true] at m1
  obtain ⟨_, hac, hch⟩ := m1
  have hlen : ops.toList.length = ops.size := by simp
  have hmem : ∀ j e, (j, e) ∈ p.ents → j < ops.size := fun j e hj => by
    rcases m7 j e hj with hj | hj
    · simp at hj
    · omega
  have hsp : ∀ i o, ops[i]? = some o → SpecA P C s.st (dstsOf ops.toList 0) (masks ops.toList []) (turnsOf C ops.toList 0) ops.size p.ents p.ts i o := fun i o ho => by
    have := m8 i o (by simpa using ho)
    rw [Nat.zero_add, hlen] at this
    rw [hlen] at hcs
    exact specA_of this hcs
  have hget : ∀ j, j < ops.size → ∃ o, ops[j]? = some o := fun j hj => ⟨ops[j], by simp [hj]⟩
  have hdst : ∀ j e, (j, e) ∈ p.ents → ∀ o, ops[j]? = some o → e.dst = o.dst := fun j e hj o ho => by
    obtain ⟨e', hie, huni, hed, _⟩ := hsp j o ho
    rw [huni e hj]; exact hed
  have huq : ∀ j e, (j, e) ∈ p.ents → ∀ d, e.dst = some d → get (dstsOf ops.toList 0) d = some j := fun j e hj d hd => by
    obtain ⟨o, ho⟩ := hget j (hmem j e hj)
    obtain ⟨e', hie, huni, hed, _, hunq, _⟩ := hsp j o ho
    rw [huni e hj, hed] at hd
    rw [hd] at hunq
    simp only [uniq] at hunq
    split at hunq
    · rename_i q hq; rw [hq, Nat.eq_of_beq_eq_true hunq]
    · cases hunq
  have hhard : ∀ j e, (j, e) ∈ p.ents → hardB (masks ops.toList []) (turnsOf C ops.toList 0) j = true ∨ e.E = [] := fun j e hj => by
    obtain ⟨o, ho⟩ := hget j (hmem j e hj)
    obtain ⟨e', hie, huni, _, _, _, hcase⟩ := hsp j o ho
    rw [huni e hj]
    rcases hcase with ⟨_, _, _, ⟨_, hh, _⟩ | ⟨_, he⟩⟩ | ⟨_, _, _, _, _, hh, _⟩
    · exact hh
    · exact .inr (by rw [he])
    · exact .inl hh
  have hnl : ∀ j, (Array.replicate ops.size false).getD j false = false := fun j => by simp [Array.getD]
  refine main_T (X := X) (ρ0 := ρ) hC hac hch m6 hmem huq hdst hhard hsp (fun ρ' a' w' hle hA => hQ ρ' a' w' hle ?_) ops.size _ 0 ρ a w (by simp) ?_ ?_ ?_ (Le.refl _) ?_
  · rw [hlen]; exact hA
  · unfold unl
    exact Nat.le_trans (List.length_filter_le _ _) (by simp)
  · intro i hi
    rw [hnl] at hi; cases hi
  · refine ⟨Nat.zero_le _, fun q h _ => ?_⟩
    rw [hnl]; simp
  · obtain ⟨t, ht⟩ := m5
    have ht0 : p.ts.getD 0 [] = s.st.tab := by rw [ht]; rfl
    refine ⟨hrel.rel.sub fun k b hk => ?_, fun j e _ hl => ?_, fun t v hv _ => hrel.tmps t v hv, hrel.defers, hrel.sz, fun k hk _ => hrel.fresh k (by simpa [lo] using hk)⟩
    · rcases hk with hk | ⟨j, e, _, hl, _⟩
      · rw [ht0] at hk; exact hk
      · rw [hnl] at hl; cases hl
    · rw [hnl] at hl; cases hl

theorem anyT_mono {P : Program} {C : List (Nat × Con)} {ops : Array Oper} {s s' : RSt} (h : anyT P C ops s = some s') (h1 : s'.ob = true) (h2 : All s'.obs) : s.ob = true ∧ All s.obs := by
  unfold anyT at h
  simp only at h
  split at h <;> try (cases h; done)
  rename_i p hp
  split at h <;> try (cases h; done)
  rename_i ob obs hck
  simp only [Option.some.injEq] at h; subst h
  obtain ⟨pob, pobs, _⟩ := chkR_spec _ _ _ hck h1 h2
  obtain ⟨m1, m2, _⟩ := preT_spec (H := turnsOf C ops.toList 0) _ _ _ _ [] hp pob pobs rfl rfl (fun j e hj => by simp at hj)
  simp only [bnd_true, Bool.and_eq_true] at m1
  exact ⟨m1.1, m2⟩

/-- A region in any order: where all behind the first that turns something is forced, that goes in the order of the text. -/
def anyF (P : Program) (C : List (Nat × Con)) (ops : Array Oper) (s : RSt) : Option RSt :=
  match forcedFrom (masks ops.toList []) (headLen C ops.toList) (ops.toList.length - headLen C ops.toList) with
  | true => anyR P C ops s
  | false => anyT P C ops s
theorem anyF_run {P : Program} {C : List (Nat × Con)} (hC : LibOK P C) {X : Cx} {ops : Array Oper} {Q : Exit → Act → World → Prop} {s s' : RSt} {ρ : Ren} {a : Act} {w : World} (h : anyF P C ops s = some s') (hob : s'.ob = true) (hobs : All s'.obs)
    (hrel : RelA X ρ s.st a w) (hQ : ∀ ρ' a' w', Le ρ ρ' → RelA X ρ' s'.st a' w' → Q .normal a' w') : wpAny P .any ops Q ops.size (Array.replicate ops.size false) a w := by
  unfold anyF at h
  split at h
  · exact anyR_run hC h hob hobs hrel hQ
  · exact anyT_run hC h hob hobs hrel hQ

end Go.Proofs.YtabiknpgakhkkaaGreat.Sx
end

section
namespace Go.Proofs.YtabiknpgakhkkaaGreat.Sx
open Go.RowKit
set_option linter.unusedVariables false
set_option linter.unusedSimpArgs false

inductive Out where
  | norm
  | exit (id : Nat)
  | ret

def OutIs : Exit → Out → Prop
  | .normal, .norm => True
  | .exit i, .exit j => i = j
  | .ret, .ret => True
  | _, _ => False

/-- A way through code: rounds of loops one by one; tests by what is told, or by what they come to. -/
def xcode (P : Program) (C : List (Nat × Con)) : Nat → Code → RSt → Option (Out × RSt)
  | 0, _, _ => none
  | f + 1, c, s => match c with
    | .skip => some (.norm, s)
    | .label _ => some (.norm, s)
    | .exit id => some (.exit id, s)
    | .ret => some (.ret, s)
    | .region _ ops draw => match draw with
      | true => match anyF P C ops s with
        | some s' => some (.norm, { s' with orc := { s'.orc with known := [] } })
        | none => none
      | false => match seqR P C ops ops.toList s with
        | some s' => some (.norm, { s' with orc := { s'.orc with known := [] } })
        | none => none
    | .seq a b => match xcode P C f a s with
      | some (.norm, s') => xcode P C f b s'
      | some (o, s') => some (o, s')
      | none => none
    | .cond c a b => match sev s.st.tmps c with
      | .c (.bool t) => match s.orc.told with
        | true :: r => xcode P C f a { s with ob := bnd s.ob t, orc := ⟨r, []⟩ }
        | false :: r => xcode P C f b { s with ob := bnd s.ob (!t), orc := ⟨r, []⟩ }
        | [] => match t with
          | true => xcode P C f a s
          | false => xcode P C f b s
      | _ => none
    | .block id c => match xcode P C f c s with
      | some (.exit j, s') => bif Nat.beq j id then some (.norm, s') else some (.exit j, s')
      | r => r
    | .loop c => match xcode P C f c s with
      | some (.norm, s') => xcode P C f (.loop c) s'
      | some (o, s') => some (o, s')
      | none => none
    | _ => none

section
variable {P : Program} {C : List (Nat × Con)}

theorem seqR_mono {ops : Array Oper} : ∀ (l : List Oper) (s s' : RSt), seqR P C ops l s = some s' → s'.ob = true → All s'.obs → s.ob = true ∧ All s.obs := by
  intro l
  induction l with
  | nil => intro s s' h h1 h2; simp only [seqR, Option.some.injEq] at h; subst h; exact ⟨h1, h2⟩
  | cons o l ih =>
    intro s s' h h1 h2
    unfold seqR at h
    split at h <;> try (cases h; done)
    · split at h <;> try (cases h; done)
      · obtain ⟨g1, g2⟩ := ih _ _ h h1 h2
        simp only [bnd_true, Bool.and_eq_true] at g1
        exact ⟨g1.1, (All_append.1 g2).2⟩
      · obtain ⟨g1, g2⟩ := ih _ _ h h1 h2
        simp only [bnd_true, Bool.and_eq_true] at g1
        exact ⟨g1.1, (All_append.1 g2).2⟩
    · obtain ⟨g1, g2⟩ := ih _ _ h h1 h2
      simp only [bnd_true, Bool.and_eq_true] at g1
      exact ⟨g1.1, g2⟩

theorem anyR_mono {ops : Array Oper} {s s' : RSt} (h : anyR P C ops s = some s') (h1 : s'.ob = true) (h2 : All s'.obs) : s.ob = true ∧ All s.obs := by
  unfold anyR at h
  simp only at h
  split at h <;> try (cases h; done)
  rename_i p hp
  obtain ⟨g1, g2⟩ := seqR_mono _ _ _ h h1 h2
  obtain ⟨m1, m2, _⟩ := preR_mono _ _ _ _ hp g1 g2
  simp only [bnd_true, Bool.and_eq_true] at m1
  exact ⟨m1.1, m2⟩

theorem anyF_mono {ops : Array Oper} {s s' : RSt} (h : anyF P C ops s = some s') (h1 : s'.ob = true) (h2 : All s'.obs) : s.ob = true ∧ All s.obs := by
  unfold anyF at h
  split at h
  · exact anyR_mono h h1 h2
  · exact anyT_mono h h1 h2

theorem xcode_mono : ∀ (f : Nat) (c : Code) (s s' : RSt) (o : Out), xcode P C f c s = some (o, s') → s'.ob = true → All s'.obs → s.ob = true ∧ All s.obs
  | 0, c, s, s', o, h, _, _ => by simp [xcode] at h
  | f + 1, c, s, s', o, h, h1, h2 => by
    have ih := xcode_mono f
    unfold xcode at h
    split at h
    · simp only [Option.some.injEq, Prod.mk.injEq] at h; obtain ⟨_, rfl⟩ := h; exact ⟨h1, h2⟩
    · simp only [Option.some.injEq, Prod.mk.injEq] at h; obtain ⟨_, rfl⟩ := h; exact ⟨h1, h2⟩
    · simp only [Option.some.injEq, Prod.mk.injEq] at h; obtain ⟨_, rfl⟩ := h; exact ⟨h1, h2⟩
    · simp only [Option.some.injEq, Prod.mk.injEq] at h; obtain ⟨_, rfl⟩ := h; exact ⟨h1, h2⟩
    · split at h
      · split at h <;> try (cases h; done)
        rename_i s1 hs1
        simp only [Option.some.injEq, Prod.mk.injEq] at h; obtain ⟨_, rfl⟩ := h
        exact anyF_mono hs1 h1 h2
      · split at h <;> try (cases h; done)
        rename_i s1 hs1
        simp only [Option.some.injEq, Prod.mk.injEq] at h; obtain ⟨_, rfl⟩ := h
        exact seqR_mono _ _ _ hs1 h1 h2
    · split at h <;> try (cases h; done)
      · rename_i s1 hs1
        obtain ⟨g1, g2⟩ := ih _ _ _ _ h h1 h2
        exact ih _ _ _ _ hs1 g1 g2
      · rename_i o1 s1 hs1
        simp only [Option.some.injEq, Prod.mk.injEq] at h; obtain ⟨_, rfl⟩ := h
        exact ih _ _ _ _ hs1 h1 h2
    · split at h <;> try (cases h; done)
      split at h
      · obtain ⟨g1, g2⟩ := ih _ _ _ _ h h1 h2
        simp only [bnd_true, Bool.and_eq_true] at g1
        exact ⟨g1.1, g2⟩
      · obtain ⟨g1, g2⟩ := ih _ _ _ _ h h1 h2
        simp only [bnd_true, Bool.and_eq_true] at g1
        exact ⟨g1.1, g2⟩
      · split at h
        · exact ih _ _ _ _ h h1 h2
        · exact ih _ _ _ _ h h1 h2
    · split at h
      · rename_i j s1 hs1
        cases hb : Nat.beq j _ with
        | true => rw [hb] at h; simp only [cond_true, Option.some.injEq, Prod.mk.injEq] at h; obtain ⟨_, rfl⟩ := h; exact ih _ _ _ _ hs1 h1 h2
        | false => rw [hb] at h; simp only [cond_false, Option.some.injEq, Prod.mk.injEq] at h; obtain ⟨_, rfl⟩ := h; exact ih _ _ _ _ hs1 h1 h2
      · exact ih _ _ _ _ h h1 h2
    · split at h <;> try (cases h; done)
      · rename_i s1 hs1
        obtain ⟨g1, g2⟩ := ih _ _ _ _ h h1 h2
        exact ih _ _ _ _ hs1 g1 g2
      · rename_i o1 s1 hs1
        simp only [Option.some.injEq, Prod.mk.injEq] at h; obtain ⟨_, rfl⟩ := h
        exact ih _ _ _ _ hs1 h1 h2
    · cases h

/-- What holds behind code that has been gone through. -/
def Sound (P : Program) (X : Cx) (c : Code) (st : St) (o : Out) (st' : St) : Prop :=
  ∀ (ρ : Ren) (a : Act) (w : World) (Q : Exit → Act → World → Prop), RelA X ρ st a w → (∀ ex a' w' ρ', OutIs ex o → Le ρ ρ' → RelA X ρ' st' a' w' → Q ex a' w') → c.wp P Q a w

theorem RelA.drew {X : Cx} {ρ : Ren} {st : St} {a : Act} {w : World} (h : RelA X ρ st a w) : RelA X ρ st a { w with drawn := w.drawn + 1 } :=
  ⟨h.rel.draw, h.tmps, h.defers, h.fresh, h.sz⟩

theorem xcode_run (hC : LibOK P C) (hm : P.follows .mixedOrders = true) {X : Cx} (c : Code) : ∀ (f : Nat) (s s' : RSt) (o : Out), xcode P C f c s = some (o, s') → s'.ob = true → All s'.obs → Sound P X c s.st o s'.st := by
  induction c with
  | skip =>
    intro f s s' o h h1 h2
    cases f <;> simp only [xcode, reduceCtorEq, Option.some.injEq, Prod.mk.injEq] at h
    obtain ⟨rfl, rfl⟩ := h
    exact fun ρ a w Q hrel hQ => wp_skip (hQ .normal a w ρ trivial (Le.refl _) hrel)
  | label l =>
    intro f s s' o h h1 h2
    cases f <;> simp only [xcode, reduceCtorEq, Option.some.injEq, Prod.mk.injEq] at h
    obtain ⟨rfl, rfl⟩ := h
    exact fun ρ a w Q hrel hQ => wp_label (hQ .normal a w ρ trivial (Le.refl _) hrel)
  | exit id =>
    intro f s s' o h h1 h2
    cases f <;> simp only [xcode, reduceCtorEq, Option.some.injEq, Prod.mk.injEq] at h
    obtain ⟨rfl, rfl⟩ := h
    exact fun ρ a w Q hrel hQ => wp_exit (hQ (.exit id) a w ρ rfl (Le.refl _) hrel)
  | ret =>
    intro f s s' o h h1 h2
    cases f <;> simp only [xcode, reduceCtorEq, Option.some.injEq, Prod.mk.injEq] at h
    obtain ⟨rfl, rfl⟩ := h
    exact fun ρ a w Q hrel hQ => wp_ret (hQ .ret a w ρ trivial (Le.refl _) hrel)
  | region id ops draw =>
    intro f s s' o h h1 h2
    cases f <;> simp only [xcode, reduceCtorEq] at h
    split at h
    · split at h <;> try (cases h; done)
      rename_i s1 hs1
      simp only [Option.some.injEq, Prod.mk.injEq] at h; obtain ⟨rfl, rfl⟩ := h
      exact fun ρ a w Q hrel hQ => wp_region_any hm (anyF_run hC hs1 h1 h2 hrel.drew fun ρ' a' w' hle h => hQ .normal a' w' ρ' trivial hle h)
    · split at h <;> try (cases h; done)
      rename_i s1 hs1
      simp only [Option.some.injEq, Prod.mk.injEq] at h; obtain ⟨rfl, rfl⟩ := h
      exact fun ρ a w Q hrel hQ => wp_region_list (seqR_run hC _ _ _ ρ a w hs1 h1 h2 hrel fun ρ' a' w' hle h => hQ .normal a' w' ρ' trivial hle h)
  | seq x y ihx ihy =>
    intro f s s' o h h1 h2
    cases f <;> simp only [xcode, reduceCtorEq] at h
    rename_i f
    split at h <;> try (cases h; done)
    · rename_i s1 hs1
      obtain ⟨g1, g2⟩ := xcode_mono _ _ _ _ _ h h1 h2
      have hx := ihx f s s1 .norm hs1 g1 g2
      have hy := ihy f s1 s' o h h1 h2
      refine fun ρ a w Q hrel hQ => wp_seq (hx ρ a w _ hrel fun ex a1 w1 ρ1 ho hle1 hrel1 => ?_)
      cases ex <;> try exact ho.elim
      exact hy ρ1 a1 w1 Q hrel1 fun ex a2 w2 ρ2 ho2 hle2 hrel2 => hQ ex a2 w2 ρ2 ho2 (hle1.trans hle2) hrel2
    · rename_i o1 s1 hs1 hne
      simp only [Option.some.injEq, Prod.mk.injEq] at h; obtain ⟨rfl, rfl⟩ := h
      have hx := ihx f s _ _ hne h1 h2
      refine fun ρ a w Q hrel hQ => wp_seq (hx ρ a w _ hrel fun ex a1 w1 ρ1 ho hle1 hrel1 => ?_)
      cases ex
      case normal => cases o1 <;> first | exact False.elim ho | (exfalso; simp_all; done)
      all_goals exact hQ _ a1 w1 ρ1 ho hle1 hrel1
  | cond q x y ihx ihy =>
    intro f s s' o h h1 h2
    cases f <;> simp only [xcode, reduceCtorEq] at h
    rename_i f
    split at h <;> try (cases h; done)
    rename_i t ht
    have hev : ∀ {ρ a w}, RelA X ρ s.st a w → a.eval q = .bool t := fun {ρ a w} hrel => by
      have := sev_R hrel q
      rw [ht] at this
      exact this
    have yes : ∀ {s1 : RSt}, xcode P C f x s1 = some (o, s') → s1.st = s.st → t = true → Sound P X (.cond q x y) s.st o s'.st := fun {s1} h hst ht ρ a w Q hrel hQ => by
      have := ihx f _ s' o h h1 h2
      rw [hst] at this
      exact wp_cond_true (by rw [hev hrel, ht]) (this ρ a w Q hrel hQ)
    have no : ∀ {s1 : RSt}, xcode P C f y s1 = some (o, s') → s1.st = s.st → t = false → Sound P X (.cond q x y) s.st o s'.st := fun {s1} h hst ht ρ a w Q hrel hQ => by
      have := ihy f _ s' o h h1 h2
      rw [hst] at this
      exact wp_cond_false (by rw [hev hrel, ht]) (this ρ a w Q hrel hQ)
    split at h
    · obtain ⟨g1, g2⟩ := xcode_mono _ _ _ _ _ h h1 h2
      simp only [bnd_true, Bool.and_eq_true] at g1
      exact yes h rfl g1.2
    · obtain ⟨g1, g2⟩ := xcode_mono _ _ _ _ _ h h1 h2
      simp only [bnd_true, Bool.and_eq_true, Bool.not_eq_true'] at g1
      exact no h rfl g1.2
    · split at h
      · exact yes h rfl rfl
      · exact no h rfl rfl
  | block id c ih =>
    intro f s s' o h h1 h2
    cases f <;> simp only [xcode, reduceCtorEq] at h
    rename_i f
    split at h
    · rename_i j s1 hs1
      cases hb : Nat.beq j id with
      | true =>
        rw [hb] at h; simp only [cond_true, Option.some.injEq, Prod.mk.injEq] at h; obtain ⟨rfl, rfl⟩ := h
        have hc := ih f s s1 (.exit j) hs1 h1 h2
        obtain rfl := Nat.eq_of_beq_eq_true hb
        refine fun ρ a w Q hrel hQ => wp_block (hc ρ a w _ hrel fun ex a1 w1 ρ1 ho hle1 hrel1 => ?_)
        cases ex <;> try exact ho.elim
        rename_i i
        obtain rfl : i = j := ho
        simp only [Exit.inBlock, if_true]
        exact hQ .normal a1 w1 ρ1 trivial hle1 hrel1
      | false =>
        rw [hb] at h; simp only [cond_false, Option.some.injEq, Prod.mk.injEq] at h; obtain ⟨rfl, rfl⟩ := h
        have hc := ih f s s1 (.exit j) hs1 h1 h2
        have hne : j ≠ id := fun e => by subst e; simp at hb
        refine fun ρ a w Q hrel hQ => wp_block (hc ρ a w _ hrel fun ex a1 w1 ρ1 ho hle1 hrel1 => ?_)
        cases ex <;> try exact ho.elim
        rename_i i
        obtain rfl : i = j := ho
        simp only [Exit.inBlock, if_neg hne]
        exact hQ (.exit i) a1 w1 ρ1 rfl hle1 hrel1
    · rename_i r hr
      have hc := ih f s s' o h h1 h2
      refine fun ρ a w Q hrel hQ => wp_block (hc ρ a w _ hrel fun ex a1 w1 ρ1 ho hle1 hrel1 => ?_)
      cases ex
      case exit i => cases o <;> first | exact False.elim ho | exact (hr _ _ h).elim
      all_goals exact hQ _ a1 w1 ρ1 ho hle1 hrel1
  | loop c ih =>
    have key : ∀ (f : Nat) (s s' : RSt) (o : Out), xcode P C f (.loop c) s = some (o, s') → s'.ob = true → All s'.obs →
        ∃ n, ∀ (ρ : Ren) (a : Act) (w : World) (Q : Exit → Act → World → Prop), RelA X ρ s.st a w → (∀ ex a' w' ρ', OutIs ex o → Le ρ ρ' → RelA X ρ' s'.st a' w' → Q ex a' w') → Code.rounds P c Q n a w := by
      intro f
      induction f with
      | zero => intro s s' o h; simp [xcode] at h
      | succ f ihf =>
        intro s s' o h h1 h2
        simp only [xcode] at h
        split at h <;> try (cases h; done)
        · rename_i s1 hs1
          obtain ⟨g1, g2⟩ := xcode_mono _ _ _ _ _ h h1 h2
          obtain ⟨n, hn⟩ := ihf s1 s' o h h1 h2
          have hc := ih f s s1 .norm hs1 g1 g2
          refine ⟨n + 1, fun ρ a w Q hrel hQ => ?_⟩
          rw [rounds_succ]
          refine hc ρ a w _ hrel fun ex a1 w1 ρ1 ho hle1 hrel1 => ?_
          cases ex <;> try exact ho.elim
          exact hn ρ1 a1 w1 Q hrel1 fun ex a2 w2 ρ2 ho2 hle2 hrel2 => hQ ex a2 w2 ρ2 ho2 (hle1.trans hle2) hrel2
        · rename_i o1 s1 hne hs1
          simp only [Option.some.injEq, Prod.mk.injEq] at h; obtain ⟨rfl, rfl⟩ := h
          have hc := ih f s _ _ hs1 h1 h2
          refine ⟨1, fun ρ a w Q hrel hQ => ?_⟩
          rw [rounds_succ]
          refine hc ρ a w _ hrel fun ex a1 w1 ρ1 ho hle1 hrel1 => ?_
          cases ex
          case normal => cases o1 <;> first | exact False.elim ho | (exfalso; simp_all; done)
          all_goals exact hQ _ a1 w1 ρ1 ho hle1 hrel1
    intro f s s' o h h1 h2 ρ a w Q hrel hQ
    obtain ⟨n, hn⟩ := key f s s' o h h1 h2
    exact wp_loop_rounds n (hn ρ a w Q hrel hQ)
  | rangeFunc q ps x y _ _ => intro f s s' o h; cases f <;> simp [xcode] at h
  | scope c _ => intro f s s' o h; cases f <;> simp [xcode] at h
  | goto l => intro f s s' o h; cases f <;> simp [xcode] at h
  | refuse y => intro f s s' o h; cases f <;> simp [xcode] at h
end

/-- A function's results. -/
def resOne (P : Program) (st : St) : ResultVar → Option (Bool × SV)
  | .tmp t => some (true, sev st.tmps (.tmp t))
  | .cell a t => match sev st.tmps (.tmp a) with
    | .c (.ptr k off) => match st.tab.blk k with
      | some b => loadS P t b off
      | none => none
    | _ => none
def asPart : SV → Option (SC ⊕ List SC)
  | .c x => some (.inl x)
  | .agg cs => some (.inr cs)
  | _ => none
def resMany (P : Program) (st : St) : List ResultVar → Option (Bool × List (SC ⊕ List SC))
  | [] => some (true, [])
  | r :: l => match resOne P st r, resMany P st l with
    | some (o, v), some (o', vs) => match asPart v with
      | some p => some (o && o', p :: vs)
      | none => none
    | _, _ => none
def resS (P : Program) (st : St) : List ResultVar → Option (Bool × SV)
  | [r] => resOne P st r
  | l => match resMany P st l with
    | some (o, vs) => some (o, .tup vs)
    | none => none

section
variable {P : Program} {X : Cx} {ρ : Ren} {st : St} {a : Act} {w : World}

def resRun (tmps : Array Value) : ResultVar → Sem Value
  | .tmp t => pure (tmps.getD t undef)
  | .cell x t => do loadVar t (← asAddr (tmps.getD x undef))
theorem results_eq (fn : Func) (tmps : Array Value) : results fn tmps = (fn.results.mapM (resRun tmps) >>= fun vs => pure (if h : vs.size = 1 then vs[0] else .tuple vs)) := by
  unfold results
  congr 1

theorem resOne_run (h : RelA X ρ st a w) {r : ResultVar} {v : SV} (hr : resOne P st r = some (true, v)) :
    ∃ u, (resRun a.tmps r).run P w = .ok u w ∧ v.R ρ u := by
  cases r with
  | tmp t =>
    simp only [resOne, Option.some.injEq, Prod.mk.injEq, true_and] at hr; subst hr
    exact ⟨_, rfl, sev_R h (.tmp t)⟩
  | cell x t =>
    simp only [resOne] at hr
    split at hr <;> try (cases hr; done)
    rename_i k off hx
    split at hr <;> try (cases hr; done)
    rename_i b hb
    have h1 := sev_R h (.tmp x)
    rw [hx] at h1
    obtain ⟨l, hk, hv⟩ := h1
    obtain ⟨u, hu, hur⟩ := loadS_run (P := P) hr (h.rel.at hb hk)
    refine ⟨u, ?_, hur⟩
    have hv' : a.tmps.getD x undef = .pointer (some ⟨l.blk, l.o0 + off, none⟩) := hv
    simp only [resRun, Sem.run_bind, hv', asAddr, Sem.run_pure, Result.andThen_ok, hu]

theorem resMany_run (h : RelA X ρ st a w) : ∀ {rs : List ResultVar} {vs : List (SC ⊕ List SC)}, resMany P st rs = some (true, vs) →
    ∃ us : List Value, (rs.mapM (resRun a.tmps)).run P w = .ok us w ∧ All2 (PartR ρ) vs us
  | [], vs, h' => by
    simp only [resMany, Option.some.injEq, Prod.mk.injEq, true_and] at h'; subst h'
    exact ⟨[], rfl, .nil⟩
  | r :: rs, vs, h' => by
    simp only [resMany] at h'
    split at h' <;> try (cases h'; done)
    rename_i o v o' vs' hv hvs
    split at h' <;> try (cases h'; done)
    rename_i p hp
    simp only [Option.some.injEq, Prod.mk.injEq, Bool.and_eq_true] at h'
    obtain ⟨⟨rfl, rfl⟩, rfl⟩ := h'
    obtain ⟨u, hu, hur⟩ := resOne_run (P := P) h hv
    obtain ⟨us, hus, husr⟩ := resMany_run h hvs
    refine ⟨u :: us, ?_, .cons ?_ husr⟩
    · rw [List.mapM_cons, Sem.run_bind, hu, Result.andThen_ok, Sem.run_bind, hus, Result.andThen_ok]
      rfl
    · cases v <;> simp only [asPart, Option.some.injEq, reduceCtorEq] at hp <;> subst hp <;> exact hur

theorem resS_run (h : RelA X ρ st a w) {fn : Func} {v : SV} (hr : resS P st fn.results.toList = some (true, v)) :
    ∃ u, (results fn a.tmps).run P w = .ok u w ∧ v.R ρ u := by
  rw [results_eq, Array.mapM_eq_mapM_toList]
  unfold resS at hr
  split at hr
  · rename_i r hl
    obtain ⟨u, hu, hur⟩ := resOne_run (P := P) h hr
    refine ⟨u, ?_, hur⟩
    rw [hl]
    simp only [Sem.run_bind, Sem.run_map, List.mapM_cons, List.mapM_nil]
    rw [hu]
    simp
  · rename_i l hne
    split at hr <;> try (cases hr; done)
    rename_i o vs hvs
    simp only [Option.some.injEq, Prod.mk.injEq] at hr
    obtain ⟨rfl, rfl⟩ := hr
    obtain ⟨us, hus, husr⟩ := resMany_run h hvs
    refine ⟨.tuple us.toArray, ?_, us, rfl, husr⟩
    simp only [Sem.run_bind, Sem.run_map]
    rw [hus]
    have h1 : us.length = fn.results.toList.length := by
      have e1 := husr.length
      have e2 : ∀ {rs : List ResultVar} {o} {vs : List (SC ⊕ List SC)}, resMany P st rs = some (o, vs) → vs.length = rs.length := by
        intro rs
        induction rs with
        | nil => intro o vs h; simp only [resMany, Option.some.injEq, Prod.mk.injEq] at h; obtain ⟨_, rfl⟩ := h; rfl
        | cons r rs ih =>
          intro o vs h
          simp only [resMany] at h
          split at h <;> try (cases h; done)
          split at h <;> try (cases h; done)
          rename_i hvs _ _ _
          simp only [Option.some.injEq, Prod.mk.injEq] at h
          obtain ⟨_, rfl⟩ := h
          simp [ih hvs]
      rw [← e1, e2 hvs]
    have h2 : ¬ (us.toArray.size = 1) := by
      intro hh
      simp at hh
      rw [h1] at hh
      obtain ⟨r, hr⟩ := List.length_eq_one_iff.1 hh
      exact hne r hr
    simp only [Result.andThen_ok, Sem.run_pure, dif_neg h2]
end

def argTmps : List SV → Nat → List (Nat × SV)
  | [], _ => []
  | v :: r, i => (i, v) :: argTmps r (i + 1)
theorem argTmps_get {ρ : Ren} : ∀ {args : List SV} {vs : List Value} (i t : Nat) (v : SV), All2 (SV.R ρ) args vs → get (argTmps args i) t = some v → i ≤ t ∧ ∃ u, vs[t - i]? = some u ∧ v.R ρ u
  | [], vs, i, t, v, h, hg => by simp [argTmps, get] at hg
  | x :: args, vs, i, t, v, h, hg => by
    cases h with
    | @cons _ u _ vs h1 h2 =>
    by_cases hit : i = t
    · subst hit
      simp [argTmps, get] at hg; subst hg
      exact ⟨Nat.le_refl _, u, by simp, h1⟩
    · simp only [argTmps, get, beq_of_ne hit, cond_false] at hg
      obtain ⟨h3, u', hu, hr⟩ := argTmps_get (i + 1) t v h2 hg
      refine ⟨by omega, u', ?_, hr⟩
      have : t - i = (t - (i + 1)) + 1 := by omega
      rw [this, List.getElem?_cons_succ]; exact hu

def isEnd : Out → Bool
  | .norm => true
  | .ret => true
  | _ => false

/-- A function gone through: the arguments, a table; the end. -/
def xfun (P : Program) (C : List (Nat × Con)) (fuel : Nat) (f : FuncId) (args : List SV) (T : Tab) (nk : Nat) (told : List Bool) : Option (Bool × List Prop × SV × Tab) :=
  match P.funcs[f]? with
  | some fn => match fn.body with
    | some c => match xcode P C fuel c ⟨⟨argTmps args 0, T, nk, fn.ntmps⟩, true, [], ⟨told, []⟩⟩ with
      | some (o, s) => match resS P s.st fn.results.toList with
        | some (b, v) => some (bnd s.ob (b && (isEnd o && Nat.ble args.length fn.ntmps)), s.obs, v, s.st.tab)
        | none => none
      | none => none
    | none => none
  | none => none

theorem xfun_run {P : Program} {C : List (Nat × Con)} (hC : LibOK P C) (hm : P.follows .mixedOrders = true) {fuel : Nat} {f : FuncId} {args : List SV} {T T' : Tab} {nk : Nat} {told : List Bool} {obs : List Prop} {r : SV}
    (h : xfun P C fuel f args T nk told = some (true, obs, r, T')) (hobs : All obs) {X : Cx} {ρ : Ren} {w : World} {vs : List Value} (hrel : Rel X ρ T w) (ha : All2 (SV.R ρ) args vs) (hf : ∀ k, nk ≤ k → ρ k = none) :
    Calls P f vs.toArray w fun e w' => ∃ v ρ', e = .returned v ∧ r.R ρ' v ∧ Le ρ ρ' ∧ Rel X ρ' T' w' := by
  unfold xfun at h
  split at h <;> try (cases h; done)
  rename_i fn hfn
  split at h <;> try (cases h; done)
  rename_i c hc
  split at h <;> try (cases h; done)
  rename_i o s hs
  split at h <;> try (cases h; done)
  rename_i b v hv
  simp only [Option.some.injEq, Prod.mk.injEq, bnd_true, Bool.and_eq_true, Nat.ble_eq] at h
  obtain ⟨⟨hob, rfl, hend, hlen⟩, rfl, rfl, rfl⟩ := h
  have hal := ha.length
  refine calls_of_wp hfn hc (xcode_run hC hm c fuel _ s o hs hob hobs ρ _ w _ ⟨hrel, fun t x hx => ?_, rfl, hf, ?_⟩ fun ex a' w' ρ' ho hle hrel' => ?_)
  · obtain ⟨_, u, hu, hr⟩ := argTmps_get 0 t x ha hx
    rw [Nat.sub_zero] at hu
    have htl : t < vs.length := (List.getElem?_eq_some_iff.1 hu).1
    exact ⟨u, by rw [Array.getElem?_append_left (by simpa using htl)]; simpa using hu, hr⟩
  · simp; omega
  · obtain ⟨u, hu, hur⟩ := resS_run hrel' hv
    have : a'.defers = [] ∧ ∃ u, (results fn a'.tmps).run P w' = .ok u w' ∧ ∃ u1 ρ', Ending.returned u = .returned u1 ∧ SV.R ρ' v u1 ∧ Le ρ ρ' ∧ Rel X ρ' s.st.tab w' :=
      ⟨hrel'.defers, u, hu, u, ρ', rfl, hur, hle, hrel'.rel⟩
    cases o <;> cases ex <;> first | exact False.elim ho | (simp [isEnd] at hend; done) | exact this

end Go.Proofs.YtabiknpgakhkkaaGreat.Sx
end

