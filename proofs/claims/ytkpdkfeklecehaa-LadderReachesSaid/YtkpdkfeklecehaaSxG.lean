/-
  A region that draws its order: operations that turn nothing in whatever order the edges allow; behind them such as come one behind the other.
-/
import Derived.Test.YtkpdkfeklecehaaSxF
namespace Go.Proofs.Ytkpdkfeklecehaa.Sx
open Go.RowKit
set_option linter.unusedVariables false
set_option linter.unusedSimpArgs false

/-- What an operation hangs on, as bits. -/
def maskOf (acc : List Nat) (o : Oper) : Nat :=
  o.after.toList.foldl (fun s e => bif Region.binds .any e then s ||| (2 ^ e.on ||| acc.getD e.on 0) else s) 0
def masks : List Oper → List Nat → List Nat
  | [], acc => acc
  | o :: r, acc => masks r (acc ++ [maskOf acc o])

theorem maskOf_bit (acc : List Nat) (o : Oper) (j : Nat) (h : (maskOf acc o).testBit j = true) : ∃ e ∈ o.after, Region.binds .any e = true ∧ (e.on = j ∨ (acc.getD e.on 0).testBit j = true) := by
  unfold maskOf at h
  have key : ∀ (l : List Edge) (s : Nat), (l.foldl (fun s e => bif Region.binds .any e then s ||| (2 ^ e.on ||| acc.getD e.on 0) else s) s).testBit j = true →
      s.testBit j = true ∨ ∃ e ∈ l, Region.binds .any e = true ∧ (e.on = j ∨ (acc.getD e.on 0).testBit j = true) := by
    intro l
    induction l with
    | nil => intro s h; exact .inl h
    | cons e l ih =>
      intro s h
      simp only [List.foldl_cons] at h
      rcases ih _ h with h | ⟨e', he', hb⟩
      · cases hbind : Region.binds .any e with
        | false => rw [hbind] at h; exact .inl h
        | true =>
          rw [hbind, cond_true, Nat.testBit_or, Nat.testBit_or, Nat.testBit_two_pow] at h
          simp only [Bool.or_eq_true, decide_eq_true_eq] at h
          rcases h with h | h
          · exact .inl h
          · exact .inr ⟨e, by simp, hbind, h⟩
      · exact .inr ⟨e', by simp [he'], hb⟩
  rcases key _ _ h with h | ⟨e, he, hb⟩
  · simp at h
  · exact ⟨e, by simpa using he, hb⟩

theorem masks_get : ∀ (l : List Oper) (acc : List Nat) (i : Nat), (masks l acc).getD i 0 = if i < acc.length then acc.getD i 0 else match l[i - acc.length]? with
    | some o => maskOf ((masks l acc).take i) o
    | none => 0
  | [], acc, i => by
    simp only [masks, List.getElem?_nil]
    split
    · rfl
    · rename_i h; simp [List.getD, List.getElem?_eq_none (Nat.le_of_not_lt h)]
  | o :: r, acc, i => by
    have ih := masks_get r (acc ++ [maskOf acc o]) i
    simp only [masks]
    rw [ih]
    have hpre : ∀ (l : List Oper) (acc : List Nat), (masks l acc).take acc.length = acc := by
      intro l
      induction l with
      | nil => intro acc; simp [masks]
      | cons o l ihl => intro acc; simp only [masks]; have := ihl (acc ++ [maskOf acc o]); rw [List.length_append] at this; simp only [List.length_singleton] at this; have h2 := congrArg (List.take acc.length) this; rw [List.take_take] at h2; simpa using h2
    by_cases h1 : i < acc.length
    · rw [if_pos h1, if_pos (by simp; omega)]
      simp [List.getD, List.getElem?_append_left h1]
    · rw [if_neg h1]
      by_cases h2 : i = acc.length
      · subst h2
        rw [if_pos (by simp)]
        simp only [Nat.sub_self, List.getElem?_cons_zero]
        have := hpre (o :: r) acc
        simp only [masks] at this
        rw [this]
        simp [List.getD]
      · rw [if_neg (by simp; omega)]
        have : i - acc.length = (i - (acc ++ [maskOf acc o]).length) + 1 := by simp; omega
        rw [this, List.getElem?_cons_succ]

def maskAt (M : List Nat) (i : Nat) : Nat := M.getD i 0

/-- Each edge leads back. -/
def acyc (l : List Oper) (i : Nat) : Bool :=
  match l with
  | [] => true
  | o :: r => (o.after.toList.all fun e => !(Region.binds .any e) || Nat.blt e.on i) && acyc r (i + 1)
theorem acyc_spec : ∀ (l : List Oper) (i : Nat), acyc l i = true → ∀ j o, l[j]? = some o → ∀ e ∈ o.after, Region.binds .any e = true → e.on < i + j
  | [], _, _, _, _, h, _, _, _ => by simp at h
  | o :: r, i, h, j, o', ho, e, he, hb => by
    simp only [acyc, Bool.and_eq_true, List.all_eq_true] at h
    cases j with
    | zero =>
      simp at ho; subst ho
      have := h.1 e (by simpa using he)
      simpa [hb, Nat.blt_eq] using this
    | succ j =>
      simp at ho
      have := acyc_spec r (i + 1) h.2 j o' ho e he hb
      omega

theorem mask_bit (l : List Oper) (hac : acyc l 0 = true) (i j : Nat) (h : (maskAt (masks l []) i).testBit j = true) : ∃ o, l[i]? = some o ∧ ∃ e ∈ o.after, Region.binds .any e = true ∧ (e.on = j ∨ (maskAt (masks l []) e.on).testBit j = true) := by
  unfold maskAt at h
  rw [masks_get] at h
  simp only [List.length_nil, Nat.not_lt_zero, if_false, Nat.sub_zero] at h
  split at h
  · rename_i o ho
    refine ⟨o, ho, ?_⟩
    obtain ⟨e, he, hb, hj⟩ := maskOf_bit _ _ _ h
    refine ⟨e, he, hb, hj.imp id fun hj => ?_⟩
    have hlt : e.on < i := by simpa using acyc_spec l 0 hac i o ho e he hb
    unfold maskAt
    rw [List.getD, List.getElem?_take_of_lt hlt] at hj
    exact hj
  · simp at h

/-- An operation that has been evaluated. -/
structure Ent where
  dst : Option Nat
  v : SV
  E : List (Nat × Blk)

def dstsOf : List Oper → Nat → List (Nat × Nat)
  | [], _ => []
  | o :: r, i => match o.dst with
    | some d => (d, i) :: dstsOf r (i + 1)
    | none => dstsOf r (i + 1)
theorem dstsOf_get : ∀ (l : List Oper) (i t j : Nat), get (dstsOf l i) t = some j → i ≤ j ∧ ∃ o, l[j - i]? = some o ∧ o.dst = some t
  | [], _, _, _, h => by simp [dstsOf, get] at h
  | o :: r, i, t, j, h => by
    unfold dstsOf at h
    split at h
    · rename_i d hd
      by_cases hdt : d = t
      · subst hdt
        simp [get] at h; subst h
        exact ⟨Nat.le_refl _, o, by simp, hd⟩
      · simp only [get, beq_of_ne hdt, cond_false] at h
        obtain ⟨h1, o', ho', hd'⟩ := dstsOf_get r (i + 1) t j h
        refine ⟨by omega, o', ?_, hd'⟩
        have : j - i = (j - (i + 1)) + 1 := by omega
        rw [this, List.getElem?_cons_succ]; exact ho'
    · obtain ⟨h1, o', ho', hd'⟩ := dstsOf_get r (i + 1) t j h
      refine ⟨by omega, o', ?_, hd'⟩
      have : j - i = (j - (i + 1)) + 1 := by omega
      rw [this, List.getElem?_cons_succ]; exact ho'

/-- What an operand reads as when an operation's turn comes. -/
def evAt (base : List (Nat × SV)) (ents : List (Nat × Ent)) (dsts : List (Nat × Nat)) (M : List Nat) (i : Nat) : Operand → SV
  | .tmp t => match get dsts t with
    | some j => bif (maskAt M i).testBit j then (match get ents j with | some e => e.v | none => .und)
      else bif (maskAt M j).testBit i then sev base (.tmp t) else .und
    | none => sev base (.tmp t)
  | x => sev base x

def tabAt (base : Tab) : List (Nat × Ent) → (Nat → Bool) → Tab
  | [], _ => base
  | (j, e) :: r, p => bif p j then addAll (tabAt base r p) e.E else tabAt base r p

theorem tabAt_blk (base : Tab) : ∀ (ents : List (Nat × Ent)) (p : Nat → Bool) (k : Nat) (b : Blk), (tabAt base ents p).blk k = some b → (∃ j e, (j, e) ∈ ents ∧ p j = true ∧ (k, b) ∈ e.E) ∨ base.blk k = some b
  | [], p, k, b, h => .inr h
  | (j, e) :: r, p, k, b, h => by
    simp only [tabAt] at h
    cases hp : p j with
    | false =>
      rw [hp, cond_false] at h
      rcases tabAt_blk base r p k b h with ⟨j', e', h1, h2⟩ | h
      · exact .inl ⟨j', e', by simp [h1], h2⟩
      · exact .inr h
    | true =>
      rw [hp, cond_true] at h
      rcases blk_addAll h with h | ⟨_, h⟩
      · exact .inl ⟨j, e, by simp, hp, h⟩
      · rcases tabAt_blk base r p k b h with ⟨j', e', h1, h2⟩ | h
        · exact .inl ⟨j', e', by simp [h1], h2⟩
        · exact .inr h

def valsAt (ents : List (Nat × Ent)) (M : List Nat) (i j : Nat) : SV :=
  bif (maskAt M i).testBit j then (match get ents j with
    | some e => match e.dst with
      | some _ => e.v
      | none => .und
    | none => .und)
  else .und

structure Pre where
  ents : List (Nat × Ent)
  ob : Bool
  obs : List Prop
  orc : Orc

def uniq (dsts : List (Nat × Nat)) (dst : Option Nat) (i : Nat) : Bool :=
  match dst with
  | some d => match get dsts d with
    | some j => Nat.beq j i
    | none => false
  | none => true

/-- The operations that turn nothing, one by one, each as its turn may come first. -/
def preR (P : Program) (C : List (Nat × Con)) (base : St) (dsts : List (Nat × Nat)) (M : List Nat) : List Oper → Nat → Pre → Option Pre
  | [], _, s => some s
  | o :: rest, i, s => match guardS (valsAt s.ents M i) o.guard s.orc with
    | none => none
    | some (g, true, orc) => match effOf P C o.op (evAt base.tmps s.ents dsts M i) (tabAt base.tab s.ents (maskAt M i).testBit) (base.nk + 4 * i) with
      | some (.new r) => preR P C base dsts M rest (i + 1) ⟨(i, ⟨o.dst, r.v, r.E⟩) :: s.ents, bnd s.ob (g && (dstOk base.nt o.dst && (uniq dsts o.dst i && (keysOk (base.nk + 4 * i) r.E && r.ob)))), r.obs ++ s.obs, orc⟩
      | _ => none
    | some (g, false, orc) => preR P C base dsts M rest (i + 1) ⟨(i, ⟨o.dst, .tup [], []⟩) :: s.ents, bnd s.ob (g && (dstOk base.nt o.dst && uniq dsts o.dst i)), s.obs, orc⟩

def headLen (C : List (Nat × Con)) : List Oper → Nat
  | [] => 0
  | o :: r => bif isTurn C o.op then 0 else headLen C r + 1

def forcedFrom (M : List Nat) : Nat → Nat → Bool
  | _, 0 => true
  | m, k + 1 => Nat.beq (maskAt M m) (2 ^ m - 1) && forcedFrom M (m + 1) k

def putAll (tm : List (Nat × SV)) : List (Nat × Ent) → List (Nat × SV)
  | [] => tm
  | (_, e) :: r => putS (putAll tm r) e.dst e.v

/-- A region in any order. -/
def anyR (P : Program) (C : List (Nat × Con)) (ops : Array Oper) (s : RSt) : Option RSt :=
  let l := ops.toList
  let N := headLen C l
  let M := masks l []
  let dsts := dstsOf (l.take N) 0
  match preR P C s.st dsts M (l.take N) 0 ⟨[], bnd s.ob (acyc l 0 && forcedFrom M N (l.length - N)), s.obs, s.orc⟩ with
  | none => none
  | some p => seqR P C ops (l.drop N) ⟨⟨putAll s.st.tmps p.ents, tabAt s.st.tab p.ents (fun _ => true), s.st.nk + 4 * N, s.st.nt⟩, p.ob, p.obs, p.orc⟩

def unl (n : Nat) (L : Array Bool) : Nat := ((List.range n).filter fun i => !(L.getD i false)).length

theorem filter_lt {p q : Nat → Bool} : ∀ (l : List Nat), (∀ i ∈ l, q i = true → p i = true) → (∃ i ∈ l, p i = true ∧ q i = false) → (l.filter q).length < (l.filter p).length
  | [], _, ⟨i, h, _⟩ => by simp at h
  | x :: l, h, ⟨i, hi, hp, hq⟩ => by
    have hle : ∀ (l : List Nat), (∀ i ∈ l, q i = true → p i = true) → (l.filter q).length ≤ (l.filter p).length := by
      intro l
      induction l with
      | nil => intro _; simp
      | cons y l ih =>
        intro h
        have ih' := ih fun i hi => h i (by simp [hi])
        cases hqy : q y with
        | true => have hpy := h y (by simp) hqy; simp [List.filter_cons, hqy, hpy, ih']
        | false => cases hpy : p y <;> simp [List.filter_cons, hqy, hpy] <;> omega
    rcases List.mem_cons.1 hi with rfl | hi
    · have := hle l fun j hj => h j (by simp [hj])
      simp [List.filter_cons, hp, hq]; omega
    · have ih := filter_lt l (fun j hj => h j (by simp [hj])) ⟨i, hi, hp, hq⟩
      cases hqx : q x with
      | true => have hpx := h x (by simp) hqx; simp [List.filter_cons, hqx, hpx]; omega
      | false => cases hpx : p x <;> simp [List.filter_cons, hqx, hpx] <;> omega

theorem unl_set {n i : Nat} {L : Array Bool} (hs : L.size = n) (hi : i < n) (hu : L.getD i false = false) : unl n (L.setIfInBounds i true) < unl n L := by
  unfold unl
  refine filter_lt _ (fun j _ hj => ?_) ⟨i, by simpa using hi, by simp [hu], ?_⟩
  · by_cases hij : i = j
    · subst hij; simp [hu]
    · rw [getD_set_ne false hij] at hj; exact hj
  · have : (L.setIfInBounds i true).getD i false = true := by simp [hs, hi]
    rw [this]; rfl

theorem getD_true_false {L : Array Bool} {j : Nat} (h : j < L.size) : L.getD j true = L.getD j false := by
  simp [h]

theorem forcedFrom_spec {M : List Nat} : ∀ {k m : Nat}, forcedFrom M m k = true → ∀ i, m ≤ i → i < m + k → ∀ j, j < i → (maskAt M i).testBit j = true
  | 0, m, _, i, h1, h2, _, _ => by omega
  | k + 1, m, h, i, h1, h2, j, hj => by
    simp only [forcedFrom, Bool.and_eq_true] at h
    rcases Nat.eq_or_lt_of_le h1 with rfl | h1
    · rw [Nat.eq_of_beq_eq_true h.1, Nat.testBit_two_pow_sub_one]; simpa using hj
    · exact forcedFrom_spec h.2 i h1 (by omega) j hj

section
variable {P : Program} {ops : Array Oper} {Q : Exit → Act → World → Prop}

theorem tail_run {N : Nat} (hac : acyc ops.toList 0 = true) (hfo : forcedFrom (masks ops.toList []) N (ops.size - N) = true) : ∀ (fuel m : Nat) (L : Array Bool) (a : Act) (w : World), L.size = ops.size → (∀ j, j < ops.size → (L.getD j false = true ↔ j < m)) → N ≤ m → m ≤ ops.size → ops.size - m ≤ fuel →
    wpList P ops Q (ops.toList.drop m) a w → wpAny P .any ops Q fuel L a w := by
  intro fuel
  induction fuel with
  | zero =>
    intro m L a w hL hl hN hm hf h
    have hmn : m = ops.size := by omega
    subst hmn
    rw [List.drop_eq_nil_of_le (by simp)] at h
    refine ⟨?_, h⟩
    rw [List.eq_nil_iff_forall_not_mem]
    intro j hj
    obtain ⟨h1, o, ho, _⟩ := mem_ready.1 hj
    have hjn := (Array.getElem?_eq_some_iff.1 ho).1
    rw [getD_true_false (by omega), (hl j hjn).2 hjn] at h1
    cases h1
  | succ fuel ih =>
    intro m L a w hL hl hN hm hf h
    by_cases hmn : m = ops.size
    · subst hmn
      rw [List.drop_eq_nil_of_le (by simp)] at h
      refine ⟨fun _ => h, fun j hj => ?_⟩
      obtain ⟨h1, o, ho, _⟩ := mem_ready.1 hj
      have hjn := (Array.getElem?_eq_some_iff.1 ho).1
      rw [getD_true_false (by omega), (hl j hjn).2 hjn] at h1
      cases h1
    · have hlt : m < ops.size := by omega
      have hom : ops[m]? = some ops[m] := by simp [hlt]
      have hd : ops.toList.drop m = ops[m] :: ops.toList.drop (m + 1) := by
        rw [List.drop_eq_getElem_cons (by simpa using hlt)]; simp
      rw [hd] at h
      have hmr : m ∈ Region.ready .any ops L := by
        refine mem_ready.2 ⟨?_, ops[m], hom, fun e he hb => ?_⟩
        · rw [getD_true_false (by omega)]
          cases hq : L.getD m false with
          | false => rfl
          | true => have := (hl m hlt).1 hq; omega
        · have := acyc_spec _ 0 hac m ops[m] (by simp [hlt]) e he hb
          exact (hl e.on (by omega)).2 (by omega)
      refine ⟨fun h0 => (by rw [h0] at hmr; cases hmr), fun j hj => ?_⟩
      obtain ⟨h1, o, ho, hall⟩ := mem_ready.1 hj
      have hjn := (Array.getElem?_eq_some_iff.1 ho).1
      have hjm : j = m := by
        rw [getD_true_false (by omega)] at h1
        have hge : ¬ j < m := fun hh => by rw [(hl j hjn).2 hh] at h1; cases h1
        rcases Nat.eq_or_lt_of_le (Nat.le_of_not_lt hge) with h | hgt
        · exact h.symm
        · -- j hangs on m
          exfalso
          have key : ∀ k, k < ops.size → (maskAt (masks ops.toList []) k).testBit m = true → (∀ o, ops[k]? = some o → ∀ e ∈ o.after, Region.binds .any e = true → L.getD e.on false = true) → False := by
            intro k
            induction k using Nat.strongRecOn with
            | _ k ihk =>
              intro hk hbit hlist
              obtain ⟨o, ho, e, he, hb, hcase⟩ := mask_bit _ hac k m hbit
              have ho' : ops[k]? = some o := by simpa using ho
              have hel := hlist o ho' e he hb
              have helt : e.on < k := by simpa using acyc_spec _ 0 hac k o ho e he hb
              have hem := (hl e.on (by omega)).1 hel
              rcases hcase with rfl | hcase
              · omega
              · exact ihk e.on helt (by omega) hcase fun o2 ho2 e2 he2 hb2 => by
                  have := acyc_spec _ 0 hac e.on o2 (by simpa using ho2) e2 he2 hb2
                  exact (hl e2.on (by omega)).2 (by omega)
          exact key j hjn (forcedFrom_spec hfo j (by omega) (by omega) m hgt) fun o2 ho2 => by
            rw [ho] at ho2; cases ho2; exact hall
      subst hjm
      have hop : wpOp P ops Q j (wpList P ops Q (ops.toList.drop (j + 1))) a w := by
        unfold wpOp
        rw [hom]
        exact h
      refine wpOp_mono (fun a' w' h' => ih (j + 1) _ a' w' (by simp [hL]) (fun k hk => ?_) (by omega) (by omega) (by omega) h') hop
      by_cases hkj : j = k
      · subst hkj; simp [hL, hlt]
      · rw [getD_set_ne false hkj, hl k hk]; omega

end

/-- What is known of a region's operation i that turns nothing. -/
def Spec (P : Program) (C : List (Nat × Con)) (base : St) (dsts : List (Nat × Nat)) (M : List Nat) (ents : List (Nat × Ent)) (i : Nat) (o : Oper) : Prop :=
  ∃ (se : List (Nat × Ent)) (e : Ent), (i, e) ∈ ents ∧ (∀ e', (i, e') ∈ ents → e' = e) ∧ (∀ x ∈ se, x ∈ ents) ∧ e.dst = o.dst ∧ dstOk base.nt o.dst = true ∧ uniq dsts o.dst i = true ∧
    ((GuardIs (valsAt se M i) o.guard true ∧ ∃ r, effOf P C o.op (evAt base.tmps se dsts M i) (tabAt base.tab se (maskAt M i).testBit) (base.nk + 4 * i) = some (.new r) ∧ r.ob = true ∧ All r.obs ∧ keysOk (base.nk + 4 * i) r.E = true ∧ e = ⟨o.dst, r.v, r.E⟩) ∨
     (GuardIs (valsAt se M i) o.guard false ∧ e = ⟨o.dst, .tup [], []⟩))

theorem preR_mono {P : Program} {C : List (Nat × Con)} {base : St} {dsts : List (Nat × Nat)} {M : List Nat} : ∀ (l : List Oper) (i : Nat) (s p : Pre), preR P C base dsts M l i s = some p → p.ob = true → All p.obs →
    s.ob = true ∧ All s.obs ∧ (∀ x ∈ s.ents, x ∈ p.ents) ∧ (∀ j e, (j, e) ∈ p.ents → (j, e) ∈ s.ents ∨ i ≤ j ∧ j < i + l.length)
  | [], i, s, p, h, h1, h2 => by
    simp only [preR, Option.some.injEq] at h; subst h
    exact ⟨h1, h2, fun _ h => h, fun j e h => .inl h⟩
  | o :: l, i, s, p, h, h1, h2 => by
    have fin : ∀ {s' : Pre} {e : Ent}, preR P C base dsts M l (i + 1) s' = some p → s'.ents = (i, e) :: s.ents → (s'.ob = true → s.ob = true) → (All s'.obs → All s.obs) → s.ob = true ∧ All s.obs ∧ (∀ x ∈ s.ents, x ∈ p.ents) ∧ (∀ j e, (j, e) ∈ p.ents → (j, e) ∈ s.ents ∨ i ≤ j ∧ j < i + (o :: l).length) := fun {s' e} h he ho hos => by
      obtain ⟨g1, g2, g3, g4⟩ := preR_mono l (i + 1) s' p h h1 h2
      refine ⟨ho g1, hos g2, fun x hx => g3 x (by rw [he]; exact List.mem_cons_of_mem _ hx), fun j e' hj => ?_⟩
      rcases g4 j e' hj with hj | hj
      · rw [he] at hj
        rcases List.mem_cons.1 hj with hj | hj
        · cases hj; exact .inr ⟨Nat.le_refl _, by simp⟩
        · exact .inl hj
      · exact .inr ⟨by omega, by simp; omega⟩
    unfold preR at h
    split at h <;> try (cases h; done)
    · split at h <;> try (cases h; done)
      exact fin h rfl (fun h => by simp only [bnd_true, Bool.and_eq_true] at h; exact h.1) (fun h => (All_append.1 h).2)
    · exact fin h rfl (fun h => by simp only [bnd_true, Bool.and_eq_true] at h; exact h.1) (fun h => h)

theorem preR_spec {P : Program} {C : List (Nat × Con)} {base : St} {dsts : List (Nat × Nat)} {M : List Nat} : ∀ (l : List Oper) (i : Nat) (s p : Pre), preR P C base dsts M l i s = some p → p.ob = true → All p.obs → (∀ j e, (j, e) ∈ s.ents → j < i) →
    ∀ k o, l[k]? = some o → Spec P C base dsts M p.ents (i + k) o
  | [], i, s, p, h, h1, h2, hs, k, o, hk => by simp at hk
  | o :: l, i, s, p, h, h1, h2, hs, k, o', hk => by
    have fin : ∀ {s' : Pre} {e : Ent}, s'.ents = (i, e) :: s.ents → preR P C base dsts M l (i + 1) s' = some p →
        (s'.ob = true → All s'.obs → e.dst = o.dst ∧ dstOk base.nt o.dst = true ∧ uniq dsts o.dst i = true ∧
    ((GuardIs (valsAt s.ents M i) o.guard true ∧ ∃ r, effOf P C o.op (evAt base.tmps s.ents dsts M i) (tabAt base.tab s.ents (maskAt M i).testBit) (base.nk + 4 * i) = some (.new r) ∧ r.ob = true ∧ All r.obs ∧ keysOk (base.nk + 4 * i) r.E = true ∧ e = ⟨o.dst, r.v, r.E⟩) ∨
     (GuardIs (valsAt s.ents M i) o.guard false ∧ e = ⟨o.dst, .tup [], []⟩))) → Spec P C base dsts M p.ents (i + k) o' := fun {s' e} he h hx => by
      have hs' : ∀ j e', (j, e') ∈ s'.ents → j < i + 1 := fun j e' hj => by
        rw [he] at hj
        rcases List.mem_cons.1 hj with hj | hj
        · cases hj; omega
        · have := hs j e' hj; omega
      obtain ⟨g1, g2, g3, g4⟩ := preR_mono l (i + 1) s' p h h1 h2
      cases k with
      | succ k =>
        simp at hk
        have := preR_spec l (i + 1) s' p h h1 h2 hs' k o' hk
        rw [show i + (k + 1) = i + 1 + k by omega]; exact this
      | zero =>
        simp at hk; subst hk
        obtain ⟨x1, x2, x3, x4⟩ := hx g1 g2
        refine ⟨s.ents, e, g3 _ (by rw [he]; simp), fun e' he' => ?_, fun x hx => g3 x (by rw [he]; exact List.mem_cons_of_mem _ hx), x1, x2, x3, x4⟩
        rcases g4 _ _ he' with hj | hj
        · rw [he] at hj
          rcases List.mem_cons.1 hj with hj | hj
          · cases hj; rfl
          · have := hs _ _ hj; omega
        · omega
    unfold preR at h
    split at h <;> try (cases h; done)
    · rename_i g orc hg
      split at h <;> try (cases h; done)
      rename_i r hr
      refine fin rfl h fun ho hos => ?_
      simp only [bnd_true, Bool.and_eq_true] at ho
      obtain ⟨_, rfl, hd, hu, hk, hro⟩ := ho
      exact ⟨rfl, hd, hu, .inl ⟨guardS_spec hg, r, hr, hro, (All_append.1 hos).1, hk, rfl⟩⟩
    · rename_i g orc hg
      refine fin rfl h fun ho hos => ?_
      simp only [bnd_true, Bool.and_eq_true] at ho
      obtain ⟨_, rfl, hd, hu⟩ := ho
      exact ⟨rfl, hd, hu, .inr ⟨guardS_spec hg, rfl⟩⟩

/-- The state while some of a region's operations have been done. -/
structure RelS (X : Cx) (base : St) (dsts : List (Nat × Nat)) (ents : List (Nat × Ent)) (N : Nat) (L : Array Bool) (ρ : Ren) (a : Act) (w : World) : Prop where
  rel : RelP X ρ (fun k b => base.tab.blk k = some b ∨ ∃ j e, (j, e) ∈ ents ∧ L.getD j false = true ∧ (k, b) ∈ e.E) w
  ent : ∀ j e, (j, e) ∈ ents → L.getD j false = true → ∀ d, e.dst = some d → ∃ u, a.tmps[d]? = some u ∧ e.v.R ρ u
  bas : ∀ t v, get base.tmps t = some v → (∀ j, get dsts t = some j → L.getD j false = false) → ∃ u, a.tmps[t]? = some u ∧ v.R ρ u
  defers : a.defers = []
  sz : a.tmps.size = base.nt
  fresh : ∀ k, base.nk ≤ k → (∀ j, j < N → L.getD j false = true → ¬ (base.nk + 4 * j ≤ k ∧ k < base.nk + 4 * j + 4)) → ρ k = none

theorem get_of_mem {α : Type} {l : List (Nat × α)} {k : Nat} {a : α} (h : get l k = some a) : (k, a) ∈ l := get_mem h

section
variable {P : Program} {C : List (Nat × Con)} {X : Cx} {ops : Array Oper} {base : St} {ents : List (Nat × Ent)} {N : Nat}

/-- One of a region's operations, when its turn comes. -/
theorem step_any (hC : LibOK P C) (hN : N ≤ ops.size) (hac : acyc ops.toList 0 = true)
    (hmem : ∀ j e, (j, e) ∈ ents → j < N) (huq : ∀ j e, (j, e) ∈ ents → ∀ d, e.dst = some d → get (dstsOf (ops.toList.take N) 0) d = some j) (hdst : ∀ j e, (j, e) ∈ ents → ∀ o, ops[j]? = some o → e.dst = o.dst) (L : Array Bool) (hL : L.size = ops.size) (hcl : ∀ i, L.getD i false = true → ∀ j, (maskAt (masks ops.toList []) i).testBit j = true → L.getD j false = true)
    {i : Nat} {o : Oper} (hi : i < N) (ho : ops[i]? = some o) (hsp : Spec P C base (dstsOf (ops.toList.take N) 0) (masks ops.toList []) ents i o) (hun : L.getD i false = false) (hdep : ∀ j, (maskAt (masks ops.toList []) i).testBit j = true → L.getD j false = true)
    {ρ : Ren} {a : Act} {w : World} (h : RelS X base (dstsOf (ops.toList.take N) 0) ents N L ρ a w) {K : Act → World → Prop} {Q : Exit → Act → World → Prop}
    (hK : ∀ ρ' a' w', Le ρ ρ' → RelS X base (dstsOf (ops.toList.take N) 0) ents N (L.setIfInBounds i true) ρ' a' w' → K a' w') : wpOp P ops Q i K a w := by
  obtain ⟨se, e, hie, huni, hsub, hed, hdok, hunq, hcase⟩ := hsp
  have hdok' := dstOk_spec hdok
  have hiL : i < L.size := by omega
  have hset : (L.setIfInBounds i true).getD i false = true := by simp [hiL]
  -- the operands
  have hev : ∀ x, (evAt base.tmps se (dstsOf (ops.toList.take N) 0) (masks ops.toList []) i x).R ρ (a.eval x) := by
    intro x
    have hbase : ∀ t, (∀ j, get (dstsOf (ops.toList.take N) 0) t = some j → L.getD j false = false) → (sev base.tmps (.tmp t)).R ρ (a.eval (.tmp t)) := fun t ht => by
      simp only [sev]
      split
      · rename_i v hv
        obtain ⟨u, hu, hr⟩ := h.bas t v hv ht
        simpa [Act.eval, hu] using hr
      · exact trivial
    cases x with
    | tmp t =>
      simp only [evAt]
      split
      · rename_i j hj
        obtain ⟨_, oj, hoj, hdj⟩ := dstsOf_get _ _ _ _ hj
        have hjN : j < N := by
          have := (List.getElem?_eq_some_iff.1 hoj).1
          simp at this; omega
        have hoj' : ops[j]? = some oj := by
          have hh := hoj
          rw [Nat.sub_zero, List.getElem?_take_of_lt hjN] at hh
          simpa using hh
        cases hb : (maskAt (masks ops.toList []) i).testBit j with
        | true =>
          simp only [cond_true]
          split
          · rename_i ej hej
            have hm := hsub _ (get_of_mem hej)
            obtain ⟨u, hu, hr⟩ := h.ent j ej hm (hdep j hb) t (by rw [hdst j ej hm oj hoj']; exact hdj)
            simpa [Act.eval, hu] using hr
          · exact trivial
        | false =>
          simp only [cond_false]
          cases hb2 : (maskAt (masks ops.toList []) j).testBit i with
          | true =>
            simp only [cond_true]
            refine hbase t fun j' hj' => ?_
            rw [hj] at hj'; cases hj'
            cases hq : L.getD j false with
            | false => rfl
            | true => have := hcl j hq i hb2; rw [this] at hun; cases hun
          | false => exact trivial
      · rename_i hnone
        exact hbase t fun j hj => by rw [hnone] at hj; cases hj
    | const v => exact ofVal_R v
    | func f => exact ⟨[], rfl, .nil⟩
    | global g => exact trivial
  -- the guard
  have hguard : ∀ b, GuardIs (valsAt se (masks ops.toList []) i) o.guard b → Region.wanted o (yielded ops a.tmps) = b := fun b hg => by
    refine wanted_of (fun j c want hgo hc => ?_) (fun j want hgo hc => ?_) hg
    · unfold valsAt at hc
      cases hb : (maskAt (masks ops.toList []) i).testBit j with
      | false => rw [hb] at hc; cases hc
      | true =>
        rw [hb, cond_true] at hc
        split at hc <;> try (cases hc; done)
        rename_i ej hej
        split at hc <;> try (cases hc; done)
        rename_i d hd
        have hm := hsub _ (get_of_mem hej)
        obtain ⟨u, hu, hr⟩ := h.ent j ej hm (hdep j hb) d hd
        rw [hc] at hr
        have hr' : u = .bool c := hr
        subst hr'
        have hjN := hmem j ej hm
        have hoj : ops[j]? = some ops[j] := by simp [show j < ops.size by omega]
        have hdj := hdst j ej hm _ hoj
        rw [hd] at hdj
        simp [yielded, hoj, ← hdj, hu]
    · unfold valsAt at hc
      cases hb : (maskAt (masks ops.toList []) i).testBit j with
      | false => rw [hb] at hc; cases hc
      | true =>
        rw [hb, cond_true] at hc
        split at hc <;> try (cases hc; done)
        rename_i ej hej
        split at hc <;> try (cases hc; done)
        rename_i d hd
        have hm := hsub _ (get_of_mem hej)
        obtain ⟨u, hu, hr⟩ := h.ent j ej hm (hdep j hb) d hd
        rw [hc] at hr
        obtain rfl := off_eq hr
        have hjN := hmem j ej hm
        have hoj : ops[j]? = some ops[j] := by simp [show j < ops.size by omega]
        have hdj := hdst j ej hm _ hoj
        rw [hd] at hdj
        simp [yielded, hoj, ← hdj, hu, undef]
  -- what is behind it
  have fin : ∀ {ρ' : Ren} {u : Value} {w' : World}, Le ρ ρ' → e.v.R ρ' u → New ρ ρ' e.E w w' → (∀ k b, (k, b) ∈ e.E → base.nk + 4 * i ≤ k ∧ k < base.nk + 4 * i + 4) →
      RelS X base (dstsOf (ops.toList.take N) 0) ents N (L.setIfInBounds i true) ρ' (a.put o.dst u) w' := fun {ρ' u w'} hle hr hn hkeys => by
    have hget : ∀ d, o.dst = some d → get (dstsOf (ops.toList.take N) 0) d = some i := fun d hd => by
      rw [hd] at hunq
      simp only [uniq] at hunq
      split at hunq
      · rename_i j hj; rw [hj, Nat.eq_of_beq_eq_true hunq]
      · cases hunq
    refine ⟨?_, ?_, ?_, ?_, ?_, ?_⟩
    · refine (h.rel.new hn).sub fun k b hk => ?_
      rcases hk with hk | ⟨j, ej, hj, hjl, hkb⟩
      · exact .inr (.inl hk)
      · by_cases hij : i = j
        · subst hij
          rw [huni ej hj] at hkb
          exact .inl hkb
        · rw [getD_set_ne false hij] at hjl
          exact .inr (.inr ⟨j, ej, hj, hjl, hkb⟩)
    · intro j ej hj hjl d hd
      by_cases hij : i = j
      · subst hij
        rw [huni ej hj] at hd ⊢
        have hd' : o.dst = some d := by rw [← hed]; exact hd
        refine ⟨u, ?_, hr⟩
        have := hdok' d hd'
        simp [hd', Act.put, Array.getElem?_setIfInBounds, h.sz, this]
      · rw [getD_set_ne false hij] at hjl
        obtain ⟨v, hv, hvr⟩ := h.ent j ej hj hjl d hd
        refine ⟨v, ?_, hvr.mono hle⟩
        cases hod : o.dst with
        | none => simpa [Act.put] using hv
        | some d' =>
          have hne : d' ≠ d := fun e => by
            subst e
            have h1 := hget d' hod
            rw [huq j ej hj d' hd] at h1; cases h1
            exact hij rfl
          simp [Act.put, Array.getElem?_setIfInBounds_ne hne, hv]
    · intro t v hv ht
      have ht' : ∀ j, get (dstsOf (ops.toList.take N) 0) t = some j → L.getD j false = false := fun j hj => by
        have := ht j hj
        by_cases hij : i = j
        · subst hij; rw [hset] at this; cases this
        · rwa [getD_set_ne false hij] at this
      obtain ⟨x, hx, hxr⟩ := h.bas t v hv ht'
      refine ⟨x, ?_, hxr.mono hle⟩
      cases hod : o.dst with
      | none => simpa [Act.put] using hx
      | some d' =>
        have hne : d' ≠ t := fun e => by
          subst e
          have := ht i (hget d' hod)
          rw [hset] at this; cases this
        simp [Act.put, Array.getElem?_setIfInBounds_ne hne, hx]
    · cases o.dst <;> exact h.defers
    · cases o.dst <;> simp [Act.put, h.sz]
    · intro k hk hno
      have hki : ∀ b, (k, b) ∉ e.E := fun b hb => hno i hi hset (hkeys k b hb)
      rw [hn.only k hki]
      refine h.fresh k hk fun j hj hjl => hno j hj ?_
      by_cases hij : i = j
      · subst hij; exact hset
      · rw [getD_set_ne false hij]; exact hjl
  unfold wpOp
  rw [ho]
  simp only
  rcases hcase with ⟨hg, r, heff, hrob, hros, hrk, he⟩ | ⟨hg, he⟩
  · rw [if_pos (hguard _ hg)]
    have hkeys := keysOk_spec hrk
    have hfr : fresh ρ (base.nk + 4 * i) := fun k h1 h2 => h.fresh k (by omega) fun j hj hjl hh => by
      have : j ≠ i := fun e => by subst e; rw [hjl] at hun; cases hun
      omega
    have hrel' : Rel X ρ (tabAt base.tab se (maskAt (masks ops.toList []) i).testBit) w := h.rel.sub fun k b hk => by
      rcases tabAt_blk _ _ _ _ _ hk with ⟨j, ej, hj, hb, hkb⟩ | hk
      · exact .inr ⟨j, ej, hsub _ hj, hdep j hb, hkb⟩
      · exact .inl hk
    have hdoes := eff_new hC hev hrel' hfr heff hrob hros
    refine .inl (hdoes.wp fun v w' ⟨ρ', hr, hn⟩ => hK ρ' _ _ hn.le ?_)
    subst he
    exact fin hn.le hr hn hkeys
  · rw [if_neg (by simp [hguard _ hg])]
    subst he
    exact hK ρ _ _ (Le.refl _) (fin (Le.refl _) off_R (New.refl _ _) fun k b hk => by simp at hk)

theorem putAll_get : ∀ (ents : List (Nat × Ent)) (tm : List (Nat × SV)) (t : Nat) (v : SV), get (putAll tm ents) t = some v → (∃ j e, (j, e) ∈ ents ∧ e.dst = some t ∧ v = e.v) ∨ ((∀ j e, (j, e) ∈ ents → e.dst ≠ some t) ∧ get tm t = some v)
  | [], tm, t, v, h => .inr ⟨fun _ _ h => by simp at h, h⟩
  | (j, e) :: r, tm, t, v, h => by
    simp only [putAll] at h
    by_cases hd : e.dst = some t
    · rw [hd] at h
      simp only [putS, get_set_same, Option.some.injEq] at h
      exact .inl ⟨j, e, by simp, hd, h.symm⟩
    · have h' : get (putAll tm r) t = some v := by
        cases hed : e.dst with
        | none => rw [hed] at h; exact h
        | some d =>
          rw [hed] at h hd
          simp only [putS] at h
          rwa [get_set_ne _ _ (fun e => hd (by rw [e]))] at h
      rcases putAll_get r tm t v h' with ⟨j', e', h1, h2, h3⟩ | ⟨h1, h2⟩
      · exact .inl ⟨j', e', by simp [h1], h2, h3⟩
      · exact .inr ⟨fun j' e' hj => by rcases List.mem_cons.1 hj with hj | hj; (cases hj; exact hd); exact h1 j' e' hj, h2⟩

theorem toA (hmem : ∀ j e, (j, e) ∈ ents → j < N) (huq : ∀ j e, (j, e) ∈ ents → ∀ d, e.dst = some d → get (dstsOf (ops.toList.take N) 0) d = some j) (hdst : ∀ j e, (j, e) ∈ ents → ∀ o, ops[j]? = some o → e.dst = o.dst)
    (hsp : ∀ i o, i < N → ops[i]? = some o → Spec P C base (dstsOf (ops.toList.take N) 0) (masks ops.toList []) ents i o) (hN : N ≤ ops.size) {L : Array Bool} (hall : ∀ i, i < N → L.getD i false = true) {ρ : Ren} {a : Act} {w : World}
    (h : RelS X base (dstsOf (ops.toList.take N) 0) ents N L ρ a w) : RelA X ρ ⟨putAll base.tmps ents, tabAt base.tab ents (fun _ => true), base.nk + 4 * N, base.nt⟩ a w where
  rel := h.rel.sub fun k b hk => by
    rcases tabAt_blk _ _ _ _ _ hk with ⟨j, e, hj, _, hkb⟩ | hk
    · exact .inr ⟨j, e, hj, hall j (hmem j e hj), hkb⟩
    · exact .inl hk
  tmps := fun t v hv => by
    rcases putAll_get _ _ _ _ hv with ⟨j, e, hj, hd, rfl⟩ | ⟨hno, hv⟩
    · exact h.ent j e hj (hall j (hmem j e hj)) t hd
    · refine h.bas t v hv fun j hj => ?_
      exfalso
      obtain ⟨_, o, ho, hd⟩ := dstsOf_get _ _ _ _ hj
      have hjN : j < N := by
        have := (List.getElem?_eq_some_iff.1 ho).1
        simp at this; omega
      have ho' : ops[j]? = some o := by
        rw [Nat.sub_zero, List.getElem?_take_of_lt hjN] at ho
        simpa using ho
      obtain ⟨se, e, hie, _, _, hed, _⟩ := hsp j o hjN ho'
      exact hno j e hie (hed.trans hd)
  defers := h.defers
  sz := h.sz
  fresh := fun k hk => h.fresh k (Nat.le_trans (Nat.le_add_right _ _) hk) fun j hj _ hh => by
    have h1 : base.nk + 4 * N ≤ k := hk
    omega

theorem any_main (hC : LibOK P C) (hN : N ≤ ops.size) (hac : acyc ops.toList 0 = true) (hfo : forcedFrom (masks ops.toList []) N (ops.size - N) = true)
    (hmem : ∀ j e, (j, e) ∈ ents → j < N) (huq : ∀ j e, (j, e) ∈ ents → ∀ d, e.dst = some d → get (dstsOf (ops.toList.take N) 0) d = some j) (hdst : ∀ j e, (j, e) ∈ ents → ∀ o, ops[j]? = some o → e.dst = o.dst)
    (hsp : ∀ i o, i < N → ops[i]? = some o → Spec P C base (dstsOf (ops.toList.take N) 0) (masks ops.toList []) ents i o) {Q : Exit → Act → World → Prop} {ρ0 : Ren}
    (hQ : ∀ ρ a w, Le ρ0 ρ → RelA X ρ ⟨putAll base.tmps ents, tabAt base.tab ents (fun _ => true), base.nk + 4 * N, base.nt⟩ a w → wpList P ops Q (ops.toList.drop N) a w) :
    ∀ (fuel : Nat) (L : Array Bool) (ρ : Ren) (a : Act) (w : World), L.size = ops.size → unl ops.size L ≤ fuel → (∀ i, L.getD i false = true → ∀ j, (maskAt (masks ops.toList []) i).testBit j = true → L.getD j false = true) → (∀ i, N ≤ i → L.getD i false = false) → Le ρ0 ρ →
      RelS X base (dstsOf (ops.toList.take N) 0) ents N L ρ a w → wpAny P .any ops Q fuel L a w := by
  intro fuel
  induction fuel with
  | zero =>
    intro L ρ a w hL hu hcl htl hle h
    have hall : ∀ i, i < ops.size → L.getD i false = true := fun i hi => by
      cases hq : L.getD i false with
      | true => rfl
      | false =>
        have := unl_set hL hi hq
        omega
    have hNn : N = ops.size := by
      rcases Nat.eq_or_lt_of_le hN with h | h
      · exact h
      · have h1 := hall N h; rw [htl N (Nat.le_refl _)] at h1; cases h1
    refine tail_run hac hfo 0 N L a w hL (fun j hj => ⟨fun _ => by omega, fun _ => hall j hj⟩) (Nat.le_refl _) hN (by omega) (hQ ρ a w hle ?_)
    exact toA hmem huq hdst hsp hN (fun i hi => hall i (by omega)) h
  | succ fuel ih =>
    intro L ρ a w hL hu hcl htl hle h
    by_cases hall : ∀ i, i < N → L.getD i false = true
    · have hus : ops.size - N ≤ fuel + 1 := by
        have : ∀ (n : Nat), (∀ i, i < n → (L.getD i false = true ↔ i < N)) → n - N ≤ ((List.range n).filter fun i => !(L.getD i false)).length := by
          intro n
          induction n with
          | zero => intro _; simp
          | succ n ihn =>
            intro hn
            have := ihn fun i hi => hn i (by omega)
            rw [List.range_succ, List.filter_append, List.length_append]
            by_cases hnN : n < N
            · omega
            · have hf : L.getD n false = false := htl n (by omega)
              simp only [List.filter_cons, hf, Bool.not_false, if_true, List.filter_nil, List.length_singleton]
              omega
        have hlt' : ∀ i, L.getD i false = true → i < N := fun i hh => by
          rcases Nat.lt_or_ge i N with h | h
          · exact h
          · have h3 := htl i h; rw [hh] at h3; cases h3
        have h2 := this ops.size fun i hi => ⟨hlt' i, hall i⟩
        unfold unl at hu
        omega
      refine tail_run hac hfo (fuel + 1) N L a w hL (fun j hj => ⟨fun hh => ?_, fun hh => hall j hh⟩) (Nat.le_refl _) hN hus (hQ ρ a w hle (toA hmem huq hdst hsp hN hall h))
      rcases Nat.lt_or_ge j N with h | h
      · exact h
      · have h3 := htl j h; rw [hh] at h3; cases h3
    · -- the first that is still to come
      have hex : ∃ i, i < N ∧ L.getD i false = false := by
        refine Classical.byContradiction fun hno => hall fun i hi => ?_
        cases hq : L.getD i false with
        | true => rfl
        | false => exact absurd ⟨i, hi, hq⟩ hno
      have hleast : ∃ i, i < N ∧ L.getD i false = false ∧ ∀ j, j < i → L.getD j false = true := by
        obtain ⟨i, hi, hf⟩ := hex
        induction i using Nat.strongRecOn with
        | _ i ihi =>
          by_cases hj : ∃ j, j < i ∧ L.getD j false = false
          · obtain ⟨j, hji, hjf⟩ := hj
            exact ihi j hji (by omega) hjf
          · refine ⟨i, hi, hf, fun j hji => ?_⟩
            cases hq : L.getD j false with
            | true => rfl
            | false => exact absurd ⟨j, hji, hq⟩ hj
      obtain ⟨i0, hi0, hf0, hlt0⟩ := hleast
      have hready : i0 ∈ Region.ready .any ops L := by
        have hoi : ops[i0]? = some ops[i0] := by simp [show i0 < ops.size by omega]
        refine mem_ready.2 ⟨by rw [getD_true_false (by omega)]; exact hf0, ops[i0], hoi, fun e he hb => ?_⟩
        have := acyc_spec _ 0 hac i0 ops[i0] (by simp [show i0 < ops.size by omega]) e he hb
        exact hlt0 e.on (by omega)
      refine ⟨fun hr => (by rw [hr] at hready; cases hready), fun i hi => ?_⟩
      obtain ⟨h1, o, ho, hdeps⟩ := mem_ready.1 hi
      have hin := (Array.getElem?_eq_some_iff.1 ho).1
      rw [getD_true_false (by omega)] at h1
      have hclos : ∀ j, (maskAt (masks ops.toList []) i).testBit j = true → L.getD j false = true := fun j hj => by
        obtain ⟨o2, ho2, e, he, hb, hcase⟩ := mask_bit _ hac i j hj
        have ho2' : ops[i]? = some o2 := by simpa using ho2
        rw [ho] at ho2'; cases ho2'
        have hel := hdeps e he hb
        rcases hcase with rfl | hcase
        · exact hel
        · exact hcl e.on hel j hcase
      have hiN : i < N := by
        rcases Nat.lt_or_ge i N with h | hge
        · exact h
        · have := hclos i0 (forcedFrom_spec hfo i hge (by omega) i0 (by omega))
          rw [hf0] at this; cases this
      refine step_any hC hN hac hmem huq hdst L hL hcl hiN ho (hsp i o hiN ho) h1 hclos h fun ρ' a' w' hle' h' => ?_
      have hiL : i < L.size := by omega
      refine ih _ ρ' a' w' (by simp [hL]) ?_ ?_ ?_ (hle.trans hle') h'
      · have := unl_set hL hin h1; omega
      · intro j hj q hq
        by_cases hij : i = j
        · subst hij
          have := hclos q hq
          by_cases hiq : i = q
          · subst hiq; simp [hiL]
          · rw [getD_set_ne false hiq]; exact this
        · rw [getD_set_ne false hij] at hj
          have := hcl j hj q hq
          by_cases hiq : i = q
          · subst hiq; simp [hiL]
          · rw [getD_set_ne false hiq]; exact this
      · intro j hj
        rw [getD_set_ne false (by omega)]
        exact htl j hj
end

theorem headLen_le (C : List (Nat × Con)) : ∀ (l : List Oper), headLen C l ≤ l.length
  | [] => Nat.le_refl _
  | o :: r => by
    simp only [headLen]
    cases isTurn C o.op
    · have := headLen_le C r; simp; omega
    · simp

theorem anyR_run {P : Program} {C : List (Nat × Con)} (hC : LibOK P C) {X : Cx} {ops : Array Oper} {Q : Exit → Act → World → Prop} {s s' : RSt} {ρ : Ren} {a : Act} {w : World} (h : anyR P C ops s = some s') (hob : s'.ob = true) (hobs : All s'.obs)
    (hrel : RelA X ρ s.st a w) (hQ : ∀ ρ' a' w', Le ρ ρ' → RelA X ρ' s'.st a' w' → Q .normal a' w') : wpAny P .any ops Q ops.size (Array.replicate ops.size false) a w := by
  unfold anyR at h
  simp only at h
  split at h <;> try (cases h; done)
  rename_i p hp
  have hmono : ∀ (l : List Oper) (s s' : RSt), seqR P C ops l s = some s' → s'.ob = true → All s'.obs → s.ob = true ∧ All s.obs := by
      intro l
      induction l with
      | nil => intro s s' h h1 h2; simp only [seqR, Option.some.injEq] at h; subst h; exact ⟨h1, h2⟩
      | cons o l ih =>
        intro s s' h h1 h2
        unfold seqR at h
        split at h <;> try (cases h; done)
        · split at h <;> try (cases h; done)
          · obtain ⟨g1, g2⟩ := ih _ _ h h1 h2
            simp only [bnd_true, Bool.and_eq_true] at g1
            exact ⟨g1.1, (All_append.1 g2).2⟩
          · obtain ⟨g1, g2⟩ := ih _ _ h h1 h2
            simp only [bnd_true, Bool.and_eq_true] at g1
            exact ⟨g1.1, (All_append.1 g2).2⟩
        · obtain ⟨g1, g2⟩ := ih _ _ h h1 h2
          simp only [bnd_true, Bool.and_eq_true] at g1
          exact ⟨g1.1, g2⟩
  obtain ⟨pob, pobs⟩ := hmono _ _ _ h hob hobs
  obtain ⟨m1, m2, m3, m4⟩ := preR_mono _ _ _ _ hp pob pobs
  simp only [bnd_true, Bool.and_eq_true] at m1
  obtain ⟨_, hac, hfo⟩ := m1
  have hlen : ops.toList.length = ops.size := by simp
  have hN : headLen C ops.toList ≤ ops.size := by have := headLen_le C ops.toList; omega
  have hmem : ∀ j e, (j, e) ∈ p.ents → j < headLen C ops.toList := fun j e hj => by
    rcases m4 j e hj with hj | hj
    · simp at hj
    · simp at hj; omega
  have hsp : ∀ i o, i < headLen C ops.toList → ops[i]? = some o → Spec P C s.st (dstsOf (ops.toList.take (headLen C ops.toList)) 0) (masks ops.toList []) p.ents i o := fun i o hi ho => by
    have := preR_spec _ _ _ _ hp pob pobs (fun j e hj => by simp at hj) i o (by rw [List.getElem?_take_of_lt hi]; simpa using ho)
    rwa [Nat.zero_add] at this
  have hget : ∀ j, j < headLen C ops.toList → ∃ o, ops[j]? = some o := fun j hj => ⟨ops[j], by simp [show j < ops.size by omega]⟩
  have hdst : ∀ j e, (j, e) ∈ p.ents → ∀ o, ops[j]? = some o → e.dst = o.dst := fun j e hj o ho => by
    obtain ⟨se, e', hie, huni, _, hed, _⟩ := hsp j o (hmem j e hj) ho
    rw [huni e hj]; exact hed
  have huq : ∀ j e, (j, e) ∈ p.ents → ∀ d, e.dst = some d → get (dstsOf (ops.toList.take (headLen C ops.toList)) 0) d = some j := fun j e hj d hd => by
    obtain ⟨o, ho⟩ := hget j (hmem j e hj)
    obtain ⟨se, e', hie, huni, _, hed, _, hunq, _⟩ := hsp j o (hmem j e hj) ho
    rw [huni e hj, hed] at hd
    rw [hd] at hunq
    simp only [uniq] at hunq
    split at hunq
    · rename_i q hq; rw [hq, Nat.eq_of_beq_eq_true hunq]
    · cases hunq
  rw [hlen] at hfo
  refine any_main (X := X) hC hN hac hfo hmem huq hdst hsp (ρ0 := ρ) (fun ρ' a' w' hle hA => ?_) ops.size _ ρ a w (by simp) ?_ ?_ ?_ (Le.refl _) ?_
  · exact seqR_run hC _ _ s' ρ' a' w' h hob hobs hA fun ρ2 a2 w2 hle2 => hQ ρ2 a2 w2 (hle.trans hle2)
  · unfold unl
    exact Nat.le_trans (List.length_filter_le _ _) (by simp)
  · intro i hi
    simp [Array.getD] at hi
  · intro i _
    simp [Array.getD]
  · have hnl : ∀ j, (Array.replicate ops.size false).getD j false = false := fun j => by
      simp [Array.getD]
    refine ⟨hrel.rel.sub fun k b hk => ?_, fun j e _ hl => ?_, fun t v hv _ => hrel.tmps t v hv, hrel.defers, hrel.sz, fun k hk _ => hrel.fresh k hk⟩
    · rcases hk with hk | ⟨j, e, _, hl, _⟩
      · exact hk
      · rw [hnl] at hl; cases hl
    · rw [hnl] at hl; cases hl

end Go.Proofs.Ytkpdkfeklecehaa.Sx
