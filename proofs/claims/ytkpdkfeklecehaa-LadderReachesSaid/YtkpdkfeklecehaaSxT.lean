/-
  The same executor, where a guard's or a condition's value stands in its slot as a literal from the moment on when it is told.
-/
import Derived.Test.YtkpdkfeklecehaaSxK
namespace Go.Proofs.Ytkpdkfeklecehaa.Sx
open Go.RowKit
set_option linter.unusedVariables false
set_option linter.unusedSimpArgs false

def litL : List (Nat × SV) → Nat → Bool → List (Nat × SV)
  | [], _, _ => []
  | (i, v) :: r, j, t => bif Nat.beq i j then (i, .c (.bool t)) :: r else (i, v) :: litL r j t
theorem litL_eq : ∀ {l : List (Nat × SV)} {j : Nat} {t : Bool}, get l j = some (.c (.bool t)) → litL l j t = l
  | [], _, _, h => by simp [get] at h
  | (i, v) :: r, j, t, h => by
    by_cases hij : i = j
    · subst hij
      simp only [get, beq_self, cond_true, Option.some.injEq] at h
      simp [litL, h]
    · simp only [get, beq_of_ne hij, cond_false] at h
      simp only [litL, beq_of_ne hij, cond_false, litL_eq h]
def litV (ops : Array Oper) (tm : List (Nat × SV)) (j : Nat) (t : Bool) : List (Nat × SV) :=
  match ops[j]? with
  | some o => match o.dst with
    | some d => litL tm d t
    | none => tm
  | none => tm
theorem litV_eq {ops : Array Oper} {tm : List (Nat × SV)} {j : Nat} {t : Bool} (h : valOf ops tm j = .c (.bool t)) : litV ops tm j t = tm := by
  unfold valOf at h
  unfold litV
  split
  · rename_i o ho
    rw [ho] at h
    simp only at h
    split
    · rename_i d hd
      rw [hd] at h
      simp only [sev] at h
      split at h
      · rename_i v hv; subst h; exact litL_eq hv
      · cases h
    · rfl
  · rfl
/-- What a guard asks of what is told. -/
def askG (vals : Nat → SV) (g : Option (Nat × Bool)) (o : Orc) : Option (Nat × Bool) :=
  match g with
  | none => none
  | some (j, _) => match vals j with
    | .c (.bool _) => match get o.known j with
      | some _ => none
      | none => match o.told with
        | t :: _ => some (j, t)
        | [] => none
    | _ => none
theorem askG_spec {vals : Nat → SV} {g : Option (Nat × Bool)} {o o' : Orc} {b : Bool} (h : guardS vals g o = some (true, b, o')) {j : Nat} {t : Bool} (ha : askG vals g o = some (j, t)) : vals j = .c (.bool t) := by
  unfold askG at ha
  split at ha <;> try (cases ha; done)
  rename_i j' want
  split at ha <;> try (cases ha; done)
  rename_i c hc
  split at ha <;> try (cases ha; done)
  rename_i hk
  split at ha <;> try (cases ha; done)
  rename_i t' r ht
  simp only [Option.some.injEq, Prod.mk.injEq] at ha
  obtain ⟨rfl, rfl⟩ := ha
  simp only [guardS, hc] at h
  rw [hk, ht] at h
  simp only [Option.some.injEq, Prod.mk.injEq, beq_iff_eq] at h
  obtain ⟨rfl, _⟩ := h
  exact hc
def litT (ops : Array Oper) (tm : List (Nat × SV)) (g : Option (Nat × Bool)) (o : Orc) : List (Nat × SV) := match askG (valOf ops tm) g o with
  | some (j, t) => litV ops tm j t
  | none => tm
theorem litT_eq {ops : Array Oper} {tm : List (Nat × SV)} {g : Option (Nat × Bool)} {o o' : Orc} {b : Bool} (h : guardS (valOf ops tm) g o = some (true, b, o')) : litT ops tm g o = tm := by
  unfold litT
  split
  · rename_i j t ha; exact litV_eq (askG_spec h ha)
  · rfl

def seqL (P : Program) (C : List (Nat × Con)) (ops : Array Oper) : List Oper → RSt → Option RSt
  | [], s => some s
  | o :: rest, s => match guardS (valOf ops s.st.tmps) o.guard s.orc with
    | none => none
    | some (g, true, orc) => match effOf P C o.op (sev (litT ops s.st.tmps o.guard s.orc)) s.st.tab s.st.nk with
      | some (.new r) => seqL P C ops rest ⟨{ s.st with tmps := putS (litT ops s.st.tmps o.guard s.orc) o.dst r.v, tab := addAll s.st.tab r.E, nk := s.st.nk + 4 }, bnd s.ob (g && (dstOk s.st.nt o.dst && (keysOk s.st.nk r.E && r.ob))), r.obs ++ s.obs, orc⟩
      | some (.turn r) => seqL P C ops rest ⟨{ s.st with tmps := putS (litT ops s.st.tmps o.guard s.orc) o.dst r.v, tab := r.T, nk := s.st.nk + 4 }, bnd s.ob (g && (dstOk s.st.nt o.dst && r.ob)), r.obs ++ s.obs, orc⟩
      | none => none
    | some (g, false, orc) => seqL P C ops rest ⟨{ s.st with tmps := putS (litT ops s.st.tmps o.guard s.orc) o.dst (.tup []) }, bnd s.ob (g && dstOk s.st.nt o.dst), s.obs, orc⟩

section
variable {P : Program} {C : List (Nat × Con)}
theorem seqL_eq {ops : Array Oper} : ∀ (l : List Oper) (s s' : RSt), seqL P C ops l s = some s' → s'.ob = true → All s'.obs → seqR P C ops l s = some s'
  | [], s, s', h, _, _ => h
  | o :: rest, s, s', h, h1, h2 => by
    unfold seqL at h
    unfold seqR
    split at h <;> try (cases h; done)
    · rename_i g orc hg
      split at h <;> try (cases h; done)
      · rename_i r he
        have e := seqL_eq rest _ s' h h1 h2
        have g1 := (seqR_mono _ _ _ e h1 h2).1
        simp only [bnd_true, Bool.and_eq_true] at g1
        obtain ⟨_, rfl, _⟩ := g1
        rw [litT_eq hg] at he e
        rw [hg]
        simp only [he]
        exact e
      · rename_i r he
        have e := seqL_eq rest _ s' h h1 h2
        have g1 := (seqR_mono _ _ _ e h1 h2).1
        simp only [bnd_true, Bool.and_eq_true] at g1
        obtain ⟨_, rfl, _⟩ := g1
        rw [litT_eq hg] at he e
        rw [hg]
        simp only [he]
        exact e
    · rename_i g orc hg
      have e := seqL_eq rest _ s' h h1 h2
      have g1 := (seqR_mono _ _ _ e h1 h2).1
      simp only [bnd_true, Bool.and_eq_true] at g1
      obtain ⟨_, rfl, _⟩ := g1
      rw [litT_eq hg] at e
      rw [hg]
      exact e
end

def litEL : List (Nat × Ent) → Nat → Bool → List (Nat × Ent)
  | [], _, _ => []
  | (i, e) :: r, j, t => bif Nat.beq i j then (i, ⟨e.dst, .c (.bool t), e.E⟩) :: r else (i, e) :: litEL r j t
theorem litEL_eq : ∀ {l : List (Nat × Ent)} {j : Nat} {t : Bool} {e : Ent}, get l j = some e → e.v = .c (.bool t) → litEL l j t = l
  | [], _, _, _, h, _ => by simp [get] at h
  | (i, v) :: r, j, t, e, h, he => by
    by_cases hij : i = j
    · subst hij
      simp only [get, beq_self, cond_true, Option.some.injEq] at h
      subst h
      simp only [litEL, beq_self, cond_true]
      cases v; simp only at he; subst he; rfl
    · simp only [get, beq_of_ne hij, cond_false] at h
      simp only [litEL, beq_of_ne hij, cond_false, litEL_eq h he]
def litE (ents : List (Nat × Ent)) (M : List Nat) (i : Nat) (g : Option (Nat × Bool)) (o : Orc) : List (Nat × Ent) := match askG (valsAt ents M i) g o with
  | some (j, t) => litEL ents j t
  | none => ents
theorem litE_eq {ents : List (Nat × Ent)} {M : List Nat} {i : Nat} {g : Option (Nat × Bool)} {o o' : Orc} {b : Bool} (h : guardS (valsAt ents M i) g o = some (true, b, o')) : litE ents M i g o = ents := by
  unfold litE
  split
  · rename_i j t ha
    have hv := askG_spec h ha
    unfold valsAt at hv
    cases hb : (maskAt M i).testBit j with
    | false => rw [hb] at hv; cases hv
    | true =>
      rw [hb, cond_true] at hv
      split at hv <;> try (cases hv; done)
      rename_i e he
      split at hv <;> try (cases hv; done)
      exact litEL_eq he hv
  · rfl

def preL (P : Program) (C : List (Nat × Con)) (base : St) (dsts : List (Nat × Nat)) (M : List Nat) : List Oper → Nat → Pre → Option Pre
  | [], _, s => some s
  | o :: rest, i, s => match guardS (valsAt s.ents M i) o.guard s.orc with
    | none => none
    | some (g, true, orc) => match effOf P C o.op (evAt base.tmps (litE s.ents M i o.guard s.orc) dsts M i) (tabAt base.tab (litE s.ents M i o.guard s.orc) (maskAt M i).testBit) (base.nk + 4 * i) with
      | some (.new r) => preL P C base dsts M rest (i + 1) ⟨(i, ⟨o.dst, r.v, r.E⟩) :: litE s.ents M i o.guard s.orc, bnd s.ob (g && (dstOk base.nt o.dst && (uniq dsts o.dst i && (keysOk (base.nk + 4 * i) r.E && r.ob)))), r.obs ++ s.obs, orc⟩
      | _ => none
    | some (g, false, orc) => preL P C base dsts M rest (i + 1) ⟨(i, ⟨o.dst, .tup [], []⟩) :: litE s.ents M i o.guard s.orc, bnd s.ob (g && (dstOk base.nt o.dst && uniq dsts o.dst i)), s.obs, orc⟩

section
variable {P : Program} {C : List (Nat × Con)}
theorem preL_eq {base : St} {dsts : List (Nat × Nat)} {M : List Nat} : ∀ (l : List Oper) (i : Nat) (s p : Pre), preL P C base dsts M l i s = some p → p.ob = true → All p.obs → preR P C base dsts M l i s = some p
  | [], i, s, p, h, _, _ => h
  | o :: rest, i, s, p, h, h1, h2 => by
    unfold preL at h
    unfold preR
    split at h <;> try (cases h; done)
    · rename_i g orc hg
      split at h <;> try (cases h; done)
      rename_i r he
      have e := preL_eq rest _ _ p h h1 h2
      have g1 := (preR_mono _ _ _ _ e h1 h2).1
      simp only [bnd_true, Bool.and_eq_true] at g1
      obtain ⟨_, rfl, _⟩ := g1
      rw [litE_eq hg] at he e
      rw [hg]
      simp only [he]
      exact e
    · rename_i g orc hg
      have e := preL_eq rest _ _ p h h1 h2
      have g1 := (preR_mono _ _ _ _ e h1 h2).1
      simp only [bnd_true, Bool.and_eq_true] at g1
      obtain ⟨_, rfl, _⟩ := g1
      rw [litE_eq hg] at e
      rw [hg]
      exact e
end

def anyL (P : Program) (C : List (Nat × Con)) (ops : Array Oper) (s : RSt) : Option RSt :=
  let l := ops.toList
  let N := headLen C l
  let M := masks l []
  let dsts := dstsOf (l.take N) 0
  match preL P C s.st dsts M (l.take N) 0 ⟨[], bnd s.ob (acyc l 0 && forcedFrom M N (l.length - N)), s.obs, s.orc⟩ with
  | none => none
  | some p => seqL P C ops (l.drop N) ⟨⟨putAll s.st.tmps p.ents, tabAt s.st.tab p.ents (fun _ => true), s.st.nk + 4 * N, s.st.nt⟩, p.ob, p.obs, p.orc⟩

def preTL (P : Program) (C : List (Nat × Con)) (base : St) (dsts : List (Nat × Nat)) (M H : List Nat) (N u : Nat) : List Oper → Nat → PreT → Option PreT
  | [], _, s => some s
  | o :: rest, i, s => match guardS (valsAt s.ents M i) o.guard s.orc with
    | none => none
    | some (g, true, orc) => match effOf P C o.op (evAt base.tmps (litE s.ents M i o.guard s.orc) dsts M i) (tabAt (s.ts.getD (cntB M i H) []) (litE s.ents M i o.guard s.orc) (inT M H i (cntB M i H))) (kbOf base.nk N M H u i) with
      | some (.new r) => preTL P C base dsts M H N u rest (i + 1) ⟨(i, ⟨o.dst, r.v, r.E⟩) :: litE s.ents M i o.guard s.orc, ⟨i, o, litE s.ents M i o.guard s.orc, cntB M i H, r.v, r.E⟩ :: s.recs, s.ts,
          bnd s.ob (g && (dstOk base.nt o.dst && (uniq dsts o.dst i && ((Nat.blt (cntB M i H) s.ts.length && (hardB M H i || (r.E.isEmpty || uOk u i (base.nk + 4 * i) r.v r.E))) && (keysOk (kbOf base.nk N M H u i) r.E && r.ob))))), r.obs ++ s.obs, orc⟩
      | some (.turn r) => preTL P C base dsts M H N u rest (i + 1) ⟨(i, ⟨o.dst, r.v, []⟩) :: litE s.ents M i o.guard s.orc, s.recs, s.ts ++ [r.T],
          bnd s.ob (g && (dstOk base.nt o.dst && (uniq dsts o.dst i && ((Nat.beq s.ts.length (cntB M i H + 1) && hardB M H i) && r.ob)))), r.obs ++ s.obs, orc⟩
      | none => none
    | some (g, false, orc) => match isTurn C o.op with
      | true => preTL P C base dsts M H N u rest (i + 1) ⟨(i, ⟨o.dst, .tup [], []⟩) :: litE s.ents M i o.guard s.orc, s.recs, s.ts ++ [tabAt (s.ts.getD (cntB M i H) []) (litE s.ents M i o.guard s.orc) (inT M H i (cntB M i H))],
          bnd s.ob (g && (dstOk base.nt o.dst && (uniq dsts o.dst i && (Nat.beq s.ts.length (cntB M i H + 1) && hardB M H i)))), s.obs, orc⟩
      | false => preTL P C base dsts M H N u rest (i + 1) ⟨(i, ⟨o.dst, .tup [], []⟩) :: litE s.ents M i o.guard s.orc, s.recs, s.ts, bnd s.ob (g && (dstOk base.nt o.dst && uniq dsts o.dst i)), s.obs, orc⟩

def anyTL (P : Program) (C : List (Nat × Con)) (ops : Array Oper) (s : RSt) : Option RSt :=
  let l := ops.toList
  let N := l.length
  let M := masks l []
  let H := turnsOf C l 0
  let dsts := dstsOf l 0
  match preTL P C s.st dsts M H N N l 0 ⟨[], [], [s.st.tab], bnd s.ob (acyc l 0 && chainB M H), s.obs, s.orc⟩ with
  | none => none
  | some p => match chkR P C s.st dsts M H N N p.ents p.ts p.recs (p.ob, p.obs) with
    | none => none
    | some (ob, obs) => some ⟨⟨putAll s.st.tmps p.ents, tabAt (p.ts.getD H.length []) p.ents (fun j => okStage M j H.length H 0), s.st.nk + 4 * N, s.st.nt⟩, ob, obs, p.orc⟩

def anyUL (P : Program) (C : List (Nat × Con)) (ops : Array Oper) (u : Nat) (s : RSt) : Option RSt :=
  let l := ops.toList
  let N := l.length
  let M := masks l []
  let H := turnsOf C l 0
  let dsts := dstsOf l 0
  let b : St := ⟨dropT (dstAt l u) s.st.tmps, s.st.tab, s.st.nk, s.st.nt⟩
  match preTL P C b dsts M H N u l 0 ⟨[], [], [s.st.tab], bnd s.ob (acyc l 0 && (chainB M H && orderU M H N u)), s.obs, s.orc⟩ with
  | none => none
  | some p => match chkR P C b dsts M H N u p.ents p.ts p.recs (bnd p.ob (mineU H s.st.nk u p), p.obs) with
    | none => none
    | some (ob, obs) => some ⟨⟨putAll b.tmps p.ents, tabAt (p.ts.getD H.length []) p.ents (fun j => okStage M j H.length H 0), s.st.nk + 4 * N, s.st.nt⟩, ob, obs, p.orc⟩

section
variable {P : Program} {C : List (Nat × Con)}
theorem anyL_eq {ops : Array Oper} {s s' : RSt} (h : anyL P C ops s = some s') (h1 : s'.ob = true) (h2 : All s'.obs) : anyR P C ops s = some s' := by
  unfold anyL at h
  unfold anyR
  simp only at h ⊢
  split at h <;> try (cases h; done)
  rename_i p hp
  have e := seqL_eq _ _ _ h h1 h2
  obtain ⟨g1, g2⟩ := seqR_mono _ _ _ e h1 h2
  rw [preL_eq _ _ _ _ hp g1 g2]
  exact e
theorem preT_mono {base : St} {dsts : List (Nat × Nat)} {M H : List Nat} {N u : Nat} : ∀ (l : List Oper) (i : Nat) (s p : PreT), preT P C base dsts M H N u l i s = some p → p.ob = true → All p.obs → s.ob = true ∧ All s.obs
  | [], i, s, p, h, h1, h2 => by
    simp only [preT, Option.some.injEq] at h; subst h
    exact ⟨h1, h2⟩
  | o :: rest, i, s, p, h, h1, h2 => by
    unfold preT at h
    split at h <;> try (cases h; done)
    · split at h <;> try (cases h; done)
      · obtain ⟨g1, g2⟩ := preT_mono rest _ _ p h h1 h2
        simp only [bnd_true] at g1
        exact ⟨g1.1, (All_append.1 g2).2⟩
      · obtain ⟨g1, g2⟩ := preT_mono rest _ _ p h h1 h2
        simp only [bnd_true] at g1
        exact ⟨g1.1, (All_append.1 g2).2⟩
    · split at h
      · obtain ⟨g1, g2⟩ := preT_mono rest _ _ p h h1 h2
        simp only [bnd_true] at g1
        exact ⟨g1.1, g2⟩
      · obtain ⟨g1, g2⟩ := preT_mono rest _ _ p h h1 h2
        simp only [bnd_true] at g1
        exact ⟨g1.1, g2⟩
theorem preTL_eq {base : St} {dsts : List (Nat × Nat)} {M H : List Nat} {N u : Nat} : ∀ (l : List Oper) (i : Nat) (s p : PreT), preTL P C base dsts M H N u l i s = some p → p.ob = true → All p.obs → preT P C base dsts M H N u l i s = some p
  | [], i, s, p, h, _, _ => h
  | o :: rest, i, s, p, h, h1, h2 => by
    unfold preTL at h
    unfold preT
    split at h <;> try (cases h; done)
    · rename_i g orc hg
      split at h <;> try (cases h; done)
      · rename_i r he
        have e := preTL_eq rest _ _ p h h1 h2
        have g1 := (preT_mono _ _ _ _ e h1 h2).1
        simp only [bnd_true, Bool.and_eq_true] at g1
        obtain ⟨_, rfl, _⟩ := g1
        rw [litE_eq hg] at he e
        rw [hg]
        simp only [he]
        exact e
      · rename_i r he
        have e := preTL_eq rest _ _ p h h1 h2
        have g1 := (preT_mono _ _ _ _ e h1 h2).1
        simp only [bnd_true, Bool.and_eq_true] at g1
        obtain ⟨_, rfl, _⟩ := g1
        rw [litE_eq hg] at he e
        rw [hg]
        simp only [he]
        exact e
    · rename_i g orc hg
      split at h
      · rename_i ht
        have e := preTL_eq rest _ _ p h h1 h2
        have g1 := (preT_mono _ _ _ _ e h1 h2).1
        simp only [bnd_true, Bool.and_eq_true] at g1
        obtain ⟨_, rfl, _⟩ := g1
        rw [litE_eq hg] at e
        rw [hg]
        simp only [ht]
        exact e
      · rename_i ht
        have e := preTL_eq rest _ _ p h h1 h2
        have g1 := (preT_mono _ _ _ _ e h1 h2).1
        simp only [bnd_true, Bool.and_eq_true] at g1
        obtain ⟨_, rfl, _⟩ := g1
        rw [litE_eq hg] at e
        rw [hg]
        simp only [ht]
        exact e
theorem anyTL_eq {ops : Array Oper} {s s' : RSt} (h : anyTL P C ops s = some s') (h1 : s'.ob = true) (h2 : All s'.obs) : anyT P C ops s = some s' := by
  unfold anyTL at h
  unfold anyT
  simp only at h ⊢
  split at h <;> try (cases h; done)
  rename_i p hp
  split at h <;> try (cases h; done)
  rename_i ob obs hck
  have h' := h
  simp only [Option.some.injEq] at h'; subst h'
  obtain ⟨pob, pobs, _⟩ := chkR_spec _ _ _ hck h1 h2
  rw [preTL_eq _ _ _ _ hp pob pobs]
  simp only [hck]
end

section
variable {P : Program} {C : List (Nat × Con)}
theorem anyUL_eq {ops : Array Oper} {u : Nat} {s s' : RSt} (h : anyUL P C ops u s = some s') (h1 : s'.ob = true) (h2 : All s'.obs) : anyU P C ops u s = some s' := by
  unfold anyUL at h
  unfold anyU
  simp only at h ⊢
  split at h <;> try (cases h; done)
  rename_i p hp
  split at h <;> try (cases h; done)
  rename_i ob obs hck
  have h' := h
  simp only [Option.some.injEq] at h'; subst h'
  obtain ⟨pob, pobs, _⟩ := chkR_spec _ _ _ hck h1 h2
  simp only [bnd_true] at pob
  rw [preTL_eq _ _ _ _ hp pob.1 pobs]
  simp only [hck]
end

def anyFL (P : Program) (C : List (Nat × Con)) (ops : Array Oper) (s : RSt) : Option RSt :=
  match forcedFrom (masks ops.toList []) (headLen C ops.toList) (ops.toList.length - headLen C ops.toList) with
  | true => anyL P C ops s
  | false => match findU (masks ops.toList []) (turnsOf C ops.toList 0) ops.toList 0 with
    | none => anyTL P C ops s
    | some u => anyUL P C ops u s

def litC (st : St) (c : Operand) (t : Bool) : St := match c with
  | .tmp d => { st with tmps := litL st.tmps d t }
  | _ => st
theorem litC_eq {st : St} {c : Operand} {t : Bool} (h : sev st.tmps c = .c (.bool t)) : litC st c t = st := by
  unfold litC
  split
  · rename_i d
    simp only [sev] at h
    split at h
    · rename_i v hv; subst h; rw [litL_eq hv]
    · cases h
  · rfl

def xcodeL (P : Program) (C : List (Nat × Con)) : Nat → Code → RSt → Option (Out × RSt)
  | 0, _, _ => none
  | f + 1, c, s => match c with
    | .skip => some (.norm, s)
    | .label _ => some (.norm, s)
    | .exit id => some (.exit id, s)
    | .ret => some (.ret, s)
    | .region _ ops draw => match draw with
      | true => match anyFL P C ops s with
        | some s' => some (.norm, { s' with orc := { s'.orc with known := [] } })
        | none => none
      | false => match seqL P C ops ops.toList s with
        | some s' => some (.norm, { s' with orc := { s'.orc with known := [] } })
        | none => none
    | .seq a b => match xcodeL P C f a s with
      | some (.norm, s') => xcodeL P C f b s'
      | some (o, s') => some (o, s')
      | none => none
    | .cond c a b => match sev s.st.tmps c with
      | .c (.bool t) => match s.orc.told with
        | true :: r => xcodeL P C f a { s with st := litC s.st c true, ob := bnd s.ob t, orc := ⟨r, []⟩ }
        | false :: r => xcodeL P C f b { s with st := litC s.st c false, ob := bnd s.ob (!t), orc := ⟨r, []⟩ }
        | [] => match t with
          | true => xcodeL P C f a s
          | false => xcodeL P C f b s
      | _ => none
    | .block id c => match xcodeL P C f c s with
      | some (.exit j, s') => bif Nat.beq j id then some (.norm, s') else some (.exit j, s')
      | r => r
    | .loop c => match xcodeL P C f c s with
      | some (.norm, s') => xcodeL P C f (.loop c) s'
      | some (o, s') => some (o, s')
      | none => none
    | _ => none

section
variable {P : Program} {C : List (Nat × Con)}
theorem anyFL_eq {ops : Array Oper} {s s' : RSt} (h : anyFL P C ops s = some s') (h1 : s'.ob = true) (h2 : All s'.obs) : anyF P C ops s = some s' := by
  unfold anyFL at h
  unfold anyF
  split at h
  · rename_i hf; rw [hf]; exact anyL_eq h h1 h2
  · rename_i hf; rw [hf]
    split at h
    · rename_i hu; rw [hu]; exact anyTL_eq h h1 h2
    · rename_i hu; rw [hu]; exact anyUL_eq h h1 h2
theorem xcodeL_eq : ∀ (f : Nat) (c : Code) (s s' : RSt) (o : Out), xcodeL P C f c s = some (o, s') → s'.ob = true → All s'.obs → xcode P C f c s = some (o, s')
  | 0, c, s, s', o, h, _, _ => by simp [xcodeL] at h
  | f + 1, c, s, s', o, h, h1, h2 => by
    have ih := xcodeL_eq f
    have mono : ∀ {c s o}, xcodeL P C f c s = some (o, s') → s.ob = true ∧ All s.obs := fun h => xcode_mono _ _ _ _ _ (ih _ _ _ _ h h1 h2) h1 h2
    cases c
    case region id ops draw =>
      simp only [xcodeL] at h
      simp only [xcode]
      split at h
      · split at h <;> try (cases h; done)
        rename_i s1 hs1
        simp only [Option.some.injEq, Prod.mk.injEq] at h; obtain ⟨rfl, rfl⟩ := h
        rw [anyFL_eq hs1 h1 h2]
      · split at h <;> try (cases h; done)
        rename_i s1 hs1
        simp only [Option.some.injEq, Prod.mk.injEq] at h; obtain ⟨rfl, rfl⟩ := h
        rw [seqL_eq _ _ _ hs1 h1 h2]
    case seq a b =>
      simp only [xcodeL] at h
      simp only [xcode]
      split at h <;> try (cases h; done)
      · rename_i s1 hs1
        obtain ⟨g1, g2⟩ := mono h
        rw [ih _ _ _ _ hs1 g1 g2]
        exact ih _ _ _ _ h h1 h2
      · rename_i o1 s1 hne hs1
        simp only [Option.some.injEq, Prod.mk.injEq] at h; obtain ⟨rfl, rfl⟩ := h
        rw [ih _ _ _ _ hs1 h1 h2]
        cases o1 <;> first | rfl | exact (hne rfl).elim
    case cond q x y =>
      simp only [xcodeL] at h
      simp only [xcode]
      split at h <;> try (cases h; done)
      rename_i t ht
      split at h
      · rename_i r hr
        obtain ⟨g1, g2⟩ := mono h
        simp only [bnd_true] at g1
        obtain ⟨_, rfl⟩ := g1
        rw [litC_eq ht] at h
        simp only [ht, hr]
        exact ih _ _ _ _ h h1 h2
      · rename_i r hr
        obtain ⟨g1, g2⟩ := mono h
        simp only [bnd_true, Bool.not_eq_true'] at g1
        obtain ⟨_, rfl⟩ := g1
        rw [litC_eq ht] at h
        simp only [ht, hr]
        exact ih _ _ _ _ h h1 h2
      · rename_i hr
        simp only [ht, hr]
        split at h
        · exact ih _ _ _ _ h h1 h2
        · exact ih _ _ _ _ h h1 h2
    case block id c =>
      simp only [xcodeL] at h
      simp only [xcode]
      split at h
      · rename_i j s1 hs1
        cases hb : Nat.beq j id with
        | true =>
          rw [hb] at h; simp only [cond_true, Option.some.injEq, Prod.mk.injEq] at h; obtain ⟨rfl, rfl⟩ := h
          rw [ih _ _ _ _ hs1 h1 h2]; simp only [hb, cond_true]
        | false =>
          rw [hb] at h; simp only [cond_false, Option.some.injEq, Prod.mk.injEq] at h; obtain ⟨rfl, rfl⟩ := h
          rw [ih _ _ _ _ hs1 h1 h2]; simp only [hb, cond_false]
      · rename_i hne
        rw [ih _ _ _ _ h h1 h2]
        cases o <;> first | rfl | exact (hne _ _ h).elim
    case loop c =>
      simp only [xcodeL] at h
      simp only [xcode]
      split at h <;> try (cases h; done)
      · rename_i s1 hs1
        obtain ⟨g1, g2⟩ := mono h
        rw [ih _ _ _ _ hs1 g1 g2]
        exact ih _ _ _ _ h h1 h2
      · rename_i o1 s1 hne hs1
        simp only [Option.some.injEq, Prod.mk.injEq] at h; obtain ⟨rfl, rfl⟩ := h
        rw [ih _ _ _ _ hs1 h1 h2]
        cases o1 <;> first | rfl | exact (hne rfl).elim
    all_goals exact h

def xrowL (P : Program) (C : List (Nat × Con)) (fuel : Nat) : Nat → List Code → RSt → Option (Out × RSt)
  | 0, _, s => some (.norm, s)
  | _ + 1, [], s => some (.norm, s)
  | n + 1, c :: r, s => match xcodeL P C fuel c s with
    | some (.norm, s') => xrowL P C fuel n r s'
    | some (o, s') => some (o, s')
    | none => none
theorem xrowL_eq {fuel : Nat} : ∀ (n : Nat) (l : List Code) (s s' : RSt) (o : Out), xrowL P C fuel n l s = some (o, s') → s'.ob = true → All s'.obs → xrow P C fuel n l s = some (o, s')
  | 0, _, _, _, _, h, _, _ => h
  | _ + 1, [], _, _, _, h, _, _ => h
  | n + 1, c :: r, s, s', o, h, h1, h2 => by
    unfold xrowL at h
    unfold xrow
    split at h <;> try (cases h; done)
    · rename_i s1 hs1
      have e := xrowL_eq n r s1 s' o h h1 h2
      obtain ⟨g1, g2⟩ := xrow_mono _ _ _ _ _ e h1 h2
      rw [xcodeL_eq _ _ _ _ _ hs1 g1 g2]
      exact e
    · rename_i o1 s1 hne hs1
      simp only [Option.some.injEq, Prod.mk.injEq] at h; obtain ⟨rfl, rfl⟩ := h
      rw [xcodeL_eq _ _ _ _ _ hs1 h1 h2]
      cases o1 <;> first | rfl | exact (hne rfl).elim
end

def stepL (P : Program) (C : List (Nat × Con)) (nf fuel n : Nat) (l : List Code) (st : St) (told : List Bool) (un : List (Nat × Nat × TypeId)) (c : Cut) : Option (Bool × List Prop × St) :=
  match xrowL P C fuel n l ⟨st, true, [], ⟨told, []⟩⟩ with
  | some (.norm, s) => some (bnd s.ob (c.ok nf (unnils s.st un)), s.obs, c.st (unnils s.st un))
  | _ => none
def exitL (P : Program) (C : List (Nat × Con)) (nf fuel n : Nat) (l : List Code) (st : St) (told : List Bool) (un : List (Nat × Nat × TypeId)) (c : Cut) : Option (Nat × Bool × List Prop × St) :=
  match xrowL P C fuel n l ⟨st, true, [], ⟨told, []⟩⟩ with
  | some (.exit i, s) => some (i, bnd s.ob (c.ok nf (unnils s.st un)), s.obs, c.st (unnils s.st un))
  | _ => none
def finL (P : Program) (C : List (Nat × Con)) (f fuel n : Nat) (l : List Code) (st : St) (told : List Bool) : Option (Bool × List Prop × SV × Tab) :=
  match P.funcs[f]? with
  | some fn => match xrowL P C fuel n l ⟨st, true, [], ⟨told, []⟩⟩ with
    | some (o, s) => match resS P s.st fn.results.toList with
      | some (b, v) => some (bnd s.ob (b && (isEnd o && (Nat.ble l.length n || (match o with | .ret => true | _ => false)))), s.obs, v, s.st.tab)
      | none => none
    | none => none
  | none => none
def retL (P : Program) (C : List (Nat × Con)) (f fuel n : Nat) (l : List Code) (st : St) (told : List Bool) : Option (Bool × List Prop × SV) :=
  match P.funcs[f]? with
  | some fn => match xrowL P C fuel n l ⟨st, true, [], ⟨told, []⟩⟩ with
    | some (.ret, s) => match resS P s.st fn.results.toList with
      | some (b, v) => some (bnd s.ob b, s.obs, v)
      | none => none
    | _ => none
  | none => none
def xfunL (P : Program) (C : List (Nat × Con)) (fuel : Nat) (f : FuncId) (args : List SV) (T : Tab) (nk : Nat) (told : List Bool) : Option (Bool × List Prop × SV × Tab) :=
  match P.funcs[f]? with
  | some fn => match fn.body with
    | some c => match xcodeL P C fuel c ⟨⟨argTmps args 0, T, nk, fn.ntmps⟩, true, [], ⟨told, []⟩⟩ with
      | some (o, s) => match resS P s.st fn.results.toList with
        | some (b, v) => some (bnd s.ob (b && (isEnd o && Nat.ble args.length fn.ntmps)), s.obs, v, s.st.tab)
        | none => none
      | none => none
    | none => none
  | none => none

section
variable {P : Program} {C : List (Nat × Con)} {X : Cx} {Q : Out → St → Prop}
theorem stepL_eq {nf fuel n : Nat} {l : List Code} {st t : St} {told : List Bool} {un : List (Nat × Nat × TypeId)} {c : Cut} {ob : Bool} {obs : List Prop} (h : stepL P C nf fuel n l st told un c = some (ob, obs, t)) (h1 : ob = true) (h2 : All obs) : stepF P C nf fuel n l st told un c = some (ob, obs, t) := by
  unfold stepL at h
  unfold stepF
  split at h <;> try (cases h; done)
  rename_i s hs
  have h' := h
  simp only [Option.some.injEq, Prod.mk.injEq] at h'
  obtain ⟨rfl, rfl, rfl⟩ := h'
  simp only [bnd_true] at h1
  rw [xrowL_eq _ _ _ _ _ hs h1.1 h2]
theorem exitL_eq {nf fuel n i : Nat} {l : List Code} {st t : St} {told : List Bool} {un : List (Nat × Nat × TypeId)} {c : Cut} {ob : Bool} {obs : List Prop} (h : exitL P C nf fuel n l st told un c = some (i, ob, obs, t)) (h1 : ob = true) (h2 : All obs) : exitF P C nf fuel n l st told un c = some (i, ob, obs, t) := by
  unfold exitL at h
  unfold exitF
  split at h <;> try (cases h; done)
  rename_i j s hs
  have h' := h
  simp only [Option.some.injEq, Prod.mk.injEq] at h'
  obtain ⟨rfl, rfl, rfl, rfl⟩ := h'
  simp only [bnd_true] at h1
  rw [xrowL_eq _ _ _ _ _ hs h1.1 h2]
theorem finL_eq {f fuel n : Nat} {l : List Code} {st : St} {told : List Bool} {ob : Bool} {obs : List Prop} {v : SV} {T : Tab} (h : finL P C f fuel n l st told = some (ob, obs, v, T)) (h1 : ob = true) (h2 : All obs) : finF P C f fuel n l st told = some (ob, obs, v, T) := by
  unfold finL at h
  unfold finF
  split at h <;> try (cases h; done)
  rename_i fn hfn
  split at h <;> try (cases h; done)
  rename_i o s hs
  split at h <;> try (cases h; done)
  rename_i b v' hv
  have h' := h
  simp only [Option.some.injEq, Prod.mk.injEq] at h'
  obtain ⟨rfl, rfl, rfl, rfl⟩ := h'
  simp only [bnd_true] at h1
  rw [hfn]
  simp only [xrowL_eq _ _ _ _ _ hs h1.1 h2, hv]
  cases o <;> rfl
theorem retL_eq {f fuel n : Nat} {l : List Code} {st : St} {told : List Bool} {ob : Bool} {obs : List Prop} {v : SV} (h : retL P C f fuel n l st told = some (ob, obs, v)) (h1 : ob = true) (h2 : All obs) : retF P C f fuel n l st told = some (ob, obs, v) := by
  unfold retL at h
  unfold retF
  split at h <;> try (cases h; done)
  rename_i fn hfn
  split at h <;> try (cases h; done)
  rename_i s hs
  split at h <;> try (cases h; done)
  rename_i b v' hv
  have h' := h
  simp only [Option.some.injEq, Prod.mk.injEq] at h'
  obtain ⟨rfl, rfl, rfl⟩ := h'
  simp only [bnd_true] at h1
  rw [hfn]
  simp only [xrowL_eq _ _ _ _ _ hs h1.1 h2, hv]
theorem xfunL_eq {fuel : Nat} {f : FuncId} {args : List SV} {T T' : Tab} {nk : Nat} {told : List Bool} {ob : Bool} {obs : List Prop} {r : SV} (h : xfunL P C fuel f args T nk told = some (ob, obs, r, T')) (h1 : ob = true) (h2 : All obs) : xfun P C fuel f args T nk told = some (ob, obs, r, T') := by
  unfold xfunL at h
  unfold xfun
  split at h <;> try (cases h; done)
  rename_i fn hfn
  split at h <;> try (cases h; done)
  rename_i c hc
  split at h <;> try (cases h; done)
  rename_i o s hs
  split at h <;> try (cases h; done)
  rename_i b v' hv
  have h' := h
  simp only [Option.some.injEq, Prod.mk.injEq] at h'
  obtain ⟨rfl, rfl, rfl, rfl⟩ := h'
  simp only [bnd_true] at h1
  rw [hfn]
  simp only [hc, xcodeL_eq _ _ _ _ _ hs h1.1 h2, hv]

theorem SWs.stepL (hC : LibOK P C) (hm : P.follows .mixedOrders = true) {fuel n : Nat} {l : List Code} {st t : St} (told : List Bool) {un : List (Nat × Nat × TypeId)} {c : Cut} {ob : Bool} {obs : List Prop}
    (h : Sx.stepL P C X.nf fuel n l st told un c = some (ob, obs, t)) (hob : ob = true) (hobs : All obs) (hk : SWs P X (l.drop n) t Q) : SWs P X l st Q := SWs.step hC hm (stepL_eq h hob hobs) hob hobs hk
theorem SWs.doneL (hC : LibOK P C) (hm : P.follows .mixedOrders = true) {fuel n : Nat} {l : List Code} {st t : St} (told : List Bool) {un : List (Nat × Nat × TypeId)} {c : Cut} {ob : Bool} {obs : List Prop}
    (h : Sx.stepL P C X.nf fuel n l st told un c = some (ob, obs, t)) (hn : Nat.ble l.length n = true) (hob : ob = true) (hobs : All obs) (hk : Q .norm t) : SWs P X l st Q := SWs.done hC hm (stepL_eq h hob hobs) hn hob hobs hk
theorem SWs.roundL (hC : LibOK P C) (hm : P.follows .mixedOrders = true) {fuel n : Nat} {l : List Code} {st t : St} (told : List Bool) {un : List (Nat × Nat × TypeId)} {c : Cut} {ob : Bool} {obs : List Prop} {next : St → Prop} {i : Nat} {rest : St → Prop}
    (h : Sx.stepL P C X.nf fuel n l st told un c = some (ob, obs, t)) (hn : Nat.ble l.length n = true) (hob : ob = true) (hobs : All obs) (hk : next t) : SWs P X l st (roundQ next i rest Q) := SWs.round hC hm (stepL_eq h hob hobs) hn hob hobs hk
theorem SWs.outL (hC : LibOK P C) (hm : P.follows .mixedOrders = true) {fuel n : Nat} {l l' : List Code} {st t : St} (told : List Bool) {un : List (Nat × Nat × TypeId)} {c : Cut} {ob : Bool} {obs : List Prop} {next : St → Prop} {i : Nat}
    (h : exitL P C X.nf fuel n l st told un c = some (i, ob, obs, t)) (hob : ob = true) (hobs : All obs) (hk : SWs P X l' t Q) : SWs P X l st (roundQ next i (fun st' => SWs P X l' st' Q) Q) := SWs.out hC hm (exitL_eq h hob hobs) hob hobs hk
theorem SWs.finL (hC : LibOK P C) (hm : P.follows .mixedOrders = true) {f fuel n : Nat} {l : List Code} {st : St} (told : List Bool) {ob : Bool} {obs : List Prop} {v : SV} {T : Tab} {Post : SV → Tab → Prop}
    (h : Sx.finL P C f fuel n l st told = some (ob, obs, v, T)) (hob : ob = true) (hobs : All obs) (hP : Post v T) : SWs P X l st (FinQ P f Post) := SWs.fin hC hm (finL_eq h hob hobs) hob hobs hP
theorem SWs.finvL (hC : LibOK P C) (hm : P.follows .mixedOrders = true) {f fuel n : Nat} {l : List Code} {st : St} (told : List Bool) {ob : Bool} {obs : List Prop} {v : SV} {Post : SV → Prop}
    (h : (Sx.finL P C f fuel n l st told).map (fun q => (q.1, q.2.1, q.2.2.1)) = some (ob, obs, v)) (hob : ob = true) (hobs : All obs) (hP : Post v) : SWs P X l st (FinQ P f fun v _ => Post v) := by
  cases hx : Sx.finL P C f fuel n l st told with
  | none => rw [hx] at h; cases h
  | some q =>
    obtain ⟨q1, q2, q3, q4⟩ := q
    rw [hx] at h
    simp only [Option.map_some, Option.some.injEq, Prod.mk.injEq] at h
    obtain ⟨rfl, rfl, rfl⟩ := h
    exact SWs.finL hC hm told hx hob hobs hP
theorem SWs.fintL (hC : LibOK P C) (hm : P.follows .mixedOrders = true) {f fuel n : Nat} {l : List Code} {st : St} (told : List Bool) {ob : Bool} {obs : List Prop} {v : SV} {k : Nat} {b : Option Blk}
    (h : (Sx.finL P C f fuel n l st told).map (fun q => (q.1, q.2.1, q.2.2.1, q.2.2.2.blk k)) = some (ob, obs, v, b)) (hob : ob = true) (hobs : All obs) : SWs P X l st (FinQ P f fun v' T => v' = v ∧ T.blk k = b) := by
  cases hx : Sx.finL P C f fuel n l st told with
  | none => rw [hx] at h; cases h
  | some q =>
    obtain ⟨q1, q2, q3, q4⟩ := q
    rw [hx] at h
    simp only [Option.map_some, Option.some.injEq, Prod.mk.injEq] at h
    obtain ⟨rfl, rfl, rfl, rfl⟩ := h
    exact SWs.finL hC hm told hx hob hobs ⟨rfl, rfl⟩
theorem SWs.retL (hC : LibOK P C) (hm : P.follows .mixedOrders = true) {f fuel n : Nat} {l : List Code} {st : St} (told : List Bool) {ob : Bool} {obs : List Prop} {v : SV} {Post : SV → Tab → Prop}
    (h : Sx.retL P C f fuel n l st told = some (ob, obs, v)) (hob : ob = true) (hobs : All obs) (hP : ∀ T, Post v T) (hQ : ∀ st', FinQ P f Post .ret st' → Q .ret st') : SWs P X l st Q := SWs.ret hC hm (retL_eq h hob hobs) hob hobs hP hQ
/-- A return from within a loop; from within two. -/
theorem SWs.retR (hC : LibOK P C) (hm : P.follows .mixedOrders = true) {f fuel n : Nat} {l : List Code} {st : St} (told : List Bool) {ob : Bool} {obs : List Prop} {v : SV} {Post : SV → Tab → Prop} {next : St → Prop} {i : Nat} {rest : St → Prop}
    (h : Sx.retL P C f fuel n l st told = some (ob, obs, v)) (hob : ob = true) (hobs : All obs) (hP : ∀ T, Post v T) : SWs P X l st (roundQ next i rest (FinQ P f Post)) := SWs.retL hC hm told h hob hobs hP fun _ h => h
theorem SWs.retRR (hC : LibOK P C) (hm : P.follows .mixedOrders = true) {f fuel n : Nat} {l : List Code} {st : St} (told : List Bool) {ob : Bool} {obs : List Prop} {v : SV} {Post : SV → Tab → Prop} {next next' : St → Prop} {i i' : Nat} {rest rest' : St → Prop}
    (h : Sx.retL P C f fuel n l st told = some (ob, obs, v)) (hob : ob = true) (hobs : All obs) (hP : ∀ T, Post v T) : SWs P X l st (roundQ next i rest (roundQ next' i' rest' (FinQ P f Post))) := SWs.retL hC hm told h hob hobs hP fun _ h => h
theorem Fn.xL (hC : LibOK P C) (hm : P.follows .mixedOrders = true) {fuel : Nat} {f : FuncId} {args : List SV} {T T' : Tab} {nk : Nat} (told : List Bool) {ob : Bool} {obs : List Prop} {r : SV} {Post : SV → Tab → Prop}
    (h : xfunL P C fuel f args T nk told = some (ob, obs, r, T')) (hob : ob = true) (hobs : All obs) (hP : Post r T') : Fn P f X args T nk Post := Fn.x hC hm (xfunL_eq h hob hobs) hob hobs hP
theorem Fn.xvL (hC : LibOK P C) (hm : P.follows .mixedOrders = true) {fuel : Nat} {f : FuncId} {args : List SV} {T : Tab} {nk : Nat} (told : List Bool) {ob : Bool} {obs : List Prop} {r : SV} {Post : SV → Prop}
    (h : (xfunL P C fuel f args T nk told).map (fun q => (q.1, q.2.1, q.2.2.1)) = some (ob, obs, r)) (hob : ob = true) (hobs : All obs) (hP : Post r) : Fn P f X args T nk fun v _ => Post v := by
  cases hx : xfunL P C fuel f args T nk told with
  | none => rw [hx] at h; cases h
  | some q =>
    obtain ⟨q1, q2, q3, q4⟩ := q
    rw [hx] at h
    simp only [Option.map_some, Option.some.injEq, Prod.mk.injEq] at h
    obtain ⟨rfl, rfl, rfl⟩ := h
    exact Fn.xL hC hm told hx hob hobs hP
theorem Fn.xtL (hC : LibOK P C) (hm : P.follows .mixedOrders = true) {fuel : Nat} {f : FuncId} {args : List SV} {T : Tab} {nk : Nat} (told : List Bool) {ob : Bool} {obs : List Prop} {r : SV} {k : Nat} {b : Option Blk}
    (h : (xfunL P C fuel f args T nk told).map (fun q => (q.1, q.2.1, q.2.2.1, q.2.2.2.blk k)) = some (ob, obs, r, b)) (hob : ob = true) (hobs : All obs) : Fn P f X args T nk fun v T' => v = r ∧ T'.blk k = b := by
  cases hx : xfunL P C fuel f args T nk told with
  | none => rw [hx] at h; cases h
  | some q =>
    obtain ⟨q1, q2, q3, q4⟩ := q
    rw [hx] at h
    simp only [Option.map_some, Option.some.injEq, Prod.mk.injEq] at h
    obtain ⟨rfl, rfl, rfl, rfl⟩ := h
    exact Fn.xL hC hm told hx hob hobs ⟨rfl, rfl⟩
end

end Go.Proofs.Ytkpdkfeklecehaa.Sx
