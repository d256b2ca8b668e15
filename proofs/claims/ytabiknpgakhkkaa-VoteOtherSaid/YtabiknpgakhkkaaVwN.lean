/-
  Views and operations among the arguments; what Apply answers, part by part; the law of all operations.
-/
import Derived.Test.YtabiknpgakhkkaaVwM
import Derived.Test.YtabiknpgakhkkaaSxW
namespace Go.Proofs.Ytabiknpgakhkkaa.Vw
open Go.RowKit Go.Proofs.Ytabiknpgakhkkaa.Sx Go.Proofs.Ytabiknpgakhkkaa.Pw
set_option linter.unusedVariables false
set_option linter.unusedSimpArgs false

/-! Arguments. -/
def codeAt (i : Nat) : Nat := bif Nat.blt i 32 then 0 else bif Nat.blt i 40 then 1 else bif Nat.beq i 40 then 0 else 2
def viCodes : List Nat := (List.range 73).map codeAt
theorem kinds_code : ∀ {cs : List SC} {ks : List Nat} {j : Nat}, All2 codeOk cs ks → (∀ i k, ks[i]? = some k → k = codeAt (j + i)) → kinds cs j = true
  | [], _, _, h, _ => rfl
  | x :: cs, _, j, h, hk => by
    cases h with
    | @cons _ k _ ks h1 h2 =>
    have h0 := hk 0 k rfl
    rw [Nat.add_zero] at h0
    simp only [kinds, Bool.and_eq_true]
    refine ⟨?_, kinds_code h2 fun i k' hi => by
      have := hk (i + 1) k' (by simpa using hi)
      rw [this]; congr 1; omega⟩
    unfold kindAt
    subst h0
    unfold codeAt at h1
    cases hb : Nat.blt j 32 with
    | true =>
      rw [hb] at h1
      rcases h1 with ⟨_, h⟩ | ⟨h, _⟩ | ⟨h, _⟩
      · exact h
      · simp at h
      · simp at h
    | false =>
      rw [hb] at h1
      simp only [cond_false] at h1 ⊢
      cases hb2 : Nat.blt j 40 with
      | true =>
        rw [hb2] at h1
        rcases h1 with ⟨h, _⟩ | ⟨_, h⟩ | ⟨h, _⟩
        · simp at h
        · exact h
        · simp at h
      | false =>
        rw [hb2] at h1
        simp only [cond_false] at h1 ⊢
        cases hb3 : Nat.beq j 40 with
        | true =>
          rw [hb3] at h1
          rcases h1 with ⟨_, h⟩ | ⟨h, _⟩ | ⟨h, _⟩
          · exact h
          · simp at h
          · simp at h
        | false =>
          rw [hb3] at h1
          rcases h1 with ⟨h, _⟩ | ⟨h, _⟩ | ⟨_, h⟩
          · simp at h
          · simp at h
          · exact h
set_option maxRecDepth 100000 in
theorem arg_view {W : World} {base : Nat} {v : Value} (h : Value.okWide Try.prog W .any base tView v) : ∃ (x : Vi) (vs : List Value), v = .agg vs.toArray ∧ ∀ ρ, All2 (SC.R ρ) x.cs vs := by
  have hts : ∃ ts, Try.prog.cellTypes Try.prog.depth tView = some ts ∧ ts.map (cellCode Try.prog) = viCodes.map some := ⟨(List.replicate 32 3 ++ (List.replicate 8 4 ++ (3 :: List.replicate 32 5))), by kernel_rfl, by kernel_rfl⟩
  obtain ⟨ts, h1, h2⟩ := hts
  obtain ⟨sc, vs, rfl, h3, h4⟩ := arg_cells (ks := viCodes) (by kernel_rfl) h1 (by kernel_rfl) h2 h
  have hv : isVi sc = true := by
    unfold isVi
    have hl : sc.length = 73 := h4.length
    rw [hl]
    refine kinds_code h4 fun i k hk => ?_
    unfold viCodes at hk
    rw [List.getElem?_map] at hk
    cases hr : (List.range 73)[i]? with
    | none => rw [hr] at hk; simp at hk
    | some m =>
      rw [hr] at hk
      simp only [Option.map_some, Option.some.injEq] at hk
      obtain ⟨hm, hm2⟩ := List.getElem?_eq_some_iff.1 hr
      simp at hm2
      subst hm2
      rw [Nat.zero_add]; exact hk.symm
  exact ⟨Vi.of sc, vs, rfl, fun ρ => by rw [← Vi.of_cs hv]; exact h3 ρ⟩
theorem rb_ok {n : Nat} {cs : List SC} {ty : TypeId} (h : cs.all SC.isInt = true) : RBok (rbO 0 n cs ty) := by
  refine ⟨rfl, rfl, ?_⟩
  show cs.all SC.sole = true
  rw [List.all_eq_true] at h ⊢
  intro x hx
  have := h x hx
  cases x <;> first | rfl | (simp [SC.isInt] at this; done)
theorem rb_ops {n : Nat} {cs : List SC} {ty : TypeId} (hl : cs.length = n * 5) (h : cs.all SC.isInt = true) : okOps (rbO 0 n cs ty) = true := by
  unfold okOps
  show (Nat.ble (0 + n * 5) cs.length && ((cs.drop 0).take (n * 5)).all SC.isInt) = true
  rw [Bool.and_eq_true, Nat.ble_eq]
  refine ⟨by omega, ?_⟩
  rw [List.drop_zero, ← hl, List.take_length]; exact h

/-! What Apply answers, part by part. -/
structure AQ where
  v : Vi
  a : Nat → Bool
  g : Nat → Bool
  e : Int
def AQ.sv (q : AQ) : SV := resT q.v q.a q.g q.e
def bad (e : Int) : AQ := ⟨zeroV, no8, no8, e⟩
def endQ (q : Int × Chg') : AQ := bif q.1 == 0 then (bif decide (admS q.2.v < q.2.v.k) then bad 7 else ⟨q.2.v, q.2.ad, q.2.gn, 0⟩) else bad q.1
def applyQ (v : Vi) (f : Int) (l : List Ope) : AQ := bif !isVS v then bad 1 else bif decide ((l.length : Int) > 4) then bad 1 else bif l.any (fun o => !opOk o) then bad 1 else
  bif !memI v f then bad 6 else endQ (runL l (startC v f))
theorem applyQ_sv (v : Vi) (f : Int) (l : List Ope) : (applyQ v f l).sv = applyR v f l := by
  unfold applyQ applyR
  cases isVS v
  · rfl
  · cases decide ((l.length : Int) > 4)
    · cases l.any (fun o => !opOk o)
      · cases memI v f
        · rfl
        · simp only [Bool.not_true, cond_false]
          unfold endQ endR
          cases (runL l (startC v f)).1 == 0
          · rfl
          · cases decide (admS (runL l (startC v f)).2.v < (runL l (startC v f)).2.v.k) <;> rfl
      · rfl
    · rfl
def appG (Q : Vi → Int → List Ope → AQ) : Con := sVal [none, none, some 5] fun ps rs => match ps, rs with | [.agg cs, .c (.int f)], [r] => some (isVi cs && okOps r, (Q (Vi.of cs) f (opsL r)).sv) | _, _ => none
def rappG (Q : Vi → Int → List Ope → AQ) : Con := sVal [none, none, some 5] fun ps rs => match ps, rs with | [.agg cs, .c (.int f)], [r] => some (isVi cs && (okOps r && Nat.ble r.n 1000000), (Q (Vi.of cs) f (opsL r)).sv) | _, _ => none
theorem appG_ok {Q : Vi → Int → List Ope → AQ} (hQ : Q = applyQ) : ConOK Try.prog fApp (appG Q) := by
  subst hQ
  refine sVal_ok (fn := Try.f21) (by kernel_rfl) rfl rfl fun ps rs v h hps hrs => ?_
  split at h <;> try (cases h; done)
  rename_i cs f r
  simp only [Option.some.injEq, Prod.mk.injEq, Bool.and_eq_true] at h
  obtain ⟨⟨hv, ho⟩, rfl⟩ := h
  refine ⟨rfl, fun w => ?_⟩
  rw [applyQ_sv]
  have e := Vi.of_cs hv
  generalize Vi.of cs = t at e
  subst e
  exact apply_fn t f r (hrs r (by simp)) ho w
theorem rappG_ok {Q : Vi → Int → List Ope → AQ} (hQ : Q = applyQ) : ConOK Try.prog frApp (rappG Q) := by
  subst hQ
  refine sVal_ok (fn := Try.f16) (by kernel_rfl) rfl rfl fun ps rs v h hps hrs => ?_
  split at h <;> try (cases h; done)
  rename_i cs f r
  simp only [Option.some.injEq, Prod.mk.injEq, Bool.and_eq_true, Nat.ble_eq] at h
  obtain ⟨⟨hv, ho, hn⟩, rfl⟩ := h
  refine ⟨rfl, fun w => ?_⟩
  rw [applyQ_sv]
  have e := Vi.of_cs hv
  generalize Vi.of cs = t at e
  subst e
  exact rapply_fn t f r (hrs r (by simp)) ho hn w

/-! Two views: are they one? -/
def andN (f : Nat → Bool) (i : Nat) : Nat → Bool
  | 0 => true
  | n + 1 => f i && andN f (i + 1) n
theorem andN_true {f : Nat → Bool} (h : ∀ i, f i = true) : ∀ {n i : Nat}, andN f i n = true
  | 0, _ => rfl
  | n + 1, i => by unfold andN; rw [h i, andN_true h]; rfl
def eqLf (t u : Tr) (i : Nat) : Bool := (t.sg i == u.sg i) && ((t.sl i == u.sl i) && true)
def eqTr (t u : Tr) : Bool := andN (eqLf t u) 0 8 && (andN (fun i => t.nd i == u.nd i) 0 15 && true)
def eqB8 (a b : Nat → Bool) : Bool := andN (fun i => a i == b i) 0 8
def eqVi (u v : Vi) : Bool := (u.ep == v.ep) && (eqTr u.t v.t && (eqB8 u.ad v.ad && ((u.k == v.k) && (andN (fun i => u.ch i == v.ch i) 0 32 && true))))
theorem eqB8_self (a : Nat → Bool) : eqB8 a a = true := andN_true fun i => by simp
theorem eqVi_self (v : Vi) : eqVi v v = true := by
  unfold eqVi eqTr
  rw [eqB8_self, andN_true (f := eqLf v.t v.t) fun i => by unfold eqLf; simp, andN_true (f := fun i => v.t.nd i == v.t.nd i) fun i => by simp, andN_true (f := fun i => v.ch i == v.ch i) fun i => by simp]
  simp

/-! The law of all operations. -/
def apOb (r : RB) : Bool := (r.b.cells.all SC.sole && true) && okOps r
def rapOb (r : RB) : Bool := (r.b.cells.all SC.sole && true) && (okOps r && Nat.ble r.n 1000000)
theorem apOb_eq {r : RB} (h : RBok r) (ho : okOps r = true) : apOb r = true := by unfold apOb; rw [h.2.2, ho]; rfl
theorem rapOb_eq {r : RB} (h : RBok r) (ho : okOps r = true) (hn : r.n ≤ 1000000) : rapOb r = true := by unfold rapOb; rw [h.2.2, ho, show Nat.ble r.n 1000000 = true by rw [Nat.ble_eq]; exact hn]; rfl

end Go.Proofs.Ytabiknpgakhkkaa.Vw
