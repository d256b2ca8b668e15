/-
  Keys that are known; what all laws of views ask last. Views and operations among the arguments; what Apply answers, part by part; the law of all operations. What stays of a view: what may be stays what may be.
-/
import Derived.Test.YtabiknpgakhkkaaGreatVwL
import Derived.Test.YtabiknpgakhkkaaGreatSxW
set_option maxRecDepth 20000
section
namespace Go.Proofs.YtabiknpgakhkkaaGreat.Vw
open Go.RowKit Go.Proofs.YtabiknpgakhkkaaGreat.Sx Go.Proofs.YtabiknpgakhkkaaGreat.Pw
set_option linter.unusedVariables false
set_option linter.unusedSimpArgs false

abbrev frFrom : Nat := 12
def rfromC : Con := pureConB (fun | [.agg cs] => h32 cs | _ => true) fun | [.agg cs] => some (.agg [.int (scalS cs), .int (powS 4 (scalS cs))]) | _ => none
theorem rfrom_ok : ConOK Tryz.prog frFrom rfromC := by
  refine pureConB_ok (fn := Tryz.f12) (by kernel_rfl) rfl rfl fun args v hok h => ?_
  split at h <;> try (cases h; done)
  rename_i cs
  simp only [Option.some.injEq] at h; subst h
  simp only at hok
  have hok' := hok
  simp only [h32, Bool.and_eq_true] at hok'
  have hl := Nat.eq_of_beq_eq_true hok'.1
  have ht : cs.take 32 = cs := List.take_of_length_le (by omega)
  refine ⟨rfl, by simp [SV.sole, soleU hok'.2], fun w => ?_⟩
  exact Fn.xv (fuel := 1000) (told := []) (LibOK.cons rscal_ok (LibOK.cons rpow_ok (LibOK.nil _))) Sp.mixed (r := .agg [.int (scalS (cs.take 32)), .int (powS 4 (scalS (cs.take 32)))]) (ob := bnd (bnd true (Nat.ble (0 + 32) cs.length)) (h32 (cs.take 32))) (obs := []) (by kernel_rfl) (by rw [ht, hok]; simp [bnd_true]; omega) trivial (by rw [ht])


end Go.Proofs.YtabiknpgakhkkaaGreat.Vw
end

section
namespace Go.Proofs.YtabiknpgakhkkaaGreat.Vw
open Go.RowKit Go.Proofs.YtabiknpgakhkkaaGreat.Sx Go.Proofs.YtabiknpgakhkkaaGreat.Pw
set_option linter.unusedVariables false
set_option linter.unusedSimpArgs false

/-! Arguments. -/
def codeAt (i : Nat) : Nat := bif Nat.blt i 32 then 0 else bif Nat.blt i 40 then 1 else bif Nat.beq i 40 then 0 else 2
def viCodes : List Nat := (List.range 73).map codeAt
theorem kinds_code : ∀ {cs : List SC} {ks : List Nat} {j : Nat}, All2 codeOk cs ks → (∀ i k, ks[i]? = some k → k = codeAt (j + i)) → kinds cs j = true
  | [], _, _, h, _ => rfl
  | x :: cs, _, j, h, hk => by
    cases h with
    | @cons _ k _ ks h1 h2 =>
    have h0 := hk 0 k rfl
    rw [Nat.add_zero] at h0
    simp only [kinds, Bool.and_eq_true]
    refine ⟨?_, kinds_code h2 fun i k' hi => by
      have := hk (i + 1) k' (by simpa using hi)
      rw [this]; congr 1; omega⟩
    unfold kindAt
    subst h0
    unfold codeAt at h1
    cases hb : Nat.blt j 32 with
    | true =>
      rw [hb] at h1
      rcases h1 with ⟨_, h⟩ | ⟨h, _⟩ | ⟨h, _⟩
      · exact h
      · simp at h
      · simp at h
    | false =>
      rw [hb] at h1
      simp only [cond_false] at h1 ⊢
      cases hb2 : Nat.blt j 40 with
      | true =>
        rw [hb2] at h1
        rcases h1 with ⟨h, _⟩ | ⟨_, h⟩ | ⟨h, _⟩
        · simp at h
        · exact h
        · simp at h
      | false =>
        rw [hb2] at h1
        simp only [cond_false] at h1 ⊢
        cases hb3 : Nat.beq j 40 with
        | true =>
          rw [hb3] at h1
          rcases h1 with ⟨_, h⟩ | ⟨h, _⟩ | ⟨h, _⟩
          · exact h
          · simp at h
          · simp at h
        | false =>
          rw [hb3] at h1
          rcases h1 with ⟨h, _⟩ | ⟨h, _⟩ | ⟨_, h⟩
          · simp at h
          · simp at h
          · exact h
set_option maxRecDepth 100000 in
theorem arg_view {W : World} {base : Nat} {v : Value} (h : Value.okWide Tryz.prog W .any base tView v) : ∃ (x : Vi) (vs : List Value), v = .agg vs.toArray ∧ ∀ ρ, All2 (SC.R ρ) x.cs vs := by
  have hts : ∃ ts, Tryz.prog.cellTypes Tryz.prog.depth tView = some ts ∧ ts.map (cellCode Tryz.prog) = viCodes.map some := ⟨(List.replicate 32 3 ++ (List.replicate 8 4 ++ (3 :: List.replicate 32 5))), by kernel_rfl, by kernel_rfl⟩
  obtain ⟨ts, h1, h2⟩ := hts
  obtain ⟨sc, vs, rfl, h3, h4⟩ := arg_cells (ks := viCodes) (by kernel_rfl) h1 (by kernel_rfl) h2 h
  have hv : isVi sc = true := by
    unfold isVi
    have hl : sc.length = 73 := h4.length
    rw [hl]
    refine kinds_code h4 fun i k hk => ?_
    unfold viCodes at hk
    rw [List.getElem?_map] at hk
    cases hr : (List.range 73)[i]? with
    | none => rw [hr] at hk; simp at hk
    | some m =>
      rw [hr] at hk
      simp only [Option.map_some, Option.some.injEq] at hk
      obtain ⟨hm, hm2⟩ := List.getElem?_eq_some_iff.1 hr
      simp at hm2
      subst hm2
      rw [Nat.zero_add]; exact hk.symm
  exact ⟨Vi.of sc, vs, rfl, fun ρ => by rw [← Vi.of_cs hv]; exact h3 ρ⟩
theorem rb_ok {n : Nat} {cs : List SC} {ty : TypeId} (h : cs.all SC.isInt = true) : RBok (rbO 0 n cs ty) := by
  refine ⟨rfl, rfl, ?_⟩
  show cs.all SC.sole = true
  rw [List.all_eq_true] at h ⊢
  intro x hx
  have := h x hx
  cases x <;> first | rfl | (simp [SC.isInt] at this; done)
theorem rb_ops {n : Nat} {cs : List SC} {ty : TypeId} (hl : cs.length = n * 5) (h : cs.all SC.isInt = true) : okOps (rbO 0 n cs ty) = true := by
  unfold okOps
  show (Nat.ble (0 + n * 5) cs.length && ((cs.drop 0).take (n * 5)).all SC.isInt) = true
  rw [Bool.and_eq_true, Nat.ble_eq]
  refine ⟨by omega, ?_⟩
  rw [List.drop_zero, ← hl, List.take_length]; exact h

/-! What Apply answers, part by part. -/
structure AQ where
  v : Vi
  a : Nat → Bool
  g : Nat → Bool
  e : Int
def AQ.sv (q : AQ) : SV := resT q.v q.a q.g q.e
def bad (e : Int) : AQ := ⟨zeroV, no8, no8, e⟩
def endQ (q : Int × Chg') : AQ := bif q.1 == 0 then (bif decide (admS q.2.v < q.2.v.k) then bad 7 else ⟨q.2.v, q.2.ad, q.2.gn, 0⟩) else bad q.1
def applyQ (v : Vi) (f : Int) (l : List Ope) : AQ := bif !isVS v then bad 1 else bif decide ((l.length : Int) > 4) then bad 1 else bif l.any (fun o => !opOk o) then bad 1 else
  bif !memI v f then bad 6 else endQ (runL l (startC v f))
theorem applyQ_sv (v : Vi) (f : Int) (l : List Ope) : (applyQ v f l).sv = applyR v f l := by
  unfold applyQ applyR
  cases isVS v
  · rfl
  · cases decide ((l.length : Int) > 4)
    · cases l.any (fun o => !opOk o)
      · cases memI v f
        · rfl
        · simp only [Bool.not_true, cond_false]
          unfold endQ endR
          cases (runL l (startC v f)).1 == 0
          · rfl
          · cases decide (admS (runL l (startC v f)).2.v < (runL l (startC v f)).2.v.k) <;> rfl
      · rfl
    · rfl
def appG (Q : Vi → Int → List Ope → AQ) : Con := sVal [none, none, some 5] fun ps rs => match ps, rs with | [.agg cs, .c (.int f)], [r] => some (isVi cs && okOps r, (Q (Vi.of cs) f (opsL r)).sv) | _, _ => none
def rappG (Q : Vi → Int → List Ope → AQ) : Con := sVal [none, none, some 5] fun ps rs => match ps, rs with | [.agg cs, .c (.int f)], [r] => some (isVi cs && (okOps r && Nat.ble r.n 1000000), (Q (Vi.of cs) f (opsL r)).sv) | _, _ => none
theorem appG_ok {Q : Vi → Int → List Ope → AQ} (hQ : Q = applyQ) : ConOK Tryz.prog fApp (appG Q) := by
  subst hQ
  refine sVal_ok (fn := Tryz.f21) (by kernel_rfl) rfl rfl fun ps rs v h hps hrs => ?_
  split at h <;> try (cases h; done)
  rename_i cs f r
  simp only [Option.some.injEq, Prod.mk.injEq, Bool.and_eq_true] at h
  obtain ⟨⟨hv, ho⟩, rfl⟩ := h
  refine ⟨rfl, fun w => ?_⟩
  rw [applyQ_sv]
  have e := Vi.of_cs hv
  generalize Vi.of cs = t at e
  subst e
  exact apply_fn t f r (hrs r (by simp)) ho w
theorem rappG_ok {Q : Vi → Int → List Ope → AQ} (hQ : Q = applyQ) : ConOK Tryz.prog frApp (rappG Q) := by
  subst hQ
  refine sVal_ok (fn := Tryz.f19) (by kernel_rfl) rfl rfl fun ps rs v h hps hrs => ?_
  split at h <;> try (cases h; done)
  rename_i cs f r
  simp only [Option.some.injEq, Prod.mk.injEq, Bool.and_eq_true, Nat.ble_eq] at h
  obtain ⟨⟨hv, ho, hn⟩, rfl⟩ := h
  refine ⟨rfl, fun w => ?_⟩
  rw [applyQ_sv]
  have e := Vi.of_cs hv
  generalize Vi.of cs = t at e
  subst e
  exact rapply_fn t f r (hrs r (by simp)) ho hn w

/-! Two views: are they one? -/
def andN (f : Nat → Bool) (i : Nat) : Nat → Bool
  | 0 => true
  | n + 1 => f i && andN f (i + 1) n
theorem andN_true {f : Nat → Bool} (h : ∀ i, f i = true) : ∀ {n i : Nat}, andN f i n = true
  | 0, _ => rfl
  | n + 1, i => by unfold andN; rw [h i, andN_true h]; rfl
def eqLf (t u : Tr) (i : Nat) : Bool := (t.sg i == u.sg i) && ((t.sl i == u.sl i) && true)
def eqTr (t u : Tr) : Bool := andN (eqLf t u) 0 8 && (andN (fun i => t.nd i == u.nd i) 0 15 && true)
def eqB8 (a b : Nat → Bool) : Bool := andN (fun i => a i == b i) 0 8
def eqVi (u v : Vi) : Bool := (u.ep == v.ep) && (eqTr u.t v.t && (eqB8 u.ad v.ad && ((u.k == v.k) && (andN (fun i => u.ch i == v.ch i) 0 32 && true))))
theorem eqB8_self (a : Nat → Bool) : eqB8 a a = true := andN_true fun i => by simp
theorem eqVi_self (v : Vi) : eqVi v v = true := by
  unfold eqVi eqTr
  rw [eqB8_self, andN_true (f := eqLf v.t v.t) fun i => by unfold eqLf; simp, andN_true (f := fun i => v.t.nd i == v.t.nd i) fun i => by simp, andN_true (f := fun i => v.ch i == v.ch i) fun i => by simp]
  simp

/-! The law of all operations. -/
def apOb (r : RB) : Bool := (r.b.cells.all SC.sole && true) && okOps r
def rapOb (r : RB) : Bool := (r.b.cells.all SC.sole && true) && (okOps r && Nat.ble r.n 1000000)
theorem apOb_eq {r : RB} (h : RBok r) (ho : okOps r = true) : apOb r = true := by unfold apOb; rw [h.2.2, ho]; rfl
theorem rapOb_eq {r : RB} (h : RBok r) (ho : okOps r = true) (hn : r.n ≤ 1000000) : rapOb r = true := by unfold rapOb; rw [h.2.2, ho, show Nat.ble r.n 1000000 = true by rw [Nat.ble_eq]; exact hn]; rfl

end Go.Proofs.YtabiknpgakhkkaaGreat.Vw
end

section
namespace Go.Proofs.YtabiknpgakhkkaaGreat.Vw
open Go.RowKit Go.Proofs.YtabiknpgakhkkaaGreat.Sx Go.Proofs.YtabiknpgakhkkaaGreat.Pw
set_option linter.unusedVariables false
set_option linter.unusedSimpArgs false

theorem leaves_of {t : Tr} : ∀ {n : Nat}, (∀ i, i < n → leafOk (t.sg i) (t.sl i) = true) → leaves t n = true
  | 0, _ => rfl
  | n + 1, h => by
    simp only [leaves, Bool.and_eq_true]
    exact ⟨leaves_of fun i hi => h i (by omega), h n (by omega)⟩
theorem nodes_of {t : Tr} : ∀ {n : Nat}, (∀ i, i < n → nodeOk i (t.nd i) = true) → nodes t n = true
  | 0, _ => rfl
  | n + 1, h => by
    simp only [nodes, Bool.and_eq_true]
    exact ⟨nodes_of fun i hi => h i (by omega), h n (by omega)⟩
theorem nodeOk_0 (i : Nat) : nodeOk i 0 = true := by unfold nodeOk isKeyS; simp
theorem isTS_put {t : Tr} (h : isTS t = true) (i : Nat) {s p : Int} (hl : leafOk s p = true) : isTS (putT t i s p) = true := by
  unfold isTS at h ⊢
  simp only [Bool.and_eq_true] at h ⊢
  refine ⟨leaves_of fun j hj => ?_, nodes_of fun j hj => ?_⟩
  · unfold putT
    by_cases hji : j = i
    · subst hji; simpa using hl
    · simp only [beq_off hji, cond_false]; exact leaves_le h.1 hj
  · unfold putT
    show nodeOk j (bif Nat.beq j (i / 2 * 4 + 1) || (Nat.beq j (i / 4 * 8 + 3) || Nat.beq j 7) then 0 else t.nd j) = true
    cases Nat.beq j (i / 2 * 4 + 1) || (Nat.beq j (i / 4 * 8 + 3) || Nat.beq j 7) with
    | true => exact nodeOk_0 j
    | false => exact nodes_le h.2 hj
theorem leafOk_00 : leafOk 0 0 = true := rfl
/-- What holds of a view while operations are done. -/
structure Ok (v : Vi) (ep : Int) (ch : Nat → UInt8) : Prop where
  t : isTS v.t = true
  inv : Inv v
  k : 1 ≤ v.k
  ep : v.ep = ep
  ch : v.ch = ch
theorem op_ok {c : Chg'} {o : Ope} {ep : Int} {ch : Nat → UInt8} (h : Ok c.v ep ch) (h0 : (opR c o).1 = 0) : Ok (opR c o).2.v ep ch ∧ (opR c o).2.fr = c.fr := by
  unfold opR at h0 ⊢
  cases h1 : o.kind == 1 with
  | true =>
    rw [h1] at h0
    simp only [cond_true] at h0 ⊢
    rcases add_both c o.sg o.sl with ⟨e, hne, hA, _⟩ | ⟨j, hj, hm, hs, hp, hA, _⟩
    · rw [hA] at h0; exact absurd h0 hne
    · rw [hA]
      exact ⟨⟨isTS_put h.t j (leafOk_yes hs hp), add_Inv h.inv hs, h.k, h.ep, h.ch⟩, rfl⟩
  | false =>
    have hO : opR c o = bif o.kind == 2 then remR c o.who else bif o.kind == 3 then admR c o.who true else bif o.kind == 4 then admR c o.who false else limR c o.k := by unfold opR; rw [h1]; rfl
    rw [h1] at h0
    simp only [cond_false] at h0 ⊢
    rw [← hO] at h0 ⊢
    rcases one_both c h.inv o h1 with ⟨e, hne, hA, _⟩ | ⟨j, hj, _, _, hA, _⟩ | ⟨v', _, hI, hA, hB⟩
    · rw [hA] at h0; exact absurd h0 hne
    · rw [hA]
      exact ⟨⟨isTS_put h.t j leafOk_00, rem_Inv h.inv, h.k, h.ep, h.ch⟩, rfl⟩
    · rw [hA]
      refine ⟨?_, rfl⟩
      rw [hO] at hA
      cases h2 : o.kind == 2 with
      | true =>
        rw [h2] at hA
        simp only [cond_true] at hA
        unfold remR at hA
        cases hm : memI c.v o.who with
        | false => rw [hm] at hA; simp at hA
        | true =>
          rw [hm] at hA
          cases hf : o.who == c.fr with
          | true => rw [hf] at hA; simp at hA
          | false =>
            rw [hf] at hA
            simp only [Bool.not_true, cond_false, Prod.mk.injEq, true_and] at hA
            have hv : v' = (remN c o.who.toNat).v := by rw [hA]
            subst hv
            exact ⟨isTS_put h.t _ leafOk_00, hI, h.k, h.ep, h.ch⟩
      | false =>
      rw [h2] at hA
      simp only [cond_false] at hA
      have adm : ∀ b, admR c o.who b = (0, { c with v := v' }) → Ok v' ep ch := fun b hA => by
        unfold admR at hA
        cases hm : memI c.v o.who with
        | false => rw [hm] at hA; simp at hA
        | true =>
          rw [hm] at hA
          cases hf : c.v.ad o.who.toNat == b with
          | true => rw [hf] at hA; simp at hA
          | false =>
            rw [hf] at hA
            simp only [Bool.not_true, cond_false, Prod.mk.injEq, true_and] at hA
            have hv : v' = (admN c o.who.toNat b).v := by rw [hA]
            subst hv
            exact ⟨h.t, hI, h.k, h.ep, h.ch⟩
      cases h3 : o.kind == 3 with
      | true => rw [h3] at hA; exact adm true hA
      | false =>
      rw [h3] at hA
      simp only [cond_false] at hA
      cases h4 : o.kind == 4 with
      | true => rw [h4] at hA; exact adm false hA
      | false =>
      rw [h4] at hA
      simp only [cond_false] at hA
      unfold limR at hA
      cases h5 : decide (o.k < 1) with
      | true => rw [h5] at hA; simp at hA
      | false =>
        rw [h5] at hA
        cases h6 : decide (o.k > 8) with
        | true => rw [h6] at hA; simp at hA
        | false =>
          rw [h6] at hA
          simp only [cond_false, Prod.mk.injEq, true_and] at hA
          have hv : v' = (limN c o.k).v := by rw [hA]
          subst hv
          rw [decide_eq_false_iff_not] at h5
          exact ⟨h.t, hI, by show 1 ≤ o.k; omega, h.ep, h.ch⟩
theorem run_ok : ∀ (l : List Ope) {c : Chg'} {ep : Int} {ch : Nat → UInt8}, Ok c.v ep ch → (runL l c).1 = 0 → Ok (runL l c).2.v ep ch
  | [], c, ep, ch, h, _ => h
  | o :: l, c, ep, ch, h, h0 => by
    unfold runL at h0 ⊢
    cases hE : (opR c o).1 == 0 with
    | true =>
      rw [hE] at h0
      simp only [cond_true] at h0 ⊢
      exact run_ok l (op_ok h (by simpa using hE)).1 h0
    | false =>
      rw [hE] at h0
      simp only [cond_false] at h0
      rw [h0] at hE; cases hE
theorem isVS_ok {v : Vi} (h : isVS v = true) : Ok v v.ep v.ch ∧ 0 ≤ v.ep ∧ v.ep ≤ 1099511627776 := by
  have hI := isVS_Inv h
  unfold isVS e0 e1' k1 at h
  simp only [Bool.and_eq_true, decide_eq_true_eq] at h
  exact ⟨⟨h.2.2.1, hI, h.2.2.2.1, rfl, rfl⟩, h.1, h.2.1⟩
theorem isVS_of_ok {v : Vi} {ep : Int} {ch : Nat → UInt8} (h : Ok v ep ch) (h0 : 0 ≤ ep) (h1 : ep ≤ 1099511627776) (hk : v.k ≤ admS v) : isVS v = true := by
  unfold isVS e0 e1' k1
  rw [h.ep, h.t, decide_eq_true h0, decide_eq_true h1, decide_eq_true h.k, decide_eq_true hk]; rfl
/-- What an answer is that is no error. -/
theorem applyQ_ok {v : Vi} {f : Int} {l : List Ope} (h : (applyQ v f l).e = 0) : isVS v = true ∧ (l.length : Int) ≤ 4 ∧ l.any (fun o => !opOk o) = false ∧ memI v f = true ∧ (runL l (startC v f)).1 = 0 ∧ admS (runL l (startC v f)).2.v ≥ (runL l (startC v f)).2.v.k ∧
    applyQ v f l = ⟨(runL l (startC v f)).2.v, (runL l (startC v f)).2.ad, (runL l (startC v f)).2.gn, 0⟩ := by
  have he := h
  unfold applyQ at h ⊢
  cases h1 : isVS v with
  | false => rw [h1] at h; simp [bad] at h
  | true =>
  rw [h1] at h
  cases h2 : decide ((l.length : Int) > 4) with
  | true => rw [h2] at h; simp [bad] at h
  | false =>
  rw [h2] at h
  cases h3 : l.any (fun o => !opOk o) with
  | true => rw [h3] at h; simp [bad] at h
  | false =>
  rw [h3] at h
  cases h4 : memI v f with
  | false => rw [h4] at h; simp [bad] at h
  | true =>
  rw [h4] at h
  simp only [Bool.not_true, cond_false] at h ⊢
  unfold endQ at h ⊢
  cases h5 : (runL l (startC v f)).1 == 0 with
  | false => rw [h5] at h; simp only [cond_false, bad] at h; rw [h] at h5; cases h5
  | true =>
  rw [h5] at h
  simp only [cond_true] at h ⊢
  cases h6 : decide (admS (runL l (startC v f)).2.v < (runL l (startC v f)).2.v.k) with
  | true => rw [h6] at h; simp [bad] at h
  | false =>
    rw [decide_eq_false_iff_not] at h2 h6
    exact ⟨trivial, by omega, trivial, trivial, by simpa using h5, by omega, rfl⟩
theorem applyQ_good {v : Vi} {f : Int} {l : List Ope} (h : (applyQ v f l).e = 0) : isVS (applyQ v f l).v = true ∧ (applyQ v f l).v.ep = v.ep ∧ (applyQ v f l).v.ch = v.ch := by
  obtain ⟨h1, _, _, _, h5, h6, h7⟩ := applyQ_ok h
  obtain ⟨g1, g2, g3⟩ := isVS_ok h1
  have := run_ok l (c := startC v f) g1 h5
  rw [h7]
  exact ⟨isVS_of_ok this g2 g3 h6, this.ep, this.ch⟩
theorem applyQ_bad {v : Vi} {f : Int} {l : List Ope} (h : (applyQ v f l).e ≠ 0) : (applyQ v f l).v = zeroV := by
  unfold applyQ at h ⊢
  cases h1 : isVS v with
  | false => rfl
  | true =>
  rw [h1] at h
  cases h2 : decide ((l.length : Int) > 4) with
  | true => rfl
  | false =>
  rw [h2] at h
  cases h3 : l.any (fun o => !opOk o) with
  | true => rfl
  | false =>
  rw [h3] at h
  cases h4 : memI v f with
  | false => rfl
  | true =>
  rw [h4] at h
  simp only [Bool.not_true, cond_false] at h ⊢
  unfold endQ at h ⊢
  cases h5 : (runL l (startC v f)).1 == 0 with
  | false => rfl
  | true =>
  rw [h5] at h
  simp only [cond_true] at h ⊢
  cases h6 : decide (admS (runL l (startC v f)).2.v < (runL l (startC v f)).2.v.k) with
  | true => rfl
  | false => rw [h6] at h; exact absurd rfl h

/-! The law of what stays. -/

end Go.Proofs.YtabiknpgakhkkaaGreat.Vw
end

