/-
  The executor's stores; its way through a region, in the order of the text or in any order that the region's edges allow.
-/
import Derived.Test.YtkpdkfeklecehaaSxE
namespace Go.Proofs.Ytkpdkfeklecehaa.Sx
open Go.RowKit
set_option linter.unusedVariables false
set_option linter.unusedSimpArgs false

section store
variable {P : Program}

theorem storeCells_run (g : Nat) (t : TypeId) (fr : Nat × Nat) (n : Nat) (hfr : ∀ j, j < n → (fr.1 ≤ j && j < fr.2) = false) : ∀ (vs : List Value) (off i : Nat) (cur : List Value) (w : World), w.heap[g]? = some (.cells cur.toArray t fr) → cur.length = n → off + i + vs.length ≤ n → (∀ v ∈ vs, v.oneCell' = true) →
    ∃ w', (storeCells ⟨g, off, none⟩ vs i).run P w = .ok () w' ∧ w'.heap[g]? = some (.cells (setRangeV cur (off + i) vs).toArray t fr) ∧ (∀ k, k ≠ g → w'.heap[k]? = w.heap[k]?) ∧ w'.heap.size = w.heap.size ∧ w'.os = w.os ∧ w'.tape = w.tape ∧ w'.output = w.output
  | [], off, i, cur, w, hg, hl, hle, _ => ⟨w, rfl, hg, fun _ _ => rfl, rfl, rfl, rfl, rfl⟩
  | v :: rest, off, i, cur, w, hg, hl, hle, h1 => by
    have hi : off + i < cur.length := by simp at hle; omega
    have hadd : (⟨g, off, none⟩ : Addr).add i = ⟨g, off + i, none⟩ := by unfold Addr.add; split <;> simp_all
    have hcell : w.cell? ⟨g, off + i, none⟩ = some cur[off + i] := by rw [cell_of hg]; simp [hi]
    have hfro : w.frozen? ⟨g, off + i, none⟩ = false := by simp only [World.frozen?, hg]; exact hfr _ (by omega)
    have hst : (store ((⟨g, off, none⟩ : Addr).add i) v).run P w = .ok () (w.setRow g (cur.toArray.setIfInBounds (off + i) v)) := by
      rw [hadd, run_store P w _ v _ (h1 v (by simp)), hcell]
      simp [hfro, setCell_eq_setRow w g (off + i) cur.toArray t fr v hg]
    have hheap : (w.setRow g (cur.toArray.setIfInBounds (off + i) v)).heap[g]? = some (.cells (cur.set (off + i) v).toArray t fr) := by
      rw [setRow_heap w g _ _ t fr hg]; simp
    obtain ⟨w', hr, hh, ho, hs, h2⟩ := storeCells_run g t fr n hfr rest off (i + 1) (cur.set (off + i) v) _ hheap (by simpa using hl) (by simp at hle; omega) (fun x hx => h1 x (by simp [hx]))
    refine ⟨w', ?_, hh, fun k hk => (ho k hk).trans (setRow_other w g k _ hk), hs.trans (by simp), h2⟩
    simp only [storeCells, Sem.run_bind, hst, Result.andThen_ok, hr]
end store

/-- A table with a block stored into. -/
def storeS (P : Program) (T : Tab) (t : TypeId) (x y : SV) : Option (Bool × Tab) :=
  match x, y.cells with
  | .c (.ptr k off), some xs => match T.blk k, sizeS P t with
    | some b, some n => some (b.own && (Nat.beq xs.length n && Nat.ble (off + xs.length) b.cells.length), set T k (some { b with cells := setRange b.cells off xs }))
    | _, _ => none
  | _, _ => none

theorem setRangeV_append (vs rest : List Value) : ∀ (xs : List Value) (off : Nat), off + xs.length ≤ vs.length → setRangeV (vs ++ rest) off xs = setRangeV vs off xs ++ rest := by
  intro xs
  induction xs generalizing vs with
  | nil => intro off _; rfl
  | cons x xs ih =>
    intro off h
    simp only [setRangeV]
    rw [List.set_append_left _ _ (by simp at h; omega)]
    exact ih _ _ (by simp at h ⊢; omega)

theorem Rel.store {P : Program} {X : Cx} {ρ : Ren} {T T' : Tab} {w : World} {t : TypeId} {x y : SV} {u v : Value} (h : Rel X ρ T w) (hs : storeS P T t x y = some (true, T')) (hx : x.R ρ u) (hy : y.R ρ v) :
    ∃ w', (Instr.storeAt t u v).run P w = .ok () w' ∧ Rel X ρ T' w' := by
  unfold storeS at hs
  split at hs <;> try (cases hs; done)
  rename_i k off xs hxs
  split at hs <;> try (cases hs; done)
  rename_i b n hb hn
  simp only [Option.some.injEq, Prod.mk.injEq, Bool.and_eq_true, Nat.ble_eq] at hs
  obtain ⟨⟨hown, hsz, hle⟩, rfl⟩ := hs
  have hsz := Nat.eq_of_beq_eq_true hsz
  obtain ⟨l, hk, rfl⟩ := hx
  obtain ⟨ha, h1⟩ := SV.cells_R hxs hy
  have hlen : v.cells.size = xs.length := by have := ha.length; simpa using this.symm
  obtain ⟨pre, vs, rest, fr, hh, hc, htot, htail, hpre, hfr0, _⟩ := h.at hb hk
  obtain ⟨ho0, rfl⟩ := hfr0 hown
  obtain rfl : pre = [] := List.eq_nil_of_length_eq_zero (hpre.trans ho0)
  rw [List.nil_append] at hh
  have hcl := hc.length
  obtain ⟨w', hr, hh', ho, hsize, hos, htape, hout⟩ := storeCells_run (P := P) l.blk b.ty (0, 0) l.tot (fun j _ => by simp) v.cells.toList off 0 (vs ++ rest) w hh htot (by rw [← htot]; simp; omega) h1
  refine ⟨w', ?_, ?_⟩
  · have hne : ¬ (v.cells.size ≠ n) := by omega
    simp only [ho0, Nat.zero_add]
    simp only [Instr.storeAt, Instr.sureAddr, Sem.run_bind, Sem.run_pure, Result.andThen_ok, storeVar, sizeS_run hn, if_neg hne, hr]
  · obtain ⟨hsep1, hsep2⟩ := h.sep k b l hb hown hk
    have hother : ∀ k' b' l', k' ≠ k → T.blk k' = some b' → ρ k' = some (some l') → w'.heap[l'.blk]? = w.heap[l'.blk]? := fun k' b' l' hne hb' hl' =>
      ho _ (hsep2 k' b' l' hne hb' hl')
    have same : ∀ {k1 : Nat} {b1 : Blk}, Tab.blk (set T k (some { b with cells := setRange b.cells off xs })) k1 = some b1 → ∃ b0, T.blk k1 = some b0 ∧ b0.own = b1.own := fun {k1 b1} hk1 => by
      by_cases hkk : k = k1
      · subst hkk; rw [blk_set_same] at hk1; cases hk1; exact ⟨b, hb, rfl⟩
      · rw [blk_set_ne _ _ hkk] at hk1; exact ⟨b1, hk1, rfl⟩
    refine ⟨hos.trans h.os, htape.trans h.tape, hout.trans h.output, by rw [hsize]; exact h.size, by rw [hsize]; exact h.size0, ?_, ?_, ?_, fun k1 l1 hl1 hlit => ?_, h.rows⟩
    · intro b' hb' hm
      rw [ho b' (fun e => by rcases hsep1 with h1 | h1; omega; subst e; exact hm h1)]
      exact h.old b' hb' hm
    · intro k' b' hk'
      by_cases hkk : k = k'
      · subst hkk
        rw [blk_set_same] at hk'; cases hk'
        refine ⟨some l, hk, [], setRangeV vs off v.cells.toList, rest, (0, 0), ?_, setRange_All2 ha off hc, ?_, htail, ho0.symm, fun _ => ⟨ho0, rfl⟩, fun h => by simp only at h; rw [hown] at h; cases h⟩
        · rw [hh', Nat.add_zero, setRangeV_append _ _ _ _ (by simp; omega)]; rfl
        · rw [List.length_append, setRangeV_length, ← List.length_append, htot]
      · rw [blk_set_ne _ _ hkk] at hk'
        obtain ⟨x, hx, hbR⟩ := h.blk k' b' hk'
        refine ⟨x, hx, hbR.keep (Le.refl _) fun l' hl' => ?_⟩
        subst hl'
        exact hother k' b' l' (Ne.symm hkk) hk' hx
    · intro k1 b1 l1 hk1 ho1 hl1
      obtain ⟨b0, hb0, ho0⟩ := same hk1
      obtain ⟨g1, g2⟩ := h.sep k1 b0 l1 hb0 (ho0.trans ho1) hl1
      exact ⟨g1, fun k' b' l' hne hk' hl' => by obtain ⟨b2, hb2, _⟩ := same hk'; exact g2 k' b2 l' hne hb2 hl'⟩
    · obtain ⟨g1, g2, g3⟩ := h.lit k1 l1 hl1 hlit
      exact ⟨g1, by rw [hsize]; exact g2, fun k' b' l' hk' ho' hl' => by obtain ⟨b2, hb2, ho2⟩ := same hk'; exact g3 k' b2 l' hb2 (ho2.trans ho') hl'⟩

/-! append. -/
def isSrc (P : Program) (u : TypeId) : Bool := match P.underlying u with | some (.slice _) => true | some .string => true | _ => false

/-- Bytes of an element; its cells; a zero one's. -/
def elemS (P : Program) (t : TypeId) : Option (TypeId × Nat × Nat × List SC) :=
  match P.underlying t with
  | some (.slice e) => match P.info? e, sizeS P e, zeroS P e with
    | some i, some m, some z => some (e, m, i.bytes, z)
    | _, _, _ => none
  | _ => none

def appS (P : Program) (T : Tab) (kb : Nat) (t u : TypeId) (s x : SV) : Option Turned :=
  match elemS P t with
  | some (e, m, by_, z) => match s with
    | .c .nils => some ⟨isSrc P u && (Nat.beq z.length m && (Nat.blt 0 m && (srcOk T m x && (Nat.ble (srcN x) maxLen && Nat.ble (srcN x * by_) 140737488355328)))), [], .c (.slc kb 0 m (srcN x) none), (kb, some ⟨srcC T x, e, true, true⟩) :: T⟩
    | .c (.slc k off esz len _) => match T.blk k with
      | some b => some ⟨isSrc P u && (Nat.beq z.length m && (Nat.blt 0 m && (srcOk T m x && (Nat.ble (len + srcN x) maxLen && (Nat.ble ((len + srcN x) * by_) 140737488355328 && (b.own && (Nat.beq off 0 && (Nat.beq esz m && (Nat.beq b.ty e && Nat.ble (len * m) b.cells.length))))))))), [],
          .c (.slc kb 0 m (len + srcN x) none), (kb, some ⟨b.cells.take (len * m) ++ srcC T x, e, true, true⟩) :: set T k none⟩
      | none => none
    | _ => none
  | none => none

def isI64 (P : Program) (u : TypeId) : Bool := match P.underlying u with | some (.int .i64) => true | _ => false
/-- So many zero elements behind nil. -/
def appZ (P : Program) (T : Tab) (kb : Nat) (t u : TypeId) (s x : SV) : Option Turned :=
  match elemS P t, s, x with
  | some (e, m, by_, z), .c .nils, .c (.int n) => some ⟨isI64 P u && (Nat.beq z.length m && (Nat.blt 0 m && (decide (0 < n) && decide (n * by_ ≤ 140737488355328) && decide (n ≤ 9223372036854775807)))), [], .c (.slc kb 0 m n.toNat none), (kb, some ⟨zerosS z n.toNat m, e, true, true⟩) :: T⟩
  | _, _, _ => none
/-- An operation that turns something. -/
def turnOp (P : Program) (C : List (Nat × Con)) (op : Op) (ev : Operand → SV) (T : Tab) (kb : Nat) : Option Turned :=
  match op with
  | .store t x y => match storeS P T t (ev x) (ev y) with
    | some (o, T') => some ⟨o, [], .und, T'⟩
    | none => none
  | .call c => match c.callee with
    | .builtin .append => match c.argTypes.toList, c.args.toList with
      | [t, u], [s, x] => match isI64 P u with
        | false => appS P T kb t u (ev s) (ev x)
        | true => appZ P T kb t u (ev s) (ev x)
      | _, _ => none
    | .value f => match ev f with
      | .c (.fn f caps) => match get C f with
        | some con => match con.run (c.args.toList.map ev ++ capArgs caps) T kb with
          | some (.turn r) => some r
          | _ => none
        | none => none
      | _ => none
    | _ => none
  | _ => none

/-- Whether an operation may turn something. -/
def isTurn (C : List (Nat × Con)) : Op → Bool
  | .store .. => true
  | .call c => match c.callee with
    | .builtin .append => true
    | .value (.func f) => match get C f with
      | some con => con.turns
      | none => false
    | _ => false
  | _ => false

def effOf (P : Program) (C : List (Nat × Con)) (op : Op) (ev : Operand → SV) (T : Tab) (kb : Nat) : Option Eff :=
  match isTurn C op with
  | true => match turnOp P C op ev T kb with
    | some r => some (.turn r)
    | none => none
  | false => match pop P op ev with
    | some (o, v) => some (.new ⟨o, [], v, []⟩)
    | none => match mop P C op ev T kb with
      | some r => some (.new r)
      | none => none

theorem eff_new {P : Program} {C : List (Nat × Con)} (hC : LibOK P C) {ρ : Ren} {ev : Operand → SV} {val : Operand → Value} {X : Cx} {T : Tab} {w : World} {kb : Nat} {o : Oper} (hv : ∀ x, (ev x).R ρ (val x)) (hrel : Rel X ρ T w) (hf : fresh ρ kb) {r : Res}
    (h : effOf P C o.op ev T kb = some (.new r)) (hob : r.ob = true) (hobs : All r.obs) : Does P val o w fun v w' => ∃ ρ', r.v.R ρ' v ∧ New ρ ρ' r.E w w' := by
  unfold effOf at h
  split at h
  · split at h <;> cases h
  · split at h
    · rename_i ob v hp
      simp only [Option.some.injEq, Eff.new.injEq] at h; subst h
      simp only at hob; subst hob
      obtain ⟨u, hu, hr⟩ := pop_run hv hp w
      exact .inl ⟨u, w, hu, ρ, hr, New.refl _ _⟩
    · split at h <;> try (cases h; done)
      rename_i r' hm
      simp only [Option.some.injEq, Eff.new.injEq] at h; subst h
      exact mop_does hC hv hrel hf hm hob hobs

theorem isSrc_spec {P : Program} {u : TypeId} (h : isSrc P u = true) : (∃ e, P.underlying u = some (.slice e)) ∨ P.underlying u = some .string := by
  unfold isSrc at h
  split at h
  · exact .inl ⟨_, by assumption⟩
  · exact .inr (by assumption)
  · cases h

theorem elemS_spec {P : Program} {t e : TypeId} {m by_ : Nat} {z : List SC} (h : elemS P t = some (e, m, by_, z)) : P.underlying t = some (.slice e) ∧ (∃ i, P.info? e = some i ∧ i.bytes = by_) ∧ sizeS P e = some m ∧ zeroS P e = some z := by
  unfold elemS at h
  split at h <;> try (cases h; done)
  rename_i e' hu
  split at h <;> try (cases h; done)
  rename_i i m' z' hi hm hz
  simp only [Option.some.injEq, Prod.mk.injEq] at h
  obtain ⟨rfl, rfl, rfl, rfl⟩ := h
  exact ⟨hu, ⟨i, hi, rfl⟩, hm, hz⟩

/-- What append does where there is room; where there is none. -/
theorem append_room {P : Program} {w w' : World} {t u ty e : TypeId} {m n sLen sCap : Nat} {base : Option Addr} {x : Value} {news : List Value} (ht : P.underlying t = some (.slice e)) (hu : isSrc P u = true) (hm : sizeS P e = some m)
    (hl : ∀ w', (Builtin.lenOf x).run P w' = .ok n w') (hf : (Builtin.firstCells m n x).run P w = .ok news.toArray w) (hroom : sLen + n ≤ sCap)
    (hst : (match base with | some a => storeCells (a.add (sLen * m)) news | none => pure ()).run P w = .ok () w') :
    (Builtin.append_ #[t, u] ty #[.slice base sLen sCap, x]).run P w = .ok (.slice base (sLen + n) sCap) w' := by
  cases base with
  | none =>
    simp only [Sem.run_pure] at hst
    simp only [Result.ok.injEq, true_and] at hst
    subst hst
    rcases isSrc_spec hu with ⟨e', hu⟩ | hu <;> simp [Builtin.append_, run_underlying ht, run_underlying hu, sizeS_run hm, hl, hroom, hf]
  | some a =>
    simp only at hst
    rcases isSrc_spec hu with ⟨e', hu⟩ | hu <;> simp [Builtin.append_, run_underlying ht, run_underlying hu, sizeS_run hm, hl, hroom, hf, hst]

theorem append_grow {P : Program} {w : World} {t u ty e : TypeId} {m n sLen sCap : Nat} {base : Option Addr} {x zv : Value} {olds news : List Value} {i : TypeInfo} (ht : P.underlying t = some (.slice e)) (hu : isSrc P u = true) (hi : P.info? e = some i) (hm : sizeS P e = some m) (hz : ∀ w', (zeroValue e).run P w' = .ok zv w')
    (hl : ∀ w', (Builtin.lenOf x).run P w' = .ok n w') (hf : (Builtin.firstCells m n x).run P w.drew = .ok news.toArray w.drew) (hfo : (Builtin.firstCells m sLen (.slice base sLen sCap)).run P w.drew = .ok olds.toArray w.drew)
    (hg : sCap < sLen + n) (h63 : sLen + n ≤ maxLen) (hfit : Builtin.nextslicecap (sLen + n) sCap * i.bytes ≤ 281474976710656) :
    (Builtin.append_ #[t, u] ty #[.slice base sLen sCap, x]).run P w =
      .ok (.slice (some ⟨w.heap.size, 0, none⟩) (sLen + n) (grownCap w (sLen + n) sCap e))
        (w.drew.alloc (.cells (olds ++ (news ++ (Builtin.zeroCells zv.cells (grownCap w (sLen + n) sCap e - (sLen + n))).toList)).toArray e)) := by
  have hn : ¬ (sLen + n ≤ sCap) := by omega
  have h63' : ¬ (9223372036854775807 < ((sLen : Int) + (n : Int))) := by simp only [maxLen] at h63; omega
  have h48' : ¬ (281474976710656 < Builtin.nextslicecap (sLen + n) sCap * i.bytes) := by omega
  rcases isSrc_spec hu with ⟨e', hu⟩ | hu
  · simp [Builtin.append_, run_underlying ht, run_underlying hu, sizeS_run hm, typeInfo, hi, hl, hn, h63', h48', Question.forced, hf, hfo, hz, newRow, grownCap]
    congr 2
    apply Array.ext'
    simp
  · simp [Builtin.append_, run_underlying ht, run_underlying hu, sizeS_run hm, typeInfo, hi, hl, hn, h63', h48', Question.forced, hf, hfo, hz, newRow, grownCap]
    congr 2
    apply Array.ext'
    simp

/-- A new key for what an old one stood for, which is dead from then on. -/
theorem Rel.rekey {X : Cx} {ρ ρ' : Ren} {T : Tab} {w w' : World} {k kb : Nat} {b b' : Blk} {l : Loc} (h : Rel X ρ T w) (hb : T.blk k = some b) (hown : b.own = true) (hl : ρ k = some (some l)) (hkb : ρ kb = none)
    (hρ : ρ' = upd ρ kb (some l)) (hB : b'.R ρ' w' (some l)) (ho : ∀ j, j ≠ l.blk → w'.heap[j]? = w.heap[j]?) (hsize : w'.heap.size = w.heap.size) (hos : w'.os = w.os) (htape : w'.tape = w.tape) (hout : w'.output = w.output) :
    Rel X ρ' ((kb, some b') :: set T k none) w' := by
  subst hρ
  have hle := Le.upd (some l) hkb
  obtain ⟨hsep1, hsep2⟩ := h.sep k b l hb hown hl
  have other : ∀ {j c}, Tab.blk ((kb, some b') :: set T k none) j = some c → (j = kb ∧ c = b') ∨ (j ≠ kb ∧ j ≠ k ∧ T.blk j = some c) := fun {j c} hj => by
    rw [blk_cons] at hj
    by_cases hjk : kb = j
    · rw [if_pos hjk] at hj; cases hj; exact .inl ⟨hjk.symm, rfl⟩
    · rw [if_neg hjk] at hj
      by_cases hjk2 : k = j
      · subst hjk2; rw [blk_set_same] at hj; cases hj
      · rw [blk_set_ne _ _ hjk2] at hj; exact .inr ⟨Ne.symm hjk, Ne.symm hjk2, hj⟩
  refine ⟨hos.trans h.os, htape.trans h.tape, hout.trans h.output, by rw [hsize]; exact h.size, by rw [hsize]; exact h.size0, ?_, ?_, ?_, fun j l1 hl1 hlit => ?_, h.rows⟩
  · intro b1 hb1 hm
    rw [ho b1 (fun e => by rcases hsep1 with h1 | h1; omega; subst e; exact hm h1)]
    exact h.old b1 hb1 hm
  · intro j c hj
    rcases other hj with ⟨rfl, rfl⟩ | ⟨h1, h2, h3⟩
    · exact ⟨some l, upd_same _ _ _, hB⟩
    · obtain ⟨x, hx, hR⟩ := h.blk j c h3
      refine ⟨x, hle _ _ hx, hR.keep hle fun l' hl' => ?_⟩
      subst hl'
      exact ho _ (hsep2 j c l' h2 h3 hx)
  · intro j c l1 hj ho1 hl1
    rcases other hj with ⟨rfl, rfl⟩ | ⟨h1, h2, h3⟩
    · rw [upd_same] at hl1; cases hl1
      refine ⟨hsep1, fun j' c' l' hne hj' hl' => ?_⟩
      rcases other hj' with ⟨rfl, rfl⟩ | ⟨h1', h2', h3'⟩
      · exact absurd rfl hne
      · rw [upd_ne _ _ h1'] at hl'; exact hsep2 _ _ _ h2' h3' hl'
    · rw [upd_ne _ _ h1] at hl1
      obtain ⟨g1, g2⟩ := h.sep j c l1 h3 ho1 hl1
      refine ⟨g1, fun j' c' l' hne hj' hl' => ?_⟩
      rcases other hj' with ⟨rfl, rfl⟩ | ⟨h1', h2', h3'⟩
      · rw [upd_same] at hl'; cases hl'
        exact g2 k b l (Ne.symm h2) hb hl
      · rw [upd_ne _ _ h1'] at hl'; exact g2 _ _ _ hne h3' hl'
  · by_cases hj : j = kb
    · subst hj
      rw [upd_same] at hl1; cases hl1
      exact absurd rfl ((h.lit k l hl hlit).2.2 k b l hb hown hl)
    · rw [upd_ne _ _ hj] at hl1
      obtain ⟨g1, g2, g3⟩ := h.lit j l1 hl1 hlit
      refine ⟨g1, by rw [hsize]; exact g2, fun j' c' l' hj' ho' hl' => ?_⟩
      rcases other hj' with ⟨rfl, rfl⟩ | ⟨h1', h2', h3'⟩
      · rw [upd_same] at hl'; cases hl'; exact g3 k b l hb hown hl
      · rw [upd_ne _ _ h1'] at hl'; exact g3 _ _ _ h3' ho' hl'

theorem RelP.nil {X : Cx} {ρ : Ren} {T : Tab} {w : World} {k : Nat} (h : Rel X ρ T w) : Rel X ρ (set T k none) w :=
  RelP.sub h fun j b hj => by
    by_cases hjk : k = j
    · subst hjk; rw [blk_set_same] at hj; cases hj
    · rwa [blk_set_ne _ _ hjk] at hj

theorem below_drew_alloc (w : World) (o : Obj) : Below w.heap.size w (w.drew.alloc o) :=
  ((Below.refl _ _).drew).alloc (Nat.le_refl _) _

theorem Rel.cons_new {X : Cx} {ρ ρ' : Ren} {T : Tab} {kb : Nat} {b : Blk} {w w' : World} (h : Rel X ρ T w) (hn : New ρ ρ' [(kb, b)] w w') : Rel X ρ' ((kb, some b) :: T) w' := Rel.new h hn

theorem grown_R {ρ : Ren} {P : Program} {w : World} {kb m n cp : Nat} {e : TypeId} {cs : List SC} {all : List Value} {z : Value} (hkb : ρ kb = none) (hc : All2 (SC.R ρ) cs all) (hl : cs.length = n * m) (hcap : n ≤ cp) (hz : z.cells.size = m) :
    ∃ ρ', (SC.slc kb 0 m n none).R ρ' (.slice (some ⟨w.heap.size, 0, none⟩) n cp) ∧ Le ρ ρ' ∧ (∀ k, k ≠ kb → ρ' k = ρ k) ∧ New ρ ρ' [(kb, ⟨cs, e, true, true⟩)] w (w.drew.alloc (.cells (all ++ (Builtin.zeroCells z.cells (cp - n)).toList).toArray e)) := by
  have hsz : (all ++ (Builtin.zeroCells z.cells (cp - n)).toList).length = cp * m := by
    have := hc.length
    have h2 : cp * m = n * m + (cp - n) * m := by rw [← Nat.add_mul]; congr 1; omega
    simp only [List.length_append, Array.length_toList, size_zeroCells, hz]
    omega
  refine ⟨upd ρ kb (some ⟨w.heap.size, cp * m, false, 0⟩), .inr ⟨⟨w.heap.size, cp * m, false, 0⟩, 0, cp, upd_same _ _ _, rfl, hcap, fun _ => ⟨rfl, by simp⟩, fun q hq => by cases hq⟩, Le.upd _ hkb, fun k hk => upd_ne _ _ hk, ?_⟩
  refine New.one hkb (below_drew_alloc _ _) ⟨[], all, (Builtin.zeroCells z.cells (cp - n)).toList, (0, 0), heap_alloc_new w.drew _, forall₂_imp (fun _ _ => SC.R.mono (Le.upd _ hkb)) hc, hsz, fun h => by simp at h, rfl, fun _ => ⟨rfl, rfl⟩, fun h => by simp at h⟩ (fun l hl => by
    cases hl; exact Nat.le_refl _) (fun l hl h => by cases hl; cases h)

theorem setRangeV_eq : ∀ (xs cur : List Value) (off : Nat), off + xs.length ≤ cur.length → setRangeV cur off xs = cur.take off ++ (xs ++ cur.drop (off + xs.length))
  | [], cur, off, h => by simp [setRangeV]
  | x :: xs, cur, off, h => by
    simp only [List.length_cons] at h
    simp only [setRangeV]
    rw [setRangeV_eq xs _ _ (by simp; omega)]
    have hlt : off < cur.length := by omega
    have h1 : (cur.set off x).take (off + 1) = cur.take off ++ [x] := by
      rw [List.take_succ_eq_append_getElem (by simpa using hlt)]
      rw [List.take_set, List.set_eq_of_length_le (by simp; omega)]
      simp
    rw [h1, List.drop_set_of_lt (by omega)]
    simp only [List.append_assoc, List.singleton_append, List.cons_append, List.length_cons]
    rw [show off + 1 + xs.length = off + (xs.length + 1) by omega, List.nil_append]

theorem app_run {P : Program} {X : Cx} {ρ : Ren} {T : Tab} {w : World} {kb : Nat} {t u ty : TypeId} {s x : SV} {sv xv : Value} {r : Turned} (hrel : Rel X ρ T w) (hs : s.R ρ sv) (hx : x.R ρ xv) (hf : freshA ρ kb)
    (h : appS P T kb t u s x = some r) (hob : r.ob = true) : ∃ v w', (Builtin.append_ #[t, u] ty #[sv, xv]).run P w = .ok v w' ∧ TurnR X ρ kb r v w' := by
  have hkb : ρ kb = none := hf kb (Nat.le_refl _)
  unfold appS at h
  split at h <;> try (cases h; done)
  rename_i e m by_ z he
  obtain ⟨ht, ⟨i, hi, hby⟩, hm, hz⟩ := elemS_spec he
  obtain ⟨zv, hzr', hza⟩ := zeroS_all (ρ := ρ) (P := P) hz
  split at h
  · -- nil
    simp only [Option.some.injEq] at h; subst h
    simp only [bnd_true, Bool.and_eq_true, Nat.ble_eq, Nat.blt_eq] at hob
    obtain ⟨hu, hzl, hm0, hsrc, hmax, hbytes⟩ := hob
    have hzl := Nat.eq_of_beq_eq_true hzl
    have hzs : zv.cells.size = m := by have := hza.length; simp at this; omega
    obtain rfl : sv = _ := hs
    obtain ⟨hsl, hlen, news, hn, hfc⟩ := src_run (P := P) hrel hx hsrc
    by_cases h0 : srcN x = 0
    · have hnil : srcC T x = [] := List.eq_nil_of_length_eq_zero (by rw [hsl, h0, Nat.zero_mul])
      have hnews : news = [] := by rw [hnil] at hn; cases hn; rfl
      refine ⟨.slice none 0 0, w, ?_, upd ρ kb none, ?_, Le.upd _ hkb, ?_, ?_⟩
      · have := append_room (P := P) (ty := ty) (base := none) (sLen := 0) (sCap := 0) ht hu hm hlen (hfc w rfl) (by omega) (w' := w) rfl
        rwa [h0] at this
      · exact .inl ⟨upd_same _ _ _, ⟨_, rfl⟩, h0, fun q hq => by cases hq⟩
      · refine Rel.cons_new hrel (New.one hkb (Below.refl _ _) ⟨hnil, rfl⟩ (fun l hl => by cases hl) (fun l hl => by cases hl))
      · exact fun j hj => (upd_ne _ _ (by omega)).trans (hf j (by omega))
    · have hfit : Builtin.nextslicecap (0 + srcN x) 0 * i.bytes ≤ 281474976710656 := growslice_fits (by omega) (by rw [hby, Nat.zero_add]; omega)
      have hr := append_grow (P := P) (w := w) (ty := ty) (base := none) (sLen := 0) (sCap := 0) (olds := []) ht hu hi hm hzr' hlen (hfc w.drew rfl) rfl (by omega) (by omega) hfit
      simp only [Nat.zero_add, List.nil_append] at hr
      obtain ⟨ρ', hv, hle, hoth, hnew⟩ := grown_R (P := P) (w := w) (kb := kb) (m := m) (n := srcN x) (cp := grownCap w (srcN x) 0 e) (e := e) hkb hn hsl (grownCap_ge _ _ _ _) hzs
      exact ⟨_, _, hr, ρ', hv, hle, Rel.cons_new hrel hnew, fun j hj => (hoth j (by omega)).trans (hf j (by omega))⟩
  · -- a slice
    rename_i k off esz len cap
    split at h <;> try (cases h; done)
    rename_i b hb
    simp only [Option.some.injEq] at h; subst h
    simp only [bnd_true, Bool.and_eq_true, Nat.ble_eq, Nat.blt_eq] at hob
    obtain ⟨hu, hzl, hm0, hsrc, hmax, hbytes, hown, hoff, hesz, hty, hfitc⟩ := hob
    have hzl := Nat.eq_of_beq_eq_true hzl
    obtain rfl := Nat.eq_of_beq_eq_true hoff
    obtain rfl := Nat.eq_of_beq_eq_true hesz
    obtain hty := Nat.eq_of_beq_eq_true hty
    have hzs : zv.cells.size = esz := by have := hza.length; simp at this; omega
    obtain ⟨hsl, hlen, news, hn, hfc⟩ := src_run (P := P) hrel hx hsrc
    have hcl : (b.cells.take (len * esz) ++ srcC T x).length = (len + srcN x) * esz := by
      rw [List.length_append, List.length_take, hsl, Nat.add_mul]; omega
    rcases hs with ⟨hk, ⟨aa, rfl⟩, rfl, _⟩ | ⟨l, o, c, hk, rfl, hlc, hoc, _⟩
    · -- nil behind a key
      simp only [Nat.zero_mul, List.take_zero, List.nil_append, Nat.zero_add] at hcl hmax hbytes ⊢
      by_cases h0 : srcN x = 0
      · have hnil : srcC T x = [] := List.eq_nil_of_length_eq_zero (by rw [hsl, h0, Nat.zero_mul])
        have hnews : news = [] := by rw [hnil] at hn; cases hn; rfl
        refine ⟨.slice aa 0 0, w, ?_, upd ρ kb none, ?_, Le.upd _ hkb, ?_, ?_⟩
        · have := append_room (P := P) (ty := ty) (base := aa) (sLen := 0) (sCap := 0) ht hu hm hlen (hfc w rfl) (by omega) (w' := w) (by rw [hnews]; cases aa <;> rfl)
          rwa [h0] at this
        · exact .inl ⟨upd_same _ _ _, ⟨_, rfl⟩, h0, fun q hq => by cases hq⟩
        · refine Rel.cons_new (RelP.nil hrel) (New.one hkb (Below.refl _ _) ⟨hnil, rfl⟩ (fun l hl => by cases hl) (fun l hl => by cases hl))
        · exact fun j hj => (upd_ne _ _ (by omega)).trans (hf j (by omega))
      · have hfit : Builtin.nextslicecap (0 + srcN x) 0 * i.bytes ≤ 281474976710656 := growslice_fits (by omega) (by rw [hby, Nat.zero_add]; omega)
        have hr := append_grow (P := P) (w := w) (ty := ty) (base := aa) (sLen := 0) (sCap := 0) (olds := []) ht hu hi hm hzr' hlen (hfc w.drew rfl) (by cases aa <;> simp [Builtin.firstCells, loadCells, loadCellsFrom]) (by omega) (by omega) hfit
        simp only [Nat.zero_add, List.nil_append] at hr
        obtain ⟨ρ', hv, hle, hoth, hnew⟩ := grown_R (P := P) (w := w) (kb := kb) (m := esz) (n := srcN x) (cp := grownCap w (srcN x) 0 e) (e := e) hkb hn hsl (grownCap_ge _ _ _ _) hzs
        exact ⟨_, _, hr, ρ', hv, hle, Rel.cons_new (RelP.nil hrel) hnew, fun j hj => (hoth j (by omega)).trans (hf j (by omega))⟩
    · obtain ⟨pre, vs, rest, fr, hh, hc, htot, htail, hpre, hfr0, _⟩ := hrel.at hb hk
      obtain ⟨ho0, rfl⟩ := hfr0 hown
      obtain rfl : pre = [] := List.eq_nil_of_length_eq_zero (hpre.trans ho0)
      rw [List.nil_append] at hh
      rw [ho0] at hoc
      have hvl := hc.length
      have hov : All2 (SC.R ρ) (b.cells.take (len * esz) ++ srcC T x) (vs.take (len * esz) ++ news) := (hc.take _).append hn
      have hnl := hn.length
      by_cases hroom : len + srcN x ≤ c
      · -- in place
        have hlo : (len + srcN x) * esz ≤ c * esz := Nat.mul_le_mul_right _ hroom
        rw [Nat.add_mul] at hlo
        have hcs : c ≠ 0 → o = 0 ∧ c * esz ≤ l.tot := fun h => by have := hoc h; simpa using this
        have hspot : srcN x = 0 ∨ (o = 0 ∧ c * esz ≤ l.tot) := by
          by_cases hc0 : c = 0
          · exact .inl (by omega)
          · exact .inr (hcs hc0)
        have htk : (vs ++ rest).take (len * esz) = vs.take (len * esz) := List.take_append_of_le_length (by omega)
        have hput : ∃ w' Y, (storeCells ((⟨l.blk, o, none⟩ : Addr).add (len * esz)) news).run P w = .ok () w' ∧ w'.heap[l.blk]? = some (.cells ((vs.take (len * esz) ++ news) ++ Y).toArray b.ty (0, 0)) ∧ ((vs.take (len * esz) ++ news) ++ Y).length = l.tot ∧
            (∀ k, k ≠ l.blk → w'.heap[k]? = w.heap[k]?) ∧ w'.heap.size = w.heap.size ∧ w'.os = w.os ∧ w'.tape = w.tape ∧ w'.output = w.output := by
          rcases hspot with h0 | ⟨rfl, hct⟩
          · have hnil : srcC T x = [] := List.eq_nil_of_length_eq_zero (by rw [hsl, h0, Nat.zero_mul])
            have hnews : news = [] := by rw [hnil] at hn; cases hn; rfl
            subst hnews
            have e1 : (vs.take (len * esz) ++ []) ++ (vs ++ rest).drop (len * esz) = vs ++ rest := by
              rw [List.append_nil, ← htk, List.take_append_drop]
            exact ⟨w, (vs ++ rest).drop (len * esz), rfl, by rw [e1]; exact hh, by rw [e1]; exact htot, fun _ _ => rfl, rfl, rfl, rfl, rfl⟩
          · obtain ⟨w', hr, hh', h2⟩ := storeCells_run (P := P) l.blk b.ty (0, 0) l.tot (fun j _ => by simp) news (len * esz) 0 (vs ++ rest) w hh htot (by omega) (one_of_All2 hn)
            rw [Nat.add_zero, setRangeV_eq _ _ _ (by omega), htk, ← List.append_assoc] at hh'
            refine ⟨w', _, ?_, hh', ?_, h2⟩
            · rw [add_eq, Nat.zero_add]; exact hr
            · simp only [List.length_append, List.length_take, List.length_drop] at htot ⊢
              omega
        obtain ⟨w', Y, hst, hh', hY, hoth, hsize, hos, htape, hout⟩ := hput
        have hr := append_room (P := P) (w := w) (ty := ty) (base := some ⟨l.blk, o, none⟩) (sLen := len) (sCap := c) ht hu hm hlen (hfc w rfl) hroom hst
        have hlk : l.blk ≠ l.blk ∨ True := .inr trivial
        refine ⟨_, _, hr, upd ρ kb (some l), .inr ⟨l, o, c, upd_same _ _ _, rfl, hroom, fun hc0 => ?_, fun q hq => by cases hq⟩, Le.upd _ hkb, ?_, fun j hj => (upd_ne _ _ (by omega)).trans (hf j (by omega))⟩
        · have := hoc hc0; simpa [ho0] using this
        · refine Rel.rekey hrel hb hown hk hkb rfl ⟨[], vs.take (len * esz) ++ news, Y, (0, 0), by simp only [← hty]; exact hh', forall₂_imp (fun _ _ => SC.R.mono (Le.upd _ hkb)) hov, hY, fun h => by simp at h, ho0.symm, fun _ => ⟨ho0, rfl⟩, fun h => by simp at h⟩ hoth hsize hos htape hout
      · -- grown
        have hfit : Builtin.nextslicecap (len + srcN x) c * i.bytes ≤ 281474976710656 := growslice_fits (by omega) (by rw [hby]; exact hbytes)
        have hold : (Builtin.firstCells esz len (.slice (some ⟨l.blk, o, none⟩) len c)).run P w.drew = .ok (vs.take (len * esz)).toArray w.drew := by
          refine run_firstCells_some (P := P) w.drew esz len _ len c _ (by simp; omega) fun j v hj => ?_
          have hj' : j < len * esz := by
            rcases Nat.lt_or_ge j (len * esz) with h | h
            · exact h
            · rw [List.getElem?_eq_none (by simp; omega)] at hj; cases hj
          have hc0 : c ≠ 0 := fun e => by
            subst e
            have : len = 0 := by omega
            subst this; simp at hj'
          rw [(hoc hc0).1, add_eq, cell_of (w := w.drew) hh]
          rw [List.getElem?_take_of_lt hj'] at hj
          have hlt : j < vs.length := (List.getElem?_eq_some_iff.1 hj).1
          simp [List.getElem?_append_left hlt, hj]
        have hr := append_grow (P := P) (w := w) (ty := ty) (base := some ⟨l.blk, o, none⟩) (sLen := len) (sCap := c) ht hu hi hm hzr' hlen (hfc w.drew rfl) hold (by omega) hmax hfit
        obtain ⟨ρ', hv, hle, hoth, hnew⟩ := grown_R (P := P) (w := w) (kb := kb) (m := esz) (n := len + srcN x) (cp := grownCap w (len + srcN x) c e) (e := e) hkb hov hcl (grownCap_ge _ _ _ _) hzs
        rw [List.append_assoc] at hnew
        exact ⟨_, _, hr, ρ', hv, hle, Rel.cons_new (RelP.nil hrel) hnew, fun j hj => (hoth j (by omega)).trans (hf j (by omega))⟩
  · cases h


theorem appZ_run {P : Program} {X : Cx} {ρ : Ren} {T : Tab} {w : World} {kb : Nat} {t u ty : TypeId} {s x : SV} {sv xv : Value} {r : Turned} (hrel : Rel X ρ T w) (hs : s.R ρ sv) (hx : x.R ρ xv) (hf : freshA ρ kb)
    (h : appZ P T kb t u s x = some r) (hob : r.ob = true) : ∃ v w', (Builtin.append_ #[t, u] ty #[sv, xv]).run P w = .ok v w' ∧ TurnR X ρ kb r v w' := by
  have hkb : ρ kb = none := hf kb (Nat.le_refl _)
  unfold appZ at h
  split at h <;> try (cases h; done)
  rename_i e m by_ z n he
  simp only [Option.some.injEq] at h; subst h
  simp only [Bool.and_eq_true, decide_eq_true_eq, Nat.blt_eq] at hob
  obtain ⟨hu, hzl, hm0, ⟨hn0, hbytes⟩, hmax⟩ := hob
  obtain ⟨ht, ⟨i, hi, hby⟩, hm, hz⟩ := elemS_spec he
  obtain ⟨zv, hzr', hza⟩ := zeroS_all (ρ := ρ) (P := P) hz
  have hzl := Nat.eq_of_beq_eq_true hzl
  have hzs : zv.cells.size = m := by have := hza.length; simp at this; omega
  have hu' : P.underlying u = some (.int .i64) := by unfold isI64 at hu; split at hu <;> simp_all
  obtain rfl : sv = _ := hs
  obtain rfl : xv = _ := hx
  obtain ⟨N, rfl⟩ : ∃ N : Nat, n = N := ⟨n.toNat, by omega⟩
  have hN0 : 0 < N := by omega
  have hfit : Builtin.nextslicecap (0 + N) 0 * i.bytes ≤ 281474976710656 := growslice_fits (by omega) (by rw [hby, Nat.zero_add]; omega)
  rw [Nat.zero_add] at hfit
  have hw : IntKind.i64.wrap (N : Int) = N := by rw [IntKind.wrap_i64]; omega
  have hneg : ¬ ((N : Int) < 0) := by omega
  have hbig : ¬ ((N : Int) * (i.bytes : Int) > 2 ^ 48) := by rw [hby]; omega
  have hne : ¬ (N ≤ 0) := by omega
  have hnm : ¬ (N * m = 0) := by rw [Nat.mul_eq_zero]; omega
  have h63 : ¬ ((N : Int) > IntKind.i64.max) := by simp [IntKind.max, IntKind.signed, IntKind.bits]; omega
  have h48 : ¬ (Builtin.nextslicecap N 0 * i.bytes > 2 ^ 48) := by omega
  have hr : (Builtin.append_ #[t, u] ty #[.slice none 0 0, .int .i64 (N : Int)]).run P w = .ok (.slice (some ⟨w.heap.size, 0, none⟩) N (grownCap w N 0 e))
      (w.drew.alloc (.cells ((Builtin.zeroCells zv.cells N).toList ++ ((Builtin.zeroCells zv.cells (grownCap w N 0 e - N)).toList)).toArray e)) := by
    simp [Builtin.append_, run_underlying ht, run_underlying hu', sizeS_run hm, typeInfo, hi, asInt, asIntOf, hw, hneg, hbig, hne, hnm, h63, h48, Question.forced, Builtin.firstCells, hzr', newRow, grownCap]
    rw [if_neg (by omega), if_neg (by omega), if_neg (by omega)]
    have ez : ∀ (A B : Array Value), (A.toList ++ B.toList).toArray = A ++ B := fun A B => by simp
    rw [ez]
  have hzc : All2 (SC.R ρ) (zerosS z N m) (Builtin.zeroCells zv.cells N).toList := by
    have := zerosS_R (c := N) hza hzl hm0
    simpa [madeCells, Builtin.zeroCells, hzs] using this
  have hzn : (zerosS z N m).length = N * m := by
    have := hzc.length
    rw [this]; simp [size_zeroCells, hzs]
  obtain ⟨ρ', hv, hle, hoth, hnew⟩ := grown_R (P := P) (w := w) (kb := kb) (m := m) (n := N) (cp := grownCap w N 0 e) (e := e) (cs := zerosS z N m) hkb (all := (Builtin.zeroCells zv.cells N).toList) hzc hzn (grownCap_ge _ _ _ _) hzs
  exact ⟨_, _, hr, ρ', hv, hle, Rel.cons_new hrel hnew, fun j hj => (hoth j (by omega)).trans (hf j (by omega))⟩

theorem eff_turn {P : Program} {C : List (Nat × Con)} (hC : LibOK P C) {ρ : Ren} {ev : Operand → SV} {val : Operand → Value} {X : Cx} {T : Tab} {w : World} {kb : Nat} {o : Oper} (hv : ∀ x, (ev x).R ρ (val x)) (hrel : Rel X ρ T w) (hf : freshA ρ kb) {r : Turned}
    (h : effOf P C o.op ev T kb = some (.turn r)) (hob : r.ob = true) (hobs : All r.obs) : Does P val o w fun v w' => TurnR X ρ kb r v w' := by
  obtain ⟨dst, op, type, pos, after, guard⟩ := o
  unfold effOf at h
  split at h
  · split at h <;> try (cases h; done)
    rename_i r' hr'
    simp only [Option.some.injEq, Eff.turn.injEq] at h; subst h
    unfold turnOp at hr'
    split at hr'
    · rename_i t x y hop
      simp only at hop; subst hop
      split at hr' <;> try (cases hr'; done)
      rename_i ob T1 hs
      simp only [Option.some.injEq] at hr'; subst hr'
      simp only at hob; subst hob
      obtain ⟨w', hr, hrel'⟩ := Rel.store hrel hs (hv x) (hv y)
      refine .inr (.inl ⟨w', ?_, ρ, trivial, Le.refl _, hrel', fun k hk => hf k (by omega)⟩)
      simp only [execOp, Sem.run_bind, hr, Result.andThen_ok, Sem.run_pure]
    · rename_i c hop
      simp only at hop; subst hop
      split at hr'
      · rename_i hcal
        split at hr' <;> try (cases hr'; done)
        rename_i t u s x ha hs
        have hrun0 : ∃ v w', (Builtin.append_ #[t, u] type #[val s, val x]).run P w = .ok v w' ∧ TurnR X ρ kb r' v w' := by
          split at hr'
          · exact app_run (P := P) (ty := type) hrel (hv s) (hv x) hf hr' hob
          · exact appZ_run (P := P) (ty := type) hrel (hv s) (hv x) hf hr' hob
        obtain ⟨v, w', hrun, hT⟩ := hrun0
        refine .inl ⟨v, w', ?_, hT⟩
        have e1 : c.argTypes = #[t, u] := by apply Array.toList_inj.1; simpa using ha
        have e2 : c.args = #[s, x] := by apply Array.toList_inj.1; simpa using hs
        simp only [execOp, resolve, hcal, invoke, builtin, Sem.run_bind, Sem.run_pure, Result.andThen_ok, e1, e2, List.map_toArray, List.map_cons, List.map_nil, hrun]
      · rename_i fo hcal
        split at hr' <;> try (cases hr'; done)
        rename_i f caps' hfe
        split at hr' <;> try (cases hr'; done)
        rename_i con hcon
        split at hr' <;> try (cases hr'; done)
        rename_i r1 hr1
        simp only [Option.some.injEq] at hr'; subst hr'
        have h1 := hv fo
        rw [hfe] at h1
        obtain ⟨vs, hv', hcaps⟩ := h1
        obtain ⟨hent, _, hcalls⟩ := hC f con hcon
        have hargs : All2 (SV.R ρ) (c.args.toList.map ev ++ capArgs caps') ((c.args.map val) ++ vs.toArray).toList := by
          rw [Array.toList_append, Array.toList_map]
          exact (All2.map hv _).append (capArgs_R hcaps)
        have hcl := hcalls _ _ _ _ hr1 hob hobs X ρ w _ hrel hargs hf
        refine .inr (.inr ⟨f, (c.args.map val) ++ vs.toArray, ?_, ?_⟩)
        · simp only [execOp, resolve, hcal, Sem.run_bind, hv', Deferred.ofValue, Sem.run_pure, Result.andThen_ok, invoke, Array.empty_append, hent]
        · rw [Array.toArray_toList] at hcl
          exact hcl
      · cases hr'
    · cases hr'
  · split at h
    · cases h
    · split at h <;> cases h

/-- An operand's value. -/
def sev (tm : List (Nat × SV)) : Operand → SV
  | .tmp t => match get tm t with | some v => v | none => .und
  | .const v => ofVal v
  | .func f => .c (.fn f [])
  | .global _ => .und

theorem sev_R {X : Cx} {ρ : Ren} {st : St} {a : Act} {w : World} (h : RelA X ρ st a w) (x : Operand) : (sev st.tmps x).R ρ (a.eval x) := by
  cases x with
  | tmp t =>
    simp only [sev]
    split
    · rename_i v hv
      obtain ⟨u, hu, hr⟩ := h.tmps t v hv
      simpa [Act.eval, hu] using hr
    · exact trivial
  | const v => exact ofVal_R v
  | func f => exact ⟨[], rfl, .nil⟩
  | global g => exact trivial

def putS (tm : List (Nat × SV)) (dst : Option Nat) (v : SV) : List (Nat × SV) :=
  match dst with
  | some d => set tm d v
  | none => tm

theorem RelA.put {X : Cx} {ρ ρ' : Ren} {st : St} {a : Act} {w w' : World} {T' : Tab} {dst : Option Nat} {v : SV} {u : Value} {nk : Nat} (h : RelA X ρ st a w) (hle : Le ρ ρ') (hrel : Rel X ρ' T' w') (hv : v.R ρ' u)
    (hd : ∀ d, dst = some d → d < st.nt) (hf : ∀ k, nk ≤ k → ρ' k = none) : RelA X ρ' { st with tmps := putS st.tmps dst v, tab := T', nk := nk } (a.put dst u) w' where
  rel := hrel
  tmps := fun t x hx => by
    cases dst with
    | none => obtain ⟨y, hy, hr⟩ := h.tmps t x hx; exact ⟨y, hy, hr.mono hle⟩
    | some d =>
      by_cases hdt : d = t
      · subst hdt
        simp only [putS, get_set_same, Option.some.injEq] at hx; subst hx
        have := hd d rfl
        exact ⟨u, by simp [Act.put, Array.getElem?_setIfInBounds, h.sz, this], hv⟩
      · simp only [putS] at hx
        rw [get_set_ne _ _ hdt] at hx
        obtain ⟨y, hy, hr⟩ := h.tmps t x hx
        exact ⟨y, by simp [Act.put, Array.getElem?_setIfInBounds_ne hdt, hy], hr.mono hle⟩
  defers := by cases dst <;> exact h.defers
  fresh := hf
  sz := by cases dst <;> simp [Act.put, h.sz]

def dstOk (nt : Nat) : Option Nat → Bool
  | some d => Nat.blt d nt
  | none => true
theorem dstOk_spec {nt : Nat} {dst : Option Nat} (h : dstOk nt dst = true) : ∀ d, dst = some d → d < nt := fun d hd => by
  subst hd; simpa [dstOk, Nat.blt_eq] using h

/-- What has been decided of guards; what is still told of them. -/
structure Orc where
  told : List Bool
  known : List (Nat × Bool)

/-- Is an operation wanted: what must hold; yes or no; what is told further. -/
def guardS (vals : Nat → SV) (g : Option (Nat × Bool)) (o : Orc) : Option (Bool × Bool × Orc) :=
  match g with
  | none => some (true, true, o)
  | some (j, want) => match vals j with
    | .c (.bool b) => match get o.known j with
      | some t => some (b == t, t == want, o)
      | none => match o.told with
        | t :: r => some (b == t, t == want, ⟨r, (j, t) :: o.known⟩)
        | [] => some (true, b == want, o)
    | .tup [] => some (true, false, o)
    | _ => none

/-- What a walk through a region has come to. -/
structure RSt where
  st : St
  ob : Bool
  obs : List Prop
  orc : Orc

/-- The value of a region's operation. -/
def valOf (ops : Array Oper) (tm : List (Nat × SV)) (j : Nat) : SV :=
  match ops[j]? with
  | some o => match o.dst with
    | some d => sev tm (.tmp d)
    | none => .und
  | none => .und

/-- Operations in the order of the text. -/
def seqR (P : Program) (C : List (Nat × Con)) (ops : Array Oper) : List Oper → RSt → Option RSt
  | [], s => some s
  | o :: rest, s => match guardS (valOf ops s.st.tmps) o.guard s.orc with
    | none => none
    | some (g, true, orc) => match effOf P C o.op (sev s.st.tmps) s.st.tab s.st.nk with
      | some (.new r) => seqR P C ops rest ⟨{ s.st with tmps := putS s.st.tmps o.dst r.v, tab := addAll s.st.tab r.E, nk := s.st.nk + 4 }, bnd s.ob (g && (dstOk s.st.nt o.dst && (keysOk s.st.nk r.E && r.ob))), r.obs ++ s.obs, orc⟩
      | some (.turn r) => seqR P C ops rest ⟨{ s.st with tmps := putS s.st.tmps o.dst r.v, tab := r.T, nk := s.st.nk + 4 }, bnd s.ob (g && (dstOk s.st.nt o.dst && r.ob)), r.obs ++ s.obs, orc⟩
      | none => none
    | some (g, false, orc) => seqR P C ops rest ⟨{ s.st with tmps := putS s.st.tmps o.dst (.tup []) }, bnd s.ob (g && dstOk s.st.nt o.dst), s.obs, orc⟩

theorem keysOk_spec {kb : Nat} {E : List (Nat × Blk)} (h : keysOk kb E = true) : ∀ k b, (k, b) ∈ E → kb ≤ k ∧ k < kb + 4 := fun k b hk => by
  unfold keysOk at h
  rw [List.all_eq_true] at h
  have := h _ hk
  simpa [Nat.blt_eq] using this

def GuardIs (vals : Nat → SV) (g : Option (Nat × Bool)) (b : Bool) : Prop :=
  (g = none ∧ b = true) ∨ (∃ j want c, g = some (j, want) ∧ vals j = .c (.bool c) ∧ b = (c == want)) ∨ (b = false ∧ ∃ j want, g = some (j, want) ∧ vals j = .tup [])
/-- The value of an operation that was not wanted. -/
theorem off_R {ρ : Ren} : SV.R ρ (.tup []) undef := ⟨[], rfl, .nil⟩
theorem off_eq {ρ : Ren} {v : Value} (h : SV.R ρ (.tup []) v) : v = undef := by
  obtain ⟨vs, hv, hc⟩ := h
  cases hc
  exact hv
theorem guardS_spec {vals : Nat → SV} {g : Option (Nat × Bool)} {o o' : Orc} {b : Bool} (h : guardS vals g o = some (true, b, o')) : GuardIs vals g b := by
  cases g with
  | none =>
    simp only [guardS, Option.some.injEq, Prod.mk.injEq, true_and] at h; exact .inl ⟨rfl, h.1.symm⟩
  | some jw =>
    obtain ⟨j, want⟩ := jw
    simp only [guardS] at h
    split at h <;> try (cases h; done)
    · rename_i c hc
      split at h
      · rename_i t ht
        simp only [Option.some.injEq, Prod.mk.injEq, beq_iff_eq] at h
        obtain ⟨rfl, rfl, _⟩ := h
        exact .inr (.inl ⟨_, _, _, rfl, hc, rfl⟩)
      · split at h
        · simp only [Option.some.injEq, Prod.mk.injEq, beq_iff_eq] at h
          obtain ⟨rfl, rfl, _⟩ := h
          exact .inr (.inl ⟨_, _, _, rfl, hc, rfl⟩)
        · simp only [Option.some.injEq, Prod.mk.injEq, true_and] at h
          exact .inr (.inl ⟨_, _, _, rfl, hc, h.1.symm⟩)
    · rename_i hc
      simp only [Option.some.injEq, Prod.mk.injEq, true_and] at h
      exact .inr (.inr ⟨h.1.symm, _, _, rfl, hc⟩)

theorem wanted_of {ops : Array Oper} {tmps : Array Value} {o : Oper} {vals : Nat → SV} {b : Bool}
    (hv : ∀ j c want, o.guard = some (j, want) → vals j = .c (.bool c) → yielded ops tmps j = some c) (hv0 : ∀ j want, o.guard = some (j, want) → vals j = .tup [] → yielded ops tmps j = none) (h : GuardIs vals o.guard b) : Region.wanted o (yielded ops tmps) = b := by
  rcases h with ⟨hg, rfl⟩ | ⟨j, want, c, hg, hc, rfl⟩ | ⟨rfl, j, want, hg, hc⟩
  · simp [Region.wanted, hg]
  rotate_left
  · simp only [Region.wanted, hg, hv0 j want hg hc]; rfl
  · simp only [Region.wanted, hg, hv j c want hg hc]
    cases c <;> cases want <;> rfl

theorem valOf_yielded {X : Cx} {ρ : Ren} {st : St} {a : Act} {w : World} (h : RelA X ρ st a w) (ops : Array Oper) (j : Nat) (c : Bool) (hc : valOf ops st.tmps j = .c (.bool c)) : yielded ops a.tmps j = some c := by
  unfold valOf at hc
  split at hc <;> try (cases hc; done)
  rename_i o ho
  split at hc <;> try (cases hc; done)
  rename_i d hd
  simp only [sev] at hc
  split at hc <;> try (cases hc; done)
  rename_i v hv
  subst hc
  obtain ⟨u, hu, hr⟩ := h.tmps d _ hv
  have hr' : u = .bool c := hr
  subst hr'
  simp [yielded, ho, hd, hu]

theorem valOf_off {X : Cx} {ρ : Ren} {st : St} {a : Act} {w : World} (h : RelA X ρ st a w) (ops : Array Oper) (j : Nat) (hc : valOf ops st.tmps j = .tup []) : yielded ops a.tmps j = none := by
  unfold valOf at hc
  split at hc <;> try (cases hc; done)
  rename_i o ho
  split at hc <;> try (cases hc; done)
  rename_i d hd
  simp only [sev] at hc
  split at hc <;> try (cases hc; done)
  rename_i v hv
  subst hc
  obtain ⟨u, hu, hr⟩ := h.tmps d _ hv
  obtain rfl := off_eq hr
  simp [yielded, ho, hd, hu, undef]

theorem seqR_run {P : Program} {C : List (Nat × Con)} (hC : LibOK P C) {X : Cx} {ops : Array Oper} {Q : Exit → Act → World → Prop} : ∀ (l : List Oper) (s s' : RSt) (ρ : Ren) (a : Act) (w : World), seqR P C ops l s = some s' → s'.ob = true → All s'.obs →
    RelA X ρ s.st a w → (∀ ρ' a' w', Le ρ ρ' → RelA X ρ' s'.st a' w' → Q .normal a' w') → wpList P ops Q l a w
  | [], s, s', ρ, a, w, h, _, _, hrel, hQ => by
    simp only [seqR, Option.some.injEq] at h; subst h
    exact hQ ρ a w (Le.refl _) hrel
  | o :: rest, s, s', ρ, a, w, h, hob, hobs, hrel, hQ => by
    have hmono : ∀ (l : List Oper) (s s' : RSt), seqR P C ops l s = some s' → s'.ob = true → All s'.obs → s.ob = true ∧ All s.obs := by
      intro l
      induction l with
      | nil => intro s s' h h1 h2; simp only [seqR, Option.some.injEq] at h; subst h; exact ⟨h1, h2⟩
      | cons o l ih =>
        intro s s' h h1 h2
        unfold seqR at h
        split at h <;> try (cases h; done)
        · split at h <;> try (cases h; done)
          · obtain ⟨g1, g2⟩ := ih _ _ h h1 h2
            simp only [bnd_true, Bool.and_eq_true] at g1
            exact ⟨g1.1, (All_append.1 g2).2⟩
          · obtain ⟨g1, g2⟩ := ih _ _ h h1 h2
            simp only [bnd_true, Bool.and_eq_true] at g1
            exact ⟨g1.1, (All_append.1 g2).2⟩
        · obtain ⟨g1, g2⟩ := ih _ _ h h1 h2
          simp only [bnd_true, Bool.and_eq_true] at g1
          exact ⟨g1.1, g2⟩
    unfold seqR at h
    have hval := valOf_yielded hrel ops
    have hval0 := valOf_off hrel ops
    split at h <;> try (cases h; done)
    · rename_i g orc hg
      split at h <;> try (cases h; done)
      · rename_i r he
        obtain ⟨hob1, hobs1⟩ := hmono _ _ _ h hob hobs
        simp only [bnd_true, Bool.and_eq_true] at hob1
        obtain ⟨_, rfl, hd, hk, hrob⟩ := hob1
        have hk' := keysOk_spec hk
        have hw : Region.wanted o (yielded ops a.tmps) = true := wanted_of (fun j c _ _ => hval j c) (fun j _ _ => hval0 j) (guardS_spec hg)
        have hd' := dstOk_spec hd
        have hf : fresh ρ s.st.nk := fun k h1 _ => hrel.fresh k h1
        have hdoes := eff_new hC (sev_R hrel) hrel.rel hf he hrob (All_append.1 hobs1).1
        refine wpList_step fun K hK => ?_
        rw [if_pos hw]
        refine hdoes.wp fun v w' ⟨ρ', hr, hn⟩ => hK _ _ ?_
        refine seqR_run hC rest _ s' ρ' _ w' h hob hobs (hrel.put hn.le (Rel.new hrel.rel hn) hr hd' fun k hk2 => ?_) fun ρ2 a2 w2 hle => hQ ρ2 a2 w2 (hn.le.trans hle)
        rw [hn.only k fun b hb => by have := hk' k b hb; omega]
        exact hrel.fresh k (by omega)
      · rename_i r he
        obtain ⟨hob1, hobs1⟩ := hmono _ _ _ h hob hobs
        simp only [bnd_true, Bool.and_eq_true] at hob1
        obtain ⟨_, rfl, hd, hrob⟩ := hob1
        have hw : Region.wanted o (yielded ops a.tmps) = true := wanted_of (fun j c _ _ => hval j c) (fun j _ _ => hval0 j) (guardS_spec hg)
        have hd' := dstOk_spec hd
        have hdoes := eff_turn hC (sev_R hrel) hrel.rel hrel.fresh he hrob (All_append.1 hobs1).1
        refine wpList_step fun K hK => ?_
        rw [if_pos hw]
        refine hdoes.wp fun v w' ⟨ρ', hv, hle, hrel', hf'⟩ => hK _ _ ?_
        exact seqR_run hC rest _ s' ρ' _ w' h hob hobs (hrel.put hle hrel' hv hd' hf') fun ρ2 a2 w2 hle2 => hQ ρ2 a2 w2 (hle.trans hle2)
    · rename_i g orc hg
      obtain ⟨hob1, hobs1⟩ := hmono _ _ _ h hob hobs
      simp only [bnd_true, Bool.and_eq_true] at hob1
      obtain ⟨_, rfl, hd⟩ := hob1
      have hw : Region.wanted o (yielded ops a.tmps) = false := wanted_of (fun j c _ _ => hval j c) (fun j _ _ => hval0 j) (guardS_spec hg)
      have hd' := dstOk_spec hd
      refine wpList_step fun K hK => ?_
      rw [if_neg (by simp [hw])]
      exact hK _ _ (seqR_run hC rest _ s' ρ _ w h hob hobs (hrel.put (Le.refl _) hrel.rel off_R hd' hrel.fresh) hQ)

end Go.Proofs.Ytkpdkfeklecehaa.Sx
