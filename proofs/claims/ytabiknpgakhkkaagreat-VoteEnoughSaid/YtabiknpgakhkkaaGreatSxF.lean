/-
  The executor's operations on memory: what is loaded, made, stored; calls by contract. The executor's stores; its way through a region, in the order of the text or in any order that the region's edges allow.
-/
import Derived.Lib.ConvBytes
import Derived.Test.YtabiknpgakhkkaaGreatSxD
set_option maxRecDepth 20000
section
namespace Go.Proofs.YtabiknpgakhkkaaGreat.Sx
open Go.RowKit
set_option linter.unusedVariables false
set_option linter.unusedSimpArgs false

/-- All of some statements hold. -/
def All : List Prop → Prop
  | [] => True
  | p :: r => p ∧ All r
theorem All_append {a b : List Prop} : All (a ++ b) ↔ All a ∧ All b := by
  induction a with
  | nil => simp [All]
  | cons p r ih => simp [All, ih, and_assoc]

/-- What an operation on memory comes to. -/
structure Res where
  ob : Bool
  obs : List Prop
  v : SV
  E : List (Nat × Blk)

/-- Both, the second looked at first. -/
def bnd (a b : Bool) : Bool := match b with | true => a | false => false
theorem bnd_true {a b : Bool} : (bnd a b = true) = (a = true ∧ b = true) := by cases b <;> simp [bnd]

/-- What an operation comes to that turns what stood. -/
structure Turned where
  ob : Bool
  obs : List Prop
  v : SV
  T : Tab

/-- What an operation comes to: something new; something turned. -/
inductive Eff where
  | new (r : Res)
  | turn (r : Turned)

/-- A contract: whether it turns anything; of arguments, a table and the first free key: what it comes to. -/
structure Con where
  turns : Bool
  run : List SV → Tab → Nat → Option Eff

def fresh (ρ : Ren) (kb : Nat) : Prop := ∀ k, kb ≤ k → k < kb + 4 → ρ k = none
def freshA (ρ : Ren) (kb : Nat) : Prop := ∀ k, kb ≤ k → ρ k = none
theorem freshA.fresh {ρ : Ren} {kb : Nat} (h : freshA ρ kb) : fresh ρ kb := fun k h1 _ => h k h1
def keysOk (kb : Nat) (E : List (Nat × Blk)) : Bool := E.all fun p => Nat.ble kb p.1 && Nat.blt p.1 (kb + 4)

/-- What holds behind an operation that turns something. -/
def TurnR (X : Cx) (ρ : Ren) (kb : Nat) (r : Turned) (v : Value) (w' : World) : Prop := ∃ ρ', r.v.R ρ' v ∧ Le ρ ρ' ∧ Rel X ρ' r.T w' ∧ freshA ρ' (kb + 4)

def ConOK (P : Program) (f : FuncId) (c : Con) : Prop :=
  (∀ args w, (callFunc f args).run P w = .ok (.enter f args) w) ∧
  (∀ args T kb r, c.run args T kb = some (.new r) → r.ob = true → All r.obs → ∀ X ρ w vs, Rel X ρ T w → All2 (SV.R ρ) args vs → fresh ρ kb →
    Calls P f vs.toArray w fun e w' => ∃ v ρ', e = .returned v ∧ r.v.R ρ' v ∧ New ρ ρ' r.E w w') ∧
  ∀ args T kb r, c.run args T kb = some (.turn r) → r.ob = true → All r.obs → ∀ X ρ w vs, Rel X ρ T w → All2 (SV.R ρ) args vs → freshA ρ kb →
    Calls P f vs.toArray w fun e w' => ∃ v, e = .returned v ∧ TurnR X ρ kb r v w'

def LibOK (P : Program) (C : List (Nat × Con)) : Prop := ∀ f c, get C f = some c → ConOK P f c
theorem LibOK.nil (P : Program) : LibOK P [] := fun f c h => by simp [get] at h
theorem LibOK.cons {P : Program} {f : FuncId} {c : Con} {C : List (Nat × Con)} (h : ConOK P f c) (hC : LibOK P C) : LibOK P ((f, c) :: C) := fun g d hg => by
  by_cases hfg : f = g
  · subst hfg; simp [get] at hg; subst hg; exact h
  · simp only [get, beq_of_ne hfg, cond_false] at hg; exact hC g d hg

theorem enters_of {P : Program} {f : FuncId} {fn : Func} (hf : P.funcs[f]? = some fn) (hn : (fn.name == "runtime.NumGoroutine") = false) (hb : fn.body.isNone = false) (args : Array Value) (w : World) :
    (callFunc f args).run P w = .ok (.enter f args) w := by
  simp only [callFunc, Sem.run_bind, run_program, Result.andThen_ok, hf, hn, hb, Bool.false_eq_true, if_false, Sem.run_pure]

/-- What an operation does. -/
def Does (P : Program) (val : Operand → Value) (o : Oper) (w : World) (R : Value → World → Prop) : Prop :=
  (∃ v w', (execOp val o).run P w = .ok (.value v) w' ∧ R v w') ∨
  (∃ w', (execOp val o).run P w = .ok .skip w' ∧ R undef w') ∨
  (∃ f args, (execOp val o).run P w = .ok (.enter f args) w ∧ Calls P f args w fun e w' => ∃ v, e = .returned v ∧ R v w')

theorem Does.wp {P : Program} {a : Act} {o : Oper} {w : World} {R : Value → World → Prop} (h : Does P a.eval o w R) {K : Act → World → Prop} {Q : Exit → Act → World → Prop}
    (hK : ∀ v w', R v w' → K (a.put o.dst v) w') : o.wp P a w K Q := by
  unfold Oper.wp
  rcases h with ⟨v, w', hr, h⟩ | ⟨w', hr, h⟩ | ⟨f, args, hr, h⟩
  · rw [hr]; exact hK _ _ h
  · rw [hr]; exact hK _ _ h
  · rw [hr, Oper.upon_enter]
    refine h.mono fun e w'' ⟨v, he, hR⟩ => ?_
    subst he
    exact hK _ _ hR

theorem Does.mono {P : Program} {val : Operand → Value} {o : Oper} {w : World} {R S : Value → World → Prop} (h : Does P val o w R) (hs : ∀ v w', R v w' → S v w') : Does P val o w S := by
  rcases h with ⟨v, w', hr, h⟩ | ⟨w', hr, h⟩ | ⟨f, args, hr, h⟩
  · exact .inl ⟨v, w', hr, hs _ _ h⟩
  · exact .inr (.inl ⟨w', hr, hs _ _ h⟩)
  · exact .inr (.inr ⟨f, args, hr, h.mono fun e w'' ⟨v, he, hR⟩ => ⟨v, he, hs _ _ hR⟩⟩)

/-! Memory. -/

theorem cell_of {w : World} {g j : Nat} {cs : Array Value} {t : TypeId} {fr : Nat × Nat} (hg : w.heap[g]? = some (.cells cs t fr)) : w.cell? ⟨g, j, none⟩ = cs[j]? := by
  simp [World.cell?, hg]

def SC.isU8 : SC → Bool | .u8 _ => true | _ => false
def SC.asU8 : SC → UInt8 | .u8 b => b | _ => 0
def SC.isU64 : SC → Bool | .u64 _ => true | _ => false
def SC.asU64 : SC → UInt64 | .u64 b => b | _ => 0
def SC.isInt : SC → Bool | .int _ => true | _ => false
def SC.asInt : SC → Int | .int b => b | _ => 0
def SC.isBool : SC → Bool | .bool _ => true | _ => false
def SC.asBool : SC → Bool | .bool b => b | _ => false
/-- A cell read by its type: what is read has a shape, whatever list it is read from. -/
def cellAs (P : Program) (t : TypeId) (x : SC) : Bool × SC :=
  match P.underlying t with
  | some (.int .u8) => (x.isU8, .u8 x.asU8)
  | some (.int .u64) => (x.isU64, .u64 x.asU64)
  | some (.int .i64) => (x.isInt, .int x.asInt)
  | some .bool => (x.isBool, .bool x.asBool)
  | _ => (true, x)
theorem cellAs_eq {P : Program} {t : TypeId} {x : SC} (h : (cellAs P t x).1 = true) : (cellAs P t x).2 = x := by
  unfold cellAs at h ⊢
  split at h <;> first | rfl | (cases x <;> first | rfl | (simp [SC.isU8, SC.isU64, SC.isInt, SC.isBool] at h; done))

/-- Cells read by their types. -/
def cellsAs (P : Program) (cs : List SC) : List TypeId → Nat → Bool × List SC
  | [], _ => (true, [])
  | t :: ts, o => ((cellAs P t (cs.getD o .nilp)).1 && (cellsAs P cs ts (o + 1)).1, (cellAs P t (cs.getD o .nilp)).2 :: (cellsAs P cs ts (o + 1)).2)
theorem cellsAs_eq {P : Program} {cs : List SC} : ∀ {ts : List TypeId} {o : Nat}, (cellsAs P cs ts o).1 = true → o + ts.length ≤ cs.length → (cellsAs P cs ts o).2 = (cs.drop o).take ts.length
  | [], o, _, _ => by simp [cellsAs]
  | t :: ts, o, h, hl => by
    simp only [cellsAs, Bool.and_eq_true] at h
    simp only [List.length_cons] at hl
    have hd : cs.drop o = cs[o] :: cs.drop (o + 1) := List.drop_eq_getElem_cons (by omega)
    have hg : cs.getD o .nilp = cs[o] := by simp [List.getD, List.getElem?_eq_getElem (show o < cs.length by omega)]
    have h1 := cellAs_eq h.1
    rw [hg] at h1
    simp only [cellsAs, hg, h1, hd, List.length_cons, List.take_succ_cons, cellsAs_eq h.2 (by omega)]
/-- The cells' types of a small struct. -/
def smallS (P : Program) (t : TypeId) (n : Nat) : Option (List TypeId) := match P.underlying t with
  | some (.struct _) => match Nat.ble n 16 with
    | true => match P.cellTypes P.depth t with
      | some ts => match Nat.beq ts.length n with
        | true => some ts
        | false => none
      | none => none
    | false => none
  | _ => none
theorem smallS_len {P : Program} {t : TypeId} {n : Nat} {ts : List TypeId} (h : smallS P t n = some ts) : ts.length = n := by
  unfold smallS at h
  split at h <;> try (cases h; done)
  split at h <;> try (cases h; done)
  split at h <;> try (cases h; done)
  split at h <;> try (cases h; done)
  rename_i hb
  simp only [Option.some.injEq] at h; subst h
  exact Nat.eq_of_beq_eq_true hb

/-- A loaded variable. -/
def loadS (P : Program) (t : TypeId) (b : Blk) (off : Nat) : Option (Bool × SV) :=
  match isAggS P t, sizeS P t with
  | some true, some n => match smallS P t n with
    | some ts => some (Nat.ble (off + n) b.cells.length && (cellsAs P b.cells ts off).1, .agg (cellsAs P b.cells ts off).2)
    | none => some (Nat.ble (off + n) b.cells.length, .agg ((b.cells.drop off).take n))
  | some false, _ => some (Nat.blt off b.cells.length && (cellAs P t (b.cells.getD off .nilp)).1, .c (cellAs P t (b.cells.getD off .nilp)).2)
  | _, _ => none

theorem loadS_run {ρ : Ren} {P : Program} {w : World} {t : TypeId} {b : Blk} {off : Nat} {r : SV} {l : Loc} (h : loadS P t b off = some (true, r)) (hb : b.R ρ w (some l)) :
    ∃ v, (loadVar t ⟨l.blk, l.o0 + off, none⟩).run P w = .ok v w ∧ r.R ρ v := by
  obtain ⟨pre, vs, rest, fr, hh, hc, _, _, hpre, _⟩ := hb
  have hcell : ∀ j v, vs[j]? = some v → w.cell? ⟨l.blk, l.o0 + j, none⟩ = some v := fun j v hj => by
    rw [cell_of hh]
    have : j < vs.length := (List.getElem?_eq_some_iff.1 hj).1
    rw [List.getElem?_toArray, List.getElem?_append_right (by omega), hpre, Nat.add_sub_cancel_left, List.getElem?_append_left this, hj]
  unfold loadS at h
  split at h
  · rename_i n ha hs
    have h : off + n ≤ b.cells.length ∧ r = .agg ((b.cells.drop off).take n) := by
      split at h
      · rename_i ts hts
        have hl := smallS_len hts
        simp only [Option.some.injEq, Prod.mk.injEq, Bool.and_eq_true, Nat.ble_eq] at h
        obtain ⟨⟨h1, h2⟩, rfl⟩ := h
        exact ⟨h1, by rw [cellsAs_eq h2 (by omega), hl]⟩
      · simp only [Option.some.injEq, Prod.mk.injEq, Nat.ble_eq] at h
        exact ⟨h.1, h.2.symm⟩
    obtain ⟨hle, rfl⟩ := h
    have hlen := hc.length
    have hr := run_loadCells_list (P := P) w ⟨l.blk, l.o0 + off, none⟩ ((vs.drop off).take n) (fun j v hj => by
      have hj' : j < n := by
        rcases Nat.lt_or_ge j n with h | h
        · exact h
        · rw [List.getElem?_eq_none (by simp; omega)] at hj; cases hj
      have hv : vs[off + j]? = some v := by
        rw [List.getElem?_take_of_lt hj', List.getElem?_drop] at hj; exact hj
      have : (⟨l.blk, l.o0 + off, none⟩ : Addr).add j = ⟨l.blk, l.o0 + (off + j), none⟩ := by unfold Addr.add; split <;> simp_all [Nat.add_assoc]
      rw [this]; exact hcell _ _ hv)
    have hn : ((vs.drop off).take n).length = n := by simp; omega
    rw [hn] at hr
    refine ⟨.agg ((vs.drop off).take n).toArray, ?_, _, rfl, (hc.drop off).take n⟩
    simp only [loadVar, Sem.run_bind, isAggS_run ha, sizeS_run hs, Result.andThen_ok, if_true, hr, Sem.run_pure]
  · rename_i ha
    simp only [Option.some.injEq, Prod.mk.injEq, Bool.and_eq_true, Nat.blt_eq] at h
    obtain ⟨⟨hlt, hca⟩, rfl⟩ := h
    rw [cellAs_eq hca]
    have hx : b.cells[off]? = some (b.cells.getD off .nilp) := by simp [List.getD, hlt]
    obtain ⟨v, hv, hr⟩ := hc.get hx
    refine ⟨v, ?_, hr⟩
    simp only [loadVar, Sem.run_bind, isAggS_run ha, Result.andThen_ok, Bool.false_eq_true, if_false, run_load, hcell _ _ hv]
  · cases h

def upd (ρ : Ren) (k : Nat) (x : Option Loc) : Ren := ⟨fun j => if j = k then some x else ρ j, ρ.row⟩
theorem upd_same (ρ : Ren) (k : Nat) (x : Option Loc) : upd ρ k x k = some x := by simp [upd]
theorem upd_ne (ρ : Ren) {k j : Nat} (x : Option Loc) (h : j ≠ k) : upd ρ k x j = ρ j := by simp [upd, h]
theorem Le.upd {ρ : Ren} {k : Nat} (x : Option Loc) (h : ρ k = none) : Le ρ (upd ρ k x) := ⟨fun j y hj => (by
  rw [upd_ne]; exact hj
  intro e; subst e; rw [h] at hj; simp at hj), fun _ _ h => h⟩

/-- One new block. -/
theorem New.one {ρ : Ren} {kb : Nat} {b : Blk} {w w' : World} {x : Option Loc} (hf : ρ kb = none) (hb : Below w.heap.size w w') (hB : b.R (upd ρ kb x) w' x) (hx : ∀ l, x = some l → w.heap.size ≤ l.blk) (hl : ∀ l, x = some l → l.lit = true → b.own = false) :
    New ρ (upd ρ kb x) [(kb, b)] w w' := New.of (below := hb)
  (le := Le.upd x hf)
  (only := fun k hk => upd_ne _ _ fun e => hk b (by subst e; simp))
  (blk := fun k b' hk => by
    simp only [List.mem_singleton, Prod.mk.injEq] at hk
    obtain ⟨rfl, rfl⟩ := hk
    exact ⟨x, upd_same _ _ _, hB, hx⟩)
  (sep := fun k b1 k' b2 l l' hk hk' hne => by
    simp only [List.mem_singleton, Prod.mk.injEq] at hk hk'
    exact absurd (hk.1.trans hk'.1.symm) hne)
  (lit := fun k b' l hk hkl hlit => by
    simp only [List.mem_singleton, Prod.mk.injEq] at hk
    obtain ⟨rfl, rfl⟩ := hk
    rw [upd_same] at hkl; cases hkl
    exact hl l rfl hlit)
  (row := rfl)

theorem below_alloc (w : World) (o : Obj) : Below w.heap.size w (w.alloc o) := (Below.refl _ _).alloc (Nat.le_refl _) _

/-- A new block of given cells. -/
theorem New.alloc {ρ : Ren} {kb : Nat} {cs : List SC} {ty : TypeId} {tail own : Bool} {w : World} {vs rest : List Value} (hf : ρ kb = none) (hc : All2 (SC.R ρ) cs vs) (ht : tail = false → rest = []) :
    New ρ (upd ρ kb (some ⟨w.heap.size, (vs ++ rest).length, !own, 0⟩)) [(kb, ⟨cs, ty, tail, own⟩)] w (w.alloc (.cells (vs ++ rest).toArray ty)) :=
  New.one hf (below_alloc _ _) ⟨[], vs, rest, (0, 0), heap_alloc_new _ _, forall₂_imp (fun _ _ => SC.R.mono (Le.upd _ hf)) hc, rfl, ht, rfl, fun _ => ⟨rfl, rfl⟩, fun h _ => ⟨by simp only at h; simp [h], rfl, .inl rfl⟩⟩ (fun l hl => by
    cases hl; exact Nat.le_refl _) (fun l hl h => by cases hl; simpa using h)

/-- The cells that a slice or a string has; how many elements; whether it is so. -/
def srcC (T : Tab) : SV → List SC
  | .c (.slc k off esz len _) => match T.blk k with
    | some b => (b.cells.drop off).take (len * esz)
    | none => []
  | .c (.str s) => s.map SC.u8
  | .c (.row bs _) => bs.map SC.u8
  | _ => []
def srcN : SV → Nat
  | .c (.slc _ _ _ len _) => len
  | .c (.str s) => s.length
  | .c (.row bs _) => bs.length
  | _ => 0
def srcOk (T : Tab) (m : Nat) : SV → Bool
  | .c (.slc k off esz len _) => match T.blk k with
    | some b => Nat.ble (off + len * esz) b.cells.length && Nat.beq esz m
    | none => false
  | .c (.str s) => Nat.beq m 1
  | .c (.row _ _) => Nat.beq m 1
  | .c .nils => true
  | _ => false

def SV.noStr : SV → Bool | .c (.str _) => false | _ => true

/-- The cells of so many zero elements. -/
def zerosS (z : List SC) (c m : Nat) : List SC :=
  match z with
  | [z0] => List.replicate (c * m) z0
  | z => (List.range (c * m)).map fun i => z.getD (i % z.length) .nilp

def isByte (P : Program) (t : TypeId) : Bool := match P.underlying t with | some (.int .u8) => true | _ => false
theorem isByte_spec {P : Program} {t : TypeId} (h : isByte P t = true) : P.underlying t = some (.int .u8) := by
  unfold isByte at h; split at h; assumption; cases h

/-- What a function value has captured, as arguments. -/
def capArgs (caps : List (Nat × Nat)) : List SV := caps.map fun p => .c (.ptr p.1 p.2)
theorem capArgs_R {ρ : Ren} : ∀ {caps : List (Nat × Nat)} {vs : List Value}, All2 (PtrR ρ) caps vs → All2 (SV.R ρ) (capArgs caps) vs
  | [], _, h => by cases h; exact .nil
  | p :: caps, _, h => by
    cases h with
    | cons h1 h2 => exact .cons h1 (capArgs_R h2)
/-- Slices of arrays; literals of slices; conversions between bytes and strings. -/
def mop (P : Program) (C : List (Nat × Con)) (op : Op) (ev : Operand → SV) (T : Tab) (kb : Nat) : Option Res :=
  match op with
  | .load t x => match ev x with
    | .c (.ptr k off) => match T.blk k with
      | some b => match loadS P t b off with
        | some (o, v) => some ⟨o, [], v, []⟩
        | none => none
      | none => none
    | _ => none
  | .alloc t => match zeroS P t with
    | some cs => some ⟨true, [], .c (.ptr kb 0), [(kb, ⟨cs, t, false, true⟩)]⟩
    | none => none
  | .box t x => match (ev x).cells with
    | some cs => some ⟨true, [], .c (.ptr kb 0), [(kb, ⟨cs, t, false, true⟩)]⟩
    | none => none
  | .slice t x lo hi mx => match mx, P.underlying t, ev x with
    | none, some (.array n e), .c (.ptr k off) => match T.blk k, sizeS P e, bndS ev 0 lo, bndS ev n hi with
      | some b, some m, some (o1, l), some (o2, h) => some ⟨o1 && (o2 && (Nat.ble l h && (Nat.ble h n && Nat.ble (off + n * m) b.cells.length))), [], .c (.slc k (off + l * m) m (h - l) (some (n - l))), []⟩
      | _, _, _, _ => none
    | _, _, _ => none
  | .buildSlice t len parts => match P.underlying t with
    | some (.slice e) => match sizeS P e, zeroS P e with
      | some m, some z => match fillS (fun i => some (i * m, m)) ((List.range (len * m)).map fun i => z.getD (i % z.length) .nilp) (parts.toList.map fun p => (p.1, ev p.2)) with
        | some cs => some ⟨Nat.ble (len * m) 16777216 && !(Nat.beq z.length 0), [], .c (.slc kb 0 m len (some len)), [(kb, ⟨cs, e, false, !(isByte P e) || Nat.beq len 0⟩)]⟩
        | none => none
      | _, _ => none
    | _ => none
  | .convert src dst x => match P.underlying src, P.underlying dst with
    | some .string, some (.slice e) => match ev x with
      | .c (.str s) => some ⟨isByte P e, [], .c (.slc kb 0 1 s.length none), [(kb, ⟨s.map SC.u8, e, true, false⟩)]⟩
      | _ => none
    | some (.slice _), some (.slice e) => match ev x with
      | .c (.slc k off esz len cap) => match T.blk k with
        | some b => some ⟨isByte P e && (Nat.beq src dst && (!b.own && !b.tail)), [], .c (.slc k off esz len cap), []⟩
        | none => none
      | _ => none
    | some (.slice e), some .string => some ⟨isByte P e && ((ev x).noStr && (srcOk T 1 (ev x) && (srcC T (ev x)).all SC.isU8)), [], .c (.str ((srcC T (ev x)).map SC.asU8)), []⟩
    | _, _ => none
  | .makeSlice t l c => match P.underlying t, (ev l).num, (ev c).num with
    | some (.slice e), some (_, l), some (_, c) => match P.info? e, sizeS P e, zeroS P e with
      | some i, some m, some z => some ⟨decide (0 ≤ l) && (decide (l ≤ c) && (Nat.ble (i.bytes * c.toNat) 281474976710656 && (Nat.ble c.toNat maxLen && (Nat.beq z.length m && Nat.blt 0 m)))), [], .c (.slc kb 0 m l.toNat (some c.toNat)), [(kb, ⟨zerosS z c.toNat m, e, false, true⟩)]⟩
      | _, _, _ => none
    | _, _, _ => none
  | .call c => match c.callee with
    | .value f => match ev f with
      | .c (.fn f caps) => match get C f with
        | some con => match con.run (c.args.toList.map ev ++ capArgs caps) T kb with
          | some (.new r) => some { r with ob := keysOk kb r.E && r.ob }
          | _ => none
        | none => none
      | _ => none
    | _ => none
  | _ => none

section
variable {ρ : Ren} {P : Program} {ev : Operand → SV} {val : Operand → Value} {X : Cx} {T : Tab} {w : World} {kb : Nat}

theorem RelP.at {M : Nat → Blk → Prop} {k : Nat} {b : Blk} {l : Loc} (h : RelP X ρ M w) (hk : M k b) (hl : ρ k = some (some l)) : b.R ρ w (some l) := by
  obtain ⟨x, hx, hb⟩ := h.blk k b hk
  rw [hl] at hx; cases hx; exact hb

theorem All2.of_append {α β : Type} {R : α → β → Prop} : ∀ {l l' : List α} {m : List β}, All2 R (l ++ l') m → ∃ m1 m2, m = m1 ++ m2 ∧ All2 R l m1 ∧ All2 R l' m2
  | [], l', m, h => ⟨[], m, rfl, .nil, h⟩
  | a :: l, l', m, h => by
    cases h with
    | cons h1 h2 =>
      obtain ⟨m1, m2, rfl, h3, h4⟩ := All2.of_append h2
      exact ⟨_ :: m1, m2, rfl, .cons h1 h3, h4⟩

theorem one_of_All2 {ρ : Ren} {cs : List SC} {vs : List Value} (h : All2 (SC.R ρ) cs vs) : ∀ v ∈ vs, v.oneCell' = true := by
  induction h with
  | nil => intro v hv; simp at hv
  | cons h1 _ ih => intro v hv; rcases List.mem_cons.1 hv with rfl | hv; exact h1.one; exact ih v hv

theorem add_eq (g off j : Nat) : (⟨g, off, none⟩ : Addr).add j = ⟨g, off + j, none⟩ := by unfold Addr.add; split <;> simp_all

/-- What is read of a slice whose block is known. -/
theorem slc_run {P : Program} {ρ : Ren} {w : World} {k off esz len : Nat} {cap : Option Nat} {b : Blk} {v : Value} {x : Option Loc} (hk : ρ k = some x) (hb : b.R ρ w x) (hx : (SC.slc k off esz len cap).R ρ v) (hle : off + len * esz ≤ b.cells.length) :
    ((b.cells.drop off).take (len * esz)).length = len * esz ∧ (∀ w', (Builtin.lenOf v).run P w' = .ok len w') ∧ ∃ news : List Value, All2 (SC.R ρ) ((b.cells.drop off).take (len * esz)) news ∧ ∀ w', w'.heap = w.heap → (Builtin.firstCells esz len v).run P w' = .ok news.toArray w' := by
  have hlen : ((b.cells.drop off).take (len * esz)).length = len * esz := by simp only [List.length_take, List.length_drop]; omega
  refine ⟨hlen, ?_, ?_⟩
  · intro w'
    rcases hx with ⟨_, ⟨_, rfl⟩, rfl, _⟩ | ⟨l, o, c, _, rfl, _⟩ <;> rfl
  · rcases hx with ⟨_, ⟨aa, rfl⟩, hl0, _⟩ | ⟨l, o, c, hk', rfl, hlc, hoc, _⟩
    · subst hl0
      refine ⟨[], ?_, fun w' _ => by cases aa <;> simp [Builtin.firstCells, loadCells, loadCellsFrom]⟩
      have : (b.cells.drop off).take (0 * esz) = [] := by simp
      rw [this]; exact .nil
    · rw [hk] at hk'; cases hk'
      obtain ⟨pre, vs, rest, fr, hh, hc, htot, _, hpre, _⟩ := hb
      have hcl := hc.length
      refine ⟨(vs.drop off).take (len * esz), (hc.drop off).take _, fun w' hw' => ?_⟩
      refine run_firstCells_some (P := P) w' esz len ⟨l.blk, o, none⟩ len c _ (by simp; omega) fun j u hj => ?_
      have hj' : j < len * esz := by
        rcases Nat.lt_or_ge j (len * esz) with h | h
        · exact h
        · rw [List.getElem?_eq_none (by simp; omega)] at hj; cases hj
      have hc0 : c ≠ 0 := fun e => by subst e; have : len = 0 := by omega
                                      subst this; simp at hj'
      rw [(hoc hc0).1, add_eq]
      rw [List.getElem?_take_of_lt hj', List.getElem?_drop] at hj
      have hlt : off + j < vs.length := (List.getElem?_eq_some_iff.1 hj).1
      rw [cell_of (w := w') (by rw [hw']; exact hh)]
      rw [List.getElem?_toArray, List.getElem?_append_right (by omega), hpre, Nat.add_assoc, Nat.add_sub_cancel_left, List.getElem?_append_left hlt, hj]

theorem u8_map {ρ ρ' : Ren} (bs : List UInt8) {vs : List Value} (h : All2 (SC.R ρ) (bs.map SC.u8) vs) : All2 (SC.R ρ') (bs.map SC.u8) vs := by
  induction bs generalizing vs with
  | nil => cases h; exact .nil
  | cons b bs ih => cases h with | cons h1 h2 => exact .cons h1 (ih h2)

/-- What is read of a source. -/
theorem src_run {P : Program} {X : Cx} {ρ : Ren} {T : Tab} {w : World} {m : Nat} {x : SV} {v : Value} (hrel : Rel X ρ T w) (hx : x.R ρ v) (h : srcOk T m x = true) :
    (srcC T x).length = srcN x * m ∧ (∀ w', (Builtin.lenOf v).run P w' = .ok (srcN x) w') ∧ ∃ news : List Value, All2 (SC.R ρ) (srcC T x) news ∧ ∀ w', w'.heap = w.heap → (Builtin.firstCells m (srcN x) v).run P w' = .ok news.toArray w' := by
  unfold srcOk at h
  split at h
  · rename_i k off esz len cap
    split at h <;> try (cases h; done)
    rename_i b hb
    simp only [Bool.and_eq_true, Nat.ble_eq] at h
    obtain ⟨hle, hm⟩ := h
    obtain rfl := Nat.eq_of_beq_eq_true hm
    obtain ⟨y, hy, hR⟩ := hrel.blk k b hb
    have := slc_run (P := P) hy hR hx hle
    simpa only [srcC, srcN, hb] using this
  · rename_i s
    obtain rfl := Nat.eq_of_beq_eq_true h
    obtain rfl : v = _ := hx
    refine ⟨by simp [srcC, srcN], fun w' => rfl, s.map fun b => .int .u8 b.toNat, ?_, fun w' _ => ?_⟩
    · exact All2.map (R := SC.R ρ) (f := SC.u8) (g := fun b => .int .u8 b.toNat) (fun b => rfl) s
    · simp only [Builtin.firstCells, srcN]
      have : ((⟨s.toArray⟩ : ByteArray).extract 0 s.length) = ⟨s.toArray⟩ := by
        apply ByteArray.ext
        simp
      rw [this]
      simp
  · rename_i bs u
    obtain rfl := Nat.eq_of_beq_eq_true h
    obtain ⟨rfl, hr, _⟩ := hx
    obtain ⟨off, b, y, hrow, hbR, hsR, _, hold⟩ := hrel.rows _ _ hr
    have hbR' : b.R (upd ρ 0 y) w y := (hbR _).keep (Le.refl _) fun l hl => hrel.old _ (hold l hl).1 (hold l hl).2
    have hcells : (b.cells.drop off).take (bs.length * 1) = bs.map SC.u8 := by
      rw [hrow.cells, Nat.mul_one, List.take_of_length_le (by simp)]
    obtain ⟨h1, h2, news, h3, h4⟩ := slc_run (P := P) (ρ := upd ρ 0 y) (k := 0) (upd_same _ _ _) hbR' (hsR _ 0 (upd_same _ _ _)) (by have := hrow.len; omega)
    rw [hcells] at h1 h3
    exact ⟨h1, h2, news, u8_map bs h3, h4⟩
  · obtain rfl : v = _ := hx
    exact ⟨by simp [srcC, srcN], fun w' => rfl, [], .nil, fun w' _ => rfl⟩
  · cases h

theorem zeroS_all {ρ : Ren} {P : Program} {t : TypeId} {cs : List SC} (h : zeroS P t = some cs) : ∃ z, (∀ w, (zeroValue t).run P w = .ok z w) ∧ All2 (SC.R ρ) cs z.cells.toList := by
  unfold zeroS at h
  split at h <;> try (cases h; done)
  rename_i z hz
  refine ⟨z, fun w => ?_, (SV.cells_R h (ofVal_R z)).1⟩
  cases hi : P.info? t with
  | none => simp [hi] at hz
  | some i => simp [hi] at hz; simp [zeroValue, typeInfo, hi, hz]

theorem zerosS_R {ρ : Ren} {z : List SC} {zv : Array Value} {c m : Nat} (hz : All2 (SC.R ρ) z zv.toList) (hm : z.length = m) (h0 : 0 < m) : All2 (SC.R ρ) (zerosS z c m) (madeCells zv (c * m)).toList := by
  have gen : All2 (SC.R ρ) ((List.range (c * m)).map fun i => z.getD (i % z.length) .nilp) (madeCells zv (c * m)).toList := by
    have hs : z.length = zv.size := by have := hz.length; simpa using this
    simp only [madeCells, Array.toList_map, Array.toList_range]
    refine All2.map (fun i => ?_) _
    have hlt : i % z.length < z.length := Nat.mod_lt _ (by omega)
    have hg : z[i % z.length]? = some (z.getD (i % z.length) .nilp) := by simp [List.getD, hlt]
    obtain ⟨v, hv, hr⟩ := hz.get hg
    rw [← hs]
    have : zv[i % z.length]! = v := by
      have hlt' : i % z.length < zv.size := by omega
      rw [getElem!_pos zv _ hlt']
      have := (List.getElem?_eq_some_iff.1 hv).2
      simpa using this
    rw [this]; exact hr
  unfold zerosS
  split
  · rename_i z0
    have e : ((List.range (c * m)).map fun i => [z0].getD (i % [z0].length) .nilp) = List.replicate (c * m) z0 := by
      rw [List.eq_replicate_iff]
      refine ⟨by simp, fun b hb => ?_⟩
      obtain ⟨i, _, rfl⟩ := List.mem_map.1 hb
      simp [Nat.mod_one]
    rw [← e]; exact gen
  · exact gen

theorem u8s_of {ρ : Ren} : ∀ {cs : List SC} {vs : List Value}, All2 (SC.R ρ) cs vs → cs.all SC.isU8 = true → vs = (cs.map SC.asU8).map fun b => Value.int .u8 b.toNat
  | [], vs, h, _ => by cases h; rfl
  | x :: cs, vs, h, ha => by
    cases h with
    | cons h1 h2 =>
      simp only [List.all_cons, Bool.and_eq_true] at ha
      rw [u8s_of h2 ha.2]
      cases x <;> first | (simp [SC.isU8] at ha; done) | skip
      obtain rfl := h1
      rfl

theorem pushes : ∀ (bs : List UInt8) (s : ByteArray), (bs.map fun b => (b.toNat : Int)).foldl (fun r n => r.push (UInt8.ofNat n.toNat)) s = ⟨s.data ++ bs.toArray⟩
  | [], s => by simp
  | b :: bs, s => by
    rw [List.map_cons, List.foldl_cons, pushes bs]
    apply ByteArray.ext
    simp [ByteArray.push]

theorem mop_does {C : List (Nat × Con)} (hC : LibOK P C) {o : Oper} (hv : ∀ x, (ev x).R ρ (val x)) (hrel : Rel X ρ T w) (hf : fresh ρ kb) {r : Res} (h : mop P C o.op ev T kb = some r) (hob : r.ob = true) (hobs : All r.obs) :
    Does P val o w fun v w' => ∃ ρ', r.v.R ρ' v ∧ New ρ ρ' r.E w w' := by
  obtain ⟨dst, op, type, pos, after, guard⟩ := o
  simp only at h
  have hkb : ρ kb = none := hf kb (Nat.le_refl _) (by omega)
  unfold mop at h
  split at h
  · -- load
    rename_i t x
    split at h <;> try (cases h; done)
    rename_i k off hx
    split at h <;> try (cases h; done)
    rename_i b hb
    split at h <;> try (cases h; done)
    rename_i ob v hl
    simp only [Option.some.injEq] at h; subst h
    simp only at hob; subst hob
    have h1 := hv x
    rw [hx] at h1
    obtain ⟨l, hk, hv'⟩ := h1
    obtain ⟨u, hu, hr⟩ := loadS_run (P := P) hl (hrel.at hb hk)
    refine .inl ⟨u, w, ?_, ρ, hr, New.refl _ _⟩
    simp only [execOp, Instr.loadAt, Sem.run_bind, hv', Instr.sureAddr, Sem.run_pure, Result.andThen_ok, hu]
  · -- alloc
    rename_i t
    split at h <;> try (cases h; done)
    rename_i cs hz
    simp only [Option.some.injEq] at h; subst h
    obtain ⟨z, hzr, hza, _⟩ := zeroS_run (ρ := ρ) (P := P) hz w
    refine .inl ⟨.pointer (some ⟨w.heap.size, 0, none⟩), w.alloc (.cells (z.cells.toList ++ []).toArray t), ?_, upd ρ kb (some ⟨w.heap.size, (z.cells.toList ++ []).length, !true, 0⟩), ?_, New.alloc hkb hza fun _ => rfl⟩
    · simp only [execOp, Instr.alloc, Sem.run_bind, hzr, Result.andThen_ok, newVar, newRow, run_newObj, Sem.run_pure, List.append_nil, Array.toArray_toList]
      rfl
    · exact ⟨⟨w.heap.size, _, _, 0⟩, upd_same _ _ _, rfl⟩
  · -- box
    rename_i t x
    split at h <;> try (cases h; done)
    rename_i cs hc
    simp only [Option.some.injEq] at h; subst h
    have ha := (SV.cells_R hc (hv x)).1
    refine .inl ⟨.pointer (some ⟨w.heap.size, 0, none⟩), w.alloc (.cells ((val x).cells.toList ++ []).toArray t), ?_, upd ρ kb (some ⟨w.heap.size, ((val x).cells.toList ++ []).length, !true, 0⟩), ?_, New.alloc hkb ha fun _ => rfl⟩
    · simp only [execOp, Instr.box, Sem.run_bind, Result.andThen_ok, newVar, newRow, run_newObj, Sem.run_pure, List.append_nil, Array.toArray_toList]
      rfl
    · exact ⟨⟨w.heap.size, _, _, 0⟩, upd_same _ _ _, rfl⟩
  · -- slice
    rename_i t x lo hi mx
    split at h <;> try (cases h; done)
    rename_i n e k off hu hx
    split at h <;> try (cases h; done)
    rename_i b m o1 l o2 hh hb hm hl hhi
    simp only [Option.some.injEq] at h; subst h
    simp only [Bool.and_eq_true, Nat.ble_eq] at hob
    obtain ⟨rfl, rfl, hlh, hhn, hfit⟩ := hob
    have h1 := hv x
    rw [hx] at h1
    obtain ⟨lc, hk, hv'⟩ := h1
    have hbd := bounds_run (P := P) hv hl hhi hlh false n hhn w
    refine .inl ⟨.slice (some (if n = l then ⟨lc.blk, lc.o0 + off, none⟩ else (⟨lc.blk, lc.o0 + off, none⟩ : Addr).add (l * m))) (hh - l) (n - l), w, ?_, ρ, .inr ⟨lc, if n = l then lc.o0 + off else lc.o0 + off + l * m, n - l, hk, ?_, by omega, ?_, ?_⟩, New.refl _ _⟩
    · simp only [execOp, Instr.sliceAt, Sem.run_bind, run_underlying hu, Result.andThen_ok, hv', Instr.sureAddr, Sem.run_pure, Option.map_none, hbd, sizeS_run hm]
    · by_cases hcl : n = l
      · simp [hcl]
      · simp only [if_neg hcl, Addr.add]
        by_cases hz : l * m = 0 <;> simp [hz]
    · intro hne
      refine ⟨by rw [if_neg (by omega), Nat.add_assoc], ?_⟩
      obtain ⟨pre, vs, rest, fr, _, hc, ht, _⟩ := hrel.at hb hk
      have h1 := hc.length
      have h2 : n * m = (n - l) * m + l * m := by rw [← Nat.add_mul]; congr 1; omega
      simp at ht
      omega
    · intro q hq; cases hq; rfl
  · -- buildSlice
    rename_i t len parts
    split at h <;> try (cases h; done)
    rename_i e hu
    split at h <;> try (cases h; done)
    rename_i m z hm hz
    split at h <;> try (cases h; done)
    rename_i cs hcs
    simp only [Option.some.injEq] at h; subst h
    simp only [Bool.and_eq_true, Nat.ble_eq, Bool.not_eq_true'] at hob
    obtain ⟨hle, hz0⟩ := hob
    obtain ⟨zv, hzr, hza, _⟩ := zeroS_run (ρ := ρ) (P := P) hz w
    have hzl : z.length = zv.cells.size := by have := hza.length; simpa using this
    have hzpos : 0 < z.length := by
      rcases Nat.eq_zero_or_pos z.length with h | h
      · rw [h] at hz0; simp at hz0
      · exact h
    have hza2 : All2 (SC.R ρ) ((List.range (len * m)).map fun i => z.getD (i % z.length) .nilp) ((List.range (len * m)).map fun i => (if len * m = 0 then #[] else zv.cells)[i % (if len * m = 0 then #[] else zv.cells).size]!) := by
      have : ∀ (ls : List Nat), (∀ i ∈ ls, i < len * m) → All2 (SC.R ρ) (ls.map fun i => z.getD (i % z.length) .nilp) (ls.map fun i => (if len * m = 0 then #[] else zv.cells)[i % (if len * m = 0 then #[] else zv.cells).size]!) := by
        intro ls
        induction ls with
        | nil => intro _; exact .nil
        | cons i ls ih =>
          intro hi
          have h0 := hi i (by simp)
          refine .cons ?_ (ih fun j hj => hi j (by simp [hj]))
          have hne : ¬ len * m = 0 := by omega
          simp only [if_neg hne]
          have hlt : i % z.length < z.length := Nat.mod_lt _ hzpos
          have hg : z[i % z.length]? = some (z.getD (i % z.length) .nilp) := by simp [List.getD, hlt]
          obtain ⟨v, hv, hr⟩ := hza.get hg
          rw [← hzl]
          have : zv.cells[i % z.length]! = v := by
            have hlt' : i % z.length < zv.cells.size := by omega
            rw [getElem!_pos zv.cells _ hlt']
            have := (List.getElem?_eq_some_iff.1 hv).2
            simpa using this
          rw [this]; exact hr
      exact this _ fun i hi => List.mem_range.1 hi
    have hparts : All2 (fun (p : Nat × SV) (q : Nat × Value) => p.1 = q.1 ∧ p.2.R ρ q.2) (parts.toList.map fun p => (p.1, ev p.2)) (parts.map fun (p : Nat × Operand) => (p.1, val p.2)).toList := by
      rw [Array.toList_map]
      exact All2.map (fun p => ⟨rfl, hv p.2⟩) _
    obtain ⟨rv, hrv, hr⟩ := fillS_run hparts hza2 hcs
    refine .inl ⟨.slice (some ⟨w.heap.size, 0, none⟩) len len, w.alloc (.cells (rv ++ []).toArray e), ?_, upd ρ kb (some ⟨w.heap.size, (rv ++ []).length, !(!(isByte P e) || Nat.beq len 0), 0⟩), ?_, New.alloc hkb hr fun _ => rfl⟩
    · simp only [execOp, Instr.buildSlice, Sem.run_bind, run_underlying hu, Result.andThen_ok, sizeS_run hm]
      have hgt : ¬ (len * m > 2 ^ 24) := by omega
      simp only [if_neg hgt]
      have hrv' : Instr.fill (fun i => some (i * m, m)) ((Array.range (len * m)).map fun i => (if len * m = 0 then #[] else zv.cells)[i % (if len * m = 0 then #[] else zv.cells).size]!) (parts.map fun (p : Nat × Operand) => (p.1, val p.2)).toList = some rv.toArray := by
        rw [← hrv]; congr 1
        apply Array.toList_inj.1
        simp
      by_cases h0 : len * m = 0
      · rw [if_pos h0] at hrv' ⊢
        simp only [Sem.run_bind, Sem.run_pure, Result.andThen_ok]
        rw [hrv']
        simp only [Sem.run_bind, newRow, run_newObj, Result.andThen_ok, Sem.run_pure, List.append_nil]
        rfl
      · rw [if_neg h0] at hrv' ⊢
        simp only [Sem.run_bind, hzr, Sem.run_pure, Result.andThen_ok]
        rw [hrv']
        simp only [Sem.run_bind, newRow, run_newObj, Result.andThen_ok, Sem.run_pure, List.append_nil]
        rfl
    · refine .inr ⟨⟨w.heap.size, _, _, 0⟩, 0, len, upd_same _ _ _, rfl, Nat.le_refl _, fun _ => ⟨rfl, ?_⟩, fun n hn => by cases hn; rfl⟩
      have h1 := hr.length
      have h2 : cs.length = len * m := by
        have : ∀ {parts : List (Nat × SV)} {c r : List SC}, fillS (fun i => some (i * m, m)) c parts = some r → r.length = c.length := by
          intro parts
          induction parts with
          | nil => intro c r h; simp [fillS] at h; subst h; rfl
          | cons p parts ih =>
            intro c r h
            obtain ⟨i, x⟩ := p
            unfold fillS at h
            split at h <;> try (cases h; done)
            split at h <;> try (cases h; done)
            rw [ih h, setRange_length]
        rw [this hcs]; simp
      simp only [List.append_nil]
      omega
  · -- convert
    rename_i src dst x
    split at h <;> try (cases h; done)
    · rename_i e hs hd
      split at h <;> try (cases h; done)
      rename_i s hx
      simp only [Option.some.injEq] at h; subst h
      have hb := isByte_spec hob
      have h1 : val x = .string ⟨s.toArray⟩ := by have := hv x; rw [hx] at this; exact this
      have hr := Lib.run_convert_string_bytes (P := P) w src dst e ⟨s.toArray⟩ hs hd hb
      have hge : s.length ≤ grownCap w s.length 0 e := grownCap_ge _ _ _ _
      have hnew := Lib.bytesWorld_at_new w e ⟨s.toArray⟩
      have hsz : (Lib.bytesCells w e ⟨s.toArray⟩).size = grownCap w s.length 0 e := by
        simp only [Lib.bytesCells, Array.size_append, Array.size_map, Array.size_replicate, ByteArray.size, List.size_toArray]; omega
      refine .inl ⟨.slice (some ⟨w.heap.size, 0, none⟩) s.length (grownCap w s.length 0 e), Lib.bytesWorld w e ⟨s.toArray⟩, by simp only [execOp, h1, Sem.run_bind, hr, Result.andThen_ok, Sem.run_pure]; rfl, upd ρ kb (some ⟨w.heap.size, grownCap w s.length 0 e, false, 0⟩), ?_, ?_⟩
      · refine .inr ⟨_, 0, _, upd_same _ _ _, rfl, by simpa [ByteArray.size] using hge, fun _ => ⟨rfl, ?_⟩, fun n hn => by cases hn⟩
        simp [ByteArray.size]
      · refine New.one hkb ⟨rfl, rfl, rfl, ?_, fun j hj => Lib.bytesWorld_at_old w e _ j hj⟩ ?_ (fun l hl => by cases hl; exact Nat.le_refl _) (fun l hl h => rfl)
        · rw [Lib.bytesWorld_size]; omega
        · refine ⟨[], s.map fun b => .int .u8 b.toNat, List.replicate (grownCap w s.length 0 e - s.length) (.int .u8 0), ((Lib.bytesCells w e ⟨s.toArray⟩).size, (Lib.bytesCells w e ⟨s.toArray⟩).size + 1), ?_, All2.map (R := SC.R _) (f := SC.u8) (g := fun b => .int .u8 b.toNat) (fun b => rfl) s, ?_, fun h => by simp at h, rfl, fun h => by simp at h, fun _ h => by simp at h⟩
          · rw [hnew]
            congr 2
            apply Array.ext'
            simp [Lib.bytesCells, ByteArray.size]
          · simp; omega
    · rename_i e0 e hs hd
      split at h <;> try (cases h; done)
      rename_i k off esz len cap hx
      split at h <;> try (cases h; done)
      rename_i b hb
      simp only [Option.some.injEq] at h; subst h
      simp only [Bool.and_eq_true, Bool.not_eq_true'] at hob
      obtain ⟨hby, hsd, hown, htail⟩ := hob
      obtain rfl := Nat.eq_of_beq_eq_true hsd
      have hby := isByte_spec hby
      have h1 := hv x
      rw [hx] at h1
      obtain ⟨l, o, c, hk, hval, hlc, hoc, hcap⟩ : ∃ l o c, ρ k = some (some l) ∧ val x = .slice (some ⟨l.blk, o, none⟩) len c ∧ len ≤ c ∧ (c ≠ 0 → o = l.o0 + off ∧ off + c * esz ≤ l.tot) ∧ ∀ n, cap = some n → c = n := by
        rcases h1 with ⟨hk, _⟩ | h1
        · obtain ⟨y, hy, hR⟩ := hrel.blk k b hb
          rw [hk] at hy; cases hy
          have := hR.2; rw [htail] at this; cases this
        · exact h1
      obtain ⟨pre, vs, rest, fr, hh, hc, htot, _, hpre, _, hlit⟩ := hrel.at hb hk
      obtain ⟨hll, ho0, hfe⟩ := hlit hown htail
      obtain rfl : pre = [] := List.eq_nil_of_length_eq_zero (hpre.trans ho0)
      rw [List.nil_append] at hh
      have hlt : l.blk < w.heap.size := (Array.getElem?_eq_some_iff.1 hh).1
      have hsz : (vs ++ rest).toArray.size = l.tot := by simpa using htot
      have hsh : w.shape? l.blk = some (b.ty, l.tot) := by
        simp only [World.shape?, hh]; rw [hsz]
      have hnew : (w.freeze ⟨l.blk, l.tot, none⟩ 1).heap[l.blk]? = some (.cells (vs ++ rest).toArray b.ty (if fr.1 == fr.2 then (l.tot, l.tot + 1) else (min fr.1 l.tot, max fr.2 (l.tot + 1)))) := by
        unfold World.freeze
        rw [if_neg (by decide)]
        simp only [Array.getElem?_modify, hh, if_true, Option.map_some]
      have hoth : ∀ j, j ≠ l.blk → (w.freeze ⟨l.blk, l.tot, none⟩ 1).heap[j]? = w.heap[j]? := fun j hj => by
        unfold World.freeze
        rw [if_neg (by decide)]
        simp only [Array.getElem?_modify]
        rw [if_neg (by exact fun e => hj e.symm)]
      refine .inl ⟨val x, w.freeze ⟨l.blk, l.tot, none⟩ 1, ?_, ρ, .inr ⟨l, o, c, hk, hval, hlc, hoc, hcap⟩, ?_⟩
      · rw [hd] at hs
        simp only [execOp, hval, convert, Sem.run_bind, run_underlying hd, Result.andThen_ok, run_underlying hby, beq_self_eq_true, markStringish, run_shape, hsh, run_freeze, Sem.run_pure]
      · refine ⟨rfl, rfl, rfl, by simp [World.freeze], fun j hj => ?_, Le.refl _, fun _ _ => rfl, fun _ _ h => by simp at h, fun _ _ _ _ _ _ h => by simp at h, fun _ _ _ h => by simp at h, rfl⟩
        by_cases hjl : j = l.blk
        · subst hjl
          refine .inr ⟨⟨k, l, hk, hll, rfl⟩, _, _, fr, _, hh, hnew, fun _ => ?_⟩
          · rw [hsz]
            by_cases he2 : fr.1 = fr.2
            · rw [if_pos (by simpa using he2)]; right; exact Nat.le_refl _
            · rw [if_neg (by simpa using he2)]; right; rcases hfe with he | he
              · exact absurd he he2
              · simp; omega
        · exact .inl (hoth j hjl)
    · rename_i e hs hd
      simp only [Option.some.injEq] at h; subst h
      simp only [Bool.and_eq_true] at hob
      obtain ⟨hb, hno, hsrc, hall⟩ := hob
      have hb := isByte_spec hb
      obtain ⟨hsl, _, news, hn, hfc⟩ := src_run (P := P) hrel (hv x) hsrc
      have hu := u8s_of hn hall
      have hev := hv x
      refine .inl ⟨.string ⟨((srcC T (ev x)).map SC.asU8).toArray⟩, w, ?_, ρ, rfl, New.refl _ _⟩
      have key : (convert src dst (val x)).run P w = .ok (.string ⟨((srcC T (ev x)).map SC.asU8).toArray⟩) w := by
        revert hfc hsrc hsl hall hn hu hev hno
        generalize ev x = y
        generalize val x = v
        intro hno hsrc hall hsl hn hfc hu hev
        cases y with
        | c y =>
          cases y <;> try (simp [srcOk] at hsrc; done)
          case str s =>
            simp [SV.noStr] at hno
          case nils =>
            obtain rfl : v = _ := hev
            rw [run_convert_bytes_string w src dst e _ _ _ hs hb hd]
            rfl
          case row bs u =>
            obtain ⟨rfl, hr, _⟩ := hev
            obtain ⟨off, b, y, hrow, hbR, hsR, _, hold⟩ := hrel.rows _ _ hr
            rcases hsR (upd ρ 0 y) 0 (upd_same _ _ _) with ⟨_, ⟨aa, rfl⟩, hl0, _⟩ | ⟨l, o, c, hk, rfl, h2⟩
            · rw [run_convert_bytes_string w src dst e _ _ _ hs hb hd]
              have : bs = [] := List.eq_nil_of_length_eq_zero hl0
              subst this; cases aa <;> rfl
            · rw [run_convert_bytes_string w src dst e _ _ _ hs hb hd]
              have h1 := hfc w rfl
              simp only [Builtin.firstCells, srcN, Nat.mul_one] at h1
              have h3 := run_bytesToString (P := P) w ⟨l.blk, o, none⟩ bs.length c (((srcC T (.c (.row bs (.slice (some ⟨l.blk, o, none⟩) bs.length c)))).map SC.asU8).map fun b => (b.toNat : Int)) (by rw [h1, hu]; congr 1; apply Array.ext'; simp)
              rw [h3, pushes]
              simp [ByteArray.empty, ByteArray.emptyWithCapacity]
              rfl
          case slc k off esz len cap =>
            rcases hev with ⟨_, ⟨aa, rfl⟩, rfl, _⟩ | ⟨l, o, c, hk, rfl, h2⟩
            · rw [run_convert_bytes_string w src dst e _ _ _ hs hb hd]
              have : srcC T (.c (.slc k off esz 0 cap)) = [] := List.eq_nil_of_length_eq_zero (by rw [hsl]; simp [srcN])
              rw [this]; cases aa <;> rfl
            · rw [run_convert_bytes_string w src dst e _ _ _ hs hb hd]
              have h1 := hfc w rfl
              simp only [Builtin.firstCells, srcN, Nat.mul_one] at h1
              have h3 := run_bytesToString (P := P) w ⟨l.blk, o, none⟩ len c (((srcC T (.c (.slc k off esz len cap))).map SC.asU8).map fun b => (b.toNat : Int)) (by rw [h1, hu]; congr 1; apply Array.ext'; simp)
              rw [h3, pushes]
              simp [ByteArray.empty, ByteArray.emptyWithCapacity]
              rfl
        | agg cs => simp [srcOk] at hsrc
        | tup vs => simp [srcOk] at hsrc
        | und => simp [srcOk] at hsrc
      simp only [execOp, Sem.run_bind, key, Result.andThen_ok, Sem.run_pure]
  · -- makeSlice
    rename_i t lo co
    split at h <;> try (cases h; done)
    rename_i e kl l kc c hu hl hc
    split at h <;> try (cases h; done)
    rename_i i m z hi hm hz
    simp only [Option.some.injEq] at h; subst h
    simp only [Bool.and_eq_true, Nat.ble_eq, Nat.blt_eq, decide_eq_true_eq] at hob
    obtain ⟨h0, hlc, hby, hmax, hzl, hm0⟩ := hob
    have hzl := Nat.eq_of_beq_eq_true hzl
    have hl' := SV.num_R hl (hv lo)
    have hc' := SV.num_R hc (hv co)
    obtain ⟨z', hz', hza⟩ := zeroS_all (ρ := ρ) (P := P) hz
    obtain ⟨zz, hzz, hzz2⟩ : ∃ zz, i.zero = some zz ∧ zz = z' := by
      have := hz' w
      cases h : i.zero with
      | none => simp [zeroValue, typeInfo, hi, h, stuck] at this
      | some q => simp [zeroValue, typeInfo, hi, h] at this; exact ⟨q, rfl, this⟩
    subst hzz2
    have hmi : i.size = m := by simpa [sizeS, hi] using hm
    have hc0 : 0 ≤ c := Int.le_trans h0 hlc
    have hcn : ((c.toNat : Nat) : Int) = c := Int.toNat_of_nonneg hc0
    have hby' : (i.bytes : Int) * c ≤ 281474976710656 := by
      rw [← hcn, ← Int.natCast_mul]; omega
    have hr := run_make (P := P) w t e i zz hu hi hzz kl kc l c h0 hlc hby' (by simp only [maxLen] at hmax; omega)
    rw [hmi] at hr
    have hR := zerosS_R (ρ := ρ) (c := c.toNat) (m := m) hza hzl hm0
    have hlen := hR.length
    simp only [Array.length_toList, size_madeCells] at hlen
    refine .inl ⟨.slice (some ⟨w.heap.size, 0, none⟩) l.toNat c.toNat, w.alloc (.cells ((madeCells zz.cells (c.toNat * m)).toList ++ []).toArray e), by simp only [execOp, hl', hc', Sem.run_bind, hr, Result.andThen_ok, Sem.run_pure, List.append_nil, Array.toArray_toList], upd ρ kb (some ⟨w.heap.size, ((madeCells zz.cells (c.toNat * m)).toList ++ []).length, !true, 0⟩), ?_, New.alloc hkb hR fun _ => rfl⟩
    refine .inr ⟨_, 0, _, upd_same _ _ _, rfl, by omega, fun _ => ⟨rfl, by simp [size_madeCells]⟩, fun n hn => by cases hn; rfl⟩
  · -- call
    rename_i c
    split at h <;> try (cases h; done)
    rename_i fo hcal
    split at h <;> try (cases h; done)
    rename_i f caps' hfe
    split at h <;> try (cases h; done)
    rename_i con hcon
    split at h <;> try (cases h; done)
    rename_i r' hr'
    simp only [Option.some.injEq] at h; subst h
    simp only [Bool.and_eq_true] at hob
    have h1 := hv fo
    rw [hfe] at h1
    obtain ⟨vs, hv', hcaps⟩ := h1
    obtain ⟨hent, hcalls, _⟩ := hC f con hcon
    have hargs : All2 (SV.R ρ) (c.args.toList.map ev ++ capArgs caps') ((c.args.map val) ++ vs.toArray).toList := by
      rw [Array.toList_append, Array.toList_map]
      exact (All2.map hv _).append (capArgs_R hcaps)
    have hcl := hcalls _ _ _ _ hr' hob.2 hobs X ρ w _ hrel hargs hf
    refine .inr (.inr ⟨f, (c.args.map val) ++ vs.toArray, ?_, ?_⟩)
    · simp only [execOp, resolve, hcal, Sem.run_bind, hv', Deferred.ofValue, Sem.run_pure, Result.andThen_ok, invoke, Array.empty_append, hent]
    · rw [Array.toArray_toList] at hcl
      exact hcl.mono fun e w' ⟨v, ρ', he, hr, hn⟩ => ⟨v, he, ρ', hr, hn⟩
  · cases h
end

end Go.Proofs.YtabiknpgakhkkaaGreat.Sx
end

section
namespace Go.Proofs.YtabiknpgakhkkaaGreat.Sx
open Go.RowKit
set_option linter.unusedVariables false
set_option linter.unusedSimpArgs false

section store
variable {P : Program}

theorem storeCells_run (g : Nat) (t : TypeId) (fr : Nat × Nat) (n : Nat) (hfr : ∀ j, j < n → (fr.1 ≤ j && j < fr.2) = false) : ∀ (vs : List Value) (off i : Nat) (cur : List Value) (w : World), w.heap[g]? = some (.cells cur.toArray t fr) → cur.length = n → off + i + vs.length ≤ n → (∀ v ∈ vs, v.oneCell' = true) →
    ∃ w', (storeCells ⟨g, off, none⟩ vs i).run P w = .ok () w' ∧ w'.heap[g]? = some (.cells (setRangeV cur (off + i) vs).toArray t fr) ∧ (∀ k, k ≠ g → w'.heap[k]? = w.heap[k]?) ∧ w'.heap.size = w.heap.size ∧ w'.os = w.os ∧ w'.tape = w.tape ∧ w'.output = w.output
  | [], off, i, cur, w, hg, hl, hle, _ => ⟨w, rfl, hg, fun _ _ => rfl, rfl, rfl, rfl, rfl⟩
  | v :: rest, off, i, cur, w, hg, hl, hle, h1 => by
    have hi : off + i < cur.length := by simp at hle; omega
    have hadd : (⟨g, off, none⟩ : Addr).add i = ⟨g, off + i, none⟩ := by unfold Addr.add; split <;> simp_all
    have hcell : w.cell? ⟨g, off + i, none⟩ = some cur[off + i] := by rw [cell_of hg]; simp [hi]
    have hfro : w.frozen? ⟨g, off + i, none⟩ = false := by simp only [World.frozen?, hg]; exact hfr _ (by omega)
    have hst : (store ((⟨g, off, none⟩ : Addr).add i) v).run P w = .ok () (w.setRow g (cur.toArray.setIfInBounds (off + i) v)) := by
      rw [hadd, run_store P w _ v _ (h1 v (by simp)), hcell]
      simp [hfro, setCell_eq_setRow w g (off + i) cur.toArray t fr v hg]
    have hheap : (w.setRow g (cur.toArray.setIfInBounds (off + i) v)).heap[g]? = some (.cells (cur.set (off + i) v).toArray t fr) := by
      rw [setRow_heap w g _ _ t fr hg]; simp
    obtain ⟨w', hr, hh, ho, hs, h2⟩ := storeCells_run g t fr n hfr rest off (i + 1) (cur.set (off + i) v) _ hheap (by simpa using hl) (by simp at hle; omega) (fun x hx => h1 x (by simp [hx]))
    refine ⟨w', ?_, hh, fun k hk => (ho k hk).trans (setRow_other w g k _ hk), hs.trans (by simp), h2⟩
    simp only [storeCells, Sem.run_bind, hst, Result.andThen_ok, hr]
end store

/-- A table with a block stored into. -/
def storeS (P : Program) (T : Tab) (t : TypeId) (x y : SV) : Option (Bool × Tab) :=
  match x, y.cells with
  | .c (.ptr k off), some xs => match T.blk k, sizeS P t with
    | some b, some n => some (b.own && (Nat.beq xs.length n && Nat.ble (off + xs.length) b.cells.length), set T k (some { b with cells := setRange b.cells off xs }))
    | _, _ => none
  | _, _ => none

theorem setRangeV_append (vs rest : List Value) : ∀ (xs : List Value) (off : Nat), off + xs.length ≤ vs.length → setRangeV (vs ++ rest) off xs = setRangeV vs off xs ++ rest := by
  intro xs
  induction xs generalizing vs with
  | nil => intro off _; rfl
  | cons x xs ih =>
    intro off h
    simp only [setRangeV]
    rw [List.set_append_left _ _ (by simp at h; omega)]
    exact ih _ _ (by simp at h ⊢; omega)

theorem Rel.store {P : Program} {X : Cx} {ρ : Ren} {T T' : Tab} {w : World} {t : TypeId} {x y : SV} {u v : Value} (h : Rel X ρ T w) (hs : storeS P T t x y = some (true, T')) (hx : x.R ρ u) (hy : y.R ρ v) :
    ∃ w', (Instr.storeAt t u v).run P w = .ok () w' ∧ Rel X ρ T' w' := by
  unfold storeS at hs
  split at hs <;> try (cases hs; done)
  rename_i k off xs hxs
  split at hs <;> try (cases hs; done)
  rename_i b n hb hn
  simp only [Option.some.injEq, Prod.mk.injEq, Bool.and_eq_true, Nat.ble_eq] at hs
  obtain ⟨⟨hown, hsz, hle⟩, rfl⟩ := hs
  have hsz := Nat.eq_of_beq_eq_true hsz
  obtain ⟨l, hk, rfl⟩ := hx
  obtain ⟨ha, h1⟩ := SV.cells_R hxs hy
  have hlen : v.cells.size = xs.length := by have := ha.length; simpa using this.symm
  obtain ⟨pre, vs, rest, fr, hh, hc, htot, htail, hpre, hfr0, _⟩ := h.at hb hk
  obtain ⟨ho0, rfl⟩ := hfr0 hown
  obtain rfl : pre = [] := List.eq_nil_of_length_eq_zero (hpre.trans ho0)
  rw [List.nil_append] at hh
  have hcl := hc.length
  obtain ⟨w', hr, hh', ho, hsize, hos, htape, hout⟩ := storeCells_run (P := P) l.blk b.ty (0, 0) l.tot (fun j _ => by simp) v.cells.toList off 0 (vs ++ rest) w hh htot (by rw [← htot]; simp; omega) h1
  refine ⟨w', ?_, ?_⟩
  · have hne : ¬ (v.cells.size ≠ n) := by omega
    simp only [ho0, Nat.zero_add]
    simp only [Instr.storeAt, Instr.sureAddr, Sem.run_bind, Sem.run_pure, Result.andThen_ok, storeVar, sizeS_run hn, if_neg hne, hr]
  · obtain ⟨hsep1, hsep2⟩ := h.sep k b l hb hown hk
    have hother : ∀ k' b' l', k' ≠ k → T.blk k' = some b' → ρ k' = some (some l') → w'.heap[l'.blk]? = w.heap[l'.blk]? := fun k' b' l' hne hb' hl' =>
      ho _ (hsep2 k' b' l' hne hb' hl')
    have same : ∀ {k1 : Nat} {b1 : Blk}, Tab.blk (set T k (some { b with cells := setRange b.cells off xs })) k1 = some b1 → ∃ b0, T.blk k1 = some b0 ∧ b0.own = b1.own := fun {k1 b1} hk1 => by
      by_cases hkk : k = k1
      · subst hkk; rw [blk_set_same] at hk1; cases hk1; exact ⟨b, hb, rfl⟩
      · rw [blk_set_ne _ _ hkk] at hk1; exact ⟨b1, hk1, rfl⟩
    refine ⟨hos.trans h.os, htape.trans h.tape, hout.trans h.output, by rw [hsize]; exact h.size, by rw [hsize]; exact h.size0, ?_, ?_, ?_, fun k1 l1 hl1 hlit => ?_, h.rows⟩
    · intro b' hb' hm
      rw [ho b' (fun e => by rcases hsep1 with h1 | h1; omega; subst e; exact hm h1)]
      exact h.old b' hb' hm
    · intro k' b' hk'
      by_cases hkk : k = k'
      · subst hkk
        rw [blk_set_same] at hk'; cases hk'
        refine ⟨some l, hk, [], setRangeV vs off v.cells.toList, rest, (0, 0), ?_, setRange_All2 ha off hc, ?_, htail, ho0.symm, fun _ => ⟨ho0, rfl⟩, fun h => by simp only at h; rw [hown] at h; cases h⟩
        · rw [hh', Nat.add_zero, setRangeV_append _ _ _ _ (by simp; omega)]; rfl
        · rw [List.length_append, setRangeV_length, ← List.length_append, htot]
      · rw [blk_set_ne _ _ hkk] at hk'
        obtain ⟨x, hx, hbR⟩ := h.blk k' b' hk'
        refine ⟨x, hx, hbR.keep (Le.refl _) fun l' hl' => ?_⟩
        subst hl'
        exact hother k' b' l' (Ne.symm hkk) hk' hx
    · intro k1 b1 l1 hk1 ho1 hl1
      obtain ⟨b0, hb0, ho0⟩ := same hk1
      obtain ⟨g1, g2⟩ := h.sep k1 b0 l1 hb0 (ho0.trans ho1) hl1
      exact ⟨g1, fun k' b' l' hne hk' hl' => by obtain ⟨b2, hb2, _⟩ := same hk'; exact g2 k' b2 l' hne hb2 hl'⟩
    · obtain ⟨g1, g2, g3⟩ := h.lit k1 l1 hl1 hlit
      exact ⟨g1, by rw [hsize]; exact g2, fun k' b' l' hk' ho' hl' => by obtain ⟨b2, hb2, ho2⟩ := same hk'; exact g3 k' b2 l' hb2 (ho2.trans ho') hl'⟩

/-! append. -/
def isSrc (P : Program) (u : TypeId) : Bool := match P.underlying u with | some (.slice _) => true | some .string => true | _ => false

/-- Bytes of an element; its cells; a zero one's. -/
def elemS (P : Program) (t : TypeId) : Option (TypeId × Nat × Nat × List SC) :=
  match P.underlying t with
  | some (.slice e) => match P.info? e, sizeS P e, zeroS P e with
    | some i, some m, some z => some (e, m, i.bytes, z)
    | _, _, _ => none
  | _ => none

def appS (P : Program) (T : Tab) (kb : Nat) (t u : TypeId) (s x : SV) : Option Turned :=
  match elemS P t with
  | some (e, m, by_, z) => match s with
    | .c .nils => some ⟨isSrc P u && (Nat.beq z.length m && (Nat.blt 0 m && (srcOk T m x && (Nat.ble (srcN x) maxLen && Nat.ble (srcN x * by_) 140737488355328)))), [], .c (.slc kb 0 m (srcN x) none), (kb, some ⟨srcC T x, e, true, true⟩) :: T⟩
    | .c (.slc k off esz len _) => match T.blk k with
      | some b => some ⟨isSrc P u && (Nat.beq z.length m && (Nat.blt 0 m && (srcOk T m x && (Nat.ble (len + srcN x) maxLen && (Nat.ble ((len + srcN x) * by_) 140737488355328 && (b.own && (Nat.beq off 0 && (Nat.beq esz m && (Nat.beq b.ty e && Nat.ble (len * m) b.cells.length))))))))), [],
          .c (.slc kb 0 m (len + srcN x) none), (kb, some ⟨b.cells.take (len * m) ++ srcC T x, e, true, true⟩) :: set T k none⟩
      | none => none
    | _ => none
  | none => none

def isI64 (P : Program) (u : TypeId) : Bool := match P.underlying u with | some (.int .i64) => true | _ => false
/-- So many zero elements behind nil. -/
def appZ (P : Program) (T : Tab) (kb : Nat) (t u : TypeId) (s x : SV) : Option Turned :=
  match elemS P t, s, x with
  | some (e, m, by_, z), .c .nils, .c (.int n) => some ⟨isI64 P u && (Nat.beq z.length m && (Nat.blt 0 m && (decide (0 < n) && decide (n * by_ ≤ 140737488355328) && decide (n ≤ 9223372036854775807)))), [], .c (.slc kb 0 m n.toNat none), (kb, some ⟨zerosS z n.toNat m, e, true, true⟩) :: T⟩
  | _, _, _ => none
/-- An operation that turns something. -/
def turnOp (P : Program) (C : List (Nat × Con)) (op : Op) (ev : Operand → SV) (T : Tab) (kb : Nat) : Option Turned :=
  match op with
  | .store t x y => match storeS P T t (ev x) (ev y) with
    | some (o, T') => some ⟨o, [], .und, T'⟩
    | none => none
  | .call c => match c.callee with
    | .builtin .append => match c.argTypes.toList, c.args.toList with
      | [t, u], [s, x] => match isI64 P u with
        | false => appS P T kb t u (ev s) (ev x)
        | true => appZ P T kb t u (ev s) (ev x)
      | _, _ => none
    | .value f => match ev f with
      | .c (.fn f caps) => match get C f with
        | some con => match con.run (c.args.toList.map ev ++ capArgs caps) T kb with
          | some (.turn r) => some r
          | _ => none
        | none => none
      | _ => none
    | _ => none
  | _ => none

/-- Whether an operation may turn something. -/
def isTurn (C : List (Nat × Con)) : Op → Bool
  | .store .. => true
  | .call c => match c.callee with
    | .builtin .append => true
    | .value (.func f) => match get C f with
      | some con => con.turns
      | none => false
    | _ => false
  | _ => false

def effOf (P : Program) (C : List (Nat × Con)) (op : Op) (ev : Operand → SV) (T : Tab) (kb : Nat) : Option Eff :=
  match isTurn C op with
  | true => match turnOp P C op ev T kb with
    | some r => some (.turn r)
    | none => none
  | false => match pop P op ev with
    | some (o, v) => some (.new ⟨o, [], v, []⟩)
    | none => match mop P C op ev T kb with
      | some r => some (.new r)
      | none => none

theorem eff_new {P : Program} {C : List (Nat × Con)} (hC : LibOK P C) {ρ : Ren} {ev : Operand → SV} {val : Operand → Value} {X : Cx} {T : Tab} {w : World} {kb : Nat} {o : Oper} (hv : ∀ x, (ev x).R ρ (val x)) (hrel : Rel X ρ T w) (hf : fresh ρ kb) {r : Res}
    (h : effOf P C o.op ev T kb = some (.new r)) (hob : r.ob = true) (hobs : All r.obs) : Does P val o w fun v w' => ∃ ρ', r.v.R ρ' v ∧ New ρ ρ' r.E w w' := by
  unfold effOf at h
  split at h
  · split at h <;> cases h
  · split at h
    · rename_i ob v hp
      simp only [Option.some.injEq, Eff.new.injEq] at h; subst h
      simp only at hob; subst hob
      obtain ⟨u, hu, hr⟩ := pop_run hv hp w
      exact .inl ⟨u, w, hu, ρ, hr, New.refl _ _⟩
    · split at h <;> try (cases h; done)
      rename_i r' hm
      simp only [Option.some.injEq, Eff.new.injEq] at h; subst h
      exact mop_does hC hv hrel hf hm hob hobs

theorem isSrc_spec {P : Program} {u : TypeId} (h : isSrc P u = true) : (∃ e, P.underlying u = some (.slice e)) ∨ P.underlying u = some .string := by
  unfold isSrc at h
  split at h
  · exact .inl ⟨_, by assumption⟩
  · exact .inr (by assumption)
  · cases h

theorem elemS_spec {P : Program} {t e : TypeId} {m by_ : Nat} {z : List SC} (h : elemS P t = some (e, m, by_, z)) : P.underlying t = some (.slice e) ∧ (∃ i, P.info? e = some i ∧ i.bytes = by_) ∧ sizeS P e = some m ∧ zeroS P e = some z := by
  unfold elemS at h
  split at h <;> try (cases h; done)
  rename_i e' hu
  split at h <;> try (cases h; done)
  rename_i i m' z' hi hm hz
  simp only [Option.some.injEq, Prod.mk.injEq] at h
  obtain ⟨rfl, rfl, rfl, rfl⟩ := h
  exact ⟨hu, ⟨i, hi, rfl⟩, hm, hz⟩

/-- What append does where there is room; where there is none. -/
theorem append_room {P : Program} {w w' : World} {t u ty e : TypeId} {m n sLen sCap : Nat} {base : Option Addr} {x : Value} {news : List Value} (ht : P.underlying t = some (.slice e)) (hu : isSrc P u = true) (hm : sizeS P e = some m)
    (hl : ∀ w', (Builtin.lenOf x).run P w' = .ok n w') (hf : (Builtin.firstCells m n x).run P w = .ok news.toArray w) (hroom : sLen + n ≤ sCap)
    (hst : (match base with | some a => storeCells (a.add (sLen * m)) news | none => pure ()).run P w = .ok () w') :
    (Builtin.append_ #[t, u] ty #[.slice base sLen sCap, x]).run P w = .ok (.slice base (sLen + n) sCap) w' := by
  cases base with
  | none =>
    simp only [Sem.run_pure] at hst
    simp only [Result.ok.injEq, true_and] at hst
    subst hst
    rcases isSrc_spec hu with ⟨e', hu⟩ | hu <;> simp [Builtin.append_, run_underlying ht, run_underlying hu, sizeS_run hm, hl, hroom, hf]
  | some a =>
    simp only at hst
    rcases isSrc_spec hu with ⟨e', hu⟩ | hu <;> simp [Builtin.append_, run_underlying ht, run_underlying hu, sizeS_run hm, hl, hroom, hf, hst]

theorem append_grow {P : Program} {w : World} {t u ty e : TypeId} {m n sLen sCap : Nat} {base : Option Addr} {x zv : Value} {olds news : List Value} {i : TypeInfo} (ht : P.underlying t = some (.slice e)) (hu : isSrc P u = true) (hi : P.info? e = some i) (hm : sizeS P e = some m) (hz : ∀ w', (zeroValue e).run P w' = .ok zv w')
    (hl : ∀ w', (Builtin.lenOf x).run P w' = .ok n w') (hf : (Builtin.firstCells m n x).run P w.drew = .ok news.toArray w.drew) (hfo : (Builtin.firstCells m sLen (.slice base sLen sCap)).run P w.drew = .ok olds.toArray w.drew)
    (hg : sCap < sLen + n) (h63 : sLen + n ≤ maxLen) (hfit : Builtin.nextslicecap (sLen + n) sCap * i.bytes ≤ 281474976710656) :
    (Builtin.append_ #[t, u] ty #[.slice base sLen sCap, x]).run P w =
      .ok (.slice (some ⟨w.heap.size, 0, none⟩) (sLen + n) (grownCap w (sLen + n) sCap e))
        (w.drew.alloc (.cells (olds ++ (news ++ (Builtin.zeroCells zv.cells (grownCap w (sLen + n) sCap e - (sLen + n))).toList)).toArray e)) := by
  have hn : ¬ (sLen + n ≤ sCap) := by omega
  have h63' : ¬ (9223372036854775807 < ((sLen : Int) + (n : Int))) := by simp only [maxLen] at h63; omega
  have h48' : ¬ (281474976710656 < Builtin.nextslicecap (sLen + n) sCap * i.bytes) := by omega
  rcases isSrc_spec hu with ⟨e', hu⟩ | hu
  · simp [Builtin.append_, run_underlying ht, run_underlying hu, sizeS_run hm, typeInfo, hi, hl, hn, h63', h48', Question.forced, hf, hfo, hz, newRow, grownCap]
    congr 2
    apply Array.ext'
    simp
  · simp [Builtin.append_, run_underlying ht, run_underlying hu, sizeS_run hm, typeInfo, hi, hl, hn, h63', h48', Question.forced, hf, hfo, hz, newRow, grownCap]
    congr 2
    apply Array.ext'
    simp

/-- A new key for what an old one stood for, which is dead from then on. -/
theorem Rel.rekey {X : Cx} {ρ ρ' : Ren} {T : Tab} {w w' : World} {k kb : Nat} {b b' : Blk} {l : Loc} (h : Rel X ρ T w) (hb : T.blk k = some b) (hown : b.own = true) (hl : ρ k = some (some l)) (hkb : ρ kb = none)
    (hρ : ρ' = upd ρ kb (some l)) (hB : b'.R ρ' w' (some l)) (ho : ∀ j, j ≠ l.blk → w'.heap[j]? = w.heap[j]?) (hsize : w'.heap.size = w.heap.size) (hos : w'.os = w.os) (htape : w'.tape = w.tape) (hout : w'.output = w.output) :
    Rel X ρ' ((kb, some b') :: set T k none) w' := by
  subst hρ
  have hle := Le.upd (some l) hkb
  obtain ⟨hsep1, hsep2⟩ := h.sep k b l hb hown hl
  have other : ∀ {j c}, Tab.blk ((kb, some b') :: set T k none) j = some c → (j = kb ∧ c = b') ∨ (j ≠ kb ∧ j ≠ k ∧ T.blk j = some c) := fun {j c} hj => by
    rw [blk_cons] at hj
    by_cases hjk : kb = j
    · rw [if_pos hjk] at hj; cases hj; exact .inl ⟨hjk.symm, rfl⟩
    · rw [if_neg hjk] at hj
      by_cases hjk2 : k = j
      · subst hjk2; rw [blk_set_same] at hj; cases hj
      · rw [blk_set_ne _ _ hjk2] at hj; exact .inr ⟨Ne.symm hjk, Ne.symm hjk2, hj⟩
  refine ⟨hos.trans h.os, htape.trans h.tape, hout.trans h.output, by rw [hsize]; exact h.size, by rw [hsize]; exact h.size0, ?_, ?_, ?_, fun j l1 hl1 hlit => ?_, h.rows⟩
  · intro b1 hb1 hm
    rw [ho b1 (fun e => by rcases hsep1 with h1 | h1; omega; subst e; exact hm h1)]
    exact h.old b1 hb1 hm
  · intro j c hj
    rcases other hj with ⟨rfl, rfl⟩ | ⟨h1, h2, h3⟩
    · exact ⟨some l, upd_same _ _ _, hB⟩
    · obtain ⟨x, hx, hR⟩ := h.blk j c h3
      refine ⟨x, hle _ _ hx, hR.keep hle fun l' hl' => ?_⟩
      subst hl'
      exact ho _ (hsep2 j c l' h2 h3 hx)
  · intro j c l1 hj ho1 hl1
    rcases other hj with ⟨rfl, rfl⟩ | ⟨h1, h2, h3⟩
    · rw [upd_same] at hl1; cases hl1
      refine ⟨hsep1, fun j' c' l' hne hj' hl' => ?_⟩
      rcases other hj' with ⟨rfl, rfl⟩ | ⟨h1', h2', h3'⟩
      · exact absurd rfl hne
      · rw [upd_ne _ _ h1'] at hl'; exact hsep2 _ _ _ h2' h3' hl'
    · rw [upd_ne _ _ h1] at hl1
      obtain ⟨g1, g2⟩ := h.sep j c l1 h3 ho1 hl1
      refine ⟨g1, fun j' c' l' hne hj' hl' => ?_⟩
      rcases other hj' with ⟨rfl, rfl⟩ | ⟨h1', h2', h3'⟩
      · rw [upd_same] at hl'; cases hl'
        exact g2 k b l (Ne.symm h2) hb hl
      · rw [upd_ne _ _ h1'] at hl'; exact g2 _ _ _ hne h3' hl'
  · by_cases hj : j = kb
    · subst hj
      rw [upd_same] at hl1; cases hl1
      exact absurd rfl ((h.lit k l hl hlit).2.2 k b l hb hown hl)
    · rw [upd_ne _ _ hj] at hl1
      obtain ⟨g1, g2, g3⟩ := h.lit j l1 hl1 hlit
      refine ⟨g1, by rw [hsize]; exact g2, fun j' c' l' hj' ho' hl' => ?_⟩
      rcases other hj' with ⟨rfl, rfl⟩ | ⟨h1', h2', h3'⟩
      · rw [upd_same] at hl'; cases hl'; exact g3 k b l hb hown hl
      · rw [upd_ne _ _ h1'] at hl'; exact g3 _ _ _ h3' ho' hl'

theorem RelP.nil {X : Cx} {ρ : Ren} {T : Tab} {w : World} {k : Nat} (h : Rel X ρ T w) : Rel X ρ (set T k none) w :=
  RelP.sub h fun j b hj => by
    by_cases hjk : k = j
    · subst hjk; rw [blk_set_same] at hj; cases hj
    · rwa [blk_set_ne _ _ hjk] at hj

theorem below_drew_alloc (w : World) (o : Obj) : Below w.heap.size w (w.drew.alloc o) :=
  ((Below.refl _ _).drew).alloc (Nat.le_refl _) _

theorem Rel.cons_new {X : Cx} {ρ ρ' : Ren} {T : Tab} {kb : Nat} {b : Blk} {w w' : World} (h : Rel X ρ T w) (hn : New ρ ρ' [(kb, b)] w w') : Rel X ρ' ((kb, some b) :: T) w' := Rel.new h hn

theorem grown_R {ρ : Ren} {P : Program} {w : World} {kb m n cp : Nat} {e : TypeId} {cs : List SC} {all : List Value} {z : Value} (hkb : ρ kb = none) (hc : All2 (SC.R ρ) cs all) (hl : cs.length = n * m) (hcap : n ≤ cp) (hz : z.cells.size = m) :
    ∃ ρ', (SC.slc kb 0 m n none).R ρ' (.slice (some ⟨w.heap.size, 0, none⟩) n cp) ∧ Le ρ ρ' ∧ (∀ k, k ≠ kb → ρ' k = ρ k) ∧ New ρ ρ' [(kb, ⟨cs, e, true, true⟩)] w (w.drew.alloc (.cells (all ++ (Builtin.zeroCells z.cells (cp - n)).toList).toArray e)) := by
  have hsz : (all ++ (Builtin.zeroCells z.cells (cp - n)).toList).length = cp * m := by
    have := hc.length
    have h2 : cp * m = n * m + (cp - n) * m := by rw [← Nat.add_mul]; congr 1; omega
    simp only [List.length_append, Array.length_toList, size_zeroCells, hz]
    omega
  refine ⟨upd ρ kb (some ⟨w.heap.size, cp * m, false, 0⟩), .inr ⟨⟨w.heap.size, cp * m, false, 0⟩, 0, cp, upd_same _ _ _, rfl, hcap, fun _ => ⟨rfl, by simp⟩, fun q hq => by cases hq⟩, Le.upd _ hkb, fun k hk => upd_ne _ _ hk, ?_⟩
  refine New.one hkb (below_drew_alloc _ _) ⟨[], all, (Builtin.zeroCells z.cells (cp - n)).toList, (0, 0), heap_alloc_new w.drew _, forall₂_imp (fun _ _ => SC.R.mono (Le.upd _ hkb)) hc, hsz, fun h => by simp at h, rfl, fun _ => ⟨rfl, rfl⟩, fun h => by simp at h⟩ (fun l hl => by
    cases hl; exact Nat.le_refl _) (fun l hl h => by cases hl; cases h)

theorem setRangeV_eq : ∀ (xs cur : List Value) (off : Nat), off + xs.length ≤ cur.length → setRangeV cur off xs = cur.take off ++ (xs ++ cur.drop (off + xs.length))
  | [], cur, off, h => by simp [setRangeV]
  | x :: xs, cur, off, h => by
    simp only [List.length_cons] at h
    simp only [setRangeV]
    rw [setRangeV_eq xs _ _ (by simp; omega)]
    have hlt : off < cur.length := by omega
    have h1 : (cur.set off x).take (off + 1) = cur.take off ++ [x] := by
      rw [List.take_succ_eq_append_getElem (by simpa using hlt)]
      rw [List.take_set, List.set_eq_of_length_le (by simp; omega)]
      simp
    rw [h1, List.drop_set_of_lt (by omega)]
    simp only [List.append_assoc, List.singleton_append, List.cons_append, List.length_cons]
    rw [show off + 1 + xs.length = off + (xs.length + 1) by omega, List.nil_append]

theorem app_run {P : Program} {X : Cx} {ρ : Ren} {T : Tab} {w : World} {kb : Nat} {t u ty : TypeId} {s x : SV} {sv xv : Value} {r : Turned} (hrel : Rel X ρ T w) (hs : s.R ρ sv) (hx : x.R ρ xv) (hf : freshA ρ kb)
    (h : appS P T kb t u s x = some r) (hob : r.ob = true) : ∃ v w', (Builtin.append_ #[t, u] ty #[sv, xv]).run P w = .ok v w' ∧ TurnR X ρ kb r v w' := by
  have hkb : ρ kb = none := hf kb (Nat.le_refl _)
  unfold appS at h
  split at h <;> try (cases h; done)
  rename_i e m by_ z he
  obtain ⟨ht, ⟨i, hi, hby⟩, hm, hz⟩ := elemS_spec he
  obtain ⟨zv, hzr', hza⟩ := zeroS_all (ρ := ρ) (P := P) hz
  split at h
  · -- nil
    simp only [Option.some.injEq] at h; subst h
    simp only [bnd_true, Bool.and_eq_true, Nat.ble_eq, Nat.blt_eq] at hob
    obtain ⟨hu, hzl, hm0, hsrc, hmax, hbytes⟩ := hob
    have hzl := Nat.eq_of_beq_eq_true hzl
    have hzs : zv.cells.size = m := by have := hza.length; simp at this; omega
    obtain rfl : sv = _ := hs
    obtain ⟨hsl, hlen, news, hn, hfc⟩ := src_run (P := P) hrel hx hsrc
    by_cases h0 : srcN x = 0
    · have hnil : srcC T x = [] := List.eq_nil_of_length_eq_zero (by rw [hsl, h0, Nat.zero_mul])
      have hnews : news = [] := by rw [hnil] at hn; cases hn; rfl
      refine ⟨.slice none 0 0, w, ?_, upd ρ kb none, ?_, Le.upd _ hkb, ?_, ?_⟩
      · have := append_room (P := P) (ty := ty) (base := none) (sLen := 0) (sCap := 0) ht hu hm hlen (hfc w rfl) (by omega) (w' := w) rfl
        rwa [h0] at this
      · exact .inl ⟨upd_same _ _ _, ⟨_, rfl⟩, h0, fun q hq => by cases hq⟩
      · refine Rel.cons_new hrel (New.one hkb (Below.refl _ _) ⟨hnil, rfl⟩ (fun l hl => by cases hl) (fun l hl => by cases hl))
      · exact fun j hj => (upd_ne _ _ (by omega)).trans (hf j (by omega))
    · have hfit : Builtin.nextslicecap (0 + srcN x) 0 * i.bytes ≤ 281474976710656 := growslice_fits (by omega) (by rw [hby, Nat.zero_add]; omega)
      have hr := append_grow (P := P) (w := w) (ty := ty) (base := none) (sLen := 0) (sCap := 0) (olds := []) ht hu hi hm hzr' hlen (hfc w.drew rfl) rfl (by omega) (by omega) hfit
      simp only [Nat.zero_add, List.nil_append] at hr
      obtain ⟨ρ', hv, hle, hoth, hnew⟩ := grown_R (P := P) (w := w) (kb := kb) (m := m) (n := srcN x) (cp := grownCap w (srcN x) 0 e) (e := e) hkb hn hsl (grownCap_ge _ _ _ _) hzs
      exact ⟨_, _, hr, ρ', hv, hle, Rel.cons_new hrel hnew, fun j hj => (hoth j (by omega)).trans (hf j (by omega))⟩
  · -- a slice
    rename_i k off esz len cap
    split at h <;> try (cases h; done)
    rename_i b hb
    simp only [Option.some.injEq] at h; subst h
    simp only [bnd_true, Bool.and_eq_true, Nat.ble_eq, Nat.blt_eq] at hob
    obtain ⟨hu, hzl, hm0, hsrc, hmax, hbytes, hown, hoff, hesz, hty, hfitc⟩ := hob
    have hzl := Nat.eq_of_beq_eq_true hzl
    obtain rfl := Nat.eq_of_beq_eq_true hoff
    obtain rfl := Nat.eq_of_beq_eq_true hesz
    obtain hty := Nat.eq_of_beq_eq_true hty
    have hzs : zv.cells.size = esz := by have := hza.length; simp at this; omega
    obtain ⟨hsl, hlen, news, hn, hfc⟩ := src_run (P := P) hrel hx hsrc
    have hcl : (b.cells.take (len * esz) ++ srcC T x).length = (len + srcN x) * esz := by
      rw [List.length_append, List.length_take, hsl, Nat.add_mul]; omega
    rcases hs with ⟨hk, ⟨aa, rfl⟩, rfl, _⟩ | ⟨l, o, c, hk, rfl, hlc, hoc, _⟩
    · -- nil behind a key
      simp only [Nat.zero_mul, List.take_zero, List.nil_append, Nat.zero_add] at hcl hmax hbytes ⊢
      by_cases h0 : srcN x = 0
      · have hnil : srcC T x = [] := List.eq_nil_of_length_eq_zero (by rw [hsl, h0, Nat.zero_mul])
        have hnews : news = [] := by rw [hnil] at hn; cases hn; rfl
        refine ⟨.slice aa 0 0, w, ?_, upd ρ kb none, ?_, Le.upd _ hkb, ?_, ?_⟩
        · have := append_room (P := P) (ty := ty) (base := aa) (sLen := 0) (sCap := 0) ht hu hm hlen (hfc w rfl) (by omega) (w' := w) (by rw [hnews]; cases aa <;> rfl)
          rwa [h0] at this
        · exact .inl ⟨upd_same _ _ _, ⟨_, rfl⟩, h0, fun q hq => by cases hq⟩
        · refine Rel.cons_new (RelP.nil hrel) (New.one hkb (Below.refl _ _) ⟨hnil, rfl⟩ (fun l hl => by cases hl) (fun l hl => by cases hl))
        · exact fun j hj => (upd_ne _ _ (by omega)).trans (hf j (by omega))
      · have hfit : Builtin.nextslicecap (0 + srcN x) 0 * i.bytes ≤ 281474976710656 := growslice_fits (by omega) (by rw [hby, Nat.zero_add]; omega)
        have hr := append_grow (P := P) (w := w) (ty := ty) (base := aa) (sLen := 0) (sCap := 0) (olds := []) ht hu hi hm hzr' hlen (hfc w.drew rfl) (by cases aa <;> simp [Builtin.firstCells, loadCells, loadCellsFrom]) (by omega) (by omega) hfit
        simp only [Nat.zero_add, List.nil_append] at hr
        obtain ⟨ρ', hv, hle, hoth, hnew⟩ := grown_R (P := P) (w := w) (kb := kb) (m := esz) (n := srcN x) (cp := grownCap w (srcN x) 0 e) (e := e) hkb hn hsl (grownCap_ge _ _ _ _) hzs
        exact ⟨_, _, hr, ρ', hv, hle, Rel.cons_new (RelP.nil hrel) hnew, fun j hj => (hoth j (by omega)).trans (hf j (by omega))⟩
    · obtain ⟨pre, vs, rest, fr, hh, hc, htot, htail, hpre, hfr0, _⟩ := hrel.at hb hk
      obtain ⟨ho0, rfl⟩ := hfr0 hown
      obtain rfl : pre = [] := List.eq_nil_of_length_eq_zero (hpre.trans ho0)
      rw [List.nil_append] at hh
      rw [ho0] at hoc
      have hvl := hc.length
      have hov : All2 (SC.R ρ) (b.cells.take (len * esz) ++ srcC T x) (vs.take (len * esz) ++ news) := (hc.take _).append hn
      have hnl := hn.length
      by_cases hroom : len + srcN x ≤ c
      · -- in place
        have hlo : (len + srcN x) * esz ≤ c * esz := Nat.mul_le_mul_right _ hroom
        rw [Nat.add_mul] at hlo
        have hcs : c ≠ 0 → o = 0 ∧ c * esz ≤ l.tot := fun h => by have := hoc h; simpa using this
        have hspot : srcN x = 0 ∨ (o = 0 ∧ c * esz ≤ l.tot) := by
          by_cases hc0 : c = 0
          · exact .inl (by omega)
          · exact .inr (hcs hc0)
        have htk : (vs ++ rest).take (len * esz) = vs.take (len * esz) := List.take_append_of_le_length (by omega)
        have hput : ∃ w' Y, (storeCells ((⟨l.blk, o, none⟩ : Addr).add (len * esz)) news).run P w = .ok () w' ∧ w'.heap[l.blk]? = some (.cells ((vs.take (len * esz) ++ news) ++ Y).toArray b.ty (0, 0)) ∧ ((vs.take (len * esz) ++ news) ++ Y).length = l.tot ∧
            (∀ k, k ≠ l.blk → w'.heap[k]? = w.heap[k]?) ∧ w'.heap.size = w.heap.size ∧ w'.os = w.os ∧ w'.tape = w.tape ∧ w'.output = w.output := by
          rcases hspot with h0 | ⟨rfl, hct⟩
          · have hnil : srcC T x = [] := List.eq_nil_of_length_eq_zero (by rw [hsl, h0, Nat.zero_mul])
            have hnews : news = [] := by rw [hnil] at hn; cases hn; rfl
            subst hnews
            have e1 : (vs.take (len * esz) ++ []) ++ (vs ++ rest).drop (len * esz) = vs ++ rest := by
              rw [List.append_nil, ← htk, List.take_append_drop]
            exact ⟨w, (vs ++ rest).drop (len * esz), rfl, by rw [e1]; exact hh, by rw [e1]; exact htot, fun _ _ => rfl, rfl, rfl, rfl, rfl⟩
          · obtain ⟨w', hr, hh', h2⟩ := storeCells_run (P := P) l.blk b.ty (0, 0) l.tot (fun j _ => by simp) news (len * esz) 0 (vs ++ rest) w hh htot (by omega) (one_of_All2 hn)
            rw [Nat.add_zero, setRangeV_eq _ _ _ (by omega), htk, ← List.append_assoc] at hh'
            refine ⟨w', _, ?_, hh', ?_, h2⟩
            · rw [add_eq, Nat.zero_add]; exact hr
            · simp only [List.length_append, List.length_take, List.length_drop] at htot ⊢
              omega
        obtain ⟨w', Y, hst, hh', hY, hoth, hsize, hos, htape, hout⟩ := hput
        have hr := append_room (P := P) (w := w) (ty := ty) (base := some ⟨l.blk, o, none⟩) (sLen := len) (sCap := c) ht hu hm hlen (hfc w rfl) hroom hst
        have hlk : l.blk ≠ l.blk ∨ True := .inr trivial
        refine ⟨_, _, hr, upd ρ kb (some l), .inr ⟨l, o, c, upd_same _ _ _, rfl, hroom, fun hc0 => ?_, fun q hq => by cases hq⟩, Le.upd _ hkb, ?_, fun j hj => (upd_ne _ _ (by omega)).trans (hf j (by omega))⟩
        · have := hoc hc0; simpa [ho0] using this
        · refine Rel.rekey hrel hb hown hk hkb rfl ⟨[], vs.take (len * esz) ++ news, Y, (0, 0), by simp only [← hty]; exact hh', forall₂_imp (fun _ _ => SC.R.mono (Le.upd _ hkb)) hov, hY, fun h => by simp at h, ho0.symm, fun _ => ⟨ho0, rfl⟩, fun h => by simp at h⟩ hoth hsize hos htape hout
      · -- grown
        have hfit : Builtin.nextslicecap (len + srcN x) c * i.bytes ≤ 281474976710656 := growslice_fits (by omega) (by rw [hby]; exact hbytes)
        have hold : (Builtin.firstCells esz len (.slice (some ⟨l.blk, o, none⟩) len c)).run P w.drew = .ok (vs.take (len * esz)).toArray w.drew := by
          refine run_firstCells_some (P := P) w.drew esz len _ len c _ (by simp; omega) fun j v hj => ?_
          have hj' : j < len * esz := by
            rcases Nat.lt_or_ge j (len * esz) with h | h
            · exact h
            · rw [List.getElem?_eq_none (by simp; omega)] at hj; cases hj
          have hc0 : c ≠ 0 := fun e => by
            subst e
            have : len = 0 := by omega
            subst this; simp at hj'
          rw [(hoc hc0).1, add_eq, cell_of (w := w.drew) hh]
          rw [List.getElem?_take_of_lt hj'] at hj
          have hlt : j < vs.length := (List.getElem?_eq_some_iff.1 hj).1
          simp [List.getElem?_append_left hlt, hj]
        have hr := append_grow (P := P) (w := w) (ty := ty) (base := some ⟨l.blk, o, none⟩) (sLen := len) (sCap := c) ht hu hi hm hzr' hlen (hfc w.drew rfl) hold (by omega) hmax hfit
        obtain ⟨ρ', hv, hle, hoth, hnew⟩ := grown_R (P := P) (w := w) (kb := kb) (m := esz) (n := len + srcN x) (cp := grownCap w (len + srcN x) c e) (e := e) hkb hov hcl (grownCap_ge _ _ _ _) hzs
        rw [List.append_assoc] at hnew
        exact ⟨_, _, hr, ρ', hv, hle, Rel.cons_new (RelP.nil hrel) hnew, fun j hj => (hoth j (by omega)).trans (hf j (by omega))⟩
  · cases h


theorem appZ_run {P : Program} {X : Cx} {ρ : Ren} {T : Tab} {w : World} {kb : Nat} {t u ty : TypeId} {s x : SV} {sv xv : Value} {r : Turned} (hrel : Rel X ρ T w) (hs : s.R ρ sv) (hx : x.R ρ xv) (hf : freshA ρ kb)
    (h : appZ P T kb t u s x = some r) (hob : r.ob = true) : ∃ v w', (Builtin.append_ #[t, u] ty #[sv, xv]).run P w = .ok v w' ∧ TurnR X ρ kb r v w' := by
  have hkb : ρ kb = none := hf kb (Nat.le_refl _)
  unfold appZ at h
  split at h <;> try (cases h; done)
  rename_i e m by_ z n he
  simp only [Option.some.injEq] at h; subst h
  simp only [Bool.and_eq_true, decide_eq_true_eq, Nat.blt_eq] at hob
  obtain ⟨hu, hzl, hm0, ⟨hn0, hbytes⟩, hmax⟩ := hob
  obtain ⟨ht, ⟨i, hi, hby⟩, hm, hz⟩ := elemS_spec he
  obtain ⟨zv, hzr', hza⟩ := zeroS_all (ρ := ρ) (P := P) hz
  have hzl := Nat.eq_of_beq_eq_true hzl
  have hzs : zv.cells.size = m := by have := hza.length; simp at this; omega
  have hu' : P.underlying u = some (.int .i64) := by unfold isI64 at hu; split at hu <;> simp_all
  obtain rfl : sv = _ := hs
  obtain rfl : xv = _ := hx
  obtain ⟨N, rfl⟩ : ∃ N : Nat, n = N := ⟨n.toNat, by omega⟩
  have hN0 : 0 < N := by omega
  have hfit : Builtin.nextslicecap (0 + N) 0 * i.bytes ≤ 281474976710656 := growslice_fits (by omega) (by rw [hby, Nat.zero_add]; omega)
  rw [Nat.zero_add] at hfit
  have hw : IntKind.i64.wrap (N : Int) = N := by rw [IntKind.wrap_i64]; omega
  have hneg : ¬ ((N : Int) < 0) := by omega
  have hbig : ¬ ((N : Int) * (i.bytes : Int) > 2 ^ 48) := by rw [hby]; omega
  have hne : ¬ (N ≤ 0) := by omega
  have hnm : ¬ (N * m = 0) := by rw [Nat.mul_eq_zero]; omega
  have h63 : ¬ ((N : Int) > IntKind.i64.max) := by simp [IntKind.max, IntKind.signed, IntKind.bits]; omega
  have h48 : ¬ (Builtin.nextslicecap N 0 * i.bytes > 2 ^ 48) := by omega
  have hr : (Builtin.append_ #[t, u] ty #[.slice none 0 0, .int .i64 (N : Int)]).run P w = .ok (.slice (some ⟨w.heap.size, 0, none⟩) N (grownCap w N 0 e))
      (w.drew.alloc (.cells ((Builtin.zeroCells zv.cells N).toList ++ ((Builtin.zeroCells zv.cells (grownCap w N 0 e - N)).toList)).toArray e)) := by
    simp [Builtin.append_, run_underlying ht, run_underlying hu', sizeS_run hm, typeInfo, hi, asInt, asIntOf, hw, hneg, hbig, hne, hnm, h63, h48, Question.forced, Builtin.firstCells, hzr', newRow, grownCap]
    rw [if_neg (by omega), if_neg (by omega), if_neg (by omega)]
    have ez : ∀ (A B : Array Value), (A.toList ++ B.toList).toArray = A ++ B := fun A B => by simp
    rw [ez]
  have hzc : All2 (SC.R ρ) (zerosS z N m) (Builtin.zeroCells zv.cells N).toList := by
    have := zerosS_R (c := N) hza hzl hm0
    simpa [madeCells, Builtin.zeroCells, hzs] using this
  have hzn : (zerosS z N m).length = N * m := by
    have := hzc.length
    rw [this]; simp [size_zeroCells, hzs]
  obtain ⟨ρ', hv, hle, hoth, hnew⟩ := grown_R (P := P) (w := w) (kb := kb) (m := m) (n := N) (cp := grownCap w N 0 e) (e := e) (cs := zerosS z N m) hkb (all := (Builtin.zeroCells zv.cells N).toList) hzc hzn (grownCap_ge _ _ _ _) hzs
  exact ⟨_, _, hr, ρ', hv, hle, Rel.cons_new hrel hnew, fun j hj => (hoth j (by omega)).trans (hf j (by omega))⟩

theorem eff_turn {P : Program} {C : List (Nat × Con)} (hC : LibOK P C) {ρ : Ren} {ev : Operand → SV} {val : Operand → Value} {X : Cx} {T : Tab} {w : World} {kb : Nat} {o : Oper} (hv : ∀ x, (ev x).R ρ (val x)) (hrel : Rel X ρ T w) (hf : freshA ρ kb) {r : Turned}
    (h : effOf P C o.op ev T kb = some (.turn r)) (hob : r.ob = true) (hobs : All r.obs) : Does P val o w fun v w' => TurnR X ρ kb r v w' := by
  obtain ⟨dst, op, type, pos, after, guard⟩ := o
  unfold effOf at h
  split at h
  · split at h <;> try (cases h; done)
    rename_i r' hr'
    simp only [Option.some.injEq, Eff.turn.injEq] at h; subst h
    unfold turnOp at hr'
    split at hr'
    · rename_i t x y hop
      simp only at hop; subst hop
      split at hr' <;> try (cases hr'; done)
      rename_i ob T1 hs
      simp only [Option.some.injEq] at hr'; subst hr'
      simp only at hob; subst hob
      obtain ⟨w', hr, hrel'⟩ := Rel.store hrel hs (hv x) (hv y)
      refine .inr (.inl ⟨w', ?_, ρ, trivial, Le.refl _, hrel', fun k hk => hf k (by omega)⟩)
      simp only [execOp, Sem.run_bind, hr, Result.andThen_ok, Sem.run_pure]
    · rename_i c hop
      simp only at hop; subst hop
      split at hr'
      · rename_i hcal
        split at hr' <;> try (cases hr'; done)
        rename_i t u s x ha hs
        have hrun0 : ∃ v w', (Builtin.append_ #[t, u] type #[val s, val x]).run P w = .ok v w' ∧ TurnR X ρ kb r' v w' := by
          split at hr'
          · exact app_run (P := P) (ty := type) hrel (hv s) (hv x) hf hr' hob
          · exact appZ_run (P := P) (ty := type) hrel (hv s) (hv x) hf hr' hob
        obtain ⟨v, w', hrun, hT⟩ := hrun0
        refine .inl ⟨v, w', ?_, hT⟩
        have e1 : c.argTypes = #[t, u] := by apply Array.toList_inj.1; simpa using ha
        have e2 : c.args = #[s, x] := by apply Array.toList_inj.1; simpa using hs
        simp only [execOp, resolve, hcal, invoke, builtin, Sem.run_bind, Sem.run_pure, Result.andThen_ok, e1, e2, List.map_toArray, List.map_cons, List.map_nil, hrun]
      · rename_i fo hcal
        split at hr' <;> try (cases hr'; done)
        rename_i f caps' hfe
        split at hr' <;> try (cases hr'; done)
        rename_i con hcon
        split at hr' <;> try (cases hr'; done)
        rename_i r1 hr1
        simp only [Option.some.injEq] at hr'; subst hr'
        have h1 := hv fo
        rw [hfe] at h1
        obtain ⟨vs, hv', hcaps⟩ := h1
        obtain ⟨hent, _, hcalls⟩ := hC f con hcon
        have hargs : All2 (SV.R ρ) (c.args.toList.map ev ++ capArgs caps') ((c.args.map val) ++ vs.toArray).toList := by
          rw [Array.toList_append, Array.toList_map]
          exact (All2.map hv _).append (capArgs_R hcaps)
        have hcl := hcalls _ _ _ _ hr1 hob hobs X ρ w _ hrel hargs hf
        refine .inr (.inr ⟨f, (c.args.map val) ++ vs.toArray, ?_, ?_⟩)
        · simp only [execOp, resolve, hcal, Sem.run_bind, hv', Deferred.ofValue, Sem.run_pure, Result.andThen_ok, invoke, Array.empty_append, hent]
        · rw [Array.toArray_toList] at hcl
          exact hcl
      · cases hr'
    · cases hr'
  · split at h
    · cases h
    · split at h <;> cases h

/-- An operand's value. -/
def sev (tm : List (Nat × SV)) : Operand → SV
  | .tmp t => match get tm t with | some v => v | none => .und
  | .const v => ofVal v
  | .func f => .c (.fn f [])
  | .global _ => .und

theorem sev_R {X : Cx} {ρ : Ren} {st : St} {a : Act} {w : World} (h : RelA X ρ st a w) (x : Operand) : (sev st.tmps x).R ρ (a.eval x) := by
  cases x with
  | tmp t =>
    simp only [sev]
    split
    · rename_i v hv
      obtain ⟨u, hu, hr⟩ := h.tmps t v hv
      simpa [Act.eval, hu] using hr
    · exact trivial
  | const v => exact ofVal_R v
  | func f => exact ⟨[], rfl, .nil⟩
  | global g => exact trivial

def putS (tm : List (Nat × SV)) (dst : Option Nat) (v : SV) : List (Nat × SV) :=
  match dst with
  | some d => set tm d v
  | none => tm

theorem RelA.put {X : Cx} {ρ ρ' : Ren} {st : St} {a : Act} {w w' : World} {T' : Tab} {dst : Option Nat} {v : SV} {u : Value} {nk : Nat} (h : RelA X ρ st a w) (hle : Le ρ ρ') (hrel : Rel X ρ' T' w') (hv : v.R ρ' u)
    (hd : ∀ d, dst = some d → d < st.nt) (hf : ∀ k, nk ≤ k → ρ' k = none) : RelA X ρ' { st with tmps := putS st.tmps dst v, tab := T', nk := nk } (a.put dst u) w' where
  rel := hrel
  tmps := fun t x hx => by
    cases dst with
    | none => obtain ⟨y, hy, hr⟩ := h.tmps t x hx; exact ⟨y, hy, hr.mono hle⟩
    | some d =>
      by_cases hdt : d = t
      · subst hdt
        simp only [putS, get_set_same, Option.some.injEq] at hx; subst hx
        have := hd d rfl
        exact ⟨u, by simp [Act.put, Array.getElem?_setIfInBounds, h.sz, this], hv⟩
      · simp only [putS] at hx
        rw [get_set_ne _ _ hdt] at hx
        obtain ⟨y, hy, hr⟩ := h.tmps t x hx
        exact ⟨y, by simp [Act.put, Array.getElem?_setIfInBounds_ne hdt, hy], hr.mono hle⟩
  defers := by cases dst <;> exact h.defers
  fresh := hf
  sz := by cases dst <;> simp [Act.put, h.sz]

def dstOk (nt : Nat) : Option Nat → Bool
  | some d => Nat.blt d nt
  | none => true
theorem dstOk_spec {nt : Nat} {dst : Option Nat} (h : dstOk nt dst = true) : ∀ d, dst = some d → d < nt := fun d hd => by
  subst hd; simpa [dstOk, Nat.blt_eq] using h

/-- What has been decided of guards; what is still told of them. -/
structure Orc where
  told : List Bool
  known : List (Nat × Bool)

/-- Is an operation wanted: what must hold; yes or no; what is told further. -/
def guardS (vals : Nat → SV) (g : Option (Nat × Bool)) (o : Orc) : Option (Bool × Bool × Orc) :=
  match g with
  | none => some (true, true, o)
  | some (j, want) => match vals j with
    | .c (.bool b) => match get o.known j with
      | some t => some (b == t, t == want, o)
      | none => match o.told with
        | t :: r => some (b == t, t == want, ⟨r, (j, t) :: o.known⟩)
        | [] => some (true, b == want, o)
    | .tup [] => some (true, false, o)
    | _ => none

/-- What a walk through a region has come to. -/
structure RSt where
  st : St
  ob : Bool
  obs : List Prop
  orc : Orc

/-- The value of a region's operation. -/
def valOf (ops : Array Oper) (tm : List (Nat × SV)) (j : Nat) : SV :=
  match ops[j]? with
  | some o => match o.dst with
    | some d => sev tm (.tmp d)
    | none => .und
  | none => .und

/-- Operations in the order of the text. -/
def seqR (P : Program) (C : List (Nat × Con)) (ops : Array Oper) : List Oper → RSt → Option RSt
  | [], s => some s
  | o :: rest, s => match guardS (valOf ops s.st.tmps) o.guard s.orc with
    | none => none
    | some (g, true, orc) => match effOf P C o.op (sev s.st.tmps) s.st.tab s.st.nk with
      | some (.new r) => seqR P C ops rest ⟨{ s.st with tmps := putS s.st.tmps o.dst r.v, tab := addAll s.st.tab r.E, nk := s.st.nk + 4 }, bnd s.ob (g && (dstOk s.st.nt o.dst && (keysOk s.st.nk r.E && r.ob))), r.obs ++ s.obs, orc⟩
      | some (.turn r) => seqR P C ops rest ⟨{ s.st with tmps := putS s.st.tmps o.dst r.v, tab := r.T, nk := s.st.nk + 4 }, bnd s.ob (g && (dstOk s.st.nt o.dst && r.ob)), r.obs ++ s.obs, orc⟩
      | none => none
    | some (g, false, orc) => seqR P C ops rest ⟨{ s.st with tmps := putS s.st.tmps o.dst (.tup []) }, bnd s.ob (g && dstOk s.st.nt o.dst), s.obs, orc⟩

theorem keysOk_spec {kb : Nat} {E : List (Nat × Blk)} (h : keysOk kb E = true) : ∀ k b, (k, b) ∈ E → kb ≤ k ∧ k < kb + 4 := fun k b hk => by
  unfold keysOk at h
  rw [List.all_eq_true] at h
  have := h _ hk
  simpa [Nat.blt_eq] using this

def GuardIs (vals : Nat → SV) (g : Option (Nat × Bool)) (b : Bool) : Prop :=
  (g = none ∧ b = true) ∨ (∃ j want c, g = some (j, want) ∧ vals j = .c (.bool c) ∧ b = (c == want)) ∨ (b = false ∧ ∃ j want, g = some (j, want) ∧ vals j = .tup [])
/-- The value of an operation that was not wanted. -/
theorem off_R {ρ : Ren} : SV.R ρ (.tup []) undef := ⟨[], rfl, .nil⟩
theorem off_eq {ρ : Ren} {v : Value} (h : SV.R ρ (.tup []) v) : v = undef := by
  obtain ⟨vs, hv, hc⟩ := h
  cases hc
  exact hv
theorem guardS_spec {vals : Nat → SV} {g : Option (Nat × Bool)} {o o' : Orc} {b : Bool} (h : guardS vals g o = some (true, b, o')) : GuardIs vals g b := by
  cases g with
  | none =>
    simp only [guardS, Option.some.injEq, Prod.mk.injEq, true_and] at h; exact .inl ⟨rfl, h.1.symm⟩
  | some jw =>
    obtain ⟨j, want⟩ := jw
    simp only [guardS] at h
    split at h <;> try (cases h; done)
    · rename_i c hc
      split at h
      · rename_i t ht
        simp only [Option.some.injEq, Prod.mk.injEq, beq_iff_eq] at h
        obtain ⟨rfl, rfl, _⟩ := h
        exact .inr (.inl ⟨_, _, _, rfl, hc, rfl⟩)
      · split at h
        · simp only [Option.some.injEq, Prod.mk.injEq, beq_iff_eq] at h
          obtain ⟨rfl, rfl, _⟩ := h
          exact .inr (.inl ⟨_, _, _, rfl, hc, rfl⟩)
        · simp only [Option.some.injEq, Prod.mk.injEq, true_and] at h
          exact .inr (.inl ⟨_, _, _, rfl, hc, h.1.symm⟩)
    · rename_i hc
      simp only [Option.some.injEq, Prod.mk.injEq, true_and] at h
      exact .inr (.inr ⟨h.1.symm, _, _, rfl, hc⟩)

theorem wanted_of {ops : Array Oper} {tmps : Array Value} {o : Oper} {vals : Nat → SV} {b : Bool}
    (hv : ∀ j c want, o.guard = some (j, want) → vals j = .c (.bool c) → yielded ops tmps j = some c) (hv0 : ∀ j want, o.guard = some (j, want) → vals j = .tup [] → yielded ops tmps j = none) (h : GuardIs vals o.guard b) : Region.wanted o (yielded ops tmps) = b := by
  rcases h with ⟨hg, rfl⟩ | ⟨j, want, c, hg, hc, rfl⟩ | ⟨rfl, j, want, hg, hc⟩
  · simp [Region.wanted, hg]
  rotate_left
  · simp only [Region.wanted, hg, hv0 j want hg hc]; rfl
  · simp only [Region.wanted, hg, hv j c want hg hc]
    cases c <;> cases want <;> rfl

theorem valOf_yielded {X : Cx} {ρ : Ren} {st : St} {a : Act} {w : World} (h : RelA X ρ st a w) (ops : Array Oper) (j : Nat) (c : Bool) (hc : valOf ops st.tmps j = .c (.bool c)) : yielded ops a.tmps j = some c := by
  unfold valOf at hc
  split at hc <;> try (cases hc; done)
  rename_i o ho
  split at hc <;> try (cases hc; done)
  rename_i d hd
  simp only [sev] at hc
  split at hc <;> try (cases hc; done)
  rename_i v hv
  subst hc
  obtain ⟨u, hu, hr⟩ := h.tmps d _ hv
  have hr' : u = .bool c := hr
  subst hr'
  simp [yielded, ho, hd, hu]

theorem valOf_off {X : Cx} {ρ : Ren} {st : St} {a : Act} {w : World} (h : RelA X ρ st a w) (ops : Array Oper) (j : Nat) (hc : valOf ops st.tmps j = .tup []) : yielded ops a.tmps j = none := by
  unfold valOf at hc
  split at hc <;> try (cases hc; done)
  rename_i o ho
  split at hc <;> try (cases hc; done)
  rename_i d hd
  simp only [sev] at hc
  split at hc <;> try (cases hc; done)
  rename_i v hv
  subst hc
  obtain ⟨u, hu, hr⟩ := h.tmps d _ hv
  obtain rfl := off_eq hr
  simp [yielded, ho, hd, hu, undef]

theorem seqR_run {P : Program} {C : List (Nat × Con)} (hC : LibOK P C) {X : Cx} {ops : Array Oper} {Q : Exit → Act → World → Prop} : ∀ (l : List Oper) (s s' : RSt) (ρ : Ren) (a : Act) (w : World), seqR P C ops l s = some s' → s'.ob = true → All s'.obs →
    RelA X ρ s.st a w → (∀ ρ' a' w', Le ρ ρ' → RelA X ρ' s'.st a' w' → Q .normal a' w') → wpList P ops Q l a w
  | [], s, s', ρ, a, w, h, _, _, hrel, hQ => by
    simp only [seqR, Option.some.injEq] at h; subst h
    exact hQ ρ a w (Le.refl _) hrel
  | o :: rest, s, s', ρ, a, w, h, hob, hobs, hrel, hQ => by
    have hmono : ∀ (l : List Oper) (s s' : RSt), seqR P C ops l s = some s' → s'.ob = true → All s'.obs → s.ob = true ∧ All s.obs := by
      intro l
      induction l with
      | nil => intro s s' h h1 h2; simp only [seqR, Option.some.injEq] at h; subst h; exact ⟨h1, h2⟩
      | cons o l ih =>
        intro s s' h h1 h2
        unfold seqR at h
        split at h <;> try (cases h; done)
        · split at h <;> try (cases h; done)
          · obtain ⟨g1, g2⟩ := ih _ _ h h1 h2
            simp only [bnd_true, Bool.and_eq_true] at g1
            exact ⟨g1.1, (All_append.1 g2).2⟩
          · obtain ⟨g1, g2⟩ := ih _ _ h h1 h2
            simp only [bnd_true, Bool.and_eq_true] at g1
            exact ⟨g1.1, (All_append.1 g2).2⟩
        · obtain ⟨g1, g2⟩ := ih _ _ h h1 h2
          simp only [bnd_true, Bool.and_eq_true] at g1
          exact ⟨g1.1, g2⟩
    unfold seqR at h
    have hval := valOf_yielded hrel ops
    have hval0 := valOf_off hrel ops
    split at h <;> try (cases h; done)
    · rename_i g orc hg
      split at h <;> try (cases h; done)
      · rename_i r he
        obtain ⟨hob1, hobs1⟩ := hmono _ _ _ h hob hobs
        simp only [bnd_true, Bool.and_eq_true] at hob1
        obtain ⟨_, rfl, hd, hk, hrob⟩ := hob1
        have hk' := keysOk_spec hk
        have hw : Region.wanted o (yielded ops a.tmps) = true := wanted_of (fun j c _ _ => hval j c) (fun j _ _ => hval0 j) (guardS_spec hg)
        have hd' := dstOk_spec hd
        have hf : fresh ρ s.st.nk := fun k h1 _ => hrel.fresh k h1
        have hdoes := eff_new hC (sev_R hrel) hrel.rel hf he hrob (All_append.1 hobs1).1
        refine wpList_step fun K hK => ?_
        rw [if_pos hw]
        refine hdoes.wp fun v w' ⟨ρ', hr, hn⟩ => hK _ _ ?_
        refine seqR_run hC rest _ s' ρ' _ w' h hob hobs (hrel.put hn.le (Rel.new hrel.rel hn) hr hd' fun k hk2 => ?_) fun ρ2 a2 w2 hle => hQ ρ2 a2 w2 (hn.le.trans hle)
        rw [hn.only k fun b hb => by have := hk' k b hb; omega]
        exact hrel.fresh k (by omega)
      · rename_i r he
        obtain ⟨hob1, hobs1⟩ := hmono _ _ _ h hob hobs
        simp only [bnd_true, Bool.and_eq_true] at hob1
        obtain ⟨_, rfl, hd, hrob⟩ := hob1
        have hw : Region.wanted o (yielded ops a.tmps) = true := wanted_of (fun j c _ _ => hval j c) (fun j _ _ => hval0 j) (guardS_spec hg)
        have hd' := dstOk_spec hd
        have hdoes := eff_turn hC (sev_R hrel) hrel.rel hrel.fresh he hrob (All_append.1 hobs1).1
        refine wpList_step fun K hK => ?_
        rw [if_pos hw]
        refine hdoes.wp fun v w' ⟨ρ', hv, hle, hrel', hf'⟩ => hK _ _ ?_
        exact seqR_run hC rest _ s' ρ' _ w' h hob hobs (hrel.put hle hrel' hv hd' hf') fun ρ2 a2 w2 hle2 => hQ ρ2 a2 w2 (hle.trans hle2)
    · rename_i g orc hg
      obtain ⟨hob1, hobs1⟩ := hmono _ _ _ h hob hobs
      simp only [bnd_true, Bool.and_eq_true] at hob1
      obtain ⟨_, rfl, hd⟩ := hob1
      have hw : Region.wanted o (yielded ops a.tmps) = false := wanted_of (fun j c _ _ => hval j c) (fun j _ _ => hval0 j) (guardS_spec hg)
      have hd' := dstOk_spec hd
      refine wpList_step fun K hK => ?_
      rw [if_neg (by simp [hw])]
      exact hK _ _ (seqR_run hC rest _ s' ρ _ w h hob hobs (hrel.put (Le.refl _) hrel.rel off_R hd' hrel.fresh) hQ)

end Go.Proofs.YtabiknpgakhkkaaGreat.Sx
end

