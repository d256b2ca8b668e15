/-
  The executor's operations on memory: what is loaded, made, stored; calls by contract.
-/
import Derived.Test.YtkpdkfeklecehaaSxD
import Derived.Lib.ConvBytes
namespace Go.Proofs.Ytkpdkfeklecehaa.Sx
open Go.RowKit
set_option linter.unusedVariables false
set_option linter.unusedSimpArgs false

/-- All of some statements hold. -/
def All : List Prop → Prop
  | [] => True
  | p :: r => p ∧ All r
theorem All_append {a b : List Prop} : All (a ++ b) ↔ All a ∧ All b := by
  induction a with
  | nil => simp [All]
  | cons p r ih => simp [All, ih, and_assoc]

/-- What an operation on memory comes to. -/
structure Res where
  ob : Bool
  obs : List Prop
  v : SV
  E : List (Nat × Blk)

/-- Both, the second looked at first. -/
def bnd (a b : Bool) : Bool := match b with | true => a | false => false
theorem bnd_true {a b : Bool} : (bnd a b = true) = (a = true ∧ b = true) := by cases b <;> simp [bnd]

/-- What an operation comes to that turns what stood. -/
structure Turned where
  ob : Bool
  obs : List Prop
  v : SV
  T : Tab

/-- What an operation comes to: something new; something turned. -/
inductive Eff where
  | new (r : Res)
  | turn (r : Turned)

/-- A contract: whether it turns anything; of arguments, a table and the first free key: what it comes to. -/
structure Con where
  turns : Bool
  run : List SV → Tab → Nat → Option Eff

def fresh (ρ : Ren) (kb : Nat) : Prop := ∀ k, kb ≤ k → k < kb + 4 → ρ k = none
def freshA (ρ : Ren) (kb : Nat) : Prop := ∀ k, kb ≤ k → ρ k = none
theorem freshA.fresh {ρ : Ren} {kb : Nat} (h : freshA ρ kb) : fresh ρ kb := fun k h1 _ => h k h1
def keysOk (kb : Nat) (E : List (Nat × Blk)) : Bool := E.all fun p => Nat.ble kb p.1 && Nat.blt p.1 (kb + 4)

/-- What holds behind an operation that turns something. -/
def TurnR (X : Cx) (ρ : Ren) (kb : Nat) (r : Turned) (v : Value) (w' : World) : Prop := ∃ ρ', r.v.R ρ' v ∧ Le ρ ρ' ∧ Rel X ρ' r.T w' ∧ freshA ρ' (kb + 4)

def ConOK (P : Program) (f : FuncId) (c : Con) : Prop :=
  (∀ args w, (callFunc f args).run P w = .ok (.enter f args) w) ∧
  (∀ args T kb r, c.run args T kb = some (.new r) → r.ob = true → All r.obs → ∀ X ρ w vs, Rel X ρ T w → All2 (SV.R ρ) args vs → fresh ρ kb →
    Calls P f vs.toArray w fun e w' => ∃ v ρ', e = .returned v ∧ r.v.R ρ' v ∧ New ρ ρ' r.E w w') ∧
  ∀ args T kb r, c.run args T kb = some (.turn r) → r.ob = true → All r.obs → ∀ X ρ w vs, Rel X ρ T w → All2 (SV.R ρ) args vs → freshA ρ kb →
    Calls P f vs.toArray w fun e w' => ∃ v, e = .returned v ∧ TurnR X ρ kb r v w'

def LibOK (P : Program) (C : List (Nat × Con)) : Prop := ∀ f c, get C f = some c → ConOK P f c
theorem LibOK.nil (P : Program) : LibOK P [] := fun f c h => by simp [get] at h
theorem LibOK.cons {P : Program} {f : FuncId} {c : Con} {C : List (Nat × Con)} (h : ConOK P f c) (hC : LibOK P C) : LibOK P ((f, c) :: C) := fun g d hg => by
  by_cases hfg : f = g
  · subst hfg; simp [get] at hg; subst hg; exact h
  · simp only [get, beq_of_ne hfg, cond_false] at hg; exact hC g d hg

theorem enters_of {P : Program} {f : FuncId} {fn : Func} (hf : P.funcs[f]? = some fn) (hn : (fn.name == "runtime.NumGoroutine") = false) (hb : fn.body.isNone = false) (args : Array Value) (w : World) :
    (callFunc f args).run P w = .ok (.enter f args) w := by
  simp only [callFunc, Sem.run_bind, run_program, Result.andThen_ok, hf, hn, hb, Bool.false_eq_true, if_false, Sem.run_pure]

/-- What an operation does. -/
def Does (P : Program) (val : Operand → Value) (o : Oper) (w : World) (R : Value → World → Prop) : Prop :=
  (∃ v w', (execOp val o).run P w = .ok (.value v) w' ∧ R v w') ∨
  (∃ w', (execOp val o).run P w = .ok .skip w' ∧ R undef w') ∨
  (∃ f args, (execOp val o).run P w = .ok (.enter f args) w ∧ Calls P f args w fun e w' => ∃ v, e = .returned v ∧ R v w')

theorem Does.wp {P : Program} {a : Act} {o : Oper} {w : World} {R : Value → World → Prop} (h : Does P a.eval o w R) {K : Act → World → Prop} {Q : Exit → Act → World → Prop}
    (hK : ∀ v w', R v w' → K (a.put o.dst v) w') : o.wp P a w K Q := by
  unfold Oper.wp
  rcases h with ⟨v, w', hr, h⟩ | ⟨w', hr, h⟩ | ⟨f, args, hr, h⟩
  · rw [hr]; exact hK _ _ h
  · rw [hr]; exact hK _ _ h
  · rw [hr, Oper.upon_enter]
    refine h.mono fun e w'' ⟨v, he, hR⟩ => ?_
    subst he
    exact hK _ _ hR

theorem Does.mono {P : Program} {val : Operand → Value} {o : Oper} {w : World} {R S : Value → World → Prop} (h : Does P val o w R) (hs : ∀ v w', R v w' → S v w') : Does P val o w S := by
  rcases h with ⟨v, w', hr, h⟩ | ⟨w', hr, h⟩ | ⟨f, args, hr, h⟩
  · exact .inl ⟨v, w', hr, hs _ _ h⟩
  · exact .inr (.inl ⟨w', hr, hs _ _ h⟩)
  · exact .inr (.inr ⟨f, args, hr, h.mono fun e w'' ⟨v, he, hR⟩ => ⟨v, he, hs _ _ hR⟩⟩)

/-! Memory. -/

theorem cell_of {w : World} {g j : Nat} {cs : Array Value} {t : TypeId} {fr : Nat × Nat} (hg : w.heap[g]? = some (.cells cs t fr)) : w.cell? ⟨g, j, none⟩ = cs[j]? := by
  simp [World.cell?, hg]

def SC.isU8 : SC → Bool | .u8 _ => true | _ => false
def SC.asU8 : SC → UInt8 | .u8 b => b | _ => 0
def SC.isU64 : SC → Bool | .u64 _ => true | _ => false
def SC.asU64 : SC → UInt64 | .u64 b => b | _ => 0
def SC.isInt : SC → Bool | .int _ => true | _ => false
def SC.asInt : SC → Int | .int b => b | _ => 0
def SC.isBool : SC → Bool | .bool _ => true | _ => false
def SC.asBool : SC → Bool | .bool b => b | _ => false
/-- A cell read by its type: what is read has a shape, whatever list it is read from. -/
def cellAs (P : Program) (t : TypeId) (x : SC) : Bool × SC :=
  match P.underlying t with
  | some (.int .u8) => (x.isU8, .u8 x.asU8)
  | some (.int .u64) => (x.isU64, .u64 x.asU64)
  | some (.int .i64) => (x.isInt, .int x.asInt)
  | some .bool => (x.isBool, .bool x.asBool)
  | _ => (true, x)
theorem cellAs_eq {P : Program} {t : TypeId} {x : SC} (h : (cellAs P t x).1 = true) : (cellAs P t x).2 = x := by
  unfold cellAs at h ⊢
  split at h <;> first | rfl | (cases x <;> first | rfl | (simp [SC.isU8, SC.isU64, SC.isInt, SC.isBool] at h; done))

/-- Cells read by their types. -/
def cellsAs (P : Program) (cs : List SC) : List TypeId → Nat → Bool × List SC
  | [], _ => (true, [])
  | t :: ts, o => ((cellAs P t (cs.getD o .nilp)).1 && (cellsAs P cs ts (o + 1)).1, (cellAs P t (cs.getD o .nilp)).2 :: (cellsAs P cs ts (o + 1)).2)
theorem cellsAs_eq {P : Program} {cs : List SC} : ∀ {ts : List TypeId} {o : Nat}, (cellsAs P cs ts o).1 = true → o + ts.length ≤ cs.length → (cellsAs P cs ts o).2 = (cs.drop o).take ts.length
  | [], o, _, _ => by simp [cellsAs]
  | t :: ts, o, h, hl => by
    simp only [cellsAs, Bool.and_eq_true] at h
    simp only [List.length_cons] at hl
    have hd : cs.drop o = cs[o] :: cs.drop (o + 1) := List.drop_eq_getElem_cons (by omega)
    have hg : cs.getD o .nilp = cs[o] := by simp [List.getD, List.getElem?_eq_getElem (show o < cs.length by omega)]
    have h1 := cellAs_eq h.1
    rw [hg] at h1
    simp only [cellsAs, hg, h1, hd, List.length_cons, List.take_succ_cons, cellsAs_eq h.2 (by omega)]
/-- The cells' types of a small struct. -/
def smallS (P : Program) (t : TypeId) (n : Nat) : Option (List TypeId) := match P.underlying t with
  | some (.struct _) => match Nat.ble n 16 with
    | true => match P.cellTypes P.depth t with
      | some ts => match Nat.beq ts.length n with
        | true => some ts
        | false => none
      | none => none
    | false => none
  | _ => none
theorem smallS_len {P : Program} {t : TypeId} {n : Nat} {ts : List TypeId} (h : smallS P t n = some ts) : ts.length = n := by
  unfold smallS at h
  split at h <;> try (cases h; done)
  split at h <;> try (cases h; done)
  split at h <;> try (cases h; done)
  split at h <;> try (cases h; done)
  rename_i hb
  simp only [Option.some.injEq] at h; subst h
  exact Nat.eq_of_beq_eq_true hb

/-- A loaded variable. -/
def loadS (P : Program) (t : TypeId) (b : Blk) (off : Nat) : Option (Bool × SV) :=
  match isAggS P t, sizeS P t with
  | some true, some n => match smallS P t n with
    | some ts => some (Nat.ble (off + n) b.cells.length && (cellsAs P b.cells ts off).1, .agg (cellsAs P b.cells ts off).2)
    | none => some (Nat.ble (off + n) b.cells.length, .agg ((b.cells.drop off).take n))
  | some false, _ => some (Nat.blt off b.cells.length && (cellAs P t (b.cells.getD off .nilp)).1, .c (cellAs P t (b.cells.getD off .nilp)).2)
  | _, _ => none

theorem loadS_run {ρ : Ren} {P : Program} {w : World} {t : TypeId} {b : Blk} {off : Nat} {r : SV} {l : Loc} (h : loadS P t b off = some (true, r)) (hb : b.R ρ w (some l)) :
    ∃ v, (loadVar t ⟨l.blk, l.o0 + off, none⟩).run P w = .ok v w ∧ r.R ρ v := by
  obtain ⟨pre, vs, rest, fr, hh, hc, _, _, hpre, _⟩ := hb
  have hcell : ∀ j v, vs[j]? = some v → w.cell? ⟨l.blk, l.o0 + j, none⟩ = some v := fun j v hj => by
    rw [cell_of hh]
    have : j < vs.length := (List.getElem?_eq_some_iff.1 hj).1
    rw [List.getElem?_toArray, List.getElem?_append_right (by omega), hpre, Nat.add_sub_cancel_left, List.getElem?_append_left this, hj]
  unfold loadS at h
  split at h
  · rename_i n ha hs
    have h : off + n ≤ b.cells.length ∧ r = .agg ((b.cells.drop off).take n) := by
      split at h
      · rename_i ts hts
        have hl := smallS_len hts
        simp only [Option.some.injEq, Prod.mk.injEq, Bool.and_eq_true, Nat.ble_eq] at h
        obtain ⟨⟨h1, h2⟩, rfl⟩ := h
        exact ⟨h1, by rw [cellsAs_eq h2 (by omega), hl]⟩
      · simp only [Option.some.injEq, Prod.mk.injEq, Nat.ble_eq] at h
        exact ⟨h.1, h.2.symm⟩
    obtain ⟨hle, rfl⟩ := h
    have hlen := hc.length
    have hr := run_loadCells_list (P := P) w ⟨l.blk, l.o0 + off, none⟩ ((vs.drop off).take n) (fun j v hj => by
      have hj' : j < n := by
        rcases Nat.lt_or_ge j n with h | h
        · exact h
        · rw [List.getElem?_eq_none (by simp; omega)] at hj; cases hj
      have hv : vs[off + j]? = some v := by
        rw [List.getElem?_take_of_lt hj', List.getElem?_drop] at hj; exact hj
      have : (⟨l.blk, l.o0 + off, none⟩ : Addr).add j = ⟨l.blk, l.o0 + (off + j), none⟩ := by unfold Addr.add; split <;> simp_all [Nat.add_assoc]
      rw [this]; exact hcell _ _ hv)
    have hn : ((vs.drop off).take n).length = n := by simp; omega
    rw [hn] at hr
    refine ⟨.agg ((vs.drop off).take n).toArray, ?_, _, rfl, (hc.drop off).take n⟩
    simp only [loadVar, Sem.run_bind, isAggS_run ha, sizeS_run hs, Result.andThen_ok, if_true, hr, Sem.run_pure]
  · rename_i ha
    simp only [Option.some.injEq, Prod.mk.injEq, Bool.and_eq_true, Nat.blt_eq] at h
    obtain ⟨⟨hlt, hca⟩, rfl⟩ := h
    rw [cellAs_eq hca]
    have hx : b.cells[off]? = some (b.cells.getD off .nilp) := by simp [List.getD, hlt]
    obtain ⟨v, hv, hr⟩ := hc.get hx
    refine ⟨v, ?_, hr⟩
    simp only [loadVar, Sem.run_bind, isAggS_run ha, Result.andThen_ok, Bool.false_eq_true, if_false, run_load, hcell _ _ hv]
  · cases h

def upd (ρ : Ren) (k : Nat) (x : Option Loc) : Ren := ⟨fun j => if j = k then some x else ρ j, ρ.row⟩
theorem upd_same (ρ : Ren) (k : Nat) (x : Option Loc) : upd ρ k x k = some x := by simp [upd]
theorem upd_ne (ρ : Ren) {k j : Nat} (x : Option Loc) (h : j ≠ k) : upd ρ k x j = ρ j := by simp [upd, h]
theorem Le.upd {ρ : Ren} {k : Nat} (x : Option Loc) (h : ρ k = none) : Le ρ (upd ρ k x) := ⟨fun j y hj => (by
  rw [upd_ne]; exact hj
  intro e; subst e; rw [h] at hj; simp at hj), fun _ _ h => h⟩

/-- One new block. -/
theorem New.one {ρ : Ren} {kb : Nat} {b : Blk} {w w' : World} {x : Option Loc} (hf : ρ kb = none) (hb : Below w.heap.size w w') (hB : b.R (upd ρ kb x) w' x) (hx : ∀ l, x = some l → w.heap.size ≤ l.blk) (hl : ∀ l, x = some l → l.lit = true → b.own = false) :
    New ρ (upd ρ kb x) [(kb, b)] w w' := New.of (below := hb)
  (le := Le.upd x hf)
  (only := fun k hk => upd_ne _ _ fun e => hk b (by subst e; simp))
  (blk := fun k b' hk => by
    simp only [List.mem_singleton, Prod.mk.injEq] at hk
    obtain ⟨rfl, rfl⟩ := hk
    exact ⟨x, upd_same _ _ _, hB, hx⟩)
  (sep := fun k b1 k' b2 l l' hk hk' hne => by
    simp only [List.mem_singleton, Prod.mk.injEq] at hk hk'
    exact absurd (hk.1.trans hk'.1.symm) hne)
  (lit := fun k b' l hk hkl hlit => by
    simp only [List.mem_singleton, Prod.mk.injEq] at hk
    obtain ⟨rfl, rfl⟩ := hk
    rw [upd_same] at hkl; cases hkl
    exact hl l rfl hlit)
  (row := rfl)

theorem below_alloc (w : World) (o : Obj) : Below w.heap.size w (w.alloc o) := (Below.refl _ _).alloc (Nat.le_refl _) _

/-- A new block of given cells. -/
theorem New.alloc {ρ : Ren} {kb : Nat} {cs : List SC} {ty : TypeId} {tail own : Bool} {w : World} {vs rest : List Value} (hf : ρ kb = none) (hc : All2 (SC.R ρ) cs vs) (ht : tail = false → rest = []) :
    New ρ (upd ρ kb (some ⟨w.heap.size, (vs ++ rest).length, !own, 0⟩)) [(kb, ⟨cs, ty, tail, own⟩)] w (w.alloc (.cells (vs ++ rest).toArray ty)) :=
  New.one hf (below_alloc _ _) ⟨[], vs, rest, (0, 0), heap_alloc_new _ _, forall₂_imp (fun _ _ => SC.R.mono (Le.upd _ hf)) hc, rfl, ht, rfl, fun _ => ⟨rfl, rfl⟩, fun h _ => ⟨by simp only at h; simp [h], rfl, .inl rfl⟩⟩ (fun l hl => by
    cases hl; exact Nat.le_refl _) (fun l hl h => by cases hl; simpa using h)

/-- The cells that a slice or a string has; how many elements; whether it is so. -/
def srcC (T : Tab) : SV → List SC
  | .c (.slc k off esz len _) => match T.blk k with
    | some b => (b.cells.drop off).take (len * esz)
    | none => []
  | .c (.str s) => s.map SC.u8
  | .c (.row bs _) => bs.map SC.u8
  | _ => []
def srcN : SV → Nat
  | .c (.slc _ _ _ len _) => len
  | .c (.str s) => s.length
  | .c (.row bs _) => bs.length
  | _ => 0
def srcOk (T : Tab) (m : Nat) : SV → Bool
  | .c (.slc k off esz len _) => match T.blk k with
    | some b => Nat.ble (off + len * esz) b.cells.length && Nat.beq esz m
    | none => false
  | .c (.str s) => Nat.beq m 1
  | .c (.row _ _) => Nat.beq m 1
  | .c .nils => true
  | _ => false

def SV.noStr : SV → Bool | .c (.str _) => false | _ => true

/-- The cells of so many zero elements. -/
def zerosS (z : List SC) (c m : Nat) : List SC :=
  match z with
  | [z0] => List.replicate (c * m) z0
  | z => (List.range (c * m)).map fun i => z.getD (i % z.length) .nilp

def isByte (P : Program) (t : TypeId) : Bool := match P.underlying t with | some (.int .u8) => true | _ => false
theorem isByte_spec {P : Program} {t : TypeId} (h : isByte P t = true) : P.underlying t = some (.int .u8) := by
  unfold isByte at h; split at h; assumption; cases h

/-- What a function value has captured, as arguments. -/
def capArgs (caps : List (Nat × Nat)) : List SV := caps.map fun p => .c (.ptr p.1 p.2)
theorem capArgs_R {ρ : Ren} : ∀ {caps : List (Nat × Nat)} {vs : List Value}, All2 (PtrR ρ) caps vs → All2 (SV.R ρ) (capArgs caps) vs
  | [], _, h => by cases h; exact .nil
  | p :: caps, _, h => by
    cases h with
    | cons h1 h2 => exact .cons h1 (capArgs_R h2)
/-- Slices of arrays; literals of slices; conversions between bytes and strings. -/
def mop (P : Program) (C : List (Nat × Con)) (op : Op) (ev : Operand → SV) (T : Tab) (kb : Nat) : Option Res :=
  match op with
  | .load t x => match ev x with
    | .c (.ptr k off) => match T.blk k with
      | some b => match loadS P t b off with
        | some (o, v) => some ⟨o, [], v, []⟩
        | none => none
      | none => none
    | _ => none
  | .alloc t => match zeroS P t with
    | some cs => some ⟨true, [], .c (.ptr kb 0), [(kb, ⟨cs, t, false, true⟩)]⟩
    | none => none
  | .box t x => match (ev x).cells with
    | some cs => some ⟨true, [], .c (.ptr kb 0), [(kb, ⟨cs, t, false, true⟩)]⟩
    | none => none
  | .slice t x lo hi mx => match mx, P.underlying t, ev x with
    | none, some (.array n e), .c (.ptr k off) => match T.blk k, sizeS P e, bndS ev 0 lo, bndS ev n hi with
      | some b, some m, some (o1, l), some (o2, h) => some ⟨o1 && (o2 && (Nat.ble l h && (Nat.ble h n && Nat.ble (off + n * m) b.cells.length))), [], .c (.slc k (off + l * m) m (h - l) (some (n - l))), []⟩
      | _, _, _, _ => none
    | _, _, _ => none
  | .buildSlice t len parts => match P.underlying t with
    | some (.slice e) => match sizeS P e, zeroS P e with
      | some m, some z => match fillS (fun i => some (i * m, m)) ((List.range (len * m)).map fun i => z.getD (i % z.length) .nilp) (parts.toList.map fun p => (p.1, ev p.2)) with
        | some cs => some ⟨Nat.ble (len * m) 16777216 && !(Nat.beq z.length 0), [], .c (.slc kb 0 m len (some len)), [(kb, ⟨cs, e, false, !(isByte P e) || Nat.beq len 0⟩)]⟩
        | none => none
      | _, _ => none
    | _ => none
  | .convert src dst x => match P.underlying src, P.underlying dst with
    | some .string, some (.slice e) => match ev x with
      | .c (.str s) => some ⟨isByte P e, [], .c (.slc kb 0 1 s.length none), [(kb, ⟨s.map SC.u8, e, true, false⟩)]⟩
      | _ => none
    | some (.slice _), some (.slice e) => match ev x with
      | .c (.slc k off esz len cap) => match T.blk k with
        | some b => some ⟨isByte P e && (Nat.beq src dst && (!b.own && !b.tail)), [], .c (.slc k off esz len cap), []⟩
        | none => none
      | _ => none
    | some (.slice e), some .string => some ⟨isByte P e && ((ev x).noStr && (srcOk T 1 (ev x) && (srcC T (ev x)).all SC.isU8)), [], .c (.str ((srcC T (ev x)).map SC.asU8)), []⟩
    | _, _ => none
  | .makeSlice t l c => match P.underlying t, (ev l).num, (ev c).num with
    | some (.slice e), some (_, l), some (_, c) => match P.info? e, sizeS P e, zeroS P e with
      | some i, some m, some z => some ⟨decide (0 ≤ l) && (decide (l ≤ c) && (Nat.ble (i.bytes * c.toNat) 281474976710656 && (Nat.ble c.toNat maxLen && (Nat.beq z.length m && Nat.blt 0 m)))), [], .c (.slc kb 0 m l.toNat (some c.toNat)), [(kb, ⟨zerosS z c.toNat m, e, false, true⟩)]⟩
      | _, _, _ => none
    | _, _, _ => none
  | .call c => match c.callee with
    | .value f => match ev f with
      | .c (.fn f caps) => match get C f with
        | some con => match con.run (c.args.toList.map ev ++ capArgs caps) T kb with
          | some (.new r) => some { r with ob := keysOk kb r.E && r.ob }
          | _ => none
        | none => none
      | _ => none
    | _ => none
  | _ => none

section
variable {ρ : Ren} {P : Program} {ev : Operand → SV} {val : Operand → Value} {X : Cx} {T : Tab} {w : World} {kb : Nat}

theorem RelP.at {M : Nat → Blk → Prop} {k : Nat} {b : Blk} {l : Loc} (h : RelP X ρ M w) (hk : M k b) (hl : ρ k = some (some l)) : b.R ρ w (some l) := by
  obtain ⟨x, hx, hb⟩ := h.blk k b hk
  rw [hl] at hx; cases hx; exact hb

theorem All2.of_append {α β : Type} {R : α → β → Prop} : ∀ {l l' : List α} {m : List β}, All2 R (l ++ l') m → ∃ m1 m2, m = m1 ++ m2 ∧ All2 R l m1 ∧ All2 R l' m2
  | [], l', m, h => ⟨[], m, rfl, .nil, h⟩
  | a :: l, l', m, h => by
    cases h with
    | cons h1 h2 =>
      obtain ⟨m1, m2, rfl, h3, h4⟩ := All2.of_append h2
      exact ⟨_ :: m1, m2, rfl, .cons h1 h3, h4⟩

theorem one_of_All2 {ρ : Ren} {cs : List SC} {vs : List Value} (h : All2 (SC.R ρ) cs vs) : ∀ v ∈ vs, v.oneCell' = true := by
  induction h with
  | nil => intro v hv; simp at hv
  | cons h1 _ ih => intro v hv; rcases List.mem_cons.1 hv with rfl | hv; exact h1.one; exact ih v hv

theorem add_eq (g off j : Nat) : (⟨g, off, none⟩ : Addr).add j = ⟨g, off + j, none⟩ := by unfold Addr.add; split <;> simp_all

/-- What is read of a slice whose block is known. -/
theorem slc_run {P : Program} {ρ : Ren} {w : World} {k off esz len : Nat} {cap : Option Nat} {b : Blk} {v : Value} {x : Option Loc} (hk : ρ k = some x) (hb : b.R ρ w x) (hx : (SC.slc k off esz len cap).R ρ v) (hle : off + len * esz ≤ b.cells.length) :
    ((b.cells.drop off).take (len * esz)).length = len * esz ∧ (∀ w', (Builtin.lenOf v).run P w' = .ok len w') ∧ ∃ news : List Value, All2 (SC.R ρ) ((b.cells.drop off).take (len * esz)) news ∧ ∀ w', w'.heap = w.heap → (Builtin.firstCells esz len v).run P w' = .ok news.toArray w' := by
  have hlen : ((b.cells.drop off).take (len * esz)).length = len * esz := by simp only [List.length_take, List.length_drop]; omega
  refine ⟨hlen, ?_, ?_⟩
  · intro w'
    rcases hx with ⟨_, ⟨_, rfl⟩, rfl, _⟩ | ⟨l, o, c, _, rfl, _⟩ <;> rfl
  · rcases hx with ⟨_, ⟨aa, rfl⟩, hl0, _⟩ | ⟨l, o, c, hk', rfl, hlc, hoc, _⟩
    · subst hl0
      refine ⟨[], ?_, fun w' _ => by cases aa <;> simp [Builtin.firstCells, loadCells, loadCellsFrom]⟩
      have : (b.cells.drop off).take (0 * esz) = [] := by simp
      rw [this]; exact .nil
    · rw [hk] at hk'; cases hk'
      obtain ⟨pre, vs, rest, fr, hh, hc, htot, _, hpre, _⟩ := hb
      have hcl := hc.length
      refine ⟨(vs.drop off).take (len * esz), (hc.drop off).take _, fun w' hw' => ?_⟩
      refine run_firstCells_some (P := P) w' esz len ⟨l.blk, o, none⟩ len c _ (by simp; omega) fun j u hj => ?_
      have hj' : j < len * esz := by
        rcases Nat.lt_or_ge j (len * esz) with h | h
        · exact h
        · rw [List.getElem?_eq_none (by simp; omega)] at hj; cases hj
      have hc0 : c ≠ 0 := fun e => by subst e; have : len = 0 := by omega
                                      subst this; simp at hj'
      rw [(hoc hc0).1, add_eq]
      rw [List.getElem?_take_of_lt hj', List.getElem?_drop] at hj
      have hlt : off + j < vs.length := (List.getElem?_eq_some_iff.1 hj).1
      rw [cell_of (w := w') (by rw [hw']; exact hh)]
      rw [List.getElem?_toArray, List.getElem?_append_right (by omega), hpre, Nat.add_assoc, Nat.add_sub_cancel_left, List.getElem?_append_left hlt, hj]

theorem u8_map {ρ ρ' : Ren} (bs : List UInt8) {vs : List Value} (h : All2 (SC.R ρ) (bs.map SC.u8) vs) : All2 (SC.R ρ') (bs.map SC.u8) vs := by
  induction bs generalizing vs with
  | nil => cases h; exact .nil
  | cons b bs ih => cases h with | cons h1 h2 => exact .cons h1 (ih h2)

/-- What is read of a source. -/
theorem src_run {P : Program} {X : Cx} {ρ : Ren} {T : Tab} {w : World} {m : Nat} {x : SV} {v : Value} (hrel : Rel X ρ T w) (hx : x.R ρ v) (h : srcOk T m x = true) :
    (srcC T x).length = srcN x * m ∧ (∀ w', (Builtin.lenOf v).run P w' = .ok (srcN x) w') ∧ ∃ news : List Value, All2 (SC.R ρ) (srcC T x) news ∧ ∀ w', w'.heap = w.heap → (Builtin.firstCells m (srcN x) v).run P w' = .ok news.toArray w' := by
  unfold srcOk at h
  split at h
  · rename_i k off esz len cap
    split at h <;> try (cases h; done)
    rename_i b hb
    simp only [Bool.and_eq_true, Nat.ble_eq] at h
    obtain ⟨hle, hm⟩ := h
    obtain rfl := Nat.eq_of_beq_eq_true hm
    obtain ⟨y, hy, hR⟩ := hrel.blk k b hb
    have := slc_run (P := P) hy hR hx hle
    simpa only [srcC, srcN, hb] using this
  · rename_i s
    obtain rfl := Nat.eq_of_beq_eq_true h
    obtain rfl : v = _ := hx
    refine ⟨by simp [srcC, srcN], fun w' => rfl, s.map fun b => .int .u8 b.toNat, ?_, fun w' _ => ?_⟩
    · exact All2.map (R := SC.R ρ) (f := SC.u8) (g := fun b => .int .u8 b.toNat) (fun b => rfl) s
    · simp only [Builtin.firstCells, srcN]
      have : ((⟨s.toArray⟩ : ByteArray).extract 0 s.length) = ⟨s.toArray⟩ := by
        apply ByteArray.ext
        simp
      rw [this]
      simp
  · rename_i bs u
    obtain rfl := Nat.eq_of_beq_eq_true h
    obtain ⟨rfl, hr, _⟩ := hx
    obtain ⟨off, b, y, hrow, hbR, hsR, _, hold⟩ := hrel.rows _ _ hr
    have hbR' : b.R (upd ρ 0 y) w y := (hbR _).keep (Le.refl _) fun l hl => hrel.old _ (hold l hl).1 (hold l hl).2
    have hcells : (b.cells.drop off).take (bs.length * 1) = bs.map SC.u8 := by
      rw [hrow.cells, Nat.mul_one, List.take_of_length_le (by simp)]
    obtain ⟨h1, h2, news, h3, h4⟩ := slc_run (P := P) (ρ := upd ρ 0 y) (k := 0) (upd_same _ _ _) hbR' (hsR _ 0 (upd_same _ _ _)) (by have := hrow.len; omega)
    rw [hcells] at h1 h3
    exact ⟨h1, h2, news, u8_map bs h3, h4⟩
  · obtain rfl : v = _ := hx
    exact ⟨by simp [srcC, srcN], fun w' => rfl, [], .nil, fun w' _ => rfl⟩
  · cases h

theorem zeroS_all {ρ : Ren} {P : Program} {t : TypeId} {cs : List SC} (h : zeroS P t = some cs) : ∃ z, (∀ w, (zeroValue t).run P w = .ok z w) ∧ All2 (SC.R ρ) cs z.cells.toList := by
  unfold zeroS at h
  split at h <;> try (cases h; done)
  rename_i z hz
  refine ⟨z, fun w => ?_, (SV.cells_R h (ofVal_R z)).1⟩
  cases hi : P.info? t with
  | none => simp [hi] at hz
  | some i => simp [hi] at hz; simp [zeroValue, typeInfo, hi, hz]

theorem zerosS_R {ρ : Ren} {z : List SC} {zv : Array Value} {c m : Nat} (hz : All2 (SC.R ρ) z zv.toList) (hm : z.length = m) (h0 : 0 < m) : All2 (SC.R ρ) (zerosS z c m) (madeCells zv (c * m)).toList := by
  have gen : All2 (SC.R ρ) ((List.range (c * m)).map fun i => z.getD (i % z.length) .nilp) (madeCells zv (c * m)).toList := by
    have hs : z.length = zv.size := by have := hz.length; simpa using this
    simp only [madeCells, Array.toList_map, Array.toList_range]
    refine All2.map (fun i => ?_) _
    have hlt : i % z.length < z.length := Nat.mod_lt _ (by omega)
    have hg : z[i % z.length]? = some (z.getD (i % z.length) .nilp) := by simp [List.getD, hlt]
    obtain ⟨v, hv, hr⟩ := hz.get hg
    rw [← hs]
    have : zv[i % z.length]! = v := by
      have hlt' : i % z.length < zv.size := by omega
      rw [getElem!_pos zv _ hlt']
      have := (List.getElem?_eq_some_iff.1 hv).2
      simpa using this
    rw [this]; exact hr
  unfold zerosS
  split
  · rename_i z0
    have e : ((List.range (c * m)).map fun i => [z0].getD (i % [z0].length) .nilp) = List.replicate (c * m) z0 := by
      rw [List.eq_replicate_iff]
      refine ⟨by simp, fun b hb => ?_⟩
      obtain ⟨i, _, rfl⟩ := List.mem_map.1 hb
      simp [Nat.mod_one]
    rw [← e]; exact gen
  · exact gen

theorem u8s_of {ρ : Ren} : ∀ {cs : List SC} {vs : List Value}, All2 (SC.R ρ) cs vs → cs.all SC.isU8 = true → vs = (cs.map SC.asU8).map fun b => Value.int .u8 b.toNat
  | [], vs, h, _ => by cases h; rfl
  | x :: cs, vs, h, ha => by
    cases h with
    | cons h1 h2 =>
      simp only [List.all_cons, Bool.and_eq_true] at ha
      rw [u8s_of h2 ha.2]
      cases x <;> first | (simp [SC.isU8] at ha; done) | skip
      obtain rfl := h1
      rfl

theorem pushes : ∀ (bs : List UInt8) (s : ByteArray), (bs.map fun b => (b.toNat : Int)).foldl (fun r n => r.push (UInt8.ofNat n.toNat)) s = ⟨s.data ++ bs.toArray⟩
  | [], s => by simp
  | b :: bs, s => by
    rw [List.map_cons, List.foldl_cons, pushes bs]
    apply ByteArray.ext
    simp [ByteArray.push]

theorem mop_does {C : List (Nat × Con)} (hC : LibOK P C) {o : Oper} (hv : ∀ x, (ev x).R ρ (val x)) (hrel : Rel X ρ T w) (hf : fresh ρ kb) {r : Res} (h : mop P C o.op ev T kb = some r) (hob : r.ob = true) (hobs : All r.obs) :
    Does P val o w fun v w' => ∃ ρ', r.v.R ρ' v ∧ New ρ ρ' r.E w w' := by
  obtain ⟨dst, op, type, pos, after, guard⟩ := o
  simp only at h
  have hkb : ρ kb = none := hf kb (Nat.le_refl _) (by omega)
  unfold mop at h
  split at h
  · -- load
    rename_i t x
    split at h <;> try (cases h; done)
    rename_i k off hx
    split at h <;> try (cases h; done)
    rename_i b hb
    split at h <;> try (cases h; done)
    rename_i ob v hl
    simp only [Option.some.injEq] at h; subst h
    simp only at hob; subst hob
    have h1 := hv x
    rw [hx] at h1
    obtain ⟨l, hk, hv'⟩ := h1
    obtain ⟨u, hu, hr⟩ := loadS_run (P := P) hl (hrel.at hb hk)
    refine .inl ⟨u, w, ?_, ρ, hr, New.refl _ _⟩
    simp only [execOp, Instr.loadAt, Sem.run_bind, hv', Instr.sureAddr, Sem.run_pure, Result.andThen_ok, hu]
  · -- alloc
    rename_i t
    split at h <;> try (cases h; done)
    rename_i cs hz
    simp only [Option.some.injEq] at h; subst h
    obtain ⟨z, hzr, hza, _⟩ := zeroS_run (ρ := ρ) (P := P) hz w
    refine .inl ⟨.pointer (some ⟨w.heap.size, 0, none⟩), w.alloc (.cells (z.cells.toList ++ []).toArray t), ?_, upd ρ kb (some ⟨w.heap.size, (z.cells.toList ++ []).length, !true, 0⟩), ?_, New.alloc hkb hza fun _ => rfl⟩
    · simp only [execOp, Instr.alloc, Sem.run_bind, hzr, Result.andThen_ok, newVar, newRow, run_newObj, Sem.run_pure, List.append_nil, Array.toArray_toList]
      rfl
    · exact ⟨⟨w.heap.size, _, _, 0⟩, upd_same _ _ _, rfl⟩
  · -- box
    rename_i t x
    split at h <;> try (cases h; done)
    rename_i cs hc
    simp only [Option.some.injEq] at h; subst h
    have ha := (SV.cells_R hc (hv x)).1
    refine .inl ⟨.pointer (some ⟨w.heap.size, 0, none⟩), w.alloc (.cells ((val x).cells.toList ++ []).toArray t), ?_, upd ρ kb (some ⟨w.heap.size, ((val x).cells.toList ++ []).length, !true, 0⟩), ?_, New.alloc hkb ha fun _ => rfl⟩
    · simp only [execOp, Instr.box, Sem.run_bind, Result.andThen_ok, newVar, newRow, run_newObj, Sem.run_pure, List.append_nil, Array.toArray_toList]
      rfl
    · exact ⟨⟨w.heap.size, _, _, 0⟩, upd_same _ _ _, rfl⟩
  · -- slice
    rename_i t x lo hi mx
    split at h <;> try (cases h; done)
    rename_i n e k off hu hx
    split at h <;> try (cases h; done)
    rename_i b m o1 l o2 hh hb hm hl hhi
    simp only [Option.some.injEq] at h; subst h
    simp only [Bool.and_eq_true, Nat.ble_eq] at hob
    obtain ⟨rfl, rfl, hlh, hhn, hfit⟩ := hob
    have h1 := hv x
    rw [hx] at h1
    obtain ⟨lc, hk, hv'⟩ := h1
    have hbd := bounds_run (P := P) hv hl hhi hlh false n hhn w
    refine .inl ⟨.slice (some (if n = l then ⟨lc.blk, lc.o0 + off, none⟩ else (⟨lc.blk, lc.o0 + off, none⟩ : Addr).add (l * m))) (hh - l) (n - l), w, ?_, ρ, .inr ⟨lc, if n = l then lc.o0 + off else lc.o0 + off + l * m, n - l, hk, ?_, by omega, ?_, ?_⟩, New.refl _ _⟩
    · simp only [execOp, Instr.sliceAt, Sem.run_bind, run_underlying hu, Result.andThen_ok, hv', Instr.sureAddr, Sem.run_pure, Option.map_none, hbd, sizeS_run hm]
    · by_cases hcl : n = l
      · simp [hcl]
      · simp only [if_neg hcl, Addr.add]
        by_cases hz : l * m = 0 <;> simp [hz]
    · intro hne
      refine ⟨by rw [if_neg (by omega), Nat.add_assoc], ?_⟩
      obtain ⟨pre, vs, rest, fr, _, hc, ht, _⟩ := hrel.at hb hk
      have h1 := hc.length
      have h2 : n * m = (n - l) * m + l * m := by rw [← Nat.add_mul]; congr 1; omega
      simp at ht
      omega
    · intro q hq; cases hq; rfl
  · -- buildSlice
    rename_i t len parts
    split at h <;> try (cases h; done)
    rename_i e hu
    split at h <;> try (cases h; done)
    rename_i m z hm hz
    split at h <;> try (cases h; done)
    rename_i cs hcs
    simp only [Option.some.injEq] at h; subst h
    simp only [Bool.and_eq_true, Nat.ble_eq, Bool.not_eq_true'] at hob
    obtain ⟨hle, hz0⟩ := hob
    obtain ⟨zv, hzr, hza, _⟩ := zeroS_run (ρ := ρ) (P := P) hz w
    have hzl : z.length = zv.cells.size := by have := hza.length; simpa using this
    have hzpos : 0 < z.length := by
      rcases Nat.eq_zero_or_pos z.length with h | h
      · rw [h] at hz0; simp at hz0
      · exact h
    have hza2 : All2 (SC.R ρ) ((List.range (len * m)).map fun i => z.getD (i % z.length) .nilp) ((List.range (len * m)).map fun i => (if len * m = 0 then #[] else zv.cells)[i % (if len * m = 0 then #[] else zv.cells).size]!) := by
      have : ∀ (ls : List Nat), (∀ i ∈ ls, i < len * m) → All2 (SC.R ρ) (ls.map fun i => z.getD (i % z.length) .nilp) (ls.map fun i => (if len * m = 0 then #[] else zv.cells)[i % (if len * m = 0 then #[] else zv.cells).size]!) := by
        intro ls
        induction ls with
        | nil => intro _; exact .nil
        | cons i ls ih =>
          intro hi
          have h0 := hi i (by simp)
          refine .cons ?_ (ih fun j hj => hi j (by simp [hj]))
          have hne : ¬ len * m = 0 := by omega
          simp only [if_neg hne]
          have hlt : i % z.length < z.length := Nat.mod_lt _ hzpos
          have hg : z[i % z.length]? = some (z.getD (i % z.length) .nilp) := by simp [List.getD, hlt]
          obtain ⟨v, hv, hr⟩ := hza.get hg
          rw [← hzl]
          have : zv.cells[i % z.length]! = v := by
            have hlt' : i % z.length < zv.cells.size := by omega
            rw [getElem!_pos zv.cells _ hlt']
            have := (List.getElem?_eq_some_iff.1 hv).2
            simpa using this
          rw [this]; exact hr
      exact this _ fun i hi => List.mem_range.1 hi
    have hparts : All2 (fun (p : Nat × SV) (q : Nat × Value) => p.1 = q.1 ∧ p.2.R ρ q.2) (parts.toList.map fun p => (p.1, ev p.2)) (parts.map fun (p : Nat × Operand) => (p.1, val p.2)).toList := by
      rw [Array.toList_map]
      exact All2.map (fun p => ⟨rfl, hv p.2⟩) _
    obtain ⟨rv, hrv, hr⟩ := fillS_run hparts hza2 hcs
    refine .inl ⟨.slice (some ⟨w.heap.size, 0, none⟩) len len, w.alloc (.cells (rv ++ []).toArray e), ?_, upd ρ kb (some ⟨w.heap.size, (rv ++ []).length, !(!(isByte P e) || Nat.beq len 0), 0⟩), ?_, New.alloc hkb hr fun _ => rfl⟩
    · simp only [execOp, Instr.buildSlice, Sem.run_bind, run_underlying hu, Result.andThen_ok, sizeS_run hm]
      have hgt : ¬ (len * m > 2 ^ 24) := by omega
      simp only [if_neg hgt]
      have hrv' : Instr.fill (fun i => some (i * m, m)) ((Array.range (len * m)).map fun i => (if len * m = 0 then #[] else zv.cells)[i % (if len * m = 0 then #[] else zv.cells).size]!) (parts.map fun (p : Nat × Operand) => (p.1, val p.2)).toList = some rv.toArray := by
        rw [← hrv]; congr 1
        apply Array.toList_inj.1
        simp
      by_cases h0 : len * m = 0
      · rw [if_pos h0] at hrv' ⊢
        simp only [Sem.run_bind, Sem.run_pure, Result.andThen_ok]
        rw [hrv']
        simp only [Sem.run_bind, newRow, run_newObj, Result.andThen_ok, Sem.run_pure, List.append_nil]
        rfl
      · rw [if_neg h0] at hrv' ⊢
        simp only [Sem.run_bind, hzr, Sem.run_pure, Result.andThen_ok]
        rw [hrv']
        simp only [Sem.run_bind, newRow, run_newObj, Result.andThen_ok, Sem.run_pure, List.append_nil]
        rfl
    · refine .inr ⟨⟨w.heap.size, _, _, 0⟩, 0, len, upd_same _ _ _, rfl, Nat.le_refl _, fun _ => ⟨rfl, ?_⟩, fun n hn => by cases hn; rfl⟩
      have h1 := hr.length
      have h2 : cs.length = len * m := by
        have : ∀ {parts : List (Nat × SV)} {c r : List SC}, fillS (fun i => some (i * m, m)) c parts = some r → r.length = c.length := by
          intro parts
          induction parts with
          | nil => intro c r h; simp [fillS] at h; subst h; rfl
          | cons p parts ih =>
            intro c r h
            obtain ⟨i, x⟩ := p
            unfold fillS at h
            split at h <;> try (cases h; done)
            split at h <;> try (cases h; done)
            rw [ih h, setRange_length]
        rw [this hcs]; simp
      simp only [List.append_nil]
      omega
  · -- convert
    rename_i src dst x
    split at h <;> try (cases h; done)
    · rename_i e hs hd
      split at h <;> try (cases h; done)
      rename_i s hx
      simp only [Option.some.injEq] at h; subst h
      have hb := isByte_spec hob
      have h1 : val x = .string ⟨s.toArray⟩ := by have := hv x; rw [hx] at this; exact this
      have hr := Lib.run_convert_string_bytes (P := P) w src dst e ⟨s.toArray⟩ hs hd hb
      have hge : s.length ≤ grownCap w s.length 0 e := grownCap_ge _ _ _ _
      have hnew := Lib.bytesWorld_at_new w e ⟨s.toArray⟩
      have hsz : (Lib.bytesCells w e ⟨s.toArray⟩).size = grownCap w s.length 0 e := by
        simp only [Lib.bytesCells, Array.size_append, Array.size_map, Array.size_replicate, ByteArray.size, List.size_toArray]; omega
      refine .inl ⟨.slice (some ⟨w.heap.size, 0, none⟩) s.length (grownCap w s.length 0 e), Lib.bytesWorld w e ⟨s.toArray⟩, by simp only [execOp, h1, Sem.run_bind, hr, Result.andThen_ok, Sem.run_pure]; rfl, upd ρ kb (some ⟨w.heap.size, grownCap w s.length 0 e, false, 0⟩), ?_, ?_⟩
      · refine .inr ⟨_, 0, _, upd_same _ _ _, rfl, by simpa [ByteArray.size] using hge, fun _ => ⟨rfl, ?_⟩, fun n hn => by cases hn⟩
        simp [ByteArray.size]
      · refine New.one hkb ⟨rfl, rfl, rfl, ?_, fun j hj => Lib.bytesWorld_at_old w e _ j hj⟩ ?_ (fun l hl => by cases hl; exact Nat.le_refl _) (fun l hl h => rfl)
        · rw [Lib.bytesWorld_size]; omega
        · refine ⟨[], s.map fun b => .int .u8 b.toNat, List.replicate (grownCap w s.length 0 e - s.length) (.int .u8 0), ((Lib.bytesCells w e ⟨s.toArray⟩).size, (Lib.bytesCells w e ⟨s.toArray⟩).size + 1), ?_, All2.map (R := SC.R _) (f := SC.u8) (g := fun b => .int .u8 b.toNat) (fun b => rfl) s, ?_, fun h => by simp at h, rfl, fun h => by simp at h, fun _ h => by simp at h⟩
          · rw [hnew]
            congr 2
            apply Array.ext'
            simp [Lib.bytesCells, ByteArray.size]
          · simp; omega
    · rename_i e0 e hs hd
      split at h <;> try (cases h; done)
      rename_i k off esz len cap hx
      split at h <;> try (cases h; done)
      rename_i b hb
      simp only [Option.some.injEq] at h; subst h
      simp only [Bool.and_eq_true, Bool.not_eq_true'] at hob
      obtain ⟨hby, hsd, hown, htail⟩ := hob
      obtain rfl := Nat.eq_of_beq_eq_true hsd
      have hby := isByte_spec hby
      have h1 := hv x
      rw [hx] at h1
      obtain ⟨l, o, c, hk, hval, hlc, hoc, hcap⟩ : ∃ l o c, ρ k = some (some l) ∧ val x = .slice (some ⟨l.blk, o, none⟩) len c ∧ len ≤ c ∧ (c ≠ 0 → o = l.o0 + off ∧ off + c * esz ≤ l.tot) ∧ ∀ n, cap = some n → c = n := by
        rcases h1 with ⟨hk, _⟩ | h1
        · obtain ⟨y, hy, hR⟩ := hrel.blk k b hb
          rw [hk] at hy; cases hy
          have := hR.2; rw [htail] at this; cases this
        · exact h1
      obtain ⟨pre, vs, rest, fr, hh, hc, htot, _, hpre, _, hlit⟩ := hrel.at hb hk
      obtain ⟨hll, ho0, hfe⟩ := hlit hown htail
      obtain rfl : pre = [] := List.eq_nil_of_length_eq_zero (hpre.trans ho0)
      rw [List.nil_append] at hh
      have hlt : l.blk < w.heap.size := (Array.getElem?_eq_some_iff.1 hh).1
      have hsz : (vs ++ rest).toArray.size = l.tot := by simpa using htot
      have hsh : w.shape? l.blk = some (b.ty, l.tot) := by
        simp only [World.shape?, hh]; rw [hsz]
      have hnew : (w.freeze ⟨l.blk, l.tot, none⟩ 1).heap[l.blk]? = some (.cells (vs ++ rest).toArray b.ty (if fr.1 == fr.2 then (l.tot, l.tot + 1) else (min fr.1 l.tot, max fr.2 (l.tot + 1)))) := by
        unfold World.freeze
        rw [if_neg (by decide)]
        simp only [Array.getElem?_modify, hh, if_true, Option.map_some]
      have hoth : ∀ j, j ≠ l.blk → (w.freeze ⟨l.blk, l.tot, none⟩ 1).heap[j]? = w.heap[j]? := fun j hj => by
        unfold World.freeze
        rw [if_neg (by decide)]
        simp only [Array.getElem?_modify]
        rw [if_neg (by exact fun e => hj e.symm)]
      refine .inl ⟨val x, w.freeze ⟨l.blk, l.tot, none⟩ 1, ?_, ρ, .inr ⟨l, o, c, hk, hval, hlc, hoc, hcap⟩, ?_⟩
      · rw [hd] at hs
        simp only [execOp, hval, convert, Sem.run_bind, run_underlying hd, Result.andThen_ok, run_underlying hby, beq_self_eq_true, markStringish, run_shape, hsh, run_freeze, Sem.run_pure]
      · refine ⟨rfl, rfl, rfl, by simp [World.freeze], fun j hj => ?_, Le.refl _, fun _ _ => rfl, fun _ _ h => by simp at h, fun _ _ _ _ _ _ h => by simp at h, fun _ _ _ h => by simp at h, rfl⟩
        by_cases hjl : j = l.blk
        · subst hjl
          refine .inr ⟨⟨k, l, hk, hll, rfl⟩, _, _, fr, _, hh, hnew, fun _ => ?_⟩
          · rw [hsz]
            by_cases he2 : fr.1 = fr.2
            · rw [if_pos (by simpa using he2)]; right; exact Nat.le_refl _
            · rw [if_neg (by simpa using he2)]; right; rcases hfe with he | he
              · exact absurd he he2
              · simp; omega
        · exact .inl (hoth j hjl)
    · rename_i e hs hd
      simp only [Option.some.injEq] at h; subst h
      simp only [Bool.and_eq_true] at hob
      obtain ⟨hb, hno, hsrc, hall⟩ := hob
      have hb := isByte_spec hb
      obtain ⟨hsl, _, news, hn, hfc⟩ := src_run (P := P) hrel (hv x) hsrc
      have hu := u8s_of hn hall
      have hev := hv x
      refine .inl ⟨.string ⟨((srcC T (ev x)).map SC.asU8).toArray⟩, w, ?_, ρ, rfl, New.refl _ _⟩
      have key : (convert src dst (val x)).run P w = .ok (.string ⟨((srcC T (ev x)).map SC.asU8).toArray⟩) w := by
        revert hfc hsrc hsl hall hn hu hev hno
        generalize ev x = y
        generalize val x = v
        intro hno hsrc hall hsl hn hfc hu hev
        cases y with
        | c y =>
          cases y <;> try (simp [srcOk] at hsrc; done)
          case str s =>
            simp [SV.noStr] at hno
          case nils =>
            obtain rfl : v = _ := hev
            rw [run_convert_bytes_string w src dst e _ _ _ hs hb hd]
            rfl
          case row bs u =>
            obtain ⟨rfl, hr, _⟩ := hev
            obtain ⟨off, b, y, hrow, hbR, hsR, _, hold⟩ := hrel.rows _ _ hr
            rcases hsR (upd ρ 0 y) 0 (upd_same _ _ _) with ⟨_, ⟨aa, rfl⟩, hl0, _⟩ | ⟨l, o, c, hk, rfl, h2⟩
            · rw [run_convert_bytes_string w src dst e _ _ _ hs hb hd]
              have : bs = [] := List.eq_nil_of_length_eq_zero hl0
              subst this; cases aa <;> rfl
            · rw [run_convert_bytes_string w src dst e _ _ _ hs hb hd]
              have h1 := hfc w rfl
              simp only [Builtin.firstCells, srcN, Nat.mul_one] at h1
              have h3 := run_bytesToString (P := P) w ⟨l.blk, o, none⟩ bs.length c (((srcC T (.c (.row bs (.slice (some ⟨l.blk, o, none⟩) bs.length c)))).map SC.asU8).map fun b => (b.toNat : Int)) (by rw [h1, hu]; congr 1; apply Array.ext'; simp)
              rw [h3, pushes]
              simp [ByteArray.empty, ByteArray.emptyWithCapacity]
              rfl
          case slc k off esz len cap =>
            rcases hev with ⟨_, ⟨aa, rfl⟩, rfl, _⟩ | ⟨l, o, c, hk, rfl, h2⟩
            · rw [run_convert_bytes_string w src dst e _ _ _ hs hb hd]
              have : srcC T (.c (.slc k off esz 0 cap)) = [] := List.eq_nil_of_length_eq_zero (by rw [hsl]; simp [srcN])
              rw [this]; cases aa <;> rfl
            · rw [run_convert_bytes_string w src dst e _ _ _ hs hb hd]
              have h1 := hfc w rfl
              simp only [Builtin.firstCells, srcN, Nat.mul_one] at h1
              have h3 := run_bytesToString (P := P) w ⟨l.blk, o, none⟩ len c (((srcC T (.c (.slc k off esz len cap))).map SC.asU8).map fun b => (b.toNat : Int)) (by rw [h1, hu]; congr 1; apply Array.ext'; simp)
              rw [h3, pushes]
              simp [ByteArray.empty, ByteArray.emptyWithCapacity]
              rfl
        | agg cs => simp [srcOk] at hsrc
        | tup vs => simp [srcOk] at hsrc
        | und => simp [srcOk] at hsrc
      simp only [execOp, Sem.run_bind, key, Result.andThen_ok, Sem.run_pure]
  · -- makeSlice
    rename_i t lo co
    split at h <;> try (cases h; done)
    rename_i e kl l kc c hu hl hc
    split at h <;> try (cases h; done)
    rename_i i m z hi hm hz
    simp only [Option.some.injEq] at h; subst h
    simp only [Bool.and_eq_true, Nat.ble_eq, Nat.blt_eq, decide_eq_true_eq] at hob
    obtain ⟨h0, hlc, hby, hmax, hzl, hm0⟩ := hob
    have hzl := Nat.eq_of_beq_eq_true hzl
    have hl' := SV.num_R hl (hv lo)
    have hc' := SV.num_R hc (hv co)
    obtain ⟨z', hz', hza⟩ := zeroS_all (ρ := ρ) (P := P) hz
    obtain ⟨zz, hzz, hzz2⟩ : ∃ zz, i.zero = some zz ∧ zz = z' := by
      have := hz' w
      cases h : i.zero with
      | none => simp [zeroValue, typeInfo, hi, h, stuck] at this
      | some q => simp [zeroValue, typeInfo, hi, h] at this; exact ⟨q, rfl, this⟩
    subst hzz2
    have hmi : i.size = m := by simpa [sizeS, hi] using hm
    have hc0 : 0 ≤ c := Int.le_trans h0 hlc
    have hcn : ((c.toNat : Nat) : Int) = c := Int.toNat_of_nonneg hc0
    have hby' : (i.bytes : Int) * c ≤ 281474976710656 := by
      rw [← hcn, ← Int.natCast_mul]; omega
    have hr := run_make (P := P) w t e i zz hu hi hzz kl kc l c h0 hlc hby' (by simp only [maxLen] at hmax; omega)
    rw [hmi] at hr
    have hR := zerosS_R (ρ := ρ) (c := c.toNat) (m := m) hza hzl hm0
    have hlen := hR.length
    simp only [Array.length_toList, size_madeCells] at hlen
    refine .inl ⟨.slice (some ⟨w.heap.size, 0, none⟩) l.toNat c.toNat, w.alloc (.cells ((madeCells zz.cells (c.toNat * m)).toList ++ []).toArray e), by simp only [execOp, hl', hc', Sem.run_bind, hr, Result.andThen_ok, Sem.run_pure, List.append_nil, Array.toArray_toList], upd ρ kb (some ⟨w.heap.size, ((madeCells zz.cells (c.toNat * m)).toList ++ []).length, !true, 0⟩), ?_, New.alloc hkb hR fun _ => rfl⟩
    refine .inr ⟨_, 0, _, upd_same _ _ _, rfl, by omega, fun _ => ⟨rfl, by simp [size_madeCells]⟩, fun n hn => by cases hn; rfl⟩
  · -- call
    rename_i c
    split at h <;> try (cases h; done)
    rename_i fo hcal
    split at h <;> try (cases h; done)
    rename_i f caps' hfe
    split at h <;> try (cases h; done)
    rename_i con hcon
    split at h <;> try (cases h; done)
    rename_i r' hr'
    simp only [Option.some.injEq] at h; subst h
    simp only [Bool.and_eq_true] at hob
    have h1 := hv fo
    rw [hfe] at h1
    obtain ⟨vs, hv', hcaps⟩ := h1
    obtain ⟨hent, hcalls, _⟩ := hC f con hcon
    have hargs : All2 (SV.R ρ) (c.args.toList.map ev ++ capArgs caps') ((c.args.map val) ++ vs.toArray).toList := by
      rw [Array.toList_append, Array.toList_map]
      exact (All2.map hv _).append (capArgs_R hcaps)
    have hcl := hcalls _ _ _ _ hr' hob.2 hobs X ρ w _ hrel hargs hf
    refine .inr (.inr ⟨f, (c.args.map val) ++ vs.toArray, ?_, ?_⟩)
    · simp only [execOp, resolve, hcal, Sem.run_bind, hv', Deferred.ofValue, Sem.run_pure, Result.andThen_ok, invoke, Array.empty_append, hent]
    · rw [Array.toArray_toList] at hcl
      exact hcl.mono fun e w' ⟨v, ρ', he, hr, hn⟩ => ⟨v, he, ρ', hr, hn⟩
  · cases h
end

end Go.Proofs.Ytkpdkfeklecehaa.Sx
