/-
  The executor's operations that look at no memory.
-/
import Derived.Test.YtkpdkfeklecehaaSxC
namespace Go.Proofs.Ytkpdkfeklecehaa.Sx
open Go.RowKit
set_option linter.unusedVariables false
set_option linter.unusedSimpArgs false

def SV.num : SV → Option (IntKind × Int)
  | .c x => x.num
  | _ => none
theorem SV.num_R {ρ : Ren} {x : SV} {k : IntKind} {n : Int} {v : Value} (h : x.num = some (k, n)) (hx : x.R ρ v) : v = .int k n := by
  cases x <;> simp only [SV.num, reduceCtorEq] at h
  exact SC.num_R h hx

/-- An optional bound of a slice expression. -/
def bndS (ev : Operand → SV) (dflt : Nat) : Option Operand → Option (Bool × Nat)
  | none => some (true, dflt)
  | some x => match (ev x).num with
    | some (_, n) => some (decide (0 ≤ n), n.toNat)
    | none => none

def ptrs (ev : Operand → SV) : List Operand → Option (List (Nat × Nat))
  | [] => some []
  | x :: r => match ev x, ptrs ev r with
    | .c (.ptr k off), some l => some ((k, off) :: l)
    | _, _ => none

def binS (P : Program) (op : BinOp) (t : TypeId) (x y : SV) : Option (Bool × SV) :=
  match x, y with
  | .c a, .c b => match cellBin P op t a b with
    | some (o, r) => some (o, .c r)
    | none => none
  | .agg a, .agg b => match eqV P 12 t (.agg a) (.agg b), op with
    | some r, .eql => some (!(P.eqGuardType P.depth t), .c (.bool r))
    | some r, .neq => some (!(P.eqGuardType P.depth t), .c (.bool (!r)))
    | _, _ => none
  | _, _ => none

/-- How many elements a slice has. -/
def SV.sliN : SV → Nat
  | .c (.slc _ _ _ len _) => len
  | .c (.row bs _) => bs.length
  | _ => 0
def SV.sliOk : SV → Bool
  | .c (.slc _ _ _ _ _) => true
  | .c (.row _ _) => true
  | .c .nils => true
  | _ => false
def lenS (P : Program) (t : TypeId) (x : SV) : Option (Bool × SV) :=
  match P.underlying t with
  | some .string => match x with
    | .c (.str s) => some (true, .c (.int s.length))
    | _ => none
  | some (.array n _) => some (true, .c (.int n))
  | some (.slice _) => some (x.sliOk, .c (.int x.sliN))
  | _ => none

def sliceS (P : Program) (ev : Operand → SV) (t : TypeId) (x : Operand) (lo hi : Option Operand) : Option (Bool × SV) :=
  match P.underlying t, ev x with
  | some (.slice e), .c (.slc k off esz len cap) => match bndS ev 0 lo, bndS ev len hi, sizeS P e with
    | some (o1, l), some (o2, h), some m => some (o1 && (o2 && (Nat.ble l h && (Nat.ble h len && Nat.beq m esz))), .c (.slc k (off + l * esz) esz (h - l) (cap.map (· - l))))
    | _, _, _ => none
  | some (.slice e), .c .nils => match bndS ev 0 lo, bndS ev 0 hi, sizeS P e with
    | some (o1, l), some (o2, h), some _ => some (o1 && (o2 && (Nat.beq l 0 && Nat.beq h 0)), .c .nils)
    | _, _, _ => none
  | some .string, .c (.str s) => match bndS ev 0 lo, bndS ev s.length hi with
    | some (o1, l), some (o2, h) => some (o1 && (o2 && (Nat.ble l h && Nat.ble h s.length)), .c (.str ((s.drop l).take (h - l))))
    | _, _ => none
  | _, _ => none

/-- The builtins that look at no memory. -/
def callS (P : Program) (ev : Operand → SV) (c : Call) : Option (Bool × SV) :=
  match c.callee, c.args.toList with
  | .builtin .len, [x] => match c.argTypes[0]? with
    | some t => lenS P t (ev x)
    | none => none
  | .builtin .cap, [x] => match c.argTypes[0]? with
    | some t => match isSliceT P t, ev x with
      | true, .c .nils => some (true, .c (.int 0))
      | _, _ => none
    | none => none
  | .builtin .min, [x, y] => match ev x, ev y with
    | .c (.int a), .c (.int b) => some (true, .c (.int (bif decide (b < a) then b else a)))
    | _, _ => none
  | .builtin .max, [x, y] => match ev x, ev y with
    | .c (.int a), .c (.int b) => some (true, .c (.int (bif decide (a < b) then b else a)))
    | _, _ => none
  | _, _ => none

/-- An operation that looks at no memory: what must hold; what it yields. -/
def pop (P : Program) (op : Op) (ev : Operand → SV) : Option (Bool × SV) :=
  match op with
  | .move x => some (true, ev x)
  | .assign x => some (true, ev x)
  | .pick c a b => match ev c with
    | .c (.bool t) => match ev a, ev b with
      | .c (.bool x), .c (.bool y) => some (true, .c (.bool (bif t then x else y)))
      | .c (.bool x), .und => some (t, .c (.bool x))
      | .und, .c (.bool y) => some (!t, .c (.bool y))
      | .c (.bool x), .tup [] => some (t, .c (.bool x))
      | .tup [], .c (.bool y) => some (!t, .c (.bool y))
      | x, y => bif t then some (true, x) else some (true, y)
    | _ => none
  | .binOp op t x y _ => binS P op t (ev x) (ev y)
  | .unOp op _ x => match ev x with
    | .c a => (cellUn op a).map fun r => (true, .c r)
    | _ => none
  | .convert src dst x => match P.underlying src, P.underlying dst, ev x with
    | some _, some (.int k), .c a => (cellConv k a).map fun r => (true, .c r)
    | _, _, _ => none
  | .nilCheck x => match ev x with
    | .c (.ptr k off) => some (true, .c (.ptr k off))
    | .c (.fn f l) => some (true, .c (.fn f l))
    | _ => none
  | .fieldAddr s x f => match P.underlying s, ev x with
    | some (.struct fs), .c (.ptr k off) => match fs[f]? with
      | some fd => match sizeS P fd.type with
        | some n => some (n != 0, .c (.ptr k (off + fd.offset)))
        | none => none
      | none => none
    | _, _ => none
  | .field t x f => match P.underlying t, ev x with
    | some (.struct fs), .agg cs => match fs[f]? with
      | some fd => (partS P fd.type cs fd.offset).map fun r => (true, r)
      | none => none
    | _, _ => none
  | .indexAddr t x i => match (ev i).num with
    | none => none
    | some (_, n) => match P.underlying t, ev x with
      | some (.array len e), .c (.ptr k off) => match sizeS P e with
        | some m => some (decide (0 ≤ n) && Nat.blt n.toNat len, .c (.ptr k (off + n.toNat * m)))
        | none => none
      | some (.slice e), .c (.slc k off esz len cap) => match sizeS P e with
        | some m => some (decide (0 ≤ n) && (Nat.blt n.toNat len && Nat.beq m esz), .c (.ptr k (off + n.toNat * esz)))
        | none => none
      | _, _ => none
  | .index t x i => match (ev i).num with
    | none => none
    | some (_, n) => match P.underlying t, ev x with
      | some (.array len e), .agg cs => match sizeS P e with
        | some m => (partS P e cs (n.toNat * m)).map fun r => (decide (0 ≤ n) && Nat.blt n.toNat len, r)
        | none => none
      | some .string, .c (.str s) => (s[n.toNat]?).map fun b => (decide (0 ≤ n), .c (.u8 b))
      | _, _ => none
  | .build t parts => (buildS P t (parts.toList.map fun p => (p.1, ev p.2))).map fun r => (true, r)
  | .extract x i => match ev x with
    | .tup vs => match vs[i]? with
      | some (.inl a) => some (true, .c a)
      | some (.inr cs) => some (true, .agg cs)
      | none => none
    | _ => none
  | .makeFunc fn first caps => match fn, first.toList with
    | .func f, [] => (ptrs ev caps.toList).map fun l => (true, .c (.fn f l))
    | _, _ => none
  | .slice t x lo hi mx => match mx with
    | none => sliceS P ev t x lo hi
    | some _ => none
  | .call c => callS P ev c
  | _ => none

section
variable {ρ : Ren} {P : Program} {ev : Operand → SV} {val : Operand → Value}

theorem eqGuard_cell {w : World} {op : BinOp} {t : TypeId} {x y : Operand} {u v : Value} (h : u.oneCell' = true ∧ u ≠ .nilIface) : (eqGuard op t x y u v).run P w = .ok () w := by
  obtain ⟨h1, h2⟩ := h
  cases u <;> first | (simp [Value.oneCell'] at h1; done) | exact absurd rfl h2 | (cases op <;> rfl)
theorem cellBin_left {op : BinOp} {t : TypeId} {a b : SC} {r : Bool × SC} {u : Value} (h : cellBin P op t a b = some r) (hx : a.R ρ u) : u.oneCell' = true ∧ u ≠ .nilIface := by
  refine ⟨SC.R.one hx, fun hu => ?_⟩
  subst hu
  cases a <;> simp only [SC.R, PtrR, SlcR, reduceCtorEq, false_and, and_false, exists_false, or_false, and_self, exists_const] at hx
  all_goals
    obtain ⟨rfl, hrest⟩ := hx
    first
    | (exact absurd hrest.2 (by rintro ⟨_, _, h⟩; cases h))
    | (cases op <;> simp only [cellBin, plainBin, eqBin, cellEq, shiftCell, SC.num, Option.map_none, reduceCtorEq] at h
       all_goals (split at h <;> cases h))

theorem binS_run (w : World) {op : BinOp} {t : TypeId} {x y : Operand} {X Y r : SV} {u v : Value} (h : binS P op t X Y = some (true, r)) (hx : X.R ρ u) (hy : Y.R ρ v) :
    ∃ z, (do eqGuard op t x y u v; binOp op t u v : Sem Value).run P w = .ok z w ∧ r.R ρ z := by
  unfold binS at h
  split at h
  · split at h <;> try (cases h; done)
    rename_i a b o s hc
    simp only [Option.some.injEq, Prod.mk.injEq] at h
    obtain ⟨rfl, rfl⟩ := h
    obtain ⟨z, hz, hr⟩ := cellBin_run w hc hx hy
    refine ⟨z, ?_, hr⟩
    have hg : (eqGuard op t x y u v).run P w = .ok () w := eqGuard_cell (cellBin_left hc hx)
    simp only [Sem.run_bind, hg, Result.andThen_ok, hz]
  · split at h <;> simp only [Option.some.injEq, Prod.mk.injEq, reduceCtorEq, Bool.not_eq_true'] at h
    all_goals
      rename_i hq
      obtain ⟨hg, rfl⟩ := h
      obtain ⟨us, rfl, hus⟩ := hx
      obtain ⟨vs, rfl, hvs⟩ := hy
      have he := eqV_run w 12 t _ _ _ (.agg us.toArray) (.agg vs.toArray) hq ⟨us, rfl, hus⟩ ⟨vs, rfl, hvs⟩ 10000 (by decide)
      refine ⟨_, ?_, rfl⟩
      simp only [Sem.run_bind, run_eqGuard_agg _ _ _ _ _ _ _ hg, Result.andThen_ok, run_eql_struct, run_neq_struct, he]
  · cases h

theorem ptrs_R (hv : ∀ x, (ev x).R ρ (val x)) : ∀ {xs : List Operand} {l : List (Nat × Nat)}, ptrs ev xs = some l → All2 (PtrR ρ) l (xs.map val)
  | [], l, h => by simp [ptrs] at h; subst h; exact .nil
  | x :: xs, l, h => by
    unfold ptrs at h
    split at h <;> try (cases h; done)
    rename_i k off l' hx hl
    simp only [Option.some.injEq] at h; subst h
    have := hv x
    rw [hx] at this
    exact .cons this (ptrs_R hv hl)

theorem bnd_run {x : Operand} {n : Int} {k : IntKind} (hv : ∀ x, (ev x).R ρ (val x)) (hx : (ev x).num = some (k, n)) (h0 : 0 ≤ n) (y : Nat) (hy : n.toNat ≤ y) (code : BoundsCode) (w : World) :
    (Instr.sliceBound (val x) y code).run P w = .ok n.toNat w := by
  rw [SV.num_R hx (hv x)]
  have : 0 ≤ n ∧ n ≤ (y : Int) := ⟨h0, by omega⟩
  simp [Instr.sliceBound, asIntOf, this]

theorem bndS_run (hv : ∀ x, (ev x).R ρ (val x)) {x : Operand} {d n : Nat} (h : bndS ev d (some x) = some (true, n)) (y : Nat) (hy : n ≤ y) (code : BoundsCode) (w : World) :
    (Instr.sliceBound (val x) y code).run P w = .ok n w := by
  simp only [bndS] at h
  split at h <;> try (cases h; done)
  rename_i k m hx
  simp only [Option.some.injEq, Prod.mk.injEq, decide_eq_true_eq] at h
  obtain ⟨h0, rfl⟩ := h
  exact bnd_run hv hx h0 _ hy _ w

theorem bounds_run (hv : ∀ x, (ev x).R ρ (val x)) {lo hi : Option Operand} {l h dh : Nat} (hl : bndS ev 0 lo = some (true, l)) (hh : bndS ev dh hi = some (true, h)) (hlh : l ≤ h) (b : Bool) (cap : Nat) (hc : h ≤ cap) (w : World) :
    (Instr.sliceBounds b dh cap (lo.map val) (hi.map val) none).run P w = .ok (l, h, cap) w := by
  unfold Instr.sliceBounds
  simp only [Sem.run_bind, Sem.run_pure, Result.andThen_ok]
  cases hi with
  | none =>
    simp only [bndS, Option.some.injEq, Prod.mk.injEq, true_and] at hh; subst hh
    cases lo with
    | none => simp only [bndS, Option.some.injEq, Prod.mk.injEq, true_and] at hl; subst hl; rfl
    | some x => simp only [Option.map_some, Option.map_none, Sem.run_bind, Sem.run_pure, Result.andThen_ok, bndS_run hv hl _ hlh]
  | some y =>
    cases lo with
    | none => simp only [bndS, Option.some.injEq, Prod.mk.injEq, true_and] at hl; subst hl; simp only [Option.map_some, Option.map_none, Sem.run_bind, Sem.run_pure, Result.andThen_ok, bndS_run hv hh _ hc]
    | some x => simp only [Option.map_some, Option.map_none, Sem.run_bind, Sem.run_pure, Result.andThen_ok, bndS_run hv hh _ hc, bndS_run hv hl _ hlh]

theorem sliceS_run (hv : ∀ x, (ev x).R ρ (val x)) {t : TypeId} {x : Operand} {lo hi : Option Operand} {r : SV} (h : sliceS P ev t x lo hi = some (true, r)) {dst : Option Tmp} {type : TypeId} {pos : String} {after : Array Edge} {guard : Option (Nat × Bool)} (w : World) :
    ∃ v, (execOp val { dst := dst, op := .slice t x lo hi none, type := type, pos := pos, after := after, guard := guard }).run P w = .ok (.value v) w ∧ r.R ρ v := by
    unfold sliceS at h
    split at h
    · rename_i e k off esz len cap hu hx
      split at h <;> try (cases h; done)
      rename_i o1 l o2 hh m hl hhi hm
      simp only [Option.some.injEq, Prod.mk.injEq, Bool.and_eq_true, Nat.ble_eq] at h
      obtain ⟨⟨rfl, rfl, hlh, hhl, hbq⟩, rfl⟩ := h
      obtain rfl := Nat.eq_of_beq_eq_true hbq
      have h1 := hv x
      rw [hx] at h1
      rcases h1 with ⟨hk, ⟨aa, hv'⟩, rfl, hcap⟩ | ⟨lc, o, c, hk, hv', hlc, hoff, hcap⟩
      · have hl0 : l = 0 := by omega
        have hh0 : hh = 0 := by omega
        subst hl0; subst hh0
        refine ⟨.slice aa 0 0, ?_, .inl ⟨hk, ⟨_, rfl⟩, by omega, ?_⟩⟩
        · have hb := bounds_run (P := P) hv hl hhi hlh true 0 (Nat.le_refl _) w
          simp only [execOp, Instr.sliceAt, Sem.run_bind, run_underlying hu, Result.andThen_ok, Instr.slice, hv', Option.map_none, hb, sizeS_run hm]
          rfl
        · intro n hn
          cases cap with
          | none => simp at hn
          | some c => have := hcap c rfl; subst this; simp at hn; exact hn.symm
      · have hb := bounds_run (P := P) hv hl hhi hlh true c (by omega) w
        refine ⟨.slice (if c = l then some ⟨lc.blk, o, none⟩ else (some (⟨lc.blk, o, none⟩ : Addr)).map (·.add (l * m))) (hh - l) (c - l), ?_, .inr ?_⟩
        · simp only [execOp, Instr.sliceAt, Sem.run_bind, run_underlying hu, Result.andThen_ok, Instr.slice, hv', Option.map_none, hb, sizeS_run hm, Sem.run_pure]
        · refine ⟨lc, if c = l then o else o + l * m, c - l, hk, ?_, by omega, ?_, ?_⟩
          · by_cases hcl : c = l
            · simp [hcl]
            · simp only [if_neg hcl, Option.map_some, Addr.add]
              by_cases hz : l * m = 0 <;> simp [hz]
          · intro hne
            have hcl : ¬ c = l := by omega
            obtain ⟨rfl, hb'⟩ := hoff (by omega)
            refine ⟨by rw [if_neg hcl, Nat.add_assoc], ?_⟩
            have : c * m = (c - l) * m + l * m := by rw [← Nat.add_mul]; congr 1; omega
            omega
          · intro n hn
            cases cap with
            | none => simp at hn
            | some c' => have := hcap c' rfl; subst this; simp at hn; exact hn
    · rename_i e hu hx
      split at h <;> try (cases h; done)
      rename_i o1 l o2 hh m hl hhi hm
      simp only [Option.some.injEq, Prod.mk.injEq, Bool.and_eq_true] at h
      obtain ⟨⟨rfl, rfl, hq1, hq2⟩, rfl⟩ := h
      obtain rfl := Nat.eq_of_beq_eq_true hq1
      obtain rfl := Nat.eq_of_beq_eq_true hq2
      have h1 := hv x
      rw [hx] at h1
      have hv' : val x = .slice none 0 0 := h1
      refine ⟨.slice none 0 0, ?_, rfl⟩
      have hb := bounds_run (P := P) hv hl hhi (Nat.le_refl _) true 0 (Nat.le_refl _) w
      simp only [execOp, Instr.sliceAt, Sem.run_bind, run_underlying hu, Result.andThen_ok, Instr.slice, hv', Option.map_none, hb, sizeS_run hm]
      rfl
    · rename_i s hu hx
      split at h <;> try (cases h; done)
      rename_i o1 l o2 hh hl hhi
      simp only [Option.some.injEq, Prod.mk.injEq, Bool.and_eq_true, Nat.ble_eq] at h
      obtain ⟨⟨rfl, rfl, hlh, hhl⟩, rfl⟩ := h
      have h1 := hv x
      rw [hx] at h1
      have hv' : val x = .string ⟨s.toArray⟩ := h1
      have hsz : (⟨s.toArray⟩ : ByteArray).size = s.length := by simp [ByteArray.size]
      have hb := bounds_run (P := P) hv hl hhi hlh false s.length hhl w
      refine ⟨.string ((⟨s.toArray⟩ : ByteArray).extract l hh), ?_, ?_⟩
      · simp only [execOp, Instr.sliceAt, Sem.run_bind, run_underlying hu, Result.andThen_ok, Instr.slice, hv', Option.map_none, hsz, Option.isSome_none, Bool.false_eq_true, if_false, hb]
        rfl
      · simp only [SV.R, SC.R, Value.string.injEq]
        apply ByteArray.ext
        apply Array.toList_inj.1
        simp [ByteArray.data_extract]
    · cases h

theorem callS_run (hv : ∀ x, (ev x).R ρ (val x)) {c : Call} {r : SV} (h : callS P ev c = some (true, r)) {dst : Option Tmp} {type : TypeId} {pos : String} {after : Array Edge} {guard : Option (Nat × Bool)} (w : World) :
    ∃ v, (execOp val { dst := dst, op := .call c, type := type, pos := pos, after := after, guard := guard }).run P w = .ok (.value v) w ∧ r.R ρ v := by
  obtain ⟨callee, args, ts⟩ := c
  unfold callS at h
  simp only at h
  split at h
  · -- len
    rename_i x hargs
    obtain rfl : args = #[x] := by rw [← Array.toList_inj]; exact hargs
    split at h <;> try (cases h; done)
    rename_i t ht
    have h1 := hv x
    have run : ∀ (n : Int), (Builtin.len_ ts type #[val x]).run P w = .ok (goInt n) w → ∃ v, (execOp val { dst := dst, op := .call { callee := .builtin .len, args := #[x], argTypes := ts }, type := type, pos := pos, after := after, guard := guard }).run P w = .ok (.value v) w ∧ (SV.c (.int n)).R ρ v := fun n hn => by
      refine ⟨goInt n, ?_, rfl⟩
      simp only [execOp, resolve, Sem.run_bind, Sem.run_pure, Result.andThen_ok, invoke, builtin]
      have : (#[x].map val) = #[val x] := by simp
      rw [this, hn]; rfl
    unfold lenS at h
    split at h
    · rename_i hu
      split at h <;> try (cases h; done)
      rename_i s hx
      simp only [Option.some.injEq, Prod.mk.injEq, true_and] at h; subst h
      rw [hx] at h1
      have hv' : val x = .string ⟨s.toArray⟩ := h1
      exact run s.length (by simp only [Builtin.len_, ht, hv', List.getElem?_toArray, List.getElem?_cons_zero, Sem.run_bind, run_underlying hu, Result.andThen_ok]; rfl)
    · rename_i n e hu
      simp only [Option.some.injEq, Prod.mk.injEq, true_and] at h; subst h
      exact run n (by simp [Builtin.len_, ht, run_underlying hu])
    · rename_i e hu
      simp only [Option.some.injEq, Prod.mk.injEq] at h
      obtain ⟨hok, rfl⟩ := h
      generalize hx : ev x = sx at h1 hok ⊢
      unfold SV.sliOk at hok
      split at hok <;> try (cases hok; done)
      · rename_i k off esz len cap
        rcases h1 with ⟨hk, ⟨aa, hv'⟩, rfl, hcap⟩ | ⟨lc, o, c, hk, hv', hlc, hoff, hcap⟩
        · exact run (0 : Nat) (by simp [Builtin.len_, ht, run_underlying hu, hv'])
        · exact run len (by simp [Builtin.len_, ht, run_underlying hu, hv'])
      · rename_i bs u
        obtain ⟨hv', _, a, c, rfl⟩ := h1
        exact run bs.length (by simp [Builtin.len_, ht, run_underlying hu, hv'])
      · have hv' : val x = .slice none 0 0 := h1
        exact run (0 : Nat) (by simp [Builtin.len_, ht, run_underlying hu, hv'])
    · cases h
  · -- cap
    rename_i x hargs
    obtain rfl : args = #[x] := by rw [← Array.toList_inj]; exact hargs
    split at h <;> try (cases h; done)
    rename_i t ht
    split at h <;> try (cases h; done)
    rename_i hu hx
    simp only [Option.some.injEq, Prod.mk.injEq, true_and] at h; subst h
    obtain ⟨e, hu⟩ := isSliceT_spec hu
    have h1 := hv x
    rw [hx] at h1
    have hv' : val x = .slice none 0 0 := h1
    refine ⟨goInt (0 : Nat), ?_, rfl⟩
    simp only [execOp, resolve, Sem.run_bind, Sem.run_pure, Result.andThen_ok, invoke, builtin]
    have : (#[x].map val) = #[val x] := by simp
    rw [this]
    simp [Builtin.cap_, ht, run_underlying hu, hv']
  · -- min
    rename_i x y hargs
    obtain rfl : args = #[x, y] := by rw [← Array.toList_inj]; exact hargs
    split at h <;> try (cases h; done)
    rename_i a b hx hy
    simp only [Option.some.injEq, Prod.mk.injEq, true_and] at h; subst h
    have h1 := hv x; have h2 := hv y
    rw [hx] at h1; rw [hy] at h2
    have h1' : val x = .int .i64 a := h1
    have h2' : val y = .int .i64 b := h2
    refine ⟨.int .i64 (if b < a then b else a), ?_, ?_⟩
    · simp only [execOp, resolve, Sem.run_bind, Sem.run_pure, Result.andThen_ok, invoke, builtin]
      have : (#[x, y].map val) = #[val x, val y] := by simp
      rw [this, h1', h2']; rfl
    · simp only [SV.R, SC.R, Value.int.injEq, true_and]
      by_cases hlt : b < a <;> simp [hlt]
  · -- max
    rename_i x y hargs
    obtain rfl : args = #[x, y] := by rw [← Array.toList_inj]; exact hargs
    split at h <;> try (cases h; done)
    rename_i a b hx hy
    simp only [Option.some.injEq, Prod.mk.injEq, true_and] at h; subst h
    have h1 := hv x; have h2 := hv y
    rw [hx] at h1; rw [hy] at h2
    have h1' : val x = .int .i64 a := h1
    have h2' : val y = .int .i64 b := h2
    refine ⟨.int .i64 (if b > a then b else a), ?_, ?_⟩
    · simp only [execOp, resolve, Sem.run_bind, Sem.run_pure, Result.andThen_ok, invoke, builtin]
      have : (#[x, y].map val) = #[val x, val y] := by simp
      rw [this, h1', h2']; rfl
    · simp only [SV.R, SC.R, Value.int.injEq, true_and]
      by_cases hlt : a < b <;> simp [hlt]
  · cases h

theorem pop_run {o : Oper} (hv : ∀ x, (ev x).R ρ (val x)) {r : SV} (h : pop P o.op ev = some (true, r)) (w : World) :
    ∃ v, (execOp val o).run P w = .ok (.value v) w ∧ r.R ρ v := by
  obtain ⟨dst, op, type, pos, after, guard⟩ := o
  simp only at h
  unfold pop at h
  split at h
  · simp only [Option.some.injEq, Prod.mk.injEq, true_and] at h; subst h; exact ⟨_, rfl, hv _⟩
  · simp only [Option.some.injEq, Prod.mk.injEq, true_and] at h; subst h; exact ⟨_, rfl, hv _⟩
  · -- pick
    rename_i c a b
    split at h <;> try (cases h; done)
    rename_i t ht
    have hc := hv c
    rw [ht] at hc
    have hc' : val c = .bool t := hc
    split at h
    · rename_i x y hx hy
      simp only [Option.some.injEq, Prod.mk.injEq, true_and] at h; subst h
      have h1 := hv a; have h2 := hv b
      rw [hx] at h1; rw [hy] at h2
      have h1' : val a = .bool x := h1
      have h2' : val b = .bool y := h2
      refine ⟨.bool (bif t then x else y), ?_, rfl⟩
      simp only [execOp, Sem.run_bind, hc', asBool, Sem.run_pure, Result.andThen_ok, h1', h2']
      cases t <;> rfl
    · rename_i x hx hy
      simp only [Option.some.injEq, Prod.mk.injEq] at h
      obtain ⟨rfl, rfl⟩ := h
      have h1 := hv a
      rw [hx] at h1
      exact ⟨val a, by simp only [execOp, Sem.run_bind, hc', asBool, Sem.run_pure, Result.andThen_ok, if_true], h1⟩
    · rename_i y hx hy
      simp only [Option.some.injEq, Prod.mk.injEq, Bool.not_eq_true'] at h
      obtain ⟨rfl, rfl⟩ := h
      have h1 := hv b
      rw [hy] at h1
      exact ⟨val b, by simp only [execOp, Sem.run_bind, hc', asBool, Sem.run_pure, Result.andThen_ok, Bool.false_eq_true, if_false], h1⟩
    · rename_i x hx hy
      simp only [Option.some.injEq, Prod.mk.injEq] at h
      obtain ⟨rfl, rfl⟩ := h
      have h1 := hv a
      rw [hx] at h1
      exact ⟨val a, by simp only [execOp, Sem.run_bind, hc', asBool, Sem.run_pure, Result.andThen_ok, if_true], h1⟩
    · rename_i y hx hy
      simp only [Option.some.injEq, Prod.mk.injEq, Bool.not_eq_true'] at h
      obtain ⟨rfl, rfl⟩ := h
      have h1 := hv b
      rw [hy] at h1
      exact ⟨val b, by simp only [execOp, Sem.run_bind, hc', asBool, Sem.run_pure, Result.andThen_ok, Bool.false_eq_true, if_false], h1⟩
    · refine ⟨if t then val a else val b, ?_, ?_⟩
      · simp only [execOp, Sem.run_bind, hc', asBool, Sem.run_pure, Result.andThen_ok]
      · cases t
        · simp only [cond_false, Option.some.injEq, Prod.mk.injEq, true_and] at h; subst h; exact hv b
        · simp only [cond_true, Option.some.injEq, Prod.mk.injEq, true_and] at h; subst h; exact hv a
  · -- binOp
    rename_i op t x y yt
    obtain ⟨z, hz, hr⟩ := binS_run (x := x) (y := y) w h (hv x) (hv y)
    refine ⟨z, ?_, hr⟩
    simp only [Sem.run_bind] at hz
    simp only [execOp, Sem.run_bind, hz, Result.andThen_ok, Sem.run_pure]
  · -- unOp
    rename_i op t x
    split at h <;> try (cases h; done)
    rename_i a ha
    cases hc : cellUn op a with
    | none => simp [hc] at h
    | some s =>
      simp [hc] at h; subst h
      have hx := hv x
      rw [ha] at hx
      obtain ⟨z, hz, hr⟩ := cellUn_run (P := P) w hc hx
      exact ⟨z, by simp only [execOp, Sem.run_bind, hz, Result.andThen_ok, Sem.run_pure], hr⟩
  · -- convert
    rename_i src dst x
    split at h <;> try (cases h; done)
    rename_i d k a hs hd ha
    cases hc : cellConv k a with
    | none => simp [hc] at h
    | some s =>
      simp [hc] at h; subst h
      have hx := hv x
      rw [ha] at hx
      obtain ⟨z, hz, hr⟩ := cellConv_run (P := P) w hs hd hc hx
      exact ⟨z, by simp only [execOp, Sem.run_bind, hz, Result.andThen_ok, Sem.run_pure], hr⟩
  · -- nilCheck
    rename_i x
    split at h <;> simp only [Option.some.injEq, Prod.mk.injEq, true_and, reduceCtorEq] at h <;> subst h <;> rename_i hx <;> have h1 := hv x <;> rw [hx] at h1
    · obtain ⟨l, hl, hv'⟩ := h1
      refine ⟨val x, ?_, l, hl, hv'⟩
      simp only [execOp, hv']; rfl
    · obtain ⟨vs, hv', hc⟩ := h1
      refine ⟨val x, ?_, vs, hv', hc⟩
      simp only [execOp, hv']; rfl
  · -- fieldAddr
    rename_i s x f
    split at h <;> try (cases h; done)
    rename_i fs k off hu hx
    split at h <;> try (cases h; done)
    rename_i fd hf
    split at h <;> try (cases h; done)
    rename_i n hn
    simp only [Option.some.injEq, Prod.mk.injEq] at h
    obtain ⟨h0, rfl⟩ := h
    have h0' : ¬ n = 0 := by simpa using h0
    have h1 := hv x
    rw [hx] at h1
    obtain ⟨l, hl, hv'⟩ := h1
    refine ⟨.pointer (some ⟨l.blk, l.o0 + (off + fd.offset), none⟩), ?_, l, hl, rfl⟩
    simp only [execOp, Instr.fieldAt, Sem.run_bind, run_underlying hu, Result.andThen_ok, hf, hv', Instr.sureAddr, Sem.run_pure, fieldPlace, sizeS_run hn, if_neg h0', Addr.add]
    by_cases hz : fd.offset = 0 <;> simp [hz, Nat.add_assoc]
  · -- field
    rename_i t x f
    split at h <;> try (cases h; done)
    rename_i fs cs hu hx
    split at h <;> try (cases h; done)
    rename_i fd hf
    cases hp : partS P fd.type cs fd.offset with
    | none => simp [hp] at h
    | some s =>
      simp [hp] at h; subst h
      have h1 := hv x
      rw [hx] at h1
      obtain ⟨vs, hv', hc⟩ := h1
      obtain ⟨z, hz, hr⟩ := partS_run hp hc w
      refine ⟨z, ?_, hr⟩
      simp only [execOp, Instr.field, Sem.run_bind, run_underlying hu, Result.andThen_ok, hf, hv', asAgg, Sem.run_pure, hz]
  · -- indexAddr
    rename_i t x i
    split at h <;> try (cases h; done)
    rename_i ki n hi
    have hi' := SV.num_R hi (hv i)
    split at h
    · rename_i len e k off hu hx
      split at h <;> try (cases h; done)
      rename_i m hm
      simp only [Option.some.injEq, Prod.mk.injEq, Bool.and_eq_true, decide_eq_true_eq, Nat.blt_eq] at h
      obtain ⟨⟨h0, hlt⟩, rfl⟩ := h
      have h1 := hv x
      rw [hx] at h1
      obtain ⟨l, hl, hv'⟩ := h1
      refine ⟨.pointer (some ⟨l.blk, l.o0 + (off + n.toNat * m), none⟩), ?_, l, hl, rfl⟩
      have hin : 0 ≤ n ∧ n < (len : Int) := ⟨h0, by omega⟩
      simp only [execOp, Instr.indexAt, Sem.run_bind, hi', asIntOf, Sem.run_pure, Result.andThen_ok, run_underlying hu, hv', Instr.sureAddr, if_pos hin, sizeS_run hm, Addr.add]
      by_cases hz : n.toNat * m = 0 <;> simp [hz, Nat.add_assoc]
    · rename_i e k off esz len cap hu hx
      split at h <;> try (cases h; done)
      rename_i m hm
      simp only [Option.some.injEq, Prod.mk.injEq, Bool.and_eq_true, decide_eq_true_eq, Nat.blt_eq] at h
      obtain ⟨⟨h0, hlt, hbq⟩, rfl⟩ := h
      obtain rfl := Nat.eq_of_beq_eq_true hbq
      have h1 := hv x
      rw [hx] at h1
      rcases h1 with ⟨_, _, h0', _⟩ | ⟨l, o, c, hl, hv', hlc, hoff, _⟩
      · omega
      obtain ⟨rfl, hb⟩ := hoff (by omega)
      refine ⟨.pointer (some ⟨l.blk, l.o0 + (off + n.toNat * m), none⟩), ?_, l, hl, rfl⟩
      have hin : 0 ≤ n ∧ n < (len : Int) := ⟨h0, by omega⟩
      simp only [execOp, Instr.indexAt, Sem.run_bind, hi', asIntOf, Sem.run_pure, Result.andThen_ok, run_underlying hu, hv', if_pos hin, sizeS_run hm, Addr.add]
      by_cases hz : n.toNat * m = 0 <;> simp [hz, Nat.add_assoc]
    · cases h
  · -- index
    rename_i t x i
    split at h <;> try (cases h; done)
    rename_i ki n hi
    have hi' := SV.num_R hi (hv i)
    split at h
    · rename_i len e cs hu hx
      split at h <;> try (cases h; done)
      rename_i m hm
      cases hp : partS P e cs (n.toNat * m) with
      | none => simp [hp] at h
      | some s =>
        simp only [hp, Option.map_some, Option.some.injEq, Prod.mk.injEq, Bool.and_eq_true, decide_eq_true_eq, Nat.blt_eq] at h
        obtain ⟨⟨h0, hlt⟩, rfl⟩ := h
        have h1 := hv x
        rw [hx] at h1
        obtain ⟨vs, hv', hc⟩ := h1
        obtain ⟨z, hz, hr⟩ := partS_run hp hc w
        refine ⟨z, ?_, hr⟩
        have hin : 0 ≤ n ∧ n < (len : Int) := ⟨h0, by omega⟩
        simp only [execOp, Instr.index, Sem.run_bind, hi', asIntOf, Sem.run_pure, Result.andThen_ok, run_underlying hu, hv', if_pos hin, sizeS_run hm, hz]
    · rename_i s hu hx
      cases hb : s[n.toNat]? with
      | none => simp [hb] at h
      | some b =>
        simp only [hb, Option.map_some, Option.some.injEq, Prod.mk.injEq, decide_eq_true_eq] at h
        obtain ⟨h0, rfl⟩ := h
        have h1 := hv x
        rw [hx] at h1
        have hv' : val x = .string ⟨s.toArray⟩ := h1
        refine ⟨.int .u8 b.toNat, ?_, rfl⟩
        have hg : (⟨s.toArray⟩ : ByteArray)[n.toNat]? = some b := by
          have hlt : n.toNat < s.length := (List.getElem?_eq_some_iff.1 hb).1
          have hge := (List.getElem?_eq_some_iff.1 hb).2
          rw [getElem?_pos _ _ (by simpa [ByteArray.size] using hlt)]
          congr 1
        simp only [execOp, Instr.index, Sem.run_bind, hi', asIntOf, Sem.run_pure, Result.andThen_ok, run_underlying hu, hv', if_pos h0, hg]
    · cases h
  · -- build
    rename_i t parts
    cases hb : buildS P t (parts.toList.map fun p => (p.1, ev p.2)) with
    | none => simp [hb] at h
    | some s =>
      simp [hb] at h; subst h
      have hp : All2 (fun (p : Nat × SV) (q : Nat × Value) => p.1 = q.1 ∧ p.2.R ρ q.2) (parts.toList.map fun p => (p.1, ev p.2)) (parts.map fun (p : Nat × Operand) => (p.1, val p.2)).toList := by
        rw [Array.toList_map]
        exact All2.map (fun p => ⟨rfl, hv p.2⟩) _
      obtain ⟨z, hz, hr⟩ := buildS_run hb hp w
      refine ⟨z, ?_, hr⟩
      simp only [execOp, Sem.run_bind]
      rw [hz]; rfl
  · -- extract
    rename_i x i
    split at h <;> try (cases h; done)
    rename_i vs hx
    have h1 := hv x
    rw [hx] at h1
    obtain ⟨us, hv', hc⟩ := h1
    split at h <;> simp only [Option.some.injEq, Prod.mk.injEq, true_and, reduceCtorEq] at h <;> subst h
    all_goals
      rename_i hg
      obtain ⟨u, hu, hr⟩ := hc.get hg
      refine ⟨u, ?_, hr⟩
      simp only [execOp, Instr.extract, hv', Sem.run_bind, List.getElem?_toArray, hu, Sem.run_pure, Result.andThen_ok]
  · -- makeFunc
    rename_i fn first caps
    split at h <;> try (cases h; done)
    rename_i f hfirst
    obtain rfl : first = #[] := by simpa using hfirst
    cases hp : ptrs ev caps.toList with
    | none => simp [hp] at h
    | some l =>
      simp [hp] at h; subst h
      refine ⟨.func (.func f) #[] (caps.map val), ?_, (caps.map val).toList, by rw [Array.toArray_toList], ?_⟩
      · simp only [execOp, Instr.makeFunc, Sem.run_bind, Sem.run_pure, Result.andThen_ok, Array.map_empty]
      · rw [Array.toList_map]
        exact ptrs_R hv hp
  · rename_i t x lo hi mx
    split at h <;> try (cases h; done)
    exact sliceS_run hv h w
  · exact callS_run hv h w
  · cases h
end
end Go.Proofs.Ytkpdkfeklecehaa.Sx
