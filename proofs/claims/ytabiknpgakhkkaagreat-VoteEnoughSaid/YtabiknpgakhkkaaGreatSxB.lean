/-
  A small symbolic executor over the model: the states (slots and a table of memory blocks) and how they stand to a world. No program is named here. The executor's operations on single cells: arithmetic, comparisons, conversions; that the model does just this.
-/
import Derived.KernelRfl
import Derived.WalkKit
set_option maxRecDepth 20000
section
namespace Go.Proofs.YtabiknpgakhkkaaGreat.Sx
open Go.RowKit
set_option linter.unusedVariables false
set_option linter.unusedSimpArgs false

/-- Two lists of one length, the elements standing to one another. -/
inductive All2 {α β : Type} (R : α → β → Prop) : List α → List β → Prop where
  | nil : All2 R [] []
  | cons {a : α} {b : β} {l : List α} {m : List β} : R a b → All2 R l m → All2 R (a :: l) (b :: m)

theorem forall₂_imp {α β : Type} {R S : α → β → Prop} (h : ∀ a b, R a b → S a b) {l : List α} {m : List β} (hl : All2 R l m) : All2 S l m := by
  induction hl with
  | nil => exact .nil
  | cons hab _ ih => exact .cons (h _ _ hab) ih
theorem All2.length {α β : Type} {R : α → β → Prop} {l : List α} {m : List β} (hl : All2 R l m) : l.length = m.length := by
  induction hl with
  | nil => rfl
  | cons _ _ ih => simp [ih]
theorem All2.get {α β : Type} {R : α → β → Prop} {l : List α} {m : List β} (hl : All2 R l m) : ∀ {i : Nat} {a : α}, l[i]? = some a → ∃ b, m[i]? = some b ∧ R a b := by
  induction hl with
  | nil => intro i a h; simp at h
  | cons hab _ ih =>
    intro i a h
    cases i with
    | zero => simp at h; subst h; exact ⟨_, by simp, hab⟩
    | succ i => simp at h; obtain ⟨b, hb, hr⟩ := ih h; exact ⟨b, by simpa using hb, hr⟩
theorem All2.append {α β : Type} {R : α → β → Prop} {l l' : List α} {m m' : List β} (hl : All2 R l m) (hl' : All2 R l' m') : All2 R (l ++ l') (m ++ m') := by
  induction hl with
  | nil => exact hl'
  | cons hab _ ih => exact .cons hab ih
theorem All2.drop {α β : Type} {R : α → β → Prop} {l : List α} {m : List β} (hl : All2 R l m) : ∀ n, All2 R (l.drop n) (m.drop n) := by
  induction hl with
  | nil => intro n; simp; exact .nil
  | cons hab h ih =>
    intro n
    cases n with
    | zero => exact .cons hab h
    | succ n => exact ih n
theorem All2.take {α β : Type} {R : α → β → Prop} {l : List α} {m : List β} (hl : All2 R l m) : ∀ n, All2 R (l.take n) (m.take n) := by
  induction hl with
  | nil => intro n; simp; exact .nil
  | cons hab h ih =>
    intro n
    cases n with
    | zero => exact .nil
    | succ n => exact .cons hab (ih n)
theorem All2.set {α β : Type} {R : α → β → Prop} {l : List α} {m : List β} (hl : All2 R l m) {a : α} {b : β} (hab : R a b) : ∀ i, All2 R (l.set i a) (m.set i b) := by
  induction hl with
  | nil => intro i; exact .nil
  | cons h1 h2 ih =>
    intro i
    cases i with
    | zero => exact .cons hab h2
    | succ i => exact .cons h1 (ih i)
theorem All2.map {α β γ : Type} {R : α → β → Prop} {f : γ → α} {g : γ → β} (h : ∀ c, R (f c) (g c)) (l : List γ) : All2 R (l.map f) (l.map g) := by
  induction l with
  | nil => exact .nil
  | cons c r ih => exact .cons (h c) ih

/-- A place of a table's key: the block's number in the world, and how many cells it has. -/
structure Loc where
  blk : Nat
  tot : Nat
  lit : Bool
  o0 : Nat

/-- What a key stands for: nothing yet; a nil slice; a block. -/
structure Ren where
  key : Nat → Option (Option Loc)
  row : Value → List UInt8 → Prop
instance : CoeFun Ren fun _ => Nat → Option (Option Loc) := ⟨Ren.key⟩

/-- The value of one cell. -/
inductive SC where
  | int (n : Int)
  | u8 (b : UInt8)
  | u64 (x : UInt64)
  | ik (k : IntKind) (n : Int)
  | bool (b : Bool)
  | str (s : List UInt8)
  | nilp
  | ptr (k off : Nat)
  | nils
  | slc (k off esz len : Nat) (cap : Option Nat)
  | fn (f : Nat) (caps : List (Nat × Nat))
  | raw (v : Value)
  | row (bs : List UInt8) (v : Value)

/-- A value. -/
inductive SV where
  | c (x : SC)
  | agg (cs : List SC)
  | tup (vs : List (SC ⊕ List SC))
  | und

def PtrR (ρ : Ren) (p : Nat × Nat) (v : Value) : Prop := ∃ l, ρ p.1 = some (some l) ∧ v = .pointer (some ⟨l.blk, l.o0 + p.2, none⟩)

def SlcR (ρ : Ren) (k off esz len : Nat) (cap : Option Nat) (v : Value) : Prop :=
  (ρ k = some none ∧ (∃ a : Option Addr, v = .slice a 0 0) ∧ len = 0 ∧ ∀ n, cap = some n → n = 0) ∨
  (∃ l o c, ρ k = some (some l) ∧ v = .slice (some ⟨l.blk, o, none⟩) len c ∧ len ≤ c ∧ (c ≠ 0 → o = l.o0 + off ∧ off + c * esz ≤ l.tot) ∧ ∀ n, cap = some n → c = n)

/-- A slice of so many elements. -/
def RowOf (n : Nat) (v : Value) : Prop := ∃ a c, v = .slice a n c

def SC.R (ρ : Ren) : SC → Value → Prop
  | .int n, v => v = .int .i64 n
  | .u8 b, v => v = .int .u8 b.toNat
  | .u64 x, v => v = .int .u64 x.toNat
  | .ik k n, v => v = .int k n
  | .bool b, v => v = .bool b
  | .str s, v => v = .string ⟨s.toArray⟩
  | .nilp, v => v = .pointer none
  | .ptr k off, v => PtrR ρ (k, off) v
  | .nils, v => v = .slice none 0 0
  | .slc k off esz len cap, v => SlcR ρ k off esz len cap v
  | .fn f caps, v => ∃ vs : List Value, v = .func (.func f) #[] vs.toArray ∧ All2 (PtrR ρ) caps vs
  | .raw x, v => v = x ∧ x.oneCell' = true
  | .row bs x, v => v = x ∧ ρ.row x bs ∧ RowOf bs.length x

def AggR (ρ : Ren) (cs : List SC) (v : Value) : Prop := ∃ vs : List Value, v = .agg vs.toArray ∧ All2 (SC.R ρ) cs vs

def PartR (ρ : Ren) : SC ⊕ List SC → Value → Prop
  | .inl x, v => x.R ρ v
  | .inr cs, v => AggR ρ cs v

def SV.R (ρ : Ren) : SV → Value → Prop
  | .c x, v => x.R ρ v
  | .agg cs, v => AggR ρ cs v
  | .tup ts, v => ∃ vs : List Value, v = .tuple vs.toArray ∧ All2 (PartR ρ) ts vs
  | .und, _ => True

/-- More keys stand for something. -/
structure Le (ρ ρ' : Ren) : Prop where
  key : ∀ k x, ρ k = some x → ρ' k = some x
  row : ∀ v bs, ρ.row v bs → ρ'.row v bs
instance {ρ ρ' : Ren} : CoeFun (Le ρ ρ') fun _ => ∀ k x, ρ k = some x → ρ' k = some x := ⟨Le.key⟩
theorem Le.refl (ρ : Ren) : Le ρ ρ := ⟨fun _ _ h => h, fun _ _ h => h⟩
theorem Le.trans {a b c : Ren} (h : Le a b) (h' : Le b c) : Le a c := ⟨fun k x hk => h' k x (h k x hk), fun v bs hk => h'.row v bs (h.row v bs hk)⟩

theorem PtrR.mono {ρ ρ' : Ren} (h : Le ρ ρ') {p : Nat × Nat} {v : Value} (hp : PtrR ρ p v) : PtrR ρ' p v :=
  let ⟨l, hl, hv⟩ := hp; ⟨l, h _ _ hl, hv⟩
theorem SlcR.mono {ρ ρ' : Ren} (h : Le ρ ρ') {k off esz len : Nat} {cap : Option Nat} {v : Value} (hp : SlcR ρ k off esz len cap v) : SlcR ρ' k off esz len cap v := by
  rcases hp with ⟨h1, h2⟩ | ⟨l, o, c, hl, h2⟩
  · exact .inl ⟨h _ _ h1, h2⟩
  · exact .inr ⟨l, o, c, h _ _ hl, h2⟩
theorem SC.R.mono {ρ ρ' : Ren} (h : Le ρ ρ') {x : SC} {v : Value} (hx : x.R ρ v) : x.R ρ' v := by
  cases x <;> first | exact hx | exact PtrR.mono h hx | exact SlcR.mono h hx | skip
  case fn f caps => obtain ⟨vs, hv, hc⟩ := hx; exact ⟨vs, hv, forall₂_imp (fun _ _ => PtrR.mono h) hc⟩
  case row bs y => exact ⟨hx.1, h.row _ _ hx.2.1, hx.2.2⟩
theorem AggR.mono {ρ ρ' : Ren} (h : Le ρ ρ') {cs : List SC} {v : Value} (hx : AggR ρ cs v) : AggR ρ' cs v := by
  obtain ⟨vs, hv, hc⟩ := hx; exact ⟨vs, hv, forall₂_imp (fun _ _ => SC.R.mono h) hc⟩
theorem SV.R.mono {ρ ρ' : Ren} (h : Le ρ ρ') {x : SV} {v : Value} (hx : x.R ρ v) : x.R ρ' v := by
  cases x with
  | c x => exact SC.R.mono h hx
  | agg cs => exact AggR.mono h hx
  | tup ts =>
    obtain ⟨vs, hv, hc⟩ := hx
    refine ⟨vs, hv, forall₂_imp (fun t v ht => ?_) hc⟩
    cases t with
    | inl x => exact SC.R.mono h ht
    | inr cs => exact AggR.mono h ht
  | und => exact trivial

theorem SC.R.one {ρ : Ren} {x : SC} {v : Value} (h : x.R ρ v) : v.oneCell' = true := by
  cases x <;> simp only [SC.R] at h
  case ptr k off => obtain ⟨l, _, rfl⟩ := h; rfl
  case slc k off esz len cap => rcases h with ⟨_, ⟨_, rfl⟩, _⟩ | ⟨l, o, c, _, rfl, _⟩ <;> rfl
  case fn f caps => obtain ⟨vs, rfl, _⟩ := h; rfl
  case raw y => obtain ⟨rfl, h⟩ := h; exact h
  case row bs y => obtain ⟨rfl, _, _, _, rfl⟩ := h; rfl
  all_goals subst h; rfl

/-- A block of the table: its cells from the first on; their type; whether more cells may follow; whether it may be written. -/
structure Blk where
  cells : List SC
  ty : TypeId
  tail : Bool
  own : Bool

/-- A block of the table holds in a world. -/
def Blk.R (ρ : Ren) (w : World) (b : Blk) : Option Loc → Prop
  | none => b.cells = [] ∧ b.tail = true
  | some l => ∃ (pre vs rest : List Value) (fr : Nat × Nat), w.heap[l.blk]? = some (.cells (pre ++ (vs ++ rest)).toArray b.ty fr) ∧ All2 (SC.R ρ) b.cells vs ∧
      (vs ++ rest).length = l.tot ∧ (b.tail = false → rest = []) ∧ pre.length = l.o0 ∧ (b.own = true → l.o0 = 0 ∧ fr = (0, 0)) ∧ (b.own = false → b.tail = false → l.lit = true ∧ l.o0 = 0 ∧ (fr.1 = fr.2 ∨ l.tot ≤ fr.1))

/-- A table of what may stand at numbers. -/
def get {α : Type} : List (Nat × α) → Nat → Option α
  | [], _ => none
  | (j, b) :: r, k => bif Nat.beq j k then some b else get r k
def set {α : Type} : List (Nat × α) → Nat → α → List (Nat × α)
  | [], k, a => [(k, a)]
  | (j, b) :: r, k, a => bif Nat.beq j k then (k, a) :: r else (j, b) :: set r k a

theorem beq_of_ne {j k : Nat} (h : j ≠ k) : Nat.beq j k = false := by
  cases hb : Nat.beq j k with
  | false => rfl
  | true => exact absurd (Nat.eq_of_beq_eq_true hb) h
theorem beq_self (k : Nat) : Nat.beq k k = true := by simp
theorem get_set_same {α : Type} (l : List (Nat × α)) (k : Nat) (a : α) : get (set l k a) k = some a := by
  induction l with
  | nil => simp [set, get]
  | cons x r ih =>
    obtain ⟨j, b⟩ := x
    by_cases h : j = k
    · subst h; simp [set, get]
    · simp only [set, beq_of_ne h, cond_false, get]; exact ih
theorem get_set_ne {α : Type} (l : List (Nat × α)) {k j : Nat} (a : α) (hne : k ≠ j) : get (set l k a) j = get l j := by
  induction l with
  | nil => simp [set, get, beq_of_ne hne]
  | cons x r ih =>
    obtain ⟨i, b⟩ := x
    by_cases h : i = k
    · subst h; simp [set, get, beq_of_ne hne]
    · simp only [set, beq_of_ne h, cond_false, get]; rw [ih]
theorem get_mem {α : Type} {l : List (Nat × α)} {k : Nat} {a : α} (h : get l k = some a) : (k, a) ∈ l := by
  induction l with
  | nil => simp [get] at h
  | cons x r ih =>
    obtain ⟨j, b⟩ := x
    by_cases hj : j = k
    · subst hj; simp [get] at h; subst h; simp
    · simp only [get, beq_of_ne hj, cond_false] at h; exact List.mem_cons_of_mem _ (ih h)

/-- The table of blocks: 'none': the key is dead. -/
abbrev Tab := List (Nat × Option Blk)
def Tab.blk (T : Tab) (k : Nat) : Option Blk := match get T k with | some (some b) => some b | _ => none
def Tab.has (T : Tab) (k : Nat) : Bool := match get T k with | some _ => true | none => false

/-- What stays the same while a function runs: the world at its entry, below which block number nothing is turned, but for some. -/
structure Cx where
  w0 : World
  B : Nat
  mb : List Nat
  nf : Nat

/-- No key stands for anything. -/
def renNone : Ren := ⟨fun _ => none, fun _ _ => False⟩
/-- Cells in which no key stands. -/
def SC.allk (p : Nat → Bool) : SC → Bool
  | .ptr k _ => p k
  | .slc k _ _ _ _ => p k
  | .fn _ caps => caps.all fun q => p q.1
  | _ => true
def SC.plain : SC → Bool := SC.allk fun _ => false
/-- A block in which a row of bytes stands, from a place on. -/
structure RowB (off : Nat) (b : Blk) (bs : List UInt8) : Prop where
  own : b.own = false
  tail : b.tail = true
  len : b.cells.length = off + bs.length
  cells : b.cells.drop off = bs.map SC.u8
  plain : b.cells.all SC.plain = true
/-- A slice whose bytes are these, in a world. -/
def BytesAt (w : World) (v : Value) (bs : List UInt8) : Prop := ∃ (off : Nat) (b : Blk) (x : Option Loc), RowB off b bs ∧ (∀ ρ, b.R ρ w x) ∧ (∀ (ρ : Ren) (k : Nat), ρ k = some x → (SC.slc k off 1 bs.length none).R ρ v) ∧ ∀ l, x = some l → l.lit = false
theorem BytesAt.rowOf {w : World} {v : Value} {bs : List UInt8} (h : BytesAt w v bs) : RowOf bs.length v := by
  obtain ⟨off, b, x, _, _, hs, _⟩ := h
  rcases hs ⟨fun _ => some x, fun _ _ => False⟩ 0 rfl with ⟨_, ⟨a, rfl⟩, h0, _⟩ | ⟨l, o, c, _, rfl, _⟩
  · rw [h0]; exact ⟨_, _, rfl⟩
  · exact ⟨_, _, rfl⟩
/-- The same, of the world that stays. -/
def BytesOld (X : Cx) (v : Value) (bs : List UInt8) : Prop := ∃ (off : Nat) (b : Blk) (x : Option Loc), RowB off b bs ∧ (∀ ρ, b.R ρ X.w0 x) ∧ (∀ (ρ : Ren) (k : Nat), ρ k = some x → (SC.slc k off 1 bs.length none).R ρ v) ∧ (∀ l, x = some l → l.lit = false) ∧ ∀ l, x = some l → l.blk < X.B ∧ l.blk ∉ X.mb

/-- Keys and their blocks stand to a world. -/
structure RelP (X : Cx) (ρ : Ren) (M : Nat → Blk → Prop) (w : World) : Prop where
  os : w.os = X.w0.os
  tape : w.tape = X.w0.tape
  output : w.output = X.w0.output
  size : X.B ≤ w.heap.size
  size0 : X.w0.heap.size ≤ w.heap.size
  old : ∀ b, b < X.B → b ∉ X.mb → w.heap[b]? = X.w0.heap[b]?
  blk : ∀ k b, M k b → ∃ x, ρ k = some x ∧ b.R ρ w x
  sep : ∀ k b l, M k b → b.own = true → ρ k = some (some l) →
    (X.B ≤ l.blk ∨ l.blk ∈ X.mb) ∧ ∀ k' b' l', k' ≠ k → M k' b' → ρ k' = some (some l') → l'.blk ≠ l.blk
  lit : ∀ k l, ρ k = some (some l) → l.lit = true → X.B ≤ l.blk ∧ l.blk < w.heap.size ∧ ∀ k' b' l', M k' b' → b'.own = true → ρ k' = some (some l') → l'.blk ≠ l.blk
  rows : ∀ v bs, ρ.row v bs → BytesOld X v bs

abbrev Rel (X : Cx) (ρ : Ren) (T : Tab) (w : World) : Prop := RelP X ρ (fun k b => T.blk k = some b) w

structure St where
  tmps : List (Nat × SV)
  tab : Tab
  nk : Nat
  nt : Nat

structure RelA (X : Cx) (ρ : Ren) (st : St) (a : Act) (w : World) : Prop where
  rel : Rel X ρ st.tab w
  tmps : ∀ t v, get st.tmps t = some v → ∃ u, a.tmps[t]? = some u ∧ SV.R ρ v u
  defers : a.defers = []
  fresh : ∀ k, st.nk ≤ k → ρ k = none
  sz : a.tmps.size = st.nt

/-- A block of which no more than the mark behind its end is another one. -/
def Marked (w w' : World) (j : Nat) : Prop := ∃ cs ty fr fr', w.heap[j]? = some (.cells cs ty fr) ∧ w'.heap[j]? = some (.cells cs ty fr') ∧ ((fr.1 = fr.2 ∨ cs.size ≤ fr.1) → (fr'.1 = fr'.2 ∨ cs.size ≤ fr'.1))

/-- New blocks under new keys. -/
structure New (ρ ρ' : Ren) (E : List (Nat × Blk)) (w w' : World) : Prop where
  os : w'.os = w.os
  tape : w'.tape = w.tape
  output : w'.output = w.output
  size : w.heap.size ≤ w'.heap.size
  block : ∀ j, j < w.heap.size → w'.heap[j]? = w.heap[j]? ∨ ((∃ k l, ρ k = some (some l) ∧ l.lit = true ∧ l.blk = j) ∧ Marked w w' j)
  le : Le ρ ρ'
  only : ∀ k, (∀ b, (k, b) ∉ E) → ρ' k = ρ k
  blk : ∀ k b, (k, b) ∈ E → ∃ x, ρ' k = some x ∧ b.R ρ' w' x ∧ ∀ l, x = some l → w.heap.size ≤ l.blk
  sep : ∀ k b k' b' l l', (k, b) ∈ E → (k', b') ∈ E → k ≠ k' → ρ' k = some (some l) → ρ' k' = some (some l') → l.blk ≠ l'.blk
  lit : ∀ k b l, (k, b) ∈ E → ρ' k = some (some l) → l.lit = true → b.own = false
  row : ρ'.row = ρ.row

theorem New.of {ρ ρ' : Ren} {E : List (Nat × Blk)} {w w' : World} (below : Below w.heap.size w w') (le : Le ρ ρ') (only : ∀ k, (∀ b, (k, b) ∉ E) → ρ' k = ρ k) (blk : ∀ k b, (k, b) ∈ E → ∃ x, ρ' k = some x ∧ b.R ρ' w' x ∧ ∀ l, x = some l → w.heap.size ≤ l.blk)
    (sep : ∀ k b k' b' l l', (k, b) ∈ E → (k', b') ∈ E → k ≠ k' → ρ' k = some (some l) → ρ' k' = some (some l') → l.blk ≠ l'.blk) (lit : ∀ k b l, (k, b) ∈ E → ρ' k = some (some l) → l.lit = true → b.own = false) (row : ρ'.row = ρ.row) : New ρ ρ' E w w' :=
  ⟨below.os, below.tape, below.output, below.size, fun j hj => .inl (below.block j hj), le, only, blk, sep, lit, row⟩

def addAll (T : Tab) : List (Nat × Blk) → Tab
  | [] => T
  | (k, b) :: r => addAll ((k, some b) :: T) r

theorem New.refl (ρ : Ren) (w : World) : New ρ ρ [] w w :=
  New.of (Below.refl _ _) (Le.refl _) (fun _ _ => rfl) (fun _ _ h => (by simp at h)) (fun _ _ _ _ _ _ h => (by simp at h)) (fun _ _ _ h => (by simp at h)) rfl

/-- A block that stands below what has been turned stands still. -/
theorem Blk.R.keep {ρ ρ' : Ren} {w w' : World} {b : Blk} {x : Option Loc} (hle : Le ρ ρ') (h : b.R ρ w x) (hw : ∀ l, x = some l → w'.heap[l.blk]? = w.heap[l.blk]?) : b.R ρ' w' x := by
  cases x with
  | none => exact h
  | some l =>
    obtain ⟨pre, vs, rest, fr, h1, h2, h3⟩ := h
    exact ⟨pre, vs, rest, fr, (hw l rfl).trans h1, forall₂_imp (fun _ _ => SC.R.mono hle) h2, h3⟩

theorem Blk.R.marked {ρ ρ' : Ren} {w w' : World} {b : Blk} {l : Loc} (hle : Le ρ ρ') (h : b.R ρ w (some l)) (ho : b.own = false) (hm : Marked w w' l.blk) : b.R ρ' w' (some l) := by
  obtain ⟨pre, vs, rest, fr, h1, h2, h3, h4, h5, h6, h7⟩ := h
  obtain ⟨cs, ty, f1, f2, g1, g2, g4⟩ := hm
  rw [h1] at g1
  simp only [Option.some.injEq, Obj.cells.injEq] at g1
  obtain ⟨rfl, rfl, rfl⟩ := g1
  refine ⟨pre, vs, rest, f2, g2, forall₂_imp (fun _ _ => SC.R.mono hle) h2, h3, h4, h5, fun h => (by rw [ho] at h; cases h), fun a b => ⟨(h7 a b).1, (h7 a b).2.1, ?_⟩⟩
  have hs : (pre ++ (vs ++ rest)).toArray.size = l.tot := by
    have := (h7 a b).2.1
    simp only [List.size_toArray, List.length_append] at h3 ⊢
    omega
  rw [hs] at g4
  exact g4 (h7 a b).2.2

theorem Blk.R.lt {ρ : Ren} {w : World} {b : Blk} {l : Loc} (h : b.R ρ w (some l)) : l.blk < w.heap.size := by
  obtain ⟨pre, vs, rest, fr, h1, _⟩ := h
  exact (Array.getElem?_eq_some_iff.1 h1).1

theorem blk_cons (T : Tab) (k : Nat) (b : Option Blk) (j : Nat) : Tab.blk ((k, b) :: T) j = if k = j then b else Tab.blk T j := by
  by_cases h : k = j
  · subst h; cases b <;> simp [Tab.blk, get]
  · simp [Tab.blk, get, beq_of_ne h, h]
theorem has_cons (T : Tab) (k : Nat) (b : Option Blk) (j : Nat) : Tab.has ((k, b) :: T) j = (decide (k = j) || Tab.has T j) := by
  by_cases h : k = j
  · subst h; simp [Tab.has, get]
  · simp [Tab.has, get, beq_of_ne h, h]
theorem blk_addAll {E : List (Nat × Blk)} : ∀ {T : Tab} {k : Nat} {b : Blk}, (addAll T E).blk k = some b → (k, b) ∈ E ∨ ((∀ b', (k, b') ∉ E) ∧ T.blk k = some b) := by
  induction E with
  | nil => intro T k b h; exact .inr ⟨fun _ h => by simp at h, h⟩
  | cons x r ih =>
    obtain ⟨j, c⟩ := x
    intro T k b h
    rcases ih h with h | ⟨h, h'⟩
    · exact .inl (List.mem_cons_of_mem _ h)
    · rw [blk_cons] at h'
      by_cases hj : j = k
      · rw [if_pos hj] at h'; cases h'; subst hj; exact .inl (by simp)
      · rw [if_neg hj] at h'
        exact .inr ⟨fun b' hb => by rcases List.mem_cons.1 hb with hb | hb; (cases hb; exact hj rfl); exact h b' hb, h'⟩
theorem has_addAll {E : List (Nat × Blk)} : ∀ {T : Tab} {k : Nat}, (addAll T E).has k = false → (∀ b', (k, b') ∉ E) ∧ T.has k = false := by
  induction E with
  | nil => intro T k h; exact ⟨fun _ h => by simp at h, h⟩
  | cons x r ih =>
    obtain ⟨j, c⟩ := x
    intro T k h
    obtain ⟨h, h'⟩ := ih h
    rw [has_cons] at h'
    simp at h'
    exact ⟨fun b' hb => by rcases List.mem_cons.1 hb with hb | hb; (cases hb; exact h'.1 rfl); exact h b' hb, h'.2⟩
theorem has_addAll_of {E : List (Nat × Blk)} : ∀ {T : Tab} {k : Nat}, (∀ b', (k, b') ∉ E) → T.has k = false → (addAll T E).has k = false := by
  induction E with
  | nil => intro T k _ h; exact h
  | cons x r ih =>
    obtain ⟨j, c⟩ := x
    intro T k h h'
    refine ih (fun b' hb => h b' (List.mem_cons_of_mem _ hb)) ?_
    rw [has_cons]
    have : j ≠ k := fun e => by subst e; exact h c (by simp)
    simp [this, h']

theorem RelP.lt {X : Cx} {ρ : Ren} {M : Nat → Blk → Prop} {w : World} (h : RelP X ρ M w) {k : Nat} {b : Blk} {l : Loc} (hk : M k b) (hl : ρ k = some (some l)) : l.blk < w.heap.size := by
  obtain ⟨x, hx, hb⟩ := h.blk k b hk
  rw [hl] at hx; cases hx
  exact hb.lt

/-- New blocks: the keys with them stand to the world with them. -/
theorem RelP.new {X : Cx} {ρ ρ' : Ren} {M : Nat → Blk → Prop} {E : List (Nat × Blk)} {w w' : World} (h : RelP X ρ M w) (hn : New ρ ρ' E w w') : RelP X ρ' (fun k b => (k, b) ∈ E ∨ M k b) w' where
  os := hn.os.trans h.os
  tape := hn.tape.trans h.tape
  output := hn.output.trans h.output
  size := Nat.le_trans h.size hn.size
  size0 := Nat.le_trans h.size0 hn.size
  old := fun b hb hm => by
    rcases hn.block b (Nat.lt_of_lt_of_le hb h.size) with h1 | ⟨⟨k, l, hk, hl, rfl⟩, _⟩
    · exact h1.trans (h.old b hb hm)
    · have := (h.lit k l hk hl).1; omega
  blk := fun k b hk => by
    rcases hk with hk | hk
    · obtain ⟨x, hx, hb, _⟩ := hn.blk k b hk; exact ⟨x, hx, hb⟩
    · obtain ⟨x, hx, hb⟩ := h.blk k b hk
      refine ⟨x, hn.le _ _ hx, ?_⟩
      cases x with
      | none => exact hb
      | some l =>
        rcases hn.block _ (h.lt hk hx) with h1 | ⟨⟨k', l', hk', hl', he⟩, hm⟩
        · exact hb.keep hn.le fun l2 hl2 => by cases hl2; exact h1
        · refine hb.marked hn.le ?_ hm
          cases ho : b.own with
          | false => rfl
          | true => exact absurd he.symm ((h.lit k' l' hk' hl').2.2 k b l hk ho hx)
  rows := fun v bs hr => h.rows v bs (by rw [← hn.row]; exact hr)
  lit := fun k l hl hlit => by
    by_cases hkE : ∃ b, (k, b) ∈ E
    · obtain ⟨b, hb⟩ := hkE
      obtain ⟨x, hx, hbR, hs⟩ := hn.blk k b hb
      rw [hl] at hx; cases hx
      have hge := hs l rfl
      refine ⟨Nat.le_trans h.size hge, hbR.lt, fun k' b' l' hk' ho' hl' => ?_⟩
      rcases hk' with hk' | hk'
      · by_cases hkk : k = k'
        · subst hkk; rw [hn.lit k b' l hk' hl hlit] at ho'; cases ho'
        · exact fun e => hn.sep k b k' b' l l' hb hk' hkk hl hl' e.symm
      · obtain ⟨x, hx, hb2⟩ := h.blk k' b' hk'
        have hx' := hn.le _ _ hx
        rw [hl'] at hx'; cases hx'
        have := h.lt hk' hx
        omega
    · have hk0 : ρ k = some (some l) := by rw [← hn.only k (fun b hb => hkE ⟨b, hb⟩)]; exact hl
      obtain ⟨g1, g2, g3⟩ := h.lit k l hk0 hlit
      refine ⟨g1, Nat.lt_of_lt_of_le g2 hn.size, fun k' b' l' hk' ho' hl' => ?_⟩
      rcases hk' with hk' | hk'
      · obtain ⟨x, hx, hbR, hs⟩ := hn.blk k' b' hk'
        rw [hl'] at hx; cases hx
        have := hs l' rfl
        omega
      · obtain ⟨x, hx, hb2⟩ := h.blk k' b' hk'
        have hx' := hn.le _ _ hx
        rw [hl'] at hx'; cases hx'
        exact g3 k' b' l' hk' ho' hx
  sep := fun k b l hk ho hl => by
    have key : ∀ {k b l}, ((k, b) ∈ E ∨ M k b) → ρ' k = some (some l) → ((k, b) ∈ E ∧ w.heap.size ≤ l.blk) ∨ (M k b ∧ ρ k = some (some l) ∧ l.blk < w.heap.size) := fun {k b l} hk hl => by
      rcases hk with hk | hk
      · obtain ⟨x, hx, hb, hs⟩ := hn.blk k b hk
        rw [hl] at hx; cases hx
        exact .inl ⟨hk, hs l rfl⟩
      · obtain ⟨x, hx, hb⟩ := h.blk k b hk
        have hx' := hn.le _ _ hx
        rw [hl] at hx'; cases hx'
        exact .inr ⟨hk, hx, h.lt hk hx⟩
    rcases key hk hl with ⟨hkE, hge⟩ | ⟨hkT, hlT, hlt⟩
    · refine ⟨.inl (Nat.le_trans h.size hge), fun k' b' l' hne hk' hl' => ?_⟩
      rcases key hk' hl' with ⟨hkE', hge'⟩ | ⟨hkT', hlT', hlt'⟩
      · exact hn.sep k' b' k b l' l hkE' hkE hne hl' hl
      · exact fun e => by omega
    · obtain ⟨h1, h2⟩ := h.sep k b l hkT ho hlT
      refine ⟨h1, fun k' b' l' hne hk' hl' => ?_⟩
      rcases key hk' hl' with ⟨hkE', hge'⟩ | ⟨hkT', hlT', hlt'⟩
      · exact fun e => by omega
      · exact h2 k' b' l' hne hkT' hlT'

theorem RelP.sub {X : Cx} {ρ : Ren} {M M' : Nat → Blk → Prop} {w : World} (h : RelP X ρ M w) (hs : ∀ k b, M' k b → M k b) : RelP X ρ M' w :=
  ⟨h.os, h.tape, h.output, h.size, h.size0, h.old, fun k b hk => h.blk k b (hs k b hk), fun k b l hk ho hl =>
    let ⟨h1, h2⟩ := h.sep k b l (hs k b hk) ho hl; ⟨h1, fun k' b' l' hne hk' hl' => h2 k' b' l' hne (hs k' b' hk') hl'⟩,
    fun k l hk hl => let ⟨h1, h2, h3⟩ := h.lit k l hk hl; ⟨h1, h2, fun k' b' l' hk' => h3 k' b' l' (hs k' b' hk')⟩, h.rows⟩

theorem Rel.new {X : Cx} {ρ ρ' : Ren} {T : Tab} {E : List (Nat × Blk)} {w w' : World} (h : Rel X ρ T w) (hn : New ρ ρ' E w w') : Rel X ρ' (addAll T E) w' :=
  (RelP.new h hn).sub fun k b hk => by rcases blk_addAll hk with h | h; exact .inl h; exact .inr h.2

/-- A part of a table. -/
theorem RelP.draw {X : Cx} {ρ : Ren} {M : Nat → Blk → Prop} {w : World} (h : RelP X ρ M w) : RelP X ρ M { w with drawn := w.drawn + 1 } :=
  ⟨h.os, h.tape, h.output, h.size, h.size0, h.old, fun k b hk => let ⟨x, hx, hb⟩ := h.blk k b hk; ⟨x, hx, hb.keep (Le.refl _) fun _ _ => rfl⟩, h.sep, h.lit, h.rows⟩

theorem blk_set_same (T : Tab) (k : Nat) (b : Option Blk) : Tab.blk (set T k b) k = b := by
  unfold Tab.blk; rw [get_set_same]; cases b <;> rfl
theorem blk_set_ne (T : Tab) {k j : Nat} (b : Option Blk) (h : k ≠ j) : Tab.blk (set T k b) j = Tab.blk T j := by
  unfold Tab.blk; rw [get_set_ne _ _ h]

end Go.Proofs.YtabiknpgakhkkaaGreat.Sx
end

section
namespace Go.Proofs.YtabiknpgakhkkaaGreat.Sx
open Go.RowKit
set_option linter.unusedVariables false
set_option linter.unusedSimpArgs false

/-- The number of a cell that holds one. -/
def SC.num : SC → Option (IntKind × Int)
  | .int n => some (.i64, n)
  | .u8 b => some (.u8, b.toNat)
  | .u64 x => some (.u64, x.toNat)
  | .ik k n => some (k, n)
  | _ => none
theorem SC.num_R {ρ : Ren} {x : SC} {k : IntKind} {n : Int} {v : Value} (h : x.num = some (k, n)) (hx : x.R ρ v) : v = .int k n := by
  cases x <;> simp only [SC.num, reduceCtorEq, Option.some.injEq, Prod.mk.injEq] at h <;> obtain ⟨rfl, rfl⟩ := h <;> exact hx

/-- A number of a kind as a cell. -/
def ofNum (k : IntKind) (n : Int) : SC :=
  match k with
  | .i64 => .int n
  | k => .ik k n
theorem ofNum_R {ρ : Ren} (k : IntKind) (n : Int) : (ofNum k n).R ρ (.int k n) := by cases k <;> rfl

def bitsI (op : BinOp) (k : IntKind) (a b : Int) : Option Int :=
  match op with
  | .and => some (k.wrap (BitVec.ofInt k.bits a &&& BitVec.ofInt k.bits b).toNat)
  | .or => some (k.wrap (BitVec.ofInt k.bits a ||| BitVec.ofInt k.bits b).toNat)
  | .xor => some (k.wrap (BitVec.ofInt k.bits a ^^^ BitVec.ofInt k.bits b).toNat)
  | .andNot => some (k.wrap (BitVec.ofInt k.bits a &&& ~~~BitVec.ofInt k.bits b).toNat)
  | _ => none

/-- An operation on two numbers of one kind: what must hold; the cell. -/
def numBin (op : BinOp) (k : IntKind) (a b : Int) : Option (Bool × SC) :=
  match op with
  | .add => some (true, ofNum k (k.wrap (a + b)))
  | .sub => some (true, ofNum k (k.wrap (a - b)))
  | .mul => some (true, ofNum k (k.wrap (a * b)))
  | .quo => some (b != 0, ofNum k (k.wrap (a.tdiv b)))
  | .rem => some (b != 0, ofNum k (a.tmod b))
  | .eql => some (true, .bool (a == b))
  | .neq => some (true, .bool (a != b))
  | .lss => some (true, .bool (decide (a < b)))
  | .leq => some (true, .bool (decide (a ≤ b)))
  | .gtr => some (true, .bool (decide (a > b)))
  | .geq => some (true, .bool (decide (a ≥ b)))
  | op => (bitsI op k a b).map fun n => (true, ofNum k n)

theorem numBin_run {ρ : Ren} {P : Program} (w : World) {op : BinOp} {k : IntKind} {a b : Int} {r : SC} (hs : op ≠ .shl) (hs' : op ≠ .shr) (t : TypeId)
    (h : numBin op k a b = some (true, r)) : ∃ v, (binOp op t (.int k a) (.int k b)).run P w = .ok v w ∧ r.R ρ v := by
  cases op <;> simp only [numBin, bitsI, Option.some.injEq, Prod.mk.injEq, Option.map_some, true_and, Option.map_none, reduceCtorEq, ne_eq, not_true_eq_false] at h hs hs'
  case quo => obtain ⟨h0, rfl⟩ := h; have h0' : b ≠ 0 := by simpa using h0
              exact ⟨_, by simp only [binOp, ne_eq, not_true_eq_false, if_false, Op.intDiv, h0']; rfl, ofNum_R _ _⟩
  case rem => obtain ⟨h0, rfl⟩ := h; have h0' : b ≠ 0 := by simpa using h0
              exact ⟨_, by simp only [binOp, ne_eq, not_true_eq_false, if_false, Op.intDiv, h0']; rfl, ofNum_R _ _⟩
  all_goals subst h; exact ⟨_, by simp only [binOp, ne_eq, not_true_eq_false, if_false, Op.intArith, Op.intBits, Op.intCmp]; rfl, by first | exact ofNum_R _ _ | rfl⟩

/-- Shifts. -/
def numShift (op : BinOp) (k : IntKind) (a b : Int) : Option (Bool × SC) :=
  match op with
  | .shl => some (decide (0 ≤ b), ofNum k (k.wrap (a * 2 ^ (min b.toNat k.bits))))
  | .shr => some (decide (0 ≤ b), ofNum k (a.fdiv (2 ^ (min b.toNat k.bits))))
  | _ => none
theorem numShift_run {ρ : Ren} {P : Program} (w : World) {op : BinOp} {k k' : IntKind} {a b : Int} {r : SC} (t : TypeId)
    (h : numShift op k a b = some (true, r)) : ∃ v, (binOp op t (.int k a) (.int k' b)).run P w = .ok v w ∧ r.R ρ v := by
  cases op <;> simp only [numShift, Option.some.injEq, Prod.mk.injEq, reduceCtorEq, decide_eq_true_eq] at h
  all_goals
    obtain ⟨h0, rfl⟩ := h
    have h0' : ¬ b < 0 := by omega
    exact ⟨_, by simp only [binOp, Op.shift, h0', if_false]; rfl, ofNum_R _ _⟩

theorem wrap_u64_nat (n : Nat) : IntKind.u64.wrap (n : Int) = ((n % 2 ^ 64 : Nat) : Int) := by
  simp [IntKind.wrap, IntKind.bits, IntKind.signed]
theorem wrap_u8_nat (n : Nat) : IntKind.u8.wrap (n : Int) = ((n % 2 ^ 8 : Nat) : Int) := by
  simp [IntKind.wrap, IntKind.bits, IntKind.signed]
theorem wrap_u64_eq (n : Int) : IntKind.u64.wrap n = n % 2 ^ 64 := by
  simp [IntKind.wrap, IntKind.bits, IntKind.signed]
theorem wrap_u8_eq (n : Int) : IntKind.u8.wrap n = n % 2 ^ 8 := by
  simp [IntKind.wrap, IntKind.bits, IntKind.signed]

/-- Operations on words. -/
def wordBin (op : BinOp) (x y : UInt64) : Option (Bool × SC) :=
  match op with
  | .add => some (true, .u64 (x + y))
  | .sub => some (true, .u64 (x - y))
  | .mul => some (true, .u64 (x * y))
  | .rem => some (y != 0, .u64 (x % y))
  | .quo => some (y != 0, .u64 (x / y))
  | .and => some (true, .u64 (x &&& y))
  | .or => some (true, .u64 (x ||| y))
  | .xor => some (true, .u64 (x ^^^ y))
  | .eql => some (true, .bool (x == y))
  | .neq => some (true, .bool (x != y))
  | _ => none
def byteBin (op : BinOp) (x y : UInt8) : Option (Bool × SC) :=
  match op with
  | .add => some (true, .u8 (x + y))
  | .sub => some (true, .u8 (x - y))
  | .and => some (true, .u8 (x &&& y))
  | .or => some (true, .u8 (x ||| y))
  | .xor => some (true, .u8 (x ^^^ y))
  | .eql => some (true, .bool (x == y))
  | .neq => some (true, .bool (x != y))
  | .lss => some (true, .bool (decide (x < y)))
  | .geq => some (true, .bool (decide (x ≥ y)))
  | _ => none

theorem u64_toNat_ne (y : UInt64) (h : (y != 0) = true) : ¬ ((y.toNat : Int) = 0) := by
  have : y ≠ 0 := by simpa using h
  have : y.toNat ≠ 0 := fun e => this (UInt64.toNat_inj.1 (by simpa using e))
  omega
theorem div_run {P : Program} {w : World} {op : BinOp} {k : IntKind} {a b : Int} {t : TypeId} (hb : ¬ b = 0) (hop : op = .quo ∨ op = .rem) :
    (binOp op t (.int k a) (.int k b)).run P w = .ok (.int k (match op with | .quo => k.wrap (a.tdiv b) | _ => a.tmod b)) w := by
  rcases hop with rfl | rfl <;> simp only [binOp, ne_eq, not_true_eq_false, if_false, Op.intDiv, hb] <;> rfl

theorem wordBin_run {ρ : Ren} {P : Program} (w : World) {op : BinOp} {x y : UInt64} {r : SC} (t : TypeId)
    (h : wordBin op x y = some (true, r)) : ∃ v, (binOp op t (.int .u64 x.toNat) (.int .u64 y.toNat)).run P w = .ok v w ∧ r.R ρ v := by
  have hx := x.toNat_lt
  have hy := y.toNat_lt
  have bx : BitVec.ofInt 64 (x.toNat : Int) = x.toBitVec := by
    rw [BitVec.ofInt_natCast]; apply BitVec.eq_of_toNat_eq; simp
  have by' : BitVec.ofInt 64 (y.toNat : Int) = y.toBitVec := by
    rw [BitVec.ofInt_natCast]; apply BitVec.eq_of_toNat_eq; simp
  cases op <;> simp only [wordBin, Option.some.injEq, Prod.mk.injEq, true_and, reduceCtorEq] at h
  case add => subst h; exact ⟨_, rfl, by rw [wrap_u64_eq]; simp only [SC.R, UInt64.toNat_add, Value.int.injEq, true_and]; omega⟩
  case sub => subst h; exact ⟨_, rfl, by rw [wrap_u64_eq]; simp only [SC.R, UInt64.toNat_sub, Value.int.injEq, true_and]; omega⟩
  case mul => subst h; exact ⟨_, rfl, by rw [wrap_u64_eq]; simp only [SC.R, UInt64.toNat_mul, Value.int.injEq, true_and]; norm_cast⟩
  case rem => obtain ⟨h0, rfl⟩ := h; exact ⟨_, div_run (u64_toNat_ne y h0) (.inr rfl), by simp only [SC.R, UInt64.toNat_mod, Value.int.injEq, true_and]; rw [Int.tmod_eq_emod_of_nonneg (by omega)]; norm_cast⟩
  case quo =>
    obtain ⟨h0, rfl⟩ := h
    refine ⟨_, div_run (u64_toNat_ne y h0) (.inl rfl), ?_⟩
    have : ((x.toNat : Int).tdiv y.toNat) = ((x.toNat / y.toNat : Nat) : Int) := by simp
    have hd := Nat.div_le_self x.toNat y.toNat
    simp only [SC.R, UInt64.toNat_div, Value.int.injEq, true_and]
    rw [this, wrap_u64_nat, Nat.mod_eq_of_lt (by omega)]
  case eql => subst h; exact ⟨_, rfl, by simp only [SC.R, Value.bool.injEq]; rw [Bool.eq_iff_iff, beq_iff_eq, beq_iff_eq, Int.ofNat_inj, UInt64.toNat_inj]⟩
  case neq => subst h; exact ⟨_, rfl, by simp only [SC.R, Value.bool.injEq]; rw [Bool.eq_iff_iff, bne_iff_ne, bne_iff_ne, ne_eq, ne_eq, Int.ofNat_inj, UInt64.toNat_inj]⟩
  case and =>
    subst h
    refine ⟨.int .u64 (IntKind.u64.wrap ((BitVec.ofInt 64 (x.toNat : Int) &&& BitVec.ofInt 64 (y.toNat : Int)).toNat : Nat)), rfl, ?_⟩
    rw [bx, by', wrap_u64_nat]
    simp only [SC.R, UInt64.toNat_and, BitVec.toNat_and, UInt64.toNat_toBitVec]
    rw [Nat.mod_eq_of_lt (Nat.and_lt_two_pow _ hy)]
  case or =>
    subst h
    refine ⟨.int .u64 (IntKind.u64.wrap ((BitVec.ofInt 64 (x.toNat : Int) ||| BitVec.ofInt 64 (y.toNat : Int)).toNat : Nat)), rfl, ?_⟩
    rw [bx, by', wrap_u64_nat]
    simp only [SC.R, UInt64.toNat_or, BitVec.toNat_or, UInt64.toNat_toBitVec]
    rw [Nat.mod_eq_of_lt (Nat.or_lt_two_pow hx hy)]
  case xor =>
    subst h
    refine ⟨.int .u64 (IntKind.u64.wrap ((BitVec.ofInt 64 (x.toNat : Int) ^^^ BitVec.ofInt 64 (y.toNat : Int)).toNat : Nat)), rfl, ?_⟩
    rw [bx, by', wrap_u64_nat]
    simp only [SC.R, UInt64.toNat_xor, BitVec.toNat_xor, UInt64.toNat_toBitVec]
    rw [Nat.mod_eq_of_lt (Nat.xor_lt_two_pow hx hy)]

theorem byteBin_run {ρ : Ren} {P : Program} (w : World) {op : BinOp} {x y : UInt8} {r : SC} (t : TypeId)
    (h : byteBin op x y = some (true, r)) : ∃ v, (binOp op t (.int .u8 x.toNat) (.int .u8 y.toNat)).run P w = .ok v w ∧ r.R ρ v := by
  have hx := x.toNat_lt
  have hy := y.toNat_lt
  have bx : BitVec.ofInt 8 (x.toNat : Int) = x.toBitVec := by
    rw [BitVec.ofInt_natCast]; apply BitVec.eq_of_toNat_eq; simp
  have by' : BitVec.ofInt 8 (y.toNat : Int) = y.toBitVec := by
    rw [BitVec.ofInt_natCast]; apply BitVec.eq_of_toNat_eq; simp
  cases op <;> simp only [byteBin, Option.some.injEq, Prod.mk.injEq, true_and, reduceCtorEq] at h
  case add => subst h; exact ⟨_, rfl, by rw [wrap_u8_eq]; simp only [SC.R, UInt8.toNat_add, Value.int.injEq, true_and]; omega⟩
  case sub => subst h; exact ⟨_, rfl, by rw [wrap_u8_eq]; simp only [SC.R, UInt8.toNat_sub, Value.int.injEq, true_and]; omega⟩
  case eql => subst h; exact ⟨_, rfl, by simp only [SC.R, Value.bool.injEq]; rw [Bool.eq_iff_iff, beq_iff_eq, beq_iff_eq, Int.ofNat_inj, UInt8.toNat_inj]⟩
  case neq => subst h; exact ⟨_, rfl, by simp only [SC.R, Value.bool.injEq]; rw [Bool.eq_iff_iff, bne_iff_ne, bne_iff_ne, ne_eq, ne_eq, Int.ofNat_inj, UInt8.toNat_inj]⟩
  case lss => subst h; exact ⟨_, rfl, by simp only [SC.R, Value.bool.injEq, decide_eq_decide, UInt8.lt_iff_toNat_lt]; try omega⟩
  case geq => subst h; exact ⟨_, rfl, by simp only [SC.R, Value.bool.injEq, decide_eq_decide, ge_iff_le, UInt8.le_iff_toNat_le]; try omega⟩
  case and =>
    subst h
    refine ⟨.int .u8 (IntKind.u8.wrap ((BitVec.ofInt 8 (x.toNat : Int) &&& BitVec.ofInt 8 (y.toNat : Int)).toNat : Nat)), rfl, ?_⟩
    rw [bx, by', wrap_u8_nat]
    simp only [SC.R, UInt8.toNat_and, BitVec.toNat_and, UInt8.toNat_toBitVec]
    rw [Nat.mod_eq_of_lt (Nat.and_lt_two_pow _ hy)]
  case or =>
    subst h
    refine ⟨.int .u8 (IntKind.u8.wrap ((BitVec.ofInt 8 (x.toNat : Int) ||| BitVec.ofInt 8 (y.toNat : Int)).toNat : Nat)), rfl, ?_⟩
    rw [bx, by', wrap_u8_nat]
    simp only [SC.R, UInt8.toNat_or, BitVec.toNat_or, UInt8.toNat_toBitVec]
    rw [Nat.mod_eq_of_lt (Nat.or_lt_two_pow hx hy)]
  case xor =>
    subst h
    refine ⟨.int .u8 (IntKind.u8.wrap ((BitVec.ofInt 8 (x.toNat : Int) ^^^ BitVec.ofInt 8 (y.toNat : Int)).toNat : Nat)), rfl, ?_⟩
    rw [bx, by', wrap_u8_nat]
    simp only [SC.R, UInt8.toNat_xor, BitVec.toNat_xor, UInt8.toNat_toBitVec]
    rw [Nat.mod_eq_of_lt (Nat.xor_lt_two_pow hx hy)]

/-- A word turned left or right by so many places. -/
def shlW (x : UInt64) (n : Nat) : UInt64 := bif Nat.ble 64 n then 0 else x <<< (UInt64.ofNat n)
def shrW (x : UInt64) (n : Nat) : UInt64 := bif Nat.ble 64 n then 0 else x >>> (UInt64.ofNat n)
def wordShift (op : BinOp) (x : UInt64) (b : Int) : Option (Bool × SC) :=
  match op with
  | .shl => some (decide (0 ≤ b), .u64 (shlW x b.toNat))
  | .shr => some (decide (0 ≤ b), .u64 (shrW x b.toNat))
  | _ => none
theorem shlW_toNat (x : UInt64) (n : Nat) : (shlW x n).toNat = x.toNat * 2 ^ (min n 64) % 2 ^ 64 := by
  unfold shlW
  cases h : Nat.ble 64 n with
  | true =>
    have : 64 ≤ n := Nat.le_of_ble_eq_true h
    rw [Nat.min_eq_right this]; simp
  | false =>
    have : n < 64 := Nat.lt_of_not_le fun hh => by rw [Nat.ble_eq_true_of_le hh] at h; cases h
    have hn : (UInt64.ofNat n).toNat = n := by
      rw [UInt64.toNat_ofNat']; omega
    rw [Nat.min_eq_left (by omega)]
    simp only [cond_false, UInt64.toNat_shiftLeft, hn, Nat.shiftLeft_eq]
    rw [Nat.mod_eq_of_lt this]
theorem shrW_toNat (x : UInt64) (n : Nat) : (shrW x n).toNat = x.toNat / 2 ^ (min n 64) := by
  have hx := x.toNat_lt
  unfold shrW
  cases h : Nat.ble 64 n with
  | true =>
    have : 64 ≤ n := Nat.le_of_ble_eq_true h
    rw [Nat.min_eq_right this]; simp; omega
  | false =>
    have : n < 64 := Nat.lt_of_not_le fun hh => by rw [Nat.ble_eq_true_of_le hh] at h; cases h
    have hn : (UInt64.ofNat n).toNat = n := by
      rw [UInt64.toNat_ofNat']; omega
    rw [Nat.min_eq_left (by omega)]
    simp only [cond_false, UInt64.toNat_shiftRight, hn, Nat.shiftRight_eq_div_pow]
    rw [Nat.mod_eq_of_lt this]
theorem wordShift_run {ρ : Ren} {P : Program} (w : World) {op : BinOp} {k' : IntKind} {x : UInt64} {b : Int} {r : SC} (t : TypeId)
    (h : wordShift op x b = some (true, r)) : ∃ v, (binOp op t (.int .u64 x.toNat) (.int k' b)).run P w = .ok v w ∧ r.R ρ v := by
  cases op <;> simp only [wordShift, Option.some.injEq, Prod.mk.injEq, reduceCtorEq, decide_eq_true_eq] at h
  all_goals
    obtain ⟨h0, rfl⟩ := h
    have h0' : ¬ b < 0 := by omega
    refine ⟨_, by simp [binOp, Op.shift, h0']; rfl, ?_⟩
    simp only [SC.R, Value.int.injEq, true_and, shlW_toNat, shrW_toNat, IntKind.bits]
  · rw [wrap_u64_eq]; norm_cast
  · rw [Int.fdiv_eq_ediv_of_nonneg _ (Int.le_of_lt (Int.pow_pos (by decide)))]; norm_cast

def isBool (P : Program) (t : TypeId) : Bool := match P.underlying t with | some .bool => true | _ => false
def isPtr (P : Program) (t : TypeId) : Bool := match P.underlying t with | some (.pointer _) => true | _ => false
theorem isBool_spec {P : Program} {t : TypeId} (h : isBool P t = true) : P.underlying t = some .bool := by
  unfold isBool at h; split at h <;> simp_all
theorem isPtr_spec {P : Program} {t : TypeId} (h : isPtr P t = true) : ∃ e, P.underlying t = some (.pointer e) := by
  unfold isPtr at h; split at h <;> simp_all

theorem equalIn_bool {P : Program} {t : TypeId} (h : isBool P t = true) (a b : Bool) (w : World) (d : Nat) : (Op.equalIn (d + 1) t (.bool a) (.bool b)).run P w = .ok (a == b) w := by
  simp [Op.equalIn, run_underlying (isBool_spec h)]
theorem equalIn_nil_nil {P : Program} {t : TypeId} (h : isPtr P t = true) (w : World) (d : Nat) : (Op.equalIn (d + 1) t (.pointer none) (.pointer none)).run P w = .ok true w := by
  obtain ⟨e, he⟩ := isPtr_spec h
  simp [Op.equalIn, run_underlying he]
theorem equalIn_ptr_nil {P : Program} {t : TypeId} (h : isPtr P t = true) (a : Addr) (w : World) (d : Nat) : (Op.equalIn (d + 1) t (.pointer (some a)) (.pointer none)).run P w = .ok false w := by
  obtain ⟨e, he⟩ := isPtr_spec h
  simp [Op.equalIn, run_underlying he]
theorem equalIn_nil_ptr {P : Program} {t : TypeId} (h : isPtr P t = true) (a : Addr) (w : World) (d : Nat) : (Op.equalIn (d + 1) t (.pointer none) (.pointer (some a))).run P w = .ok false w := by
  obtain ⟨e, he⟩ := isPtr_spec h
  simp [Op.equalIn, run_underlying he]
theorem eq_bool {P : Program} {t : TypeId} (h : isBool P t = true) (a b : Bool) (w : World) : (Op.equal t (.bool a) (.bool b)).run P w = .ok (a == b) w := equalIn_bool h a b w 9999
theorem eq_nil_nil {P : Program} {t : TypeId} (h : isPtr P t = true) (w : World) : (Op.equal t (.pointer none) (.pointer none)).run P w = .ok true w := equalIn_nil_nil h w 9999
theorem eq_ptr_nil {P : Program} {t : TypeId} (h : isPtr P t = true) (a : Addr) (w : World) : (Op.equal t (.pointer (some a)) (.pointer none)).run P w = .ok false w := equalIn_ptr_nil h a w 9999
theorem eq_nil_ptr {P : Program} {t : TypeId} (h : isPtr P t = true) (a : Addr) (w : World) : (Op.equal t (.pointer none) (.pointer (some a))).run P w = .ok false w := equalIn_nil_ptr h a w 9999

def isSliceT (P : Program) (t : TypeId) : Bool := match P.underlying t with | some (.slice _) => true | _ => false
theorem isSliceT_spec {P : Program} {t : TypeId} (h : isSliceT P t = true) : ∃ e, P.underlying t = some (.slice e) := by
  unfold isSliceT at h; split at h <;> simp_all
/-- Whether a slice is nil. -/
def nilOf : Value → Option Bool
  | .slice none _ _ => some true
  | .slice (some _) _ _ => some false
  | _ => none
theorem equalIn_slice {P : Program} {t : TypeId} (h : isSliceT P t = true) {v : Value} {b : Bool} (hv : nilOf v = some b) (w : World) (d : Nat) : (Op.equalIn (d + 1) t v (.slice none 0 0)).run P w = .ok b w ∧ ∀ (op : BinOp), (binOp .eql t v (.slice none 0 0)) = (do pure (.bool (← Op.equal t v (.slice none 0 0)))) ∧ (binOp .neq t v (.slice none 0 0)) = (do pure (.bool (!(← Op.equal t v (.slice none 0 0))))) := by
  obtain ⟨e, he⟩ := isSliceT_spec h
  unfold nilOf at hv
  split at hv <;> try (cases hv; done)
  · simp only [Option.some.injEq] at hv; subst hv
    exact ⟨by simp [Op.equalIn, run_underlying he], fun _ => ⟨rfl, rfl⟩⟩
  · simp only [Option.some.injEq] at hv; subst hv
    exact ⟨by simp [Op.equalIn, run_underlying he], fun _ => ⟨rfl, rfl⟩⟩

/-- Two nil pointers, a nil one and another, two bools, a row and nil: are they one? -/
def cellEq (P : Program) (t : TypeId) (x y : SC) : Option Bool :=
  match x, y with
  | .bool a, .bool b => if isBool P t then some (a == b) else none
  | .nilp, .nilp => if isPtr P t then some true else none
  | .ptr _ _, .nilp => if isPtr P t then some false else none
  | .nilp, .ptr _ _ => if isPtr P t then some false else none
  | .row _ v, .nils => if isSliceT P t then nilOf v else none
  | _, _ => none
theorem cellEq_run {ρ : Ren} {P : Program} {t : TypeId} {x y : SC} {b : Bool} {u v : Value} (h : cellEq P t x y = some b) (hx : x.R ρ u) (hy : y.R ρ v) (w : World) :
    (Op.equal t u v).run P w = .ok b w ∧ ∀ (op : BinOp), (binOp .eql t u v) = (do pure (.bool (← Op.equal t u v))) ∧ (binOp .neq t u v) = (do pure (.bool (!(← Op.equal t u v)))) := by
  unfold cellEq at h
  split at h
  case h_5 =>
    simp only [Option.ite_none_right_eq_some] at h
    obtain ⟨ht, h⟩ := h
    obtain ⟨rfl, _⟩ := hx
    obtain rfl : v = .slice none 0 0 := hy
    obtain ⟨g1, g2⟩ := equalIn_slice ht h w 9999
    exact ⟨g1, g2⟩
  all_goals simp only [Option.ite_none_right_eq_some, Option.some.injEq, reduceCtorEq] at h
  all_goals obtain ⟨ht, rfl⟩ := h
  all_goals simp only [SC.R] at hx hy
  · subst hx; subst hy; exact ⟨eq_bool ht _ _ _, fun _ => ⟨rfl, rfl⟩⟩
  · subst hx; subst hy; exact ⟨eq_nil_nil ht _, fun _ => ⟨rfl, rfl⟩⟩
  · obtain ⟨l, _, rfl⟩ := hx; subst hy; exact ⟨eq_ptr_nil ht _ _, fun _ => ⟨rfl, rfl⟩⟩
  · obtain ⟨l, _, rfl⟩ := hy; subst hx; exact ⟨eq_nil_ptr ht _ _, fun _ => ⟨rfl, rfl⟩⟩

def shiftCell (op : BinOp) (x : SC) (b : Int) : Option (Bool × SC) :=
  match x with
  | .u64 x => wordShift op x b
  | x => match x.num with | some (k, a) => numShift op k a b | none => none
theorem shiftCell_run {ρ : Ren} {P : Program} (w : World) {op : BinOp} {t : TypeId} {x r : SC} {u : Value} {k' : IntKind} {b : Int}
    (h : shiftCell op x b = some (true, r)) (hx : x.R ρ u) : ∃ z, (binOp op t u (.int k' b)).run P w = .ok z w ∧ r.R ρ z := by
  unfold shiftCell at h
  split at h
  · obtain rfl : u = _ := hx; exact wordShift_run w t h
  · split at h
    · rename_i k a hxn; obtain rfl := SC.num_R hxn hx; exact numShift_run w t h
    · cases h

def strBin (op : BinOp) (a b : List UInt8) : Option (Bool × SC) :=
  match op with
  | .eql => some (true, .bool (a == b))
  | .neq => some (true, .bool (!(a == b)))
  | .add => some (decide (a.length + b.length ≤ 9223372036854775807), .str (a ++ b))
  | _ => none
def eqBin (P : Program) (op : BinOp) (t : TypeId) (x y : SC) : Option (Bool × SC) :=
  match op with
  | .eql => (cellEq P t x y).map fun b => (true, .bool b)
  | .neq => (cellEq P t x y).map fun b => (true, .bool (!b))
  | _ => none
def plainBin (P : Program) (op : BinOp) (t : TypeId) (x y : SC) : Option (Bool × SC) :=
  match x, y with
  | .u64 x, .u64 y => wordBin op x y
  | .u8 x, .u8 y => byteBin op x y
  | .int a, .int b => numBin op .i64 a b
  | .ik k a, .ik k' b => if k = k' then numBin op k a b else none
  | .str a, .str b => strBin op a b
  | x, y => eqBin P op t x y
/-- An operation on two cells. -/
def cellBin (P : Program) (op : BinOp) (t : TypeId) (x y : SC) : Option (Bool × SC) :=
  match op with
  | .shl => match y.num with | none => none | some (_, b) => shiftCell .shl x b
  | .shr => match y.num with | none => none | some (_, b) => shiftCell .shr x b
  | op => plainBin P op t x y

theorem str_toList (s : List UInt8) : (⟨s.toArray⟩ : ByteArray).toList = s := by
  rw [ByteArray.toList_eq]

theorem strBin_run {ρ : Ren} {P : Program} (w : World) {op : BinOp} {t : TypeId} {a b : List UInt8} {r : SC}
    (h : strBin op a b = some (true, r)) : ∃ z, (binOp op t (.string ⟨a.toArray⟩) (.string ⟨b.toArray⟩)).run P w = .ok z w ∧ r.R ρ z := by
  cases op <;> simp only [strBin, Option.some.injEq, Prod.mk.injEq, true_and, reduceCtorEq, decide_eq_true_eq] at h
  case eql => subst h; exact ⟨_, rfl, by simp [SC.R, str_toList]⟩
  case neq => subst h; exact ⟨_, rfl, by simp [SC.R, str_toList]⟩
  case add =>
    obtain ⟨h0, rfl⟩ := h
    have : ¬ (((a.length + b.length : Nat) : Int) > IntKind.i64.max) := by
      simp [IntKind.max, IntKind.signed, IntKind.bits]; omega
    refine ⟨.string (⟨a.toArray⟩ ++ ⟨b.toArray⟩), ?_, ?_⟩
    · simp only [binOp, Op.stringOp, ByteArray.size, List.size_toArray, this, if_false]; rfl
    · simp only [SC.R, Value.string.injEq]
      apply ByteArray.ext
      simp

theorem cellBin_run {ρ : Ren} {P : Program} (w : World) {op : BinOp} {t : TypeId} {x y r : SC} {u v : Value}
    (h : cellBin P op t x y = some (true, r)) (hx : x.R ρ u) (hy : y.R ρ v) : ∃ z, (binOp op t u v).run P w = .ok z w ∧ r.R ρ z := by
  by_cases hs : op = .shl ∨ op = .shr
  · cases hyn : y.num with
    | none => rcases hs with rfl | rfl <;> simp only [cellBin, hyn, reduceCtorEq] at h
    | some kb =>
      obtain ⟨k', b⟩ := kb
      obtain rfl := SC.num_R hyn hy
      rcases hs with rfl | rfl <;> simp only [cellBin, hyn] at h <;> exact shiftCell_run w h hx
  · have hs1 : op ≠ .shl := fun e => hs (.inl e)
    have hs2 : op ≠ .shr := fun e => hs (.inr e)
    have gen : ∀ {x y : SC}, x.R ρ u → y.R ρ v → eqBin P op t x y = some (true, r) → ∃ z, (binOp op t u v).run P w = .ok z w ∧ r.R ρ z := fun {x y} hx hy h => by
      cases hc : cellEq P t x y with
      | none => cases op <;> simp [eqBin, hc] at h
      | some b =>
        obtain ⟨h1, h2⟩ := cellEq_run hc hx hy w
        cases op <;> simp only [eqBin, hc, Option.map_some, Option.some.injEq, Prod.mk.injEq, true_and, reduceCtorEq] at h
        case eql => subst h; exact ⟨.bool b, by rw [(h2 .eql).1]; simp [h1], rfl⟩
        case neq => subst h; exact ⟨.bool !b, by rw [(h2 .eql).2]; simp [h1], rfl⟩
    have h' : plainBin P op t x y = some (true, r) := by
      cases op <;> first | exact absurd rfl hs1 | exact absurd rfl hs2 | exact h
    clear h
    unfold plainBin at h'
    split at h'
    · obtain rfl : u = _ := hx; obtain rfl : v = _ := hy; exact wordBin_run w t h'
    · obtain rfl : u = _ := hx; obtain rfl : v = _ := hy; exact byteBin_run w t h'
    · obtain rfl : u = _ := hx; obtain rfl : v = _ := hy; exact numBin_run w hs1 hs2 t h'
    · simp only [Option.ite_none_right_eq_some] at h'
      obtain ⟨rfl, h'⟩ := h'
      obtain rfl : u = _ := hx; obtain rfl : v = _ := hy; exact numBin_run w hs1 hs2 t h'
    · obtain rfl : u = _ := hx; obtain rfl : v = _ := hy; exact strBin_run w h'
    · exact gen hx hy h'

/-- An operation on one cell. -/
def cellUn (op : UnOp) (x : SC) : Option SC :=
  match op, x with
  | .not, .bool b => some (.bool !b)
  | .neg, .int n => some (.int (IntKind.i64.wrap (0 - n)))
  | .xor, .u64 x => some (.u64 (~~~x))
  | .xor, .int n => some (.int (IntKind.i64.wrap (BitVec.ofInt 64 (-1) ^^^ BitVec.ofInt 64 n).toNat))
  | _, _ => none
theorem cellUn_run {ρ : Ren} {P : Program} (w : World) {op : UnOp} {x r : SC} {u : Value} (h : cellUn op x = some r) (hx : x.R ρ u) :
    ∃ z, (Op.unary op u).run P w = .ok z w ∧ r.R ρ z := by
  unfold cellUn at h
  split at h <;> simp only [Option.some.injEq, reduceCtorEq] at h <;> subst h <;> obtain rfl : u = _ := hx
  · exact ⟨_, rfl, rfl⟩
  · exact ⟨_, rfl, rfl⟩
  · rename_i x
    refine ⟨.int .u64 (IntKind.u64.wrap ((BitVec.ofInt 64 18446744073709551615 ^^^ BitVec.ofInt 64 (x.toNat : Int)).toNat : Nat)), rfl, ?_⟩
    have bx : BitVec.ofInt 64 (x.toNat : Int) = x.toBitVec := by
      rw [BitVec.ofInt_natCast]; apply BitVec.eq_of_toNat_eq; simp
    have b1 : BitVec.ofInt 64 18446744073709551615 = BitVec.allOnes 64 := by decide
    rw [bx, b1, wrap_u64_nat, BitVec.allOnes_xor]
    simp only [SC.R, Value.int.injEq, true_and, Int.ofNat_inj]
    have : (~~~x.toBitVec).toNat < 2 ^ 64 := BitVec.isLt _
    rw [Nat.mod_eq_of_lt this]
    rfl
  · exact ⟨_, rfl, rfl⟩

/-- A conversion between kinds of numbers. -/
def cellConv (k : IntKind) (x : SC) : Option SC :=
  match k, x with
  | .u64, .u64 x => some (.u64 x)
  | .u64, .u8 b => some (.u64 b.toUInt64)
  | .u8, .u8 b => some (.u8 b)
  | .u8, .u64 x => some (.u8 x.toUInt8)
  | .i64, .u8 b => some (.int b.toNat)
  | k, x => match x.num with
    | none => none
    | some (_, n) => match k with
      | .u64 => some (.u64 (UInt64.ofInt n))
      | .u8 => some (.u8 (UInt8.ofInt n))
      | k => some (ofNum k (k.wrap n))
theorem cellConv_run {ρ : Ren} {P : Program} (w : World) {k : IntKind} {x r : SC} {u : Value} {src dst : TypeId} {d : TypeDesc} (hs : P.underlying src = some d) (hd : P.underlying dst = some (.int k))
    (h : cellConv k x = some r) (hx : x.R ρ u) : ∃ z, (convert src dst u).run P w = .ok z w ∧ r.R ρ z := by
  have key : ∀ {k' : IntKind} {n : Int}, u = .int k' n → (convert src dst u).run P w = .ok (.int k (k.wrap n)) w := fun {k' n} hu => by
    subst hu; simp [convert, run_underlying hs, run_underlying hd, Conv.intToInt]
  unfold cellConv at h
  split at h
  · simp only [Option.some.injEq] at h; subst h
    rename_i x; have := x.toNat_lt
    exact ⟨_, key hx, by simp only [SC.R]; rw [wrap_u64_nat, Nat.mod_eq_of_lt (by omega)]⟩
  · simp only [Option.some.injEq] at h; subst h
    rename_i x; have := x.toNat_lt
    exact ⟨_, key hx, by simp only [SC.R]; rw [wrap_u64_nat, Nat.mod_eq_of_lt (by omega)]; simp⟩
  · simp only [Option.some.injEq] at h; subst h
    rename_i x; have := x.toNat_lt
    exact ⟨_, key hx, by simp only [SC.R]; rw [wrap_u8_nat, Nat.mod_eq_of_lt (by omega)]⟩
  · simp only [Option.some.injEq] at h; subst h
    exact ⟨_, key hx, by simp only [SC.R]; rw [wrap_u8_nat]; simp⟩
  · simp only [Option.some.injEq] at h; subst h
    rename_i x; have := x.toNat_lt
    refine ⟨_, key hx, ?_⟩
    simp only [SC.R, IntKind.wrap, IntKind.bits, IntKind.signed]
    simp; omega
  · cases hn : x.num with
    | none => simp [hn] at h
    | some kn =>
      obtain ⟨k', n⟩ := kn
      have hu := SC.num_R hn hx
      simp only [hn] at h
      split at h <;> simp only [Option.some.injEq] at h <;> subst h
      · refine ⟨_, key hu, ?_⟩
        simp only [SC.R, Value.int.injEq, true_and]
        rw [wrap_u64_eq, UInt64.ofInt, UInt64.toNat_ofNat']; omega
      · refine ⟨_, key hu, ?_⟩
        simp only [SC.R, Value.int.injEq, true_and]
        rw [wrap_u8_eq, UInt8.ofInt, UInt8.toNat_ofNat']; omega
      · exact ⟨_, key hu, ofNum_R _ _⟩

end Go.Proofs.YtabiknpgakhkkaaGreat.Sx
end

