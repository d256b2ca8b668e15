/-
  A small symbolic executor over the model: the states (slots and a table of memory blocks) and how they stand to a world. No program is named here.
-/
import Derived.WalkKit
import Derived.KernelRfl
namespace Go.Proofs.Ytkpdkfeklecehaa.Sx
open Go.RowKit
set_option linter.unusedVariables false
set_option linter.unusedSimpArgs false

/-- Two lists of one length, the elements standing to one another. -/
inductive All2 {α β : Type} (R : α → β → Prop) : List α → List β → Prop where
  | nil : All2 R [] []
  | cons {a : α} {b : β} {l : List α} {m : List β} : R a b → All2 R l m → All2 R (a :: l) (b :: m)

theorem forall₂_imp {α β : Type} {R S : α → β → Prop} (h : ∀ a b, R a b → S a b) {l : List α} {m : List β} (hl : All2 R l m) : All2 S l m := by
  induction hl with
  | nil => exact .nil
  | cons hab _ ih => exact .cons (h _ _ hab) ih
theorem All2.length {α β : Type} {R : α → β → Prop} {l : List α} {m : List β} (hl : All2 R l m) : l.length = m.length := by
  induction hl with
  | nil => rfl
  | cons _ _ ih => simp [ih]
theorem All2.get {α β : Type} {R : α → β → Prop} {l : List α} {m : List β} (hl : All2 R l m) : ∀ {i : Nat} {a : α}, l[i]? = some a → ∃ b, m[i]? = some b ∧ R a b := by
  induction hl with
  | nil => intro i a h; simp at h
  | cons hab _ ih =>
    intro i a h
    cases i with
    | zero => simp at h; subst h; exact ⟨_, by simp, hab⟩
    | succ i => simp at h; obtain ⟨b, hb, hr⟩ := ih h; exact ⟨b, by simpa using hb, hr⟩
theorem All2.append {α β : Type} {R : α → β → Prop} {l l' : List α} {m m' : List β} (hl : All2 R l m) (hl' : All2 R l' m') : All2 R (l ++ l') (m ++ m') := by
  induction hl with
  | nil => exact hl'
  | cons hab _ ih => exact .cons hab ih
theorem All2.drop {α β : Type} {R : α → β → Prop} {l : List α} {m : List β} (hl : All2 R l m) : ∀ n, All2 R (l.drop n) (m.drop n) := by
  induction hl with
  | nil => intro n; simp; exact .nil
  | cons hab h ih =>
    intro n
    cases n with
    | zero => exact .cons hab h
    | succ n => exact ih n
theorem All2.take {α β : Type} {R : α → β → Prop} {l : List α} {m : List β} (hl : All2 R l m) : ∀ n, All2 R (l.take n) (m.take n) := by
  induction hl with
  | nil => intro n; simp; exact .nil
  | cons hab h ih =>
    intro n
    cases n with
    | zero => exact .nil
    | succ n => exact .cons hab (ih n)
theorem All2.set {α β : Type} {R : α → β → Prop} {l : List α} {m : List β} (hl : All2 R l m) {a : α} {b : β} (hab : R a b) : ∀ i, All2 R (l.set i a) (m.set i b) := by
  induction hl with
  | nil => intro i; exact .nil
  | cons h1 h2 ih =>
    intro i
    cases i with
    | zero => exact .cons hab h2
    | succ i => exact .cons h1 (ih i)
theorem All2.map {α β γ : Type} {R : α → β → Prop} {f : γ → α} {g : γ → β} (h : ∀ c, R (f c) (g c)) (l : List γ) : All2 R (l.map f) (l.map g) := by
  induction l with
  | nil => exact .nil
  | cons c r ih => exact .cons (h c) ih

/-- A place of a table's key: the block's number in the world, and how many cells it has. -/
structure Loc where
  blk : Nat
  tot : Nat
  lit : Bool
  o0 : Nat

/-- What a key stands for: nothing yet; a nil slice; a block. -/
structure Ren where
  key : Nat → Option (Option Loc)
  row : Value → List UInt8 → Prop
instance : CoeFun Ren fun _ => Nat → Option (Option Loc) := ⟨Ren.key⟩

/-- The value of one cell. -/
inductive SC where
  | int (n : Int)
  | u8 (b : UInt8)
  | u64 (x : UInt64)
  | ik (k : IntKind) (n : Int)
  | bool (b : Bool)
  | str (s : List UInt8)
  | nilp
  | ptr (k off : Nat)
  | nils
  | slc (k off esz len : Nat) (cap : Option Nat)
  | fn (f : Nat) (caps : List (Nat × Nat))
  | raw (v : Value)
  | row (bs : List UInt8) (v : Value)

/-- A value. -/
inductive SV where
  | c (x : SC)
  | agg (cs : List SC)
  | tup (vs : List (SC ⊕ List SC))
  | und

def PtrR (ρ : Ren) (p : Nat × Nat) (v : Value) : Prop := ∃ l, ρ p.1 = some (some l) ∧ v = .pointer (some ⟨l.blk, l.o0 + p.2, none⟩)

def SlcR (ρ : Ren) (k off esz len : Nat) (cap : Option Nat) (v : Value) : Prop :=
  (ρ k = some none ∧ (∃ a : Option Addr, v = .slice a 0 0) ∧ len = 0 ∧ ∀ n, cap = some n → n = 0) ∨
  (∃ l o c, ρ k = some (some l) ∧ v = .slice (some ⟨l.blk, o, none⟩) len c ∧ len ≤ c ∧ (c ≠ 0 → o = l.o0 + off ∧ off + c * esz ≤ l.tot) ∧ ∀ n, cap = some n → c = n)

/-- A slice of so many elements. -/
def RowOf (n : Nat) (v : Value) : Prop := ∃ a c, v = .slice a n c

def SC.R (ρ : Ren) : SC → Value → Prop
  | .int n, v => v = .int .i64 n
  | .u8 b, v => v = .int .u8 b.toNat
  | .u64 x, v => v = .int .u64 x.toNat
  | .ik k n, v => v = .int k n
  | .bool b, v => v = .bool b
  | .str s, v => v = .string ⟨s.toArray⟩
  | .nilp, v => v = .pointer none
  | .ptr k off, v => PtrR ρ (k, off) v
  | .nils, v => v = .slice none 0 0
  | .slc k off esz len cap, v => SlcR ρ k off esz len cap v
  | .fn f caps, v => ∃ vs : List Value, v = .func (.func f) #[] vs.toArray ∧ All2 (PtrR ρ) caps vs
  | .raw x, v => v = x ∧ x.oneCell' = true
  | .row bs x, v => v = x ∧ ρ.row x bs ∧ RowOf bs.length x

def AggR (ρ : Ren) (cs : List SC) (v : Value) : Prop := ∃ vs : List Value, v = .agg vs.toArray ∧ All2 (SC.R ρ) cs vs

def PartR (ρ : Ren) : SC ⊕ List SC → Value → Prop
  | .inl x, v => x.R ρ v
  | .inr cs, v => AggR ρ cs v

def SV.R (ρ : Ren) : SV → Value → Prop
  | .c x, v => x.R ρ v
  | .agg cs, v => AggR ρ cs v
  | .tup ts, v => ∃ vs : List Value, v = .tuple vs.toArray ∧ All2 (PartR ρ) ts vs
  | .und, _ => True

/-- More keys stand for something. -/
structure Le (ρ ρ' : Ren) : Prop where
  key : ∀ k x, ρ k = some x → ρ' k = some x
  row : ∀ v bs, ρ.row v bs → ρ'.row v bs
instance {ρ ρ' : Ren} : CoeFun (Le ρ ρ') fun _ => ∀ k x, ρ k = some x → ρ' k = some x := ⟨Le.key⟩
theorem Le.refl (ρ : Ren) : Le ρ ρ := ⟨fun _ _ h => h, fun _ _ h => h⟩
theorem Le.trans {a b c : Ren} (h : Le a b) (h' : Le b c) : Le a c := ⟨fun k x hk => h' k x (h k x hk), fun v bs hk => h'.row v bs (h.row v bs hk)⟩

theorem PtrR.mono {ρ ρ' : Ren} (h : Le ρ ρ') {p : Nat × Nat} {v : Value} (hp : PtrR ρ p v) : PtrR ρ' p v :=
  let ⟨l, hl, hv⟩ := hp; ⟨l, h _ _ hl, hv⟩
theorem SlcR.mono {ρ ρ' : Ren} (h : Le ρ ρ') {k off esz len : Nat} {cap : Option Nat} {v : Value} (hp : SlcR ρ k off esz len cap v) : SlcR ρ' k off esz len cap v := by
  rcases hp with ⟨h1, h2⟩ | ⟨l, o, c, hl, h2⟩
  · exact .inl ⟨h _ _ h1, h2⟩
  · exact .inr ⟨l, o, c, h _ _ hl, h2⟩
theorem SC.R.mono {ρ ρ' : Ren} (h : Le ρ ρ') {x : SC} {v : Value} (hx : x.R ρ v) : x.R ρ' v := by
  cases x <;> first | exact hx | exact PtrR.mono h hx | exact SlcR.mono h hx | skip
  case fn f caps => obtain ⟨vs, hv, hc⟩ := hx; exact ⟨vs, hv, forall₂_imp (fun _ _ => PtrR.mono h) hc⟩
  case row bs y => exact ⟨hx.1, h.row _ _ hx.2.1, hx.2.2⟩
theorem AggR.mono {ρ ρ' : Ren} (h : Le ρ ρ') {cs : List SC} {v : Value} (hx : AggR ρ cs v) : AggR ρ' cs v := by
  obtain ⟨vs, hv, hc⟩ := hx; exact ⟨vs, hv, forall₂_imp (fun _ _ => SC.R.mono h) hc⟩
theorem SV.R.mono {ρ ρ' : Ren} (h : Le ρ ρ') {x : SV} {v : Value} (hx : x.R ρ v) : x.R ρ' v := by
  cases x with
  | c x => exact SC.R.mono h hx
  | agg cs => exact AggR.mono h hx
  | tup ts =>
    obtain ⟨vs, hv, hc⟩ := hx
    refine ⟨vs, hv, forall₂_imp (fun t v ht => ?_) hc⟩
    cases t with
    | inl x => exact SC.R.mono h ht
    | inr cs => exact AggR.mono h ht
  | und => exact trivial

theorem SC.R.one {ρ : Ren} {x : SC} {v : Value} (h : x.R ρ v) : v.oneCell' = true := by
  cases x <;> simp only [SC.R] at h
  case ptr k off => obtain ⟨l, _, rfl⟩ := h; rfl
  case slc k off esz len cap => rcases h with ⟨_, ⟨_, rfl⟩, _⟩ | ⟨l, o, c, _, rfl, _⟩ <;> rfl
  case fn f caps => obtain ⟨vs, rfl, _⟩ := h; rfl
  case raw y => obtain ⟨rfl, h⟩ := h; exact h
  case row bs y => obtain ⟨rfl, _, _, _, rfl⟩ := h; rfl
  all_goals subst h; rfl

/-- A block of the table: its cells from the first on; their type; whether more cells may follow; whether it may be written. -/
structure Blk where
  cells : List SC
  ty : TypeId
  tail : Bool
  own : Bool

/-- A block of the table holds in a world. -/
def Blk.R (ρ : Ren) (w : World) (b : Blk) : Option Loc → Prop
  | none => b.cells = [] ∧ b.tail = true
  | some l => ∃ (pre vs rest : List Value) (fr : Nat × Nat), w.heap[l.blk]? = some (.cells (pre ++ (vs ++ rest)).toArray b.ty fr) ∧ All2 (SC.R ρ) b.cells vs ∧
      (vs ++ rest).length = l.tot ∧ (b.tail = false → rest = []) ∧ pre.length = l.o0 ∧ (b.own = true → l.o0 = 0 ∧ fr = (0, 0)) ∧ (b.own = false → b.tail = false → l.lit = true ∧ l.o0 = 0 ∧ (fr.1 = fr.2 ∨ l.tot ≤ fr.1))

/-- A table of what may stand at numbers. -/
def get {α : Type} : List (Nat × α) → Nat → Option α
  | [], _ => none
  | (j, b) :: r, k => bif Nat.beq j k then some b else get r k
def set {α : Type} : List (Nat × α) → Nat → α → List (Nat × α)
  | [], k, a => [(k, a)]
  | (j, b) :: r, k, a => bif Nat.beq j k then (k, a) :: r else (j, b) :: set r k a

theorem beq_of_ne {j k : Nat} (h : j ≠ k) : Nat.beq j k = false := by
  cases hb : Nat.beq j k with
  | false => rfl
  | true => exact absurd (Nat.eq_of_beq_eq_true hb) h
theorem beq_self (k : Nat) : Nat.beq k k = true := by simp
theorem get_set_same {α : Type} (l : List (Nat × α)) (k : Nat) (a : α) : get (set l k a) k = some a := by
  induction l with
  | nil => simp [set, get]
  | cons x r ih =>
    obtain ⟨j, b⟩ := x
    by_cases h : j = k
    · subst h; simp [set, get]
    · simp only [set, beq_of_ne h, cond_false, get]; exact ih
theorem get_set_ne {α : Type} (l : List (Nat × α)) {k j : Nat} (a : α) (hne : k ≠ j) : get (set l k a) j = get l j := by
  induction l with
  | nil => simp [set, get, beq_of_ne hne]
  | cons x r ih =>
    obtain ⟨i, b⟩ := x
    by_cases h : i = k
    · subst h; simp [set, get, beq_of_ne hne]
    · simp only [set, beq_of_ne h, cond_false, get]; rw [ih]
theorem get_mem {α : Type} {l : List (Nat × α)} {k : Nat} {a : α} (h : get l k = some a) : (k, a) ∈ l := by
  induction l with
  | nil => simp [get] at h
  | cons x r ih =>
    obtain ⟨j, b⟩ := x
    by_cases hj : j = k
    · subst hj; simp [get] at h; subst h; simp
    · simp only [get, beq_of_ne hj, cond_false] at h; exact List.mem_cons_of_mem _ (ih h)

/-- The table of blocks: 'none': the key is dead. -/
abbrev Tab := List (Nat × Option Blk)
def Tab.blk (T : Tab) (k : Nat) : Option Blk := match get T k with | some (some b) => some b | _ => none
def Tab.has (T : Tab) (k : Nat) : Bool := match get T k with | some _ => true | none => false

/-- What stays the same while a function runs: the world at its entry, below which block number nothing is turned, but for some. -/
structure Cx where
  w0 : World
  B : Nat
  mb : List Nat
  nf : Nat

/-- No key stands for anything. -/
def renNone : Ren := ⟨fun _ => none, fun _ _ => False⟩
/-- Cells in which no key stands. -/
def SC.allk (p : Nat → Bool) : SC → Bool
  | .ptr k _ => p k
  | .slc k _ _ _ _ => p k
  | .fn _ caps => caps.all fun q => p q.1
  | _ => true
def SC.plain : SC → Bool := SC.allk fun _ => false
/-- A block in which a row of bytes stands, from a place on. -/
structure RowB (off : Nat) (b : Blk) (bs : List UInt8) : Prop where
  own : b.own = false
  tail : b.tail = true
  len : b.cells.length = off + bs.length
  cells : b.cells.drop off = bs.map SC.u8
  plain : b.cells.all SC.plain = true
/-- A slice whose bytes are these, in a world. -/
def BytesAt (w : World) (v : Value) (bs : List UInt8) : Prop := ∃ (off : Nat) (b : Blk) (x : Option Loc), RowB off b bs ∧ (∀ ρ, b.R ρ w x) ∧ (∀ (ρ : Ren) (k : Nat), ρ k = some x → (SC.slc k off 1 bs.length none).R ρ v) ∧ ∀ l, x = some l → l.lit = false
theorem BytesAt.rowOf {w : World} {v : Value} {bs : List UInt8} (h : BytesAt w v bs) : RowOf bs.length v := by
  obtain ⟨off, b, x, _, _, hs, _⟩ := h
  rcases hs ⟨fun _ => some x, fun _ _ => False⟩ 0 rfl with ⟨_, ⟨a, rfl⟩, h0, _⟩ | ⟨l, o, c, _, rfl, _⟩
  · rw [h0]; exact ⟨_, _, rfl⟩
  · exact ⟨_, _, rfl⟩
/-- The same, of the world that stays. -/
def BytesOld (X : Cx) (v : Value) (bs : List UInt8) : Prop := ∃ (off : Nat) (b : Blk) (x : Option Loc), RowB off b bs ∧ (∀ ρ, b.R ρ X.w0 x) ∧ (∀ (ρ : Ren) (k : Nat), ρ k = some x → (SC.slc k off 1 bs.length none).R ρ v) ∧ (∀ l, x = some l → l.lit = false) ∧ ∀ l, x = some l → l.blk < X.B ∧ l.blk ∉ X.mb

/-- Keys and their blocks stand to a world. -/
structure RelP (X : Cx) (ρ : Ren) (M : Nat → Blk → Prop) (w : World) : Prop where
  os : w.os = X.w0.os
  tape : w.tape = X.w0.tape
  output : w.output = X.w0.output
  size : X.B ≤ w.heap.size
  size0 : X.w0.heap.size ≤ w.heap.size
  old : ∀ b, b < X.B → b ∉ X.mb → w.heap[b]? = X.w0.heap[b]?
  blk : ∀ k b, M k b → ∃ x, ρ k = some x ∧ b.R ρ w x
  sep : ∀ k b l, M k b → b.own = true → ρ k = some (some l) →
    (X.B ≤ l.blk ∨ l.blk ∈ X.mb) ∧ ∀ k' b' l', k' ≠ k → M k' b' → ρ k' = some (some l') → l'.blk ≠ l.blk
  lit : ∀ k l, ρ k = some (some l) → l.lit = true → X.B ≤ l.blk ∧ l.blk < w.heap.size ∧ ∀ k' b' l', M k' b' → b'.own = true → ρ k' = some (some l') → l'.blk ≠ l.blk
  rows : ∀ v bs, ρ.row v bs → BytesOld X v bs

abbrev Rel (X : Cx) (ρ : Ren) (T : Tab) (w : World) : Prop := RelP X ρ (fun k b => T.blk k = some b) w

structure St where
  tmps : List (Nat × SV)
  tab : Tab
  nk : Nat
  nt : Nat

structure RelA (X : Cx) (ρ : Ren) (st : St) (a : Act) (w : World) : Prop where
  rel : Rel X ρ st.tab w
  tmps : ∀ t v, get st.tmps t = some v → ∃ u, a.tmps[t]? = some u ∧ SV.R ρ v u
  defers : a.defers = []
  fresh : ∀ k, st.nk ≤ k → ρ k = none
  sz : a.tmps.size = st.nt

/-- A block of which no more than the mark behind its end is another one. -/
def Marked (w w' : World) (j : Nat) : Prop := ∃ cs ty fr fr', w.heap[j]? = some (.cells cs ty fr) ∧ w'.heap[j]? = some (.cells cs ty fr') ∧ ((fr.1 = fr.2 ∨ cs.size ≤ fr.1) → (fr'.1 = fr'.2 ∨ cs.size ≤ fr'.1))

/-- New blocks under new keys. -/
structure New (ρ ρ' : Ren) (E : List (Nat × Blk)) (w w' : World) : Prop where
  os : w'.os = w.os
  tape : w'.tape = w.tape
  output : w'.output = w.output
  size : w.heap.size ≤ w'.heap.size
  block : ∀ j, j < w.heap.size → w'.heap[j]? = w.heap[j]? ∨ ((∃ k l, ρ k = some (some l) ∧ l.lit = true ∧ l.blk = j) ∧ Marked w w' j)
  le : Le ρ ρ'
  only : ∀ k, (∀ b, (k, b) ∉ E) → ρ' k = ρ k
  blk : ∀ k b, (k, b) ∈ E → ∃ x, ρ' k = some x ∧ b.R ρ' w' x ∧ ∀ l, x = some l → w.heap.size ≤ l.blk
  sep : ∀ k b k' b' l l', (k, b) ∈ E → (k', b') ∈ E → k ≠ k' → ρ' k = some (some l) → ρ' k' = some (some l') → l.blk ≠ l'.blk
  lit : ∀ k b l, (k, b) ∈ E → ρ' k = some (some l) → l.lit = true → b.own = false
  row : ρ'.row = ρ.row

theorem New.of {ρ ρ' : Ren} {E : List (Nat × Blk)} {w w' : World} (below : Below w.heap.size w w') (le : Le ρ ρ') (only : ∀ k, (∀ b, (k, b) ∉ E) → ρ' k = ρ k) (blk : ∀ k b, (k, b) ∈ E → ∃ x, ρ' k = some x ∧ b.R ρ' w' x ∧ ∀ l, x = some l → w.heap.size ≤ l.blk)
    (sep : ∀ k b k' b' l l', (k, b) ∈ E → (k', b') ∈ E → k ≠ k' → ρ' k = some (some l) → ρ' k' = some (some l') → l.blk ≠ l'.blk) (lit : ∀ k b l, (k, b) ∈ E → ρ' k = some (some l) → l.lit = true → b.own = false) (row : ρ'.row = ρ.row) : New ρ ρ' E w w' :=
  ⟨below.os, below.tape, below.output, below.size, fun j hj => .inl (below.block j hj), le, only, blk, sep, lit, row⟩

def addAll (T : Tab) : List (Nat × Blk) → Tab
  | [] => T
  | (k, b) :: r => addAll ((k, some b) :: T) r

theorem New.refl (ρ : Ren) (w : World) : New ρ ρ [] w w :=
  New.of (Below.refl _ _) (Le.refl _) (fun _ _ => rfl) (fun _ _ h => (by simp at h)) (fun _ _ _ _ _ _ h => (by simp at h)) (fun _ _ _ h => (by simp at h)) rfl

/-- A block that stands below what has been turned stands still. -/
theorem Blk.R.keep {ρ ρ' : Ren} {w w' : World} {b : Blk} {x : Option Loc} (hle : Le ρ ρ') (h : b.R ρ w x) (hw : ∀ l, x = some l → w'.heap[l.blk]? = w.heap[l.blk]?) : b.R ρ' w' x := by
  cases x with
  | none => exact h
  | some l =>
    obtain ⟨pre, vs, rest, fr, h1, h2, h3⟩ := h
    exact ⟨pre, vs, rest, fr, (hw l rfl).trans h1, forall₂_imp (fun _ _ => SC.R.mono hle) h2, h3⟩

theorem Blk.R.marked {ρ ρ' : Ren} {w w' : World} {b : Blk} {l : Loc} (hle : Le ρ ρ') (h : b.R ρ w (some l)) (ho : b.own = false) (hm : Marked w w' l.blk) : b.R ρ' w' (some l) := by
  obtain ⟨pre, vs, rest, fr, h1, h2, h3, h4, h5, h6, h7⟩ := h
  obtain ⟨cs, ty, f1, f2, g1, g2, g4⟩ := hm
  rw [h1] at g1
  simp only [Option.some.injEq, Obj.cells.injEq] at g1
  obtain ⟨rfl, rfl, rfl⟩ := g1
  refine ⟨pre, vs, rest, f2, g2, forall₂_imp (fun _ _ => SC.R.mono hle) h2, h3, h4, h5, fun h => (by rw [ho] at h; cases h), fun a b => ⟨(h7 a b).1, (h7 a b).2.1, ?_⟩⟩
  have hs : (pre ++ (vs ++ rest)).toArray.size = l.tot := by
    have := (h7 a b).2.1
    simp only [List.size_toArray, List.length_append] at h3 ⊢
    omega
  rw [hs] at g4
  exact g4 (h7 a b).2.2

theorem Blk.R.lt {ρ : Ren} {w : World} {b : Blk} {l : Loc} (h : b.R ρ w (some l)) : l.blk < w.heap.size := by
  obtain ⟨pre, vs, rest, fr, h1, _⟩ := h
  exact (Array.getElem?_eq_some_iff.1 h1).1

theorem blk_cons (T : Tab) (k : Nat) (b : Option Blk) (j : Nat) : Tab.blk ((k, b) :: T) j = if k = j then b else Tab.blk T j := by
  by_cases h : k = j
  · subst h; cases b <;> simp [Tab.blk, get]
  · simp [Tab.blk, get, beq_of_ne h, h]
theorem has_cons (T : Tab) (k : Nat) (b : Option Blk) (j : Nat) : Tab.has ((k, b) :: T) j = (decide (k = j) || Tab.has T j) := by
  by_cases h : k = j
  · subst h; simp [Tab.has, get]
  · simp [Tab.has, get, beq_of_ne h, h]
theorem blk_addAll {E : List (Nat × Blk)} : ∀ {T : Tab} {k : Nat} {b : Blk}, (addAll T E).blk k = some b → (k, b) ∈ E ∨ ((∀ b', (k, b') ∉ E) ∧ T.blk k = some b) := by
  induction E with
  | nil => intro T k b h; exact .inr ⟨fun _ h => by simp at h, h⟩
  | cons x r ih =>
    obtain ⟨j, c⟩ := x
    intro T k b h
    rcases ih h with h | ⟨h, h'⟩
    · exact .inl (List.mem_cons_of_mem _ h)
    · rw [blk_cons] at h'
      by_cases hj : j = k
      · rw [if_pos hj] at h'; cases h'; subst hj; exact .inl (by simp)
      · rw [if_neg hj] at h'
        exact .inr ⟨fun b' hb => by rcases List.mem_cons.1 hb with hb | hb; (cases hb; exact hj rfl); exact h b' hb, h'⟩
theorem has_addAll {E : List (Nat × Blk)} : ∀ {T : Tab} {k : Nat}, (addAll T E).has k = false → (∀ b', (k, b') ∉ E) ∧ T.has k = false := by
  induction E with
  | nil => intro T k h; exact ⟨fun _ h => by simp at h, h⟩
  | cons x r ih =>
    obtain ⟨j, c⟩ := x
    intro T k h
    obtain ⟨h, h'⟩ := ih h
    rw [has_cons] at h'
    simp at h'
    exact ⟨fun b' hb => by rcases List.mem_cons.1 hb with hb | hb; (cases hb; exact h'.1 rfl); exact h b' hb, h'.2⟩
theorem has_addAll_of {E : List (Nat × Blk)} : ∀ {T : Tab} {k : Nat}, (∀ b', (k, b') ∉ E) → T.has k = false → (addAll T E).has k = false := by
  induction E with
  | nil => intro T k _ h; exact h
  | cons x r ih =>
    obtain ⟨j, c⟩ := x
    intro T k h h'
    refine ih (fun b' hb => h b' (List.mem_cons_of_mem _ hb)) ?_
    rw [has_cons]
    have : j ≠ k := fun e => by subst e; exact h c (by simp)
    simp [this, h']

theorem RelP.lt {X : Cx} {ρ : Ren} {M : Nat → Blk → Prop} {w : World} (h : RelP X ρ M w) {k : Nat} {b : Blk} {l : Loc} (hk : M k b) (hl : ρ k = some (some l)) : l.blk < w.heap.size := by
  obtain ⟨x, hx, hb⟩ := h.blk k b hk
  rw [hl] at hx; cases hx
  exact hb.lt

/-- New blocks: the keys with them stand to the world with them. -/
theorem RelP.new {X : Cx} {ρ ρ' : Ren} {M : Nat → Blk → Prop} {E : List (Nat × Blk)} {w w' : World} (h : RelP X ρ M w) (hn : New ρ ρ' E w w') : RelP X ρ' (fun k b => (k, b) ∈ E ∨ M k b) w' where
  os := hn.os.trans h.os
  tape := hn.tape.trans h.tape
  output := hn.output.trans h.output
  size := Nat.le_trans h.size hn.size
  size0 := Nat.le_trans h.size0 hn.size
  old := fun b hb hm => by
    rcases hn.block b (Nat.lt_of_lt_of_le hb h.size) with h1 | ⟨⟨k, l, hk, hl, rfl⟩, _⟩
    · exact h1.trans (h.old b hb hm)
    · have := (h.lit k l hk hl).1; omega
  blk := fun k b hk => by
    rcases hk with hk | hk
    · obtain ⟨x, hx, hb, _⟩ := hn.blk k b hk; exact ⟨x, hx, hb⟩
    · obtain ⟨x, hx, hb⟩ := h.blk k b hk
      refine ⟨x, hn.le _ _ hx, ?_⟩
      cases x with
      | none => exact hb
      | some l =>
        rcases hn.block _ (h.lt hk hx) with h1 | ⟨⟨k', l', hk', hl', he⟩, hm⟩
        · exact hb.keep hn.le fun l2 hl2 => by cases hl2; exact h1
        · refine hb.marked hn.le ?_ hm
          cases ho : b.own with
          | false => rfl
          | true => exact absurd he.symm ((h.lit k' l' hk' hl').2.2 k b l hk ho hx)
  rows := fun v bs hr => h.rows v bs (by rw [← hn.row]; exact hr)
  lit := fun k l hl hlit => by
    by_cases hkE : ∃ b, (k, b) ∈ E
    · obtain ⟨b, hb⟩ := hkE
      obtain ⟨x, hx, hbR, hs⟩ := hn.blk k b hb
      rw [hl] at hx; cases hx
      have hge := hs l rfl
      refine ⟨Nat.le_trans h.size hge, hbR.lt, fun k' b' l' hk' ho' hl' => ?_⟩
      rcases hk' with hk' | hk'
      · by_cases hkk : k = k'
        · subst hkk; rw [hn.lit k b' l hk' hl hlit] at ho'; cases ho'
        · exact fun e => hn.sep k b k' b' l l' hb hk' hkk hl hl' e.symm
      · obtain ⟨x, hx, hb2⟩ := h.blk k' b' hk'
        have hx' := hn.le _ _ hx
        rw [hl'] at hx'; cases hx'
        have := h.lt hk' hx
        omega
    · have hk0 : ρ k = some (some l) := by rw [← hn.only k (fun b hb => hkE ⟨b, hb⟩)]; exact hl
      obtain ⟨g1, g2, g3⟩ := h.lit k l hk0 hlit
      refine ⟨g1, Nat.lt_of_lt_of_le g2 hn.size, fun k' b' l' hk' ho' hl' => ?_⟩
      rcases hk' with hk' | hk'
      · obtain ⟨x, hx, hbR, hs⟩ := hn.blk k' b' hk'
        rw [hl'] at hx; cases hx
        have := hs l' rfl
        omega
      · obtain ⟨x, hx, hb2⟩ := h.blk k' b' hk'
        have hx' := hn.le _ _ hx
        rw [hl'] at hx'; cases hx'
        exact g3 k' b' l' hk' ho' hx
  sep := fun k b l hk ho hl => by
    have key : ∀ {k b l}, ((k, b) ∈ E ∨ M k b) → ρ' k = some (some l) → ((k, b) ∈ E ∧ w.heap.size ≤ l.blk) ∨ (M k b ∧ ρ k = some (some l) ∧ l.blk < w.heap.size) := fun {k b l} hk hl => by
      rcases hk with hk | hk
      · obtain ⟨x, hx, hb, hs⟩ := hn.blk k b hk
        rw [hl] at hx; cases hx
        exact .inl ⟨hk, hs l rfl⟩
      · obtain ⟨x, hx, hb⟩ := h.blk k b hk
        have hx' := hn.le _ _ hx
        rw [hl] at hx'; cases hx'
        exact .inr ⟨hk, hx, h.lt hk hx⟩
    rcases key hk hl with ⟨hkE, hge⟩ | ⟨hkT, hlT, hlt⟩
    · refine ⟨.inl (Nat.le_trans h.size hge), fun k' b' l' hne hk' hl' => ?_⟩
      rcases key hk' hl' with ⟨hkE', hge'⟩ | ⟨hkT', hlT', hlt'⟩
      · exact hn.sep k' b' k b l' l hkE' hkE hne hl' hl
      · exact fun e => by omega
    · obtain ⟨h1, h2⟩ := h.sep k b l hkT ho hlT
      refine ⟨h1, fun k' b' l' hne hk' hl' => ?_⟩
      rcases key hk' hl' with ⟨hkE', hge'⟩ | ⟨hkT', hlT', hlt'⟩
      · exact fun e => by omega
      · exact h2 k' b' l' hne hkT' hlT'

theorem RelP.sub {X : Cx} {ρ : Ren} {M M' : Nat → Blk → Prop} {w : World} (h : RelP X ρ M w) (hs : ∀ k b, M' k b → M k b) : RelP X ρ M' w :=
  ⟨h.os, h.tape, h.output, h.size, h.size0, h.old, fun k b hk => h.blk k b (hs k b hk), fun k b l hk ho hl =>
    let ⟨h1, h2⟩ := h.sep k b l (hs k b hk) ho hl; ⟨h1, fun k' b' l' hne hk' hl' => h2 k' b' l' hne (hs k' b' hk') hl'⟩,
    fun k l hk hl => let ⟨h1, h2, h3⟩ := h.lit k l hk hl; ⟨h1, h2, fun k' b' l' hk' => h3 k' b' l' (hs k' b' hk')⟩, h.rows⟩

theorem Rel.new {X : Cx} {ρ ρ' : Ren} {T : Tab} {E : List (Nat × Blk)} {w w' : World} (h : Rel X ρ T w) (hn : New ρ ρ' E w w') : Rel X ρ' (addAll T E) w' :=
  (RelP.new h hn).sub fun k b hk => by rcases blk_addAll hk with h | h; exact .inl h; exact .inr h.2

/-- A part of a table. -/
theorem RelP.draw {X : Cx} {ρ : Ren} {M : Nat → Blk → Prop} {w : World} (h : RelP X ρ M w) : RelP X ρ M { w with drawn := w.drawn + 1 } :=
  ⟨h.os, h.tape, h.output, h.size, h.size0, h.old, fun k b hk => let ⟨x, hx, hb⟩ := h.blk k b hk; ⟨x, hx, hb.keep (Le.refl _) fun _ _ => rfl⟩, h.sep, h.lit, h.rows⟩

theorem blk_set_same (T : Tab) (k : Nat) (b : Option Blk) : Tab.blk (set T k b) k = b := by
  unfold Tab.blk; rw [get_set_same]; cases b <;> rfl
theorem blk_set_ne (T : Tab) {k j : Nat} (b : Option Blk) (h : k ≠ j) : Tab.blk (set T k b) j = Tab.blk T j := by
  unfold Tab.blk; rw [get_set_ne _ _ h]

end Go.Proofs.Ytkpdkfeklecehaa.Sx
