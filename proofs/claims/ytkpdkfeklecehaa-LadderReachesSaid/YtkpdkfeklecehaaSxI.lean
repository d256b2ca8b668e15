/-
  Proofs over loops: a state that is put in another's place; rounds; a function's contract.
-/
import Derived.Test.YtkpdkfeklecehaaSxH
import Derived.LoopN
namespace Go.Proofs.Ytkpdkfeklecehaa.Sx
open Go.RowKit
set_option linter.unusedVariables false
set_option linter.unusedSimpArgs false

/-- The first keys stand for what they stood for. -/
def Agree (n : Nat) (ρ ρ' : Ren) : Prop := ∀ k, k < n → ∀ x, ρ k = some x → ρ' k = some x
theorem Agree.refl (n : Nat) (ρ : Ren) : Agree n ρ ρ := fun _ _ _ h => h
theorem Agree.trans {n : Nat} {a b c : Ren} (h : Agree n a b) (h' : Agree n b c) : Agree n a c := fun k hk x hx => h' k hk x (h k hk x hx)
theorem Le.agree {n : Nat} {ρ ρ' : Ren} (h : Le ρ ρ') : Agree n ρ ρ' := fun k _ x hx => h k x hx

/-! Keys put in other keys' place. -/
def rk (π : List (Nat × Nat)) (k : Nat) : Nat := match get π k with | some j => j | none => k
def SC.ren (π : List (Nat × Nat)) : SC → SC
  | .ptr k off => .ptr (rk π k) off
  | .slc k off esz len cap => .slc (rk π k) off esz len cap
  | .fn f caps => .fn f (caps.map fun p => (rk π p.1, p.2))
  | x => x
def SC.below (n : Nat) : SC → Bool
  | .ptr k _ => Nat.blt k n
  | .slc k _ _ _ _ => Nat.blt k n
  | .fn _ caps => caps.all fun p => Nat.blt p.1 n
  | _ => true
def SV.ren (π : List (Nat × Nat)) : SV → SV
  | .c x => .c (x.ren π)
  | .agg cs => .agg (cs.map (SC.ren π))
  | .tup vs => .tup (vs.map fun | .inl x => .inl (x.ren π) | .inr cs => .inr (cs.map (SC.ren π)))
  | .und => .und
def SV.below (n : Nat) : SV → Bool
  | .c x => x.below n
  | .agg cs => cs.all (SC.below n)
  | .tup vs => vs.all fun | .inl x => x.below n | .inr cs => cs.all (SC.below n)
  | .und => true

/-- The keys below n, some of them for others. -/
def shiftR (π : List (Nat × Nat)) (n : Nat) (ρ : Ren) : Ren := ⟨fun k => if k < n then ρ (rk π k) else none, ρ.row⟩

theorem PtrR.shift {π : List (Nat × Nat)} {n : Nat} {ρ : Ren} {p : Nat × Nat} {v : Value} (h : PtrR ρ (rk π p.1, p.2) v) (hb : Nat.blt p.1 n = true) : PtrR (shiftR π n ρ) p v := by
  obtain ⟨l, hl, hv⟩ := h
  exact ⟨l, by simp only [shiftR]; rw [if_pos (by simpa [Nat.blt_eq] using hb)]; exact hl, hv⟩
theorem SC.R.shift {π : List (Nat × Nat)} {n : Nat} {ρ : Ren} {x : SC} {v : Value} (h : (x.ren π).R ρ v) (hb : x.below n = true) : x.R (shiftR π n ρ) v := by
  cases x <;> try exact h
  case ptr k off => exact PtrR.shift h hb
  case slc k off esz len cap =>
    have hk : shiftR π n ρ k = ρ (rk π k) := by simp only [shiftR]; rw [if_pos (by simpa [SC.below, Nat.blt_eq] using hb)]
    rcases h with ⟨h1, h2⟩ | ⟨l, o, c, h1, h2⟩
    · exact .inl ⟨hk.trans h1, h2⟩
    · exact .inr ⟨l, o, c, hk.trans h1, h2⟩
  case fn f caps =>
    obtain ⟨vs, hv, hc⟩ := h
    refine ⟨vs, hv, ?_⟩
    simp only [SC.below] at hb
    clear hv
    have : ∀ (caps : List (Nat × Nat)) (vs : List Value), caps.all (fun p => Nat.blt p.1 n) = true → All2 (PtrR ρ) (caps.map fun p => (rk π p.1, p.2)) vs → All2 (PtrR (shiftR π n ρ)) caps vs := by
      intro caps
      induction caps with
      | nil => intro vs _ h; cases h; exact .nil
      | cons p caps ih =>
        intro vs hb h
        cases h with
        | cons h1 h2 =>
          simp only [List.all_cons, Bool.and_eq_true] at hb
          exact .cons (PtrR.shift h1 hb.1) (ih _ hb.2 h2)
    exact this caps vs hb hc
theorem cells_shift {π : List (Nat × Nat)} {n : Nat} {ρ : Ren} : ∀ {cs : List SC} {vs : List Value}, All2 (SC.R ρ) (cs.map (SC.ren π)) vs → cs.all (SC.below n) = true → All2 (SC.R (shiftR π n ρ)) cs vs
  | [], vs, h, _ => by cases h; exact .nil
  | x :: cs, vs, h, hb => by
    cases h with
    | cons h1 h2 =>
      simp only [List.all_cons, Bool.and_eq_true] at hb
      exact .cons (SC.R.shift h1 hb.1) (cells_shift h2 hb.2)
theorem SV.R.shift {π : List (Nat × Nat)} {n : Nat} {ρ : Ren} {x : SV} {v : Value} (h : (x.ren π).R ρ v) (hb : x.below n = true) : x.R (shiftR π n ρ) v := by
  cases x with
  | c x => exact SC.R.shift h hb
  | agg cs => obtain ⟨vs, hv, hc⟩ := h; exact ⟨vs, hv, cells_shift hc hb⟩
  | tup ts =>
    obtain ⟨vs, hv, hc⟩ := h
    refine ⟨vs, hv, ?_⟩
    simp only [SV.below] at hb
    clear hv
    revert vs
    induction ts with
    | nil => intro vs h; cases h; exact .nil
    | cons t ts ih =>
      intro vs h
      simp only [List.map_cons] at h
      cases h with
      | cons h1 h2 =>
        simp only [List.all_cons, Bool.and_eq_true] at hb
        refine .cons ?_ (ih hb.2 _ h2)
        cases t with
        | inl x => exact SC.R.shift h1 hb.1
        | inr cs => obtain ⟨us, hu, hc⟩ := h1; exact ⟨us, hu, cells_shift hc hb.1⟩
  | und => exact trivial

/-- A state that another one may stand for, under other keys: what must hold of slots and of blocks. -/
structure Shift (nf : Nat) (π : List (Nat × Nat)) (s t : St) : Prop where
  tmps : ∀ i v, get t.tmps i = some v → get s.tmps i = some (v.ren π) ∧ v.below t.nk = true
  tab : ∀ k b, t.tab.blk k = some b → k < t.nk ∧ b.cells.all (SC.below t.nk) = true ∧ ∃ b', s.tab.blk (rk π k) = some b' ∧ b'.cells = b.cells.map (SC.ren π) ∧ b'.ty = b.ty ∧ (b.tail = false → b'.tail = false) ∧ (b'.tail = true → b.tail = true) ∧ b'.own = b.own
  inj : ∀ k k' b b', t.tab.blk k = some b → t.tab.blk k' = some b' → rk π k = rk π k' → k = k'
  fixed : ∀ k, k < nf → rk π k = k
  nf : nf ≤ t.nk
  nt : s.nt = t.nt

theorem RelA.shift {X : Cx} {ρ : Ren} {s t : St} {a : Act} {w : World} {π : List (Nat × Nat)} (h : RelA X ρ s a w) (hs : Shift X.nf π s t) : Agree X.nf ρ (shiftR π t.nk ρ) ∧ RelA X (shiftR π t.nk ρ) t a w := by
  have hk : ∀ k, k < t.nk → shiftR π t.nk ρ k = ρ (rk π k) := fun k hk => by simp only [shiftR]; rw [if_pos hk]
  refine ⟨fun k hkn x hx => ?_, ⟨⟨h.rel.os, h.rel.tape, h.rel.output, h.rel.size, h.rel.size0, h.rel.old, fun k b hb => ?_, fun k b l hb ho hl => ?_, fun k l hl hlit => ?_, h.rel.rows⟩, fun i v hv => ?_, h.defers, fun k hkn => ?_, h.sz.trans hs.nt⟩⟩
  · rw [hk k (Nat.lt_of_lt_of_le hkn hs.nf), hs.fixed k hkn]; exact hx
  · obtain ⟨h1, h2, b', h3, h4, h5, h6, h7, h8⟩ := hs.tab k b hb
    obtain ⟨x, hx, hbR⟩ := h.rel.blk _ _ h3
    refine ⟨x, (hk k h1).trans hx, ?_⟩
    cases x with
    | none =>
      obtain ⟨g1, g2⟩ := hbR
      refine ⟨?_, h7 g2⟩
      rw [h4] at g1
      simpa using g1
    | some l =>
      obtain ⟨pre, vs, rest, fr, g1, g2, g3, g4, g5⟩ := hbR
      rw [h4] at g2
      exact ⟨pre, vs, rest, fr, by rw [← h5]; exact g1, cells_shift g2 h2, g3, fun ht => g4 (h6 ht), g5.1, fun ho => g5.2.1 (h8.trans ho), fun ho ht => g5.2.2 (h8.trans ho) (h6 ht)⟩
  · obtain ⟨h1, h2, b', h3, h4, h5, h6, h7, h8⟩ := hs.tab k b hb
    rw [hk k h1] at hl
    obtain ⟨g1, g2⟩ := h.rel.sep _ _ _ h3 (h8.trans ho) hl
    refine ⟨g1, fun k2 b2 l2 hne hb2 hl2 => ?_⟩
    obtain ⟨h1', _, b2', h3', _⟩ := hs.tab k2 b2 hb2
    rw [hk k2 h1'] at hl2
    exact g2 _ _ _ (fun e => hne (hs.inj _ _ _ _ hb2 hb e)) h3' hl2
  · have hl0 : ∃ k0, ρ k0 = some (some l) := by
      simp only [shiftR] at hl
      by_cases hkn : k < t.nk
      · rw [if_pos hkn] at hl; exact ⟨_, hl⟩
      · rw [if_neg hkn] at hl; cases hl
    obtain ⟨k0, hk0⟩ := hl0
    obtain ⟨g1, g2, g3⟩ := h.rel.lit k0 l hk0 hlit
    refine ⟨g1, g2, fun k2 b2 l2 hb2 ho2 hl2 => ?_⟩
    obtain ⟨h1', _, b2', h3', _, _, _, _, h8'⟩ := hs.tab k2 b2 hb2
    rw [hk k2 h1'] at hl2
    exact g3 _ _ _ h3' (h8'.trans ho2) hl2
  · obtain ⟨h1, h2⟩ := hs.tmps i v hv
    obtain ⟨u, hu, hr⟩ := h.tmps i _ h1
    exact ⟨u, hu, SV.R.shift hr h2⟩
  · simp only [shiftR]; rw [if_neg (by omega)]

/-! A state cut down to what is still asked for. -/
def SV.allk (p : Nat → Bool) : SV → Bool
  | .c x => x.allk p
  | .agg cs => cs.all (SC.allk p)
  | .tup vs => vs.all fun | .inl x => x.allk p | .inr cs => cs.all (SC.allk p)
  | .und => true

theorem SC.ren_of {σ π : List (Nat × Nat)} {n : Nat} {x : SC} (h : x.allk (fun k => Nat.beq (rk π (rk σ k)) k && Nat.blt (rk σ k) n) = true) : (x.ren σ).ren π = x ∧ (x.ren σ).below n = true := by
  cases x <;> try exact ⟨rfl, rfl⟩
  case ptr k off =>
    simp only [SC.allk, Bool.and_eq_true] at h
    exact ⟨by simp only [SC.ren, Nat.eq_of_beq_eq_true h.1], h.2⟩
  case slc k off esz len cap =>
    simp only [SC.allk, Bool.and_eq_true] at h
    exact ⟨by simp only [SC.ren, Nat.eq_of_beq_eq_true h.1], h.2⟩
  case fn f caps =>
    simp only [SC.allk] at h
    simp only [SC.ren, SC.below, SC.fn.injEq, true_and, List.map_map, List.all_map]
    induction caps with
    | nil => exact ⟨rfl, rfl⟩
    | cons q caps ih =>
      simp only [List.all_cons, Bool.and_eq_true] at h
      obtain ⟨i1, i2⟩ := ih h.2
      simp only [List.map_cons, List.all_cons, Bool.and_eq_true, Function.comp]
      exact ⟨by rw [List.cons.injEq]; exact ⟨by rw [Nat.eq_of_beq_eq_true h.1.1], i1⟩, h.1.2, i2⟩
theorem cells_ren {σ π : List (Nat × Nat)} {n : Nat} : ∀ {cs : List SC}, cs.all (SC.allk (fun k => Nat.beq (rk π (rk σ k)) k && Nat.blt (rk σ k) n)) = true → (cs.map (SC.ren σ)).map (SC.ren π) = cs ∧ (cs.map (SC.ren σ)).all (SC.below n) = true
  | [], _ => ⟨rfl, rfl⟩
  | x :: cs, h => by
    simp only [List.all_cons, Bool.and_eq_true] at h
    obtain ⟨h1, h2⟩ := SC.ren_of h.1
    obtain ⟨h3, h4⟩ := cells_ren h.2
    exact ⟨by simp only [List.map_cons, h1, h3], by simp only [List.map_cons, List.all_cons, h2, h4, Bool.and_self]⟩
theorem SV.ren_of {σ π : List (Nat × Nat)} {n : Nat} {x : SV} (h : x.allk (fun k => Nat.beq (rk π (rk σ k)) k && Nat.blt (rk σ k) n) = true) : (x.ren σ).ren π = x ∧ (x.ren σ).below n = true := by
  cases x with
  | c x => obtain ⟨h1, h2⟩ := SC.ren_of (x := x) h; exact ⟨by simp only [SV.ren, h1], h2⟩
  | agg cs => obtain ⟨h1, h2⟩ := cells_ren (cs := cs) h; exact ⟨by simp only [SV.ren, h1], h2⟩
  | tup ts =>
    simp only [SV.allk] at h
    simp only [SV.ren, SV.below, SV.tup.injEq, List.map_map, List.all_map]
    induction ts with
    | nil => exact ⟨rfl, rfl⟩
    | cons t ts ih =>
      simp only [List.all_cons, Bool.and_eq_true] at h
      obtain ⟨i1, i2⟩ := ih h.2
      simp only [List.map_cons, List.all_cons, Bool.and_eq_true, Function.comp]
      cases t with
      | inl x => obtain ⟨h1, h2⟩ := SC.ren_of h.1; exact ⟨by rw [List.cons.injEq]; exact ⟨by simp only [h1], i1⟩, h2, i2⟩
      | inr cs => obtain ⟨h1, h2⟩ := cells_ren h.1; exact ⟨by rw [List.cons.injEq]; exact ⟨by simp only [h1], i1⟩, h2, i2⟩
  | und => exact ⟨rfl, rfl⟩
theorem SC.plain_of {x : SC} (h : x.plain = true) (π : List (Nat × Nat)) (n : Nat) : x.ren π = x ∧ x.below n = true := by
  cases x <;> try exact ⟨rfl, rfl⟩
  case ptr k off => simp [SC.plain, SC.allk] at h
  case slc k off esz len cap => simp [SC.plain, SC.allk] at h
  case fn f caps => cases caps <;> first | exact ⟨rfl, rfl⟩ | (simp [SC.plain, SC.allk] at h; done)
theorem cells_plain {cs : List SC} (h : cs.all SC.plain = true) (π : List (Nat × Nat)) (n : Nat) : cs.map (SC.ren π) = cs ∧ cs.all (SC.below n) = true := by
  induction cs with
  | nil => exact ⟨rfl, rfl⟩
  | cons x cs ih =>
    simp only [List.all_cons, Bool.and_eq_true] at h
    obtain ⟨h1, h2⟩ := SC.plain_of h.1 π n
    obtain ⟨h3, h4⟩ := ih h.2
    exact ⟨by simp only [List.map_cons, h1, h3], by simp only [List.all_cons, h2, h4, Bool.and_self]⟩
def SV.plain : SV → Bool
  | .c x => x.plain
  | .agg cs => cs.all SC.plain
  | _ => false
theorem SV.plain_of {x : SV} (h : x.plain = true) (π : List (Nat × Nat)) (n : Nat) : x.ren π = x ∧ x.below n = true := by
  cases x with
  | c x => obtain ⟨h1, h2⟩ := SC.plain_of (x := x) h π n; exact ⟨by simp only [SV.ren, h1], h2⟩
  | agg cs => obtain ⟨h1, h2⟩ := cells_plain (cs := cs) h π n; exact ⟨by simp only [SV.ren, h1], h2⟩
  | tup ts => cases h
  | und => cases h

/-- How a slot or a block is kept: 'plain': nothing in it stands for a block; else with other keys. -/
structure Cut where
  slots : List (Nat × Bool)
  keys : List (Nat × Nat × Bool)
  nk : Nat

def Cut.σ (c : Cut) : List (Nat × Nat) := c.keys.map fun q => (q.1, q.2.1)
def Cut.π (c : Cut) : List (Nat × Nat) := c.keys.map fun q => (q.2.1, q.1)
def cutTmps (σ : List (Nat × Nat)) (s : List (Nat × SV)) : List (Nat × Bool) → List (Nat × SV)
  | [] => []
  | (i, p) :: r => (i, match get s i with
    | some v => bif p then v else v.ren σ
    | none => .und) :: cutTmps σ s r
def cutTmpsOk (p : Nat → Bool) (s : List (Nat × SV)) : List (Nat × Bool) → Bool
  | [] => true
  | (i, pl) :: r => (match get s i with
    | some v => bif pl then v.plain else v.allk p
    | none => false) && cutTmpsOk p s r
def cutTab (σ : List (Nat × Nat)) (s : Tab) : List (Nat × Nat × Bool) → Tab
  | [] => []
  | (k, j, p) :: r => (j, match s.blk k with
    | some b => some (bif p then b else { b with cells := b.cells.map (SC.ren σ) })
    | none => none) :: cutTab σ s r
def cutTabOk (p : Nat → Bool) (n : Nat) (s : Tab) : List (Nat × Nat × Bool) → Bool
  | [] => true
  | (k, j, pl) :: r => (Nat.blt j n && match s.blk k with
    | some b => bif pl then b.cells.all SC.plain else b.cells.all (SC.allk p)
    | none => false) && cutTabOk p n s r
def fixOn (π : List (Nat × Nat)) (nf : Nat) : Bool := (List.range nf).all fun k => Nat.beq (rk π k) k
def injOn (π : List (Nat × Nat)) : List Nat → Bool
  | [] => true
  | k :: r => (r.all fun j => Nat.beq k j || !(Nat.beq (rk π k) (rk π j))) && injOn π r
def Cut.st (c : Cut) (s : St) : St := ⟨cutTmps c.σ s.tmps c.slots, cutTab c.σ s.tab c.keys, c.nk, s.nt⟩
def piOk (π : List (Nat × Nat)) : List (Nat × Nat × Bool) → Bool
  | [] => true
  | (k, j, _) :: r => Nat.beq (rk π j) k && piOk π r
def Cut.ok (c : Cut) (nf : Nat) (s : St) : Bool :=
  Nat.ble nf c.nk && (fixOn c.π nf && (injOn c.π (c.keys.map fun q => q.2.1) && (piOk c.π c.keys &&
    (cutTmpsOk (fun k => Nat.beq (rk c.π (rk c.σ k)) k && Nat.blt (rk c.σ k) c.nk) s.tmps c.slots && cutTabOk (fun k => Nat.beq (rk c.π (rk c.σ k)) k && Nat.blt (rk c.σ k) c.nk) c.nk s.tab c.keys))))

theorem injOn_spec {π : List (Nat × Nat)} : ∀ {l : List Nat}, injOn π l = true → ∀ k k', k ∈ l → k' ∈ l → rk π k = rk π k' → k = k'
  | [], _, k, k', h, _, _ => by simp at h
  | x :: l, h, k, k', hk, hk', he => by
    simp only [injOn, Bool.and_eq_true, List.all_eq_true, Bool.or_eq_true, Bool.not_eq_true'] at h
    have one : ∀ j, j ∈ l → rk π x = rk π j → x = j := fun j hj hej => by
      rcases h.1 j hj with h | h
      · exact Nat.eq_of_beq_eq_true h
      · rw [hej] at h; simp at h
    rcases List.mem_cons.1 hk with h1 | h1 <;> rcases List.mem_cons.1 hk' with h2 | h2
    · rw [h1, h2]
    · subst h1; exact one _ h2 he
    · subst h2; exact (one _ h1 he.symm).symm
    · exact injOn_spec h.2 k k' h1 h2 he

theorem cutTmps_spec {σ π : List (Nat × Nat)} {n : Nat} {s : List (Nat × SV)} : ∀ {sl : List (Nat × Bool)}, cutTmpsOk (fun k => Nat.beq (rk π (rk σ k)) k && Nat.blt (rk σ k) n) s sl = true → ∀ i v, get (cutTmps σ s sl) i = some v → get s i = some (v.ren π) ∧ v.below n = true
  | [], _, i, v, h => by simp [cutTmps, get] at h
  | (j, p) :: r, h, i, v, hv => by
    simp only [cutTmpsOk, Bool.and_eq_true] at h
    by_cases hji : j = i
    · subst hji
      simp only [cutTmps, get, beq_self, cond_true, Option.some.injEq] at hv
      cases hg : get s j with
      | none => rw [hg] at h; simp at h
      | some u =>
        rw [hg] at h hv
        simp only at hv
        cases p with
        | true =>
          simp only [cond_true] at h hv
          subst hv
          obtain ⟨h1, h2⟩ := SV.plain_of h.1 π n
          exact ⟨by rw [h1], h2⟩
        | false =>
          simp only [cond_false] at h hv
          subst hv
          obtain ⟨h1, h2⟩ := SV.ren_of h.1
          exact ⟨by rw [h1], h2⟩
    · simp only [cutTmps, get, beq_of_ne hji, cond_false] at hv
      exact cutTmps_spec h.2 i v hv

theorem cutTab_spec {σ π : List (Nat × Nat)} {n : Nat} {s : Tab} : ∀ {ks : List (Nat × Nat × Bool)}, cutTabOk (fun k => Nat.beq (rk π (rk σ k)) k && Nat.blt (rk σ k) n) n s ks = true → piOk π ks = true → ∀ k b, (cutTab σ s ks).blk k = some b →
    k ∈ ks.map (fun q => q.2.1) ∧ k < n ∧ b.cells.all (SC.below n) = true ∧ ∃ b', s.blk (rk π k) = some b' ∧ b'.cells = b.cells.map (SC.ren π) ∧ b'.ty = b.ty ∧ b'.tail = b.tail ∧ b'.own = b.own
  | [], _, _, k, b, h => by simp [cutTab, Tab.blk, get] at h
  | (k0, j, p) :: r, h, hp, k, b, hb => by
    simp only [cutTabOk, Bool.and_eq_true] at h
    simp only [piOk, Bool.and_eq_true] at hp
    simp only [cutTab] at hb
    rw [blk_cons] at hb
    by_cases hjk : j = k
    · subst hjk
      rw [if_pos rfl] at hb
      have hπ := Nat.eq_of_beq_eq_true hp.1
      cases hg : s.blk k0 with
      | none => rw [hg] at h; simp at h
      | some u =>
        rw [hg] at h hb
        simp only [Option.some.injEq] at hb
        refine ⟨by simp, by simpa [Nat.blt_eq] using h.1.1, ?_⟩
        rw [hπ, hg]
        cases p with
        | true =>
          simp only [cond_true] at h hb
          subst hb
          obtain ⟨h1, h2⟩ := cells_plain h.1.2 π n
          exact ⟨h2, u, rfl, h1.symm, rfl, rfl, rfl⟩
        | false =>
          simp only [cond_false] at h hb
          subst hb
          obtain ⟨h1, h2⟩ := cells_ren h.1.2
          exact ⟨h2, u, rfl, h1.symm, rfl, rfl, rfl⟩
    · rw [if_neg hjk] at hb
      obtain ⟨h1, h2⟩ := cutTab_spec h.2 hp.2 k b hb
      exact ⟨by simp only [List.map_cons, List.mem_cons]; exact .inr h1, h2⟩

theorem Cut.shift {c : Cut} {nf : Nat} {s : St} (h : c.ok nf s = true) : Shift nf c.π s (c.st s) := by
  simp only [Cut.ok, Bool.and_eq_true, Nat.ble_eq] at h
  obtain ⟨hn, hf, hi, hp, htm, htb⟩ := h
  refine ⟨fun i v hv => cutTmps_spec htm i v hv, fun k b hb => ?_, fun k k' b b' hb hb' he => ?_, fun k hk => ?_, hn, rfl⟩
  · obtain ⟨_, h1, h2, b', h3, h4, h5, h6, h7⟩ := cutTab_spec htb hp k b hb
    exact ⟨h1, h2, b', h3, h4, h5, fun h => h6.trans h, fun h => h6.symm.trans h, h7⟩
  · exact injOn_spec hi k k' (cutTab_spec htb hp k b hb).1 (cutTab_spec htb hp k' b' hb').1 he
  · simp only [fixOn, List.all_eq_true, List.mem_range] at hf
    exact Nat.eq_of_beq_eq_true (hf k hk)

/-! A nil slice as one under a key of its own. -/
def unnil (s : St) (i m : Nat) (e : TypeId) : St :=
  match get s.tmps i with
  | some (.c .nils) => ⟨set s.tmps i (.c (.slc s.nk 0 m 0 none)), (s.nk, some ⟨[], e, true, true⟩) :: s.tab, s.nk + 1, s.nt⟩
  | _ => s
theorem RelA.unnil {X : Cx} {ρ : Ren} {s : St} {a : Act} {w : World} (h : RelA X ρ s a w) (i m : Nat) (e : TypeId) : ∃ ρ', Le ρ ρ' ∧ RelA X ρ' (unnil s i m e) a w := by
  unfold Sx.unnil
  split
  · rename_i hi
    have hk : ρ s.nk = none := h.fresh _ (Nat.le_refl _)
    have hle := Le.upd none hk
    refine ⟨upd ρ s.nk none, hle, ⟨Rel.cons_new h.rel (New.one hk (Below.refl _ _) ⟨rfl, rfl⟩ (fun l hl => by cases hl) (fun l hl => by cases hl)), fun t v hv => ?_, h.defers, fun k hk' => ?_, h.sz⟩⟩
    · by_cases hit : i = t
      · subst hit
        rw [get_set_same] at hv; cases hv
        obtain ⟨u, hu, hr⟩ := h.tmps _ _ hi
        exact ⟨u, hu, .inl ⟨upd_same _ _ _, ⟨_, hr⟩, rfl, fun n hn => by cases hn⟩⟩
      · rw [get_set_ne _ _ hit] at hv
        obtain ⟨u, hu, hr⟩ := h.tmps t v hv
        exact ⟨u, hu, hr.mono hle⟩
    · simp only at hk'
      rw [upd_ne _ _ (by omega)]; exact h.fresh k (by omega)
  · exact ⟨ρ, Le.refl _, h⟩
def unnils (s : St) : List (Nat × Nat × TypeId) → St
  | [] => s
  | (i, m, e) :: r => unnils (unnil s i m e) r
theorem RelA.unnils {X : Cx} {a : Act} {w : World} : ∀ (l : List (Nat × Nat × TypeId)) {ρ : Ren} {s : St}, RelA X ρ s a w → ∃ ρ', Le ρ ρ' ∧ RelA X ρ' (unnils s l) a w
  | [], ρ, s, h => ⟨ρ, Le.refl _, h⟩
  | (i, m, e) :: r, ρ, s, h => by
    obtain ⟨ρ1, h1, h2⟩ := h.unnil i m e
    obtain ⟨ρ2, h3, h4⟩ := RelA.unnils r h2
    exact ⟨ρ2, h1.trans h3, h4⟩

/-- A state that may stand in another's place. -/
def Weak (X : Cx) (s t : St) : Prop := ∀ (ρ : Ren) (a : Act) (w : World), RelA X ρ s a w → ∃ ρ', Agree X.nf ρ ρ' ∧ RelA X ρ' t a w
theorem Weak.refl (X : Cx) (s : St) : Weak X s s := fun ρ a w h => ⟨ρ, Agree.refl _ _, h⟩
theorem Weak.trans {X : Cx} {s t u : St} (h : Weak X s t) (h' : Weak X t u) : Weak X s u := fun ρ a w hr => by
  obtain ⟨ρ1, h1, h2⟩ := h ρ a w hr
  obtain ⟨ρ2, h3, h4⟩ := h' ρ1 a w h2
  exact ⟨ρ2, h1.trans h3, h4⟩
theorem Weak.shift {X : Cx} {π : List (Nat × Nat)} {s t : St} (h : Shift X.nf π s t) : Weak X s t := fun ρ a w hr => ⟨_, hr.shift h⟩
theorem Weak.unnils (X : Cx) (s : St) (l : List (Nat × Nat × TypeId)) : Weak X s (unnils s l) := fun ρ a w hr => by
  obtain ⟨ρ', h1, h2⟩ := hr.unnils l
  exact ⟨ρ', h1.agree, h2⟩
theorem Weak.cut {X : Cx} {c : Cut} {s : St} {un : List (Nat × Nat × TypeId)} (h : c.ok X.nf (Sx.unnils s un) = true) : Weak X s (c.st (Sx.unnils s un)) :=
  (Weak.unnils X s un).trans (Weak.shift (Cut.shift h))

/-- A block of the old world under a new key, and a slot's value as a slice of it. -/
theorem Weak.bind {X : Cx} {s : St} {i off m len : Nat} {v : Value} {b : Blk} {x : Option Loc} (hv : get s.tmps i = some (.c (.raw v))) (hown : b.own = false) (hb : ∀ ρ, b.R ρ X.w0 x)
    (hold : ∀ l, x = some l → l.blk < X.B ∧ l.blk ∉ X.mb) (hlit : ∀ l, x = some l → l.lit = false) (hs : ∀ ρ : Ren, ρ s.nk = some x → (SC.slc s.nk off m len none).R ρ v) (hnf : X.nf ≤ s.nk) :
    Weak X s ⟨Sx.set s.tmps i (.c (.slc s.nk off m len none)), (s.nk, some b) :: s.tab, s.nk + 1, s.nt⟩ := fun ρ a w h => by
  have hk : ρ s.nk = none := h.fresh _ (Nat.le_refl _)
  have hle := Le.upd x hk
  have key : ∀ {k c}, Tab.blk ((s.nk, some b) :: s.tab) k = some c → (k = s.nk ∧ c = b) ∨ (k ≠ s.nk ∧ s.tab.blk k = some c) := fun {k c} hc => by
    rw [blk_cons] at hc
    by_cases hkk : s.nk = k
    · rw [if_pos hkk] at hc; cases hc; exact .inl ⟨hkk.symm, rfl⟩
    · rw [if_neg hkk] at hc; exact .inr ⟨Ne.symm hkk, hc⟩
  refine ⟨upd ρ s.nk x, hle.agree, ⟨⟨h.rel.os, h.rel.tape, h.rel.output, h.rel.size, h.rel.size0, h.rel.old, fun k c hc => ?_, fun k c l hc ho hl => ?_, fun k l hl hlt => ?_, h.rel.rows⟩, fun t u hu => ?_, h.defers, fun k hk' => ?_, h.sz⟩⟩
  · rcases key hc with ⟨rfl, rfl⟩ | ⟨hne, hc⟩
    · exact ⟨x, upd_same _ _ _, (hb _).keep (Le.refl _) fun l hl => h.rel.old _ (hold l hl).1 (hold l hl).2⟩
    · obtain ⟨y, hy, hR⟩ := h.rel.blk k c hc
      exact ⟨y, hle _ _ hy, hR.keep hle fun _ _ => rfl⟩
  · rcases key hc with ⟨rfl, rfl⟩ | ⟨hne, hc⟩
    · rw [hown] at ho; cases ho
    · rw [upd_ne _ _ hne] at hl
      obtain ⟨g1, g2⟩ := h.rel.sep k c l hc ho hl
      refine ⟨g1, fun k' c' l' hne' hc' hl' => ?_⟩
      rcases key hc' with ⟨rfl, rfl⟩ | ⟨hne2, hc'⟩
      · rw [upd_same] at hl'
        cases hl'
        obtain ⟨o1, o2⟩ := hold l' rfl
        intro e
        rcases g1 with g1 | g1
        · omega
        · rw [e] at o2; exact o2 g1
      · rw [upd_ne _ _ hne2] at hl'
        exact g2 k' c' l' hne' hc' hl'
  · by_cases hkk : k = s.nk
    · subst hkk
      rw [upd_same] at hl; cases hl
      rw [hlit l rfl] at hlt; cases hlt
    · rw [upd_ne _ _ hkk] at hl
      obtain ⟨g1, g2, g3⟩ := h.rel.lit k l hl hlt
      refine ⟨g1, g2, fun k' c' l' hc' ho' hl' => ?_⟩
      rcases key hc' with ⟨rfl, rfl⟩ | ⟨hne2, hc'⟩
      · rw [hown] at ho'; cases ho'
      · rw [upd_ne _ _ hne2] at hl'
        exact g3 k' c' l' hc' ho' hl'
  · by_cases hit : i = t
    · subst hit
      rw [get_set_same] at hu; cases hu
      obtain ⟨y, hy, hr⟩ := h.tmps _ _ hv
      obtain rfl : y = v := hr.1
      exact ⟨y, hy, hs _ (upd_same _ _ _)⟩
    · rw [get_set_ne _ _ hit] at hu
      obtain ⟨y, hy, hr⟩ := h.tmps t u hu
      exact ⟨y, hy, hr.mono hle⟩
  · simp only at hk'
    rw [upd_ne _ _ (by omega)]; exact h.fresh k (by omega)

/-! What holds of code from a state on. -/
def SW (P : Program) (X : Cx) (c : Code) (st : St) (Q : Out → St → Prop) : Prop :=
  ∀ (ρ : Ren) (a : Act) (w : World) (R : Exit → Act → World → Prop), RelA X ρ st a w → (∀ ex a' w' ρ' o st', OutIs ex o → Q o st' → Agree X.nf ρ ρ' → RelA X ρ' st' a' w' → R ex a' w') → c.wp P R a w

section
variable {P : Program} {C : List (Nat × Con)} {X : Cx} {Q : Out → St → Prop} {st : St}

theorem SW.of_sound {c : Code} {o : Out} {st' : St} (h : Sound P X c st o st') (hQ : Q o st') : SW P X c st Q := fun ρ a w R hrel hR =>
  h ρ a w R hrel fun ex a' w' ρ' ho hle hrel' => hR ex a' w' ρ' o st' ho hQ hle.agree hrel'

theorem SW.mono {c : Code} {Q' : Out → St → Prop} (h : SW P X c st Q) (hq : ∀ o st', Q o st' → Q' o st') : SW P X c st Q' := fun ρ a w R hrel hR =>
  h ρ a w R hrel fun ex a' w' ρ' o st' ho hQ hag hrel' => hR ex a' w' ρ' o st' ho (hq o st' hQ) hag hrel'

theorem SW.weak {c : Code} {t : St} (hs : Weak X st t) (h : SW P X c t Q) : SW P X c st Q := fun ρ a w R hrel hR => by
  obtain ⟨ρ1, hag, hrel'⟩ := hs ρ a w hrel
  exact h _ a w R hrel' fun ex a' w' ρ' o st' ho hQ hag' hr => hR ex a' w' ρ' o st' ho hQ (hag.trans hag') hr
theorem SW.end {c : Code} (h : SW P X c st fun o s => ∃ t, Weak X s t ∧ Q o t) : SW P X c st Q := fun ρ a w R hrel hR =>
  h ρ a w R hrel fun ex a' w' ρ' o st' ho ⟨t, hw, hQ⟩ hag hrel' => by
    obtain ⟨ρ1, hag', hr⟩ := hw ρ' a' w' hrel'
    exact hR ex a' w' ρ1 o t ho hQ (hag.trans hag') hr

/-- What is to come behind code that ends as it should. -/
def thenS (Q1 : St → Prop) (Q : Out → St → Prop) : Out → St → Prop
  | .norm, st => Q1 st
  | o, st => Q o st

theorem SW.seq {a b : Code} (h : SW P X a st (thenS (fun st1 => SW P X b st1 Q) Q)) : SW P X (.seq a b) st Q := fun ρ ac w R hrel hR =>
  wp_seq (h ρ ac w _ hrel fun ex a' w' ρ' o st' ho hQ hag hrel' => by
    cases o <;> cases ex <;> try exact False.elim ho
    · exact hQ ρ' a' w' R hrel' fun ex2 a2 w2 ρ2 o2 st2 ho2 hQ2 hag2 hrel2 => hR ex2 a2 w2 ρ2 o2 st2 ho2 hQ2 (hag.trans hag2) hrel2
    · exact hR _ a' w' ρ' _ st' ho hQ hag hrel'
    · exact hR _ a' w' ρ' _ st' ho hQ hag hrel')

def blockS (id : Nat) (Q : Out → St → Prop) : Out → St → Prop
  | .exit j, st => if j = id then Q .norm st else Q (.exit j) st
  | o, st => Q o st
theorem SW.block {id : Nat} {c : Code} (h : SW P X c st (blockS id Q)) : SW P X (.block id c) st Q := fun ρ a w R hrel hR =>
  wp_block (h ρ a w _ hrel fun ex a' w' ρ' o st' ho hQ hag hrel' => by
    cases o <;> cases ex <;> try exact False.elim ho
    · exact hR .normal a' w' ρ' .norm st' trivial hQ hag hrel'
    · rename_i j i
      obtain rfl : i = j := ho
      simp only [blockS] at hQ
      simp only [Exit.inBlock]
      by_cases hi : i = id
      · rw [if_pos hi] at hQ ⊢; exact hR .normal a' w' ρ' .norm st' trivial hQ hag hrel'
      · rw [if_neg hi] at hQ ⊢; exact hR (.exit i) a' w' ρ' (.exit i) st' rfl hQ hag hrel'
    · exact hR .ret a' w' ρ' .ret st' trivial hQ hag hrel')

theorem rounds_le {c : Code} {R : Exit → Act → World → Prop} : ∀ (n m : Nat) (a : Act) (w : World), n ≤ m → Code.rounds P c R n a w → Code.rounds P c R m a w
  | 0, m, a, w, _, h => h.elim
  | n + 1, 0, a, w, h, _ => by omega
  | n + 1, m + 1, a, w, h, hr => by
    rw [rounds_succ] at hr ⊢
    refine Code.wp_mono (fun e a' w' q => ?_) hr
    cases e <;> first | exact rounds_le n m a' w' (by omega) q | exact q

/-- A loop: J n st: so many rounds may still come, and the state is st. -/
theorem SW.loop {c : Code} (J : Nat → St → Prop) {n : Nat} (h0 : J n st)
    (round : ∀ n st, J n st → SW P X c st (thenS (fun st' => ∃ m, m < n ∧ J m st') Q)) : SW P X (.loop c) st Q := fun ρ a w R hrel hR => by
  have key : ∀ n st, J n st → ∀ (ρ1 : Ren) (a : Act) (w : World), Agree X.nf ρ ρ1 → RelA X ρ1 st a w → Code.rounds P c R (n + 1) a w := by
    intro n
    induction n using Nat.strongRecOn with
    | _ n ih =>
      intro st hJ ρ1 a w hag hrel
      rw [rounds_succ]
      refine round n st hJ ρ1 a w _ hrel fun ex a' w' ρ' o st' ho hQ hag' hrel' => ?_
      cases o <;> cases ex <;> try exact False.elim ho
      · obtain ⟨m, hm, hJm⟩ := hQ
        exact rounds_le _ _ _ _ (by omega) (ih m hm st' hJm _ a' w' (hag.trans hag') hrel')
      · exact hR _ a' w' ρ' _ st' ho hQ (hag.trans hag') hrel'
      · exact hR _ a' w' ρ' _ st' ho hQ (hag.trans hag') hrel'
  exact wp_loop_rounds (n + 1) (key n st h0 ρ a w (Agree.refl _ _) hrel)

theorem SW.cond {q : Operand} {x y : Code} {t : Bool} (hq : sev st.tmps q = .c (.bool t)) (h1 : t = true → SW P X x st Q) (h2 : t = false → SW P X y st Q) : SW P X (.cond q x y) st Q := fun ρ a w R hrel hR => by
  have hev : a.eval q = .bool t := by
    have := sev_R hrel q
    rw [hq] at this
    exact this
  exact wp_cond_split hev (fun ht => h1 ht ρ a w R hrel hR) (fun ht => h2 ht ρ a w R hrel hR)

/-- Code that is gone through by the executor. -/
theorem SW.x (hC : LibOK P C) (hm : P.follows .mixedOrders = true) {c : Code} {f : Nat} {told : List Bool} {o : Out} {s' : RSt} (h : xcode P C f c ⟨st, true, [], ⟨told, []⟩⟩ = some (o, s')) (hob : s'.ob = true) (hobs : All s'.obs) (hQ : Q o s'.st) : SW P X c st Q :=
  SW.of_sound (xcode_run hC hm c f _ s' o h hob hobs) hQ
end

/-! A function as one row of codes, one behind the other. -/
def flat : Code → List Code
  | .seq a b => flat a ++ flat b
  | c => [c]
def SWs (P : Program) (X : Cx) : List Code → St → (Out → St → Prop) → Prop
  | [], st, Q => ∃ t, Weak X st t ∧ Q .norm t
  | c :: r, st, Q => SW P X c st (thenS (fun st1 => SWs P X r st1 Q) Q)

section
variable {P : Program} {C : List (Nat × Con)} {X : Cx} {Q : Out → St → Prop}
theorem SWs.mono : ∀ {l : List Code} {st : St} {Q Q' : Out → St → Prop}, (∀ o st, Q o st → Q' o st) → SWs P X l st Q → SWs P X l st Q'
  | [], st, Q, Q', hq, ⟨t, h1, h2⟩ => ⟨t, h1, hq _ _ h2⟩
  | c :: l, st, Q, Q', hq, h => SW.mono h fun o st' h' => by cases o; exact SWs.mono hq h'; exact hq _ _ h'; exact hq _ _ h'
theorem SWs.weak {l : List Code} {st t : St} (hs : Weak X st t) (h : SWs P X l t Q) : SWs P X l st Q := by
  cases l with
  | nil => obtain ⟨u, h1, h2⟩ := h; exact ⟨u, hs.trans h1, h2⟩
  | cons c l => exact SW.weak hs h
theorem SWs.append : ∀ {l m : List Code} {st : St} {Q : Out → St → Prop}, SWs P X (l ++ m) st Q → SWs P X l st (thenS (fun st1 => SWs P X m st1 Q) Q)
  | [], m, st, Q, h => ⟨st, Weak.refl _ _, h⟩
  | c :: l, m, st, Q, h => SW.mono (Q := thenS (fun st1 => SWs P X (l ++ m) st1 Q) Q) h fun o st' hq => by
    cases o
    · exact SWs.append (l := l) hq
    · exact hq
    · exact hq
theorem SW.of_one {c : Code} {st : St} (h : SWs P X [c] st Q) : SW P X c st Q := SW.end (SW.mono h fun o st' hq => by
  cases o
  · exact hq
  · exact ⟨st', Weak.refl _ _, hq⟩
  · exact ⟨st', Weak.refl _ _, hq⟩)
theorem SW.of_flat : ∀ (c : Code) {st : St} {Q : Out → St → Prop}, SWs P X (flat c) st Q → SW P X c st Q
  | .seq a b, st, Q, h => SW.seq (SW.of_flat a (SWs.mono (fun o st hq => by cases o; exact SW.of_flat b hq; exact hq; exact hq) (SWs.append (l := flat a) (m := flat b) h)))
  | .skip, _, _, h => SW.of_one h
  | .region .., _, _, h => SW.of_one h
  | .cond .., _, _, h => SW.of_one h
  | .block .., _, _, h => SW.of_one h
  | .loop _, _, _, h => SW.of_one h
  | .rangeFunc .., _, _, h => SW.of_one h
  | .exit _, _, _, h => SW.of_one h
  | .scope _, _, _, h => SW.of_one h
  | .label _, _, _, h => SW.of_one h
  | .goto _, _, _, h => SW.of_one h
  | .ret, _, _, h => SW.of_one h
  | .refuse _, _, _, h => SW.of_one h

/-- So many codes of a row, all of which end as they should; or an end of all. -/
def xrow (P : Program) (C : List (Nat × Con)) (fuel : Nat) : Nat → List Code → RSt → Option (Out × RSt)
  | 0, _, s => some (.norm, s)
  | _ + 1, [], s => some (.norm, s)
  | n + 1, c :: r, s => match xcode P C fuel c s with
    | some (.norm, s') => xrow P C fuel n r s'
    | some (o, s') => some (o, s')
    | none => none

theorem xrow_mono {fuel : Nat} : ∀ (n : Nat) (l : List Code) (s s' : RSt) (o : Out), xrow P C fuel n l s = some (o, s') → s'.ob = true → All s'.obs → s.ob = true ∧ All s.obs
  | 0, l, s, s', o, h, h1, h2 => by simp only [xrow, Option.some.injEq, Prod.mk.injEq] at h; obtain ⟨_, rfl⟩ := h; exact ⟨h1, h2⟩
  | n + 1, [], s, s', o, h, h1, h2 => by simp only [xrow, Option.some.injEq, Prod.mk.injEq] at h; obtain ⟨_, rfl⟩ := h; exact ⟨h1, h2⟩
  | n + 1, c :: r, s, s', o, h, h1, h2 => by
    simp only [xrow] at h
    split at h <;> try (cases h; done)
    · rename_i s1 hs1
      obtain ⟨g1, g2⟩ := xrow_mono n r s1 s' o h h1 h2
      exact xcode_mono _ _ _ _ _ hs1 g1 g2
    · rename_i o1 s1 _ hs1
      simp only [Option.some.injEq, Prod.mk.injEq] at h; obtain ⟨_, rfl⟩ := h
      exact xcode_mono _ _ _ _ _ hs1 h1 h2

theorem SWs.xrow (hC : LibOK P C) (hm : P.follows .mixedOrders = true) {fuel : Nat} : ∀ (n : Nat) (l : List Code) (s s' : RSt) (o : Out), xrow P C fuel n l s = some (o, s') → s'.ob = true → All s'.obs →
    (thenS (fun st => SWs P X (l.drop n) st Q) Q o s'.st) → SWs P X l s.st Q
  | 0, l, s, s', o, h, h1, h2, hQ => by simp only [Sx.xrow, Option.some.injEq, Prod.mk.injEq] at h; obtain ⟨rfl, rfl⟩ := h; exact hQ
  | n + 1, [], s, s', o, h, h1, h2, hQ => by simp only [Sx.xrow, Option.some.injEq, Prod.mk.injEq] at h; obtain ⟨rfl, rfl⟩ := h; exact hQ
  | n + 1, c :: r, s, s', o, h, h1, h2, hQ => by
    simp only [Sx.xrow] at h
    split at h
    · rename_i s1 hs1
      obtain ⟨g1, g2⟩ := xrow_mono n r s1 s' o h h1 h2
      exact SW.of_sound (xcode_run hC hm c fuel s s1 .norm hs1 g1 g2) (SWs.xrow hC hm n r s1 s' o h h1 h2 hQ)
    · rename_i o1 s1 hs1 hne
      simp only [Option.some.injEq, Prod.mk.injEq] at h; obtain ⟨rfl, rfl⟩ := h
      refine SW.of_sound (xcode_run hC hm c fuel s _ _ hne h1 h2) ?_
      cases o1
      · first | exact (hs1 rfl).elim | exact (hs1 _).elim | (exfalso; simp_all; done)
      · exact hQ
      · exact hQ
    · cases h

/-- Codes of a row, then the state cut down: what must hold; the state. -/
def stepF (P : Program) (C : List (Nat × Con)) (nf fuel n : Nat) (l : List Code) (st : St) (told : List Bool) (un : List (Nat × Nat × TypeId)) (c : Cut) : Option (Bool × List Prop × St) :=
  match Sx.xrow P C fuel n l ⟨st, true, [], ⟨told, []⟩⟩ with
  | some (.norm, s) => some (bnd s.ob (c.ok nf (unnils s.st un)), s.obs, c.st (unnils s.st un))
  | _ => none
theorem SWs.step (hC : LibOK P C) (hm : P.follows .mixedOrders = true) {fuel n : Nat} {l : List Code} {st t : St} {told : List Bool} {un : List (Nat × Nat × TypeId)} {c : Cut} {ob : Bool} {obs : List Prop}
    (h : stepF P C X.nf fuel n l st told un c = some (ob, obs, t)) (hob : ob = true) (hobs : All obs) (hk : SWs P X (l.drop n) t Q) : SWs P X l st Q := by
  unfold stepF at h
  split at h <;> try (cases h; done)
  rename_i s hs
  simp only [Option.some.injEq, Prod.mk.injEq] at h
  obtain ⟨rfl, rfl, rfl⟩ := h
  simp only [bnd_true, Bool.and_eq_true] at hob
  exact SWs.xrow hC hm n l _ s .norm hs hob.1 hobs (SWs.weak (Weak.cut hob.2) hk)

/-- Codes of a row up to a way out of it. -/
def exitF (P : Program) (C : List (Nat × Con)) (nf fuel n : Nat) (l : List Code) (st : St) (told : List Bool) (un : List (Nat × Nat × TypeId)) (c : Cut) : Option (Nat × Bool × List Prop × St) :=
  match Sx.xrow P C fuel n l ⟨st, true, [], ⟨told, []⟩⟩ with
  | some (.exit i, s) => some (i, bnd s.ob (c.ok nf (unnils s.st un)), s.obs, c.st (unnils s.st un))
  | _ => none

/-- A function's results at its end. -/
def finF (P : Program) (C : List (Nat × Con)) (f fuel n : Nat) (l : List Code) (st : St) (told : List Bool) : Option (Bool × List Prop × SV × Tab) :=
  match P.funcs[f]? with
  | some fn => match Sx.xrow P C fuel n l ⟨st, true, [], ⟨told, []⟩⟩ with
    | some (o, s) => match resS P s.st fn.results.toList with
      | some (b, v) => some (bnd s.ob (b && (isEnd o && (Nat.ble l.length n || (match o with | .ret => true | _ => false)))), s.obs, v, s.st.tab)
      | none => none
    | none => none
  | none => none
/-- What holds at a function's end. -/
def FinQ (P : Program) (f : FuncId) (Post : SV → Tab → Prop) : Out → St → Prop := fun o st => isEnd o = true ∧ ∃ fn v, P.funcs[f]? = some fn ∧ resS P st fn.results.toList = some (true, v) ∧ Post v st.tab

theorem SWs.fin (hC : LibOK P C) (hm : P.follows .mixedOrders = true) {f fuel n : Nat} {l : List Code} {st : St} {told : List Bool} {ob : Bool} {obs : List Prop} {v : SV} {T : Tab} {Post : SV → Tab → Prop}
    (h : finF P C f fuel n l st told = some (ob, obs, v, T)) (hob : ob = true) (hobs : All obs) (hP : Post v T) : SWs P X l st (FinQ P f Post) := by
  unfold finF at h
  split at h <;> try (cases h; done)
  rename_i fn hfn
  split at h <;> try (cases h; done)
  rename_i o s hs
  split at h <;> try (cases h; done)
  rename_i b v' hv
  simp only [Option.some.injEq, Prod.mk.injEq] at h
  obtain ⟨rfl, rfl, rfl, rfl⟩ := h
  simp only [bnd_true, Bool.and_eq_true, Bool.or_eq_true, Nat.ble_eq] at hob
  obtain ⟨h1, rfl, h2, h3⟩ := hob
  refine SWs.xrow hC hm n l _ s o hs h1 hobs ?_
  have hfq : FinQ P f Post o s.st := ⟨h2, fn, v', hfn, hv, hP⟩
  cases o
  · rw [thenS]
    rcases h3 with h3 | h3
    · rw [List.drop_eq_nil_of_le h3]; exact ⟨s.st, Weak.refl _ _, hfq⟩
    · cases h3
  · cases h2
  · exact hfq

theorem SWs.finv (hC : LibOK P C) (hm : P.follows .mixedOrders = true) {f fuel n : Nat} {l : List Code} {st : St} {told : List Bool} {ob : Bool} {obs : List Prop} {v : SV} {Post : SV → Prop}
    (h : (finF P C f fuel n l st told).map (fun q => (q.1, q.2.1, q.2.2.1)) = some (ob, obs, v)) (hob : ob = true) (hobs : All obs) (hP : Post v) : SWs P X l st (FinQ P f fun v _ => Post v) := by
  cases hx : finF P C f fuel n l st told with
  | none => rw [hx] at h; cases h
  | some q =>
    obtain ⟨q1, q2, q3, q4⟩ := q
    rw [hx] at h
    simp only [Option.map_some, Option.some.injEq, Prod.mk.injEq] at h
    obtain ⟨rfl, rfl, rfl⟩ := h
    exact SWs.fin hC hm hx hob hobs hP

/-! Loops at the head of a row. -/
def isLoop : List Code → Bool
  | .block _ (.loop _) :: _ => true
  | _ => false
def loopB : List Code → List Code
  | .block _ (.loop c) :: _ => flat c
  | _ => []
def loopId : List Code → Nat
  | .block i (.loop _) :: _ => i
  | _ => 0

/-- What must hold behind a round. -/
def roundQ (next : St → Prop) (i : Nat) (rest : St → Prop) (Q : Out → St → Prop) : Out → St → Prop
  | .norm, st => next st
  | .exit j, st => (j = i ∧ rest st) ∨ (j ≠ i ∧ Q (.exit j) st)
  | .ret, st => Q .ret st

theorem SWs.loop {α : Type} {l : List Code} (hl : isLoop l = true) (I : α → St) (m : α → Nat) (ok : α → Prop) (a0 : α) (h0 : ok a0)
    (step : ∀ a, ok a → SWs P X (loopB l) (I a) (roundQ (fun st' => ∃ a', ok a' ∧ m a' < m a ∧ st' = I a') (loopId l) (fun st' => SWs P X l.tail st' Q) Q)) : SWs P X l (I a0) Q := by
  unfold isLoop at hl
  split at hl <;> try (cases hl; done)
  rename_i id c r
  refine SW.block (SW.loop (fun n st => ∃ a, ok a ∧ m a = n ∧ st = I a) ⟨a0, h0, rfl, rfl⟩ fun n st ⟨a, ha, hn, hst⟩ => ?_)
  subst hn hst
  refine SW.mono (SW.of_flat c (step a ha)) fun o st' hq => ?_
  cases o
  · obtain ⟨a', h1, h2, h3⟩ := hq
    exact ⟨_, h2, a', h1, rfl, h3⟩
  · rename_i j
    simp only [thenS, blockS]
    rcases hq with ⟨rfl, hq⟩ | ⟨hne, hq⟩
    · rw [if_pos rfl]; exact hq
    · rw [if_neg (by exact hne)]; exact hq
  · exact hq

/-! Blocks at the head of a row. -/
def isBlock : List Code → Bool
  | .block _ _ :: _ => true
  | _ => false
def blockB : List Code → List Code
  | .block _ c :: _ => flat c
  | _ => []
def blockId : List Code → Nat
  | .block i _ :: _ => i
  | _ => 0
def blkQ (i : Nat) (next : St → Prop) (Q : Out → St → Prop) : Out → St → Prop
  | .norm, st => next st
  | .exit j, st => (j = i ∧ next st) ∨ (j ≠ i ∧ Q (.exit j) st)
  | .ret, st => Q .ret st
theorem SWs.enter {l : List Code} {st : St} (hl : isBlock l = true) (h : SWs P X (blockB l) st (blkQ (blockId l) (fun st' => SWs P X l.tail st' Q) Q)) : SWs P X l st Q := by
  unfold isBlock at hl
  split at hl <;> try (cases hl; done)
  rename_i id c r
  refine SW.block (SW.mono (SW.of_flat c h) fun o st' hq => ?_)
  cases o
  · exact hq
  · rename_i j
    simp only [thenS, blockS]
    rcases hq with ⟨rfl, hq⟩ | ⟨hne, hq⟩
    · rw [if_pos rfl]; exact hq
    · rw [if_neg (by exact hne)]; exact hq
  · exact hq

/-- The end of a row: the state cut down. -/
theorem SWs.done (hC : LibOK P C) (hm : P.follows .mixedOrders = true) {fuel n : Nat} {l : List Code} {st t : St} {told : List Bool} {un : List (Nat × Nat × TypeId)} {c : Cut} {ob : Bool} {obs : List Prop}
    (h : stepF P C X.nf fuel n l st told un c = some (ob, obs, t)) (hn : Nat.ble l.length n = true) (hob : ob = true) (hobs : All obs) (hk : Q .norm t) : SWs P X l st Q := by
  refine SWs.step hC hm h hob hobs ?_
  rw [List.drop_eq_nil_of_le (by simpa using hn)]
  exact ⟨t, Weak.refl _ _, hk⟩

/-- A row that is cut in two in the mind alone. -/
theorem SWs.cond {q : Operand} {x y : Code} {r : List Code} {st : St} {t : Bool} (hq : sev st.tmps q = .c (.bool t)) (h1 : t = true → SWs P X (flat x) st (thenS (fun st1 => SWs P X r st1 Q) Q)) (h2 : t = false → SWs P X (flat y) st (thenS (fun st1 => SWs P X r st1 Q) Q)) : SWs P X (.cond q x y :: r) st Q :=
  SW.cond hq (fun h => SW.of_flat x (h1 h)) (fun h => SW.of_flat y (h2 h))

/-- The end of a round: the state cut down. -/
theorem SWs.round (hC : LibOK P C) (hm : P.follows .mixedOrders = true) {fuel n : Nat} {l : List Code} {st t : St} {told : List Bool} {un : List (Nat × Nat × TypeId)} {c : Cut} {ob : Bool} {obs : List Prop} {next : St → Prop} {i : Nat} {rest : St → Prop}
    (h : stepF P C X.nf fuel n l st told un c = some (ob, obs, t)) (hn : Nat.ble l.length n = true) (hob : ob = true) (hobs : All obs) (hk : next t) : SWs P X l st (roundQ next i rest Q) := by
  refine SWs.step hC hm h hob hobs ?_
  rw [List.drop_eq_nil_of_le (by simpa using hn)]
  exact ⟨t, Weak.refl _ _, hk⟩

/-- The way out of a loop. -/
theorem SWs.out (hC : LibOK P C) (hm : P.follows .mixedOrders = true) {fuel n : Nat} {l l' : List Code} {st t : St} {told : List Bool} {un : List (Nat × Nat × TypeId)} {c : Cut} {ob : Bool} {obs : List Prop} {next : St → Prop} {i : Nat}
    (h : exitF P C X.nf fuel n l st told un c = some (i, ob, obs, t)) (hob : ob = true) (hobs : All obs) (hk : SWs P X l' t Q) : SWs P X l st (roundQ next i (fun st' => SWs P X l' st' Q) Q) := by
  unfold exitF at h
  split at h <;> try (cases h; done)
  rename_i j s hs
  simp only [Option.some.injEq, Prod.mk.injEq] at h
  obtain ⟨rfl, rfl, rfl, rfl⟩ := h
  simp only [bnd_true, Bool.and_eq_true] at hob
  exact SWs.xrow hC hm n l _ s _ hs hob.1 hobs (.inl ⟨rfl, SWs.weak (Weak.cut hob.2) hk⟩)

/-! Functions. -/
def bodyOf (P : Program) (f : FuncId) : List Code := match P.funcs[f]? with
  | some fn => match fn.body with
    | some c => flat c
    | none => []
  | none => []
def ntOf (P : Program) (f : FuncId) : Option Nat := match P.funcs[f]? with
  | some fn => match fn.body with
    | some _ => some fn.ntmps
    | none => none
  | none => none

/-- What a function does from a table on. -/
def Fn (P : Program) (f : FuncId) (X : Cx) (args : List SV) (T : Tab) (nk : Nat) (Post : SV → Tab → Prop) : Prop :=
  ∀ ρ w vs, Rel X ρ T w → All2 (SV.R ρ) args vs → freshA ρ nk → Calls P f vs.toArray w fun e w' => ∃ u v T' ρ', e = .returned u ∧ Post v T' ∧ v.R ρ' u ∧ Agree X.nf ρ ρ' ∧ Rel X ρ' T' w'

theorem Fn.of {f : FuncId} {args : List SV} {T : Tab} {nk nt : Nat} {Post : SV → Tab → Prop} (hnt : ntOf P f = some nt) (hlen : Nat.ble args.length nt = true) (h : SWs P X (bodyOf P f) ⟨argTmps args 0, T, nk, nt⟩ (FinQ P f Post)) : Fn P f X args T nk Post := fun ρ w vs hrel ha hf => by
  unfold ntOf at hnt
  split at hnt <;> try (cases hnt; done)
  rename_i fn hfn
  split at hnt <;> try (cases hnt; done)
  rename_i c hc
  simp only [Option.some.injEq] at hnt; subst hnt
  simp only [bodyOf, hfn, hc] at h
  have hal := ha.length
  simp only [Nat.ble_eq] at hlen
  refine calls_of_wp hfn hc (SW.of_flat c h ρ _ w _ ⟨hrel, fun t x hx => ?_, rfl, hf, ?_⟩ fun ex a' w' ρ' o st' ho hQ hag hrel' => ?_)
  · obtain ⟨_, u, hu, hr⟩ := argTmps_get 0 t x ha hx
    rw [Nat.sub_zero] at hu
    have htl : t < vs.length := (List.getElem?_eq_some_iff.1 hu).1
    exact ⟨u, by rw [Array.getElem?_append_left (by simpa using htl)]; simpa using hu, hr⟩
  · simp; omega
  · obtain ⟨hend, fn', v, hfn', hv, hP⟩ := hQ
    rw [hfn] at hfn'; cases hfn'
    obtain ⟨u, hu, hur⟩ := resS_run hrel' hv
    have : a'.defers = [] ∧ ∃ u, (results fn a'.tmps).run P w' = .ok u w' ∧ ∃ u1 v T' ρ', Ending.returned u = .returned u1 ∧ Post v T' ∧ SV.R ρ' v u1 ∧ Agree X.nf ρ ρ' ∧ Rel X ρ' T' w' :=
      ⟨hrel'.defers, u, hu, u, v, _, ρ', rfl, hP, hur, hag, hrel'.rel⟩
    cases o <;> cases ex <;> first | exact False.elim ho | (simp [isEnd] at hend; done) | exact this

/-- A function gone through at one go. -/
theorem Fn.x (hC : LibOK P C) (hm : P.follows .mixedOrders = true) {fuel : Nat} {f : FuncId} {args : List SV} {T T' : Tab} {nk : Nat} {told : List Bool} {ob : Bool} {obs : List Prop} {r : SV} {Post : SV → Tab → Prop}
    (h : xfun P C fuel f args T nk told = some (ob, obs, r, T')) (hob : ob = true) (hobs : All obs) (hP : Post r T') : Fn P f X args T nk Post := fun ρ w vs hrel ha hf => by
  subst hob
  exact (xfun_run hC hm h hobs hrel ha hf).mono fun e w' ⟨v, ρ', he, hr, hle, hrel'⟩ => ⟨v, r, T', ρ', he, hP, hr, hle.agree, hrel'⟩

/-- The same, of the result alone. -/
theorem Fn.xv (hC : LibOK P C) (hm : P.follows .mixedOrders = true) {fuel : Nat} {f : FuncId} {args : List SV} {T : Tab} {nk : Nat} {told : List Bool} {ob : Bool} {obs : List Prop} {r : SV} {Post : SV → Prop}
    (h : (xfun P C fuel f args T nk told).map (fun q => (q.1, q.2.1, q.2.2.1)) = some (ob, obs, r)) (hob : ob = true) (hobs : All obs) (hP : Post r) : Fn P f X args T nk fun v _ => Post v := by
  cases hx : xfun P C fuel f args T nk told with
  | none => rw [hx] at h; cases h
  | some q =>
    obtain ⟨q1, q2, q3, q4⟩ := q
    rw [hx] at h
    simp only [Option.map_some, Option.some.injEq, Prod.mk.injEq] at h
    obtain ⟨rfl, rfl, rfl⟩ := h
    exact Fn.x hC hm hx hob hobs hP

/-- The world that a function has been called in, below which nothing is turned. -/
def atW (w : World) (nf : Nat) : Cx := ⟨w, w.heap.size, [], nf⟩
theorem Rel.below {w w' : World} {nf : Nat} {ρ : Ren} {T : Tab} (h : Rel (atW w nf) ρ T w') : Below w.heap.size w w' :=
  ⟨h.os, h.tape, h.output, h.size, fun b hb => h.old b hb (by simp [atW])⟩

/-- Values that stand for themselves alone. -/
def SC.sole : SC → Bool
  | .ptr _ _ => false
  | .slc _ _ _ _ _ => false
  | .fn _ caps => caps.isEmpty
  | .row _ _ => false
  | _ => true
def SV.sole : SV → Bool
  | .c x => x.sole
  | .agg cs => cs.all SC.sole
  | _ => false
theorem plain_R {ρ ρ' : Ren} {x : SC} {v : Value} (h : x.R ρ v) (hp : x.sole = true) : x.R ρ' v := by
  cases x <;> first | exact h | (simp [SC.sole] at hp; done) | skip
  case fn f caps =>
    cases caps with
    | nil =>
      obtain ⟨vs, hv, hc⟩ := h
      cases hc
      exact ⟨[], hv, .nil⟩
    | cons a r => simp [SC.sole] at hp
theorem plainS_R {ρ ρ' : Ren} {x : SV} {v : Value} (h : x.R ρ v) (hp : x.sole = true) : x.R ρ' v := by
  cases x with
  | c x => exact plain_R h hp
  | agg cs =>
    obtain ⟨vs, hv, hc⟩ := h
    refine ⟨vs, hv, ?_⟩
    clear hv
    simp only [SV.sole] at hp
    induction hc with
    | nil => exact .nil
    | cons h1 _ ih =>
      simp only [List.all_cons, Bool.and_eq_true] at hp
      exact .cons (plain_R h1 hp.1) (ih hp.2)
  | tup ts => cases hp
  | und => exact trivial

/-- A contract of values alone. -/
def pureCon (spec : List SV → Option SV) : Con := ⟨false, fun args _ _ => match spec args with
  | some v => some (.new ⟨true, [], v, []⟩)
  | none => none⟩
theorem pureCon_ok {f : FuncId} {spec : List SV → Option SV} {fn : Func} (hf : P.funcs[f]? = some fn) (hn : (fn.name == "runtime.NumGoroutine") = false) (hb : fn.body.isNone = false)
    (h : ∀ args v, spec args = some v → v.sole = true ∧ args.all SV.sole = true ∧ ∀ w, Fn P f (atW w 0) args [] 0 fun r _ => r = v) : ConOK P f (pureCon spec) := by
  refine ⟨fun args w => enters_of hf hn hb args w, fun args T kb r hr hob hobs X ρ w vs hrel ha hfr => ?_, fun args T kb r hr => ?_⟩
  · simp only [pureCon] at hr
    split at hr <;> try (cases hr; done)
    rename_i v hv
    simp only [Option.some.injEq, Eff.new.injEq] at hr; subst hr
    obtain ⟨h1, h2, h3⟩ := h args v hv
    rw [List.all_eq_true] at h2
    have hrel0 : Rel (atW w 0) renNone [] w := ⟨rfl, rfl, rfl, Nat.le_refl _, Nat.le_refl _, fun _ _ _ => rfl, fun k b hb => by simp [Tab.blk, Sx.get] at hb, fun k b l hb => by simp [Tab.blk, Sx.get] at hb, fun k l hl => (by cases hl), fun _ _ h => False.elim h⟩
    have ha0 : All2 (SV.R renNone) args vs := by
      clear hv h3
      induction ha with
      | nil => exact .nil
      | cons g1 _ ih => exact .cons (plainS_R g1 (h2 _ (by simp))) (ih fun a ha => h2 a (by simp [ha]))
    refine (h3 w _ w vs hrel0 ha0 fun _ _ => rfl).mono fun e w' ⟨u, v', T', ρ', he, hv', hur, _, hrel'⟩ => ⟨u, ρ, he, ?_, ?_⟩
    · subst hv'; exact plainS_R hur h1
    · exact New.of hrel'.below (Le.refl _) (fun _ _ => rfl) (fun _ _ h => (by simp at h)) (fun _ _ _ _ _ _ h => (by simp at h)) (fun _ _ _ h => (by simp at h)) rfl
  · simp only [pureCon] at hr
    split at hr <;> cases hr
end

end Go.Proofs.Ytkpdkfeklecehaa.Sx
