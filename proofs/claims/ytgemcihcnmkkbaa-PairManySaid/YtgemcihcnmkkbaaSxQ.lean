/-
  Rows of numbers among the arguments.
-/
import Derived.Test.YtgemcihcnmkkbaaSxL
namespace Go.Proofs.Ytgemcihcnmkkbaa.Sx
open Go.RowKit Go.ChangeShapes Go.WideShapes Go.ChangeAt
set_option linter.unusedVariables false
set_option linter.unusedSimpArgs false

/-- A slice whose numbers are these, in a world. -/
def IntsAt (w : World) (v : Value) (xs : List Int) : Prop := ∃ (ty : TypeId) (x : Option Loc), (∀ ρ, (⟨xs.map SC.int, ty, true, false⟩ : Blk).R ρ w x) ∧ (∀ (ρ : Ren) (k : Nat), ρ k = some x → (SC.slc k 0 1 xs.length none).R ρ v) ∧ ∀ l, x = some l → l.lit = false

theorem ints_of_trod {H : Type} {enc : TypeId × Value → H} {P : Program} {W : World} {t e : TypeId} {v : Value} {fuel : Nat} {y : DataW H × List MemPlace} (ht : P.underlying t = some (.slice e)) (he : P.underlying e = some (.int .i64)) (hc : P.cellsOf e = 1)
    (hd : DataW.trod enc P W 0 (fun _ => true) true fuel t [v] = some y) : ∃ xs, IntsAt W v xs := by
  have nil : ∀ a : Option Addr, IntsAt W (.slice a 0 0) [] := fun a => ⟨0, none, fun ρ => ⟨rfl, rfl⟩, fun ρ k hk => .inl ⟨hk, ⟨_, rfl⟩, rfl, fun n hn => by cases hn⟩, fun l hl => by cases hl⟩
  rcases open_ints ht he hc hd with ⟨hv, _⟩ | ⟨a, len, cap, zs, hv, _, hlc, hcm, hzl, hyx, hcs, hwf⟩
  · simp only [List.cons.injEq, and_true] at hv
    subst hv
    exact ⟨[], nil none⟩
  · simp only [List.cons.injEq, and_true] at hv
    subst hv
    simp only [if_true] at hzl
    by_cases hcap : cap = 0
    · subst hcap
      obtain rfl : len = 0 := by omega
      exact ⟨[], nil _⟩
    have hfirst := hcs 0 (by omega)
    obtain ⟨g, o, sp⟩ := a
    obtain ⟨hspot, cs, ty, fr, hh⟩ : sp = none ∧ ∃ cs ty fr, W.heap[g]? = some (.cells cs ty fr) := by
      have hb : ((⟨g, o, sp⟩ : Addr).add 0) = ⟨g, o, sp⟩ := by simp [Addr.add]
      rw [hb] at hfirst
      simp only [World.cell?] at hfirst
      split at hfirst <;> try (cases hfirst; done)
      rename_i c e' fr hh
      cases sp with
      | none => exact ⟨rfl, c, e', fr, hh⟩
      | some q => simp at hfirst
    subst hspot
    have hget : ∀ i, i < cap → cs.toList[o + i]? = some (.int .i64 (zs.getD i 0)) := fun i hi => by
      have := hcs i (by omega)
      rw [add_eq, cell_of hh] at this
      simpa using this
    have hlen : o + cap ≤ cs.size := by
      have := hget (cap - 1) (by omega)
      have := (List.getElem?_eq_some_iff.1 this).1
      simp at this; omega
    refine ⟨zs.take len, ty, some ⟨g, cs.size - o, false, o⟩, fun ρ => ?_, fun ρ k hk => ?_, fun l hl => by cases hl; rfl⟩
    · refine ⟨cs.toList.take o, (cs.toList.drop o).take len, (cs.toList.drop o).drop len, fr, ?_, ?_, ?_, fun h => by simp at h, ?_, fun h => by simp at h, fun _ h => by simp at h⟩
      · rw [List.take_append_drop, List.take_append_drop]; simpa using hh
      · have e1 : (cs.toList.drop o).take len = (zs.take len).map fun z => Value.int .i64 z := by
          apply List.ext_getElem?
          intro i
          by_cases hi : i < len
          · rw [List.getElem?_take_of_lt hi, List.getElem?_drop, hget i (by omega), List.getElem?_map, List.getElem?_take_of_lt hi]
            have : i < zs.length := by omega
            simp [List.getD, this]
          · rw [List.getElem?_eq_none (by simp; omega), List.getElem?_eq_none (by simp; omega)]
        rw [e1]
        exact All2.map (R := SC.R ρ) (f := SC.int) (g := fun z => Value.int .i64 z) (fun z => rfl) _
      · simp; omega
      · simp; omega
    · refine .inr ⟨_, o, cap, hk, ?_, ?_, fun h0 => ?_, fun n hn => by cases hn⟩
      · congr 1
        simp; omega
      · simp; omega
      · simp only [Nat.zero_add, Nat.add_zero, Nat.mul_one]
        refine ⟨trivial, ?_⟩
        omega

/-- A row of numbers among the arguments. -/
theorem arg_intsL {H : Type} {enc : TypeId × Value → H} {P : Program} {W : World} {base : Nat} {t e : TypeId} {v : Value} {d : DataW H} {ps : List MemPlace} (ht : P.underlying t = some (.slice e)) (he : P.underlying e = some (.int .i64)) (hc : P.cellsOf e = 1)
    (hval : Value.okWide P W .any base t v) (hd : DataW.Trod enc P W 0 (fun _ => true) true t v d ps) : ∃ xs, IntsAt W v xs := by
  obtain ⟨fuel, hd⟩ := hd
  have hcell : v.cells.toList = [v] := by
    simp only [Value.okWide, ht, Cell.okWide] at hval
    cases v <;> simp only [Cell.ok, ht] at hval <;> rfl
  rw [hcell] at hd
  exact ints_of_trod ht he hc hd

end Go.Proofs.Ytgemcihcnmkkbaa.Sx
