/-
  Structs and rows of structs of numbers among the arguments.
-/
import Derived.Test.YtkpdkfeklecehaaSxL
namespace Go.Proofs.Ytkpdkfeklecehaa.Sx
open Go.RowKit Go.ChangeShapes Go.WideShapes Go.ChangeAt
set_option linter.unusedVariables false
set_option linter.unusedSimpArgs false

/-! Cells of a struct or an array. -/
/-- Which kind of cell a type has: a number, a bool, a byte. -/
def cellCode (P : Program) (t : TypeId) : Option Nat := match P.underlying t with
  | some (.int .i64) => some 0
  | some .bool => some 1
  | some (.int .u8) => some 2
  | _ => none
def codeOk (x : SC) (k : Nat) : Prop := (k = 0 ∧ x.isInt = true) ∨ (k = 1 ∧ x.isBool = true) ∨ (k = 2 ∧ x.isU8 = true)
theorem cell_code {P : Program} {W : World} {base : Nat} {t : TypeId} {c : Value} {k : Nat} (hk : cellCode P t = some k) (h : Cell.okWide P W .any base t c) : ∃ x : SC, (∀ ρ, x.R ρ c) ∧ codeOk x k := by
  unfold cellCode at hk
  split at hk <;> try (cases hk; done)
  · rename_i he
    simp only [Option.some.injEq] at hk; subst hk
    obtain ⟨n, rfl, _⟩ := arg_int (t := t) he (by simpa only [Value.okWide, he] using h)
    exact ⟨.int n, fun _ => rfl, .inl ⟨rfl, rfl⟩⟩
  · rename_i he
    simp only [Option.some.injEq] at hk; subst hk
    obtain ⟨b, rfl⟩ := arg_bool (t := t) he (by simpa only [Value.okWide, he] using h)
    exact ⟨.bool b, fun _ => rfl, .inr (.inl ⟨rfl, rfl⟩)⟩
  · rename_i he
    simp only [Option.some.injEq] at hk; subst hk
    obtain ⟨b, rfl⟩ := arg_u8 (t := t) he (by simpa only [Value.okWide, he] using h)
    exact ⟨.u8 b, fun _ => rfl, .inr (.inr ⟨rfl, rfl⟩)⟩
def isAggT (P : Program) (t : TypeId) : Bool := match P.underlying t with
  | some (.struct _) => true
  | some (.array _ _) => true
  | _ => false
theorem arg_cells {P : Program} {W : World} {base : Nat} {t : TypeId} {v : Value} {ts : List TypeId} {ks : List Nat} (ht : isAggT P t = true) (hts : P.cellTypes P.depth t = some ts) (hc : P.cellsOf t = ks.length) (hk : ts.map (cellCode P) = ks.map some) (h : Value.okWide P W .any base t v) :
    ∃ (sc : List SC) (vs : List Value), v = .agg vs.toArray ∧ (∀ ρ, All2 (SC.R ρ) sc vs) ∧ All2 codeOk sc ks := by
  have h' : ∃ cs, v = .agg cs ∧ cs.size = P.cellsOf t ∧ Row.okWide P W .any base t cs := by
    unfold isAggT at ht
    unfold Value.okWide at h
    split at ht
    · rename_i hu; rw [hu] at h; exact h
    · rename_i hu; rw [hu] at h; exact h
    · cases ht
  obtain ⟨cs, rfl, hs, ts', hts', _, hcell⟩ := h'
  rw [hts] at hts'; cases hts'
  have gen : ∀ (l : List Value) (ks : List Nat), l.length = ks.length → (∀ (i : Nat) (c : Value), l[i]? = some c → ∃ k : Nat, ks[i]? = some k ∧ ∃ x : SC, (∀ ρ, x.R ρ c) ∧ codeOk x k) → ∃ sc : List SC, (∀ ρ, All2 (SC.R ρ) sc l) ∧ All2 codeOk sc ks := by
    intro l
    induction l with
    | nil =>
      intro ks hl _
      cases ks with
      | nil => exact ⟨[], fun _ => .nil, .nil⟩
      | cons k ks => simp at hl
    | cons c l ih =>
      intro ks hl hh
      cases ks with
      | nil => simp at hl
      | cons k ks =>
        obtain ⟨k', hk', x, hx, hxk⟩ := hh 0 c rfl
        simp at hk'; subst hk'
        obtain ⟨sc, h1, h2⟩ := ih ks (by simpa using hl) fun i c' hc' => by
          obtain ⟨k', hk', r⟩ := hh (i + 1) c' (by simpa using hc')
          exact ⟨k', by simpa using hk', r⟩
        exact ⟨x :: sc, fun ρ => .cons (hx ρ) (h1 ρ), .cons hxk h2⟩
  obtain ⟨sc, h1, h2⟩ := gen cs.toList ks (by rw [Array.length_toList, hs, hc]) fun i c hi => by
    obtain ⟨u, hu, hok⟩ := hcell i c (by simpa using hi)
    have hlk : ts.length = ks.length := by
      have := congrArg List.length hk
      simpa using this
    have hil : i < ts.length := by
      have := (List.getElem?_eq_some_iff.1 hi).1
      simp at this; omega
    rw [Nat.mod_eq_of_lt hil] at hu
    have : (ts.map (cellCode P))[i]? = (ks.map some)[i]? := by rw [hk]
    rw [List.getElem?_map, List.getElem?_map, hu] at this
    simp only [Option.map_some] at this
    cases hki : ks[i]? with
    | none => rw [hki] at this; simp at this
    | some k =>
      rw [hki] at this
      simp only [Option.map_some, Option.some.injEq] at this
      exact ⟨k, rfl, cell_code this hok⟩
  exact ⟨sc, cs.toList, by simp, h1, h2⟩

/-! Rows of structs of numbers. -/
/-- Where in a struct's cells its numbers lie. -/
def intOffs (P : Program) : Nat → TypeId → Option (List Nat)
  | 0, _ => none
  | d + 1, t => match P.underlying t with
    | some (.int .i64) => some [0]
    | some (.struct fs) => (fs.toList.mapM fun f => (intOffs P d f.type).map fun l => l.map fun o => o + f.offset).map fun l => l.flatten
    | _ => none
theorem intOffs_spec {H : Type} {enc : TypeId × Value → H} {P : Program} {W : World} : ∀ (d : Nat) (t : TypeId) (L : List Nat), intOffs P d t = some L → ∀ (fuel : Nat) (cs : List Value) (y : DataW H × List MemPlace), DataW.trod enc P W 0 (fun _ => true) true fuel t cs = some y → ∀ o ∈ L, ∃ z, cs[o]? = some (.int .i64 z)
  | 0, t, L, h, _, _, _, _, _, _ => by simp [intOffs] at h
  | d + 1, t, L, h, fuel, cs, y, hy, o, ho => by
    unfold intOffs at h
    split at h <;> try (cases h; done)
    · rename_i hu
      simp only [Option.some.injEq] at h; subst h
      simp only [List.mem_singleton] at ho; subst ho
      obtain ⟨n, rfl, _⟩ := DataW.trod_int hu hy
      exact ⟨n, rfl⟩
    · rename_i fs hu
      simp only [Option.map_eq_some_iff] at h
      obtain ⟨ls, hls, rfl⟩ := h
      obtain ⟨xs, n, _, _, _, hlen, hf⟩ := DataW.trod_struct hu hy
      obtain ⟨l, hl, hol⟩ := List.mem_flatten.1 ho
      obtain ⟨i, hi⟩ := List.getElem?_of_mem hl
      have hlsl := mapM_some_length hls
      have hil : i < fs.toList.length := by
        have := (List.getElem?_eq_some_iff.1 hi).1
        omega
      have hfi : fs.toList[i]? = some fs.toList[i] := List.getElem?_eq_getElem hil
      have hg := mapM_some_get hls i fs.toList[i] hfi
      rw [hi] at hg
      simp only [Option.map_eq_some_iff] at hg
      obtain ⟨l0, hl0, rfl⟩ := hg
      obtain ⟨o0, ho0, rfl⟩ := List.mem_map.1 hol
      have hfi' : fs[i]? = some fs.toList[i] := by rw [← hfi]; simp
      have hx := hf i _ hfi'
      have hxl : i < xs.length := by rw [hlen]; simpa using hil
      rw [List.getElem?_eq_getElem hxl] at hx
      obtain ⟨z, hz⟩ := intOffs_spec d _ _ hl0 _ _ _ hx o0 ho0
      refine ⟨z, ?_⟩
      rw [List.getElem?_take] at hz
      split at hz
      · rw [List.getElem?_drop] at hz
        rw [Nat.add_comm]; exact hz
      · cases hz

/-- A slice of structs of m numbers each, in a world. -/
def StrAt (m : Nat) (w : World) (v : Value) (n : Nat) (cs : List SC) : Prop := cs.length = n * m ∧ cs.all SC.isInt = true ∧ ∃ (ty : TypeId) (x : Option Loc), (∀ ρ, (⟨cs, ty, true, false⟩ : Blk).R ρ w x) ∧ (∀ (ρ : Ren) (k : Nat), ρ k = some x → (SC.slc k 0 m n none).R ρ v) ∧ ∀ l, x = some l → l.lit = false
theorem arg_structs {H : Type} {enc : TypeId × Value → H} {P : Program} {W : World} {base : Nat} {t e : TypeId} {v : Value} {d : DataW H} {ps : List MemPlace} {m : Nat} {L : List Nat} (hm0 : 0 < m) (ht : P.underlying t = some (.slice e)) (hm : P.cellsOf e = m) (hL : intOffs P P.depth e = some L) (hLm : (List.range m).all (fun j => L.contains j) = true)
    (hval : Value.okWide P W .any base t v) (hd : DataW.Trod enc P W 0 (fun _ => true) true t v d ps) : ∃ n cs, StrAt m W v n cs := by
  obtain ⟨fuel, hd⟩ := hd
  have hcell : v.cells.toList = [v] := by
    simp only [Value.okWide, ht, Cell.okWide] at hval
    cases v <;> simp only [Cell.ok, ht] at hval <;> rfl
  rw [hcell] at hd
  have nil : ∀ a : Option Addr, ∃ n cs, StrAt m W (.slice a 0 0) n cs := fun a => ⟨0, [], by simp, rfl, 0, none, fun ρ => ⟨rfl, rfl⟩, fun ρ k hk => .inl ⟨hk, ⟨_, rfl⟩, rfl, fun n hn => by cases hn⟩, fun l hl => by cases hl⟩
  rcases DataW.trod_slice ht hd with ⟨hv, _⟩ | ⟨a, len, cap, elems, rest, n, _, hv, hdx, _, hlc, hcm, hlen, hel, hsp, _⟩
  · simp only [List.cons.injEq, and_true] at hv
    subst hv
    exact nil none
  · simp only [List.cons.injEq, and_true] at hv
    subst hv
    by_cases hcap : cap = 0
    · subst hcap
      obtain rfl : len = 0 := by omega
      exact nil _
    obtain ⟨hrl, hre⟩ := hsp rfl
    have hat : ∀ i, i < cap → ∀ j, j < m → ∃ z, W.cell? ((a.add (i * m)).add j) = some (.int .i64 z) := fun i hi j hj => by
      have : ∃ y, (W.cells? 0 (a.add (i * P.cellsOf e)) (P.cellsOf e)).bind (DataW.trod enc P W 0 (fun _ => true) true n e) = some y := by
        by_cases hil : i < len
        · exact ⟨_, (hel i hil).trans (List.getElem?_eq_getElem (by omega))⟩
        · have h1 := hre (i - len) (by omega)
          rw [show len + (i - len) = i by omega] at h1
          exact ⟨_, h1.trans (List.getElem?_eq_getElem (by omega))⟩
      obtain ⟨y, hy⟩ := this
      rw [hm] at hy
      simp only [Option.bind_eq_some_iff] at hy
      obtain ⟨l, hl, hy⟩ := hy
      obtain ⟨_, _, hg⟩ := World.cells?_some hl
      have hjL : j ∈ L := by
        have := List.all_eq_true.1 hLm j (by simpa using hj)
        simpa using this
      obtain ⟨z, hz⟩ := intOffs_spec _ _ _ hL _ _ _ hy j hjL
      exact ⟨z, by rw [hg j hj, hz]⟩
    obtain ⟨hspot, cs, ty, fr, hh⟩ := liesAt_of ht hval
    obtain ⟨g, o, sp⟩ := a
    simp only at hspot hh
    subst hspot
    have hget : ∀ k, k < cap * m → ∃ z, cs.toList[o + k]? = some (.int .i64 z) := fun k hk => by
      have hi : k / m < cap := Nat.div_lt_of_lt_mul (by rw [Nat.mul_comm]; exact hk)
      have hj : k % m < m := Nat.mod_lt _ (by omega)
      obtain ⟨z, hz⟩ := hat (k / m) hi (k % m) hj
      rw [add_eq, add_eq, cell_of hh] at hz
      have : o + k / m * m + k % m = o + k := by
        have := Nat.div_add_mod k m
        rw [Nat.mul_comm] at this; omega
      rw [this] at hz
      exact ⟨z, by simpa using hz⟩
    have hlm : len * m ≤ cap * m := Nat.mul_le_mul_right m hlc
    have hle : o + cap * m ≤ cs.size := by
      have hp : 0 < cap * m := Nat.mul_pos (by omega) (by omega)
      obtain ⟨z, hz⟩ := hget (cap * m - 1) (by omega)
      have := (List.getElem?_eq_some_iff.1 hz).1
      simp at this; omega
    have hex : ∃ zs : List Int, zs.length = len * m ∧ (cs.toList.drop o).take (len * m) = zs.map fun z => Value.int .i64 z := by
      have gen : ∀ q, q ≤ len * m → ∃ zs : List Int, zs.length = q ∧ (cs.toList.drop o).take q = zs.map fun z => Value.int .i64 z := by
        intro q
        induction q with
        | zero => intro _; exact ⟨[], rfl, by simp⟩
        | succ q ih =>
          intro hq
          obtain ⟨zs, h1, h2⟩ := ih (by omega)
          obtain ⟨z, hz⟩ := hget q (by omega)
          refine ⟨zs ++ [z], by simp [h1], ?_⟩
          have hlt : q < (cs.toList.drop o).length := by simp; omega
          have hg : (cs.toList.drop o)[q]? = some (.int .i64 z) := by rw [List.getElem?_drop]; exact hz
          rw [List.take_add_one, h2, hg]; simp
      exact gen _ (Nat.le_refl _)
    obtain ⟨zs, hz1, hz2⟩ := hex
    refine ⟨len, zs.map SC.int, by simp [hz1], ?_, ty, some ⟨g, cs.size - o, false, o⟩, fun ρ => ?_, fun ρ k hk => ?_, fun l hl => by cases hl; rfl⟩
    · rw [List.all_eq_true]; intro x hx; obtain ⟨_, _, rfl⟩ := List.mem_map.1 hx; rfl
    · refine ⟨cs.toList.take o, (cs.toList.drop o).take (len * m), (cs.toList.drop o).drop (len * m), fr, ?_, ?_, ?_, fun h => by simp at h, ?_, fun h => by simp at h, fun _ h => by simp at h⟩
      · rw [List.take_append_drop, List.take_append_drop]; simpa using hh
      · rw [hz2]
        exact All2.map (R := SC.R ρ) (f := SC.int) (g := fun z => Value.int .i64 z) (fun z => rfl) _
      · simp; omega
      · simp; omega
    · refine .inr ⟨_, o, cap, hk, rfl, hlc, fun h0 => ?_, fun n hn => by cases hn⟩
      simp only [Nat.add_zero, Nat.zero_add, true_and]
      omega

end Go.Proofs.Ytkpdkfeklecehaa.Sx
