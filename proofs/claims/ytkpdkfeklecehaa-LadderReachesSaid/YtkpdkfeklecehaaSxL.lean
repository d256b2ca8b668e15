/-
  From what a law's function does to the statement about it.
-/
import Derived.Test.YtkpdkfeklecehaaSxJ
import Derived.ProofKit
import Derived.SizedLaws
import Derived.OpenShut
import Derived.Carry
import Derived.ChangeSlices
import Derived.ChangeMaps5
namespace Go.Proofs.Ytkpdkfeklecehaa.Sx
open Go.RowKit Go.ChangeShapes Go.WideShapes Go.ChangeAt
set_option linter.unusedVariables false
set_option linter.unusedSimpArgs false

section
variable {H : Type} {enc : TypeId × Value → H} {P : Program}

theorem args_kept (hl : laidOutB P = true) {W W' : World} (hb : Below W.heap.size W W') : ∀ {ts : List TypeId} {vs : List Value} {ds : List (DataW H)} {ps : List MemPlace}, DataW.TrodAll enc P W 0 (fun _ => true) true ts vs ds ps →
    ts.all (fun t => P.readableRec t && decide (t < P.types.size)) = true → (∀ x ∈ ps, x.block < W.heap.size) → DataW.TrodAll enc P W' 0 (fun b => decide (b < W.heap.size)) true ts vs ds ps
  | [], vs, ds, ps, h, _, _ => by
    obtain ⟨rfl, rfl, rfl⟩ := trodAll_nil h
    exact trodAll_mk0
  | t :: ts, vs, ds, ps, h, ht, hp => by
    obtain ⟨v, vs1, d, ds1, a, b, rfl, rfl, rfl, h1, h2⟩ := trodAll_cons h
    simp only [List.all_cons, Bool.and_eq_true, decide_eq_true_eq] at ht
    exact trodAll_cons_mk (Below.trod hl ht.1.1 ht.1.2 h1 hb fun x hx => hp x (by simp [hx])) (args_kept hl hb h2 ht.2 fun x hx => hp x (by simp [hx]))

/-- What a law's function leaves behind it. -/
theorem law_post {f : Func} {s : ChangeSpec} (hl : laidOutB P = true) (hts : f.params.toList.all (fun t => P.readableRec t && decide (t < P.types.size)) = true) {tb : TypeId} (hres : f.resultTypes = #[tb]) (hub : P.underlying tb = some .bool) (hvars : s.vars = [])
    {W W' : World} {args : Array Value} {ds gs : List (DataW H)} {before : List MemPlace} (hW : DataW.Whole enc P f.params.toList s.vars false W args.toList ds gs before) (hb : Below W.heap.size W W')
    (hfn : s.fn H ds = { results := [.lit (.bool true)], args := ds }) : s.post enc P f false true false false W args (.bool true) W' := by
  have hlt : ∀ p ∈ before, p.block < W.heap.size := fun p hp => by simpa using hW.lt p hp
  have hW0 := hW
  obtain ⟨p, q, hA, hV, rfl, hfz, hnd⟩ := hW
  rw [hvars] at hV
  obtain ⟨rfl, rfl⟩ := trodVars_none hV
  rw [List.append_nil] at hlt
  refine ⟨ds, [], p ++ [], [], p, [], hW0, ?_, ?_, ?_, hb.frame _, fun h => by cases h⟩
  · rw [List.append_nil, hfn, hres]
    exact trodAll_cons_mk (shut_bool hub true) trodAll_mk0
  · rw [List.append_nil, hfn]
    exact args_kept hl hb hA hts hlt
  · rw [List.append_nil, hfn, hvars]
    exact rfl
end

/-- A law's function, walked through: what the row asks. -/
theorem law_calls {H : Type} {enc : TypeId × Value → H} {P : Program} {f : FuncId} {fn : Func} {s : ChangeSpec} (hl : laidOutB P = true) (hts : fn.params.toList.all (fun t => P.readableRec t && decide (t < P.types.size)) = true) {tb : TypeId} (hres : fn.resultTypes = #[tb]) (hub : P.underlying tb = some .bool) (hvars : s.vars = [])
    {W : World} {args : Array Value} {ds gs : List (DataW H)} {before : List MemPlace} (hW : DataW.Whole enc P fn.params.toList s.vars false W args.toList ds gs before) (hfn : s.fn H ds = { results := [.lit (.bool true)], args := ds })
    {svs : List SV} {T : Tab} {nk : Nat} {ρ : Ren} (hF : Sx.Fn P f (atW W 0) svs T nk fun r _ => r = .c (.bool true)) (hrel : Rel (atW W 0) ρ T W) (ha : All2 (SV.R ρ) svs args.toList) (hf : freshA ρ nk) :
    Calls P f args W fun e W' => ∃ v, e = .returned v ∧ s.post enc P fn false true false false W args v W' := by
  have h := hF ρ W args.toList hrel ha hf
  rw [Array.toArray_toList] at h
  refine h.mono fun e W' ⟨u, v, T', ρ', he, hv, hr, _, hrel'⟩ => ?_
  subst hv
  obtain rfl : u = .bool true := hr
  exact ⟨_, he, law_post hl hts hres hub hvars hW hrel'.below hfn⟩

/-! Arguments. -/
section
variable {P : Program} {W : World} {base : Nat} {t : TypeId} {v : Value}
theorem arg_num {k : IntKind} (ht : P.underlying t = some (.int k)) (h : Value.okWide P W .any base t v) : ∃ n, v = .int k n ∧ k.has n := by
  simp only [Value.okWide, ht, Cell.okWide] at h
  cases v <;> simp only [Cell.ok, ht] at h
  obtain ⟨rfl, h⟩ := h
  exact ⟨_, rfl, h⟩
theorem arg_bool (ht : P.underlying t = some .bool) (h : Value.okWide P W .any base t v) : ∃ b : Bool, v = .bool b := by
  simp only [Value.okWide, ht, Cell.okWide] at h
  cases v <;> simp only [Cell.ok, ht] at h
  exact ⟨_, rfl⟩
theorem arg_u64 (ht : P.underlying t = some (.int .u64)) (h : Value.okWide P W .any base t v) : ∃ x : UInt64, v = .int .u64 x.toNat := by
  obtain ⟨n, rfl, h2⟩ := arg_num ht h
  have h' : IntKind.u64.min ≤ n ∧ n ≤ IntKind.u64.max := h2
  simp [IntKind.min, IntKind.max, IntKind.signed, IntKind.bits] at h'
  refine ⟨UInt64.ofNat n.toNat, ?_⟩
  congr 1
  rw [UInt64.toNat_ofNat']
  omega
theorem arg_u8 (ht : P.underlying t = some (.int .u8)) (h : Value.okWide P W .any base t v) : ∃ x : UInt8, v = .int .u8 x.toNat := by
  obtain ⟨n, rfl, h2⟩ := arg_num ht h
  have h' : IntKind.u8.min ≤ n ∧ n ≤ IntKind.u8.max := h2
  simp [IntKind.min, IntKind.max, IntKind.signed, IntKind.bits] at h'
  refine ⟨UInt8.ofNat n.toNat, ?_⟩
  congr 1
  rw [UInt8.toNat_ofNat']
  omega
theorem arg_int (ht : P.underlying t = some (.int .i64)) (h : Value.okWide P W .any base t v) : ∃ n : Int, v = .int .i64 n ∧ -9223372036854775808 ≤ n ∧ n ≤ 9223372036854775807 := by
  obtain ⟨n, rfl, h2⟩ := arg_num ht h
  have h' : IntKind.i64.min ≤ n ∧ n ≤ IntKind.i64.max := h2
  simp [IntKind.min, IntKind.max, IntKind.signed, IntKind.bits] at h'
  exact ⟨n, rfl, h'⟩
theorem arg_arr {e : TypeId} {n : Nat} {ts : List TypeId} (ht : P.underlying t = some (.array n e)) (hts : P.cellTypes P.depth t = some ts) (hc : P.cellsOf t = n) (hall : ts.all (fun u => u == e) = true) (h : Value.okWide P W .any base t v) :
    ∃ cs : List Value, v = .agg cs.toArray ∧ cs.length = n ∧ ∀ c ∈ cs, Cell.okWide P W .any base e c := by
  simp only [Value.okWide, ht] at h
  obtain ⟨cs, rfl, hs, ts', hts', _, hcell⟩ := h
  rw [hts] at hts'; cases hts'
  refine ⟨cs.toList, by simp, by rw [Array.length_toList, hs, hc], fun c hcm => ?_⟩
  obtain ⟨i, hi⟩ := List.mem_iff_getElem?.1 hcm
  obtain ⟨u, hu, hok⟩ := hcell i c (by simpa using hi)
  have := List.all_eq_true.1 hall u (List.mem_of_getElem? hu)
  simp only [beq_iff_eq] at this
  subst this; exact hok
theorem cell_u64 {e : TypeId} {c : Value} (he : P.underlying e = some (.int .u64)) (h : Cell.okWide P W .any base e c) : ∃ x : UInt64, c = .int .u64 x.toNat :=
  arg_u64 (t := e) he (by simpa only [Value.okWide, he] using h)
theorem cell_u8 {e : TypeId} {c : Value} (he : P.underlying e = some (.int .u8)) (h : Cell.okWide P W .any base e c) : ∃ x : UInt8, c = .int .u8 x.toNat :=
  arg_u8 (t := e) he (by simpa only [Value.okWide, he] using h)
theorem arg_u64s {e : TypeId} {n : Nat} {ts : List TypeId} (ht : P.underlying t = some (.array n e)) (he : P.underlying e = some (.int .u64)) (hts : P.cellTypes P.depth t = some ts) (hc : P.cellsOf t = n) (hall : ts.all (fun u => u == e) = true) (h : Value.okWide P W .any base t v) :
    ∃ xs : List UInt64, xs.length = n ∧ v = .agg (xs.map fun x => Value.int .u64 x.toNat).toArray := by
  obtain ⟨cs, rfl, hl, hcs⟩ := arg_arr ht hts hc hall h
  have : ∃ xs : List UInt64, cs = xs.map fun x => Value.int .u64 x.toNat := by
    clear hl h
    induction cs with
    | nil => exact ⟨[], rfl⟩
    | cons c cs ih =>
      obtain ⟨x, rfl⟩ := cell_u64 he (hcs c (by simp))
      obtain ⟨xs, rfl⟩ := ih fun c hc => hcs c (by simp [hc])
      exact ⟨x :: xs, rfl⟩
  obtain ⟨xs, rfl⟩ := this
  exact ⟨xs, by simpa using hl, rfl⟩
theorem arg_u8s {e : TypeId} {n : Nat} {ts : List TypeId} (ht : P.underlying t = some (.array n e)) (he : P.underlying e = some (.int .u8)) (hts : P.cellTypes P.depth t = some ts) (hc : P.cellsOf t = n) (hall : ts.all (fun u => u == e) = true) (h : Value.okWide P W .any base t v) :
    ∃ xs : List UInt8, xs.length = n ∧ v = .agg (xs.map fun x => Value.int .u8 x.toNat).toArray := by
  obtain ⟨cs, rfl, hl, hcs⟩ := arg_arr ht hts hc hall h
  have : ∃ xs : List UInt8, cs = xs.map fun x => Value.int .u8 x.toNat := by
    clear hl h
    induction cs with
    | nil => exact ⟨[], rfl⟩
    | cons c cs ih =>
      obtain ⟨x, rfl⟩ := cell_u8 he (hcs c (by simp))
      obtain ⟨xs, rfl⟩ := ih fun c hc => hcs c (by simp [hc])
      exact ⟨x :: xs, rfl⟩
  obtain ⟨xs, rfl⟩ := this
  exact ⟨xs, by simpa using hl, rfl⟩
theorem arg_string (ht : P.underlying t = some .string) (h : Value.okWide P W .any base t v) : ∃ s : List UInt8, v = .string ⟨s.toArray⟩ := by
  simp only [Value.okWide, ht, Cell.okWide] at h
  cases v <;> simp only [Cell.ok, ht] at h
  rename_i s
  exact ⟨s.data.toList, by simp⟩
end

/-! Rows among the arguments. -/
def renL (xs : List (Option Loc)) (rs : List (Value × List UInt8) := []) : Ren := ⟨fun k => xs[k]?, fun v bs => (v, bs) ∈ rs⟩
def tabL : Nat → List Blk → Tab
  | _, [] => []
  | k, b :: r => (k, some b) :: tabL (k + 1) r
theorem tabL_blk : ∀ {bs : List Blk} {k j : Nat} {b : Blk}, (tabL k bs).blk j = some b → k ≤ j ∧ bs[j - k]? = some b
  | [], k, j, b, h => by simp [tabL, Tab.blk, get] at h
  | c :: r, k, j, b, h => by
    simp only [tabL] at h
    rw [blk_cons] at h
    by_cases hkj : k = j
    · subst hkj; rw [if_pos rfl] at h; cases h; exact ⟨Nat.le_refl _, by simp⟩
    · rw [if_neg hkj] at h
      obtain ⟨h1, h2⟩ := tabL_blk h
      refine ⟨by omega, ?_⟩
      have : j - k = (j - (k + 1)) + 1 := by omega
      rw [this, List.getElem?_cons_succ]; exact h2
/-- A block that is only looked at. -/
def ROb (ρ : Ren) (W : World) (b : Blk) (x : Option Loc) : Prop := b.own = false ∧ b.R ρ W x ∧ ∀ l, x = some l → l.lit = false
theorem relN {W : World} {bs : List Blk} {xs : List (Option Loc)} {rs : List (Value × List UInt8)} (h : All2 (ROb (renL xs rs) W) bs xs) (hr : ∀ p ∈ rs, BytesAt W p.1 p.2) : Rel (atW W 0) (renL xs rs) (tabL 0 bs) W :=
  ⟨rfl, rfl, rfl, Nat.le_refl _, Nat.le_refl _, fun _ _ _ => rfl, fun k b hb => by
    obtain ⟨_, h1⟩ := tabL_blk hb
    obtain ⟨x, hx, hR⟩ := h.get h1
    exact ⟨x, by simpa [renL] using hx, hR.2.1⟩, fun k b l hb ho hl => by
    obtain ⟨_, h1⟩ := tabL_blk hb
    obtain ⟨x, hx, hR⟩ := h.get h1
    exact absurd ho (by rw [hR.1]; simp), fun k l hl hlit => by
    have hlen := h.length
    simp only [renL] at hl
    have hk := (List.getElem?_eq_some_iff.1 hl).1
    have h1 : bs[k]? = some bs[k] := by rw [List.getElem?_eq_getElem]
    obtain ⟨x, hx, hR⟩ := h.get h1
    rw [hl] at hx; cases hx
    exact absurd hlit (by rw [hR.2.2 l rfl]; simp), fun v bs h => (hr (v, bs) h).old⟩
theorem renL_fresh (xs : List (Option Loc)) {rs : List (Value × List UInt8)} {k : Nat} (h : xs.length ≤ k) : freshA (renL xs rs) k := fun j hj => by
  simp only [renL]; exact List.getElem?_eq_none (by omega)

theorem liesAt_of {P : Program} {W : World} {base : Nat} {t e : TypeId} {a : Addr} {len cap : Nat} (ht : P.underlying t = some (.slice e)) (h : Value.okWide P W .any base t (.slice (some a) len cap)) : a.spot = none ∧ ∃ cs ty fr, W.heap[a.block]? = some (.cells cs ty fr) := by
  simp only [Value.okWide, ht, Cell.okWide, Cell.ok] at h
  obtain ⟨_, _, _, hs, row, cells, hsh, _⟩ := h
  refine ⟨hs, ?_⟩
  simp only [World.shape?] at hsh
  split at hsh <;> try (cases hsh; done)
  rename_i c e' fr hh
  exact ⟨c, e', fr, hh⟩

/-- What is read as bytes is a row of bytes. -/
theorem bytes_of_trod {H : Type} {enc : TypeId × Value → H} {P : Program} {W : World} {t e : TypeId} {v : Value} {fuel : Nat} {y : DataW H × List MemPlace} (ht : P.underlying t = some (.slice e)) (he : P.underlying e = some (.int .u8)) (hc : P.cellsOf e = 1)
    (hd : DataW.trod enc P W 0 (fun _ => true) true fuel t [v] = some y) : ∃ bs, BytesAt W v bs ∧ v.oneCell' = true ∧ (bs = [] ∨ ∃ elems spare, y.1 = .slice elems spare ∧ elems.length = bs.length) := by
  have nil : ∀ a : Option Addr, BytesAt W (.slice a 0 0) [] := fun a => ⟨0, ⟨[], 0, true, false⟩, none, ⟨rfl, rfl, rfl, rfl, rfl⟩, fun ρ => ⟨rfl, rfl⟩, fun ρ k hk => .inl ⟨hk, ⟨_, rfl⟩, rfl, fun n hn => by cases hn⟩, fun l hl => by cases hl⟩
  rcases open_ints ht he hc hd with ⟨hv, _⟩ | ⟨a, len, cap, zs, hv, _, hlc, hcm, hzl, hyx, hcs, hwf⟩
  · simp only [List.cons.injEq, and_true] at hv
    subst hv
    exact ⟨[], nil none, rfl, .inl rfl⟩
  · simp only [List.cons.injEq, and_true] at hv
    subst hv
    simp only [if_true] at hzl
    by_cases hcap : cap = 0
    · subst hcap
      obtain rfl : len = 0 := by omega
      exact ⟨[], nil _, rfl, .inl rfl⟩
    have hfirst := hcs 0 (by omega)
    obtain ⟨g, o, sp⟩ := a
    obtain ⟨hspot, cs, ty, fr, hh⟩ : sp = none ∧ ∃ cs ty fr, W.heap[g]? = some (.cells cs ty fr) := by
      have hb : ((⟨g, o, sp⟩ : Addr).add 0) = ⟨g, o, sp⟩ := by simp [Addr.add]
      rw [hb] at hfirst
      simp only [World.cell?] at hfirst
      split at hfirst <;> try (cases hfirst; done)
      rename_i c e' fr hh
      cases sp with
      | none => exact ⟨rfl, c, e', fr, hh⟩
      | some q => simp at hfirst
    subst hspot
    have hget : ∀ i, i < cap → cs.toList[o + i]? = some (.int .u8 (zs.getD i 0)) := fun i hi => by
      have := hcs i (by omega)
      rw [add_eq, cell_of hh] at this
      simpa using this
    -- the offset, or the row's end where nothing is there
    refine ⟨(zs.take len).map fun z => UInt8.ofNat z.toNat, ⟨0, ⟨((zs.take len).map fun z => UInt8.ofNat z.toNat).map SC.u8, ty, true, false⟩, some ⟨g, cs.size - min o cs.size, false, min o cs.size⟩, ⟨rfl, rfl, ?_, rfl, ?_⟩, fun ρ => ?_, fun ρ k hk => ?_, fun l hl => by cases hl; rfl⟩, rfl, .inr ⟨_, _, by rw [hyx], by simp [lits]⟩⟩
    · simp
    · rw [List.all_eq_true]; intro y hy; obtain ⟨_, _, rfl⟩ := List.mem_map.1 hy; rfl
    · have hlen : cap ≠ 0 → o + cap ≤ cs.size := fun h0 => by
        have := hget (cap - 1) (by omega)
        have := (List.getElem?_eq_some_iff.1 this).1
        simp at this; omega
      refine ⟨cs.toList.take (min o cs.size), (cs.toList.drop (min o cs.size)).take len, (cs.toList.drop (min o cs.size)).drop len, fr, ?_, ?_, ?_, fun h => by simp at h, ?_, fun h => by simp at h, fun _ h => by simp at h⟩
      · rw [List.take_append_drop, List.take_append_drop]; simpa using hh
      · by_cases h0 : len = 0
        · subst h0; simp; exact .nil
        · have hm : min o cs.size = o := by have := hlen (by omega); omega
          rw [hm]
          have e1 : (cs.toList.drop o).take len = (zs.take len).map fun z => Value.int .u8 z := by
            apply List.ext_getElem?
            intro i
            by_cases hi : i < len
            · rw [List.getElem?_take_of_lt hi, List.getElem?_drop, hget i (by omega), List.getElem?_map, List.getElem?_take_of_lt hi]
              have : i < zs.length := by omega
              simp [List.getD, this]
            · rw [List.getElem?_eq_none (by simp; omega), List.getElem?_eq_none (by simp; omega)]
          rw [e1, List.map_map]
          have gen : ∀ (l : List Int), (∀ n ∈ l, (Lit.int .u8 n).wf = true) → All2 (SC.R ρ) (l.map (SC.u8 ∘ fun z => UInt8.ofNat z.toNat)) (l.map fun z => Value.int .u8 z) := by
            intro l
            induction l with
            | nil => intro _; exact .nil
            | cons z l ih =>
              intro hw
              refine .cons ?_ (ih fun n hn => hw n (by simp [hn]))
              have := hw z (by simp)
              simp [Lit.wf, IntKind.min, IntKind.max, IntKind.signed, IntKind.bits] at this
              simp only [Function.comp, SC.R, Value.int.injEq, true_and]
              rw [UInt8.toNat_ofNat']
              omega
          exact gen _ fun n hn => hwf n (List.mem_of_mem_take hn)
      · simp; omega
      · simp
    · refine .inr ⟨_, o, cap, hk, ?_, ?_, fun h0 => ?_, fun n hn => by cases hn⟩
      · congr 1
        simp; omega
      · simp; omega
      · have := hget (cap - 1) (by omega)
        have := (List.getElem?_eq_some_iff.1 this).1
        simp at this
        simp only [Nat.zero_add, Nat.add_zero, Nat.mul_one]
        omega

/-- A row of bytes among the arguments. -/
theorem arg_bytes {H : Type} {enc : TypeId × Value → H} {P : Program} {W : World} {base : Nat} {t e : TypeId} {v : Value} {d : DataW H} {ps : List MemPlace} (ht : P.underlying t = some (.slice e)) (he : P.underlying e = some (.int .u8)) (hc : P.cellsOf e = 1)
    (hval : Value.okWide P W .any base t v) (hd : DataW.Trod enc P W 0 (fun _ => true) true t v d ps) : ∃ bs, BytesAt W v bs := by
  obtain ⟨fuel, hd⟩ := hd
  have hcell : v.cells.toList = [v] := by
    simp only [Value.okWide, ht, Cell.okWide] at hval
    cases v <;> simp only [Cell.ok, ht] at hval <;> rfl
  rw [hcell] at hd
  obtain ⟨bs, h, _⟩ := bytes_of_trod ht he hc hd
  exact ⟨bs, h⟩

/-- The same, with a bound: no more than memory has. -/
theorem arg_bytesL {H : Type} {enc : TypeId × Value → H} {P : Program} {W : World} {base : Nat} {t e : TypeId} {v : Value} {d : DataW H} {ps : List MemPlace} {ts : List TypeId} {ds : List (DataW H)} {j : Nat} (hz : (DataW.weightsEach P ts ds).all (· ≤ reachBytes) = true) (htj : ts[j]? = some t) (hdj : ds[j]? = some d) (hbe : P.bytesOf e = 1)
    (ht : P.underlying t = some (.slice e)) (he : P.underlying e = some (.int .u8)) (hc : P.cellsOf e = 1)
    (hval : Value.okWide P W .any base t v) (hd : DataW.Trod enc P W 0 (fun _ => true) true t v d ps) : ∃ bs, bs.length ≤ 140737488351232 ∧ BytesAt W v bs := by
  obtain ⟨fuel, hd⟩ := hd
  have hcell : v.cells.toList = [v] := by
    simp only [Value.okWide, ht, Cell.okWide] at hval
    cases v <;> simp only [Cell.ok, ht] at hval <;> rfl
  rw [hcell] at hd
  obtain ⟨bs, h, _, hl⟩ := bytes_of_trod ht he hc hd
  refine ⟨bs, ?_, h⟩
  rcases hl with rfl | ⟨elems, spare, h1, h2⟩
  · simp
  · simp only at h1; subst h1
    have := sized_slice hz htj hdj ht
    rw [hbe] at this
    have hr : reachBytes = 140737488351232 := rfl
    omega

theorem cells?_one_inv {w : World} {base : Nat} {a : Addr} {l : List Value} (h : w.cells? base a 1 = some l) : ∃ c, l = [c] ∧ w.cell? a = some c := by
  have e0 : a.add 0 = a := by simp [Addr.add]
  unfold World.cells? at h
  split at h
  · simp only [List.range_succ, List.range_zero, List.nil_append, List.mapM_cons, List.mapM_nil, e0] at h
    cases hcc : w.cell? a with
    | none => simp [hcc] at h
    | some c => simp [hcc] at h; exact ⟨c, h.symm, rfl⟩
  · cases h

theorem weightsAll_mem {H : Type} {P : Program} {e : TypeId} : ∀ {l : List (DataW H)} {d : DataW H} {n : Nat}, d ∈ l → n ∈ d.weights P e → n ∈ DataW.weightsAll P e l
  | [], _, _, h, _ => by cases h
  | x :: l, d, n, h, hn => by
    simp only [DataW.weightsAll, List.mem_append]
    rcases List.mem_cons.1 h with rfl | h
    · exact .inl hn
    · exact .inr (weightsAll_mem h hn)

/-- Rows of bytes among the arguments. -/
theorem arg_rows {H : Type} {enc : TypeId × Value → H} {P : Program} {W : World} {base : Nat} {t e u : TypeId} {v : Value} {d : DataW H} {ps : List MemPlace} (ht : P.underlying t = some (.slice e)) (he : P.underlying e = some (.slice u)) (hu : P.underlying u = some (.int .u8)) (hce : P.cellsOf e = 1) (hcu : P.cellsOf u = 1) (hbu : P.bytesOf u = 1) (hw : ∀ n ∈ d.weights P t, n ≤ reachBytes)
    (hval : Value.okWide P W .any base t v) (hd : DataW.Trod enc P W 0 (fun _ => true) true t v d ps) :
    ∃ (off : Nat) (b : Blk) (x : Option Loc) (rs : List (Value × List UInt8)), RowsB W off b rs ∧ (∀ ρ : Ren, (∀ p ∈ rs, ρ.row p.1 p.2) → b.R ρ W x) ∧ (∀ (ρ : Ren) (k : Nat), ρ k = some x → (SC.slc k off 1 rs.length none).R ρ v) ∧ (∀ l, x = some l → l.lit = false) ∧ ∀ p ∈ rs, p.2.length ≤ 140737488351232 := by
  obtain ⟨fuel, hd⟩ := hd
  have hcell : v.cells.toList = [v] := by
    simp only [Value.okWide, ht, Cell.okWide] at hval
    cases v <;> simp only [Cell.ok, ht] at hval <;> rfl
  rw [hcell] at hd
  have nil : ∀ a : Option Addr, ∃ (off : Nat) (b : Blk) (x : Option Loc) (rs : List (Value × List UInt8)), RowsB W off b rs ∧ (∀ ρ : Ren, (∀ p ∈ rs, ρ.row p.1 p.2) → b.R ρ W x) ∧ (∀ (ρ : Ren) (k : Nat), ρ k = some x → (SC.slc k off 1 rs.length none).R ρ (.slice a 0 0)) ∧ (∀ l, x = some l → l.lit = false) ∧ ∀ p ∈ rs, p.2.length ≤ 140737488351232 := fun a =>
    ⟨0, ⟨[], 0, true, false⟩, none, [], ⟨rfl, rfl, rfl, rfl, rfl, fun _ h => absurd h List.not_mem_nil⟩, fun ρ _ => ⟨rfl, rfl⟩, fun ρ k hk => .inl ⟨hk, ⟨_, rfl⟩, rfl, fun n hn => by cases hn⟩, (fun l hl => by cases hl), fun _ h => absurd h List.not_mem_nil⟩
  rcases DataW.trod_slice ht hd with ⟨hv, _⟩ | ⟨a, len, cap, elems, rest, n, _, hv, hdx, _, hlc, hcm, hlen, hel, hsp, _⟩
  · simp only [List.cons.injEq, and_true] at hv
    subst hv
    exact nil none
  · simp only [List.cons.injEq, and_true] at hv
    subst hv
    obtain ⟨hrl, hre⟩ := hsp rfl
    have hat : ∀ i, i < cap → ∃ c y, W.cell? (a.add i) = some c ∧ DataW.trod enc P W 0 (fun _ => true) true n e [c] = some y ∧ ∀ m ∈ y.1.weights P e, m ≤ reachBytes := fun i hi => by
      have : ∃ y, y ∈ elems ++ rest ∧ (W.cells? 0 (a.add (i * P.cellsOf e)) (P.cellsOf e)).bind (DataW.trod enc P W 0 (fun _ => true) true n e) = some y := by
        by_cases hil : i < len
        · exact ⟨_, List.mem_append_left _ (List.getElem_mem _), (hel i hil).trans (List.getElem?_eq_getElem (by omega))⟩
        · have h1 := hre (i - len) (by omega)
          rw [show len + (i - len) = i by omega] at h1
          exact ⟨_, List.mem_append_right _ (List.getElem_mem _), h1.trans (List.getElem?_eq_getElem (by omega))⟩
      obtain ⟨y, hym, hy⟩ := this
      rw [hce, Nat.mul_one] at hy
      simp only [Option.bind_eq_some_iff] at hy
      obtain ⟨l, hl, hy⟩ := hy
      obtain ⟨c, rfl, hc⟩ := cells?_one_inv hl
      refine ⟨c, y, hc, hy, fun m hm => hw m ?_⟩
      have hd1 : d = .slice (elems.map (·.1)) (rest.map (·.1)) := congrArg Prod.fst hdx
      subst hd1
      simp only [DataW.weights, ht, List.mem_cons, List.mem_append]
      rcases List.mem_append.1 hym with h | h
      · exact .inr (.inl (weightsAll_mem (List.mem_map_of_mem h) hm))
      · exact .inr (.inr (weightsAll_mem (List.mem_map_of_mem h) hm))
    obtain ⟨hspot, cs, ty, fr, hh⟩ := liesAt_of ht hval
    obtain ⟨g, o, sp⟩ := a
    simp only at hspot hh
    subst hspot
    have hget : ∀ i, i < cap → ∃ c bs, cs.toList[o + i]? = some c ∧ BytesAt W c bs ∧ c.oneCell' = true ∧ bs.length ≤ 140737488351232 := fun i hi => by
      obtain ⟨c, y, hc, hy, hyw⟩ := hat i hi
      rw [add_eq, cell_of hh] at hc
      obtain ⟨bs, h1, h2, h3⟩ := bytes_of_trod he hu hcu hy
      refine ⟨c, bs, by simpa using hc, h1, h2, ?_⟩
      rcases h3 with rfl | ⟨es, sp, g1, g2⟩
      · simp
      · have := hyw ((es.length + sp.length) * P.bytesOf u) (by rw [g1]; simp [DataW.weights, he])
        rw [hbu] at this
        have hr : reachBytes = 140737488351232 := rfl
        omega
    have hrows : ∀ m, m ≤ len → ∃ rs : List (Value × List UInt8), rs.length = m ∧ (∀ i, i < m → (rs.map (·.1))[i]? = cs.toList[o + i]?) ∧ ∀ p ∈ rs, BytesAt W p.1 p.2 ∧ p.1.oneCell' = true ∧ p.2.length ≤ 140737488351232 := by
      intro m
      induction m with
      | zero => intro _; exact ⟨[], rfl, fun i hi => by omega, fun p hp => absurd hp List.not_mem_nil⟩
      | succ m ih =>
        intro hm
        obtain ⟨rs, h1, h2, h3⟩ := ih (by omega)
        obtain ⟨c, bs, hc, hb, ho⟩ := hget m (by omega)
        refine ⟨rs ++ [(c, bs)], by simp [h1], fun i hi => ?_, fun p hp => ?_⟩
        · by_cases him : i < m
          · rw [List.map_append, List.getElem?_append_left (by simp; omega)]; exact h2 i him
          · obtain rfl : i = m := by omega
            rw [List.map_append, List.getElem?_append_right (by simp; omega), hc]
            simp [h1]
        · rcases List.mem_append.1 hp with hp | hp
          · exact h3 p hp
          · simp only [List.mem_singleton] at hp; subst hp; exact ⟨hb, ho⟩
    obtain ⟨rs, hr1, hr2, hr3⟩ := hrows len (Nat.le_refl _)
    have hcl : cap ≠ 0 → o + cap ≤ cs.size := fun h0 => by
      obtain ⟨c, bs, hc, _⟩ := hget (cap - 1) (by omega)
      have := (List.getElem?_eq_some_iff.1 hc).1
      simp at this; omega
    have hm : len ≠ 0 → min o cs.size = o := fun h0 => by have := hcl (by omega); omega
    have e1 : (cs.toList.drop (min o cs.size)).take len = rs.map (·.1) := by
      by_cases h0 : len = 0
      · subst h0
        have : rs = [] := List.eq_nil_of_length_eq_zero hr1
        subst this; simp
      · rw [hm h0]
        apply List.ext_getElem?
        intro i
        by_cases hi : i < len
        · rw [List.getElem?_take_of_lt hi, List.getElem?_drop, hr2 i hi]
        · rw [List.getElem?_eq_none (by simp; omega), List.getElem?_eq_none (by simp; omega)]
    refine ⟨0, ⟨rs.map rowSC, ty, true, false⟩, some ⟨g, cs.size - min o cs.size, false, min o cs.size⟩, rs, ⟨rfl, rfl, by simp, rfl, ?_, fun p hp => (hr3 p hp).1⟩, fun ρ hρ => ?_, fun ρ k hk => ?_, (fun l hl => by cases hl; rfl), fun p hp => (hr3 p hp).2.2⟩
    · rw [List.all_eq_true]; intro y hy; obtain ⟨_, _, rfl⟩ := List.mem_map.1 hy; rfl
    · refine ⟨cs.toList.take (min o cs.size), (cs.toList.drop (min o cs.size)).take len, (cs.toList.drop (min o cs.size)).drop len, fr, ?_, ?_, ?_, fun h => by simp at h, ?_, fun h => by simp at h, fun _ h => by simp at h⟩
      · rw [List.take_append_drop, List.take_append_drop]; simpa using hh
      · rw [e1]
        have gen : ∀ l : List (Value × List UInt8), (∀ p ∈ l, ρ.row p.1 p.2 ∧ RowOf p.2.length p.1) → All2 (SC.R ρ) (l.map rowSC) (l.map (·.1)) := by
          intro l
          induction l with
          | nil => intro _; exact .nil
          | cons p l ih => intro hl; exact .cons ⟨rfl, hl p (by simp)⟩ (ih fun q hq => hl q (by simp [hq]))
        exact gen rs fun p hp => ⟨hρ p hp, (hr3 p hp).1.rowOf⟩
      · simp; omega
      · simp
    · refine .inr ⟨_, o, cap, hk, ?_, ?_, fun h0 => ?_, fun n hn => by cases hn⟩
      · rw [hr1]
      · omega
      · have := hcl h0
        simp only [Nat.zero_add, Nat.add_zero, Nat.mul_one]
        omega

end Go.Proofs.Ytkpdkfeklecehaa.Sx
