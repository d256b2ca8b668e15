/-
  Functions that read rows of bytes: what is read is said of a world; contracts of such functions.
-/
import Derived.Test.YtkiamgiobmgmmaaSxI
namespace Go.Proofs.Ytkiamgiobmgmmaa.Sx
open Go.RowKit
set_option linter.unusedVariables false
set_option linter.unusedSimpArgs false

/-- A block in which a row of bytes stands, from a place on. -/
structure RowB (off : Nat) (b : Blk) (bs : List UInt8) : Prop where
  own : b.own = false
  tail : b.tail = true
  len : b.cells.length = off + bs.length
  cells : b.cells.drop off = bs.map SC.u8
  plain : b.cells.all SC.plain = true

/-- A slice whose bytes are these, in a world. -/
def BytesAt (w : World) (v : Value) (bs : List UInt8) : Prop := ∃ (off : Nat) (b : Blk) (x : Option Loc), RowB off b bs ∧ (∀ ρ, b.R ρ w x) ∧ (∀ (ρ : Ren) (k : Nat), ρ k = some x → (SC.slc k off 1 bs.length none).R ρ v) ∧ ∀ l, x = some l → l.lit = false

theorem raws {ρ ρ' : Ren} : ∀ {cs : List SC} {vs : List Value}, All2 (SC.R ρ) cs vs → All2 (SC.R ρ') (vs.map SC.raw) vs
  | [], _, h => by cases h; exact .nil
  | _ :: _, _, h => by cases h with | cons h1 h2 => exact .cons ⟨rfl, h1.one⟩ (raws h2)
theorem u8s_R {ρ ρ' : Ren} : ∀ {cs : List SC} {vs : List Value}, All2 (SC.R ρ) cs vs → cs.all SC.isU8 = true → All2 (SC.R ρ') ((cs.map SC.asU8).map SC.u8) vs
  | [], _, h, _ => by cases h; exact .nil
  | x :: _, _, h, ha => by
    cases h with
    | cons h1 h2 =>
      simp only [List.all_cons, Bool.and_eq_true] at ha
      refine .cons ?_ (u8s_R h2 ha.2)
      cases x <;> first | (simp [SC.isU8] at ha; done) | exact h1

theorem bytesAt_of {X : Cx} {ρ : Ren} {T : Tab} {w : World} {x : SC} {v : Value} (hrel : Rel X ρ T w) (hx : x.R ρ v) (hno : (SV.c x).noStr = true) (hok : srcOk T 1 (.c x) = true) (hu : (srcC T (.c x)).all SC.isU8 = true) :
    BytesAt w v ((srcC T (.c x)).map SC.asU8) := by
  have nil : BytesAt w (.slice none 0 0) [] := ⟨0, ⟨[], 0, true, false⟩, none, ⟨rfl, rfl, rfl, rfl, rfl⟩, fun ρ => ⟨rfl, rfl⟩, fun ρ k hk => .inl ⟨hk, rfl, rfl, fun n hn => by cases hn⟩, fun l hl => by cases hl⟩
  cases x <;> try (simp [srcOk] at hok; done)
  case str s => simp [SV.noStr] at hno
  case nils =>
    obtain rfl : v = _ := hx
    exact nil
  case slc k off esz len cap =>
    simp only [srcOk] at hok
    split at hok <;> try (cases hok; done)
    rename_i b hb
    simp only [Bool.and_eq_true, Nat.ble_eq] at hok
    obtain ⟨hle, hm⟩ := hok
    obtain rfl := Nat.eq_of_beq_eq_true hm
    have hsrc : srcC T (.c (.slc k off 1 len cap)) = (b.cells.drop off).take len := by simp only [srcC, hb, Nat.mul_one]
    rw [hsrc] at hu ⊢
    rcases hx with ⟨_, rfl, rfl, _⟩ | ⟨l, o, c, hk, rfl, hlc, hoc, _⟩
    · simpa using nil
    · obtain ⟨pre, vs, rest, fr, hh, hc, htot, htail, hpre, hfr0, _⟩ := hrel.at hb hk
      have hcl := hc.length
      refine ⟨off, ⟨(vs.take off).map SC.raw ++ (((b.cells.drop off).take len).map SC.asU8).map SC.u8, b.ty, true, false⟩, some ⟨l.blk, l.tot, false, l.o0⟩, ⟨rfl, rfl, ?_, ?_, ?_⟩, fun ρ' => ?_, fun ρ' k' hk' => ?_, fun l2 hl2 => by cases hl2; rfl⟩
      · simp; omega
      · rw [List.drop_append_of_le_length (by simp; omega), List.drop_eq_nil_of_le (by simp; omega)]; simp
      · rw [List.all_eq_true]
        intro y hy
        rcases List.mem_append.1 hy with hy | hy <;> obtain ⟨_, _, rfl⟩ := List.mem_map.1 hy <;> rfl
      · refine ⟨pre, vs.take (off + len), vs.drop (off + len) ++ rest, fr, ?_, ?_, ?_, fun h => by simp at h, hpre, fun h => by simp at h, fun _ h => by simp at h⟩
        · rw [hh, ← List.append_assoc (vs.take _), List.take_append_drop]
        · have e : vs.take (off + len) = vs.take off ++ (vs.drop off).take len := by rw [List.take_add]
          rw [e]
          exact (raws (hc.take off)).append (u8s_R ((hc.drop off).take len) hu)
        · rw [← List.append_assoc, List.take_append_drop]; exact htot
      · refine .inr ⟨⟨l.blk, l.tot, false, l.o0⟩, o, c, hk', ?_, ?_, hoc, fun n hn => by cases hn⟩
        · congr 1
          simp; omega
        · simp; omega

/-- Keys that stand for one place alone. -/
def ren1 (x : Option Loc) : Ren := fun k => if k = 0 then some x else none
theorem rel1 {w : World} {b : Blk} {x : Option Loc} (hb : ∀ ρ, b.R ρ w x) (ho : b.own = false) (hlit : ∀ l, x = some l → l.lit = false) : Rel (atW w 0) (ren1 x) [(0, some b)] w :=
  ⟨rfl, rfl, rfl, Nat.le_refl _, Nat.le_refl _, fun _ _ _ => rfl, fun k c hc => by
    rw [blk_cons] at hc
    by_cases h0 : 0 = k
    · subst h0; rw [if_pos rfl] at hc; cases hc; exact ⟨x, by simp [ren1], hb _⟩
    · rw [if_neg h0] at hc; simp [Tab.blk, get] at hc, fun k c l hc hown => by
    rw [blk_cons] at hc
    by_cases h0 : 0 = k
    · subst h0; rw [if_pos rfl] at hc; cases hc; rw [ho] at hown; cases hown
    · rw [if_neg h0] at hc; simp [Tab.blk, get] at hc, fun k l hl hlt => by
    simp only [ren1] at hl
    by_cases h0 : k = 0
    · rw [if_pos h0] at hl; cases hl; rw [hlit l rfl] at hlt; cases hlt
    · rw [if_neg h0] at hl; cases hl⟩
theorem rel0 (w : World) : Rel (atW w 0) (fun _ => none) [] w :=
  ⟨rfl, rfl, rfl, Nat.le_refl _, Nat.le_refl _, fun _ _ _ => rfl, fun k b hb => by simp [Tab.blk, get] at hb, fun k b l hb => by simp [Tab.blk, get] at hb, fun k l hl => by cases hl⟩

/-- What is computed of plain values. -/
theorem New.of_below {ρ : Ren} {w w' : World} (h : Below w.heap.size w w') : New ρ ρ [] w w' :=
  New.of h (Le.refl _) (fun _ _ => rfl) (fun _ _ h => (by simp at h)) (fun _ _ _ _ _ _ h => (by simp at h)) (fun _ _ _ h => (by simp at h))

theorem plains_R {ρ ρ' : Ren} : ∀ {args : List SV} {vs : List Value}, All2 (SV.R ρ) args vs → args.all SV.plain = true → All2 (SV.R ρ') args vs
  | [], _, h, _ => by cases h; exact .nil
  | _ :: _, _, h, ha => by
    cases h with
    | cons h1 h2 =>
      simp only [List.all_cons, Bool.and_eq_true] at ha
      exact .cons (plainS_R h1 ha.1) (plains_R h2 ha.2)

/-- A contract of plain values and, behind them, one row of bytes. -/
def bytesCon (lim : Nat) (spec : List SV → List UInt8 → Option SV) : Con := ⟨false, fun args T _ => match args.reverse with
  | .c x :: ps => match spec ps.reverse ((srcC T (.c x)).map SC.asU8) with
    | some v => some (.new ⟨ps.reverse.all SV.plain && ((SV.c x).noStr && (srcOk T 1 (.c x) && ((srcC T (.c x)).all SC.isU8 && Nat.ble (srcN (.c x)) lim))), [], v, []⟩)
    | none => none
  | _ => none⟩

theorem bytesCon_ok {P : Program} {f : FuncId} {spec : List SV → List UInt8 → Option SV} {fn : Func} (hf : P.funcs[f]? = some fn) (hn : (fn.name == "runtime.NumGoroutine") = false) (hb : fn.body.isNone = false)
    {lim : Nat} (h : ∀ ps bs v, spec ps bs = some v → v.plain = true ∧ ∀ w off b, RowB off b bs → bs.length ≤ lim → Fn P f (atW w 0) (ps ++ [.c (.slc 0 off 1 bs.length none)]) [(0, some b)] 1 fun r _ => r = v) : ConOK P f (bytesCon lim spec) := by
  refine ⟨fun args w => enters_of hf hn hb args w, fun args T kb r hr hob hobs X ρ w vs hrel ha hfr => ?_, fun args T kb r hr => ?_⟩
  · simp only [bytesCon] at hr
    split at hr <;> try (cases hr; done)
    rename_i x ps hargs
    split at hr <;> try (cases hr; done)
    rename_i v hv
    simp only [Option.some.injEq, Eff.new.injEq] at hr; subst hr
    simp only [Bool.and_eq_true] at hob
    obtain ⟨hp, hno, hok, hu, hlim⟩ := hob
    have hlen : ((srcC T (.c x)).map SC.asU8).length ≤ lim := by
      rw [List.length_map]
      have h1 : (srcC T (.c x)).length ≤ srcN (.c x) := by
        cases x <;> first | (simp [srcC, srcN]; done) | skip
        case slc k off esz len cap =>
          simp only [srcOk] at hok
          split at hok <;> try (cases hok; done)
          rename_i b hb
          simp only [Bool.and_eq_true] at hok
          obtain rfl := Nat.eq_of_beq_eq_true hok.2
          simp only [srcC, hb, srcN, Nat.mul_one, List.length_take]; omega
      have h2 := Nat.le_of_ble_eq_true hlim
      omega
    have hargs' : args = ps.reverse ++ [.c x] := by rw [← List.reverse_reverse args, hargs, List.reverse_cons]
    subst hargs'
    obtain ⟨us, us2, rfl, h1, h2⟩ := All2.of_append ha
    cases h2 with
    | @cons _ u _ _ hxR h3 =>
    cases h3
    obtain ⟨hvp, hF⟩ := h _ _ v hv
    obtain ⟨off, b, y, hrow, hbR, hsR, hyl⟩ := bytesAt_of hrel hxR hno hok hu
    have ha' : All2 (SV.R (ren1 y)) (ps.reverse ++ [.c (.slc 0 off 1 ((srcC T (.c x)).map SC.asU8).length none)]) (us ++ [u]) :=
      (plains_R h1 hp).append (.cons (hsR _ 0 (by simp [ren1])) .nil)
    refine (hF w off b hrow hlen (ren1 y) w _ (rel1 hbR hrow.own hyl) ha' fun k hk => by simp only [ren1]; rw [if_neg (by omega)]).mono fun e w' ⟨u', v', T', ρ', he, hv', hur, _, hrel'⟩ => ⟨u', ρ, he, ?_, New.of_below hrel'.below⟩
    subst hv'; exact plainS_R hur hvp
  · simp only [bytesCon] at hr
    split at hr <;> try (cases hr; done)
    split at hr <;> cases hr

theorem row_get {off i : Nat} {b : Blk} {bs : List UInt8} (h : RowB off b bs) (hi : i < bs.length) : b.cells.getD (off + i) .nilp = .u8 (bs.getD i 0) := by
  have h1 : (b.cells.drop off)[i]? = some (.u8 (bs.getD i 0)) := by rw [h.cells]; simp [List.getD, hi]
  rw [List.getElem?_drop] at h1
  simp [List.getD, h1]

/-! Rows of rows of bytes. -/
/-- A block in which slices of bytes stand, from a place on. -/
structure RowsB (w : World) (off : Nat) (b : Blk) (us : List Value) (rows : List (List UInt8)) : Prop where
  own : b.own = false
  tail : b.tail = true
  len : b.cells.length = off + rows.length
  cells : b.cells.drop off = us.map SC.raw
  plain : b.cells.all SC.plain = true
  rows : All2 (BytesAt w) us rows

def rowsOf (T : Tab) (x : SC) : List (List UInt8) := (srcC T (.c x)).map fun c => (srcC T (.c c)).map SC.asU8
def rowOk (T : Tab) (c : SC) : Bool := (SV.c c).noStr && (srcOk T 1 (.c c) && (srcC T (.c c)).all SC.isU8)

theorem rows_of {X : Cx} {ρ : Ren} {T : Tab} {w : World} (hrel : Rel X ρ T w) : ∀ {cs : List SC} {vs : List Value}, All2 (SC.R ρ) cs vs → cs.all (rowOk T) = true → All2 (BytesAt w) vs (cs.map fun c => (srcC T (.c c)).map SC.asU8)
  | [], _, h, _ => by cases h; exact .nil
  | c :: cs, _, h, ha => by
    cases h with
    | cons h1 h2 =>
      simp only [List.all_cons, Bool.and_eq_true] at ha
      obtain ⟨h3, h4⟩ := ha
      simp only [rowOk, Bool.and_eq_true] at h3
      exact .cons (bytesAt_of hrel h1 h3.1 h3.2.1 h3.2.2) (rows_of hrel h2 h4)

theorem rowsAt_of {X : Cx} {ρ : Ren} {T : Tab} {w : World} {x : SC} {v : Value} (hrel : Rel X ρ T w) (hx : x.R ρ v) (hno : (SV.c x).noStr = true) (hok : srcOk T 1 (.c x) = true) (hu : (srcC T (.c x)).all (rowOk T) = true) :
    ∃ (off : Nat) (b : Blk) (y : Option Loc) (us : List Value), RowsB w off b us (rowsOf T x) ∧ (∀ ρ, b.R ρ w y) ∧ (∀ (ρ : Ren) (k : Nat), ρ k = some y → (SC.slc k off 1 (rowsOf T x).length none).R ρ v) ∧ ∀ l, y = some l → l.lit = false := by
  have nil : ∃ (off : Nat) (b : Blk) (y : Option Loc) (us : List Value), RowsB w off b us [] ∧ (∀ ρ, b.R ρ w y) ∧ (∀ (ρ : Ren) (k : Nat), ρ k = some y → (SC.slc k off 1 ([] : List (List UInt8)).length none).R ρ (.slice none 0 0)) ∧ ∀ l, y = some l → l.lit = false :=
    ⟨0, ⟨[], 0, true, false⟩, none, [], ⟨rfl, rfl, rfl, rfl, rfl, .nil⟩, fun ρ => ⟨rfl, rfl⟩, fun ρ k hk => .inl ⟨hk, rfl, rfl, fun n hn => by cases hn⟩, fun l hl => by cases hl⟩
  cases x <;> try (simp [srcOk] at hok; done)
  case str s => simp [SV.noStr] at hno
  case nils =>
    obtain rfl : v = _ := hx
    exact nil
  case slc k off esz len cap =>
    simp only [srcOk] at hok
    split at hok <;> try (cases hok; done)
    rename_i b hb
    simp only [Bool.and_eq_true, Nat.ble_eq] at hok
    obtain ⟨hle, hm⟩ := hok
    obtain rfl := Nat.eq_of_beq_eq_true hm
    have hsrc : srcC T (.c (.slc k off 1 len cap)) = (b.cells.drop off).take len := by simp only [srcC, hb, Nat.mul_one]
    rw [hsrc] at hu
    rcases hx with ⟨_, rfl, rfl, _⟩ | ⟨l, o, c, hk, rfl, hlc, hoc, _⟩
    · have : rowsOf T (.slc k off 1 0 cap) = [] := by simp [rowsOf, hsrc]
      rw [this]; exact nil
    · obtain ⟨pre, vs, rest, fr, hh, hc, htot, htail, hpre, hfr0, _⟩ := hrel.at hb hk
      have hcl := hc.length
      have hrl : (rowsOf T (.slc k off 1 len cap)).length = len := by simp only [rowsOf, hsrc, List.length_map, List.length_take, List.length_drop]; omega
      refine ⟨off, ⟨(vs.take (off + len)).map SC.raw, b.ty, true, false⟩, some ⟨l.blk, l.tot, false, l.o0⟩, (vs.drop off).take len, ⟨rfl, rfl, ?_, ?_, ?_, ?_⟩, fun ρ' => ?_, fun ρ' k' hk' => ?_, fun l2 hl2 => by cases hl2; rfl⟩
      · rw [hrl]; simp; omega
      · rw [← List.map_drop, List.take_add, List.drop_append_of_le_length (by simp; omega), List.drop_eq_nil_of_le (by simp; omega)]; simp
      · rw [List.all_eq_true]
        intro y hy
        obtain ⟨_, _, rfl⟩ := List.mem_map.1 hy; rfl
      · have := rows_of hrel ((hc.drop off).take len) hu
        simpa only [rowsOf, hsrc] using this
      · refine ⟨pre, vs.take (off + len), vs.drop (off + len) ++ rest, fr, ?_, ?_, ?_, fun h => by simp at h, hpre, fun h => by simp at h, fun _ h => by simp at h⟩
        · rw [hh, ← List.append_assoc (vs.take _), List.take_append_drop]
        · exact raws (hc.take _)
        · rw [← List.append_assoc, List.take_append_drop]; exact htot
      · refine .inr ⟨⟨l.blk, l.tot, false, l.o0⟩, o, c, hk', ?_, ?_, hoc, fun n hn => by cases hn⟩
        · rw [hrl]
        · rw [hrl]; exact hlc

/-- A contract of plain values and, behind them, rows of bytes. -/
def rowsCon (lim : Nat) (spec : List SV → List (List UInt8) → Option SV) : Con := ⟨false, fun args T _ => match args.reverse with
  | .c x :: ps => match spec ps.reverse (rowsOf T x) with
    | some v => some (.new ⟨ps.reverse.all SV.plain && ((SV.c x).noStr && (srcOk T 1 (.c x) && ((srcC T (.c x)).all (rowOk T) && (Nat.ble (rowsOf T x).length lim && Nat.ble (rowsOf T x).flatten.length lim)))), [], v, []⟩)
    | none => none
  | _ => none⟩

theorem rowsCon_ok {P : Program} {f : FuncId} {spec : List SV → List (List UInt8) → Option SV} {fn : Func} (hf : P.funcs[f]? = some fn) (hn : (fn.name == "runtime.NumGoroutine") = false) (hb : fn.body.isNone = false) {lim : Nat}
    (h : ∀ ps rows v, spec ps rows = some v → v.plain = true ∧ ∀ w off b us, RowsB w off b us rows → rows.length ≤ lim → rows.flatten.length ≤ lim → Fn P f (atW w 0) (ps ++ [.c (.slc 0 off 1 rows.length none)]) [(0, some b)] 1 fun r _ => r = v) : ConOK P f (rowsCon lim spec) := by
  refine ⟨fun args w => enters_of hf hn hb args w, fun args T kb r hr hob hobs X ρ w vs hrel ha hfr => ?_, fun args T kb r hr => ?_⟩
  · simp only [rowsCon] at hr
    split at hr <;> try (cases hr; done)
    rename_i x ps hargs
    split at hr <;> try (cases hr; done)
    rename_i v hv
    simp only [Option.some.injEq, Eff.new.injEq] at hr; subst hr
    simp only [Bool.and_eq_true, Nat.ble_eq] at hob
    obtain ⟨hp, hno, hok, hu, hl1, hl2⟩ := hob
    have hargs' : args = ps.reverse ++ [.c x] := by rw [← List.reverse_reverse args, hargs, List.reverse_cons]
    subst hargs'
    obtain ⟨us, us2, rfl, h1, h2⟩ := All2.of_append ha
    cases h2 with
    | @cons _ u _ _ hxR h3 =>
    cases h3
    obtain ⟨hvp, hF⟩ := h _ _ v hv
    obtain ⟨off, b, y, rs, hrow, hbR, hsR, hyl⟩ := rowsAt_of hrel hxR hno hok hu
    have ha' : All2 (SV.R (ren1 y)) (ps.reverse ++ [.c (.slc 0 off 1 (rowsOf T x).length none)]) (us ++ [u]) :=
      (plains_R h1 hp).append (.cons (hsR _ 0 (by simp [ren1])) .nil)
    refine (hF w off b rs hrow hl1 hl2 (ren1 y) w _ (rel1 hbR hrow.own hyl) ha' fun k hk => by simp only [ren1]; rw [if_neg (by omega)]).mono fun e w' ⟨u', v', T', ρ', he, hv', hur, _, hrel'⟩ => ⟨u', ρ, he, ?_, New.of_below hrel'.below⟩
    subst hv'; exact plainS_R hur hvp
  · simp only [rowsCon] at hr
    split at hr <;> try (cases hr; done)
    split at hr <;> cases hr

theorem All2.at {α β : Type} {R : α → β → Prop} {l : List α} {m : List β} (hl : All2 R l m) {i : Nat} (hi : i < m.length) : ∃ a, l[i]? = some a ∧ R a m[i] := by
  have hlen := hl.length
  have h1 : l[i]? = some l[i] := by rw [List.getElem?_eq_getElem]
  obtain ⟨b, hb, hr⟩ := hl.get h1
  rw [List.getElem?_eq_getElem hi] at hb
  cases hb
  exact ⟨_, h1, hr⟩

theorem rows_get {w : World} {off i : Nat} {b : Blk} {us : List Value} {rows : List (List UInt8)} (h : RowsB w off b us rows) (hi : i < rows.length) : ∃ u, b.cells.getD (off + i) .nilp = .raw u ∧ BytesAt w u rows[i] := by
  obtain ⟨u, hu, hr⟩ := h.rows.at hi
  refine ⟨u, ?_, hr⟩
  have h1 : (b.cells.drop off)[i]? = some (.raw u) := by rw [h.cells]; simp [hu]
  rw [List.getElem?_drop] at h1
  simp [List.getD, h1]

/-- A row's bytes under a new key. -/
theorem Weak.row {w : World} {nf : Nat} {s : St} {i : Nat} {v : Value} {bs : List UInt8} (hv : get s.tmps i = some (.c (.raw v))) (hb : BytesAt w v bs) (hnf : nf ≤ s.nk) (hlt : ∀ (l : Loc) (b : Blk), (∀ ρ, b.R ρ w (some l)) → l.blk < w.heap.size := fun l b h => (h fun _ => none).lt) :
    ∃ off b, RowB off b bs ∧ Weak (atW w nf) s ⟨set s.tmps i (.c (.slc s.nk off 1 bs.length none)), (s.nk, some b) :: s.tab, s.nk + 1, s.nt⟩ := by
  obtain ⟨off, b, x, hrow, hbR, hsR, hxl⟩ := hb
  refine ⟨off, b, hrow, Weak.bind (X := atW w nf) hv hrow.own hbR (fun l hl => ?_) hxl (fun ρ hρ => hsR ρ _ hρ) hnf⟩
  subst hl
  exact ⟨hlt l b hbR, by simp [atW]⟩

end Go.Proofs.Ytkiamgiobmgmmaa.Sx
