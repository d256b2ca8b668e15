/-
  Functions that read rows of bytes: what is read is said of a world; contracts of such functions.
-/
import Derived.Test.YtkpdkfeklecehaaSxI
namespace Go.Proofs.Ytkpdkfeklecehaa.Sx
open Go.RowKit
set_option linter.unusedVariables false
set_option linter.unusedSimpArgs false

theorem raws {ρ ρ' : Ren} : ∀ {cs : List SC} {vs : List Value}, All2 (SC.R ρ) cs vs → All2 (SC.R ρ') (vs.map SC.raw) vs
  | [], _, h => by cases h; exact .nil
  | _ :: _, _, h => by cases h with | cons h1 h2 => exact .cons ⟨rfl, h1.one⟩ (raws h2)
theorem u8s_R {ρ ρ' : Ren} : ∀ {cs : List SC} {vs : List Value}, All2 (SC.R ρ) cs vs → cs.all SC.isU8 = true → All2 (SC.R ρ') ((cs.map SC.asU8).map SC.u8) vs
  | [], _, h, _ => by cases h; exact .nil
  | x :: _, _, h, ha => by
    cases h with
    | cons h1 h2 =>
      simp only [List.all_cons, Bool.and_eq_true] at ha
      refine .cons ?_ (u8s_R h2 ha.2)
      cases x <;> first | (simp [SC.isU8] at ha; done) | exact h1

theorem bytesAt_of {X : Cx} {ρ : Ren} {T : Tab} {w : World} {x : SC} {v : Value} (hrel : Rel X ρ T w) (hx : x.R ρ v) (hno : (SV.c x).noStr = true) (hok : srcOk T 1 (.c x) = true) (hu : (srcC T (.c x)).all SC.isU8 = true) :
    BytesAt w v ((srcC T (.c x)).map SC.asU8) := by
  have nil : ∀ a : Option Addr, BytesAt w (.slice a 0 0) [] := fun a => ⟨0, ⟨[], 0, true, false⟩, none, ⟨rfl, rfl, rfl, rfl, rfl⟩, fun ρ => ⟨rfl, rfl⟩, fun ρ k hk => .inl ⟨hk, ⟨_, rfl⟩, rfl, fun n hn => by cases hn⟩, fun l hl => by cases hl⟩
  cases x <;> try (simp [srcOk] at hok; done)
  case str s => simp [SV.noStr] at hno
  case nils =>
    obtain rfl : v = _ := hx
    exact nil none
  case row bs u =>
    obtain ⟨rfl, hr, _⟩ := hx
    obtain ⟨off, b, y, hrow, hbR, hsR, hyl, hold⟩ := hrel.rows _ _ hr
    have e : (srcC T (.c (.row bs v))).map SC.asU8 = bs := by
      simp only [srcC, List.map_map]; exact List.map_id'' (fun _ => rfl) bs
    rw [e]
    exact ⟨off, b, y, hrow, fun ρ' => (hbR ρ').keep (Le.refl _) fun l hl => hrel.old _ (hold l hl).1 (hold l hl).2, hsR, hyl⟩
  case slc k off esz len cap =>
    simp only [srcOk] at hok
    split at hok <;> try (cases hok; done)
    rename_i b hb
    simp only [Bool.and_eq_true, Nat.ble_eq] at hok
    obtain ⟨hle, hm⟩ := hok
    obtain rfl := Nat.eq_of_beq_eq_true hm
    have hsrc : srcC T (.c (.slc k off 1 len cap)) = (b.cells.drop off).take len := by simp only [srcC, hb, Nat.mul_one]
    rw [hsrc] at hu ⊢
    rcases hx with ⟨_, ⟨aa, rfl⟩, rfl, _⟩ | ⟨l, o, c, hk, rfl, hlc, hoc, _⟩
    · simpa using nil aa
    · obtain ⟨pre, vs, rest, fr, hh, hc, htot, htail, hpre, hfr0, _⟩ := hrel.at hb hk
      have hcl := hc.length
      refine ⟨off, ⟨(vs.take off).map SC.raw ++ (((b.cells.drop off).take len).map SC.asU8).map SC.u8, b.ty, true, false⟩, some ⟨l.blk, l.tot, false, l.o0⟩, ⟨rfl, rfl, ?_, ?_, ?_⟩, fun ρ' => ?_, fun ρ' k' hk' => ?_, fun l2 hl2 => by cases hl2; rfl⟩
      · simp; omega
      · rw [List.drop_append_of_le_length (by simp; omega), List.drop_eq_nil_of_le (by simp; omega)]; simp
      · rw [List.all_eq_true]
        intro y hy
        rcases List.mem_append.1 hy with hy | hy <;> obtain ⟨_, _, rfl⟩ := List.mem_map.1 hy <;> rfl
      · refine ⟨pre, vs.take (off + len), vs.drop (off + len) ++ rest, fr, ?_, ?_, ?_, fun h => by simp at h, hpre, fun h => by simp at h, fun _ h => by simp at h⟩
        · rw [hh, ← List.append_assoc (vs.take _), List.take_append_drop]
        · have e : vs.take (off + len) = vs.take off ++ (vs.drop off).take len := by rw [List.take_add]
          rw [e]
          exact (raws (hc.take off)).append (u8s_R ((hc.drop off).take len) hu)
        · rw [← List.append_assoc, List.take_append_drop]; exact htot
      · refine .inr ⟨⟨l.blk, l.tot, false, l.o0⟩, o, c, hk', ?_, ?_, hoc, fun n hn => by cases hn⟩
        · congr 1
          simp; omega
        · simp; omega

/-- Keys that stand for one place alone. -/
def ren1 (x : Option Loc) (rs : List (Value × List UInt8) := []) : Ren := ⟨fun k => if k = 0 then some x else none, fun v bs => (v, bs) ∈ rs⟩
theorem BytesAt.old {w : World} {v : Value} {bs : List UInt8} (h : BytesAt w v bs) : BytesOld (atW w 0) v bs := by
  obtain ⟨off, b, x, hrow, hbR, hsR, hxl⟩ := h
  refine ⟨off, b, x, hrow, hbR, hsR, hxl, fun l hl => ?_⟩
  subst hl
  exact ⟨(hbR renNone).lt, by simp [atW]⟩
theorem rel1 {w : World} {b : Blk} {x : Option Loc} {rs : List (Value × List UInt8)} (hb : b.R (ren1 x rs) w x) (ho : b.own = false) (hlit : ∀ l, x = some l → l.lit = false) (hr : ∀ p ∈ rs, BytesAt w p.1 p.2) : Rel (atW w 0) (ren1 x rs) [(0, some b)] w :=
  ⟨rfl, rfl, rfl, Nat.le_refl _, Nat.le_refl _, fun _ _ _ => rfl, fun k c hc => by
    rw [blk_cons] at hc
    by_cases h0 : 0 = k
    · subst h0; rw [if_pos rfl] at hc; cases hc; exact ⟨x, by simp [ren1], hb⟩
    · rw [if_neg h0] at hc; simp [Tab.blk, get] at hc, fun k c l hc hown => by
    rw [blk_cons] at hc
    by_cases h0 : 0 = k
    · subst h0; rw [if_pos rfl] at hc; cases hc; rw [ho] at hown; cases hown
    · rw [if_neg h0] at hc; simp [Tab.blk, get] at hc, fun k l hl hlt => by
    simp only [ren1] at hl
    by_cases h0 : k = 0
    · rw [if_pos h0] at hl; cases hl; rw [hlit l rfl] at hlt; cases hlt
    · exact absurd hl (by rw [if_neg h0]; simp), fun v bs h => (hr (v, bs) h).old⟩
theorem rel0 (w : World) : Rel (atW w 0) renNone [] w :=
  ⟨rfl, rfl, rfl, Nat.le_refl _, Nat.le_refl _, fun _ _ _ => rfl, fun k b hb => by simp [Tab.blk, get] at hb, fun k b l hb => by simp [Tab.blk, get] at hb, fun k l hl => (by cases hl), fun _ _ h => False.elim h⟩

/-- What is computed of plain values. -/
theorem New.of_below {ρ : Ren} {w w' : World} (h : Below w.heap.size w w') : New ρ ρ [] w w' :=
  New.of h (Le.refl _) (fun _ _ => rfl) (fun _ _ h => (by simp at h)) (fun _ _ _ _ _ _ h => (by simp at h)) (fun _ _ _ h => (by simp at h)) rfl

theorem plains_R {ρ ρ' : Ren} : ∀ {args : List SV} {vs : List Value}, All2 (SV.R ρ) args vs → args.all SV.sole = true → All2 (SV.R ρ') args vs
  | [], _, h, _ => by cases h; exact .nil
  | _ :: _, _, h, ha => by
    cases h with
    | cons h1 h2 =>
      simp only [List.all_cons, Bool.and_eq_true] at ha
      exact .cons (plainS_R h1 ha.1) (plains_R h2 ha.2)

/-- A contract of plain values and, behind them, one row of bytes. -/
def bytesConB (lim : Nat) (ok : List SV → Bool) (spec : List SV → List UInt8 → Option SV) : Con := ⟨false, fun args T _ => match args.reverse with
  | .c x :: ps => match spec ps.reverse ((srcC T (.c x)).map SC.asU8) with
    | some v => some (.new ⟨ps.reverse.all SV.sole && (ok ps.reverse && ((SV.c x).noStr && (srcOk T 1 (.c x) && ((srcC T (.c x)).all SC.isU8 && Nat.ble (srcN (.c x)) lim)))), [], v, []⟩)
    | none => none
  | _ => none⟩

theorem bytesConB_ok {P : Program} {f : FuncId} {spec : List SV → List UInt8 → Option SV} {fn : Func} (hf : P.funcs[f]? = some fn) (hn : (fn.name == "runtime.NumGoroutine") = false) (hb : fn.body.isNone = false)
    {lim : Nat} {ok : List SV → Bool} (h : ∀ ps bs v, ok ps = true → spec ps bs = some v → v.sole = true ∧ ∀ w off b, RowB off b bs → bs.length ≤ lim → Fn P f (atW w 0) (ps ++ [.c (.slc 0 off 1 bs.length none)]) [(0, some b)] 1 fun r _ => r = v) : ConOK P f (bytesConB lim ok spec) := by
  refine ⟨fun args w => enters_of hf hn hb args w, fun args T kb r hr hob hobs X ρ w vs hrel ha hfr => ?_, fun args T kb r hr => ?_⟩
  · simp only [bytesConB] at hr
    split at hr <;> try (cases hr; done)
    rename_i x ps hargs
    split at hr <;> try (cases hr; done)
    rename_i v hv
    simp only [Option.some.injEq, Eff.new.injEq] at hr; subst hr
    simp only [Bool.and_eq_true] at hob
    obtain ⟨hp, hpok, hno, hok, hu, hlim⟩ := hob
    have hlen : ((srcC T (.c x)).map SC.asU8).length ≤ lim := by
      rw [List.length_map]
      have h1 : (srcC T (.c x)).length ≤ srcN (.c x) := by
        cases x <;> first | (simp [srcC, srcN]; done) | skip
        case slc k off esz len cap =>
          simp only [srcOk] at hok
          split at hok <;> try (cases hok; done)
          rename_i b hb
          simp only [Bool.and_eq_true] at hok
          obtain rfl := Nat.eq_of_beq_eq_true hok.2
          simp only [srcC, hb, srcN, Nat.mul_one, List.length_take]; omega
      have h2 := Nat.le_of_ble_eq_true hlim
      omega
    have hargs' : args = ps.reverse ++ [.c x] := by rw [← List.reverse_reverse args, hargs, List.reverse_cons]
    subst hargs'
    obtain ⟨us, us2, rfl, h1, h2⟩ := All2.of_append ha
    cases h2 with
    | @cons _ u _ _ hxR h3 =>
    cases h3
    obtain ⟨hvp, hF⟩ := h _ _ v hpok hv
    obtain ⟨off, b, y, hrow, hbR, hsR, hyl⟩ := bytesAt_of hrel hxR hno hok hu
    have ha' : All2 (SV.R (ren1 y)) (ps.reverse ++ [.c (.slc 0 off 1 ((srcC T (.c x)).map SC.asU8).length none)]) (us ++ [u]) :=
      (plains_R h1 hp).append (.cons (hsR _ 0 (by simp [ren1])) .nil)
    refine (hF w off b hrow hlen (ren1 y) w _ (rel1 (hbR _) hrow.own hyl (fun _ h => by simp at h)) ha' fun k hk => by simp only [ren1]; rw [if_neg (by omega)]).mono fun e w' ⟨u', v', T', ρ', he, hv', hur, _, hrel'⟩ => ⟨u', ρ, he, ?_, New.of_below hrel'.below⟩
    subst hv'; exact plainS_R hur hvp
  · simp only [bytesConB] at hr
    split at hr <;> try (cases hr; done)
    split at hr <;> cases hr

def bytesCon (lim : Nat) (spec : List SV → List UInt8 → Option SV) : Con := bytesConB lim (fun _ => true) spec
theorem bytesCon_ok {P : Program} {f : FuncId} {spec : List SV → List UInt8 → Option SV} {fn : Func} (hf : P.funcs[f]? = some fn) (hn : (fn.name == "runtime.NumGoroutine") = false) (hb : fn.body.isNone = false)
    {lim : Nat} (h : ∀ ps bs v, spec ps bs = some v → v.sole = true ∧ ∀ w off b, RowB off b bs → bs.length ≤ lim → Fn P f (atW w 0) (ps ++ [.c (.slc 0 off 1 bs.length none)]) [(0, some b)] 1 fun r _ => r = v) : ConOK P f (bytesCon lim spec) :=
  bytesConB_ok hf hn hb fun ps bs v _ hs => h ps bs v hs

theorem row_get {off i : Nat} {b : Blk} {bs : List UInt8} (h : RowB off b bs) (hi : i < bs.length) : b.cells.getD (off + i) .nilp = .u8 (bs.getD i 0) := by
  have h1 : (b.cells.drop off)[i]? = some (.u8 (bs.getD i 0)) := by rw [h.cells]; simp [List.getD, hi]
  rw [List.getElem?_drop] at h1
  simp [List.getD, h1]

/-! Rows of rows of bytes. -/
def rowSC (p : Value × List UInt8) : SC := .row p.2 p.1
/-- A block in which slices of bytes stand, from a place on. -/
structure RowsB (w : World) (off : Nat) (b : Blk) (rs : List (Value × List UInt8)) : Prop where
  own : b.own = false
  tail : b.tail = true
  len : b.cells.length = off + rs.length
  cells : b.cells.drop off = rs.map rowSC
  plain : b.cells.all SC.plain = true
  rows : ∀ p ∈ rs, BytesAt w p.1 p.2

def rowsOf (T : Tab) (x : SC) : List (List UInt8) := (srcC T (.c x)).map fun c => (srcC T (.c c)).map SC.asU8
def rowOk (T : Tab) (c : SC) : Bool := (SV.c c).noStr && (srcOk T 1 (.c c) && (srcC T (.c c)).all SC.isU8)

theorem rows_of {X : Cx} {ρ : Ren} {T : Tab} {w : World} (hrel : Rel X ρ T w) : ∀ {cs : List SC} {vs : List Value}, All2 (SC.R ρ) cs vs → cs.all (rowOk T) = true → All2 (fun v bs => BytesAt w v bs ∧ RowOf bs.length v) vs (cs.map fun c => (srcC T (.c c)).map SC.asU8)
  | [], _, h, _ => by cases h; exact .nil
  | c :: cs, _, h, ha => by
    cases h with
    | cons h1 h2 =>
      simp only [List.all_cons, Bool.and_eq_true] at ha
      obtain ⟨h3, h4⟩ := ha
      simp only [rowOk, Bool.and_eq_true] at h3
      exact .cons ⟨bytesAt_of hrel h1 h3.1 h3.2.1 h3.2.2, (bytesAt_of hrel h1 h3.1 h3.2.1 h3.2.2).rowOf⟩ (rows_of hrel h2 h4)

theorem zip_rows {w : World} : ∀ {vs : List Value} {rows : List (List UInt8)}, All2 (fun v bs => BytesAt w v bs ∧ RowOf bs.length v) vs rows →
    (vs.zip rows).map (·.2) = rows ∧ (vs.zip rows).length = vs.length ∧ (∀ p ∈ vs.zip rows, BytesAt w p.1 p.2) ∧ ∀ ρ : Ren, (∀ p ∈ vs.zip rows, ρ.row p.1 p.2) → All2 (SC.R ρ) ((vs.zip rows).map rowSC) vs
  | [], _, h => by cases h; exact ⟨rfl, rfl, fun _ h => by simp at h, fun _ _ => .nil⟩
  | v :: vs, _, h => by
    cases h with
    | cons h1 h2 =>
      obtain ⟨g1, g2, g3, g4⟩ := zip_rows h2
      refine ⟨by simp [g1], by simp [g2], fun p hp => ?_, fun ρ hρ => ?_⟩
      · simp only [List.zip_cons_cons, List.mem_cons] at hp
        rcases hp with rfl | hp
        · exact h1.1
        · exact g3 p hp
      · simp only [List.zip_cons_cons, List.map_cons]
        exact .cons ⟨rfl, hρ _ (by simp), h1.2⟩ (g4 ρ fun p hp => hρ p (by simp [hp]))

def SC.isSlc : SC → Bool | .nils => true | .slc _ _ _ _ _ => true | _ => false
theorem rowsAt_of {X : Cx} {ρ : Ren} {T : Tab} {w : World} {x : SC} {v : Value} (hrel : Rel X ρ T w) (hx : x.R ρ v) (hno : x.isSlc = true) (hok : srcOk T 1 (.c x) = true) (hu : (srcC T (.c x)).all (rowOk T) = true) :
    ∃ (off : Nat) (b : Blk) (y : Option Loc) (rs : List (Value × List UInt8)), rs.map (·.2) = rowsOf T x ∧ RowsB w off b rs ∧ (∀ ρ : Ren, (∀ p ∈ rs, ρ.row p.1 p.2) → b.R ρ w y) ∧ (∀ (ρ : Ren) (k : Nat), ρ k = some y → (SC.slc k off 1 rs.length none).R ρ v) ∧ ∀ l, y = some l → l.lit = false := by
  have nil : ∀ a : Option Addr, ∃ (off : Nat) (b : Blk) (y : Option Loc) (rs : List (Value × List UInt8)), rs.map (·.2) = [] ∧ RowsB w off b rs ∧ (∀ ρ : Ren, (∀ p ∈ rs, ρ.row p.1 p.2) → b.R ρ w y) ∧ (∀ (ρ : Ren) (k : Nat), ρ k = some y → (SC.slc k off 1 rs.length none).R ρ (.slice a 0 0)) ∧ ∀ l, y = some l → l.lit = false := fun a =>
    ⟨0, ⟨[], 0, true, false⟩, none, [], rfl, ⟨rfl, rfl, rfl, rfl, rfl, fun _ h => by simp at h⟩, fun ρ _ => ⟨rfl, rfl⟩, fun ρ k hk => .inl ⟨hk, ⟨_, rfl⟩, rfl, fun n hn => by cases hn⟩, fun l hl => by cases hl⟩
  cases x <;> try (simp [srcOk] at hok; done)
  case str s => simp [SC.isSlc] at hno
  case nils =>
    obtain rfl : v = _ := hx
    exact nil none
  case row bs u => simp [SC.isSlc] at hno
  case slc k off esz len cap =>
    simp only [srcOk] at hok
    split at hok <;> try (cases hok; done)
    rename_i b hb
    simp only [Bool.and_eq_true, Nat.ble_eq] at hok
    obtain ⟨hle, hm⟩ := hok
    obtain rfl := Nat.eq_of_beq_eq_true hm
    have hsrc : srcC T (.c (.slc k off 1 len cap)) = (b.cells.drop off).take len := by simp only [srcC, hb, Nat.mul_one]
    rw [hsrc] at hu
    rcases hx with ⟨_, ⟨aa, rfl⟩, rfl, _⟩ | ⟨l, o, c, hk, rfl, hlc, hoc, _⟩
    · have : rowsOf T (.slc k off 1 0 cap) = [] := by simp [rowsOf, hsrc]
      rw [this]; exact nil aa
    · obtain ⟨pre, vs, rest, fr, hh, hc, htot, htail, hpre, hfr0, _⟩ := hrel.at hb hk
      have hcl := hc.length
      obtain ⟨z1, z2, z3, z4⟩ := zip_rows (rows_of hrel ((hc.drop off).take len) hu)
      have hzl : (((vs.drop off).take len).zip (((b.cells.drop off).take len).map fun c => (srcC T (.c c)).map SC.asU8)).length = len := by rw [z2]; simp; omega
      refine ⟨off, ⟨(vs.take off).map SC.raw ++ (((vs.drop off).take len).zip (((b.cells.drop off).take len).map fun c => (srcC T (.c c)).map SC.asU8)).map rowSC, b.ty, true, false⟩, some ⟨l.blk, l.tot, false, l.o0⟩, _, by rw [z1]; simp only [rowsOf, hsrc], ⟨rfl, rfl, ?_, ?_, ?_, z3⟩, fun ρ' hρ' => ?_, fun ρ' k' hk' => ?_, fun l2 hl2 => by cases hl2; rfl⟩
      · simp only [List.length_append, List.length_map, List.length_take]; omega
      · rw [List.drop_append_of_le_length (by simp; omega), List.drop_eq_nil_of_le (by simp; omega)]; simp
      · rw [List.all_eq_true]
        intro y hy
        rcases List.mem_append.1 hy with hy | hy <;> obtain ⟨_, _, rfl⟩ := List.mem_map.1 hy <;> rfl
      · refine ⟨pre, vs.take (off + len), vs.drop (off + len) ++ rest, fr, ?_, ?_, ?_, fun h => by simp at h, hpre, fun h => by simp at h, fun _ h => by simp at h⟩
        · rw [hh, ← List.append_assoc (vs.take _), List.take_append_drop]
        · have e : vs.take (off + len) = vs.take off ++ (vs.drop off).take len := by rw [List.take_add]
          rw [e]
          exact (raws (hc.take off)).append (z4 ρ' hρ')
        · rw [← List.append_assoc, List.take_append_drop]; exact htot
      · refine .inr ⟨⟨l.blk, l.tot, false, l.o0⟩, o, c, hk', ?_, ?_, hoc, fun n hn => by cases hn⟩
        · rw [hzl]
        · rw [hzl]; exact hlc

/-- A contract of plain values and, behind them, rows of bytes. -/
def rowsConB (lim : Nat) (ok : List SV → Bool) (spec : List SV → List (List UInt8) → Option SV) : Con := ⟨false, fun args T _ => match args.reverse with
  | .c x :: ps => match spec ps.reverse (rowsOf T x) with
    | some v => some (.new ⟨ps.reverse.all SV.sole && (ok ps.reverse && (x.isSlc && (srcOk T 1 (.c x) && ((srcC T (.c x)).all (rowOk T) && (Nat.ble (rowsOf T x).length lim && Nat.ble (rowsOf T x).flatten.length lim))))), [], v, []⟩)
    | none => none
  | _ => none⟩

theorem rowsConB_ok {P : Program} {f : FuncId} {spec : List SV → List (List UInt8) → Option SV} {fn : Func} (hf : P.funcs[f]? = some fn) (hn : (fn.name == "runtime.NumGoroutine") = false) (hb : fn.body.isNone = false) {lim : Nat} {ok : List SV → Bool}
    (h : ∀ ps rows v, ok ps = true → spec ps rows = some v → v.sole = true ∧ ∀ w off b rs, rs.map (·.2) = rows → RowsB w off b rs → rows.length ≤ lim → rows.flatten.length ≤ lim → Fn P f (atW w 0) (ps ++ [.c (.slc 0 off 1 rs.length none)]) [(0, some b)] 1 fun r _ => r = v) : ConOK P f (rowsConB lim ok spec) := by
  refine ⟨fun args w => enters_of hf hn hb args w, fun args T kb r hr hob hobs X ρ w vs hrel ha hfr => ?_, fun args T kb r hr => ?_⟩
  · simp only [rowsConB] at hr
    split at hr <;> try (cases hr; done)
    rename_i x ps hargs
    split at hr <;> try (cases hr; done)
    rename_i v hv
    simp only [Option.some.injEq, Eff.new.injEq] at hr; subst hr
    simp only [Bool.and_eq_true, Nat.ble_eq] at hob
    obtain ⟨hp, hpok, hno, hok, hu, hl1, hl2⟩ := hob
    have hargs' : args = ps.reverse ++ [.c x] := by rw [← List.reverse_reverse args, hargs, List.reverse_cons]
    subst hargs'
    obtain ⟨us, us2, rfl, h1, h2⟩ := All2.of_append ha
    cases h2 with
    | @cons _ u _ _ hxR h3 =>
    cases h3
    obtain ⟨hvp, hF⟩ := h _ _ v hpok hv
    obtain ⟨off, b, y, rs, hrs, hrow, hbR, hsR, hyl⟩ := rowsAt_of hrel hxR hno hok hu
    have ha' : All2 (SV.R (ren1 y rs)) (ps.reverse ++ [.c (.slc 0 off 1 rs.length none)]) (us ++ [u]) :=
      (plains_R h1 hp).append (.cons (hsR _ 0 (by simp [ren1])) .nil)
    refine (hF w off b rs hrs hrow hl1 hl2 (ren1 y rs) w _ (rel1 (hbR _ fun p hp => hp) hrow.own hyl hrow.rows) ha' fun k hk => by simp only [ren1]; rw [if_neg (by omega)]).mono fun e w' ⟨u', v', T', ρ', he, hv', hur, _, hrel'⟩ => ⟨u', ρ, he, ?_, New.of_below hrel'.below⟩
    subst hv'; exact plainS_R hur hvp
  · simp only [rowsConB] at hr
    split at hr <;> try (cases hr; done)
    split at hr <;> cases hr

def rowsCon (lim : Nat) (spec : List SV → List (List UInt8) → Option SV) : Con := rowsConB lim (fun _ => true) spec
theorem rowsCon_ok {P : Program} {f : FuncId} {spec : List SV → List (List UInt8) → Option SV} {fn : Func} (hf : P.funcs[f]? = some fn) (hn : (fn.name == "runtime.NumGoroutine") = false) (hb : fn.body.isNone = false) {lim : Nat}
    (h : ∀ ps rows v, spec ps rows = some v → v.sole = true ∧ ∀ w off b rs, rs.map (·.2) = rows → RowsB w off b rs → rows.length ≤ lim → rows.flatten.length ≤ lim → Fn P f (atW w 0) (ps ++ [.c (.slc 0 off 1 rs.length none)]) [(0, some b)] 1 fun r _ => r = v) : ConOK P f (rowsCon lim spec) :=
  rowsConB_ok hf hn hb fun ps rows v _ hs => h ps rows v hs

theorem rows_get {w : World} {off i : Nat} {b : Blk} {rs : List (Value × List UInt8)} (h : RowsB w off b rs) (hi : i < rs.length) : b.cells.getD (off + i) .nilp = .row rs[i].2 rs[i].1 := by
  have h1 : (b.cells.drop off)[i]? = some (rowSC rs[i]) := by rw [h.cells]; simp [hi]
  rw [List.getElem?_drop] at h1
  simp [List.getD, h1, rowSC]

end Go.Proofs.Ytkpdkfeklecehaa.Sx
