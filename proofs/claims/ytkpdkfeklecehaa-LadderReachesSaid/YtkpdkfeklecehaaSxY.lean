/-
  Contracts of functions that tell a nil row from another one; of functions that turn an object, read a row of bytes and hand back a new row.
-/
import Derived.Test.YtkpdkfeklecehaaSxR
import Derived.Test.YtkpdkfeklecehaaSxT
namespace Go.Proofs.Ytkpdkfeklecehaa.Sx
open Go.RowKit
set_option linter.unusedVariables false
set_option linter.unusedSimpArgs false

theorem BytesAt.nil {w : World} {v : Value} {bs : List UInt8} (h : BytesAt w v bs) (hn : nilOf v = some true) : bs = [] := by
  obtain ⟨off, b, x, _, _, hs, _⟩ := h
  rcases hs ⟨fun _ => some x, fun _ _ => False⟩ 0 rfl with ⟨_, ⟨a, rfl⟩, h0, _⟩ | ⟨l, o, c, _, rfl, _⟩
  · exact List.length_eq_zero_iff.1 h0
  · simp [nilOf] at hn
/-- One row, told from nil; what comes back is a new row. -/
theorem gNew1_ok {P : Program} {f : FuncId} {lim : Nat} {spec : List SV → List (List UInt8) → Option (Bool × RowO)} {fn : Func} (hf : P.funcs[f]? = some fn) (hn : (fn.name == "runtime.NumGoroutine") = false) (hb : fn.body.isNone = false)
    (h : ∀ bs o, spec [] [bs] = some (true, o) → bs.length ≤ lim → ∀ (w : World) (a : Option Addr) (c : Nat), (a = none → bs = []) → Fn P f (atW w 0) [.c (.row bs (.slice a bs.length c))] [] 0 fun r T => o.is r T) : ConOK P f (gNew [true] lim spec) := by
  refine ⟨fun args w => enters_of hf hn hb args w, fun args T kb r hr hob hobs X ρ w vs hrel ha hfr => ?_, fun args T kb r hr => ?_⟩
  · simp only [gNew] at hr
    split at hr <;> try (cases hr; done)
    rename_i o ps rs hs
    split at hr <;> try (cases hr; done)
    rename_i ok ro hv
    simp only [Option.some.injEq, Eff.new.injEq] at hr; subst hr
    simp only [Bool.and_eq_true] at hob
    obtain ⟨ho, rfl, hro⟩ := hob
    cases args with
    | nil => simp [splitA] at hs
    | cons a0 as =>
    cases as with
    | cons a1 as => simp [splitA] at hs
    | nil =>
    simp only [splitA] at hs
    cases a0 <;> simp only [Option.some.injEq, Prod.mk.injEq, reduceCtorEq] at hs
    rename_i x
    obtain ⟨rfl, rfl, rfl⟩ := hs
    simp only [Bool.and_eq_true] at ho
    obtain ⟨⟨hno, hok, hu, hlim⟩, _⟩ := ho
    have hlen := src_len hok hlim
    cases ha with
    | @cons _ u _ _ hxR h3 =>
    cases h3
    have hB := bytesAt_of hrel hxR hno hok hu
    obtain ⟨a, c, rfl⟩ := hB.rowOf
    have hF := h _ ro hv hlen w a c fun ea => hB.nil (by subst ea; rfl)
    refine (hF (renL [] [(.slice a ((srcC T (.c x)).map SC.asU8).length c, (srcC T (.c x)).map SC.asU8)]) w _ (relN (bs := []) .nil fun p hp => ?_) (.cons ⟨rfl, by simp [renL], ⟨_, _, rfl⟩⟩ .nil) (renL_fresh _ (Nat.le_refl _))).mono fun e w' ⟨u', v', T', ρ', he, hv', hur, _, hrel'⟩ => ?_
    · simp only [List.mem_singleton] at hp; subst hp; exact hB
    obtain ⟨ρ2, a1, a2⟩ := RowO.new hro hv' hrel' hur (hfr kb (Nat.le_refl _) (by omega))
    exact ⟨_, ρ2, he, a1, a2⟩
  · simp only [gNew] at hr
    split at hr <;> try (cases hr; done)
    split at hr <;> cases hr

/-- One more key, for a block that lies behind all others. -/
theorem Rel.far {X : Cx} {ρ : Ren} {T : Tab} {w : World} {kb n : Nat} {b : Blk} {x : Option Loc} (h : Rel X ρ T w) (hkb : ρ kb = none) (hB : b.R (upd ρ kb x) w x) (hx : ∀ l, x = some l → n ≤ l.blk ∧ (l.lit = true → b.own = false)) (hn : X.B ≤ n)
    (hlt : ∀ j c m, T.blk j = some c → ρ j = some (some m) → m.blk < n) (hll : ∀ j m, ρ j = some (some m) → m.lit = true → m.blk < n) : Rel X (upd ρ kb x) ((kb, some b) :: T) w := by
  have hle : Le ρ (upd ρ kb x) := Le.upd x hkb
  have cs : ∀ {j : Nat} {c : Blk}, Tab.blk ((kb, some b) :: T) j = some c → (j = kb ∧ c = b) ∨ (j ≠ kb ∧ T.blk j = some c) := fun {j c} hc => by
    rw [blk_cons] at hc
    by_cases hj : kb = j
    · rw [if_pos hj] at hc; cases hc; exact .inl ⟨hj.symm, rfl⟩
    · rw [if_neg hj] at hc; exact .inr ⟨fun e => hj e.symm, hc⟩
  have old : ∀ {j : Nat}, j ≠ kb → upd ρ kb x j = ρ j := fun hj => upd_ne _ _ hj
  refine ⟨h.os, h.tape, h.output, h.size, h.size0, h.old, fun j c hc => ?_, fun j c l hc ho hl => ?_, fun j l hl hlit => ?_, h.rows⟩
  · rcases cs hc with ⟨rfl, rfl⟩ | ⟨hj, hc⟩
    · exact ⟨x, upd_same _ _ _, hB⟩
    · obtain ⟨y, hy, hyR⟩ := h.blk j c hc
      exact ⟨y, hle _ _ hy, hyR.keep hle fun _ _ => rfl⟩
  · rcases cs hc with ⟨rfl, rfl⟩ | ⟨hj, hc⟩
    · rw [upd_same] at hl; cases hl
      refine ⟨.inl (Nat.le_trans hn (hx l rfl).1), fun j' c' l' hne hc' hl' => ?_⟩
      rcases cs hc' with ⟨rfl, rfl⟩ | ⟨hj', hc'⟩
      · exact absurd rfl hne
      · rw [old hj'] at hl'
        have := hlt j' c' l' hc' hl'
        have := (hx l rfl).1
        omega
    · have hcT := hc
      rw [old hj] at hl
      obtain ⟨g1, g2⟩ := h.sep j c l hc ho hl
      refine ⟨g1, fun j' c' l' hne hc' hl' => ?_⟩
      rcases cs hc' with ⟨rfl, rfl⟩ | ⟨hj', hc'⟩
      · rw [upd_same] at hl'; cases hl'
        have := hlt j c l hcT hl
        have := (hx l' rfl).1
        omega
      · rw [old hj'] at hl'
        exact g2 j' c' l' hne hc' hl'
  · by_cases hj : j = kb
    · subst hj
      rw [upd_same] at hl; cases hl
      refine ⟨Nat.le_trans hn (hx l rfl).1, hB.lt, fun j' c' l' hc' ho' hl' => ?_⟩
      rcases cs hc' with ⟨rfl, rfl⟩ | ⟨hj', hc'⟩
      · rw [(hx l rfl).2 hlit] at ho'; cases ho'
      · rw [old hj'] at hl'
        have := hlt j' c' l' hc' hl'
        have := (hx l rfl).1
        omega
    · rw [old hj] at hl
      obtain ⟨g1, g2, g3⟩ := h.lit j l hl hlit
      refine ⟨g1, g2, fun j' c' l' hc' ho' hl' => ?_⟩
      rcases cs hc' with ⟨rfl, rfl⟩ | ⟨hj', hc'⟩
      · rw [upd_same] at hl'; cases hl'
        have := hll j l hl hlit
        have := (hx l' rfl).1
        omega
      · rw [old hj'] at hl'
        exact g3 j' c' l' hc' ho' hl'

/-- A contract: of an object's cells, and a row of bytes; the result is a new row. -/
def objBytesO (lim : Nat) (spec : List SC → List UInt8 → Option (Bool × RowO × List SC)) : Con := ⟨true, fun args T kb => match args with
  | [.c (.ptr k 0), .c x] => match T.blk k with
    | some b => match spec b.cells ((srcC T (.c x)).map SC.asU8) with
      | some (ok, r, cs) => some (.turn ⟨b.own && (!b.tail && (b.cells.all SC.sole && (cs.all SC.sole && (Nat.beq cs.length b.cells.length && (ok && (x.offKey k && (srcOk T 1 (.c x) && ((srcC T (.c x)).all SC.isU8 && (Nat.ble (srcN (.c x)) lim && (r.ok && r.b.tail)))))))))), [], rowSV (.slc kb 0 1 r.n r.cap) r.ps, (kb, some r.b) :: set T k (some ⟨cs, b.ty, false, true⟩)⟩)
      | none => none
    | none => none
  | _ => none⟩
theorem objBytesO_ok {P : Program} {f : FuncId} {lim : Nat} {spec : List SC → List UInt8 → Option (Bool × RowO × List SC)} {fn : Func} (hf : P.funcs[f]? = some fn) (hn : (fn.name == "runtime.NumGoroutine") = false) (hb : fn.body.isNone = false)
    (h : ∀ cs bs o cs', spec cs bs = some (true, o, cs') → cs.all SC.sole = true → cs'.all SC.sole = true → bs.length ≤ lim → 
      ∀ X : Cx, X.nf = 1 → ∀ ty off b, RowB off b bs → Fn P f X [.c (.ptr 0 0), .c (.slc 1 off 1 bs.length none)] [(0, some ⟨cs, ty, false, true⟩), (1, some b)] 2 fun r T => o.is r T ∧ T.blk 0 = some ⟨cs', ty, false, true⟩) : ConOK P f (objBytesO lim spec) := by
  refine ⟨fun args w => enters_of hf hn hb args w, fun args T kb r hr => ?_, fun args T kb r hr hob hobs X ρ w vs hrel ha hfr => ?_⟩
  · simp only [objBytesO] at hr
    split at hr <;> try (cases hr; done)
    split at hr <;> try (cases hr; done)
    split at hr <;> cases hr
  · simp only [objBytesO] at hr
    split at hr <;> try (cases hr; done)
    rename_i k x
    split at hr <;> try (cases hr; done)
    rename_i b hbk
    split at hr <;> try (cases hr; done)
    rename_i ok ro cs hsp
    simp only [Option.some.injEq, Eff.turn.injEq] at hr; subst hr
    simp only [Bool.and_eq_true, Bool.not_eq_true'] at hob
    obtain ⟨hown, htail, hs, hs', hlen, rfl, hoff, hok, hu8, hlim, hro, hrt⟩ := hob
    have hlen := Nat.eq_of_beq_eq_true hlen
    have hbl := src_len hok hlim
    cases ha with
    | @cons _ u _ us hu hus =>
    cases hus with
    | @cons _ u2 _ us2 hu2 hus2 =>
    cases hus2
    obtain ⟨l, hl, rfl⟩ := hu
    obtain ⟨z, hz, hR⟩ := hrel.blk k b hbk
    rw [hl] at hz; cases hz
    obtain ⟨ho, htot, hobj⟩ := obj_of hR hown htail hs
    obtain ⟨off, c, y, hrow, hcR, hsR, hyl, hyne⟩ := bytesAt_off hrel hu2 hok hu8 hbk hown hl hoff
    have hF := h _ _ ro cs hsp hs hs' hbl
    simp only [ho, Nat.zero_add]
    have hlt : l.blk < w.heap.size := blk_lt hR
    have hrel0 : Rel ⟨w, w.heap.size, [l.blk], 1⟩ (renL [some ⟨l.blk, b.cells.length, false, 0⟩, y]) [(0, some ⟨b.cells, b.ty, false, true⟩), (1, some c)] w := by
      have cases2 : ∀ {j : Nat} {d : Blk}, Tab.blk [(0, some ⟨b.cells, b.ty, false, true⟩), (1, some c)] j = some d → (j = 0 ∧ d = ⟨b.cells, b.ty, false, true⟩) ∨ (j = 1 ∧ d = c) := fun {j d} hc => by
        rw [blk_cons] at hc
        by_cases h0 : 0 = j
        · rw [if_pos h0] at hc; cases hc; exact .inl ⟨h0.symm, rfl⟩
        · rw [if_neg h0, blk_cons] at hc
          by_cases h1 : 1 = j
          · rw [if_pos h1] at hc; cases hc; exact .inr ⟨h1.symm, rfl⟩
          · rw [if_neg h1] at hc; simp [Tab.blk, get] at hc
      refine ⟨rfl, rfl, rfl, Nat.le_refl _, Nat.le_refl _, fun _ _ _ => rfl, fun j d hd => ?_, fun j d m hd hdo hm => ?_, fun j m hm hlit => ?_, fun _ _ h => by simp [renL] at h⟩
      · rcases cases2 hd with ⟨rfl, rfl⟩ | ⟨rfl, rfl⟩
        · exact ⟨_, rfl, of_obj (l := ⟨l.blk, b.cells.length, false, 0⟩) rfl rfl hobj hs⟩
        · exact ⟨_, rfl, hcR _⟩
      · rcases cases2 hd with ⟨rfl, rfl⟩ | ⟨rfl, rfl⟩
        · have : m = ⟨l.blk, b.cells.length, false, 0⟩ := by simpa [renL] using hm.symm
          subst this
          refine ⟨.inr (by simp), fun j' d' m' hne' hd' hm' => ?_⟩
          rcases cases2 hd' with ⟨rfl, rfl⟩ | ⟨rfl, rfl⟩
          · exact absurd rfl hne'
          · have : y = some m' := by simpa [renL] using hm'
            exact hyne m' this
        · rw [hrow.own] at hdo; cases hdo
      · simp only [renL] at hm
        match j, hm with
        | 0, hm => cases hm; cases hlit
        | 1, hm =>
          have : y = some m := by simpa using hm
          rw [hyl m this] at hlit; cases hlit
        | j + 2, hm => simp at hm
    refine (hF ⟨w, w.heap.size, [l.blk], 1⟩ rfl b.ty off c hrow _ w _ hrel0 (.cons ⟨⟨l.blk, b.cells.length, false, 0⟩, rfl, rfl⟩ (.cons (hsR _ 1 rfl) .nil)) (renL_fresh _ (Nat.le_refl _))).mono fun e w' ⟨u', v', T', ρ', he, ⟨hv', hT⟩, hur, hag, hrel'⟩ => ?_
    have hk := hag 0 (Nat.lt_succ_self 0) (some ⟨l.blk, b.cells.length, false, 0⟩) rfl
    obtain ⟨z, hz, hR'⟩ := hrel'.blk 0 _ hT
    rw [hk] at hz; cases hz
    obtain ⟨_, _, ho'⟩ := obj_of hR' rfl rfl hs'
    have hch : Chg l.blk w w' := ⟨hrel'.os, hrel'.tape, hrel'.output, hrel'.size0, fun i hi hne => hrel'.old i hi (by simpa using hne)⟩
    have hltw : ∀ j d m, T.blk j = some d → ρ j = some (some m) → m.blk < w.heap.size := fun j d m hd hm => by
      obtain ⟨y', hy', hyR⟩ := hrel.blk j d hd
      rw [hm] at hy'; cases hy'
      exact blk_lt hyR
    have hrel2 := Rel.chg hrel hbk hown hl hch rfl (of_obj ho (htot.trans hlen.symm) ho' hs') hltw
    have hkb : ρ kb = none := hfr kb (Nat.le_refl _)
    have hlt2 : ∀ j d m, Tab.blk (set T k (some ⟨cs, b.ty, false, true⟩)) j = some d → ρ j = some (some m) → m.blk < w.heap.size := fun j d m hd hm => by
      by_cases hjk : k = j
      · subst hjk; rw [hl] at hm; cases hm; exact hlt
      · rw [blk_set_ne _ _ hjk] at hd; exact hltw j d m hd hm
    have hll : ∀ j m, ρ j = some (some m) → m.lit = true → m.blk < w.heap.size := fun j m hm hml => (hrel.lit j m hm hml).2.1
    have hsz : X.B ≤ w.heap.size := hrel.size
    have hfr' : ∀ x : Option Loc, freshA (upd ρ kb x) (kb + 4) := fun x j hj => by rw [upd_ne _ _ (by omega)]; exact hfr j (by omega)
    unfold RowO.ok at hro
    simp only [Bool.and_eq_true] at hro
    obtain ⟨hrown, hrs, hps⟩ := hro
    have hps' : ∀ qs, ro.ps = some qs → qs.all partSole = true := fun qs e => by rw [e] at hps; exact hps
    rcases hv' with ⟨kr, rfl, hkr⟩ | ⟨hn0, hc0, hcs0, ht0, rfl⟩
    · obtain ⟨v1, hv1, hall⟩ := rowSV_split hur hps'
      obtain ⟨xr, hxr, hbR⟩ := hrel'.blk _ _ hkr
      have hne0 : kr ≠ 0 := fun e => by subst e; rw [hT] at hkr; simp only [Option.some.injEq] at hkr; rw [← hkr] at hrt; cases hrt
      have hxl : ∀ m, xr = some m → w.heap.size ≤ m.blk ∧ (m.lit = true → ro.b.own = false) := fun m hm => by
        subst hm
        refine ⟨?_, fun hml => ?_⟩
        · obtain ⟨q1, q2⟩ := hrel'.sep _ _ _ hkr hrown hxr
          rcases q1 with q1 | q1
          · exact q1
          · simp only [List.mem_singleton] at q1
            exact absurd q1.symm (q2 0 _ ⟨l.blk, b.cells.length, false, 0⟩ (fun e => hne0 e.symm) hT hk)
        · exact absurd rfl ((hrel'.lit _ _ hxr hml).2.2 kr _ m hkr hrown hxr)
      have hbR' : ro.b.R (upd ρ kb xr) w' xr := by
        cases xr with
        | none => exact hbR
        | some m =>
          obtain ⟨pre, us', rest, fr, h1, h2, h3⟩ := hbR
          exact ⟨pre, us', rest, fr, h1, sole_all h2 hrs, h3⟩
      refine ⟨u', he, upd ρ kb xr, hall _ _ ?_, Le.upd xr hkb, Rel.far hrel2 hkb hbR' hxl hsz hlt2 hll, hfr' xr⟩
      rcases hv1 with ⟨h1, h2⟩ | ⟨m, o1, c1, h1, h2⟩
      · rw [hxr] at h1; cases h1; exact .inl ⟨upd_same _ _ _, h2⟩
      · rw [hxr] at h1; cases h1; exact .inr ⟨m, o1, c1, upd_same _ _ _, h2⟩
    · obtain ⟨v1, hv1, hall⟩ := rowSV_split hur hps'
      obtain rfl : v1 = .slice none 0 0 := hv1
      exact ⟨u', he, upd ρ kb none, hall _ _ (.inl ⟨upd_same _ _ _, ⟨_, rfl⟩, hn0, fun q hq => by rw [hc0] at hq; cases hq⟩), Le.upd none hkb, Rel.far hrel2 hkb ⟨hcs0, ht0⟩ (fun m hm => by cases hm) hsz hlt2 hll, hfr' none⟩

theorem Fn.mono {P : Program} {f : FuncId} {X : Cx} {args : List SV} {T : Tab} {nk : Nat} {Post Post' : SV → Tab → Prop} (h : Fn P f X args T nk Post) (hp : ∀ v T, Post v T → Post' v T) : Fn P f X args T nk Post' :=
  fun ρ w vs h1 h2 h3 => (h ρ w vs h1 h2 h3).mono fun e w' ⟨u, v, T', ρ', he, hv, h4⟩ => ⟨u, v, T', ρ', he, hp v T' hv, h4⟩
/-- The result, and what two blocks have become. -/
theorem Fn.xt2L {P : Program} {C : List (Nat × Con)} {X : Cx} (hC : LibOK P C) (hm : P.follows .mixedOrders = true) {fuel : Nat} {f : FuncId} {args : List SV} {T : Tab} {nk : Nat} (told : List Bool) {ob : Bool} {obs : List Prop} {r : SV} {k k2 : Nat} {b b2 : Option Blk}
    (h : (xfunL P C fuel f args T nk told).map (fun q => (q.1, q.2.1, q.2.2.1, q.2.2.2.blk k, q.2.2.2.blk k2)) = some (ob, obs, r, b, b2)) (hob : ob = true) (hobs : All obs) : Fn P f X args T nk fun v T' => v = r ∧ T'.blk k = b ∧ T'.blk k2 = b2 := by
  cases hx : xfunL P C fuel f args T nk told with
  | none => rw [hx] at h; cases h
  | some q =>
    obtain ⟨q1, q2, q3, q4⟩ := q
    rw [hx] at h
    simp only [Option.map_some, Option.some.injEq, Prod.mk.injEq] at h
    obtain ⟨rfl, rfl, rfl, rfl, rfl⟩ := h
    exact Fn.xL hC hm told hx hob hobs ⟨rfl, rfl, rfl⟩

end Go.Proofs.Ytkpdkfeklecehaa.Sx
