/-
  Contracts of functions that read a row of bytes among plain arguments, or beside an object that they turn.
-/
import Derived.Test.YtkpdkfeklecehaaSxM
import Derived.Test.YtkpdkfeklecehaaSxL
namespace Go.Proofs.Ytkpdkfeklecehaa.Sx
open Go.RowKit
set_option linter.unusedVariables false
set_option linter.unusedSimpArgs false

/-- A contract of so many plain values, a row of bytes, plain values. -/
def bytesMid (n lim : Nat) (ok : List SV → Bool) (spec : List SV → List UInt8 → Option SV) : Con := ⟨false, fun args T _ => match args.drop n with
  | .c x :: post => match spec (args.take n ++ post) ((srcC T (.c x)).map SC.asU8) with
    | some v => some (.new ⟨(args.take n ++ post).all SV.sole && (ok (args.take n ++ post) && ((SV.c x).noStr && (srcOk T 1 (.c x) && ((srcC T (.c x)).all SC.isU8 && Nat.ble (srcN (.c x)) lim)))), [], v, []⟩)
    | none => none
  | _ => none⟩
theorem src_len {T : Tab} {x : SC} {lim : Nat} (hok : srcOk T 1 (.c x) = true) (hlim : Nat.ble (srcN (.c x)) lim = true) : ((srcC T (.c x)).map SC.asU8).length ≤ lim := by
  rw [List.length_map]
  have h1 : (srcC T (.c x)).length ≤ srcN (.c x) := by
    cases x <;> first | (simp [srcC, srcN]; done) | skip
    case slc k off esz len cap =>
      simp only [srcOk] at hok
      split at hok <;> try (cases hok; done)
      rename_i b hb
      simp only [Bool.and_eq_true] at hok
      obtain rfl := Nat.eq_of_beq_eq_true hok.2
      simp only [srcC, hb, srcN, Nat.mul_one, List.length_take]; omega
  have h2 := Nat.le_of_ble_eq_true hlim
  omega
theorem bytesMid_ok {P : Program} {f : FuncId} {spec : List SV → List UInt8 → Option SV} {fn : Func} (hf : P.funcs[f]? = some fn) (hn : (fn.name == "runtime.NumGoroutine") = false) (hb : fn.body.isNone = false) {n lim : Nat} {ok : List SV → Bool}
    (h : ∀ pre post bs v, pre.length = n → ok (pre ++ post) = true → spec (pre ++ post) bs = some v → (∀ ρ ρ' u, v.R ρ u → v.R ρ' u) ∧ ∀ w off b, RowB off b bs → bs.length ≤ lim → Fn P f (atW w 0) (pre ++ .c (.slc 0 off 1 bs.length none) :: post) [(0, some b)] 1 fun r _ => r = v) : ConOK P f (bytesMid n lim ok spec) := by
  refine ⟨fun args w => enters_of hf hn hb args w, fun args T kb r hr hob hobs X ρ w vs hrel ha hfr => ?_, fun args T kb r hr => ?_⟩
  · simp only [bytesMid] at hr
    split at hr <;> try (cases hr; done)
    rename_i x post hd
    split at hr <;> try (cases hr; done)
    rename_i v hv
    simp only [Option.some.injEq, Eff.new.injEq] at hr; subst hr
    simp only [Bool.and_eq_true] at hob
    obtain ⟨hp, hpok, hno, hok, hu, hlim⟩ := hob
    have hlen := src_len hok hlim
    have hargs : args = args.take n ++ .c x :: post := by rw [← hd, List.take_append_drop]
    have ha2 := ha
    rw [hargs] at ha2
    obtain ⟨us, us2, rfl, h1, h2⟩ := All2.of_append ha2
    cases h2 with
    | @cons _ u _ us3 hxR h3 =>
    rw [List.all_append, Bool.and_eq_true] at hp
    obtain ⟨hvp, hF⟩ := h (args.take n) post _ v (by rw [List.length_take]; have := congrArg List.length hd; simp only [List.length_drop, List.length_cons] at this; omega) hpok hv
    obtain ⟨off, b, y, hrow, hbR, hsR, hyl⟩ := bytesAt_of hrel hxR hno hok hu
    have ha' : All2 (SV.R (ren1 y)) (args.take n ++ .c (.slc 0 off 1 ((srcC T (.c x)).map SC.asU8).length none) :: post) (us ++ u :: us3) :=
      (plains_R h1 hp.1).append (.cons (hsR _ 0 (by simp [ren1])) (plains_R h3 hp.2))
    refine (hF w off b hrow hlen (ren1 y) w _ (rel1 (hbR _) hrow.own hyl (fun _ h => by simp at h)) ha' fun k hk => by simp only [ren1]; rw [if_neg (by omega)]).mono fun e w' ⟨u', v', T', ρ', he, hv', hur, _, hrel'⟩ => ⟨u', ρ, he, ?_, New.of_below hrel'.below⟩
    subst hv'; exact hvp _ _ _ hur
  · simp only [bytesMid] at hr
    split at hr <;> try (cases hr; done)
    split at hr <;> cases hr

/-- A row's bytes do not lie in an object. -/
def SC.offKey (k : Nat) : SC → Bool
  | .slc j _ _ _ _ => !(Nat.beq j k)
  | .nils => true
  | .row _ _ => true
  | _ => false
theorem bytesAt_off {X : Cx} {ρ : Ren} {T : Tab} {w : World} {x : SC} {v : Value} {k : Nat} {b0 : Blk} {l0 : Loc} (hrel : Rel X ρ T w) (hx : x.R ρ v) (hok : srcOk T 1 (.c x) = true) (hu : (srcC T (.c x)).all SC.isU8 = true)
    (hb0 : T.blk k = some b0) (hown : b0.own = true) (hl0 : ρ k = some (some l0)) (hoff : x.offKey k = true) :
    ∃ (off : Nat) (b : Blk) (y : Option Loc), RowB off b ((srcC T (.c x)).map SC.asU8) ∧ (∀ ρ, b.R ρ w y) ∧ (∀ (ρ : Ren) (k : Nat), ρ k = some y → (SC.slc k off 1 ((srcC T (.c x)).map SC.asU8).length none).R ρ v) ∧ (∀ l, y = some l → l.lit = false) ∧ ∀ l, y = some l → l.blk ≠ l0.blk := by
  have nil : ∀ a : Option Addr, v = .slice a 0 0 → (srcC T (.c x)).map SC.asU8 = [] → ∃ (off : Nat) (b : Blk) (y : Option Loc), RowB off b ((srcC T (.c x)).map SC.asU8) ∧ (∀ ρ, b.R ρ w y) ∧ (∀ (ρ : Ren) (k : Nat), ρ k = some y → (SC.slc k off 1 ((srcC T (.c x)).map SC.asU8).length none).R ρ v) ∧ (∀ l, y = some l → l.lit = false) ∧ ∀ l, y = some l → l.blk ≠ l0.blk := fun a hv hnil => by
    rw [hnil, hv]
    exact ⟨0, ⟨[], 0, true, false⟩, none, ⟨rfl, rfl, rfl, rfl, rfl⟩, fun ρ => ⟨rfl, rfl⟩, fun ρ k hk => .inl ⟨hk, ⟨_, rfl⟩, rfl, fun n hn => by cases hn⟩, (fun l hl => by cases hl), (fun l hl => by cases hl)⟩
  have hno : (SV.c x).noStr = true := by cases x <;> first | rfl | (simp [SC.offKey] at hoff; done)
  cases hxx : x with
  | nils =>
    subst hxx
    exact nil none hx rfl
  | row bs u =>
    subst hxx
    obtain ⟨rfl, hr, _⟩ := hx
    obtain ⟨off, b, y, hrow, hbR, hsR, hyl, hold⟩ := hrel.rows _ _ hr
    have e : (srcC T (.c (.row bs v))).map SC.asU8 = bs := by
      simp only [srcC, List.map_map]; exact List.map_id'' (fun _ => rfl) bs
    rw [e]
    refine ⟨off, b, y, hrow, fun ρ' => (hbR ρ').keep (Le.refl _) fun l hl => hrel.old _ (hold l hl).1 (hold l hl).2, hsR, hyl, fun l hl e => ?_⟩
    obtain ⟨g1, g2⟩ := hold l hl
    rcases (hrel.sep k b0 l0 hb0 hown hl0).1 with h | h
    · omega
    · exact g2 (by rw [e]; exact h)
  | slc j off esz len cap =>
    subst hxx
    simp only [SC.offKey, Bool.not_eq_true'] at hoff
    have hjk : j ≠ k := fun e => by subst e; rw [Nat.beq_refl] at hoff; cases hoff
    have hx' := hx
    rcases hx with ⟨_, ⟨aa, rfl⟩, rfl, _⟩ | ⟨l, o, c, hk, rfl, hlc, hoc, _⟩
    · refine nil aa rfl ?_
      simp only [srcC]
      split <;> simp
    · have hat := bytesAt_of hrel hx' hno hok hu
      obtain ⟨off', b, y, hrow, hbR, hsR, hyl⟩ := hat
      refine ⟨off', b, y, hrow, hbR, hsR, hyl, fun l' hl' e => ?_⟩
      subst hl'
      have hj : ∃ bj, T.blk j = some bj := by
        simp only [srcOk] at hok
        split at hok <;> first | exact ⟨_, by assumption⟩ | (cases hok; done)
      obtain ⟨bj, hbj⟩ := hj
      have hne := (hrel.sep k b0 l0 hb0 hown hl0).2 j bj l hjk hbj hk
      rcases hsR ⟨fun _ => some (some l'), fun _ _ => False⟩ 0 rfl with ⟨h1, _⟩ | ⟨l2, o2, c2, h1, h2, _⟩
      · cases h1
      · cases h1
        simp only [Value.slice.injEq, Option.some.injEq, Addr.mk.injEq] at h2
        exact hne (by rw [h2.1.1]; exact e)
  | _ => subst hxx; simp [SC.offKey] at hoff

/-- A contract: of an object's cells, and a row of bytes. -/
def objBytesW (lim : Nat) (spec : List SC → List UInt8 → Option (Bool × SV × List SC)) : Con := ⟨true, fun args T kb => match args with
  | [.c (.ptr k 0), .c x] => match T.blk k with
    | some b => match spec b.cells ((srcC T (.c x)).map SC.asU8) with
      | some (ok, v, cs) => some (.turn ⟨b.own && (!b.tail && (b.cells.all SC.sole && (cs.all SC.sole && (Nat.beq cs.length b.cells.length && (ok && (x.offKey k && (srcOk T 1 (.c x) && ((srcC T (.c x)).all SC.isU8 && Nat.ble (srcN (.c x)) lim)))))))), [], v, set T k (some ⟨cs, b.ty, false, true⟩)⟩)
      | none => none
    | none => none
  | _ => none⟩
theorem objBytesW_ok {P : Program} {f : FuncId} {lim : Nat} {spec : List SC → List UInt8 → Option (Bool × SV × List SC)} {fn : Func} (hf : P.funcs[f]? = some fn) (hn : (fn.name == "runtime.NumGoroutine") = false) (hb : fn.body.isNone = false)
    (h : ∀ cs bs v cs', spec cs bs = some (true, v, cs') → cs.all SC.sole = true → cs'.all SC.sole = true → bs.length ≤ lim → (∀ ρ ρ' u, v.R ρ u → v.R ρ' u) ∧
      ∀ X : Cx, X.nf = 1 → ∀ ty off b, RowB off b bs → Fn P f X [.c (.ptr 0 0), .c (.slc 1 off 1 bs.length none)] [(0, some ⟨cs, ty, false, true⟩), (1, some b)] 2 fun r T => r = v ∧ T.blk 0 = some ⟨cs', ty, false, true⟩) : ConOK P f (objBytesW lim spec) := by
  refine ⟨fun args w => enters_of hf hn hb args w, fun args T kb r hr => ?_, fun args T kb r hr hob hobs X ρ w vs hrel ha hfr => ?_⟩
  · simp only [objBytesW] at hr
    split at hr <;> try (cases hr; done)
    split at hr <;> try (cases hr; done)
    split at hr <;> cases hr
  · simp only [objBytesW] at hr
    split at hr <;> try (cases hr; done)
    rename_i k x
    split at hr <;> try (cases hr; done)
    rename_i b hbk
    split at hr <;> try (cases hr; done)
    rename_i ok v cs hsp
    simp only [Option.some.injEq, Eff.turn.injEq] at hr; subst hr
    simp only [Bool.and_eq_true, Bool.not_eq_true'] at hob
    obtain ⟨hown, htail, hs, hs', hlen, rfl, hoff, hok, hu8, hlim⟩ := hob
    have hlen := Nat.eq_of_beq_eq_true hlen
    have hbl := src_len hok hlim
    cases ha with
    | @cons _ u _ us hu hus =>
    cases hus with
    | @cons _ u2 _ us2 hu2 hus2 =>
    cases hus2
    obtain ⟨l, hl, rfl⟩ := hu
    obtain ⟨z, hz, hR⟩ := hrel.blk k b hbk
    rw [hl] at hz; cases hz
    obtain ⟨ho, htot, hobj⟩ := obj_of hR hown htail hs
    obtain ⟨off, c, y, hrow, hcR, hsR, hyl, hyne⟩ := bytesAt_off hrel hu2 hok hu8 hbk hown hl hoff
    obtain ⟨hv, hF⟩ := h _ _ v cs hsp hs hs' hbl
    simp only [ho, Nat.zero_add]
    have hlt : l.blk < w.heap.size := blk_lt hR
    have hrel0 : Rel ⟨w, w.heap.size, [l.blk], 1⟩ (renL [some ⟨l.blk, b.cells.length, false, 0⟩, y]) [(0, some ⟨b.cells, b.ty, false, true⟩), (1, some c)] w := by
      have cases2 : ∀ {j : Nat} {d : Blk}, Tab.blk [(0, some ⟨b.cells, b.ty, false, true⟩), (1, some c)] j = some d → (j = 0 ∧ d = ⟨b.cells, b.ty, false, true⟩) ∨ (j = 1 ∧ d = c) := fun {j d} hc => by
        rw [blk_cons] at hc
        by_cases h0 : 0 = j
        · rw [if_pos h0] at hc; cases hc; exact .inl ⟨h0.symm, rfl⟩
        · rw [if_neg h0, blk_cons] at hc
          by_cases h1 : 1 = j
          · rw [if_pos h1] at hc; cases hc; exact .inr ⟨h1.symm, rfl⟩
          · rw [if_neg h1] at hc; simp [Tab.blk, get] at hc
      refine ⟨rfl, rfl, rfl, Nat.le_refl _, Nat.le_refl _, fun _ _ _ => rfl, fun j d hd => ?_, fun j d m hd hdo hm => ?_, fun j m hm hlit => ?_, fun _ _ h => by simp [renL] at h⟩
      · rcases cases2 hd with ⟨rfl, rfl⟩ | ⟨rfl, rfl⟩
        · exact ⟨_, rfl, of_obj (l := ⟨l.blk, b.cells.length, false, 0⟩) rfl rfl hobj hs⟩
        · exact ⟨_, rfl, hcR _⟩
      · rcases cases2 hd with ⟨rfl, rfl⟩ | ⟨rfl, rfl⟩
        · have : m = ⟨l.blk, b.cells.length, false, 0⟩ := by simpa [renL] using hm.symm
          subst this
          refine ⟨.inr (by simp), fun j' d' m' hne' hd' hm' => ?_⟩
          rcases cases2 hd' with ⟨rfl, rfl⟩ | ⟨rfl, rfl⟩
          · exact absurd rfl hne'
          · have : y = some m' := by simpa [renL] using hm'
            exact hyne m' this
        · rw [hrow.own] at hdo; cases hdo
      · simp only [renL] at hm
        match j, hm with
        | 0, hm => cases hm; cases hlit
        | 1, hm =>
          have : y = some m := by simpa using hm
          rw [hyl m this] at hlit; cases hlit
        | j + 2, hm => simp at hm
    refine (hF ⟨w, w.heap.size, [l.blk], 1⟩ rfl b.ty off c hrow _ w _ hrel0 (.cons ⟨⟨l.blk, b.cells.length, false, 0⟩, rfl, rfl⟩ (.cons (hsR _ 1 rfl) .nil)) (renL_fresh _ (Nat.le_refl _))).mono fun e w' ⟨u', v', T', ρ', he, ⟨hv', hT⟩, hur, hag, hrel'⟩ => ?_
    subst hv'
    have hk := hag 0 (Nat.lt_succ_self 0) (some ⟨l.blk, b.cells.length, false, 0⟩) rfl
    obtain ⟨z, hz, hR'⟩ := hrel'.blk 0 _ hT
    rw [hk] at hz; cases hz
    obtain ⟨_, _, ho'⟩ := obj_of hR' rfl rfl hs'
    have hch : Chg l.blk w w' := ⟨hrel'.os, hrel'.tape, hrel'.output, hrel'.size0, fun i hi hne => hrel'.old i hi (by simpa using hne)⟩
    refine ⟨u', he, ρ, hv _ _ _ hur, Le.refl _, ?_, fun j hj => hfr j (by omega)⟩
    refine Rel.chg hrel hbk hown hl hch rfl (of_obj ho (htot.trans hlen.symm) ho' hs') fun j d m hd hm => ?_
    obtain ⟨y', hy', hyR⟩ := hrel.blk j d hd
    rw [hm] at hy'; cases hy'
    exact blk_lt hyR

/-- A struct of two numbers among the arguments. -/
theorem arg_ints2 {P : Program} {W : World} {base : Nat} {t e : TypeId} {v : Value} {fs : Array Field} (ht : P.underlying t = some (.struct fs)) (hts : P.cellTypes P.depth t = some [e, e]) (he : P.underlying e = some (.int .i64)) (hc : P.cellsOf t = 2) (h : Value.okWide P W .any base t v) :
    ∃ a b : Int, v = .agg #[.int .i64 a, .int .i64 b] := by
  simp only [Value.okWide, ht] at h
  obtain ⟨cs, rfl, hs, ts', hts', _, hcell⟩ := h
  rw [hts] at hts'; cases hts'
  rw [hc] at hs
  obtain ⟨cs⟩ := cs
  match cs, hs with
  | [c0, c1], _ =>
    obtain ⟨u0, hu0, hk0⟩ := hcell 0 c0 (by simp)
    obtain ⟨u1, hu1, hk1⟩ := hcell 1 c1 (by simp)
    simp at hu0 hu1
    subst hu0 hu1
    obtain ⟨a, rfl, _⟩ := arg_int (t := e) he (by simpa only [Value.okWide, he] using hk0)
    obtain ⟨b, rfl, _⟩ := arg_int (t := e) he (by simpa only [Value.okWide, he] using hk1)
    exact ⟨a, b, rfl⟩

end Go.Proofs.Ytkpdkfeklecehaa.Sx
