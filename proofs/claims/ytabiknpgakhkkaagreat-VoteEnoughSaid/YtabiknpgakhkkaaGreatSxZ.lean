/-
  Contracts of functions that turn one object and look at slices of plain cells among plain arguments.
-/
import Derived.Test.YtabiknpgakhkkaaGreatSxV
import Derived.Test.YtabiknpgakhkkaaGreatSxM
set_option maxRecDepth 20000
namespace Go.Proofs.YtabiknpgakhkkaaGreat.Sx
open Go.RowKit
set_option linter.unusedVariables false
set_option linter.unusedSimpArgs false

/-- A slice that lies elsewhere than under a key. -/
def offK (k : Nat) : SV → Bool
  | .c (.slc j _ _ _ _) => !(Nat.beq j k)
  | _ => true
theorem splitS_off {X : Cx} {ρ : Ren} {T : Tab} {w : World} {k0 : Nat} {b0 : Blk} {l0 : Loc} (hrel : Rel X ρ T w) (hb0 : T.blk k0 = some b0) (hown : b0.own = true) (hl0 : ρ k0 = some (some l0)) : ∀ {fs : List (Option Nat)} {as : List SV} {vs : List Value} {ok : Bool} {ps : List SV} {rs : List RB}, splitS T fs as = some (ok, ps, rs) → ok = true → as.all (offK k0) = true → All2 (SV.R ρ) as vs →
    ps.all SV.sole = true ∧ (∀ r ∈ rs, r.b.own = false ∧ r.b.tail = true ∧ r.b.cells.all SC.sole = true) ∧ ∃ xs : List (Option Loc), xs.length = rs.length ∧ (∀ l, some l ∈ xs → l.blk ≠ l0.blk) ∧ (∀ ρ' : Ren, All2 (ROb ρ' w) (rs.map RB.b) xs) ∧
      ∀ (ρ' : Ren) (j : Nat), (∀ i, i < xs.length → ρ' (j + i) = xs[i]?) → All2 (SV.R ρ') (joinS fs ps rs j) vs
  | [], [], vs, ok, ps, rs, h, ho, hk, ha => by
    simp only [splitS, Option.some.injEq, Prod.mk.injEq] at h
    obtain ⟨rfl, rfl, rfl⟩ := h
    cases ha
    exact ⟨rfl, fun _ h => by simp at h, [], rfl, fun _ h => by simp at h, fun _ => .nil, fun _ _ _ => .nil⟩
  | none :: fs, a :: as, vs, ok, ps, rs, h, ho, hk, ha => by
    unfold splitS at h
    split at h <;> try (cases h; done)
    rename_i ok' ps' rs' hs
    cases ha with
    | @cons _ u _ us h1 h2 =>
    simp only [Option.some.injEq, Prod.mk.injEq] at h
    obtain ⟨rfl, rfl, rfl⟩ := h
    simp only [Bool.and_eq_true] at ho
    simp only [List.all_cons, Bool.and_eq_true] at hk
    obtain ⟨g1, g2, xs, g4, g7, g5, g6⟩ := splitS_off hrel hb0 hown hl0 hs ho.2 hk.2 h2
    exact ⟨by simp [ho.1, g1], g2, xs, g4, g7, g5, fun ρ' j hρ => .cons (plainS_R h1 ho.1) (g6 ρ' j hρ)⟩
  | some m :: fs, a :: as, vs, ok, ps, rs, h, ho, hk, ha => by
    unfold splitS at h
    split at h <;> try (cases h; done)
    rename_i ok' ps' rs' hs
    cases ha with
    | @cons _ u _ us h1 h2 =>
    split at h <;> try (cases h; done)
    · rename_i k off e n cap
      split at h <;> try (cases h; done)
      rename_i b hb
      simp only [Option.some.injEq, Prod.mk.injEq] at h
      obtain ⟨rfl, rfl, rfl⟩ := h
      simp only [Bool.and_eq_true] at ho
      obtain ⟨⟨he, hsol⟩, ho⟩ := ho
      obtain rfl := Nat.eq_of_beq_eq_true he
      simp only [List.all_cons, Bool.and_eq_true] at hk
      obtain ⟨g1, g2, xs, g4, g7, g5, g6⟩ := splitS_off hrel hb0 hown hl0 hs ho hk.2 h2
      obtain ⟨x, hx, hR⟩ := hrel.blk k b hb
      refine ⟨g1, fun r hr => ?_, (x.map fun l => ⟨l.blk, l.tot, false, l.o0⟩) :: xs, by simp [g4], fun l2 hl2 => ?_, fun ρ' => .cons ⟨rfl, ?_, fun l hl => ?_⟩ (g5 ρ'), fun ρ' j hρ => .cons ?_ (g6 ρ' (j + 1) fun i hi => ?_)⟩
      · rcases List.mem_cons.1 hr with rfl | hr
        · exact ⟨rfl, rfl, hsol⟩
        · exact g2 r hr
      · rcases List.mem_cons.1 hl2 with hl2 | hl2
        · cases x with
          | none => cases hl2
          | some l1 =>
            simp at hl2; subst hl2
            have hne : k ≠ k0 := fun e => by have := hk.1; rw [e] at this; simp [offK] at this
            exact (hrel.sep k0 b0 l0 hb0 hown hl0).2 k b l1 hne hb hx
        · exact g7 l2 hl2
      · cases x with
        | none => exact ⟨hR.1, rfl⟩
        | some l =>
          obtain ⟨pre, vs, rest, fr, a1, a2, a3, _, a5, _⟩ := hR
          exact ⟨pre, vs, rest, fr, a1, sole_all a2 hsol, a3, fun h => by simp at h, a5, fun h => by simp at h, fun _ h => by simp at h⟩
      · cases x with
        | none => cases hl
        | some l0 => simp at hl; subst hl; rfl
      · have h0 := hρ 0 (by simp)
        rw [Nat.add_zero] at h0
        have h0 : ρ' j = some (x.map fun l => ⟨l.blk, l.tot, false, l.o0⟩) := h0
        rcases h1 with ⟨c1, c2, c3, _⟩ | ⟨l, o, c, c1, c2, c3, c4, _⟩
        · rw [hx] at c1; cases c1
          exact .inl ⟨h0, c2, c3, fun q hq => by cases hq⟩
        · rw [hx] at c1; cases c1
          exact .inr ⟨_, o, c, h0, c2, c3, c4, fun q hq => by cases hq⟩
      · have := hρ (i + 1) (by simp; omega)
        rw [show j + 1 + i = j + (i + 1) by omega, this]; rfl
    · simp only [Option.some.injEq, Prod.mk.injEq] at h
      obtain ⟨rfl, rfl, rfl⟩ := h
      simp only [List.all_cons, Bool.and_eq_true] at hk
      obtain ⟨g1, g2, xs, g4, g7, g5, g6⟩ := splitS_off hrel hb0 hown hl0 hs ho hk.2 h2
      refine ⟨g1, fun r hr => ?_, none :: xs, by simp [g4], fun l2 hl2 => by (rcases List.mem_cons.1 hl2 with hl2 | hl2; (cases hl2); exact g7 l2 hl2), fun ρ' => .cons ⟨rfl, ⟨rfl, rfl⟩, fun l hl => by cases hl⟩ (g5 ρ'), fun ρ' j hρ => .cons ?_ (g6 ρ' (j + 1) fun i hi => ?_)⟩
      · rcases List.mem_cons.1 hr with rfl | hr
        · exact ⟨rfl, rfl, rfl⟩
        · exact g2 r hr
      · have h0 := hρ 0 (by simp)
        rw [Nat.add_zero] at h0
        have h0 : ρ' j = some none := h0
        have h1 : u = .slice none 0 0 := h1
        exact .inl ⟨h0, ⟨none, h1⟩, rfl, fun q hq => by cases hq⟩
      · have := hρ (i + 1) (by simp; omega)
        rw [show j + 1 + i = j + (i + 1) by omega, this]; rfl
  | [], _ :: _, _, _, _, _, h, _, _, _ => by simp [splitS] at h
  | none :: _, [], _, _, _, _, h, _, _, _ => by simp [splitS] at h
  | some _ :: _, [], _, _, _, _, h, _, _, _ => by simp [splitS] at h


/-- The arguments as the callee has them: the object's address at its place. -/
def putAt (pos : Nat) (as : List SV) : List SV := as.take pos ++ .c (.ptr 0 0) :: as.drop pos
/-- A contract: of an object's cells, plain values and slices. -/
def objSW (pos : Nat) (fs : List (Option Nat)) (spec : List SC → List SV → List RB → Option (Bool × SV × List SC)) : Con := ⟨true, fun args T kb => match args.drop pos with
  | .c (.ptr k 0) :: post => match T.blk k, splitS T fs (args.take pos ++ post) with
    | some b, some (o, ps, rs) => match spec b.cells ps rs with
      | some (ok, v, cs) => some (.turn ⟨b.own && (!b.tail && (b.cells.all SC.sole && (cs.all SC.sole && (Nat.beq cs.length b.cells.length && (ok && (o && ((args.take pos ++ post).all (offK k) && Nat.ble pos args.length))))))), [], v, set T k (some ⟨cs, b.ty, false, true⟩)⟩)
      | none => none
    | _, _ => none
  | _ => none⟩
theorem objSW_ok {P : Program} {f : FuncId} {pos : Nat} {fs : List (Option Nat)} {spec : List SC → List SV → List RB → Option (Bool × SV × List SC)} {fn : Func} (hf : P.funcs[f]? = some fn) (hn : (fn.name == "runtime.NumGoroutine") = false) (hb : fn.body.isNone = false)
    (h : ∀ cs ps rs v cs', spec cs ps rs = some (true, v, cs') → cs.all SC.sole = true → cs'.all SC.sole = true → ps.all SV.sole = true → (∀ r ∈ rs, RBok r) → (∀ ρ ρ' u, v.R ρ u → v.R ρ' u) ∧
      ∀ X : Cx, X.nf = 1 → ∀ ty, Fn P f X (putAt pos (joinS fs ps rs 1)) ((0, some ⟨cs, ty, false, true⟩) :: tabL 1 (rs.map RB.b)) (rs.length + 1) fun r T => r = v ∧ T.blk 0 = some ⟨cs', ty, false, true⟩) : ConOK P f (objSW pos fs spec) := by
  refine ⟨fun args w => enters_of hf hn hb args w, fun args T kb r hr => ?_, fun args T kb r hr hob hobs X ρ w vs hrel ha hfr => ?_⟩
  · simp only [objSW] at hr
    split at hr <;> try (cases hr; done)
    split at hr <;> try (cases hr; done)
    split at hr <;> cases hr
  · simp only [objSW] at hr
    split at hr <;> try (cases hr; done)
    rename_i k post hdrop
    split at hr <;> try (cases hr; done)
    rename_i b o ps rs hbk hs
    split at hr <;> try (cases hr; done)
    rename_i ok v cs hsp
    simp only [Option.some.injEq, Eff.turn.injEq] at hr; subst hr
    simp only [Bool.and_eq_true, Bool.not_eq_true', Nat.ble_eq] at hob
    obtain ⟨hown, htail, hso, hso', hlen, rfl, ho, hoff, hpos⟩ := hob
    have hlen := Nat.eq_of_beq_eq_true hlen
    have hargs : args = args.take pos ++ .c (.ptr k 0) :: post := by rw [← hdrop, List.take_append_drop]
    rw [hargs] at ha
    obtain ⟨us1, us2, rfl, ha1, ha2⟩ := All2.of_append ha
    cases ha2 with
    | @cons _ u _ us hu hus =>
    obtain ⟨l, hl, rfl⟩ := hu
    obtain ⟨z, hz, hR⟩ := hrel.blk k b hbk
    rw [hl] at hz; cases hz
    obtain ⟨ho0, htot, hobj⟩ := obj_of hR hown htail hso
    obtain ⟨g1, g2, xs, g4, g7, g5, g6⟩ := splitS_off hrel hbk hown hl hs ho hoff (ha1.append hus)
    obtain ⟨hv, hF⟩ := h _ ps rs v cs hsp hso hso' g1 g2
    simp only [ho0, Nat.zero_add]
    have hlt : l.blk < w.heap.size := blk_lt hR
    have hl1 : us1.length = pos := by rw [← ha1.length, List.length_take]; omega
    let ρ0 : Ren := renL (some ⟨l.blk, b.cells.length, false, 0⟩ :: xs)
    have hag : All2 (SV.R ρ0) (joinS fs ps rs 1) (us1 ++ us) := g6 ρ0 1 fun i hi => by
      show (some ⟨l.blk, b.cells.length, false, 0⟩ :: xs)[1 + i]? = xs[i]?
      rw [Nat.add_comm, List.getElem?_cons_succ]
    have hag2 : All2 (SV.R ρ0) (putAt pos (joinS fs ps rs 1)) (us1 ++ .pointer (some ⟨l.blk, 0, none⟩) :: us) := by
      have t1 := hag.take pos
      have t2 := hag.drop pos
      rw [show (us1 ++ us).take pos = us1 from by rw [List.take_append_of_le_length (by omega), List.take_of_length_le (by omega)]] at t1
      rw [show (us1 ++ us).drop pos = us from by rw [List.drop_append_of_le_length (by omega), List.drop_of_length_le (by omega), List.nil_append]] at t2
      exact t1.append (.cons ⟨⟨l.blk, b.cells.length, false, 0⟩, rfl, rfl⟩ t2)
    have hrel0 : Rel ⟨w, w.heap.size, [l.blk], 1⟩ ρ0 ((0, some ⟨b.cells, b.ty, false, true⟩) :: tabL 1 (rs.map RB.b)) w := by
      have g5' := g5 ρ0
      have inT : ∀ {j : Nat} {d : Blk}, Tab.blk ((0, some ⟨b.cells, b.ty, false, true⟩) :: tabL 1 (rs.map RB.b)) j = some d → (j = 0 ∧ d = ⟨b.cells, b.ty, false, true⟩) ∨ (j ≠ 0 ∧ ∃ x, ρ0 j = some x ∧ ROb ρ0 w d x ∧ some x = xs[j - 1]?) := fun {j d} hd => by
        rw [blk_cons] at hd
        by_cases h0 : 0 = j
        · rw [if_pos h0] at hd; cases hd; exact .inl ⟨h0.symm, rfl⟩
        · rw [if_neg h0] at hd
          obtain ⟨q1, q2⟩ := tabL_blk hd
          obtain ⟨x, hx, hxR⟩ := g5'.get q2
          refine .inr ⟨fun e => h0 e.symm, x, ?_, hxR, hx.symm⟩
          show (some ⟨l.blk, b.cells.length, false, 0⟩ :: xs)[j]? = some x
          rw [show j = (j - 1) + 1 by omega, List.getElem?_cons_succ]; exact hx
      refine ⟨rfl, rfl, rfl, Nat.le_refl _, Nat.le_refl _, fun _ _ _ => rfl, fun j d hd => ?_, fun j d m hd hdo hm => ?_, fun j m hm hlit => ?_, fun _ _ h => by simp [ρ0, renL] at h⟩
      · rcases inT hd with ⟨rfl, rfl⟩ | ⟨_, x, hx, hxR, _⟩
        · exact ⟨_, rfl, of_obj (l := ⟨l.blk, b.cells.length, false, 0⟩) rfl rfl hobj hso⟩
        · exact ⟨x, hx, hxR.2.1⟩
      · rcases inT hd with ⟨rfl, rfl⟩ | ⟨_, x, hx, hxR, _⟩
        · have : m = ⟨l.blk, b.cells.length, false, 0⟩ := by
            have hm : some (some ⟨l.blk, b.cells.length, false, 0⟩) = some (some m) := hm
            simpa using hm.symm
          subst this
          refine ⟨.inr (by simp), fun j' d' m' hne' hd' hm' => ?_⟩
          rcases inT hd' with ⟨rfl, rfl⟩ | ⟨_, x, hx, hxR, hxs⟩
          · exact absurd rfl hne'
          · rw [hm'] at hx; cases hx
            exact g7 m' (List.mem_of_getElem? hxs.symm)
        · rw [hxR.1] at hdo; cases hdo
      · match j, hm with
        | 0, hm =>
          have hm : some (some ⟨l.blk, b.cells.length, false, 0⟩) = some (some m) := hm
          cases hm; cases hlit
        | j + 1, hm =>
          have hm : xs[j]? = some (some m) := by
            have hm' : (some ⟨l.blk, b.cells.length, false, 0⟩ :: xs)[j + 1]? = some (some m) := hm
            rw [List.getElem?_cons_succ] at hm'; exact hm'
          have hj : j < (rs.map RB.b).length := by rw [List.length_map, ← g4]; exact (List.getElem?_eq_some_iff.1 hm).1
          obtain ⟨x, hx, hxR⟩ := g5'.get (List.getElem?_eq_getElem hj)
          rw [hm] at hx; cases hx
          rw [hxR.2.2 m rfl] at hlit; cases hlit
    rw [hargs]
    refine (hF ⟨w, w.heap.size, [l.blk], 1⟩ rfl b.ty ρ0 w _ hrel0 hag2 (renL_fresh _ (by simp [g4]))).mono fun e w' ⟨u', v', T', ρ', he, ⟨hv', hT⟩, hur, hag', hrel'⟩ => ?_
    subst hv'
    have hk := hag' 0 (Nat.lt_succ_self 0) (some ⟨l.blk, b.cells.length, false, 0⟩) rfl
    obtain ⟨z, hz, hR'⟩ := hrel'.blk 0 _ hT
    rw [hk] at hz; cases hz
    obtain ⟨_, _, ho'⟩ := obj_of hR' rfl rfl hso'
    have hch : Chg l.blk w w' := ⟨hrel'.os, hrel'.tape, hrel'.output, hrel'.size0, fun i hi hne => hrel'.old i hi (by simpa using hne)⟩
    refine ⟨u', he, ρ, hv _ _ _ hur, Le.refl _, ?_, fun j hj => hfr j (by omega)⟩
    refine Rel.chg hrel hbk hown hl hch rfl (of_obj ho0 (htot.trans hlen.symm) ho' hso') fun j d m hd hm => ?_
    obtain ⟨y', hy', hyR⟩ := hrel.blk j d hd
    rw [hm] at hy'; cases hy'
    exact blk_lt hyR

end Go.Proofs.YtabiknpgakhkkaaGreat.Sx
