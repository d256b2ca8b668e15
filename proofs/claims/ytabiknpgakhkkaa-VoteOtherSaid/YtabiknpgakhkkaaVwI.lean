/-
  What an operation changes: the document's functions.
-/
import Derived.Test.YtabiknpgakhkkaaVwH
namespace Go.Proofs.Ytabiknpgakhkkaa.Vw
open Go.RowKit Go.Proofs.Ytabiknpgakhkkaa.Sx Go.Proofs.Ytabiknpgakhkkaa.Pw
set_option linter.unusedVariables false
set_option linter.unusedSimpArgs false

abbrev frAdd : Nat := 37
abbrev frOne : Nat := 38
noncomputable def runV (C : List (Nat × Con)) (f : Nat) (args : List SV) (v : Vi) (ty : TypeId) (told : List Bool) : Option (Bool × List Prop × SV × Option Blk) := (xfunL Try.prog C 1000 f (.c (.ptr 0 0) :: args) [(0, some ⟨v.cs, ty, false, true⟩)] 1 told).map (fun q => (q.1, q.2.1, q.2.2.1, q.2.2.2.blk 0))
theorem vi_step {f : FuncId} {v : Vi} {ps : List SV} {e : SV} {v' : Vi} {C : List (Nat × Con)} {told : List Bool} {ob : Bool} (hC : LibOK Try.prog C) (h : ∀ ty, runV C f ps v ty told = some (ob, [], e, some ⟨v'.cs, ty, false, true⟩)) (hob : ob = true) (hps : ps.all SV.sole = true) (he : e.soleT = true) :
    ObjStep Try.prog f 0 v.cs ps e v'.cs :=
  objStep_of rfl rfl rfl (fun ρ ρ' u h => soleT_R h he) (fun X hX ty => Fn.xtL hC Sp.mixed told (h ty) hob trivial) hps

theorem Vi.len2 (u v : Vi) : u.cs.length = v.cs.length := rfl

/-! Add. -/
theorem fstF_all {f : Nat → Bool} : ∀ {n : Nat}, (∀ j, j < n → f j = false) → fstF f n = none
  | 0, _ => rfl
  | n + 1, h => by unfold fstF; rw [fstF_all fun j hj => h j (by omega), h n (by omega)]; rfl
def raddN (v : Vi) (i : Nat) (s p : Int) : Vi := { v with t := putT v.t i s p, ad := fun j => bif Nat.beq j i then false else v.ad j }
def raddR (v : Vi) (s p : Int) : (Int × Int) × Vi := bif !isS s then ((0, 7), v) else bif !isS p then ((0, 7), v) else match fstF (fun i => v.t.sg i == s) 8 with
  | some _ => ((0, 7), v)
  | none => match fstF (fun i => !memT v.t i) 8 with
    | none => ((0, 12), v)
    | some i => (((i : Int), 0), raddN v i s p)
def tup2 (a b : Int) : SV := .tup [.inl (.int a), .inl (.int b)]
theorem tup2_sole (a b : Int) : (tup2 a b).soleT = true := rfl
abbrev raL : List (Nat × Con) := [(frIs, isC), (frMem, memC), (frPut, putC)]
theorem raL_ok : LibOK Try.prog raL := LibOK.cons ris_ok (LibOK.cons rmem_ok (LibOK.cons rput_ok (LibOK.nil _)))
abbrev tLeaf : Nat := 24
def raI (v : Vi) (ty : TypeId) (s p fr i : Int) : St := ⟨[(0, .c (.ptr 0 0)), (3, .c (.ptr 1 0)), (4, .c (.int 0)), (5, .c (.int 0)), (6, .c (.int fr)), (7, .c (.int i))], [(0, some ⟨v.cs, ty, false, true⟩), (1, some ⟨[.int s, .int p], tLeaf, false, true⟩)], 2, 58⟩
def raCut : Cut := ⟨[(0, false), (3, false), (4, true), (5, true), (6, true), (7, true)], [(0, 0, true), (1, 1, true)], 2⟩
/-- The lowest place among the last so many that nobody has. -/
def frE (v : Vi) : Nat → Int
  | 0 => -1
  | k + 1 => bif !memT v.t (7 - k) then ((7 - k : Nat) : Int) else frE v k
theorem ra_1 (v : Vi) (ty : TypeId) (s p : Int) : runV raL frAdd [.agg [.int s, .int p]] v ty [true] = some (tg true (!isS s) true, [], tup2 0 7, some ⟨v.cs, ty, false, true⟩) := by kernel_rfl
theorem ra_2 (v : Vi) (ty : TypeId) (s p : Int) : runV raL frAdd [.agg [.int s, .int p]] v ty [false, true] = some (ty_ (tg true (!isS s) false) (!isS p), [], tup2 0 7, some ⟨v.cs, ty, false, true⟩) := by kernel_rfl
theorem ra_start {nf : Nat} (hX : nf = 1) (v : Vi) (ty : TypeId) (s p : Int) : stepL Try.prog raL nf 1000 5 (bodyOf Try.prog frAdd) ⟨argTmps [.c (.ptr 0 0), .agg [.int s, .int p]] 0, [(0, some ⟨v.cs, ty, false, true⟩)], 1, 58⟩ [false, false] [] raCut = some (tn (tg true (!isS s) false) (!isS p), [], raI v ty s p (-1) 7) := by subst hX; kernel_rfl
theorem ra_mem {nf : Nat} (hX : nf = 1) (v : Vi) (ty : TypeId) (s p fr : Int) (k : Nat) (hk : k < 8) : stepL Try.prog raL nf 1000 4 (loopB ((bodyOf Try.prog frAdd).drop 5)) (raI v ty s p fr (7 - k : Int)) [true, false, false] [] raCut = some (tn (tn true (v.t.sg (7 - k) == s)) (!memT v.t (7 - k)), [], raI v ty s p fr (6 - k : Int)) := by
  subst hX
  revert k
  refine all8 ?_ ?_ ?_ ?_ ?_ ?_ ?_ ?_ <;> kernel_rfl
theorem ra_non {nf : Nat} (hX : nf = 1) (v : Vi) (ty : TypeId) (s p fr : Int) (k : Nat) (hk : k < 8) : stepL Try.prog raL nf 1000 4 (loopB ((bodyOf Try.prog frAdd).drop 5)) (raI v ty s p fr (7 - k : Int)) [true, false, true] [] raCut = some (ty_ (tn true (v.t.sg (7 - k) == s)) (!memT v.t (7 - k)), [], raI v ty s p ((7 - k : Nat) : Int) (6 - k : Int)) := by
  subst hX
  revert k
  refine all8 ?_ ?_ ?_ ?_ ?_ ?_ ?_ ?_ <;> kernel_rfl
/-- A return from a loop: what comes back, what a block has become. -/
def retT (P : Program) (C : List (Nat × Con)) (f fuel n : Nat) (l : List Code) (st : St) (told : List Bool) (k : Nat) : Option (Bool × List Prop × SV × Option Blk) :=
  match P.funcs[f]? with
  | some fn => match xrowL P C fuel n l ⟨st, true, [], ⟨told, []⟩⟩ with
    | some (.ret, s) => match resS P s.st fn.results.toList with
      | some (b, v) => some (bnd s.ob b, s.obs, v, s.st.tab.blk k)
      | none => none
    | _ => none
  | none => none
theorem SWs.retT' {P : Program} {C : List (Nat × Con)} {X : Cx} (hC : LibOK P C) (hm : P.follows .mixedOrders = true) {f fuel n : Nat} {l : List Code} {st : St} (told : List Bool) {ob : Bool} {obs : List Prop} {v : SV} {k : Nat} {b : Option Blk} {next : St → Prop} {i : Nat} {rest : St → Prop}
    (h : retT P C f fuel n l st told k = some (ob, obs, v, b)) (hob : ob = true) (hobs : All obs) : SWs P X l st (roundQ next i rest (FinQ P f fun v' T => v' = v ∧ T.blk k = b)) := by
  unfold retT at h
  split at h <;> try (cases h; done)
  rename_i fn hfn
  split at h <;> try (cases h; done)
  rename_i s hs
  split at h <;> try (cases h; done)
  rename_i b' v' hv
  simp only [Option.some.injEq, Prod.mk.injEq] at h
  obtain ⟨rfl, rfl, rfl, rfl⟩ := h
  simp only [bnd_true] at hob
  obtain ⟨h1, rfl⟩ := hob
  exact SWs.xrow hC hm n l _ s .ret (xrowL_eq _ _ _ _ _ hs h1 hobs) h1 hobs ⟨rfl, fn, v', hfn, hv, rfl, rfl⟩
theorem ra_hit (v : Vi) (ty : TypeId) (s p fr : Int) (k : Nat) (hk : k < 8) : retT Try.prog raL frAdd 1000 4 (loopB ((bodyOf Try.prog frAdd).drop 5)) (raI v ty s p fr (7 - k : Int)) [true, true] 0 = some (ty_ true (v.t.sg (7 - k) == s), [], tup2 0 7, some ⟨v.cs, ty, false, true⟩) := by
  revert k
  refine all8 ?_ ?_ ?_ ?_ ?_ ?_ ?_ ?_ <;> kernel_rfl
theorem ra_out {nf : Nat} (hX : nf = 1) (v : Vi) (ty : TypeId) (s p fr : Int) : exitL Try.prog raL nf 1000 2 (loopB ((bodyOf Try.prog frAdd).drop 5)) (raI v ty s p fr (-1)) [false] [] raCut = some (0, true, [], raI v ty s p fr (-1)) := by subst hX; kernel_rfl
theorem ra_full (v : Vi) (ty : TypeId) (s p : Int) : (finL Try.prog raL frAdd 1000 100 ((bodyOf Try.prog frAdd).drop 6) (raI v ty s p (-1) (-1)) []).map (fun q => (q.1, q.2.1, q.2.2.1, q.2.2.2.blk 0)) = some (true, [], tup2 0 12, some ⟨v.cs, ty, false, true⟩) := by kernel_rfl
theorem ra_free (v : Vi) (ty : TypeId) (s p : Int) (i : Nat) (hi : i < 8) : (finL Try.prog raL frAdd 1000 100 ((bodyOf Try.prog frAdd).drop 6) (raI v ty s p i (-1)) []).map (fun q => (q.1, q.2.1, q.2.2.1, q.2.2.2.blk 0)) = some (true, [], tup2 i 0, some ⟨(raddN v i s p).cs, ty, false, true⟩) := by
  revert i
  refine all8 ?_ ?_ ?_ ?_ ?_ ?_ ?_ ?_ <;> kernel_rfl
theorem frE_none (v : Vi) : ∀ k, k ≤ 8 → (∀ j, 8 - k ≤ j → j < 8 → (!memT v.t j) = false) → frE v k = -1
  | 0, _, _ => rfl
  | k + 1, hk, h => by
    unfold frE
    rw [h (7 - k) (by omega) (by omega)]
    exact frE_none v k (by omega) fun j h1 h2 => h j (by omega) h2
theorem frE_some (v : Vi) {i : Nat} (hi : i < 8) (hm : (!memT v.t i) = true) : ∀ k, 8 - i ≤ k → k ≤ 8 → (∀ j, 8 - k ≤ j → j < i → (!memT v.t j) = false) → frE v k = i
  | 0, h1, h2, _ => by omega
  | k + 1, h1, h2, h => by
    unfold frE
    by_cases hk : 7 - k = i
    · rw [hk, hm]; rfl
    · rw [h (7 - k) (by omega) (by omega)]
      exact frE_some v hi hm k (by omega) (by omega) fun j h3 h4 => h j (by omega) h4
theorem radd_step (v : Vi) (s p : Int) : ObjStep Try.prog frAdd 0 v.cs [.agg [.int s, .int p]] (tup2 (raddR v s p).1.1 (raddR v s p).1.2) (raddR v s p).2.cs := by
  unfold raddR
  cases h1 : isS s with
  | false => exact vi_step raL_ok (fun ty => ra_1 v ty s p) (tg_eq rfl (by rw [h1]; rfl)) rfl rfl
  | true =>
  cases h2 : isS p with
  | false => exact vi_step raL_ok (fun ty => ra_2 v ty s p) (ty_eq (tg_eq rfl (by rw [h1]; rfl)) (by rw [h2]; rfl)) rfl rfl
  | true =>
  simp only [Bool.not_true, cond_false]
  refine objStep_of (P := Try.prog) (f := frAdd) (off := 0) (cs := v.cs) (Vi.sole v) ?_ ?_ (fun ρ ρ' u h => soleT_R h (tup2_sole _ _)) (fun X hX ty => ?_) rfl
  · exact Vi.sole _
  · exact Vi.len2 _ _
  refine Sx.Fn.of (nt := 58) (by kernel_rfl) rfl ?_
  refine SWs.stepL raL_ok Sp.mixed [false, false] (ra_start hX v ty s p) (tn_eq (tg_eq rfl (by rw [h1]; rfl)) (by rw [h2]; rfl)) trivial ?_
  refine SWs.loop (by kernel_rfl) (fun k : Nat => raI v ty s p (frE v k) (7 - k : Int)) (fun k => 8 - k) (fun k => k ≤ 8 ∧ ∀ j, 8 - k ≤ j → j < 8 → (v.t.sg j == s) = false) 0 ⟨by omega, fun j h1 h2 => by omega⟩ ?_
  rintro k ⟨hk, hno⟩
  by_cases h8 : k = 8
  · subst h8
    refine SWs.outL raL_ok Sp.mixed [false] (ra_out hX v ty s p (frE v 8)) rfl trivial ?_
    have e1 : fstF (fun i => v.t.sg i == s) 8 = none := fstF_all fun j hj => hno j (by omega) hj
    rw [e1]
    simp only
    cases h3 : fstF (fun i => !memT v.t i) 8 with
    | none =>
      have := frE_none v 8 (by omega) fun j _ hj => fstF_none h3 j hj
      simp only [this]
      exact SWs.fintL raL_ok Sp.mixed [] (ra_full v ty s p) rfl trivial
    | some i =>
      obtain ⟨g1, g2, g3⟩ := fstF_some h3
      have := frE_some v g1 g2 8 (by omega) (by omega) fun j _ hj => g3 j hj
      simp only [this]
      exact SWs.fintL raL_ok Sp.mixed [] (ra_free v ty s p i g1) rfl trivial
  · have hk' : k < 8 := by omega
    cases hs : v.t.sg (7 - k) == s with
    | true =>
      have e1 : ∃ i, fstF (fun i => v.t.sg i == s) 8 = some i := by
        cases h : fstF (fun i => v.t.sg i == s) 8 with
        | none => rw [fstF_none h (7 - k) (by omega)] at hs; cases hs
        | some i => exact ⟨i, rfl⟩
      obtain ⟨i, e1⟩ := e1
      rw [e1]
      exact SWs.retT' raL_ok Sp.mixed [true, true] (ra_hit v ty s p _ k hk') (ty_eq rfl hs) trivial
    | false =>
      have hno' : ∀ j, 8 - (k + 1) ≤ j → j < 8 → (v.t.sg j == s) = false := fun j h1 h2 => by
        by_cases hj : j = 7 - k
        · rw [hj]; exact hs
        · exact hno j (by omega) h2
      cases hm : memT v.t (7 - k) with
      | true =>
        refine SWs.roundL raL_ok Sp.mixed [true, false, false] (ra_mem hX v ty s p (frE v k) k hk') rfl (tn_eq (tn_eq rfl hs) (by rw [hm]; rfl)) trivial ⟨k + 1, ⟨by omega, hno'⟩, by omega, ?_⟩
        have e : frE v (k + 1) = frE v k := by show (bif !memT v.t (7 - k) then _ else _) = _; rw [hm]; rfl
        simp only [e]
        congr 1
        omega
      | false =>
        refine SWs.roundL raL_ok Sp.mixed [true, false, true] (ra_non hX v ty s p (frE v k) k hk') rfl (ty_eq (tn_eq rfl hs) (by rw [hm]; rfl)) trivial ⟨k + 1, ⟨by omega, hno'⟩, by omega, ?_⟩
        have e : frE v (k + 1) = ((7 - k : Nat) : Int) := by show (bif !memT v.t (7 - k) then _ else _) = _; rw [hm]; rfl
        simp only [e]
        congr 1
        omega

/-! The other operations. -/
def roneN2 (v : Vi) (i : Nat) : Vi := { v with t := putT v.t i 0 0, ad := fun j => bif Nat.beq j i then false else v.ad j }
def roneN3 (v : Vi) (i : Nat) (b : Bool) : Vi := { v with ad := fun j => bif Nat.beq j i then b else v.ad j }
def rone2 (v : Vi) (f n : Int) : Int × Vi := bif !memI v n then (7, v) else bif n == f then (7, v) else (0, roneN2 v n.toNat)
def rone3 (v : Vi) (n : Int) : Int × Vi := bif !memI v n then (7, v) else bif v.ad n.toNat then (7, v) else (0, roneN3 v n.toNat true)
def rone4 (v : Vi) (n : Int) : Int × Vi := bif decide (n < 0) then (7, v) else bif decide (n ≥ 8) then (7, v) else bif !v.ad n.toNat then (7, v) else (0, roneN3 v n.toNat false)
def rone5 (v : Vi) (k : Int) : Int × Vi := bif decide (k < 1) then (7, v) else bif decide (k > 8) then (7, v) else (0, { v with k := k })
def roneR (v : Vi) (f : Int) (o : Ope) : Int × Vi := bif o.kind == 2 then rone2 v f o.who else bif o.kind == 3 then rone3 v o.who else bif o.kind == 4 then rone4 v o.who else rone5 v o.k
abbrev roL : List (Nat × Con) := [(frMem, memC), (frPut, putC)]
theorem roL_ok : LibOK Try.prog roL := LibOK.cons rmem_ok (LibOK.cons rput_ok (LibOK.nil _))
def kn3 (k : Int) : Bool := tn (tn (tn true (k == 2)) (k == 3)) (k == 4)
section
variable (v : Vi) (ty : TypeId) (f a w k s p : Int)
theorem ro2_1 : runV roL frOne [.c (.int f), .agg [.int 2, .int w, .int k, .int s, .int p]] v ty [true, true] = some (tg true (!memI (Vi.of v.cs) w) true, [], .c (.int 7), some ⟨v.cs, ty, false, true⟩) := by kernel_rfl
theorem ro2_2 (i : Nat) (hi : i < 8) : runV roL frOne [.c (.int f), .agg [.int 2, .int i, .int k, .int s, .int p]] v ty [true, false, true] = some (ty_ (tg true (!memT v.t i) false) ((i : Int) == f), [], .c (.int 7), some ⟨v.cs, ty, false, true⟩) := by
  revert i
  refine all8 ?_ ?_ ?_ ?_ ?_ ?_ ?_ ?_ <;> kernel_rfl
theorem ro2_3 (i : Nat) (hi : i < 8) : runV roL frOne [.c (.int f), .agg [.int 2, .int i, .int k, .int s, .int p]] v ty [true, false, false] = some (tn (tg true (!memT v.t i) false) ((i : Int) == f), [], .c (.int 0), some ⟨(roneN2 v i).cs, ty, false, true⟩) := by
  revert i
  refine all8 ?_ ?_ ?_ ?_ ?_ ?_ ?_ ?_ <;> kernel_rfl
theorem ro3_1 : runV roL frOne [.c (.int f), .agg [.int 3, .int w, .int k, .int s, .int p]] v ty [false, true, true] = some (tg true (!memI (Vi.of v.cs) w) true, [], .c (.int 7), some ⟨v.cs, ty, false, true⟩) := by kernel_rfl
theorem ro3_2 (i : Nat) (hi : i < 8) : runV roL frOne [.c (.int f), .agg [.int 3, .int i, .int k, .int s, .int p]] v ty [false, true, false, true] = some (ty_ (tg true (!memT v.t i) false) (v.ad i), [], .c (.int 7), some ⟨v.cs, ty, false, true⟩) := by
  revert i
  refine all8 ?_ ?_ ?_ ?_ ?_ ?_ ?_ ?_ <;> kernel_rfl
theorem ro3_3 (i : Nat) (hi : i < 8) : runV roL frOne [.c (.int f), .agg [.int 3, .int i, .int k, .int s, .int p]] v ty [false, true, false, false] = some (tn (tg true (!memT v.t i) false) (v.ad i), [], .c (.int 0), some ⟨(roneN3 v i true).cs, ty, false, true⟩) := by
  revert i
  refine all8 ?_ ?_ ?_ ?_ ?_ ?_ ?_ ?_ <;> kernel_rfl
theorem ro4_1 : runV roL frOne [.c (.int f), .agg [.int 4, .int w, .int k, .int s, .int p]] v ty [false, false, true, true] = some (tg true (decide (w < 0)) true, [], .c (.int 7), some ⟨v.cs, ty, false, true⟩) := by kernel_rfl
theorem ro4_2 : runV roL frOne [.c (.int f), .agg [.int 4, .int w, .int k, .int s, .int p]] v ty [false, false, true, false, true] = some (tg (tg true (decide (w < 0)) false) (decide (w ≥ 8)) true, [], .c (.int 7), some ⟨v.cs, ty, false, true⟩) := by kernel_rfl
theorem ro4_3 (i : Nat) (hi : i < 8) : runV roL frOne [.c (.int f), .agg [.int 4, .int i, .int k, .int s, .int p]] v ty [false, false, true, false, false, true] = some (ty_ true (!v.ad i), [], .c (.int 7), some ⟨v.cs, ty, false, true⟩) := by
  revert i
  refine all8 ?_ ?_ ?_ ?_ ?_ ?_ ?_ ?_ <;> kernel_rfl
theorem ro4_4 (i : Nat) (hi : i < 8) : runV roL frOne [.c (.int f), .agg [.int 4, .int i, .int k, .int s, .int p]] v ty [false, false, true, false, false, false] = some (tn true (!v.ad i), [], .c (.int 0), some ⟨(roneN3 v i false).cs, ty, false, true⟩) := by
  revert i
  refine all8 ?_ ?_ ?_ ?_ ?_ ?_ ?_ ?_ <;> kernel_rfl
theorem ro5_1 : runV roL frOne [.c (.int f), .agg [.int a, .int w, .int k, .int s, .int p]] v ty [false, false, false, true] = some (tg (kn3 a) (decide (k < 1)) true, [], .c (.int 7), some ⟨v.cs, ty, false, true⟩) := by kernel_rfl
theorem ro5_2 : runV roL frOne [.c (.int f), .agg [.int a, .int w, .int k, .int s, .int p]] v ty [false, false, false, false, true] = some (ty_ (tg (kn3 a) (decide (k < 1)) false) (decide (k > 8)), [], .c (.int 7), some ⟨v.cs, ty, false, true⟩) := by kernel_rfl
theorem ro5_3 : runV roL frOne [.c (.int f), .agg [.int a, .int w, .int k, .int s, .int p]] v ty [false, false, false, false, false] = some (tn (tg (kn3 a) (decide (k < 1)) false) (decide (k > 8)), [], .c (.int 0), some ⟨({ v with k := k } : Vi).cs, ty, false, true⟩) := by kernel_rfl
end
theorem rone_step (v : Vi) (f : Int) (o : Ope) : ObjStep Try.prog frOne 0 v.cs [.c (.int f), .agg o.cs] (.c (.int (roneR v f o).1)) (roneR v f o).2.cs := by
  obtain ⟨a, w, k, s, p⟩ := o
  unfold roneR
  cases h2 : a == 2 with
  | true =>
    rw [beq_iff_eq] at h2; subst h2
    simp only [cond_true]
    unfold rone2
    cases h : memI v w with
    | false => exact vi_step roL_ok (fun ty => ro2_1 v ty f w k s p) (tg_eq rfl (by rw [memI_of, h]; rfl)) rfl rfl
    | true =>
      obtain ⟨i, hi, rfl, hm⟩ := memI_no h
      have hA : tg true (!memT v.t i) false = true := tg_eq rfl (by rw [hm]; rfl)
      cases hf : (i : Int) == f with
      | true => exact vi_step roL_ok (fun ty => ro2_2 v ty f k s p i hi) (ty_eq hA hf) rfl rfl
      | false => exact vi_step roL_ok (fun ty => ro2_3 v ty f k s p i hi) (tn_eq hA hf) rfl rfl
  | false =>
  cases h3 : a == 3 with
  | true =>
    rw [beq_iff_eq] at h3; subst h3
    simp only [cond_true, cond_false]
    unfold rone3
    cases h : memI v w with
    | false => exact vi_step roL_ok (fun ty => ro3_1 v ty f w k s p) (tg_eq rfl (by rw [memI_of, h]; rfl)) rfl rfl
    | true =>
      obtain ⟨i, hi, rfl, hm⟩ := memI_no h
      have hA : tg true (!memT v.t i) false = true := tg_eq rfl (by rw [hm]; rfl)
      simp only [Int.toNat_natCast]
      cases hf : v.ad i with
      | true => exact vi_step roL_ok (fun ty => ro3_2 v ty f k s p i hi) (ty_eq hA hf) rfl rfl
      | false => exact vi_step roL_ok (fun ty => ro3_3 v ty f k s p i hi) (tn_eq hA hf) rfl rfl
  | false =>
  cases h4 : a == 4 with
  | true =>
    rw [beq_iff_eq] at h4; subst h4
    simp only [cond_true, cond_false]
    unfold rone4
    cases h : decide (w < 0) with
    | true => exact vi_step roL_ok (fun ty => ro4_1 v ty f w k s p) (tg_eq rfl h) rfl rfl
    | false =>
    cases h' : decide (w ≥ 8) with
    | true => exact vi_step roL_ok (fun ty => ro4_2 v ty f w k s p) (tg_eq (tg_eq rfl h) h') rfl rfl
    | false =>
      rw [decide_eq_false_iff_not] at h h'
      obtain ⟨i, rfl⟩ : ∃ i : Nat, w = i := ⟨w.toNat, by omega⟩
      have hi : i < 8 := by omega
      simp only [Int.toNat_natCast, cond_false]
      cases hf : v.ad i with
      | true => exact vi_step roL_ok (fun ty => ro4_4 v ty f k s p i hi) (tn_eq rfl (by rw [hf]; rfl)) rfl rfl
      | false => exact vi_step roL_ok (fun ty => ro4_3 v ty f k s p i hi) (ty_eq rfl (by rw [hf]; rfl)) rfl rfl
  | false =>
    have hk : kn3 a = true := tn_eq (tn_eq (tn_eq rfl h2) h3) h4
    simp only [cond_false]
    unfold rone5
    cases hA : decide (k < 1) with
    | true => exact vi_step roL_ok (fun ty => ro5_1 v ty f a w k s p) (tg_eq hk hA) rfl rfl
    | false =>
      cases hB : decide (k > 8) with
      | true => exact vi_step roL_ok (fun ty => ro5_2 v ty f a w k s p) (ty_eq (tg_eq hk hA) hB) rfl rfl
      | false => exact vi_step roL_ok (fun ty => ro5_3 v ty f a w k s p) (tn_eq (tg_eq hk hA) hB) rfl rfl

/-! Contracts. -/
def viW (args : List SV → Bool) (g : Vi → List SV → SV × Vi) : Con := objW fun off cs ps => bif args ps then some (Nat.beq off 0 && isVi cs, (g (Vi.of cs) ps).1, (g (Vi.of cs) ps).2.cs) else none
theorem viW_ok {f : FuncId} {args : List SV → Bool} {g : Vi → List SV → SV × Vi} {fn : Func} (hf : Try.prog.funcs[f]? = some fn) (hn : (fn.name == "runtime.NumGoroutine") = false) (hb : fn.body.isNone = false)
    (h : ∀ v ps, args ps = true → ObjStep Try.prog f 0 v.cs ps (g v ps).1 (g v ps).2.cs) : ConOK Try.prog f (viW args g) := by
  refine objW_ok hf hn hb fun off cs ps v cs' he _ _ => ?_
  cases ha : args ps with
  | false => rw [ha] at he; cases he
  | true =>
    rw [ha] at he
    simp only [cond_true, Option.some.injEq, Prod.mk.injEq, Bool.and_eq_true] at he
    obtain ⟨⟨h0, hc⟩, rfl, rfl⟩ := he
    obtain rfl := Nat.eq_of_beq_eq_true h0
    have e := Vi.of_cs hc
    generalize Vi.of cs = c at e
    subst e
    exact h c ps ha
def argF : List SV → Bool | [.c (.int _), .agg [.int _, .int _, .int _, .int _, .int _]] => true | _ => false
def raddW : Con := viW argA fun v ps => match ps with | [.agg [.int s, .int p]] => (tup2 (raddR v s p).1.1 (raddR v s p).1.2, (raddR v s p).2) | _ => (.c (.int 0), v)
def roneW : Con := viW argF fun v ps => match ps with | [.c (.int f), .agg [.int a, .int b, .int d, .int s, .int p]] => (.c (.int (roneR v f ⟨a, b, d, s, p⟩).1), (roneR v f ⟨a, b, d, s, p⟩).2) | _ => (.c (.int 0), v)
theorem raddW_ok : ConOK Try.prog frAdd raddW := viW_ok (fn := Try.f37) (by kernel_rfl) rfl rfl fun v ps h => by
  unfold argA at h
  split at h <;> try (cases h; done)
  exact radd_step v _ _
theorem roneW_ok : ConOK Try.prog frOne roneW := viW_ok (fn := Try.f38) (by kernel_rfl) rfl rfl fun v ps h => by
  unfold argF at h
  split at h <;> try (cases h; done)
  exact rone_step v _ ⟨_, _, _, _, _⟩

end Go.Proofs.Ytabiknpgakhkkaa.Vw
