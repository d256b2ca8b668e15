/-
  What an operation changes: the document's functions. The document's Apply. The program's operations and the document's come to the same. The document's Apply answers as the program's.
-/
import Derived.Test.YtabiknpgakhkkaaGreatVwH
set_option maxRecDepth 20000
section
namespace Go.Proofs.YtabiknpgakhkkaaGreat.Vw
open Go.RowKit Go.Proofs.YtabiknpgakhkkaaGreat.Sx Go.Proofs.YtabiknpgakhkkaaGreat.Pw
set_option linter.unusedVariables false
set_option linter.unusedSimpArgs false

abbrev frAdd : Nat := 44
abbrev frOne : Nat := 45
noncomputable def runV (C : List (Nat × Con)) (f : Nat) (args : List SV) (v : Vi) (ty : TypeId) (told : List Bool) : Option (Bool × List Prop × SV × Option Blk) := (xfunL Tryz.prog C 1000 f (.c (.ptr 0 0) :: args) [(0, some ⟨v.cs, ty, false, true⟩)] 1 told).map (fun q => (q.1, q.2.1, q.2.2.1, q.2.2.2.blk 0))
theorem vi_step {f : FuncId} {v : Vi} {ps : List SV} {e : SV} {v' : Vi} {C : List (Nat × Con)} {told : List Bool} {ob : Bool} (hC : LibOK Tryz.prog C) (h : ∀ ty, runV C f ps v ty told = some (ob, [], e, some ⟨v'.cs, ty, false, true⟩)) (hob : ob = true) (hps : ps.all SV.sole = true) (he : e.soleT = true) :
    ObjStep Tryz.prog f 0 v.cs ps e v'.cs :=
  objStep_of rfl rfl rfl (fun ρ ρ' u h => soleT_R h he) (fun X hX ty => Fn.xtL hC Sp.mixed told (h ty) hob trivial) hps

theorem Vi.len2 (u v : Vi) : u.cs.length = v.cs.length := rfl

/-! Add. -/
theorem fstF_all {f : Nat → Bool} : ∀ {n : Nat}, (∀ j, j < n → f j = false) → fstF f n = none
  | 0, _ => rfl
  | n + 1, h => by unfold fstF; rw [fstF_all fun j hj => h j (by omega), h n (by omega)]; rfl
def raddN (v : Vi) (i : Nat) (s p : Int) : Vi := { v with t := putT v.t i s p, ad := fun j => bif Nat.beq j i then false else v.ad j }
def raddR (v : Vi) (s p : Int) : (Int × Int) × Vi := bif !isS s then ((0, 7), v) else bif !isS p then ((0, 7), v) else match fstF (fun i => v.t.sg i == s) 8 with
  | some _ => ((0, 7), v)
  | none => match fstF (fun i => !memT v.t i) 8 with
    | none => ((0, 12), v)
    | some i => (((i : Int), 0), raddN v i s p)
def tup2 (a b : Int) : SV := .tup [.inl (.int a), .inl (.int b)]
theorem tup2_sole (a b : Int) : (tup2 a b).soleT = true := rfl
abbrev raL : List (Nat × Con) := [(frIs, isC), (frMem, memC), (frPut, putC)]
theorem raL_ok : LibOK Tryz.prog raL := LibOK.cons ris_ok (LibOK.cons rmem_ok (LibOK.cons rput_ok (LibOK.nil _)))
abbrev tLeaf : Nat := 23
def raI (v : Vi) (ty : TypeId) (s p fr i : Int) : St := ⟨[(0, .c (.ptr 0 0)), (3, .c (.ptr 1 0)), (4, .c (.int 0)), (5, .c (.int 0)), (6, .c (.int fr)), (7, .c (.int i))], [(0, some ⟨v.cs, ty, false, true⟩), (1, some ⟨[.int s, .int p], tLeaf, false, true⟩)], 2, 58⟩
def raCut : Cut := ⟨[(0, false), (3, false), (4, true), (5, true), (6, true), (7, true)], [(0, 0, true), (1, 1, true)], 2⟩
/-- The lowest place among the last so many that nobody has. -/
def frE (v : Vi) : Nat → Int
  | 0 => -1
  | k + 1 => bif !memT v.t (7 - k) then ((7 - k : Nat) : Int) else frE v k
theorem ra_1 (v : Vi) (ty : TypeId) (s p : Int) : runV raL frAdd [.agg [.int s, .int p]] v ty [true] = some (tg true (!isS s) true, [], tup2 0 7, some ⟨v.cs, ty, false, true⟩) := by kernel_rfl
theorem ra_2 (v : Vi) (ty : TypeId) (s p : Int) : runV raL frAdd [.agg [.int s, .int p]] v ty [false, true] = some (ty_ (tg true (!isS s) false) (!isS p), [], tup2 0 7, some ⟨v.cs, ty, false, true⟩) := by kernel_rfl
theorem ra_start {nf : Nat} (hX : nf = 1) (v : Vi) (ty : TypeId) (s p : Int) : stepL Tryz.prog raL nf 1000 5 (bodyOf Tryz.prog frAdd) ⟨argTmps [.c (.ptr 0 0), .agg [.int s, .int p]] 0, [(0, some ⟨v.cs, ty, false, true⟩)], 1, 58⟩ [false, false] [] raCut = some (tn (tg true (!isS s) false) (!isS p), [], raI v ty s p (-1) 7) := by subst hX; kernel_rfl
theorem ra_mem {nf : Nat} (hX : nf = 1) (v : Vi) (ty : TypeId) (s p fr : Int) (k : Nat) (hk : k < 8) : stepL Tryz.prog raL nf 1000 4 (loopB ((bodyOf Tryz.prog frAdd).drop 5)) (raI v ty s p fr (7 - k : Int)) [true, false, false] [] raCut = some (tn (tn true (v.t.sg (7 - k) == s)) (!memT v.t (7 - k)), [], raI v ty s p fr (6 - k : Int)) := by
  subst hX
  revert k
  refine all8 ?_ ?_ ?_ ?_ ?_ ?_ ?_ ?_ <;> kernel_rfl
theorem ra_non {nf : Nat} (hX : nf = 1) (v : Vi) (ty : TypeId) (s p fr : Int) (k : Nat) (hk : k < 8) : stepL Tryz.prog raL nf 1000 4 (loopB ((bodyOf Tryz.prog frAdd).drop 5)) (raI v ty s p fr (7 - k : Int)) [true, false, true] [] raCut = some (ty_ (tn true (v.t.sg (7 - k) == s)) (!memT v.t (7 - k)), [], raI v ty s p ((7 - k : Nat) : Int) (6 - k : Int)) := by
  subst hX
  revert k
  refine all8 ?_ ?_ ?_ ?_ ?_ ?_ ?_ ?_ <;> kernel_rfl
/-- A return from a loop: what comes back, what a block has become. -/
def retT (P : Program) (C : List (Nat × Con)) (f fuel n : Nat) (l : List Code) (st : St) (told : List Bool) (k : Nat) : Option (Bool × List Prop × SV × Option Blk) :=
  match P.funcs[f]? with
  | some fn => match xrowL P C fuel n l ⟨st, true, [], ⟨told, []⟩⟩ with
    | some (.ret, s) => match resS P s.st fn.results.toList with
      | some (b, v) => some (bnd s.ob b, s.obs, v, s.st.tab.blk k)
      | none => none
    | _ => none
  | none => none
theorem SWs.retT' {P : Program} {C : List (Nat × Con)} {X : Cx} (hC : LibOK P C) (hm : P.follows .mixedOrders = true) {f fuel n : Nat} {l : List Code} {st : St} (told : List Bool) {ob : Bool} {obs : List Prop} {v : SV} {k : Nat} {b : Option Blk} {next : St → Prop} {i : Nat} {rest : St → Prop}
    (h : retT P C f fuel n l st told k = some (ob, obs, v, b)) (hob : ob = true) (hobs : All obs) : SWs P X l st (roundQ next i rest (FinQ P f fun v' T => v' = v ∧ T.blk k = b)) := by
  unfold retT at h
  split at h <;> try (cases h; done)
  rename_i fn hfn
  split at h <;> try (cases h; done)
  rename_i s hs
  split at h <;> try (cases h; done)
  rename_i b' v' hv
  simp only [Option.some.injEq, Prod.mk.injEq] at h
  obtain ⟨rfl, rfl, rfl, rfl⟩ := h
  simp only [bnd_true] at hob
  obtain ⟨h1, rfl⟩ := hob
  exact SWs.xrow hC hm n l _ s .ret (xrowL_eq _ _ _ _ _ hs h1 hobs) h1 hobs ⟨rfl, fn, v', hfn, hv, rfl, rfl⟩
theorem ra_hit (v : Vi) (ty : TypeId) (s p fr : Int) (k : Nat) (hk : k < 8) : retT Tryz.prog raL frAdd 1000 4 (loopB ((bodyOf Tryz.prog frAdd).drop 5)) (raI v ty s p fr (7 - k : Int)) [true, true] 0 = some (ty_ true (v.t.sg (7 - k) == s), [], tup2 0 7, some ⟨v.cs, ty, false, true⟩) := by
  revert k
  refine all8 ?_ ?_ ?_ ?_ ?_ ?_ ?_ ?_ <;> kernel_rfl
theorem ra_out {nf : Nat} (hX : nf = 1) (v : Vi) (ty : TypeId) (s p fr : Int) : exitL Tryz.prog raL nf 1000 2 (loopB ((bodyOf Tryz.prog frAdd).drop 5)) (raI v ty s p fr (-1)) [false] [] raCut = some (0, true, [], raI v ty s p fr (-1)) := by subst hX; kernel_rfl
theorem ra_full (v : Vi) (ty : TypeId) (s p : Int) : (finL Tryz.prog raL frAdd 1000 100 ((bodyOf Tryz.prog frAdd).drop 6) (raI v ty s p (-1) (-1)) []).map (fun q => (q.1, q.2.1, q.2.2.1, q.2.2.2.blk 0)) = some (true, [], tup2 0 12, some ⟨v.cs, ty, false, true⟩) := by kernel_rfl
theorem ra_free (v : Vi) (ty : TypeId) (s p : Int) (i : Nat) (hi : i < 8) : (finL Tryz.prog raL frAdd 1000 100 ((bodyOf Tryz.prog frAdd).drop 6) (raI v ty s p i (-1)) []).map (fun q => (q.1, q.2.1, q.2.2.1, q.2.2.2.blk 0)) = some (true, [], tup2 i 0, some ⟨(raddN v i s p).cs, ty, false, true⟩) := by
  revert i
  refine all8 ?_ ?_ ?_ ?_ ?_ ?_ ?_ ?_ <;> kernel_rfl
theorem frE_none (v : Vi) : ∀ k, k ≤ 8 → (∀ j, 8 - k ≤ j → j < 8 → (!memT v.t j) = false) → frE v k = -1
  | 0, _, _ => rfl
  | k + 1, hk, h => by
    unfold frE
    rw [h (7 - k) (by omega) (by omega)]
    exact frE_none v k (by omega) fun j h1 h2 => h j (by omega) h2
theorem frE_some (v : Vi) {i : Nat} (hi : i < 8) (hm : (!memT v.t i) = true) : ∀ k, 8 - i ≤ k → k ≤ 8 → (∀ j, 8 - k ≤ j → j < i → (!memT v.t j) = false) → frE v k = i
  | 0, h1, h2, _ => by omega
  | k + 1, h1, h2, h => by
    unfold frE
    by_cases hk : 7 - k = i
    · rw [hk, hm]; rfl
    · rw [h (7 - k) (by omega) (by omega)]
      exact frE_some v hi hm k (by omega) (by omega) fun j h3 h4 => h j (by omega) h4
theorem radd_step (v : Vi) (s p : Int) : ObjStep Tryz.prog frAdd 0 v.cs [.agg [.int s, .int p]] (tup2 (raddR v s p).1.1 (raddR v s p).1.2) (raddR v s p).2.cs := by
  unfold raddR
  cases h1 : isS s with
  | false => exact vi_step raL_ok (fun ty => ra_1 v ty s p) (tg_eq rfl (by rw [h1]; rfl)) rfl rfl
  | true =>
  cases h2 : isS p with
  | false => exact vi_step raL_ok (fun ty => ra_2 v ty s p) (ty_eq (tg_eq rfl (by rw [h1]; rfl)) (by rw [h2]; rfl)) rfl rfl
  | true =>
  simp only [Bool.not_true, cond_false]
  refine objStep_of (P := Tryz.prog) (f := frAdd) (off := 0) (cs := v.cs) (Vi.sole v) ?_ ?_ (fun ρ ρ' u h => soleT_R h (tup2_sole _ _)) (fun X hX ty => ?_) rfl
  · exact Vi.sole _
  · exact Vi.len2 _ _
  refine Sx.Fn.of (nt := 58) (by kernel_rfl) rfl ?_
  refine SWs.stepL raL_ok Sp.mixed [false, false] (ra_start hX v ty s p) (tn_eq (tg_eq rfl (by rw [h1]; rfl)) (by rw [h2]; rfl)) trivial ?_
  refine SWs.loop (by kernel_rfl) (fun k : Nat => raI v ty s p (frE v k) (7 - k : Int)) (fun k => 8 - k) (fun k => k ≤ 8 ∧ ∀ j, 8 - k ≤ j → j < 8 → (v.t.sg j == s) = false) 0 ⟨by omega, fun j h1 h2 => by omega⟩ ?_
  rintro k ⟨hk, hno⟩
  by_cases h8 : k = 8
  · subst h8
    refine SWs.outL raL_ok Sp.mixed [false] (ra_out hX v ty s p (frE v 8)) rfl trivial ?_
    have e1 : fstF (fun i => v.t.sg i == s) 8 = none := fstF_all fun j hj => hno j (by omega) hj
    rw [e1]
    simp only
    cases h3 : fstF (fun i => !memT v.t i) 8 with
    | none =>
      have := frE_none v 8 (by omega) fun j _ hj => fstF_none h3 j hj
      simp only [this]
      exact SWs.fintL raL_ok Sp.mixed [] (ra_full v ty s p) rfl trivial
    | some i =>
      obtain ⟨g1, g2, g3⟩ := fstF_some h3
      have := frE_some v g1 g2 8 (by omega) (by omega) fun j _ hj => g3 j hj
      simp only [this]
      exact SWs.fintL raL_ok Sp.mixed [] (ra_free v ty s p i g1) rfl trivial
  · have hk' : k < 8 := by omega
    cases hs : v.t.sg (7 - k) == s with
    | true =>
      have e1 : ∃ i, fstF (fun i => v.t.sg i == s) 8 = some i := by
        cases h : fstF (fun i => v.t.sg i == s) 8 with
        | none => rw [fstF_none h (7 - k) (by omega)] at hs; cases hs
        | some i => exact ⟨i, rfl⟩
      obtain ⟨i, e1⟩ := e1
      rw [e1]
      exact SWs.retT' raL_ok Sp.mixed [true, true] (ra_hit v ty s p _ k hk') (ty_eq rfl hs) trivial
    | false =>
      have hno' : ∀ j, 8 - (k + 1) ≤ j → j < 8 → (v.t.sg j == s) = false := fun j h1 h2 => by
        by_cases hj : j = 7 - k
        · rw [hj]; exact hs
        · exact hno j (by omega) h2
      cases hm : memT v.t (7 - k) with
      | true =>
        refine SWs.roundL raL_ok Sp.mixed [true, false, false] (ra_mem hX v ty s p (frE v k) k hk') rfl (tn_eq (tn_eq rfl hs) (by rw [hm]; rfl)) trivial ⟨k + 1, ⟨by omega, hno'⟩, by omega, ?_⟩
        have e : frE v (k + 1) = frE v k := by show (bif !memT v.t (7 - k) then _ else _) = _; rw [hm]; rfl
        simp only [e]
        congr 1
        omega
      | false =>
        refine SWs.roundL raL_ok Sp.mixed [true, false, true] (ra_non hX v ty s p (frE v k) k hk') rfl (ty_eq (tn_eq rfl hs) (by rw [hm]; rfl)) trivial ⟨k + 1, ⟨by omega, hno'⟩, by omega, ?_⟩
        have e : frE v (k + 1) = ((7 - k : Nat) : Int) := by show (bif !memT v.t (7 - k) then _ else _) = _; rw [hm]; rfl
        simp only [e]
        congr 1
        omega

/-! The other operations. -/
def roneN2 (v : Vi) (i : Nat) : Vi := { v with t := putT v.t i 0 0, ad := fun j => bif Nat.beq j i then false else v.ad j }
def roneN3 (v : Vi) (i : Nat) (b : Bool) : Vi := { v with ad := fun j => bif Nat.beq j i then b else v.ad j }
def rone2 (v : Vi) (f n : Int) : Int × Vi := bif !memI v n then (7, v) else bif n == f then (7, v) else (0, roneN2 v n.toNat)
def rone3 (v : Vi) (n : Int) : Int × Vi := bif !memI v n then (7, v) else bif v.ad n.toNat then (7, v) else (0, roneN3 v n.toNat true)
def rone4 (v : Vi) (n : Int) : Int × Vi := bif decide (n < 0) then (7, v) else bif decide (n ≥ 8) then (7, v) else bif !v.ad n.toNat then (7, v) else (0, roneN3 v n.toNat false)
def rone5 (v : Vi) (k : Int) : Int × Vi := bif decide (k < 1) then (7, v) else bif decide (k > 8) then (7, v) else (0, { v with k := k })
def roneR (v : Vi) (f : Int) (o : Ope) : Int × Vi := bif o.kind == 2 then rone2 v f o.who else bif o.kind == 3 then rone3 v o.who else bif o.kind == 4 then rone4 v o.who else rone5 v o.k
abbrev roL : List (Nat × Con) := [(frMem, memC), (frPut, putC)]
theorem roL_ok : LibOK Tryz.prog roL := LibOK.cons rmem_ok (LibOK.cons rput_ok (LibOK.nil _))
def kn3 (k : Int) : Bool := tn (tn (tn true (k == 2)) (k == 3)) (k == 4)
section
variable (v : Vi) (ty : TypeId) (f a w k s p : Int)
theorem ro2_1 : runV roL frOne [.c (.int f), .agg [.int 2, .int w, .int k, .int s, .int p]] v ty [true, true] = some (tg true (!memI (Vi.of v.cs) w) true, [], .c (.int 7), some ⟨v.cs, ty, false, true⟩) := by kernel_rfl
theorem ro2_2 (i : Nat) (hi : i < 8) : runV roL frOne [.c (.int f), .agg [.int 2, .int i, .int k, .int s, .int p]] v ty [true, false, true] = some (ty_ (tg true (!memT v.t i) false) ((i : Int) == f), [], .c (.int 7), some ⟨v.cs, ty, false, true⟩) := by
  revert i
  refine all8 ?_ ?_ ?_ ?_ ?_ ?_ ?_ ?_ <;> kernel_rfl
theorem ro2_3 (i : Nat) (hi : i < 8) : runV roL frOne [.c (.int f), .agg [.int 2, .int i, .int k, .int s, .int p]] v ty [true, false, false] = some (tn (tg true (!memT v.t i) false) ((i : Int) == f), [], .c (.int 0), some ⟨(roneN2 v i).cs, ty, false, true⟩) := by
  revert i
  refine all8 ?_ ?_ ?_ ?_ ?_ ?_ ?_ ?_ <;> kernel_rfl
theorem ro3_1 : runV roL frOne [.c (.int f), .agg [.int 3, .int w, .int k, .int s, .int p]] v ty [false, true, true] = some (tg true (!memI (Vi.of v.cs) w) true, [], .c (.int 7), some ⟨v.cs, ty, false, true⟩) := by kernel_rfl
theorem ro3_2 (i : Nat) (hi : i < 8) : runV roL frOne [.c (.int f), .agg [.int 3, .int i, .int k, .int s, .int p]] v ty [false, true, false, true] = some (ty_ (tg true (!memT v.t i) false) (v.ad i), [], .c (.int 7), some ⟨v.cs, ty, false, true⟩) := by
  revert i
  refine all8 ?_ ?_ ?_ ?_ ?_ ?_ ?_ ?_ <;> kernel_rfl
theorem ro3_3 (i : Nat) (hi : i < 8) : runV roL frOne [.c (.int f), .agg [.int 3, .int i, .int k, .int s, .int p]] v ty [false, true, false, false] = some (tn (tg true (!memT v.t i) false) (v.ad i), [], .c (.int 0), some ⟨(roneN3 v i true).cs, ty, false, true⟩) := by
  revert i
  refine all8 ?_ ?_ ?_ ?_ ?_ ?_ ?_ ?_ <;> kernel_rfl
theorem ro4_1 : runV roL frOne [.c (.int f), .agg [.int 4, .int w, .int k, .int s, .int p]] v ty [false, false, true, true] = some (tg true (decide (w < 0)) true, [], .c (.int 7), some ⟨v.cs, ty, false, true⟩) := by kernel_rfl
theorem ro4_2 : runV roL frOne [.c (.int f), .agg [.int 4, .int w, .int k, .int s, .int p]] v ty [false, false, true, false, true] = some (tg (tg true (decide (w < 0)) false) (decide (w ≥ 8)) true, [], .c (.int 7), some ⟨v.cs, ty, false, true⟩) := by kernel_rfl
theorem ro4_3 (i : Nat) (hi : i < 8) : runV roL frOne [.c (.int f), .agg [.int 4, .int i, .int k, .int s, .int p]] v ty [false, false, true, false, false, true] = some (ty_ true (!v.ad i), [], .c (.int 7), some ⟨v.cs, ty, false, true⟩) := by
  revert i
  refine all8 ?_ ?_ ?_ ?_ ?_ ?_ ?_ ?_ <;> kernel_rfl
theorem ro4_4 (i : Nat) (hi : i < 8) : runV roL frOne [.c (.int f), .agg [.int 4, .int i, .int k, .int s, .int p]] v ty [false, false, true, false, false, false] = some (tn true (!v.ad i), [], .c (.int 0), some ⟨(roneN3 v i false).cs, ty, false, true⟩) := by
  revert i
  refine all8 ?_ ?_ ?_ ?_ ?_ ?_ ?_ ?_ <;> kernel_rfl
theorem ro5_1 : runV roL frOne [.c (.int f), .agg [.int a, .int w, .int k, .int s, .int p]] v ty [false, false, false, true] = some (tg (kn3 a) (decide (k < 1)) true, [], .c (.int 7), some ⟨v.cs, ty, false, true⟩) := by kernel_rfl
theorem ro5_2 : runV roL frOne [.c (.int f), .agg [.int a, .int w, .int k, .int s, .int p]] v ty [false, false, false, false, true] = some (ty_ (tg (kn3 a) (decide (k < 1)) false) (decide (k > 8)), [], .c (.int 7), some ⟨v.cs, ty, false, true⟩) := by kernel_rfl
theorem ro5_3 : runV roL frOne [.c (.int f), .agg [.int a, .int w, .int k, .int s, .int p]] v ty [false, false, false, false, false] = some (tn (tg (kn3 a) (decide (k < 1)) false) (decide (k > 8)), [], .c (.int 0), some ⟨({ v with k := k } : Vi).cs, ty, false, true⟩) := by kernel_rfl
end
theorem rone_step (v : Vi) (f : Int) (o : Ope) : ObjStep Tryz.prog frOne 0 v.cs [.c (.int f), .agg o.cs] (.c (.int (roneR v f o).1)) (roneR v f o).2.cs := by
  obtain ⟨a, w, k, s, p⟩ := o
  unfold roneR
  cases h2 : a == 2 with
  | true =>
    rw [beq_iff_eq] at h2; subst h2
    simp only [cond_true]
    unfold rone2
    cases h : memI v w with
    | false => exact vi_step roL_ok (fun ty => ro2_1 v ty f w k s p) (tg_eq rfl (by rw [memI_of, h]; rfl)) rfl rfl
    | true =>
      obtain ⟨i, hi, rfl, hm⟩ := memI_no h
      have hA : tg true (!memT v.t i) false = true := tg_eq rfl (by rw [hm]; rfl)
      cases hf : (i : Int) == f with
      | true => exact vi_step roL_ok (fun ty => ro2_2 v ty f k s p i hi) (ty_eq hA hf) rfl rfl
      | false => exact vi_step roL_ok (fun ty => ro2_3 v ty f k s p i hi) (tn_eq hA hf) rfl rfl
  | false =>
  cases h3 : a == 3 with
  | true =>
    rw [beq_iff_eq] at h3; subst h3
    simp only [cond_true, cond_false]
    unfold rone3
    cases h : memI v w with
    | false => exact vi_step roL_ok (fun ty => ro3_1 v ty f w k s p) (tg_eq rfl (by rw [memI_of, h]; rfl)) rfl rfl
    | true =>
      obtain ⟨i, hi, rfl, hm⟩ := memI_no h
      have hA : tg true (!memT v.t i) false = true := tg_eq rfl (by rw [hm]; rfl)
      simp only [Int.toNat_natCast]
      cases hf : v.ad i with
      | true => exact vi_step roL_ok (fun ty => ro3_2 v ty f k s p i hi) (ty_eq hA hf) rfl rfl
      | false => exact vi_step roL_ok (fun ty => ro3_3 v ty f k s p i hi) (tn_eq hA hf) rfl rfl
  | false =>
  cases h4 : a == 4 with
  | true =>
    rw [beq_iff_eq] at h4; subst h4
    simp only [cond_true, cond_false]
    unfold rone4
    cases h : decide (w < 0) with
    | true => exact vi_step roL_ok (fun ty => ro4_1 v ty f w k s p) (tg_eq rfl h) rfl rfl
    | false =>
    cases h' : decide (w ≥ 8) with
    | true => exact vi_step roL_ok (fun ty => ro4_2 v ty f w k s p) (tg_eq (tg_eq rfl h) h') rfl rfl
    | false =>
      rw [decide_eq_false_iff_not] at h h'
      obtain ⟨i, rfl⟩ : ∃ i : Nat, w = i := ⟨w.toNat, by omega⟩
      have hi : i < 8 := by omega
      simp only [Int.toNat_natCast, cond_false]
      cases hf : v.ad i with
      | true => exact vi_step roL_ok (fun ty => ro4_4 v ty f k s p i hi) (tn_eq rfl (by rw [hf]; rfl)) rfl rfl
      | false => exact vi_step roL_ok (fun ty => ro4_3 v ty f k s p i hi) (ty_eq rfl (by rw [hf]; rfl)) rfl rfl
  | false =>
    have hk : kn3 a = true := tn_eq (tn_eq (tn_eq rfl h2) h3) h4
    simp only [cond_false]
    unfold rone5
    cases hA : decide (k < 1) with
    | true => exact vi_step roL_ok (fun ty => ro5_1 v ty f a w k s p) (tg_eq hk hA) rfl rfl
    | false =>
      cases hB : decide (k > 8) with
      | true => exact vi_step roL_ok (fun ty => ro5_2 v ty f a w k s p) (ty_eq (tg_eq hk hA) hB) rfl rfl
      | false => exact vi_step roL_ok (fun ty => ro5_3 v ty f a w k s p) (tn_eq (tg_eq hk hA) hB) rfl rfl

/-! Contracts. -/
def viW (args : List SV → Bool) (g : Vi → List SV → SV × Vi) : Con := objW fun off cs ps => bif args ps then some (Nat.beq off 0 && isVi cs, (g (Vi.of cs) ps).1, (g (Vi.of cs) ps).2.cs) else none
theorem viW_ok {f : FuncId} {args : List SV → Bool} {g : Vi → List SV → SV × Vi} {fn : Func} (hf : Tryz.prog.funcs[f]? = some fn) (hn : (fn.name == "runtime.NumGoroutine") = false) (hb : fn.body.isNone = false)
    (h : ∀ v ps, args ps = true → ObjStep Tryz.prog f 0 v.cs ps (g v ps).1 (g v ps).2.cs) : ConOK Tryz.prog f (viW args g) := by
  refine objW_ok hf hn hb fun off cs ps v cs' he _ _ => ?_
  cases ha : args ps with
  | false => rw [ha] at he; cases he
  | true =>
    rw [ha] at he
    simp only [cond_true, Option.some.injEq, Prod.mk.injEq, Bool.and_eq_true] at he
    obtain ⟨⟨h0, hc⟩, rfl, rfl⟩ := he
    obtain rfl := Nat.eq_of_beq_eq_true h0
    have e := Vi.of_cs hc
    generalize Vi.of cs = c at e
    subst e
    exact h c ps ha
def argF : List SV → Bool | [.c (.int _), .agg [.int _, .int _, .int _, .int _, .int _]] => true | _ => false
def raddW : Con := viW argA fun v ps => match ps with | [.agg [.int s, .int p]] => (tup2 (raddR v s p).1.1 (raddR v s p).1.2, (raddR v s p).2) | _ => (.c (.int 0), v)
def roneW : Con := viW argF fun v ps => match ps with | [.c (.int f), .agg [.int a, .int b, .int d, .int s, .int p]] => (.c (.int (roneR v f ⟨a, b, d, s, p⟩).1), (roneR v f ⟨a, b, d, s, p⟩).2) | _ => (.c (.int 0), v)
theorem raddW_ok : ConOK Tryz.prog frAdd raddW := viW_ok (fn := Tryz.f44) (by kernel_rfl) rfl rfl fun v ps h => by
  unfold argA at h
  split at h <;> try (cases h; done)
  exact radd_step v _ _
theorem roneW_ok : ConOK Tryz.prog frOne roneW := viW_ok (fn := Tryz.f45) (by kernel_rfl) rfl rfl fun v ps h => by
  unfold argF at h
  split at h <;> try (cases h; done)
  exact rone_step v _ ⟨_, _, _, _, _⟩

end Go.Proofs.YtabiknpgakhkkaaGreat.Vw
end

section
namespace Go.Proofs.YtabiknpgakhkkaaGreat.Vw
open Go.RowKit Go.Proofs.YtabiknpgakhkkaaGreat.Sx Go.Proofs.YtabiknpgakhkkaaGreat.Pw
set_option linter.unusedVariables false
set_option linter.unusedSimpArgs false

abbrev frApp : Nat := 19
abbrev rapL : List (Nat × Con) := [(frVIs, vIsC), (frOwn, isOpC), (frMem, memC), (frAdd, raddW), (frOne, roneW), (frAdm, radmC)]
theorem rapL_ok : LibOK Tryz.prog rapL := LibOK.cons rvIs_ok (LibOK.cons own_ok (LibOK.cons rmem_ok (LibOK.cons raddW_ok (LibOK.cons roneW_ok (LibOK.cons radm_ok (LibOK.nil _))))))
def rTab (r : RB) (v : Vi) (a g : List SC) : Tab := [(0, some r.b), (1, some ⟨v.cs, tView, false, true⟩), (2, some ⟨zeroV.cs, tView, false, true⟩), (3, some ⟨adC no8, tB8, false, true⟩), (4, some ⟨adC no8, tB8, false, true⟩), (5, some ⟨a, tB8, false, true⟩), (6, some ⟨g, tB8, false, true⟩), (7, some ⟨adC no8, tB8, false, true⟩)]
def la (r : RB) (v : Vi) (f : Int) (b : Bool) (i : Int) : St := ⟨[(1, .c (.int f)), (2, .c (.slc 0 r.off 5 r.n none)), (3, .c (.ptr 1 0)), (6, .c (.ptr 2 0)), (7, .c (.ptr 3 0)), (8, .c (.ptr 4 0)), (9, .c (.int 0)), (10, .c (.ptr 5 0)), (11, .c (.ptr 6 0)), (12, .c (.ptr 7 0)), (13, .c (.bool b)), (14, .c (.int i))], rTab r v (adC no8) (adC no8), 8, 126⟩
def lb (r : RB) (v : Vi) (f : Int) (a g : List SC) (i : Int) : St := ⟨[(1, .c (.int f)), (2, .c (.slc 0 r.off 5 r.n none)), (3, .c (.ptr 1 0)), (6, .c (.ptr 2 0)), (7, .c (.ptr 3 0)), (8, .c (.ptr 4 0)), (9, .c (.int 0)), (10, .c (.ptr 5 0)), (11, .c (.ptr 6 0)), (12, .c (.ptr 7 0)), (15, .c (.int i))], rTab r v a g, 8, 126⟩
def rKeys (a b c d e f g : Nat) : List (Nat × Nat × Bool) := [(0, 0, true), (a, 1, true), (b, 2, true), (c, 3, true), (d, 4, true), (e, 5, true), (f, 6, true), (g, 7, true)]
def laCut (k : List (Nat × Nat × Bool)) : Cut := ⟨[(1, true), (2, false), (3, false), (6, false), (7, false), (8, false), (9, true), (10, false), (11, false), (12, false), (13, true), (14, true)], k, 8⟩
def lbCut : Cut := ⟨[(1, true), (2, false), (3, false), (6, false), (7, false), (8, false), (9, true), (10, false), (11, false), (12, false), (15, true)], rKeys 1 2 3 4 5 6 7, 8⟩
def le4 (n : Nat) : Bool := decide ((n : Int) ≤ 4)
section
variable (off n : Nat) (cells : List SC) (ty : TypeId) (v : Vi) (f : Int)
theorem ra_s1 : stepL Tryz.prog rapL 0 1000 4 (bodyOf Tryz.prog frApp) ⟨argTmps [.agg v.cs, .c (.int f), .c (.slc 0 off 5 n none)] 0, [(0, some ⟨cells, ty, true, false⟩)], 1, 126⟩ [false] [] (laCut (rKeys 1 5 9 13 21 25 29)) =
    some (bnd (tg true (isVS (Vi.of v.cs)) false) (pl (rbO off n cells ty)), [], la (rbO off n cells ty) v f false 0) := by kernel_rfl
theorem ra_s2 : stepL Tryz.prog rapL 0 1000 4 (bodyOf Tryz.prog frApp) ⟨argTmps [.agg v.cs, .c (.int f), .c (.slc 0 off 5 n none)] 0, [(0, some ⟨cells, ty, true, false⟩)], 1, 126⟩ [true] [] (laCut (rKeys 1 5 9 13 21 25 29)) =
    some (bnd (tg true (isVS (Vi.of v.cs)) true) (pl (rbO off n cells ty)), [], la (rbO off n cells ty) v f (le4 n) 0) := by kernel_rfl
def ltI (n i : Nat) : Bool := decide ((i : Int) < (n : Int))
theorem la_round (b : Bool) (i : Nat) : stepL Tryz.prog rapL 0 1000 4 (loopB ((bodyOf Tryz.prog frApp).drop 4)) (la (rbO off n cells ty) v f b i) [true, true] [] (laCut (rKeys 1 2 3 4 5 6 7)) =
    some (bnd (ldO (rbO off n cells ty) i (ty_ (tg true (ltI n i) true) b)) (pl (rbO off n cells ty)), [], la (rbO off n cells ty) v f (opOk (opAt (rbO off n cells ty) i)) (IntKind.i64.wrap ((i : Int) + 1))) := by kernel_rfl
theorem la_out1 (b : Bool) (i : Nat) : exitL Tryz.prog rapL 0 1000 2 (loopB ((bodyOf Tryz.prog frApp).drop 4)) (la (rbO off n cells ty) v f b i) [true, false] [] (laCut (rKeys 1 2 3 4 5 6 7)) =
    some (0, bnd (tn (tg true (ltI n i) true) b) (pl (rbO off n cells ty)), [], la (rbO off n cells ty) v f b i) := by kernel_rfl
theorem la_out2 (b : Bool) (i : Nat) : exitL Tryz.prog rapL 0 1000 2 (loopB ((bodyOf Tryz.prog frApp).drop 4)) (la (rbO off n cells ty) v f b i) [false, false] [] (laCut (rKeys 1 2 3 4 5 6 7)) =
    some (0, bnd (tg true (ltI n i) false) (pl (rbO off n cells ty)), [], la (rbO off n cells ty) v f b i) := by kernel_rfl
theorem ra_bad (b : Bool) (i : Nat) : (finL Tryz.prog rapL frApp 1000 100 ((bodyOf Tryz.prog frApp).drop 5) (la (rbO off n cells ty) v f b i) [true]).map (fun q => (q.1, q.2.1, q.2.2.1)) = some (ty_ true (!b), obs3, resT zeroV no8 no8 1) := by kernel_rfl
theorem ra_who (b : Bool) (i : Nat) : (finL Tryz.prog rapL frApp 1000 100 ((bodyOf Tryz.prog frApp).drop 5) (la (rbO off n cells ty) v f b i) [false, true]).map (fun q => (q.1, q.2.1, q.2.2.1)) = some (ty_ (tn true (!b)) (!memI (Vi.of v.cs) f), obs3, resT zeroV no8 no8 6) := by kernel_rfl
theorem ra_go (b : Bool) (i : Nat) : stepL Tryz.prog rapL 0 1000 5 ((bodyOf Tryz.prog frApp).drop 5) (la (rbO off n cells ty) v f b i) [false, false] [] lbCut = some (bnd (tn (tn true (!b)) (!memI (Vi.of v.cs) f)) (pl (rbO off n cells ty)), [], lb (rbO off n cells ty) v f (adC no8) (adC no8) 0) := by kernel_rfl
end

def ixB (n i : Nat) : Bool := decide (0 ≤ (i : Int)) && (Nat.blt (i : Int).toNat n && true)
def lk (r : RB) (o : Nat) : Bool := Nat.blt o r.b.cells.length && isI r.b.cells o
def l2 (r : RB) (o : Nat) : Bool := Nat.ble (o + 2) r.b.cells.length && (isI r.b.cells o && (isI r.b.cells (o + 1) && true))
def kOk (k : Int) : Bool := decide (0 ≤ k) && Nat.blt k.toNat 8
def kB (k : Int) : Nat := 0 + k.toNat * 1
def kLd (a : List SC) (k : Int) : Bool := Nat.blt (kB k) 8 && (a.getD (kB k) .nilp).isBool
def kAt (a : List SC) (k : Int) : Bool := (a.getD (kB k) .nilp).asBool
def addQ (v : Vi) (o : Ope) : (Int × Int) × Vi := raddR (Vi.of v.cs) o.sg o.sl
def c3 (r : RB) (i : Nat) : Bool := bnd (bnd (ty_ true (ltI r.n i)) (ixB r.n i)) (lk r (r.off + i * 5))
def addC1 (r : RB) (v : Vi) (ad : Nat → Bool) (i : Nat) (b : Bool) : Bool :=
  bnd (bnd (tg (bnd (bnd (bnd (bnd (ty_ (c3 r i) ((opAt r i).kind == 1)) (ixB r.n i)) (l2 r (r.off + i * 5 + 3))) (kOk (addQ v (opAt r i)).1.1)) (kLd (adC ad) (addQ v (opAt r i)).1.1)) (kAt (adC ad) (addQ v (opAt r i)).1.1) b) (kOk (addQ v (opAt r i)).1.1)) (Nat.ble (kB (addQ v (opAt r i)).1.1 + 1) 8)
def pl2 (r : RB) (a : List SC) : Bool := r.b.cells.all SC.plain && (a.all SC.plain && true)
def l5 (r : RB) (i : Nat) : Bool := Nat.ble (r.off + i * 5 + 5) r.b.cells.length && (isI r.b.cells (r.off + i * 5) && (isI r.b.cells (r.off + i * 5 + 1) && (isI r.b.cells (r.off + i * 5 + 1 + 1) && (isI r.b.cells (r.off + i * 5 + 1 + 1 + 1) && (isI r.b.cells (r.off + i * 5 + 1 + 1 + 1 + 1) && true)))))
def oneQ (v : Vi) (f : Int) (o : Ope) : Int × Vi := roneR (Vi.of v.cs) f o
def oneC1 (r : RB) (v : Vi) (f : Int) (i : Nat) (b : Bool) : Bool := tg (bnd (bnd (tn (c3 r i) ((opAt r i).kind == 1)) (ixB r.n i)) (l5 r i)) ((oneQ v f (opAt r i)).1 == 0) b
def oneC2 (r : RB) (v : Vi) (f : Int) (i : Nat) : Bool := bnd (bnd (oneC1 r v f i true) (ixB r.n i)) (lk r (r.off + i * 5))
def w8 (k : Int) : Bool := Nat.ble (kB k + 1) 8
def oneC3 (r : RB) (v : Vi) (f : Int) (i : Nat) : Bool :=
  bnd (bnd (bnd (bnd (bnd (bnd (bnd (bnd (bnd (ty_ (oneC2 r v f i) ((opAt r i).kind == 2)) (ixB r.n i)) (lk r (r.off + i * 5 + 1))) (ixB r.n i)) (lk r (r.off + i * 5 + 1))) (kOk (opAt r i).who)) (w8 (opAt r i).who)) (kOk (opAt r i).who)) (w8 (opAt r i).who)) (lk r (r.off + i * 5 + 1))
def pl3 (r : RB) (a g : List SC) : Bool := r.b.cells.all SC.plain && (a.all SC.plain && (g.all SC.plain && true))
section
variable (off n : Nat) (cells : List SC) (ty : TypeId) (v : Vi) (f : Int) (ad gn : Nat → Bool) (i : Nat)
theorem rp_add (b : Bool) (X : Bool) (hX : X = bif b then true else (addQ v (opAt (rbO off n cells ty) i)).1.2 == 0) : stepL Tryz.prog rapL 0 1000 4 (loopB ((bodyOf Tryz.prog frApp).drop 10)) (lb (rbO off n cells ty) v f (adC ad) (adC gn) i) [true, true, b, false] [] lbCut =
  some (bnd (tn (addC1 (rbO off n cells ty) v ad i b) ((addQ v (opAt (rbO off n cells ty) i)).1.2 != 0)) (pl2 (rbO off n cells ty) (setRange (adC ad) (kB (addQ v (opAt (rbO off n cells ty) i)).1.1) [.bool X])), [],
    lb (rbO off n cells ty) (addQ v (opAt (rbO off n cells ty) i)).2 f (setRange (adC ad) (kB (addQ v (opAt (rbO off n cells ty) i)).1.1) [.bool X]) (adC gn) (IntKind.i64.wrap ((i : Int) + 1))) := by
  subst hX
  cases b
  · kernel_rfl
  · kernel_rfl
theorem rp_add_no (b : Bool) : retL Tryz.prog rapL frApp 1000 4 (loopB ((bodyOf Tryz.prog frApp).drop 10)) (lb (rbO off n cells ty) v f (adC ad) (adC gn) i) [true, true, b, true] =
  some (ty_ (addC1 (rbO off n cells ty) v ad i b) ((addQ v (opAt (rbO off n cells ty) i)).1.2 != 0), obs3, resT zeroV no8 no8 (addQ v (opAt (rbO off n cells ty) i)).1.2) := by
  cases b
  · kernel_rfl
  · kernel_rfl
theorem rp_one_no : retL Tryz.prog rapL frApp 1000 4 (loopB ((bodyOf Tryz.prog frApp).drop 10)) (lb (rbO off n cells ty) v f (adC ad) (adC gn) i) [true, false, false, false, true] =
  some (ty_ (oneC1 (rbO off n cells ty) v f i false) ((oneQ v f (opAt (rbO off n cells ty) i)).1 != 0), obs3, resT zeroV no8 no8 (oneQ v f (opAt (rbO off n cells ty) i)).1) := by kernel_rfl
theorem rp_one : stepL Tryz.prog rapL 0 1000 4 (loopB ((bodyOf Tryz.prog frApp).drop 10)) (lb (rbO off n cells ty) v f (adC ad) (adC gn) i) [true, false, true, false, false] [] lbCut =
  some (bnd (tn (tn (oneC2 (rbO off n cells ty) v f i) ((opAt (rbO off n cells ty) i).kind == 2)) ((oneQ v f (opAt (rbO off n cells ty) i)).1 != 0)) (pl (rbO off n cells ty)), [], lb (rbO off n cells ty) (oneQ v f (opAt (rbO off n cells ty) i)).2 f (adC ad) (adC gn) (IntKind.i64.wrap ((i : Int) + 1))) := by kernel_rfl
theorem rp_rem : stepL Tryz.prog rapL 0 1000 4 (loopB ((bodyOf Tryz.prog frApp).drop 10)) (lb (rbO off n cells ty) v f (adC ad) (adC gn) i) [true, false, true, true, false] [] lbCut =
  some (bnd (tn (oneC3 (rbO off n cells ty) v f i) ((oneQ v f (opAt (rbO off n cells ty) i)).1 != 0)) (pl3 (rbO off n cells ty) (setRange (adC ad) (kB (opAt (rbO off n cells ty) i).who) [.bool false]) (setRange (adC gn) (kB (opAt (rbO off n cells ty) i).who) [.bool true])), [SV.c (.int (opAt (rbO off n cells ty) i).who) = SV.c (.int (opAt (rbO off n cells ty) i).who)],
    lb (rbO off n cells ty) (oneQ v f (opAt (rbO off n cells ty) i)).2 f (setRange (adC ad) (kB (opAt (rbO off n cells ty) i).who) [.bool false]) (setRange (adC gn) (kB (opAt (rbO off n cells ty) i).who) [.bool true]) (IntKind.i64.wrap ((i : Int) + 1))) := by kernel_rfl
theorem rp_out : exitL Tryz.prog rapL 0 1000 2 (loopB ((bodyOf Tryz.prog frApp).drop 10)) (lb (rbO off n cells ty) v f (adC ad) (adC gn) n) [false] [] lbCut =
    some (2, bnd (tn true (ltI n n)) (pl (rbO off n cells ty)), [], lb (rbO off n cells ty) v f (adC ad) (adC gn) n) := by kernel_rfl
def cntLt (v : Vi) : Bool := decide (cnt (Vi.of v.cs) 8 < v.k)
theorem rp_end1 : (finL Tryz.prog rapL frApp 1000 100 ((bodyOf Tryz.prog frApp).drop 11) (lb (rbO off n cells ty) v f (adC ad) (adC gn) n) [true]).map (fun q => (q.1, q.2.1, q.2.2.1)) = some (ty_ true (cntLt v), obs3, resT zeroV no8 no8 7) := by kernel_rfl
theorem rp_end2 : (finL Tryz.prog rapL frApp 1000 100 ((bodyOf Tryz.prog frApp).drop 11) (lb (rbO off n cells ty) v f (adC ad) (adC gn) n) [false]).map (fun q => (q.1, q.2.1, q.2.2.1)) = some (tn true (cntLt v), [AA ad, AA gn, AA gn], resT v ad gn 0) := by kernel_rfl
end

end Go.Proofs.YtabiknpgakhkkaaGreat.Vw
end

section
namespace Go.Proofs.YtabiknpgakhkkaaGreat.Vw
open Go.RowKit Go.Proofs.YtabiknpgakhkkaaGreat.Sx Go.Proofs.YtabiknpgakhkkaaGreat.Pw
set_option linter.unusedVariables false
set_option linter.unusedSimpArgs false

theorem Vi.of_of (v : Vi) : (Vi.of v.cs).cs = v.cs := by kernel_rfl
theorem vsg_of (v : Vi) : ∀ i, i < 8 → (Vi.of v.cs).t.sg i = v.t.sg i := by refine all8 ?_ ?_ ?_ ?_ ?_ ?_ ?_ ?_ <;> kernel_rfl
theorem vsl_of (v : Vi) : ∀ i, i < 8 → (Vi.of v.cs).t.sl i = v.t.sl i := by refine all8 ?_ ?_ ?_ ?_ ?_ ?_ ?_ ?_ <;> kernel_rfl
theorem vad_of (v : Vi) : ∀ i, i < 8 → (Vi.of v.cs).ad i = v.ad i := by refine all8 ?_ ?_ ?_ ?_ ?_ ?_ ?_ ?_ <;> kernel_rfl
theorem mem_of (v : Vi) (i : Nat) (hi : i < 8) : memT (Vi.of v.cs).t i = memT v.t i := by
  unfold memT
  rw [vsg_of v i hi, vsl_of v i hi]
theorem raddR_of (v : Vi) (s p : Int) : (raddR (Vi.of v.cs) s p).1 = (raddR v s p).1 ∧ (raddR (Vi.of v.cs) s p).2.cs = (raddR v s p).2.cs := by
  have e1 : fstF (fun i => (Vi.of v.cs).t.sg i == s) 8 = fstF (fun i => v.t.sg i == s) 8 := fstF_congr fun j hj => by rw [vsg_of v j hj]
  have e2 : fstF (fun i => !memT (Vi.of v.cs).t i) 8 = fstF (fun i => !memT v.t i) 8 := fstF_congr fun j hj => by rw [mem_of v j hj]
  have e3 : ∀ i, i < 8 → (raddN (Vi.of v.cs) i s p).cs = (raddN v i s p).cs := by refine all8 ?_ ?_ ?_ ?_ ?_ ?_ ?_ ?_ <;> kernel_rfl
  unfold raddR
  rw [e1, e2]
  cases isS s with
  | false => exact ⟨rfl, Vi.of_of v⟩
  | true =>
    cases isS p with
    | false => exact ⟨rfl, Vi.of_of v⟩
    | true =>
      simp only [Bool.not_true, cond_false]
      split
      · exact ⟨rfl, Vi.of_of v⟩
      · split
        · exact ⟨rfl, Vi.of_of v⟩
        · rename_i i hi
          exact ⟨rfl, e3 i (fstF_some hi).1⟩
theorem roneR_of (v : Vi) (f : Int) (o : Ope) : (roneR (Vi.of v.cs) f o).1 = (roneR v f o).1 ∧ (roneR (Vi.of v.cs) f o).2.cs = (roneR v f o).2.cs := by
  obtain ⟨a, w, k, s, p⟩ := o
  have e2 : ∀ i, i < 8 → (roneN2 (Vi.of v.cs) i).cs = (roneN2 v i).cs := by refine all8 ?_ ?_ ?_ ?_ ?_ ?_ ?_ ?_ <;> kernel_rfl
  have e3 : ∀ b i, i < 8 → (roneN3 (Vi.of v.cs) i b).cs = (roneN3 v i b).cs := fun b => by refine all8 ?_ ?_ ?_ ?_ ?_ ?_ ?_ ?_ <;> kernel_rfl
  unfold roneR
  simp only
  cases a == 2 with
  | true =>
    simp only [cond_true]
    unfold rone2
    rw [memI_of]
    cases h : memI v w with
    | false => exact ⟨rfl, Vi.of_of v⟩
    | true =>
      obtain ⟨i, hi, rfl, _⟩ := memI_no h
      simp only [Int.toNat_natCast, Bool.not_true, cond_false]
      cases (i : Int) == f with
      | true => exact ⟨rfl, Vi.of_of v⟩
      | false => exact ⟨rfl, e2 i hi⟩
  | false =>
  cases a == 3 with
  | true =>
    simp only [cond_true, cond_false]
    unfold rone3
    rw [memI_of]
    cases h : memI v w with
    | false => exact ⟨rfl, Vi.of_of v⟩
    | true =>
      obtain ⟨i, hi, rfl, _⟩ := memI_no h
      simp only [Int.toNat_natCast, Bool.not_true, cond_false, vad_of v i hi]
      cases v.ad i with
      | true => exact ⟨rfl, Vi.of_of v⟩
      | false => exact ⟨rfl, e3 true i hi⟩
  | false =>
  cases a == 4 with
  | true =>
    simp only [cond_true, cond_false]
    unfold rone4
    cases h : decide (w < 0) with
    | true => exact ⟨rfl, Vi.of_of v⟩
    | false =>
    cases h' : decide (w ≥ 8) with
    | true => exact ⟨rfl, Vi.of_of v⟩
    | false =>
      rw [decide_eq_false_iff_not] at h h'
      obtain ⟨i, rfl⟩ : ∃ i : Nat, w = i := ⟨w.toNat, by omega⟩
      have hi : i < 8 := by omega
      simp only [Int.toNat_natCast, cond_false, vad_of v i hi]
      cases v.ad i with
      | true => exact ⟨rfl, e3 false i hi⟩
      | false => exact ⟨rfl, Vi.of_of v⟩
  | false =>
    simp only [cond_false]
    unfold rone5
    cases decide (k < 1) with
    | true => exact ⟨rfl, Vi.of_of v⟩
    | false =>
      cases decide (k > 8) with
      | true => exact ⟨rfl, Vi.of_of v⟩
      | false => exact ⟨rfl, by kernel_rfl⟩

/-! Admins are members. -/
theorem allMem_of {v : Vi} : ∀ {n : Nat}, (∀ i, i < n → v.ad i = true → memT v.t i = true) → allMem v n = true
  | 0, _ => rfl
  | n + 1, h => by
    simp only [allMem, Bool.and_eq_true]
    refine ⟨allMem_of fun i hi => h i (by omega), ?_⟩
    cases ha : v.ad n with
    | false => rfl
    | true => rw [h n (by omega) ha]; rfl
def Inv (v : Vi) : Prop := ∀ i, i < 8 → v.ad i = true → memT v.t i = true
theorem Inv_iff {v : Vi} : Inv v ↔ allMem v 8 = true := ⟨fun h => allMem_of h, fun h i hi ha => allMem_le h hi ha⟩
theorem isVS_Inv {v : Vi} (h : isVS v = true) : Inv v := by
  rw [Inv_iff]
  cases hh : allMem v 8 with
  | true => rfl
  | false => rw [isVS_no hh] at h; cases h
theorem admS_Inv {v : Vi} (h : Inv v) : admS v = cnt v 8 := by unfold admS; rw [Inv_iff.1 h]; rfl
theorem beq_off {j i : Nat} (h : j ≠ i) : Nat.beq j i = false := by
  cases hb : Nat.beq j i with
  | false => rfl
  | true => exact absurd (Nat.eq_of_beq_eq_true hb) h
theorem upd_at {α : Type} (f : Nat → α) (i : Nat) (x : α) : (fun j => bif Nat.beq j i then x else f j) i = x := by simp
theorem upd_off {α : Type} (f : Nat → α) {i j : Nat} (x : α) (h : j ≠ i) : (fun j => bif Nat.beq j i then x else f j) j = f j := by simp only [beq_off h, cond_false]
theorem memT_put {t : Tr} {i j : Nat} {s p : Int} (h : j ≠ i) : memT (putT t i s p) j = memT t j := by
  unfold memT putT
  simp only [beq_off h, cond_false]
theorem memT_put_same {t : Tr} {i : Nat} {s p : Int} : memT (putT t i s p) i = nz s p := by
  unfold memT putT
  simp
theorem isS_nz {s p : Int} (h : isS s = true) : nz s p = true := by unfold nz; rw [isS_ne h]; rfl
theorem ezs_nz (s p : Int) : ezs s p = !nz s p := by
  unfold ezs nz
  have e : ∀ x : Int, (0 == x) = (x == 0) := fun x => by
    rw [Bool.eq_iff_iff]; simp only [beq_iff_eq]; exact ⟨fun h => h.symm, fun h => h.symm⟩
  rw [e, e, Bool.not_not]
/-- A leaf that is added: both sides. -/
theorem add_both (c : Chg') (s p : Int) : (∃ e, e ≠ 0 ∧ addR c s p = (e, c) ∧ raddR c.v s p = ((0, e), c.v)) ∨
    ∃ j, j < 8 ∧ memT c.v.t j = false ∧ isS s = true ∧ isS p = true ∧ addR c s p = (0, addN c j s p) ∧ raddR c.v s p = (((j : Int), 0), raddN c.v j s p) := by
  have e2 : fstF (fun i => ezs (c.v.t.sg i) (c.v.t.sl i)) 8 = fstF (fun i => !memT c.v.t i) 8 := fstF_congr fun j hj => ezs_nz _ _
  unfold addR raddR
  rw [e2]
  cases h1 : isS s with
  | false => exact .inl ⟨7, by decide, rfl, rfl⟩
  | true =>
  cases h2 : isS p with
  | false => exact .inl ⟨7, by decide, rfl, rfl⟩
  | true =>
  simp only [Bool.not_true, cond_false]
  cases hA : fstF (fun i => c.v.t.sg i == s) 8 with
  | some i => exact .inl ⟨7, by decide, rfl, rfl⟩
  | none =>
    cases hi : fstF (fun i => !memT c.v.t i) 8 with
    | none => exact .inl ⟨12, by decide, rfl, rfl⟩
    | some i =>
      obtain ⟨g1, g2, _⟩ := fstF_some hi
      exact .inr ⟨i, g1, by simpa using g2, trivial, trivial, rfl, rfl⟩
theorem adds_cs {c : Chg'} (hI : Inv c.v) {j : Nat} (hj : j < 8) (hm : memT c.v.t j = false) (s p : Int) : (raddN c.v j s p).cs = (addN c j s p).v.cs := by
  have ha : c.v.ad j = false := by
    cases h : c.v.ad j with
    | false => rfl
    | true => rw [hI j hj h] at hm; cases hm
  have e : (fun k => bif Nat.beq k j then false else c.v.ad k) = c.v.ad := by
    funext k
    by_cases hk : k = j
    · subst hk; simp [ha]
    · simp only [beq_off hk, cond_false]
  unfold raddN addN
  rw [e]
theorem add_Inv {c : Chg'} (hI : Inv c.v) {j : Nat} {s p : Int} (hs : isS s = true) : Inv (addN c j s p).v := fun i hi ha => by
  by_cases hij : i = j
  · subst hij
    show memT (putT c.v.t i s p) i = true
    rw [memT_put_same]; exact isS_nz hs
  · show memT (putT c.v.t j s p) i = true
    rw [memT_put hij]; exact hI i hi ha
/-- Any other operation: both sides. -/
theorem one_both (c : Chg') (hI : Inv c.v) (o : Ope) (hk : (o.kind == 1) = false) : (∃ e, e ≠ 0 ∧ opR c o = (e, c) ∧ roneR c.v c.fr o = (e, c.v)) ∨
    (∃ j : Nat, j < 8 ∧ o.who = (j : Int) ∧ o.kind = 2 ∧ opR c o = (0, remN c j) ∧ roneR c.v c.fr o = (0, (remN c j).v)) ∨
    ∃ v', (o.kind == 2) = false ∧ Inv v' ∧ opR c o = (0, { c with v := v' }) ∧ roneR c.v c.fr o = (0, v') := by
  obtain ⟨a, w, k, s, p⟩ := o
  simp only at hk
  unfold opR roneR
  simp only [hk, cond_false]
  cases h2 : a == 2 with
  | true =>
    simp only [cond_true]
    unfold remR rone2
    cases h : memI c.v w with
    | false => exact .inl ⟨7, by decide, rfl, rfl⟩
    | true =>
      obtain ⟨i, hi, rfl, hm⟩ := memI_no h
      simp only [Int.toNat_natCast, Bool.not_true, cond_false]
      cases (i : Int) == c.fr with
      | true => exact .inl ⟨7, by decide, rfl, rfl⟩
      | false => exact .inr (.inl ⟨i, hi, rfl, by simpa using h2, rfl, rfl⟩)
  | false =>
  cases h3 : a == 3 with
  | true =>
    simp only [cond_true, cond_false]
    unfold admR rone3
    cases h : memI c.v w with
    | false => exact .inl ⟨7, by decide, rfl, rfl⟩
    | true =>
      obtain ⟨i, hi, rfl, hm⟩ := memI_no h
      simp only [Int.toNat_natCast, Bool.not_true, cond_false]
      cases ha : c.v.ad i with
      | true => exact .inl ⟨7, by decide, rfl, rfl⟩
      | false =>
        refine .inr (.inr ⟨roneN3 c.v i true, trivial, fun j hj hja => ?_, rfl, rfl⟩)
        by_cases hji : j = i
        · subst hji; exact hm
        · refine hI j hj ?_
          have : (roneN3 c.v i true).ad j = c.v.ad j := upd_off c.v.ad true hji
          rw [← this]; exact hja
  | false =>
  cases h4 : a == 4 with
  | true =>
    simp only [cond_true, cond_false]
    unfold admR rone4
    cases h : memI c.v w with
    | false =>
      refine .inl ⟨7, by decide, rfl, ?_⟩
      cases h5 : decide (w < 0) with
      | true => rfl
      | false =>
      cases h6 : decide (w ≥ 8) with
      | true => rfl
      | false =>
        rw [decide_eq_false_iff_not] at h5 h6
        obtain ⟨i, rfl⟩ : ∃ i : Nat, w = i := ⟨w.toNat, by omega⟩
        rw [memI_in (by omega)] at h
        have ha : c.v.ad i = false := by
          cases ha : c.v.ad i with
          | false => rfl
          | true => rw [hI i (by omega) ha] at h; cases h
        simp only [Int.toNat_natCast, ha]; rfl
    | true =>
      obtain ⟨i, hi, rfl, hm⟩ := memI_no h
      have h5 : decide ((i : Int) < 0) = false := decide_eq_false (by omega)
      have h6 : decide ((i : Int) ≥ 8) = false := decide_eq_false (by omega)
      simp only [Int.toNat_natCast, Bool.not_true, cond_false, h5, h6]
      cases ha : c.v.ad i with
      | false => exact .inl ⟨7, by decide, rfl, rfl⟩
      | true =>
        refine .inr (.inr ⟨roneN3 c.v i false, trivial, fun j hj hja => ?_, rfl, rfl⟩)
        by_cases hji : j = i
        · subst hji; exact hm
        · refine hI j hj ?_
          have : (roneN3 c.v i false).ad j = c.v.ad j := upd_off c.v.ad false hji
          rw [← this]; exact hja
  | false =>
    simp only [cond_false]
    unfold limR rone5
    cases decide (k < 1) with
    | true => exact .inl ⟨7, by decide, rfl, rfl⟩
    | false =>
      cases decide (k > 8) with
      | true => exact .inl ⟨7, by decide, rfl, rfl⟩
      | false => exact .inr (.inr ⟨{ c.v with k := k }, trivial, hI, rfl, rfl⟩)
theorem rem_Inv {c : Chg'} (hI : Inv c.v) {j : Nat} : Inv (remN c j).v := fun i hi ha => by
  by_cases hij : i = j
  · subst hij
    have : (remN c i).v.ad i = false := upd_at c.v.ad i false
    rw [this] at ha; cases ha
  · show memT (putT c.v.t j 0 0) i = true
    rw [memT_put hij]
    refine hI i hi ?_
    have : (remN c j).v.ad i = c.v.ad i := upd_off c.v.ad false hij
    rw [← this]; exact ha
theorem set_adC (a : Nat → Bool) (b : Bool) : ∀ i : Nat, i < 8 → setRange (adC a) (kB (i : Int)) [.bool b] = adC (fun j => bif Nat.beq j i then b else a j) := by refine all8 ?_ ?_ ?_ ?_ ?_ ?_ ?_ ?_ <;> kernel_rfl
theorem kAt_adC (a : Nat → Bool) : ∀ i : Nat, i < 8 → kAt (adC a) (i : Int) = a i := by refine all8 ?_ ?_ ?_ ?_ ?_ ?_ ?_ ?_ <;> kernel_rfl
theorem kLd_adC (a : Nat → Bool) : ∀ i : Nat, i < 8 → kLd (adC a) (i : Int) = true := by refine all8 ?_ ?_ ?_ ?_ ?_ ?_ ?_ ?_ <;> kernel_rfl
theorem kOk_nat : ∀ i : Nat, i < 8 → kOk (i : Int) = true := by refine all8 ?_ ?_ ?_ ?_ ?_ ?_ ?_ ?_ <;> kernel_rfl
theorem w8_nat : ∀ i : Nat, i < 8 → w8 (i : Int) = true := by refine all8 ?_ ?_ ?_ ?_ ?_ ?_ ?_ ?_ <;> kernel_rfl

end Go.Proofs.YtabiknpgakhkkaaGreat.Vw
end

section
namespace Go.Proofs.YtabiknpgakhkkaaGreat.Vw
open Go.RowKit Go.Proofs.YtabiknpgakhkkaaGreat.Sx Go.Proofs.YtabiknpgakhkkaaGreat.Pw
set_option linter.unusedVariables false
set_option linter.unusedSimpArgs false
set_option maxRecDepth 4000

theorem lb_congr {r : RB} {v v' : Vi} {f : Int} {a g : List SC} {i : Int} (h : v.cs = v'.cs) : lb r v f a g i = lb r v' f a g i := by
  unfold lb rTab
  rw [h]
theorem bnds {a b : Bool} (ha : a = true) (hb : b = true) : bnd a b = true := bnd_eq ha hb
theorem ixB_eq {n i : Nat} (h : i < n) : ixB n i = true := by
  unfold ixB
  rw [decide_eq_true (by omega), Int.toNat_natCast]
  simp [Nat.blt_eq, h]
theorem lk_eq {r : RB} (ho : okOps r = true) {i : Nat} (hi : i < r.n) {k : Nat} (hk : k < 5) : lk r (r.off + i * 5 + k) = true := by
  have hl : r.off + r.n * 5 ≤ r.b.cells.length := by
    unfold okOps at ho
    simp only [Bool.and_eq_true, Nat.ble_eq] at ho
    exact ho.1
  unfold lk
  rw [Bool.and_eq_true, Nat.blt_eq]
  exact ⟨by omega, by rw [Nat.add_assoc]; exact isI_of ho (by omega)⟩
theorem lI_eq {r : RB} (ho : okOps r = true) {i : Nat} (hi : i < r.n) {k : Nat} (hk : k < 5) : isI r.b.cells (r.off + i * 5 + k) = true := by rw [Nat.add_assoc]; exact isI_of ho (by omega)
theorem l2_eq {r : RB} (ho : okOps r = true) {i : Nat} (hi : i < r.n) : l2 r (r.off + i * 5 + 3) = true := by
  have hl : r.off + r.n * 5 ≤ r.b.cells.length := by
    unfold okOps at ho
    simp only [Bool.and_eq_true, Nat.ble_eq] at ho
    exact ho.1
  unfold l2
  rw [lI_eq ho hi (by omega : 3 < 5), show r.off + i * 5 + 3 + 1 = r.off + i * 5 + 4 by omega, lI_eq ho hi (by omega : 4 < 5)]
  simp only [Bool.and_true, Nat.ble_eq]; omega
theorem l5_eq {r : RB} (ho : okOps r = true) {i : Nat} (hi : i < r.n) : l5 r i = true := by
  have h := ldO_eq ho hi true
  unfold ldO at h
  unfold l5
  simp only [bnd_true, true_and] at h
  exact h.2
theorem c3_eq {r : RB} (ho : okOps r = true) {i : Nat} (hi : i < r.n) : c3 r i = true :=
  bnds (bnds (ty_eq rfl (decide_eq_true (by omega))) (ixB_eq hi)) (lk_eq ho hi (k := 0) (by omega))
theorem adC_plain (a : Nat → Bool) : (adC a).all SC.plain = true := rfl
theorem setR_plain (a : Nat → Bool) (b : Bool) {i : Nat} (hi : i < 8) : (setRange (adC a) (kB (i : Int)) [.bool b]).all SC.plain = true := by rw [set_adC a b i hi]; rfl

theorem rapply_fn (v : Vi) (f : Int) (r : RB) (hr : RBok r) (ho : okOps r = true) (hn6 : r.n ≤ 1000000) (w : World) : Sx.Fn Tryz.prog frApp (atW w 0) [.agg v.cs, .c (.int f), .c (.slc 0 r.off 5 r.n none)] [(0, some r.b)] 1 fun x _ => x = applyR v f (opsL r) := by
  have hlen : (opsL r).length = r.n := by unfold opsL; simp
  obtain ⟨off, n, cells, ty, tail, own⟩ := r
  obtain ⟨hown, htail, hsole⟩ := hr
  simp only at hown htail hn6
  subst hown htail
  have hr : RBok (rbO off n cells ty) := ⟨rfl, rfl, hsole⟩
  have ho : okOps (rbO off n cells ty) = true := ho
  have hlen : (opsL (rbO off n cells ty)).length = n := hlen
  have hpl := pl_eq hr
  have hplc : cells.all SC.plain = true := sole_plain hsole
  show Sx.Fn Tryz.prog frApp (atW w 0) [.agg v.cs, .c (.int f), .c (.slc 0 off 5 n none)] [(0, some ⟨cells, ty, true, false⟩)] 1 fun x _ => x = applyR v f (opsL (rbO off n cells ty))
  have hany := any_odd (rbO off n cells ty)
  refine Sx.Fn.of (nt := 126) (by kernel_rfl) rfl ?_
  have main : ∀ b : Bool, b = (isVS v && le4 n) → SWs Tryz.prog (atW w 0) ((bodyOf Tryz.prog frApp).drop 4) (la (rbO off n cells ty) v f b 0) (FinQ Tryz.prog frApp fun x _ => x = applyR v f (opsL (rbO off n cells ty))) := by
    intro b hb
    refine SWs.loop (by kernel_rfl) (fun q : Bool × Nat => la (rbO off n cells ty) v f q.1 q.2) (fun q => n - q.2) (fun q => q.2 ≤ n ∧ q.1 = (b && (fstF (oddF (rbO off n cells ty)) q.2).isNone)) (b, 0) ⟨by omega, by simp [fstF]⟩ ?_
    rintro ⟨b', i⟩ ⟨hi, hb'⟩
    simp only at hi hb'
    -- behind the loop
    have after : b' = (b && (fstF (oddF (rbO off n cells ty)) n).isNone) → SWs Tryz.prog (atW w 0) ((bodyOf Tryz.prog frApp).drop 5) (la (rbO off n cells ty) v f b' i) (FinQ Tryz.prog frApp fun x _ => x = applyR v f (opsL (rbO off n cells ty))) := by
      intro hfin
      unfold applyR
      rw [hlen, hany]
      have hdec : decide (idxO (rbO off n cells ty) ≥ 0) = !(fstF (oddF (rbO off n cells ty)) n).isNone := by
        unfold idxO idxV
        show decide ((match fstF (oddF (rbO off n cells ty)) n with | some i => (i : Int) | none => -1) ≥ 0) = _
        cases fstF (oddF (rbO off n cells ty)) n with
        | none => rfl
        | some j => exact decide_eq_true (by simp only; omega)
      have hle : decide ((n : Int) > 4) = !le4 n := by
        unfold le4
        by_cases h : (n : Int) > 4
        · rw [decide_eq_true h, decide_eq_false (by omega)]; rfl
        · rw [decide_eq_false h, decide_eq_true (by omega)]; rfl
      rw [hdec, hle]
      cases hbb : b' with
      | false =>
        have h0 : (b && (fstF (oddF (rbO off n cells ty)) n).isNone) = false := by rw [← hfin, hbb]
        refine SWs.finvL rapL_ok Sp.mixed [true] (ra_bad off n cells ty v f false i) rfl obs3_ok ?_
        rw [hb] at h0
        cases h1 : isVS v with
        | false => rfl
        | true =>
          cases h2 : le4 n with
          | false => rfl
          | true =>
            rw [h1, h2] at h0
            simp only [Bool.and_self, Bool.true_and] at h0
            rw [h0]; rfl
      | true =>
        have h0 : (b && (fstF (oddF (rbO off n cells ty)) n).isNone) = true := by rw [← hfin, hbb]
        rw [hb] at h0
        simp only [Bool.and_eq_true] at h0
        obtain ⟨⟨h1, h2⟩, h3⟩ := h0
        rw [h1, h2, h3]
        simp only [Bool.not_true, cond_false]
        cases h4 : memI v f with
        | false => exact SWs.finvL rapL_ok Sp.mixed [false, true] (ra_who off n cells ty v f true i) (ty_eq (tn_eq rfl rfl) (by rw [memI_of, h4]; rfl)) obs3_ok rfl
        | true =>
        simp only [Bool.not_true, cond_false]
        refine SWs.stepL rapL_ok Sp.mixed [false, false] (ra_go off n cells ty v f true i) (bnds (tn_eq (tn_eq rfl rfl) (by rw [memI_of, h4]; rfl)) hpl) trivial ?_
        refine SWs.loop (by kernel_rfl) (fun q : Chg' × Nat => lb (rbO off n cells ty) q.1.v f (adC q.1.ad) (adC q.1.gn) q.2) (fun q => n - q.2) (fun q => q.2 ≤ n ∧ Inv q.1.v ∧ q.1.fr = f ∧ runL ((opsL (rbO off n cells ty)).drop q.2) q.1 = runL (opsL (rbO off n cells ty)) (startC v f)) (startC v f, 0) ⟨by omega, isVS_Inv h1, rfl, rfl⟩ ?_
        rintro ⟨c, m⟩ ⟨hm, hI, hfr, hrun⟩
        simp only at hm hI hfr hrun
        by_cases hlt : m < n
        · have hixs := ixB_eq hlt
          have hc3 := c3_eq ho hlt
          have wr : IntKind.i64.wrap ((m : Int) + 1) = ((m + 1 : Nat) : Int) := by rw [wrapN (by omega) (by omega)]; rfl
          rw [opsL_drop _ m hlt] at hrun
          have hrunE : ∀ e, e ≠ 0 → opR c (opAt (rbO off n cells ty) m) = (e, c) → resT zeroV no8 no8 e = endR (runL (opsL (rbO off n cells ty)) (startC v f)) := fun e he h => by
            rw [← hrun]
            have hb0 : (e == 0) = false := by simpa using he
            have : runL (opAt (rbO off n cells ty) m :: (opsL (rbO off n cells ty)).drop (m + 1)) c = (e, c) := by
              show (bif (opR c (opAt (rbO off n cells ty) m)).1 == 0 then _ else _) = _
              rw [h]
              simp only [hb0, cond_false]
            rw [this]
            unfold endR
            simp only [hb0, cond_false]
          have hrunK : ∀ c', opR c (opAt (rbO off n cells ty) m) = (0, c') → runL ((opsL (rbO off n cells ty)).drop (m + 1)) c' = runL (opsL (rbO off n cells ty)) (startC v f) := fun c' h => by
            rw [← hrun]
            show _ = (bif (opR c (opAt (rbO off n cells ty) m)).1 == 0 then _ else _)
            rw [h]; rfl
          cases hk : (opAt (rbO off n cells ty) m).kind == 1 with
          | true =>
            have hop : opR c (opAt (rbO off n cells ty) m) = addR c (opAt (rbO off n cells ty) m).sg (opAt (rbO off n cells ty) m).sl := by unfold opR; rw [hk]; rfl
            have hQ := raddR_of c.v (opAt (rbO off n cells ty) m).sg (opAt (rbO off n cells ty) m).sl
            have hl2 := l2_eq ho (r := rbO off n cells ty) hlt
            have hC1 : ∀ (j : Nat), j < 8 → (addQ c.v (opAt (rbO off n cells ty) m)).1.1 = (j : Int) → addC1 (rbO off n cells ty) c.v c.ad m (c.ad j) = true := fun j hj he => by
              unfold addC1
              rw [he]
              exact bnds (bnds (tg_eq (bnds (bnds (bnds (bnds (ty_eq hc3 hk) hixs) hl2) (kOk_nat j hj)) (kLd_adC c.ad j hj)) (kAt_adC c.ad j hj)) (kOk_nat j hj)) (w8_nat j hj)
            rcases add_both c (opAt (rbO off n cells ty) m).sg (opAt (rbO off n cells ty) m).sl with ⟨e, hne, hA, hB⟩ | ⟨j, hj, hmj, hs, hp, hA, hB⟩
            · have h1e : (addQ c.v (opAt (rbO off n cells ty) m)).1 = (0, e) := by show (raddR (Vi.of c.v.cs) _ _).1 = _; rw [hQ.1, hB]
              have he1 : (addQ c.v (opAt (rbO off n cells ty) m)).1.1 = ((0 : Nat) : Int) := by rw [h1e]; rfl
              have he2 : (addQ c.v (opAt (rbO off n cells ty) m)).1.2 = e := by rw [h1e]
              refine SWs.retR rapL_ok Sp.mixed [true, true, c.ad 0, true] (rp_add_no off n cells ty c.v f c.ad c.gn m (c.ad 0)) (ty_eq (hC1 0 (by omega) he1) (by rw [he2]; unfold bne; simpa using hne)) obs3_ok fun _ => ?_
              rw [he2]
              exact hrunE e hne (hop.trans hA)
            · have h1e : (addQ c.v (opAt (rbO off n cells ty) m)).1 = ((j : Int), 0) := by show (raddR (Vi.of c.v.cs) _ _).1 = _; rw [hQ.1, hB]
              have he1 : (addQ c.v (opAt (rbO off n cells ty) m)).1.1 = (j : Int) := by rw [h1e]
              have he2 : (addQ c.v (opAt (rbO off n cells ty) m)).1.2 = 0 := by rw [h1e]
              have hX : true = bif c.ad j then true else (addQ c.v (opAt (rbO off n cells ty) m)).1.2 == 0 := by rw [he2]; cases c.ad j <;> rfl
              refine SWs.roundL rapL_ok Sp.mixed [true, true, c.ad j, false] (rp_add off n cells ty c.v f c.ad c.gn m (c.ad j) true hX) rfl (bnds (tn_eq (hC1 j hj he1) (by rw [he2]; rfl)) ?_) trivial
                ⟨(addN c j (opAt (rbO off n cells ty) m).sg (opAt (rbO off n cells ty) m).sl, m + 1), ⟨by simp only; omega, add_Inv hI hs, hfr, hrunK _ (hop.trans hA)⟩, by simp only; omega, ?_⟩
              · unfold pl2
                rw [he1, setR_plain c.ad true hj]
                show (cells.all SC.plain && _) = true
                rw [hplc]; rfl
              · simp only
                rw [he1, set_adC c.ad true j hj, wr]
                refine lb_congr ?_
                have : (addQ c.v (opAt (rbO off n cells ty) m)).2.cs = (raddN c.v j (opAt (rbO off n cells ty) m).sg (opAt (rbO off n cells ty) m).sl).cs := by
                  show (raddR (Vi.of c.v.cs) _ _).2.cs = _
                  rw [hQ.2, hB]
                rw [this]
                exact adds_cs hI hj hmj _ _
          | false =>
            have hQ := roneR_of c.v f (opAt (rbO off n cells ty) m)
            rcases one_both c hI (opAt (rbO off n cells ty) m) hk with ⟨e, hne, hA, hB⟩ | ⟨j, hj, hwho, hk2, hA, hB⟩ | ⟨v', hk2, hI', hA, hB⟩
            · rw [hfr] at hB
              have he : (oneQ c.v f (opAt (rbO off n cells ty) m)).1 = e := by show (roneR (Vi.of c.v.cs) f _).1 = _; rw [hQ.1, hB]
              refine SWs.retR rapL_ok Sp.mixed [true, false, false, false, true] (rp_one_no off n cells ty c.v f c.ad c.gn m) (ty_eq (tg_eq (bnds (bnds (tn_eq hc3 hk) hixs) (l5_eq ho hlt)) (by rw [he]; simpa using hne)) (by rw [he]; unfold bne; simpa using hne)) obs3_ok fun _ => ?_
              rw [he]
              exact hrunE e hne hA
            · rw [hfr] at hB
              have he : (oneQ c.v f (opAt (rbO off n cells ty) m)).1 = 0 := by show (roneR (Vi.of c.v.cs) f _).1 = _; rw [hQ.1, hB]
              have hC2 : oneC2 (rbO off n cells ty) c.v f m = true := bnds (bnds (tg_eq (bnds (bnds (tn_eq hc3 hk) hixs) (l5_eq ho hlt)) (by rw [he]; rfl)) hixs) (lk_eq ho hlt (k := 0) (by omega))
              have hlk := lk_eq ho (r := rbO off n cells ty) hlt (k := 1) (by omega)
              have hC3 : oneC3 (rbO off n cells ty) c.v f m = true := by
                unfold oneC3
                rw [hwho]
                exact bnds (bnds (bnds (bnds (bnds (bnds (bnds (bnds (bnds (ty_eq hC2 (by rw [hk2]; rfl)) hixs) hlk) hixs) hlk) (kOk_nat j hj)) (w8_nat j hj)) (kOk_nat j hj)) (w8_nat j hj)) hlk
              refine SWs.roundL rapL_ok Sp.mixed [true, false, true, true, false] (rp_rem off n cells ty c.v f c.ad c.gn m) rfl (bnds (tn_eq hC3 (by rw [he]; rfl)) ?_) ⟨rfl, trivial⟩ ⟨(remN c j, m + 1), ⟨by simp only; omega, rem_Inv hI, hfr, hrunK _ hA⟩, by simp only; omega, ?_⟩
              · unfold pl3
                rw [hwho, setR_plain c.ad false hj, setR_plain c.gn true hj]
                show (cells.all SC.plain && _) = true
                rw [hplc]; rfl
              · simp only
                rw [hwho, set_adC c.ad false j hj, set_adC c.gn true j hj, wr]
                refine lb_congr ?_
                show (roneR (Vi.of c.v.cs) f _).2.cs = _
                rw [hQ.2, hB]
            · rw [hfr] at hB
              have he : (oneQ c.v f (opAt (rbO off n cells ty) m)).1 = 0 := by show (roneR (Vi.of c.v.cs) f _).1 = _; rw [hQ.1, hB]
              have hC2 : oneC2 (rbO off n cells ty) c.v f m = true := bnds (bnds (tg_eq (bnds (bnds (tn_eq hc3 hk) hixs) (l5_eq ho hlt)) (by rw [he]; rfl)) hixs) (lk_eq ho hlt (k := 0) (by omega))
              refine SWs.roundL rapL_ok Sp.mixed [true, false, true, false, false] (rp_one off n cells ty c.v f c.ad c.gn m) rfl (bnds (tn_eq (tn_eq hC2 hk2) (by rw [he]; rfl)) hpl) trivial ⟨({ c with v := v' }, m + 1), ⟨by simp only; omega, hI', hfr, hrunK _ hA⟩, by simp only; omega, ?_⟩
              simp only
              rw [wr]
              refine lb_congr ?_
              show (roneR (Vi.of c.v.cs) f _).2.cs = _
              rw [hQ.2, hB]
        · obtain rfl : m = n := by omega
          have hnil : (opsL (rbO off m cells ty)).drop m = [] := List.drop_eq_nil_of_le (by rw [hlen]; omega)
          rw [hnil] at hrun
          have hrun : ((0 : Int), c) = runL (opsL (rbO off m cells ty)) (startC v f) := hrun
          refine SWs.outL rapL_ok Sp.mixed [false] (rp_out off m cells ty c.v f c.ad c.gn) (bnds (tn_eq rfl (decide_eq_false (by omega))) hpl) trivial ?_
          have hlt' : cntLt c.v = decide (admS c.v < c.v.k) := by
            unfold cntLt
            rw [admS_Inv hI]
            have : cnt (Vi.of c.v.cs) 8 = cnt c.v 8 := by kernel_rfl
            rw [this]
          rw [← hrun]
          unfold endR
          simp only [BEq.rfl, cond_true]
          cases hkk : decide (admS c.v < c.v.k) with
          | true => exact SWs.finvL rapL_ok Sp.mixed [true] (rp_end1 off m cells ty c.v f c.ad c.gn) (ty_eq rfl (by rw [hlt', hkk])) obs3_ok rfl
          | false => exact SWs.finvL rapL_ok Sp.mixed [false] (rp_end2 off m cells ty c.v f c.ad c.gn) (tn_eq rfl (by rw [hlt', hkk])) ⟨rfl, rfl, rfl, trivial⟩ rfl
    by_cases hlt : i < n
    · cases hbb : b' with
      | true =>
        refine SWs.roundL rapL_ok Sp.mixed [true, true] (la_round off n cells ty v f true i) rfl (bnds (by rw [ldO_eq ho hlt]; exact ty_eq (tg_eq rfl (decide_eq_true (by omega))) rfl) hpl) trivial ⟨(opOk (opAt (rbO off n cells ty) i), i + 1), ⟨by simp only; omega, ?_⟩, by simp only; omega, ?_⟩
        · simp only
          rw [hbb] at hb'
          have h2 := hb'.symm
          simp only [Bool.and_eq_true] at h2
          rw [h2.1]
          unfold fstF
          have h3 : fstF (oddF (rbO off n cells ty)) i = none := by simpa using h2.2
          rw [h3]
          show _ = (true && (bif !opOk (opAt (rbO off n cells ty) i) then some i else none).isNone)
          cases opOk (opAt (rbO off n cells ty) i) <;> rfl
        · simp only
          rw [wrapN (show (0 : Int) ≤ (i : Int) + 1 by omega) (by omega)]; rfl
      | false =>
        refine SWs.outL rapL_ok Sp.mixed [true, false] (la_out1 off n cells ty v f false i) (bnds (tn_eq (tg_eq rfl (decide_eq_true (by omega))) rfl) hpl) trivial ?_
        rw [← hbb]
        refine after ?_
        rw [hb'] at hbb ⊢
        cases hb1 : b with
        | false => rfl
        | true =>
          rw [hb1] at hbb
          simp only [Bool.true_and] at hbb ⊢
          rw [hbb]
          have hsome : ∃ k, fstF (oddF (rbO off n cells ty)) i = some k := by
            cases h : fstF (oddF (rbO off n cells ty)) i with
            | none => rw [h] at hbb; cases hbb
            | some k => exact ⟨k, rfl⟩
          obtain ⟨k, hkk⟩ := hsome
          obtain ⟨g1, g2, _⟩ := fstF_some hkk
          cases h : fstF (oddF (rbO off n cells ty)) n with
          | none => rw [fstF_none h k (by omega)] at g2; cases g2
          | some _ => rfl
    · obtain rfl : i = n := by omega
      refine SWs.outL rapL_ok Sp.mixed [false, false] (la_out2 off i cells ty v f b' i) (bnds (tg_eq rfl (decide_eq_false (by omega))) hpl) trivial ?_
      exact after hb'
  cases h1 : isVS v with
  | false => exact SWs.stepL rapL_ok Sp.mixed [false] (ra_s1 off n cells ty v f) (bnds (tg_eq rfl (by rw [isVS_of, h1])) hpl) trivial (main false (by rw [h1]; rfl))
  | true => exact SWs.stepL rapL_ok Sp.mixed [true] (ra_s2 off n cells ty v f) (bnds (tg_eq rfl (by rw [isVS_of, h1])) hpl) trivial (main (le4 n) (by rw [h1]; rfl))
def rappC : Con := sVal [none, none, some 5] fun ps rs => match ps, rs with | [.agg cs, .c (.int f)], [r] => some (isVi cs && (okOps r && Nat.ble r.n 1000000), applyR (Vi.of cs) f (opsL r)) | _, _ => none
theorem rapp_ok : ConOK Tryz.prog frApp rappC := by
  refine sVal_ok (fn := Tryz.f19) (by kernel_rfl) rfl rfl fun ps rs v h hps hrs => ?_
  split at h <;> try (cases h; done)
  rename_i cs f r
  simp only [Option.some.injEq, Prod.mk.injEq, Bool.and_eq_true, Nat.ble_eq] at h
  obtain ⟨⟨hv, ho, hn⟩, rfl⟩ := h
  refine ⟨applyR_sole _ _ _, fun w => ?_⟩
  have e := Vi.of_cs hv
  generalize Vi.of cs = t at e
  subst e
  exact rapply_fn t f r (hrs r (by simp)) ho hn w

end Go.Proofs.YtabiknpgakhkkaaGreat.Vw
end

