/-
  Boxes: what is opened.
-/
import Derived.Test.YtdjimjjemiaokaaSlE
namespace Go.Proofs.Ytdjimjjemiaokaa.Sl
open Go.RowKit Go.Proofs.Ytdjimjjemiaokaa.Sx Go.Proofs.Ytdjimjjemiaokaa.Pw Go.Proofs.Ytdjimjjemiaokaa.Pr
open Go.Proofs.Ytdjimjjemiaokaa.Sp (rd rdB rd_eq rdB_eq rd_own rdB_own hc hb deriveS isU8s asU8s tB tH mixed own_take fDer derC der_ok derOk H4 fRDer rderC rder_ok fJoin joinC join_ok)
set_option linter.unusedVariables false

abbrev fOpen : Nat := 15
abbrev frOpen : Nat := 17
def tagIs (x Y : Int) (a c m : List UInt8) : Bool := tagB (tagH (hl (shI x Y)) a c) == m
/-- What is in a box, by a secret. -/
def openF (x : Int) (bs : List UInt8) : List UInt8 × Int :=
  bif decide ((bs.length : Int) < 12) then ([], 2) else bif decide ((bs.length : Int) > 212) then ([], 2) else bif !isS (numF (bs.take 4)) then ([], 3) else
  bif !tagIs x (numF (bs.take 4)) (bs.take 4) (bs.drop 12) ((bs.drop 4).take 8) then ([], 3) else (streamS (hl (shI x (numF (bs.take 4)))) (bs.drop 12), 0)
abbrev opL : List (Nat × Con) := [(fNumb, numbC), (fShared, sharedC), (fTag, tagC), (fEqual, equalC), (fStm, stmC)]
theorem opL_ok : LibOK Try.prog opL := LibOK.cons numb_ok (LibOK.cons shared_ok (LibOK.cons tag_ok (LibOK.cons equal_ok (LibOK.cons stm_ok (LibOK.nil _)))))
abbrev tRKey : Nat := 37
abbrev ropL : List (Nat × Con) := [(frShared, rsharedC), (frTag, rtagC), (fMix, stmC)]
theorem ropL_ok : LibOK Try.prog ropL := LibOK.cons rshared_ok (LibOK.cons rtag_ok (LibOK.cons mix_ok (LibOK.nil _)))
def rowX (off n : Nat) (b : Blk) : Bool := (Nat.ble (off + n * 1) b.cells.length && true) && (((b.cells.drop off).take (n * 1)).all SC.isU8 && Nat.ble n 1000000)
/-- How often a key has been used, behind one more use. -/
def useU (y u : Int) : Int := bif isS y then IntKind.i64.wrap (u + 1) else u
section
variable (x d s e y m u : Int) (ty : TypeId) (off n : Nat) (b : Blk)
noncomputable abbrev opX (told : List Bool) := (xfunL Try.prog opL 1000 fOpen [.c (.ptr 0 0), .c (.slc 1 off 1 n none)] [(0, some ⟨keyC x d s e y m u, ty, false, true⟩), (1, some b)] 2 told).map (fun q => (q.1, q.2.1, q.2.2.1, q.2.2.2.blk 0))
def opP : List UInt8 := rdU (off + 0 * 1) (4 - 0) b
def opQ : List UInt8 := rdU (off + 12 * 1) (n - 12) b
def opM : List UInt8 := rdU (off + 4 * 1) (12 - 4) b
def opY : Int := numF (opP off b)
def op1 (v : Bool) : Bool := tg true (decide ((n : Int) < 12)) v
def op3 : Bool := bnd (bnd (bnd (tn (op1 n false) (decide ((n : Int) > 212))) (Nat.ble 4 n && true)) (Nat.ble 12 n && (Nat.ble n n && true))) ((rowX (off + 0 * 1) (4 - 0) b && true) && true)
def op4 : Bool := bnd (bnd (bnd (tg (op3 off n b) (!isS (opY off b)) false) ((rowX (off + 0 * 1) (4 - 0) b && (rowX (off + 12 * 1) (n - 12) b && true)) && true)) (Nat.ble 12 n && true)) ((rowX (off + 4 * 1) (12 - 4) b && true) && true)
def opT : Bool := !tagIs x (opY off b) (opP off b) (opQ off n b) (opM off b)
def opR : List UInt8 := streamS (hl (shI x (opY off b))) (opQ off n b)
def keyB (u' : Int) : Option Blk := some ⟨keyC x d s e y m u', ty, false, true⟩
theorem op_1 : opX x d s e y m u ty off n b [true] = some (op1 n true, [], errT 2, keyB x d s e y m ty u) := by kernel_rfl
theorem op_2 : opX x d s e y m u ty off n b [false, true] = some (ty_ (op1 n false) (decide ((n : Int) > 212)), [], errT 2, keyB x d s e y m ty u) := by kernel_rfl
theorem op_3 : opX x d s e y m u ty off n b [false, false, true] = some (tg (op3 off n b) (!isS (opY off b)) true, [], errT 3, keyB x d s e y m ty (useU (opY off b) u)) := by kernel_rfl
theorem op_4 : opX x d s e y m u ty off n b [false, false, false, true] = some (ty_ (op4 off n b) (opT x off n b), [], errT 3, keyB x d s e y m ty (useU (opY off b) u)) := by kernel_rfl
theorem op_5 : (xfunL Try.prog opL 1000 fOpen [.c (.ptr 0 0), .c (.slc 1 off 1 n none)] [(0, some ⟨keyC x d s e y m u, ty, false, true⟩), (1, some b)] 2 [false, false, false, false]).map (fun q => (q.1, q.2.1, q.2.2.1, q.2.2.2.blk 0, q.2.2.2.blk 162)) =
  some (bnd (tn (op4 off n b) (opT x off n b)) ((rowX (off + 12 * 1) (n - 12) b && true) && (((opR x off n b).map SC.u8).all SC.sole && true)), [], .tup [.inl (.slc 162 0 1 (opR x off n b).length none), .inl (.int 0)], keyB x d s e y m ty (useU (opY off b) u), some ⟨(opR x off n b).map SC.u8, tB, true, true⟩) := by kernel_rfl
noncomputable abbrev ropX (told : List Bool) := (xfunL Try.prog ropL 1000 frOpen [.agg [.int x, .int y], .c (.slc 0 off 1 n none)] [(0, some b)] 1 told).map (fun q => (q.1, q.2.1, q.2.2.1))
def ropY : Int := num4 (ldU off b 0) (ldU off b 1) (ldU off b 2) (ldU off b 3)
def rop3 : Bool := ldOk off n b 3 (ldOk off n b 2 (ldOk off n b 1 (ldOk off n b 0 (tn (op1 n false) (decide ((n : Int) > 212))))))
def rowC (off n : Nat) (b : Blk) : Bool := (Nat.ble (off + n * 1) b.cells.length && true) && ((b.cells.drop off).take (n * 1)).all SC.isU8
theorem rop_1 : ropX x y off n b [true] = some (op1 n true, [], errT 2) := by kernel_rfl
theorem rop_2 : ropX x y off n b [false, true] = some (ty_ (op1 n false) (decide ((n : Int) > 212)), [], errT 2) := by kernel_rfl
def ropI (Y : Int) : St := ⟨[(1, .c (.slc 0 off 1 n none)), (2, .c (.ptr 1 0)), (6, .c (.int Y))], [(0, some b), (1, some ⟨[.int x, .int y], tRKey, false, true⟩)], 2, 64⟩
def ropCut : Cut := ⟨[(1,false),(2,false),(6,true)], [(0,0,true),(1,1,true)], 2⟩
theorem rop_s : stepL Try.prog ropL 0 1000 4 (bodyOf Try.prog frOpen) ⟨argTmps [.agg [.int x, .int y], .c (.slc 0 off 1 n none)] 0, [(0, some b)], 1, 64⟩ [false, false] [] ropCut = some (bnd (rop3 off n b) (b.cells.all SC.plain && true), [], ropI x y off n b (ropY off b)) := by kernel_rfl
noncomputable abbrev ropZ (Y : Int) (told : List Bool) := finL Try.prog ropL frOpen 1000 100 ((bodyOf Try.prog frOpen).drop 4) (ropI x y off n b Y) told
def rop4 (Y : Int) : Bool := bnd (bnd (bnd (bnd (bnd (tg true (!isS Y) false) (Nat.ble 4 n && true)) (Nat.ble 12 n && (Nat.ble n n && true))) ((rowX (off + 0 * 1) (4 - 0) b && (rowX (off + 12 * 1) (n - 12) b && true)) && true)) (Nat.ble 12 n && true)) (rowC (off + 4 * 1) (12 - 4) b)
def ropT (Y : Int) : Bool := !(tagB (tagH (hl (shI x Y)) (opP off b) (opQ off n b)) == opM off b)
def ropR (Y : Int) : List UInt8 := streamS (hl (shI x Y)) (opQ off n b)
theorem rop_3 (Y : Int) : (ropZ x y off n b Y [true]).map (fun q => (q.1, q.2.1, q.2.2.1)) = some (tg true (!isS Y) true, [], errT 3) := by kernel_rfl
theorem rop_4 (Y : Int) : (ropZ x y off n b Y [false, true]).map (fun q => (q.1, q.2.1, q.2.2.1)) = some (ty_ (rop4 off n b Y) (ropT x off n b Y), [], errT 3) := by kernel_rfl
theorem rop_5 (Y : Int) : (ropZ x y off n b Y [false, false]).map (fun q => (q.1, q.2.1, q.2.2.1, q.2.2.2.blk 110)) =
  some (bnd (bnd (tn (rop4 off n b Y) (ropT x off n b Y)) (Nat.ble 12 n && (Nat.ble n n && true))) ((rowX (off + 12 * 1) (n - 12) b && true) && (((ropR x off n b Y).map SC.u8).all SC.sole && true)), [], .tup [.inl (.slc 110 0 1 (ropR x off n b Y).length none), .inl (.int 0)], some ⟨(ropR x off n b Y).map SC.u8, tB, true, true⟩) := by kernel_rfl
end
theorem rowX_eq {off : Nat} {b : Blk} {bs : List UInt8} (h : RowB off b bs) {i k : Nat} (hik : i + k ≤ bs.length) (hk : k ≤ 1000000) : rowX (off + i) k b = true ∧ rdU (off + i) k b = (bs.drop i).take k ∧ rowC (off + i) k b = true := by
  have hl := h.len
  have e : (b.cells.drop (off + i)).take (k * 1) = ((bs.drop i).take k).map SC.u8 := by
    rw [← List.drop_drop, h.cells, Nat.mul_one, ← List.map_drop, ← List.map_take]
  refine ⟨?_, ?_, ?_⟩
  · unfold rowX
    rw [e, isU8s, ble_of (by omega), ble_of hk]; rfl
  · unfold rdU
    rw [e, asU8s]
  · unfold rowC
    rw [e, isU8s, ble_of (by omega)]; rfl
section
variable {off : Nat} {b : Blk} {bs : List UInt8}
theorem parts_eq (h : RowB off b bs) (h12 : 12 ≤ bs.length) : opP off b = bs.take 4 ∧ opQ off bs.length b = bs.drop 12 ∧ opM off b = (bs.drop 4).take 8 := by
  refine ⟨?_, ?_, ?_⟩
  · unfold opP
    rw [Nat.zero_mul, (rowX_eq h (i := 0) (k := 4) (by omega) (by omega)).2.1, List.drop_zero]
  · unfold opQ
    by_cases hl : bs.length - 12 ≤ 1000000
    · rw [Nat.mul_one, (rowX_eq h (i := 12) (k := bs.length - 12) (by omega) hl).2.1, List.take_of_length_le (by simp)]
    · unfold rdU
      rw [Nat.mul_one, ← List.drop_drop, h.cells, Nat.mul_one, ← List.map_drop, ← List.map_take, asU8s, List.take_of_length_le (by simp)]
  · unfold opM
    exact (rowX_eq h (i := 4) (k := 8) (by omega) (by omega)).2.1
theorem rows_eq (h : RowB off b bs) (h12 : 12 ≤ bs.length) (hl : bs.length ≤ 212) : rowX (off + 0 * 1) (4 - 0) b = true ∧ rowX (off + 12 * 1) (bs.length - 12) b = true ∧ rowX (off + 4 * 1) (12 - 4) b = true ∧ rowC (off + 4 * 1) (12 - 4) b = true :=
  ⟨(rowX_eq h (i := 0) (k := 4) (by omega) (by omega)).1, (rowX_eq h (i := 12) (k := bs.length - 12) (by omega) (by omega)).1, (rowX_eq h (i := 4) (k := 8) (by omega) (by omega)).1, (rowX_eq h (i := 4) (k := 8) (by omega) (by omega)).2.2⟩
theorem op3_eq (h : RowB off b bs) (h12 : 12 ≤ bs.length) (hl : bs.length ≤ 212) : op3 off bs.length b = true := by
  unfold op3
  rw [(rows_eq h h12 hl).1, tn_eq (show op1 bs.length false = true from tg_eq rfl (decide_eq_false (by omega))) (decide_eq_false (by omega)), ble_of (show 4 ≤ bs.length by omega), ble_of h12, ble_of (Nat.le_refl _)]; rfl
theorem op4_eq (h : RowB off b bs) (h12 : 12 ≤ bs.length) (hl : bs.length ≤ 212) (hp : isS (opY off b) = true) : op4 off bs.length b = true := by
  obtain ⟨g1, g2, g3, g4⟩ := rows_eq h h12 hl
  unfold op4
  rw [tg_eq (op3_eq h h12 hl) (by rw [hp]; rfl), g1, g2, g3, ble_of h12]; rfl
end
/-- A key's cells, behind one more use of it. -/
def openK (cs : List SC) (bs : List UInt8) : Option (List SC) := match cs with
  | [.int x, .ik .u32 d, .ik .i32 s, .ik .u32 e, .int y, .ik .u32 m, .int u] => some (keyC x d s e y m (bif decide ((bs.length : Int) < 12) then u else bif decide ((bs.length : Int) > 212) then u else useU (numF (bs.take 4)) u))
  | _ => none
def openC (O : Int → List UInt8 → List UInt8 × Int) : Con := objBytesO 1000000 fun cs bs => match cs with
  | [.int x, .ik .u32 d, .ik .i32 s, .ik .u32 e, .int y, .ik .u32 m, .int u] => some (true, resO (O x bs), keyC x d s e y m (bif decide ((bs.length : Int) < 12) then u else bif decide ((bs.length : Int) > 212) then u else useU (numF (bs.take 4)) u))
  | _ => none
theorem open_fn (X : Cx) (x d s e y m u : Int) (ty : TypeId) {bs : List UInt8} {off : Nat} {b : Blk} (h : RowB off b bs) : Sx.Fn Try.prog fOpen X [.c (.ptr 0 0), .c (.slc 1 off 1 bs.length none)] [(0, some ⟨keyC x d s e y m u, ty, false, true⟩), (1, some b)] 2 fun r T =>
    (resO (openF x bs)).is r T ∧ T.blk 0 = keyB x d s e y m ty (bif decide ((bs.length : Int) < 12) then u else bif decide ((bs.length : Int) > 212) then u else useU (numF (bs.take 4)) u) := by
  unfold openF
  cases h1 : decide ((bs.length : Int) < 12) with
  | true =>
    have := Fn.xtL (X := X) opL_ok mixed [true] (op_1 x d s e y m u ty off bs.length b) (tg_eq rfl h1) trivial
    exact fun ρ w vs h1 h2 h3 => (this ρ w vs h1 h2 h3).mono fun e w' ⟨u, v, T', ρ', he, ⟨hv, hT⟩, h4⟩ => ⟨u, v, T', ρ', he, ⟨by rw [hv]; exact resO_err 2 T', hT⟩, h4⟩
  | false =>
  cases h2 : decide ((bs.length : Int) > 212) with
  | true =>
    have := Fn.xtL (X := X) opL_ok mixed [false, true] (op_2 x d s e y m u ty off bs.length b) (ty_eq (tg_eq rfl h1) h2) trivial
    exact fun ρ w vs h1 h2 h3 => (this ρ w vs h1 h2 h3).mono fun e w' ⟨u, v, T', ρ', he, ⟨hv, hT⟩, h4⟩ => ⟨u, v, T', ρ', he, ⟨by rw [hv]; exact resO_err 2 T', hT⟩, h4⟩
  | false =>
  have l1 : 12 ≤ bs.length := by rw [decide_eq_false_iff_not] at h1; omega
  have l2 : bs.length ≤ 212 := by rw [decide_eq_false_iff_not] at h2; omega
  obtain ⟨eP, eQ, eM⟩ := parts_eq h l1
  have eY : opY off b = numF (bs.take 4) := by unfold opY; rw [eP]
  simp only [cond_false]
  cases h3 : isS (numF (bs.take 4)) with
  | false =>
    have := Fn.xtL (X := X) opL_ok mixed [false, false, true] (op_3 x d s e y m u ty off bs.length b) (tg_eq (op3_eq h l1 l2) (by rw [eY, h3]; rfl)) trivial
    rw [eY] at this
    exact fun ρ w vs h1 h2 h3 => (this ρ w vs h1 h2 h3).mono fun e w' ⟨u, v, T', ρ', he, ⟨hv, hT⟩, h4⟩ => ⟨u, v, T', ρ', he, ⟨by rw [hv]; exact resO_err 3 T', hT⟩, h4⟩
  | true =>
  have hO4 := op4_eq h l1 l2 (by rw [eY]; exact h3)
  have eT : opT x off bs.length b = !tagIs x (numF (bs.take 4)) (bs.take 4) (bs.drop 12) ((bs.drop 4).take 8) := by unfold opT; rw [eY, eP, eQ, eM]
  cases h4 : tagIs x (numF (bs.take 4)) (bs.take 4) (bs.drop 12) ((bs.drop 4).take 8) with
  | false =>
    have := Fn.xtL (X := X) opL_ok mixed [false, false, false, true] (op_4 x d s e y m u ty off bs.length b) (ty_eq hO4 (by rw [eT, h4]; rfl)) trivial
    rw [eY] at this
    exact fun ρ w vs h1 h2 h3 => (this ρ w vs h1 h2 h3).mono fun e w' ⟨u, v, T', ρ', he, ⟨hv, hT⟩, h4⟩ => ⟨u, v, T', ρ', he, ⟨by rw [hv]; exact resO_err 3 T', hT⟩, h4⟩
  | true =>
    have h5 := op_5 x d s e y m u ty off bs.length b
    have eR : opR x off bs.length b = streamS (hl (shI x (numF (bs.take 4)))) (bs.drop 12) := by unfold opR; rw [eY, eQ]
    rw [eR, eY] at h5
    have hob : bnd (tn (op4 off bs.length b) (opT x off bs.length b)) ((rowX (off + 12 * 1) (bs.length - 12) b && true) && (((streamS (hl (shI x (numF (bs.take 4)))) (bs.drop 12)).map SC.u8).all SC.sole && true)) = true := by
      rw [(rows_eq h l1 l2).2.1, sole_u8s, tn_eq hO4 (by rw [eT, h4]; rfl)]; rfl
    exact (Fn.xt2L (X := X) opL_ok mixed [false, false, false, false] h5 hob trivial).mono fun v T ⟨hv, hT, hT2⟩ => ⟨by rw [hv]; exact resO_ok _ hT2, hT⟩
theorem open_ok {O : Int → List UInt8 → List UInt8 × Int} (hO : O = openF) : ConOK Try.prog fOpen (openC O) := by
  subst hO
  refine objBytesO_ok (fn := Try.f15) (by kernel_rfl) rfl rfl fun cs bs o cs' h hs hs' hl X hX ty off b hb => ?_
  split at h <;> try (cases h; done)
  simp only [Option.some.injEq, Prod.mk.injEq, true_and] at h
  obtain ⟨rfl, rfl⟩ := h
  exact open_fn X _ _ _ _ _ _ _ ty hb

/-! The document's. -/
theorem ldU4 {off : Nat} {b : Blk} {bs : List UInt8} (h : RowB off b bs) (h12 : 12 ≤ bs.length) : ropY off b = numF (bs.take 4) := by
  unfold ropY
  have e : bs.take 4 = [bs.getD 0 0, bs.getD 1 0, bs.getD 2 0, bs.getD 3 0] := by
    match bs, h12 with
    | a :: b :: c :: d :: r, _ => rfl
  rw [e, num4_eq]
  have l0 := ldU_eq h (i := 0) (by omega)
  have l1 := ldU_eq h (i := 1) (by omega)
  have l2 := ldU_eq h (i := 2) (by omega)
  have l3 := ldU_eq h (i := 3) (by omega)
  simp only [Int.natCast_zero] at l0
  rw [← l1, ← l2, ← l3]
  rw [show bs.getD 0 0 = ldU off b 0 from l0.symm]
  rfl
theorem ropen_fn (x y : Int) {bs : List UInt8} {off : Nat} {b : Blk} (h : RowB off b bs) (w : World) : Sx.Fn Try.prog frOpen (atW w 0) [.agg [.int x, .int y], .c (.slc 0 off 1 bs.length none)] [(0, some b)] 1 fun r T => (resO (openF x bs)).is r T := by
  unfold openF
  cases h1 : decide ((bs.length : Int) < 12) with
  | true => exact (Fn.xvL (X := atW w 0) ropL_ok mixed [true] (rop_1 x y off bs.length b) (tg_eq rfl h1) trivial (Post := fun r => r = errT 2) rfl).mono fun v T hv => by rw [hv]; exact resO_err 2 T
  | false =>
  cases h2 : decide ((bs.length : Int) > 212) with
  | true => exact (Fn.xvL (X := atW w 0) ropL_ok mixed [false, true] (rop_2 x y off bs.length b) (ty_eq (tg_eq rfl h1) h2) trivial (Post := fun r => r = errT 2) rfl).mono fun v T hv => by rw [hv]; exact resO_err 2 T
  | false =>
  have l1 : 12 ≤ bs.length := by rw [decide_eq_false_iff_not] at h1; omega
  have l2 : bs.length ≤ 212 := by rw [decide_eq_false_iff_not] at h2; omega
  obtain ⟨eP, eQ, eM⟩ := parts_eq h l1
  obtain ⟨g1, g2, g3, g4⟩ := rows_eq h l1 l2
  simp only [cond_false]
  refine Sx.Fn.of (nt := 64) (by kernel_rfl) rfl ?_
  refine SWs.stepL ropL_ok mixed [false, false] (rop_s x y off bs.length b) ?_ trivial ?_
  · have hi : ∀ i : Nat, i < 4 → ∀ acc : Bool, acc = true → ldOk off bs.length b i acc = true := fun i hi acc ha => ldOk_eq h (by omega) ha
    unfold rop3
    have hc : ldOk off bs.length b ((3 : Nat) : Int) (ldOk off bs.length b ((2 : Nat) : Int) (ldOk off bs.length b ((1 : Nat) : Int) (ldOk off bs.length b ((0 : Nat) : Int) (tn (op1 bs.length false) (decide ((bs.length : Int) > 212)))))) = true := hi 3 (by omega) _ (hi 2 (by omega) _ (hi 1 (by omega) _ (hi 0 (by omega) _ (tn_eq (tg_eq rfl h1) h2))))
    rw [h.plain]
    show bnd (ldOk off bs.length b ((3 : Nat) : Int) (ldOk off bs.length b ((2 : Nat) : Int) (ldOk off bs.length b ((1 : Nat) : Int) (ldOk off bs.length b ((0 : Nat) : Int) (tn (op1 bs.length false) (decide ((bs.length : Int) > 212))))))) (true && true) = true
    rw [hc]; rfl
  rw [ldU4 h l1]
  have eT : ∀ Y, ropT x off bs.length b Y = !tagIs x Y (bs.take 4) (bs.drop 12) ((bs.drop 4).take 8) := fun Y => by unfold ropT; rw [eP, eQ, eM]; rfl
  have eR : ∀ Y, ropR x off bs.length b Y = streamS (hl (shI x Y)) (bs.drop 12) := fun Y => by unfold ropR; rw [eQ]
  generalize numF (bs.take 4) = Y
  cases h3 : isS Y with
  | false =>
    refine SWs.mono ?_ (SWs.finvL ropL_ok mixed [true] (rop_3 x y off bs.length b Y) (tg_eq rfl (by rw [h3]; rfl)) trivial (Post := fun r => r = errT 3) rfl)
    rintro o st ⟨q1, fn, v, q2, q3, q4⟩
    exact ⟨q1, fn, v, q2, q3, by rw [q4]; exact resO_err 3 _⟩
  | true =>
  have hO4 : rop4 off bs.length b Y = true := by
    unfold rop4
    rw [g1, g2, g4, ble_of l1, ble_of (show 4 ≤ bs.length by omega), ble_of (Nat.le_refl _), tg_eq rfl (by rw [h3]; rfl)]; rfl
  cases h4 : tagIs x Y (bs.take 4) (bs.drop 12) ((bs.drop 4).take 8) with
  | false =>
    refine SWs.mono ?_ (SWs.finvL ropL_ok mixed [false, true] (rop_4 x y off bs.length b Y) (ty_eq hO4 (by rw [eT, h4]; rfl)) trivial (Post := fun r => r = errT 3) rfl)
    rintro o st ⟨q1, fn, v, q2, q3, q4⟩
    exact ⟨q1, fn, v, q2, q3, by rw [q4]; exact resO_err 3 _⟩
  | true =>
    have h5 := rop_5 x y off bs.length b Y
    rw [eR] at h5
    refine SWs.mono ?_ (SWs.fintL ropL_ok mixed [false, false] h5 (by rw [g2, sole_u8s, ble_of l1, ble_of (Nat.le_refl _), tn_eq hO4 (by rw [eT, h4]; rfl)]; rfl) trivial)
    rintro o st ⟨q1, fn, v, q2, q3, q4, q5⟩
    exact ⟨q1, fn, v, q2, q3, by rw [q4]; exact resO_ok _ q5⟩
def ropenC (O : Int → List UInt8 → List UInt8 × Int) : Con := gNew [false, true] 1000000 fun ps rs => match ps, rs with | [.agg [.int x, .int y]], [bs] => some (true, resO (O x bs)) | _, _ => none
theorem ropen_ok {O : Int → List UInt8 → List UInt8 × Int} (hO : O = openF) : ConOK Try.prog frOpen (ropenC O) := by
  subst hO
  refine gNew_ok (fn := Try.f17) (by kernel_rfl) rfl rfl fun ps rs o h hs hl w rb hrb => ?_
  split at h <;> try (cases h; done)
  rename_i x y bs
  simp only [Option.some.injEq, Prod.mk.injEq, true_and] at h
  subst h
  cases hrb with
  | @cons r1 _ _ _ h1 hrb =>
  cases hrb
  obtain ⟨o1, n1, b1⟩ := r1
  obtain ⟨e1, h1⟩ := h1
  simp only at e1 h1
  subst e1
  exact ropen_fn x y h1 w

end Go.Proofs.Ytdjimjjemiaokaa.Sl
