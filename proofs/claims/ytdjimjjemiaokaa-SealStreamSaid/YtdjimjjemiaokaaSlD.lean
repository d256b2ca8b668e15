/-
  Tags of boxes; numbers of rows of bytes.
-/
import Derived.Test.YtdjimjjemiaokaaSlC
namespace Go.Proofs.Ytdjimjjemiaokaa.Sl
open Go.RowKit Go.Proofs.Ytdjimjjemiaokaa.Sx Go.Proofs.Ytdjimjjemiaokaa.Pw Go.Proofs.Ytdjimjjemiaokaa.Pr
open Go.Proofs.Ytdjimjjemiaokaa.Sp (rd rdB rd_eq rdB_eq rd_own rdB_own hc hb deriveS isU8s asU8s tB tH mixed own_take fDer derC der_ok derOk H4 fRDer rderC rder_ok fJoin joinC join_ok)
set_option linter.unusedVariables false

def tagT : List UInt8 := [116, 97, 103]
def tagH (hs pub body : List UInt8) : H4 := deriveS hs tagT (pub ++ body)
def tagB (H : H4) : List UInt8 := (hb H.p).map SC.asU8
theorem tagB_len (H : H4) : (tagB H).length = 8 := rfl
theorem tagB_eq (H : H4) : (tagB H).map SC.u8 = hb H.p := rfl
abbrev fTag : Nat := 26
abbrev frTag : Nat := 30
section
variable (hcs : List SC) (o1 n1 o2 n2 : Nat) (b1 b2 : Blk)
def rowE (off n : Nat) (b : Blk) : Bool := (Nat.ble (off + n * 1) b.cells.length && true) && ((b.cells.drop off).take (n * 1)).all SC.isU8
def two : List UInt8 := [rdU o1 n1 b1, rdU o2 n2 b2].flatten
def tgO : Bool := bnd (bnd true (Nat.ble 32 hcs.length)) ([SV.agg (hs_ hcs), SV.c (.str tagT)].all SV.sole && (derOk [SV.agg (hs_ hcs), SV.c (.str tagT)] && ((rowE o1 n1 b1 && (rowE o2 n2 b2 && true)) && Nat.ble (two o1 n1 o2 n2 b1 b2).length 1073741824)))
def tgH : H4 := deriveS ((hs_ hcs).map SC.asU8) tagT (two o1 n1 o2 n2 b1 b2)
theorem tag_run (w : World) (hok : tgO hcs o1 n1 o2 n2 b1 b2 = true) : Sx.Fn Try.prog fTag (atW w 0) [.agg hcs, .c (.slc 0 o1 1 n1 none), .c (.slc 1 o2 1 n2 none)] [(0, some b1), (1, some b2)] 2 fun r T => r = .c (.slc 30 0 1 8 (some 32)) ∧ T.blk 30 = some ⟨hc (tgH hcs o1 n1 o2 n2 b1 b2), tH, false, true⟩ :=
  Fn.xtL (fuel := 1000) (LibOK.cons der_ok (LibOK.nil _)) mixed [] (obs := []) (by kernel_rfl) hok trivial
def twoJ : List UInt8 := rdU 0 (two o1 n1 o2 n2 b1 b2).length ⟨(two o1 n1 o2 n2 b1 b2).map SC.u8, tB, true, true⟩
def rtgO : Bool := bnd (bnd (bnd true (Nat.ble 32 hcs.length)) ((rowE o1 n1 b1 && (rowE o2 n2 b2 && true)) && Nat.ble (two o1 n1 o2 n2 b1 b2).length 1073741824))
  ([SV.agg (hs_ hcs), SV.c (.str tagT)].all SV.sole && (derOk [SV.agg (hs_ hcs), SV.c (.str tagT)] && ((Nat.ble (0 + (two o1 n1 o2 n2 b1 b2).length * 1) ((two o1 n1 o2 n2 b1 b2).map SC.u8).length && true) && ((((((two o1 n1 o2 n2 b1 b2).map SC.u8).drop 0).take ((two o1 n1 o2 n2 b1 b2).length * 1)).all SC.isU8) && Nat.ble (two o1 n1 o2 n2 b1 b2).length 1073741824))))
def rtgH : H4 := deriveS ((hs_ hcs).map SC.asU8) tagT (twoJ o1 n1 o2 n2 b1 b2)
theorem rtag_run (w : World) (hok : rtgO hcs o1 n1 o2 n2 b1 b2 = true) : Sx.Fn Try.prog frTag (atW w 0) [.agg hcs, .c (.slc 0 o1 1 n1 none), .c (.slc 1 o2 1 n2 none)] [(0, some b1), (1, some b2)] 2 fun r T => r = .c (.slc 50 0 1 8 none) ∧ T.blk 50 = some ⟨hb (rtgH hcs o1 n1 o2 n2 b1 b2).p, tB, true, true⟩ :=
  Fn.xtL (fuel := 1000) (LibOK.cons rder_ok (LibOK.cons join_ok (LibOK.nil _))) mixed [] (obs := []) (by kernel_rfl) hok trivial
end
theorem rdU_eq {off : Nat} {b : Blk} {bs : List UInt8} (h : RowB off b bs) : rdU off bs.length b = bs := by
  unfold rdU
  rw [h.cells, Nat.mul_one, List.take_of_length_le (by simp), asU8s]
theorem rowE_eq {off : Nat} {b : Blk} {bs : List UInt8} (h : RowB off b bs) : rowE off bs.length b = true := by
  have hl := h.len
  unfold rowE
  rw [h.cells, Nat.mul_one, List.take_of_length_le (by simp), isU8s, ble_of (by omega)]; rfl
theorem rdU_own (bs : List UInt8) : rdU 0 bs.length ⟨bs.map SC.u8, tB, true, true⟩ = bs := by
  unfold rdU
  rw [List.drop_zero, Nat.mul_one, List.take_of_length_le (by simp), asU8s]
section
variable {hs pub body : List UInt8} {o1 o2 : Nat} {b1 b2 : Blk}
theorem two_eq (h1 : RowB o1 b1 pub) (h2 : RowB o2 b2 body) : two o1 pub.length o2 body.length b1 b2 = pub ++ body := by unfold two; rw [rdU_eq h1, rdU_eq h2]; simp
theorem tag_fn (h32 : hs.length = 32) (h1 : RowB o1 b1 pub) (h2 : RowB o2 b2 body) (l1 : pub.length ≤ 1000000) (l2 : body.length ≤ 1000000) (w : World) : Sx.Fn Try.prog fTag (atW w 0) [.agg (hs.map SC.u8), .c (.slc 0 o1 1 pub.length none), .c (.slc 1 o2 1 body.length none)] [(0, some b1), (1, some b2)] 2 fun r T => r = .c (.slc 30 0 1 8 (some 32)) ∧ T.blk 30 = some ⟨hc (tagH hs pub body), tH, false, true⟩ := by
  have := tag_run (hs.map SC.u8) o1 pub.length o2 body.length b1 b2 w ?_
  · unfold tgH at this
    rw [two_eq h1 h2, hs_eq h32, asU8s] at this
    exact this
  · unfold tgO
    rw [two_eq h1 h2, hs_eq h32, rowE_eq h1, rowE_eq h2, List.length_map, h32, ble_of (show (pub ++ body).length ≤ 1073741824 by rw [List.length_append]; omega)]
    have hd := derOk_eq (s := tagT) h32 (by decide)
    simp only [Bool.and_true] at hd ⊢
    rw [hd]; rfl
theorem rtag_fn (h32 : hs.length = 32) (h1 : RowB o1 b1 pub) (h2 : RowB o2 b2 body) (l1 : pub.length ≤ 1000000) (l2 : body.length ≤ 1000000) (w : World) : Sx.Fn Try.prog frTag (atW w 0) [.agg (hs.map SC.u8), .c (.slc 0 o1 1 pub.length none), .c (.slc 1 o2 1 body.length none)] [(0, some b1), (1, some b2)] 2 fun r T => r = .c (.slc 50 0 1 8 none) ∧ T.blk 50 = some ⟨hb (tagH hs pub body).p, tB, true, true⟩ := by
  have := rtag_run (hs.map SC.u8) o1 pub.length o2 body.length b1 b2 w ?_
  · unfold rtgH twoJ at this
    rw [two_eq h1 h2, hs_eq h32, asU8s, rdU_own] at this
    exact this
  · unfold rtgO
    rw [two_eq h1 h2, hs_eq h32, rowE_eq h1, rowE_eq h2, List.length_map, h32, ble_of (show (pub ++ body).length ≤ 1073741824 by rw [List.length_append]; omega), List.drop_zero, Nat.mul_one, List.take_of_length_le (by simp), isU8s, show Nat.ble (0 + (pub ++ body).length) ((pub ++ body).map SC.u8).length = true from ble_of (by simp)]
    have hd := derOk_eq (s := tagT) h32 (by decide)
    simp only [Bool.and_true] at hd ⊢
    rw [hd]; rfl
end
def tagO (hs pub body : List UInt8) : RowO := ⟨⟨hc (tagH hs pub body), tH, false, true⟩, 8, some 32, none⟩
def rtagO (hs pub body : List UInt8) : RowO := ⟨⟨hb (tagH hs pub body).p, tB, true, true⟩, 8, none, none⟩
def tagC : Con := gNew [false, true, true] 1000000 fun ps rs => match ps, rs with | [.agg cs], [p, q] => some (is32 cs, tagO (cs.map SC.asU8) p q) | _, _ => none
def rtagC : Con := gNew [false, true, true] 1000000 fun ps rs => match ps, rs with | [.agg cs], [p, q] => some (is32 cs, rtagO (cs.map SC.asU8) p q) | _, _ => none
theorem tag_ok : ConOK Try.prog fTag tagC := by
  refine gNew_ok (fn := Try.f26) (by kernel_rfl) rfl rfl fun ps rs o h hs hl w rb hrb => ?_
  split at h <;> try (cases h; done)
  rename_i cs p q
  simp only [Option.some.injEq, Prod.mk.injEq] at h
  obtain ⟨h32, rfl⟩ := h
  obtain ⟨g1, g2⟩ := is32_back h32
  cases hrb with
  | @cons r1 _ _ _ h1 hrb =>
  cases hrb with
  | @cons r2 _ _ _ h2 hrb =>
  cases hrb
  obtain ⟨o1, n1, b1⟩ := r1
  obtain ⟨o2, n2, b2⟩ := r2
  obtain ⟨e1, h1⟩ := h1
  obtain ⟨e2, h2⟩ := h2
  simp only at e1 h1 e2 h2
  subst e1 e2
  have := tag_fn g1 h1 h2 (hl p (by simp)) (hl q (by simp)) w
  rw [g2] at this
  exact fun ρ w vs h1 h2 h3 => (this ρ w vs h1 h2 h3).mono fun e w' ⟨u, v, T', ρ', he, ⟨hv, hT⟩, h4⟩ => ⟨u, v, T', ρ', he, .inl ⟨30, hv, hT⟩, h4⟩
theorem rtag_ok : ConOK Try.prog frTag rtagC := by
  refine gNew_ok (fn := Try.f30) (by kernel_rfl) rfl rfl fun ps rs o h hs hl w rb hrb => ?_
  split at h <;> try (cases h; done)
  rename_i cs p q
  simp only [Option.some.injEq, Prod.mk.injEq] at h
  obtain ⟨h32, rfl⟩ := h
  obtain ⟨g1, g2⟩ := is32_back h32
  cases hrb with
  | @cons r1 _ _ _ h1 hrb =>
  cases hrb with
  | @cons r2 _ _ _ h2 hrb =>
  cases hrb
  obtain ⟨o1, n1, b1⟩ := r1
  obtain ⟨o2, n2, b2⟩ := r2
  obtain ⟨e1, h1⟩ := h1
  obtain ⟨e2, h2⟩ := h2
  simp only at e1 h1 e2 h2
  subst e1 e2
  have := rtag_fn g1 h1 h2 (hl p (by simp)) (hl q (by simp)) w
  rw [g2] at this
  exact fun ρ w vs h1 h2 h3 => (this ρ w vs h1 h2 h3).mono fun e w' ⟨u, v, T', ρ', he, ⟨hv, hT⟩, h4⟩ => ⟨u, v, T', ρ', he, .inl ⟨50, hv, hT⟩, h4⟩

/-! Numbers, the highest byte first. -/
abbrev fNumb : Nat := 31
def orI (a b : Int) : Int := IntKind.i64.wrap ((BitVec.ofInt 64 a ||| BitVec.ofInt 64 b).toNat : Nat)
def numStep (x : Int) (c : UInt8) : Int := orI (IntKind.i64.wrap (x * 256)) (c.toNat : Int)
def numF (bs : List UInt8) : Int := bs.foldl numStep 0
section
variable (off n : Nat) (b : Blk)
def nbI (x i : Int) : St := ⟨[(3, .c (.int x)), (6, .c (.slc 0 off 1 n none)), (7, .c (.int n)), (8, .c (.int i))], [(0, some b)], 1, 19⟩
def nbCut : Cut := ⟨[(3,true),(6,false),(7,true),(8,true)], [(0,0,true)], 1⟩
theorem nb_0 : stepL Try.prog [] 0 1000 3 (bodyOf Try.prog fNumb) ⟨argTmps [.c (.slc 0 off 1 n none)] 0, [(0, some b)], 1, 19⟩ [] [] nbCut = some (bnd true (b.cells.all SC.plain && true), [], nbI off n b 0 0) := by kernel_rfl
theorem nb_1 (x i : Int) : stepL Try.prog [] 0 1000 4 (loopB ((bodyOf Try.prog fNumb).drop 3)) (nbI off n b x i) [true] [] nbCut = some (bnd (ldOk off n b i (ty_ true (decide (i < (n : Int))))) (b.cells.all SC.plain && true), [], nbI off n b (numStep x (ldU off b i)) (IntKind.i64.wrap (i + 1))) := by kernel_rfl
theorem nb_2 (x i : Int) : exitL Try.prog [] 0 1000 4 (loopB ((bodyOf Try.prog fNumb).drop 3)) (nbI off n b x i) [false] [] ⟨[(3,true)], [], 1⟩ = some (loopId ((bodyOf Try.prog fNumb).drop 3), tn true (decide (i < (n : Int))), [], ⟨[(3, .c (.int x))], [], 1, 19⟩) := by kernel_rfl
end
theorem numb_fn {bs : List UInt8} (hl : bs.length ≤ 1000000) {off : Nat} {b : Blk} (h : RowB off b bs) (w : World) : Sx.Fn Try.prog fNumb (atW w 0) [.c (.slc 0 off 1 bs.length none)] [(0, some b)] 1 fun r _ => r = .c (.int (numF bs)) := by
  refine Sx.Fn.of (nt := 19) (by kernel_rfl) rfl ?_
  refine SWs.stepL (LibOK.nil _) mixed [] (nb_0 off bs.length b) (by rw [h.plain]; rfl) trivial ?_
  refine SWs.loop (by kernel_rfl) (fun i : Nat => nbI off bs.length b (numF (bs.take i)) i) (fun i => bs.length - i) (fun i => i ≤ bs.length) 0 (by omega) ?_
  intro i hi
  by_cases hlt : i < bs.length
  · have hw : IntKind.i64.wrap ((i : Int) + 1) = ((i + 1 : Nat) : Int) := by rw [wrap_id (by omega) (by omega)]; omega
    refine SWs.roundL (LibOK.nil _) mixed [true] (nb_1 off bs.length b (numF (bs.take i)) i) rfl (by rw [ldOk_eq h hlt (ty_eq rfl (by rw [decide_eq_true_eq]; omega)), h.plain]; rfl) trivial ⟨i + 1, by omega, by omega, ?_⟩
    rw [hw, ldU_eq h hlt, take_succ_getD hlt]
    unfold numF
    rw [List.foldl_append]; rfl
  · obtain rfl : i = bs.length := by omega
    refine SWs.outL (LibOK.nil _) mixed [false] (nb_2 off bs.length b _ bs.length) (tn_eq rfl (by simp)) trivial ?_
    rw [List.take_length]
    exact SWs.finvL (LibOK.nil _) mixed (fuel := 1000) (n := 100) [] (ob := true) (obs := []) (v := .c (.int (numF bs))) (by kernel_rfl) rfl trivial rfl
def numbC : Con := gVal [true] 1000000 fun ps rs => match ps, rs with | [], [bs] => some (true, .c (.int (numF bs))) | _, _ => none
theorem numb_ok : ConOK Try.prog fNumb numbC := by
  refine gVal_ok (fn := Try.f31) (by kernel_rfl) rfl rfl fun ps rs v h hs hl => ?_
  split at h <;> try (cases h; done)
  rename_i bs
  simp only [Option.some.injEq, Prod.mk.injEq, true_and] at h; subst h
  refine ⟨rfl, fun w rb hrb => ?_⟩
  cases hrb with
  | @cons r1 _ _ _ h1 hrb =>
  cases hrb
  obtain ⟨o1, n1, b1⟩ := r1
  obtain ⟨e1, h1⟩ := h1
  simp only at e1 h1
  subst e1
  exact numb_fn (hl bs (by simp)) h1 w
/-- Of four bytes. -/
theorem orI_nat {a b : Nat} (ha : a < 2 ^ 62) (hb : b < 2 ^ 62) : orI a b = ((a ||| b : Nat) : Int) := by
  have hor : a ||| b < 2 ^ 62 := Nat.or_lt_two_pow ha hb
  unfold orI
  rw [BitVec.toNat_or, BitVec.toNat_ofInt, BitVec.toNat_ofInt]
  have e1 : ((a : Int) % ((2 ^ 64 : Nat) : Int)).toNat = a := by omega
  have e2 : ((b : Int) % ((2 ^ 64 : Nat) : Int)).toNat = b := by omega
  rw [e1, e2, wrap_id (by omega) (by omega)]
def num4 (a b c d : UInt8) : Int := orI (orI (orI (IntKind.i64.wrap ((a.toNat : Int) * 2 ^ 24)) (IntKind.i64.wrap ((b.toNat : Int) * 2 ^ 16))) (IntKind.i64.wrap ((c.toNat : Int) * 2 ^ 8))) (d.toNat : Int)
theorem or_mul (a b k : Nat) : (a ||| b) * 2 ^ k = a * 2 ^ k ||| b * 2 ^ k := by
  rw [← Nat.shiftLeft_eq, ← Nat.shiftLeft_eq, ← Nat.shiftLeft_eq, Nat.shiftLeft_or_distrib]
set_option maxRecDepth 100000 in
theorem num4_eq (a b c d : UInt8) : numF [a, b, c, d] = num4 a b c d := by
  have ha := a.toNat_lt
  have hb := b.toNat_lt
  have hc := c.toNat_lt
  have hd := d.toNat_lt
  generalize hA : a.toNat = A at ha
  generalize hB : b.toNat = B at hb
  generalize hC : c.toNat = C at hc
  generalize hD : d.toNat = D at hd
  have w : ∀ (x k : Nat), x * k < 2 ^ 62 → IntKind.i64.wrap ((x : Int) * (k : Int)) = ((x * k : Nat) : Int) := fun x k h => by
    rw [wrap_id (by have : (0 : Int) ≤ ((x * k : Nat) : Int) := by omega
                    simpa using this) (by have : ((x * k : Nat) : Int) ≤ 4611686018427387904 := by omega
                                          simpa using this)]; simp
  have lt2 : ∀ {x y k : Nat}, x < 2 ^ k → y < 2 ^ k → x ||| y < 2 ^ k := fun h1 h2 => Nat.or_lt_two_pow h1 h2
  have s1 : numStep 0 a = (A : Int) := by
    unfold numStep
    rw [hA]
    have := orI_nat (a := 0) (b := A) (by omega) (by omega)
    rw [Nat.zero_or] at this
    rw [show IntKind.i64.wrap (0 * 256) = ((0 : Nat) : Int) from rfl]
    exact this
  have s2 : numStep (A : Int) b = ((A * 256 ||| B : Nat) : Int) := by
    unfold numStep
    rw [hB, show ((A : Int) * 256) = ((A : Int) * ((256 : Nat) : Int)) from rfl, w A 256 (by omega), orI_nat (by omega) (by omega)]
  have l2 : A * 256 ||| B < 2 ^ 16 := lt2 (by omega) (by omega)
  have s3 : numStep ((A * 256 ||| B : Nat) : Int) c = (((A * 256 ||| B) * 256 ||| C : Nat) : Int) := by
    unfold numStep
    rw [hC, show (((A * 256 ||| B : Nat) : Int) * 256) = (((A * 256 ||| B : Nat) : Int) * ((256 : Nat) : Int)) from rfl, w _ 256 (by omega), orI_nat (by omega) (by omega)]
  have l3 : (A * 256 ||| B) * 256 ||| C < 2 ^ 24 := lt2 (by omega) (by omega)
  have s4 : numStep (((A * 256 ||| B) * 256 ||| C : Nat) : Int) d = ((((A * 256 ||| B) * 256 ||| C) * 256 ||| D : Nat) : Int) := by
    unfold numStep
    rw [hD, show ((((A * 256 ||| B) * 256 ||| C : Nat) : Int) * 256) = ((((A * 256 ||| B) * 256 ||| C : Nat) : Int) * ((256 : Nat) : Int)) from rfl, w _ 256 (by omega), orI_nat (by omega) (by omega)]
  show numStep (numStep (numStep (numStep 0 a) b) c) d = _
  rw [s1, s2, s3, s4]
  unfold num4
  have p1 : (2 : Int) ^ 24 = 16777216 := by decide
  have p2 : (2 : Int) ^ 16 = 65536 := by decide
  have p3 : (2 : Int) ^ 8 = 256 := by decide
  have w1 : IntKind.i64.wrap ((A : Int) * 16777216) = ((A * 16777216 : Nat) : Int) := by rw [wrap_id (by omega) (by omega)]; omega
  have w2 : IntKind.i64.wrap ((B : Int) * 65536) = ((B * 65536 : Nat) : Int) := by rw [wrap_id (by omega) (by omega)]; omega
  have w3 : IntKind.i64.wrap ((C : Int) * 256) = ((C * 256 : Nat) : Int) := by rw [wrap_id (by omega) (by omega)]; omega
  rw [hA, hB, hC, hD, p1, p2, p3, w1, w2, w3, orI_nat (by omega) (by omega)]
  have l4 : A * 16777216 ||| B * 65536 < 2 ^ 32 := lt2 (by omega) (by omega)
  rw [orI_nat (by omega) (by omega)]
  have l5 : A * 16777216 ||| B * 65536 ||| C * 256 < 2 ^ 32 := lt2 l4 (by omega)
  rw [orI_nat (by omega) (by omega)]
  have m1 := or_mul (A * 256) B 8
  have m2 := or_mul ((A * 256 ||| B) * 256) C 8
  have m3 := or_mul (A * 256 * 256) (B * 256) 8
  simp only [Nat.reducePow] at m1 m2 m3
  have q1 : A * 256 * 256 * 256 = A * 16777216 := by omega
  have q2 : B * 256 * 256 = B * 65536 := by omega
  rw [m2, m1, m3, q1, q2]

end Go.Proofs.Ytdjimjjemiaokaa.Sl
