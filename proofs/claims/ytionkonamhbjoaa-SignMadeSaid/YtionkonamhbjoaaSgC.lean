/-
  The laws of signatures.
-/
import Derived.Test.YtionkonamhbjoaaSgB
namespace Go.Proofs.Ytionkonamhbjoaa.Sg
open Go.RowKit Go.Proofs.Ytionkonamhbjoaa.Sx Go.Proofs.Ytionkonamhbjoaa.Pw Go.Proofs.Ytionkonamhbjoaa.Pr
open Go.Proofs.Ytionkonamhbjoaa.Sp (rd rdB rd_eq rdB_eq rd_own rdB_own hc deriveS isU8s asU8s)
set_option linter.unusedVariables false

def gg (x : Bool) (acc : Bool) : Bool := bnd acc (x == true && true)
def g3 (x acc : Bool) : Bool := gg x (gg x (gg x acc))
def gi (x y acc : Bool) : Bool := bnd acc (x == true && y)
def signG (W : Int → Int → Int) (SE SS : Int → Int → List UInt8 → Int) : Con := objBytesW 100000 fun cs bs => match cs with
  | [.int x, .ik .u32 d, .ik .i32 s, .ik .u32 e, .int y, .ik .u32 m, .int u] => bif d == 0 then some (s == 0, .agg [.int (SE x (W 4 x) bs), .int (SS x (W 4 x) bs)], keyC x 1 0 e (W 4 x) 1 u) else some (d == 1, .agg [.int (SE x y bs), .int (SS x y bs)], keyC x d s e y m u)
  | _ => none
def rsignG (SE SS : Int → Int → List UInt8 → Int) : Con := bytesCon 100000 fun ps bs => match ps with | [.agg [.int x, .int y]] => some (.agg [.int (SE x y bs), .int (SS x y bs)]) | _ => none
def verG (V : Int → List UInt8 → Int → Int → Bool) : Con := bytesMid 1 100000 (fun _ => true) fun ps bs => match ps with | [.c (.int y), .agg [.int E, .int S]] => some (.c (.bool (V y bs E S))) | _ => none
def knH : List SC := .u8 7 :: List.replicate 31 (.u8 0)
section
variable (S : List SC → Int) (W : Int → Int → Int) (SE SS : Int → Int → List UInt8 → Int) (V : Int → List UInt8 → Int → Int → Bool)
def knL : List (Nat × Con) := [(fFrom, fromG S), (fSign, signG W SE SS), (frFrom, rfromG S W), (frSign, rsignG SE SS), (fPub, pubR), (fVer, verG V)]
def knE : Int := SE (S knH) (W 4 (S knH)) [120]
def knS : Int := SS (S knH) (W 4 (S knH)) [120]
def knA : Bool := (knE S W SE == knE S W SE) && ((knS S W SS == knS S W SS) && true)
def knB : Bool := bif knA S W SE SS then V (W 4 (S knH)) [120] (knE S W SE) (knS S W SS) else false
end

theorem kn_lib {S : List SC → Int} {W : Int → Int → Int} {SE SS : Int → Int → List UInt8 → Int} {V : Int → List UInt8 → Int → Int → Bool} (hS : S = scalS) (hW : W = powS) (hE : SE = signEE) (hSS : SS = signSS) (hV : V = verS) : LibOK Try.prog (knL S W SE SS V) := by
  subst hS hW hE hSS hV
  exact LibOK.cons from_ok (LibOK.cons sign_ok (LibOK.cons rfrom_ok (LibOK.cons rsign_ok (LibOK.cons pubR_ok (LibOK.cons ver_ok (LibOK.nil _))))))
abbrev fKnown4 : Nat := 16
theorem known_gen (w : World) {S : List SC → Int} {W : Int → Int → Int} {SE SS : Int → Int → List UInt8 → Int} {V : Int → List UInt8 → Int → Int → Bool} (hS : S = scalS) (hW : W = powS) (hE : SE = signEE) (hSS : SS = signSS) (hV : V = verS)
    (hB : knB S W SE SS V = true) (hA : knA S W SE SS = true) : Sx.Fn Try.prog fKnown4 (atW w 0) [] [] 0 fun r _ => r = .c (.bool true) :=
  Fn.xv (fuel := 1000) (told := [true, true]) (kn_lib hS hW hE hSS hV) Sp.mixed (r := .c (.bool (knB S W SE SS V))) (ob := gg (knA S W SE SS) (gg (knA S W SE SS) (gg (knA S W SE SS) (gg (knA S W SE SS) (gg (knA S W SE SS) (gg (knA S W SE SS) true)))))) (obs := []) (by kernel_rfl) (by rw [hA]; rfl) trivial (by rw [hB])
theorem known_A {S : List SC → Int} {W : Int → Int → Int} {SE SS : Int → Int → List UInt8 → Int} : knA S W SE SS = true := by unfold knA; simp
theorem known_B {S : List SC → Int} {W : Int → Int → Int} {SE SS : Int → Int → List UInt8 → Int} {V : Int → List UInt8 → Int → Int → Bool} (hS : S = scalS) (hW : W = powS) (hE : SE = signEE) (hSS : SS = signSS) (hV : V = verS) : knB S W SE SS V = true := by
  unfold knB
  rw [known_A, cond_true]
  unfold knE knS
  generalize knH = cs
  subst hS hW hE hSS hV
  obtain ⟨x, hx, hx0, hxQ⟩ := scal_nat cs
  rw [hx]
  exact sign_holds hx0 hxQ [120]
def knownC : Con := pureCon fun | [] => some (.c (.bool true)) | _ => none
theorem known_ok : ConOK Try.prog fKnown4 knownC := by
  refine pureCon_ok (fn := Try.f16) (by kernel_rfl) rfl rfl fun args v h => ?_
  split at h <;> try (cases h; done)
  simp only [Option.some.injEq] at h; subst h
  exact ⟨rfl, rfl, fun w => known_gen w rfl rfl rfl rfl rfl (known_B rfl rfl rfl rfl rfl) known_A⟩
theorem sg_lib : LibOK Try.prog [(fFrom, fromC), (frFrom, rfromC), (fSign, signC), (frSign, rsignC), (fVer, verC), (frVer, verC), (fKnown4, knownC)] := LibOK.cons from_ok (LibOK.cons rfrom_ok (LibOK.cons sign_ok (LibOK.cons rsign_ok (LibOK.cons ver_ok (LibOK.cons rver_ok (LibOK.cons known_ok (LibOK.nil _)))))))

theorem take32 {hs : List UInt8} (h : hs.length = 32) : (hs.map SC.u8).take 32 = hs.map SC.u8 := List.take_of_length_le (by simp [h])
theorem h32_of {hs : List UInt8} (h : hs.length = 32) : h32 (hs.map SC.u8) = true := by
  unfold h32
  rw [isU8s, List.length_map, h]; rfl
theorem sole_of (hs : List UInt8) : (hs.map SC.u8).all SC.sole = true := soleU (isU8s hs)

section
variable (cs : List SC) (off n : Nat) (b : Blk)
def sF (cs : List SC) : Bool := ((cs.take 32).all SC.sole && true) && h32 (cs.take 32)
def rowOk5 : Bool := (Nat.ble (off + n * 1) b.cells.length && true) && ((rd off n b).all SC.isU8 && Nat.ble n 100000)
def sX : Int := scalS (cs.take 32)
def sE : Int := signEE (sX cs) (powS 4 (sX cs)) (rdB off n b)
def sS : Int := signSS (sX cs) (powS 4 (sX cs)) (rdB off n b)
def sA1 : Bool := (sE cs off n b == sE cs off n b) && ((sS cs off n b == sS cs off n b) && true)
def sA2 : Bool := bif sA1 cs off n b then decide (sE cs off n b ≥ 0) else false
def sA3 : Bool := bif sA2 cs off n b then decide (sE cs off n b < 1073741789) else false
def sA4 : Bool := bif sA3 cs off n b then decide (sS cs off n b ≥ 0) else false
def sA5 : Bool := bif sA4 cs off n b then decide (sS cs off n b < 1073741789) else false
def sA6 : Bool := bif sA5 cs off n b then verS (powS 4 (sX cs)) (rdB off n b) (sE cs off n b) (sS cs off n b) else false
def sOb : Bool := gg (sA6 cs off n b) (gi (sA5 cs off n b) (rowOk5 off n b) (gg (sA5 cs off n b) (g3 (sA5 cs off n b) (g3 (sA4 cs off n b) (g3 (sA3 cs off n b) (g3 (sA2 cs off n b) (g3 (sA1 cs off n b) (bnd (bnd (bnd (bnd (bnd (bnd (bnd true (!decide ((n : Int) > 1000))) (Nat.ble (0 + 32) cs.length)) (sF cs)) (Nat.ble (0 + 32) cs.length)) (h32 (cs.take 32))) (rowOk5 off n b)) (rowOk5 off n b)))))))))
end

theorem sF_eq {hs : List UInt8} (h : hs.length = 32) : sF (hs.map SC.u8) = true := by
  unfold sF
  rw [take32 h, h32_of h, sole_of]; rfl
theorem rowOk5_eq {off : Nat} {b : Blk} {bs : List UInt8} (h : RowB off b bs) (hm : bs.length ≤ 100000) : rowOk5 off bs.length b = true := by
  unfold rowOk5
  rw [rd_eq h, isU8s]
  have := h.len
  simp only [Bool.and_eq_true, Nat.ble_eq, and_true, true_and]
  omega
/-- A signature is what it must be. -/
theorem s_nat (cs : List SC) {off : Nat} {b : Blk} {bs : List UInt8} (h : RowB off b bs) : (0 ≤ sE cs off bs.length b ∧ sE cs off bs.length b < 1073741789) ∧ (0 ≤ sS cs off bs.length b ∧ sS cs off bs.length b < 1073741789) ∧ verS (powS 4 (sX cs)) bs (sE cs off bs.length b) (sS cs off bs.length b) = true := by
  obtain ⟨x, hx, hx0, hxQ⟩ := scal_nat (cs.take 32)
  have hX : sX cs = (x : Int) := hx
  obtain ⟨n, e, _, _, he, heQ, hs⟩ := sign_nat hxQ (powS 4 (x : Int)) bs
  have hv := sign_holds hx0 hxQ bs
  have hm : (n + e * x) % prQ < prQ := Nat.mod_lt _ (by decide)
  have hQ : prQ = 1073741789 := rfl
  unfold sE sS
  rw [hX, rdB_eq h]
  rw [he, hs] at hv ⊢
  exact ⟨by omega, by omega, hv⟩
theorem signSigns_fn (hs : List UInt8) {bs : List UInt8} (w : World) (hh' : hs.length = 32) {off : Nat} {b : Blk} (h : RowB off b bs) : Sx.Fn Try.prog 3 (atW w 0) [.agg (hs.map SC.u8), .c (.slc 0 off 1 bs.length none)] [(0, some b)] 1 fun r _ => r = .c (.bool true) := by
  by_cases hA : (bs.length : Int) > 1000
  · exact Fn.xv (fuel := 1000) (told := [true]) sg_lib Sp.mixed (r := .c (.bool true)) (ob := bnd true (decide ((bs.length : Int) > 1000))) (obs := []) (by kernel_rfl) (by rw [decide_eq_true hA]; rfl) trivial rfl
  obtain ⟨⟨e0, e1⟩, ⟨s0, s1⟩, hv⟩ := s_nat (hs.map SC.u8) h
  have a1 : sA1 (hs.map SC.u8) off bs.length b = true := by unfold sA1; simp
  have a2 : sA2 (hs.map SC.u8) off bs.length b = true := by unfold sA2; rw [a1]; exact decide_eq_true e0
  have a3 : sA3 (hs.map SC.u8) off bs.length b = true := by unfold sA3; rw [a2]; exact decide_eq_true e1
  have a4 : sA4 (hs.map SC.u8) off bs.length b = true := by unfold sA4; rw [a3]; exact decide_eq_true s0
  have a5 : sA5 (hs.map SC.u8) off bs.length b = true := by unfold sA5; rw [a4]; exact decide_eq_true s1
  have a6 : sA6 (hs.map SC.u8) off bs.length b = true := by unfold sA6; rw [a5, rdB_eq h]; exact hv
  exact Fn.xv (fuel := 1000) (told := [false, false, true, true, true, true, true, true]) sg_lib Sp.mixed (r := .c (.bool (bif sA6 (hs.map SC.u8) off bs.length b then true else false))) (ob := sOb (hs.map SC.u8) off bs.length b) (obs := []) (by kernel_rfl) (by
    unfold sOb g3 gi gg
    rw [a1, a2, a3, a4, a5, a6, sF_eq hh', rowOk5_eq h (by omega), decide_eq_false hA, take32 hh', h32_of hh', List.length_map, hh']; rfl) trivial (by rw [a6]; rfl)

def hA (y : Int) (off n : Nat) (b : Blk) (E S : Int) : Bool := verS y (rdB off n b) E S == verS y (rdB off n b) E S


theorem signHolds_fn (y E S : Int) {bs : List UInt8} (w : World) {off : Nat} {b : Blk} (h : RowB off b bs) : Sx.Fn Try.prog 4 (atW w 0) [.c (.int y), .c (.slc 0 off 1 bs.length none), .agg [.int E, .int S]] [(0, some b)] 1 fun r _ => r = .c (.bool true) := by
  by_cases hn : (bs.length : Int) > 1000
  · exact Fn.xv (fuel := 1000) (told := [true]) sg_lib Sp.mixed (r := .c (.bool true)) (ob := bnd true (decide ((bs.length : Int) > 1000))) (obs := []) (by kernel_rfl) (by rw [decide_eq_true hn]; rfl) trivial rfl
  have a1 : hA y off bs.length b E S = true := by unfold hA; simp
  exact Fn.xv (fuel := 1000) (told := [false, true]) sg_lib Sp.mixed (r := .c (.bool (bif hA y off bs.length b E S then true else false))) (ob := gg (hA y off bs.length b E S) (bnd (bnd (bnd true (!decide ((bs.length : Int) > 1000))) (rowOk5 off bs.length b)) (rowOk5 off bs.length b))) (obs := []) (by kernel_rfl) (by
    unfold gg
    rw [a1, rowOk5_eq h (by omega), decide_eq_false hn]; rfl) trivial (by rw [a1]; rfl)

/-! Nobody's. -/
def signNil : Con := bytesCon 100000 fun ps bs => match ps with | [.c .nilp] => some (.agg [.int 0, .int 0]) | _ => none
theorem signNil_ok : ConOK Try.prog fSign signNil := by
  refine bytesCon_ok (fn := Try.f13) (by kernel_rfl) rfl rfl fun ps bs v h => ?_
  split at h <;> try (cases h; done)
  simp only [Option.some.injEq] at h; subst h
  exact ⟨rfl, fun w off b hb hl => Fn.xv (fuel := 1000) (told := []) (LibOK.nil _) Sp.mixed (r := .agg [.int 0, .int 0]) (ob := true) (obs := []) (by kernel_rfl) rfl trivial rfl⟩
theorem signOfNothing_fn {bs : List UInt8} (w : World) {off : Nat} {b : Blk} (h : RowB off b bs) : Sx.Fn Try.prog 7 (atW w 0) [.c (.slc 0 off 1 bs.length none)] [(0, some b)] 1 fun r _ => r = .c (.bool true) := by
  by_cases hn : (bs.length : Int) > 500
  · exact Fn.xv (fuel := 1000) (told := [true]) (LibOK.nil _) Sp.mixed (r := .c (.bool true)) (ob := bnd true (decide ((bs.length : Int) > 500))) (obs := []) (by kernel_rfl) (by rw [decide_eq_true hn]; rfl) trivial rfl
  exact Fn.xv (fuel := 1000) (told := [false]) (LibOK.cons signNil_ok (LibOK.cons known_ok (LibOK.nil _))) Sp.mixed (r := .c (.bool true)) (ob := bnd (bnd true (!decide ((bs.length : Int) > 500))) (rowOk5 off bs.length b)) (obs := []) (by kernel_rfl) (by
    rw [rowOk5_eq h (by omega), decide_eq_false hn]; rfl) trivial rfl

def hh (x g : Bool) (acc : Bool) : Bool := bnd (bnd acc (x == g && true)) (x == g && true)
section
variable (cs : List SC) (off n : Nat) (b : Blk) (t : Int)
def tD1 (n : Nat) : Bool := decide ((n : Int) > 500)
def tD2 (n : Nat) (t : Int) : Bool := bif tD1 n then true else decide (t < 1)
def tD3 (n : Nat) (t : Int) : Bool := bif tD2 n t then true else decide (t ≥ 1073741789)
def tS : Int := (IntKind.i64.wrap (sS cs off n b + t)).tmod 1073741789
def tV (S : Int) : Bool := verS (powS 4 (sX cs)) (rdB off n b) (sE cs off n b) S
def tT1 : Bool := tV cs off n b (tS cs off n b t) == tV cs off n b (tS cs off n b t)
def tT2 : Bool := bif tT1 cs off n b t then tV cs off n b (sS cs off n b) else false
def tPre (acc : Bool) : Bool := bnd (bnd (bnd acc (Nat.ble (0 + 32) cs.length)) (h32 (cs.take 32))) (rowOk5 off n b)
def tOb : Bool := gg (tT2 cs off n b t) (gi (tT1 cs off n b t) (rowOk5 off n b) (gg (tT1 cs off n b t) (g3 (tT1 cs off n b t) (bnd (bnd (tPre cs off n b (bnd (hh (tD2 n t) false (hh (tD1 n) false true)) (!tD3 n t))) (rowOk5 off n b)) (rowOk5 off n b)))))
end

theorem tPre_eq {hs bs : List UInt8} {off : Nat} {b : Blk} (hh' : hs.length = 32) (h : RowB off b bs) (hl : bs.length ≤ 100000) : tPre (hs.map SC.u8) off bs.length b true = true := by
  unfold tPre
  rw [rowOk5_eq h hl, take32 hh', h32_of hh', List.length_map, hh']; rfl
theorem hh_false : hh false false true = true := rfl
theorem bnd_tt : bnd true (!false) = true := rfl
theorem signTurned_fn (hs : List UInt8) {bs : List UInt8} (t : Int) (w : World) (hh' : hs.length = 32) {off : Nat} {b : Blk} (h : RowB off b bs) : Sx.Fn Try.prog 5 (atW w 0) [.agg (hs.map SC.u8), .c (.slc 0 off 1 bs.length none), .c (.int t)] [(0, some b)] 1 fun r _ => r = .c (.bool true) := by
  cases d1 : tD1 bs.length with
  | true => exact Fn.xv (fuel := 1000) (told := [true]) sg_lib Sp.mixed (r := .c (.bool true)) (ob := bnd (hh (tD1 bs.length) true true) (tD1 bs.length)) (obs := []) (by kernel_rfl) (by rw [d1]; rfl) trivial rfl
  | false =>
  cases d2 : tD2 bs.length t with
  | true => exact Fn.xv (fuel := 1000) (told := [false, true]) sg_lib Sp.mixed (r := .c (.bool true)) (ob := bnd (hh (tD2 bs.length t) true (hh (tD1 bs.length) false true)) (tD2 bs.length t)) (obs := []) (by kernel_rfl) (by rw [d1, d2]; rfl) trivial rfl
  | false =>
  cases d3 : tD3 bs.length t with
  | true => exact Fn.xv (fuel := 1000) (told := [false, false, true]) sg_lib Sp.mixed (r := .c (.bool true)) (ob := bnd (hh (tD2 bs.length t) false (hh (tD1 bs.length) false true)) (tD3 bs.length t)) (obs := []) (by kernel_rfl) (by rw [d1, d2, d3]; rfl) trivial rfl
  | false =>
  have hl : bs.length ≤ 500 := by simp only [tD1, decide_eq_false_iff_not] at d1; omega
  obtain ⟨_, _, hv⟩ := s_nat (hs.map SC.u8) h
  have t1 : tT1 (hs.map SC.u8) off bs.length b t = true := by unfold tT1; simp
  have t2 : tT2 (hs.map SC.u8) off bs.length b t = true := by unfold tT2 tV; rw [t1, rdB_eq h]; exact hv
  exact Fn.xv (fuel := 1000) (told := [false, false, false, true, true]) sg_lib Sp.mixed (r := .c (.bool (bif tT2 (hs.map SC.u8) off bs.length b t then true else false))) (ob := tOb (hs.map SC.u8) off bs.length b t) (obs := []) (by kernel_rfl) (by
    unfold tOb g3 gi gg
    rw [t1, t2, d1, d2, d3, hh_false, hh_false, bnd_tt, tPre_eq hh' h (by omega), rowOk5_eq h (by omega)]; rfl) trivial (by rw [t2]; rfl)

section
variable (cs : List SC) (off n : Nat) (b : Blk) (y E S : Int)
def bD2 (n : Nat) (t : Int) : Bool := bif tD1 n then true else decide (t < 0)
def bD3 (n : Nat) (t : Int) : Bool := bif bD2 n t then true else decide (t > 4)
def bT : Bool := !verS y (rdB off n b) E S
def bOb (acc : Bool) : Bool := gg (bT off n b y E S) (bnd (tPre cs off n b acc) (rowOk5 off n b))
end

theorem bounds_fn (hs : List UInt8) {bs : List UInt8} (t : Int) (told : List Bool) (y E S : Int) (w : World) (hh' : hs.length = 32) {off : Nat} {b : Blk} (h : RowB off b bs) (hl : bs.length ≤ 500) (d2 : bD2 bs.length t = false) (d3 : bD3 bs.length t = false)
    (hk : (xfun Try.prog [(fFrom, fromC), (frFrom, rfromC), (fSign, signC), (frSign, rsignC), (fVer, verC), (frVer, verC), (fKnown4, knownC)] 1000 6 [.agg (hs.map SC.u8), .c (.slc 0 off 1 bs.length none), .c (.int t)] [(0, some b)] 1 told).map (fun q => (q.1, q.2.1, q.2.2.1)) =
      some (bOb (hs.map SC.u8) off bs.length b y E S (bnd (hh (bD2 bs.length t) false (hh (tD1 bs.length) false true)) (!bD3 bs.length t)), [], .c (.bool (bif bT off bs.length b y E S then true else false)))) (hv : verS y bs E S = false) :
    Sx.Fn Try.prog 6 (atW w 0) [.agg (hs.map SC.u8), .c (.slc 0 off 1 bs.length none), .c (.int t)] [(0, some b)] 1 fun r _ => r = .c (.bool true) := by
  have hb : bT off bs.length b y E S = true := by unfold bT; rw [rdB_eq h, hv]; rfl
  have d1 : tD1 bs.length = false := by unfold tD1; exact decide_eq_false (by omega)
  refine Fn.xv sg_lib Sp.mixed hk ?_ trivial (by rw [hb]; rfl)
  unfold bOb gg
  rw [hb, d1, d2, d3, hh_false, hh_false, bnd_tt, tPre_eq hh' h (by omega), rowOk5_eq h (by omega)]; rfl
theorem ver_badE {y E S : Int} (bs : List UInt8) (h : inQ E = false) : verS y bs E S = false := by
  unfold verS vC vB
  rw [h]
  cases vA y <;> rfl
theorem ver_badS {y E S : Int} (bs : List UInt8) (h : inQ S = false) : verS y bs E S = false := by
  unfold verS vC
  rw [h]
  cases vB y E <;> rfl
theorem ver_badY {y E S : Int} (bs : List UInt8) (h : isS y = false) : verS y bs E S = false := by
  unfold verS vC vB vA
  rw [h]; rfl
theorem inQ_no {a : Int} (h : ¬ (0 ≤ a ∧ a < 1073741789)) : inQ a = false := by
  cases hq : inQ a with
  | true => exact absurd (inQ_iff.1 hq) h
  | false => rfl
theorem isS_no {y : Int} (h : ¬ (y > 1 ∧ y < 2147483579)) : isS y = false := by
  unfold isS
  by_cases h1 : y > 1
  · rw [decide_eq_true h1, cond_true, decide_eq_false (by omega)]; rfl
  · rw [decide_eq_false h1]; rfl
theorem signBounds_fn (hs : List UInt8) {bs : List UInt8} (t : Int) (w : World) (hh' : hs.length = 32) {off : Nat} {b : Blk} (h : RowB off b bs) : Sx.Fn Try.prog 6 (atW w 0) [.agg (hs.map SC.u8), .c (.slc 0 off 1 bs.length none), .c (.int t)] [(0, some b)] 1 fun r _ => r = .c (.bool true) := by
  cases d1 : tD1 bs.length with
  | true => exact Fn.xv (fuel := 1000) (told := [true]) sg_lib Sp.mixed (r := .c (.bool true)) (ob := bnd (hh (tD1 bs.length) true true) (tD1 bs.length)) (obs := []) (by kernel_rfl) (by rw [d1]; rfl) trivial rfl
  | false =>
  cases d2 : bD2 bs.length t with
  | true => exact Fn.xv (fuel := 1000) (told := [false, true]) sg_lib Sp.mixed (r := .c (.bool true)) (ob := bnd (hh (bD2 bs.length t) true (hh (tD1 bs.length) false true)) (bD2 bs.length t)) (obs := []) (by kernel_rfl) (by rw [d1, d2]; rfl) trivial rfl
  | false =>
  cases d3 : bD3 bs.length t with
  | true => exact Fn.xv (fuel := 1000) (told := [false, false, true]) sg_lib Sp.mixed (r := .c (.bool true)) (ob := bnd (hh (bD2 bs.length t) false (hh (tD1 bs.length) false true)) (bD3 bs.length t)) (obs := []) (by kernel_rfl) (by rw [d1, d2, d3]; rfl) trivial rfl
  | false =>
  have hl : bs.length ≤ 500 := by simp only [tD1, decide_eq_false_iff_not] at d1; omega
  have ht : 0 ≤ t ∧ t ≤ 4 := by
    have h2 := d2
    have h3 := d3
    unfold bD3 at h3
    rw [d2, cond_false, decide_eq_false_iff_not] at h3
    unfold bD2 at h2
    rw [d1, cond_false, decide_eq_false_iff_not] at h2
    omega
  obtain ⟨⟨e0, e1⟩, ⟨s0, s1⟩, hv⟩ := s_nat (hs.map SC.u8) h
  obtain ⟨x, hx, hx0, hxQ⟩ := scal_nat ((hs.map SC.u8).take 32)
  have hX : sX (hs.map SC.u8) = (x : Int) := hx
  have hy : powS 4 (sX (hs.map SC.u8)) = ((4 ^ x % prP : Nat) : Int) := by rw [hX, pub_nat hxQ]
  have hyP : 4 ^ x % prP < 2147483579 := Nat.mod_lt _ (by decide)
  have hcase : t = 0 ∨ t = 1 ∨ t = 2 ∨ t = 3 ∨ t = 4 := by omega
  rcases hcase with rfl | rfl | rfl | rfl | rfl
  · exact bounds_fn hs 0 [false, false, false, true, true] (powS 4 (sX (hs.map SC.u8))) (sE (hs.map SC.u8) off bs.length b) (IntKind.i64.wrap (sS (hs.map SC.u8) off bs.length b + 1073741789)) w hh' h hl d2 d3 (by kernel_rfl) (ver_badS bs (inQ_no (by rw [IntKind.wrap_i64]; omega)))
  · exact bounds_fn hs 1 [false, false, false, false, true, true] (powS 4 (sX (hs.map SC.u8))) (IntKind.i64.wrap (sE (hs.map SC.u8) off bs.length b + 1073741789)) (sS (hs.map SC.u8) off bs.length b) w hh' h hl d2 d3 (by kernel_rfl) (ver_badE bs (inQ_no (by rw [IntKind.wrap_i64]; omega)))
  · exact bounds_fn hs 2 [false, false, false, false, false, true, true] (powS 4 (sX (hs.map SC.u8))) (sE (hs.map SC.u8) off bs.length b) (IntKind.i64.wrap (sS (hs.map SC.u8) off bs.length b - 1073741789)) w hh' h hl d2 d3 (by kernel_rfl) (ver_badS bs (inQ_no (by rw [IntKind.wrap_i64]; omega)))
  · exact bounds_fn hs 3 [false, false, false, false, false, false, true, true] (IntKind.i64.wrap (powS 4 (sX (hs.map SC.u8)) + 2147483579)) (sE (hs.map SC.u8) off bs.length b) (sS (hs.map SC.u8) off bs.length b) w hh' h hl d2 d3 (by kernel_rfl) (ver_badY bs (isS_no (by rw [hy, IntKind.wrap_i64]; omega)))
  · exact bounds_fn hs 4 [false, false, false, false, false, false, false, true] 1 (sE (hs.map SC.u8) off bs.length b) (sS (hs.map SC.u8) off bs.length b) w hh' h hl d2 d3 (by kernel_rfl) (ver_badY bs (isS_no (by omega)))

end Go.Proofs.Ytionkonamhbjoaa.Sg
