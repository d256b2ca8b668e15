/-
  The document's Apply.
-/
import Derived.Test.YtabiknpgakhkkaaVwI
namespace Go.Proofs.Ytabiknpgakhkkaa.Vw
open Go.RowKit Go.Proofs.Ytabiknpgakhkkaa.Sx Go.Proofs.Ytabiknpgakhkkaa.Pw
set_option linter.unusedVariables false
set_option linter.unusedSimpArgs false

abbrev frApp : Nat := 16
abbrev rapL : List (Nat × Con) := [(frVIs, vIsC), (frOwn, isOpC), (frMem, memC), (frAdd, raddW), (frOne, roneW), (frAdm, radmC)]
theorem rapL_ok : LibOK Try.prog rapL := LibOK.cons rvIs_ok (LibOK.cons own_ok (LibOK.cons rmem_ok (LibOK.cons raddW_ok (LibOK.cons roneW_ok (LibOK.cons radm_ok (LibOK.nil _))))))
def rTab (r : RB) (v : Vi) (a g : List SC) : Tab := [(0, some r.b), (1, some ⟨v.cs, tView, false, true⟩), (2, some ⟨zeroV.cs, tView, false, true⟩), (3, some ⟨adC no8, tB8, false, true⟩), (4, some ⟨adC no8, tB8, false, true⟩), (5, some ⟨a, tB8, false, true⟩), (6, some ⟨g, tB8, false, true⟩), (7, some ⟨adC no8, tB8, false, true⟩)]
def la (r : RB) (v : Vi) (f : Int) (b : Bool) (i : Int) : St := ⟨[(1, .c (.int f)), (2, .c (.slc 0 r.off 5 r.n none)), (3, .c (.ptr 1 0)), (6, .c (.ptr 2 0)), (7, .c (.ptr 3 0)), (8, .c (.ptr 4 0)), (9, .c (.int 0)), (10, .c (.ptr 5 0)), (11, .c (.ptr 6 0)), (12, .c (.ptr 7 0)), (13, .c (.bool b)), (14, .c (.int i))], rTab r v (adC no8) (adC no8), 8, 126⟩
def lb (r : RB) (v : Vi) (f : Int) (a g : List SC) (i : Int) : St := ⟨[(1, .c (.int f)), (2, .c (.slc 0 r.off 5 r.n none)), (3, .c (.ptr 1 0)), (6, .c (.ptr 2 0)), (7, .c (.ptr 3 0)), (8, .c (.ptr 4 0)), (9, .c (.int 0)), (10, .c (.ptr 5 0)), (11, .c (.ptr 6 0)), (12, .c (.ptr 7 0)), (15, .c (.int i))], rTab r v a g, 8, 126⟩
def rKeys (a b c d e f g : Nat) : List (Nat × Nat × Bool) := [(0, 0, true), (a, 1, true), (b, 2, true), (c, 3, true), (d, 4, true), (e, 5, true), (f, 6, true), (g, 7, true)]
def laCut (k : List (Nat × Nat × Bool)) : Cut := ⟨[(1, true), (2, false), (3, false), (6, false), (7, false), (8, false), (9, true), (10, false), (11, false), (12, false), (13, true), (14, true)], k, 8⟩
def lbCut : Cut := ⟨[(1, true), (2, false), (3, false), (6, false), (7, false), (8, false), (9, true), (10, false), (11, false), (12, false), (15, true)], rKeys 1 2 3 4 5 6 7, 8⟩
def le4 (n : Nat) : Bool := decide ((n : Int) ≤ 4)
section
variable (off n : Nat) (cells : List SC) (ty : TypeId) (v : Vi) (f : Int)
theorem ra_s1 : stepL Try.prog rapL 0 1000 4 (bodyOf Try.prog frApp) ⟨argTmps [.agg v.cs, .c (.int f), .c (.slc 0 off 5 n none)] 0, [(0, some ⟨cells, ty, true, false⟩)], 1, 126⟩ [false] [] (laCut (rKeys 1 5 9 13 21 25 29)) =
    some (bnd (tg true (isVS (Vi.of v.cs)) false) (pl (rbO off n cells ty)), [], la (rbO off n cells ty) v f false 0) := by kernel_rfl
theorem ra_s2 : stepL Try.prog rapL 0 1000 4 (bodyOf Try.prog frApp) ⟨argTmps [.agg v.cs, .c (.int f), .c (.slc 0 off 5 n none)] 0, [(0, some ⟨cells, ty, true, false⟩)], 1, 126⟩ [true] [] (laCut (rKeys 1 5 9 13 21 25 29)) =
    some (bnd (tg true (isVS (Vi.of v.cs)) true) (pl (rbO off n cells ty)), [], la (rbO off n cells ty) v f (le4 n) 0) := by kernel_rfl
def ltI (n i : Nat) : Bool := decide ((i : Int) < (n : Int))
theorem la_round (b : Bool) (i : Nat) : stepL Try.prog rapL 0 1000 4 (loopB ((bodyOf Try.prog frApp).drop 4)) (la (rbO off n cells ty) v f b i) [true, true] [] (laCut (rKeys 1 2 3 4 5 6 7)) =
    some (bnd (ldO (rbO off n cells ty) i (ty_ (tg true (ltI n i) true) b)) (pl (rbO off n cells ty)), [], la (rbO off n cells ty) v f (opOk (opAt (rbO off n cells ty) i)) (IntKind.i64.wrap ((i : Int) + 1))) := by kernel_rfl
theorem la_out1 (b : Bool) (i : Nat) : exitL Try.prog rapL 0 1000 2 (loopB ((bodyOf Try.prog frApp).drop 4)) (la (rbO off n cells ty) v f b i) [true, false] [] (laCut (rKeys 1 2 3 4 5 6 7)) =
    some (0, bnd (tn (tg true (ltI n i) true) b) (pl (rbO off n cells ty)), [], la (rbO off n cells ty) v f b i) := by kernel_rfl
theorem la_out2 (b : Bool) (i : Nat) : exitL Try.prog rapL 0 1000 2 (loopB ((bodyOf Try.prog frApp).drop 4)) (la (rbO off n cells ty) v f b i) [false, false] [] (laCut (rKeys 1 2 3 4 5 6 7)) =
    some (0, bnd (tg true (ltI n i) false) (pl (rbO off n cells ty)), [], la (rbO off n cells ty) v f b i) := by kernel_rfl
theorem ra_bad (b : Bool) (i : Nat) : (finL Try.prog rapL frApp 1000 100 ((bodyOf Try.prog frApp).drop 5) (la (rbO off n cells ty) v f b i) [true]).map (fun q => (q.1, q.2.1, q.2.2.1)) = some (ty_ true (!b), obs3, resT zeroV no8 no8 1) := by kernel_rfl
theorem ra_who (b : Bool) (i : Nat) : (finL Try.prog rapL frApp 1000 100 ((bodyOf Try.prog frApp).drop 5) (la (rbO off n cells ty) v f b i) [false, true]).map (fun q => (q.1, q.2.1, q.2.2.1)) = some (ty_ (tn true (!b)) (!memI (Vi.of v.cs) f), obs3, resT zeroV no8 no8 6) := by kernel_rfl
theorem ra_go (b : Bool) (i : Nat) : stepL Try.prog rapL 0 1000 5 ((bodyOf Try.prog frApp).drop 5) (la (rbO off n cells ty) v f b i) [false, false] [] lbCut = some (bnd (tn (tn true (!b)) (!memI (Vi.of v.cs) f)) (pl (rbO off n cells ty)), [], lb (rbO off n cells ty) v f (adC no8) (adC no8) 0) := by kernel_rfl
end

def ixB (n i : Nat) : Bool := decide (0 ≤ (i : Int)) && (Nat.blt (i : Int).toNat n && true)
def lk (r : RB) (o : Nat) : Bool := Nat.blt o r.b.cells.length && isI r.b.cells o
def l2 (r : RB) (o : Nat) : Bool := Nat.ble (o + 2) r.b.cells.length && (isI r.b.cells o && (isI r.b.cells (o + 1) && true))
def kOk (k : Int) : Bool := decide (0 ≤ k) && Nat.blt k.toNat 8
def kB (k : Int) : Nat := 0 + k.toNat * 1
def kLd (a : List SC) (k : Int) : Bool := Nat.blt (kB k) 8 && (a.getD (kB k) .nilp).isBool
def kAt (a : List SC) (k : Int) : Bool := (a.getD (kB k) .nilp).asBool
def addQ (v : Vi) (o : Ope) : (Int × Int) × Vi := raddR (Vi.of v.cs) o.sg o.sl
def c3 (r : RB) (i : Nat) : Bool := bnd (bnd (ty_ true (ltI r.n i)) (ixB r.n i)) (lk r (r.off + i * 5))
def addC1 (r : RB) (v : Vi) (ad : Nat → Bool) (i : Nat) (b : Bool) : Bool :=
  bnd (bnd (tg (bnd (bnd (bnd (bnd (ty_ (c3 r i) ((opAt r i).kind == 1)) (ixB r.n i)) (l2 r (r.off + i * 5 + 3))) (kOk (addQ v (opAt r i)).1.1)) (kLd (adC ad) (addQ v (opAt r i)).1.1)) (kAt (adC ad) (addQ v (opAt r i)).1.1) b) (kOk (addQ v (opAt r i)).1.1)) (Nat.ble (kB (addQ v (opAt r i)).1.1 + 1) 8)
def pl2 (r : RB) (a : List SC) : Bool := r.b.cells.all SC.plain && (a.all SC.plain && true)
def l5 (r : RB) (i : Nat) : Bool := Nat.ble (r.off + i * 5 + 5) r.b.cells.length && (isI r.b.cells (r.off + i * 5) && (isI r.b.cells (r.off + i * 5 + 1) && (isI r.b.cells (r.off + i * 5 + 1 + 1) && (isI r.b.cells (r.off + i * 5 + 1 + 1 + 1) && (isI r.b.cells (r.off + i * 5 + 1 + 1 + 1 + 1) && true)))))
def oneQ (v : Vi) (f : Int) (o : Ope) : Int × Vi := roneR (Vi.of v.cs) f o
def oneC1 (r : RB) (v : Vi) (f : Int) (i : Nat) (b : Bool) : Bool := tg (bnd (bnd (tn (c3 r i) ((opAt r i).kind == 1)) (ixB r.n i)) (l5 r i)) ((oneQ v f (opAt r i)).1 == 0) b
def oneC2 (r : RB) (v : Vi) (f : Int) (i : Nat) : Bool := bnd (bnd (oneC1 r v f i true) (ixB r.n i)) (lk r (r.off + i * 5))
def w8 (k : Int) : Bool := Nat.ble (kB k + 1) 8
def oneC3 (r : RB) (v : Vi) (f : Int) (i : Nat) : Bool :=
  bnd (bnd (bnd (bnd (bnd (bnd (bnd (bnd (bnd (ty_ (oneC2 r v f i) ((opAt r i).kind == 2)) (ixB r.n i)) (lk r (r.off + i * 5 + 1))) (ixB r.n i)) (lk r (r.off + i * 5 + 1))) (kOk (opAt r i).who)) (w8 (opAt r i).who)) (kOk (opAt r i).who)) (w8 (opAt r i).who)) (lk r (r.off + i * 5 + 1))
def pl3 (r : RB) (a g : List SC) : Bool := r.b.cells.all SC.plain && (a.all SC.plain && (g.all SC.plain && true))
section
variable (off n : Nat) (cells : List SC) (ty : TypeId) (v : Vi) (f : Int) (ad gn : Nat → Bool) (i : Nat)
theorem rp_add (b : Bool) (X : Bool) (hX : X = bif b then true else (addQ v (opAt (rbO off n cells ty) i)).1.2 == 0) : stepL Try.prog rapL 0 1000 4 (loopB ((bodyOf Try.prog frApp).drop 10)) (lb (rbO off n cells ty) v f (adC ad) (adC gn) i) [true, true, b, false] [] lbCut =
  some (bnd (tn (addC1 (rbO off n cells ty) v ad i b) ((addQ v (opAt (rbO off n cells ty) i)).1.2 != 0)) (pl2 (rbO off n cells ty) (setRange (adC ad) (kB (addQ v (opAt (rbO off n cells ty) i)).1.1) [.bool X])), [],
    lb (rbO off n cells ty) (addQ v (opAt (rbO off n cells ty) i)).2 f (setRange (adC ad) (kB (addQ v (opAt (rbO off n cells ty) i)).1.1) [.bool X]) (adC gn) (IntKind.i64.wrap ((i : Int) + 1))) := by
  subst hX
  cases b
  · kernel_rfl
  · kernel_rfl
theorem rp_add_no (b : Bool) : retL Try.prog rapL frApp 1000 4 (loopB ((bodyOf Try.prog frApp).drop 10)) (lb (rbO off n cells ty) v f (adC ad) (adC gn) i) [true, true, b, true] =
  some (ty_ (addC1 (rbO off n cells ty) v ad i b) ((addQ v (opAt (rbO off n cells ty) i)).1.2 != 0), obs3, resT zeroV no8 no8 (addQ v (opAt (rbO off n cells ty) i)).1.2) := by
  cases b
  · kernel_rfl
  · kernel_rfl
theorem rp_one_no : retL Try.prog rapL frApp 1000 4 (loopB ((bodyOf Try.prog frApp).drop 10)) (lb (rbO off n cells ty) v f (adC ad) (adC gn) i) [true, false, false, false, true] =
  some (ty_ (oneC1 (rbO off n cells ty) v f i false) ((oneQ v f (opAt (rbO off n cells ty) i)).1 != 0), obs3, resT zeroV no8 no8 (oneQ v f (opAt (rbO off n cells ty) i)).1) := by kernel_rfl
theorem rp_one : stepL Try.prog rapL 0 1000 4 (loopB ((bodyOf Try.prog frApp).drop 10)) (lb (rbO off n cells ty) v f (adC ad) (adC gn) i) [true, false, true, false, false] [] lbCut =
  some (bnd (tn (tn (oneC2 (rbO off n cells ty) v f i) ((opAt (rbO off n cells ty) i).kind == 2)) ((oneQ v f (opAt (rbO off n cells ty) i)).1 != 0)) (pl (rbO off n cells ty)), [], lb (rbO off n cells ty) (oneQ v f (opAt (rbO off n cells ty) i)).2 f (adC ad) (adC gn) (IntKind.i64.wrap ((i : Int) + 1))) := by kernel_rfl
theorem rp_rem : stepL Try.prog rapL 0 1000 4 (loopB ((bodyOf Try.prog frApp).drop 10)) (lb (rbO off n cells ty) v f (adC ad) (adC gn) i) [true, false, true, true, false] [] lbCut =
  some (bnd (tn (oneC3 (rbO off n cells ty) v f i) ((oneQ v f (opAt (rbO off n cells ty) i)).1 != 0)) (pl3 (rbO off n cells ty) (setRange (adC ad) (kB (opAt (rbO off n cells ty) i).who) [.bool false]) (setRange (adC gn) (kB (opAt (rbO off n cells ty) i).who) [.bool true])), [SV.c (.int (opAt (rbO off n cells ty) i).who) = SV.c (.int (opAt (rbO off n cells ty) i).who)],
    lb (rbO off n cells ty) (oneQ v f (opAt (rbO off n cells ty) i)).2 f (setRange (adC ad) (kB (opAt (rbO off n cells ty) i).who) [.bool false]) (setRange (adC gn) (kB (opAt (rbO off n cells ty) i).who) [.bool true]) (IntKind.i64.wrap ((i : Int) + 1))) := by kernel_rfl
theorem rp_out : exitL Try.prog rapL 0 1000 2 (loopB ((bodyOf Try.prog frApp).drop 10)) (lb (rbO off n cells ty) v f (adC ad) (adC gn) n) [false] [] lbCut =
    some (2, bnd (tn true (ltI n n)) (pl (rbO off n cells ty)), [], lb (rbO off n cells ty) v f (adC ad) (adC gn) n) := by kernel_rfl
def cntLt (v : Vi) : Bool := decide (cnt (Vi.of v.cs) 8 < v.k)
theorem rp_end1 : (finL Try.prog rapL frApp 1000 100 ((bodyOf Try.prog frApp).drop 11) (lb (rbO off n cells ty) v f (adC ad) (adC gn) n) [true]).map (fun q => (q.1, q.2.1, q.2.2.1)) = some (ty_ true (cntLt v), obs3, resT zeroV no8 no8 7) := by kernel_rfl
theorem rp_end2 : (finL Try.prog rapL frApp 1000 100 ((bodyOf Try.prog frApp).drop 11) (lb (rbO off n cells ty) v f (adC ad) (adC gn) n) [false]).map (fun q => (q.1, q.2.1, q.2.2.1)) = some (tn true (cntLt v), [AA ad, AA gn, AA gn], resT v ad gn 0) := by kernel_rfl
end

end Go.Proofs.Ytabiknpgakhkkaa.Vw
