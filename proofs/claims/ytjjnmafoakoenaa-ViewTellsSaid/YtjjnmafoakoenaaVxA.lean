/-
  Of any view whether it may be, its sum; any operations as bytes.
-/
import Derived.Test.YtjjnmafoakoenaaVwY
import Derived.Test.YtjjnmafoakoenaaVwZ
namespace Go.Proofs.Ytjjnmafoakoenaa.Vw
open Go.RowKit Go.Proofs.Ytjjnmafoakoenaa.Sx Go.Proofs.Ytjjnmafoakoenaa.Pw
set_option linter.unusedVariables false
set_option linter.unusedSimpArgs false
set_option maxRecDepth 10000

abbrev fTells : Nat := 13
abbrev tlL (V : Vi → Bool) (H : Vi → Sp.H4): List (Nat × Con) := [(fVIs, viC fun v => .c (.bool (V v))), (frVIs, viC fun v => .c (.bool (V v))), (fVHash, viC fun v => .agg (Sp.hc (H v))), (frVHash, viC fun v => .agg (Sp.hc (H v))), (fOps, opsBC), (frOps, opsBC), (fKnown, knownC)]
theorem tlL_ok : LibOK Try.prog (tlL isVS vhS) := LibOK.cons vIs_ok (LibOK.cons rvIs_ok (LibOK.cons vh_ok (LibOK.cons rvh_ok (LibOK.cons opsB_ok (LibOK.cons ropsB_ok (LibOK.cons known_ok (LibOK.nil _)))))))
def eqH (G H : Sp.H4) : Bool := andN (fun i => gU (Sp.hc G) i == gU (Sp.hc H) i) 0 32
def tlO (V : Vi → Bool) (H : Vi → Sp.H4) (v : Vi) (o1 n1 : Nat) (c1 : List SC) (t1 : TypeId) : Bool :=
  tg (cv (40 * n1) (rbO o1 n1 c1 t1) (bnd (cv (40 * n1) (rbO o1 n1 c1 t1) (bnd (tg (tg (tn true (decide ((n1 : Int) > 50))) (V (Vi.of v.cs) == V (Vi.of v.cs)) true) (eqH (H (Vi.of v.cs)) (H (Vi.of v.cs))) true) (opsN (rbO o1 n1 c1 t1)))) (opsN (rbO o1 n1 c1 t1))))
    (sU (40 * n1) (rbO o1 n1 c1 t1) == sU (40 * n1) (rbO o1 n1 c1 t1)) true
theorem tl_1 (V : Vi → Bool) (H : Vi → Sp.H4) (v : Vi) (o1 n1 : Nat) (c1 : List SC) (t1 : TypeId) : (xfunL Try.prog (tlL V H) 1000 fTells [.agg v.cs, .c (.slc 0 o1 5 n1 none)] [(0, some ⟨c1, t1, true, false⟩)] 1 [true]).map (fun q => (q.1, q.2.1, q.2.2.1)) = some (ty_ true (decide ((n1 : Int) > 50)), [], .c (.bool true)) := by kernel_rfl
theorem tl_2 (V : Vi → Bool) (H : Vi → Sp.H4) (v : Vi) (o1 n1 : Nat) (c1 : List SC) (t1 : TypeId) : (xfunL Try.prog (tlL V H) 1000 fTells [.agg v.cs, .c (.slc 0 o1 5 n1 none)] [(0, some ⟨c1, t1, true, false⟩)] 1 [false, true, true, true]).map (fun q => (q.1, q.2.1, q.2.2.1)) = some (tlO V H v o1 n1 c1 t1, [], .c (.bool true)) := by kernel_rfl
theorem viewTells_fn (v : Vi) (r : RB) (hr : RBok r) (ho : okOps r = true) (w : World) : Sx.Fn Try.prog fTells (atW w 0) [.agg v.cs, .c (.slc 0 r.off 5 r.n none)] [(0, some r.b)] 1 fun x _ => x = .c (.bool true) := by
  obtain ⟨o1, n1, c1, t1, tail1, own1⟩ := r
  obtain ⟨hown, htail, hs1⟩ := hr
  simp only at hown htail
  subst hown htail
  have ha : RBok (rbO o1 n1 c1 t1) := ⟨rfl, rfl, hs1⟩
  have oa : okOps (rbO o1 n1 c1 t1) = true := ho
  cases h1 : decide ((n1 : Int) > 50) with
  | true => exact Fn.xvL tlL_ok Sp.mixed [true] (tl_1 isVS vhS v o1 n1 c1 t1) (ty_eq rfl h1) trivial rfl
  | false =>
  have b1 : n1 ≤ 50 := by rw [decide_eq_false_iff_not] at h1; omega
  have hN := opsN_eq ha oa (by show n1 ≤ 1000000; omega)
  refine Fn.xvL tlL_ok Sp.mixed [false, true, true, true] (tl_2 isVS vhS v o1 n1 c1 t1) ?_ trivial rfl
  refine tg_eq (cv_eq (rbO o1 n1 c1 t1) (bnds (cv_eq (rbO o1 n1 c1 t1) (bnds (tg_eq (tg_eq (tn_eq rfl h1) (by simp)) ?_) hN)) hN)) (by simp)
  exact andN_true fun i => by simp

end Go.Proofs.Ytjjnmafoakoenaa.Vw
