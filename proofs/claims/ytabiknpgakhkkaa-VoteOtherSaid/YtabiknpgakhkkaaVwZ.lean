/-
  Sums of trees and views.
-/
import Derived.Test.YtabiknpgakhkkaaVwX
namespace Go.Proofs.Ytabiknpgakhkkaa.Vw
open Go.RowKit Go.Proofs.Ytabiknpgakhkkaa.Sx Go.Proofs.Ytabiknpgakhkkaa.Pw
set_option linter.unusedVariables false
set_option linter.unusedSimpArgs false
set_option maxRecDepth 10000

/-! Trees. -/
abbrev fTHash : Nat := 59
abbrev frTHash : Nat := 61
abbrev frBytes : Nat := 78
abbrev tHash : Nat := 31
def trInts (t : Tr) : List Int := [t.sg 0, t.sl 0, t.sg 1, t.sl 1, t.sg 2, t.sl 2, t.sg 3, t.sl 3, t.sg 4, t.sl 4, t.sg 5, t.sl 5, t.sg 6, t.sl 6, t.sg 7, t.sl 7, t.nd 0, t.nd 1, t.nd 2, t.nd 3, t.nd 4, t.nd 5, t.nd 6, t.nd 7, t.nd 8, t.nd 9, t.nd 10, t.nd 11, t.nd 12, t.nd 13, t.nd 14]
def trBy (t : Tr) : List UInt8 := numsBy (trInts t)
def thS (t : Tr) : Sp.H4 := Sp.deriveS (List.replicate 32 0) [116, 114, 101, 101] (trBy t)
abbrev thL : List (Nat × Con) := [(fNum, numC), (Sp.fDer, Sp.derC)]
theorem thL_ok : LibOK Try.prog thL := LibOK.cons num_ok (LibOK.cons Sp.der_ok (LibOK.nil _))
theorem th_run (t : Tr) : (xfunL Try.prog thL 1000 fTHash [.agg t.cs] [] 0 []).map (fun q => (q.1, q.2.1, q.2.2.1)) = some (true, [], .agg (Sp.hc (thS t))) := by kernel_rfl
def trC (f : Tr → SV) : Con := pureConB (fun | [.agg cs] => isTr cs | _ => true) fun | [.agg cs] => some (f (Tr.of cs 0)) | _ => none
theorem trC_ok {f : FuncId} {g : Tr → SV} {fn : Func} (hf : Try.prog.funcs[f]? = some fn) (hn : (fn.name == "runtime.NumGoroutine") = false) (hb : fn.body.isNone = false) (hg : ∀ v, (g v).sole = true)
    (h : ∀ v w, Sx.Fn Try.prog f (atW w 0) [.agg v.cs] [] 0 fun r _ => r = g v) : ConOK Try.prog f (trC g) := by
  refine pureConB_ok hf hn hb fun args v hok he => ?_
  split at he <;> try (cases he; done)
  rename_i cs
  simp only [Option.some.injEq] at he; subst he
  simp only at hok
  have e := Tr.of_cs hok
  refine ⟨hg _, by rw [e]; rfl, fun w => ?_⟩
  generalize Tr.of cs 0 = t at e
  subst e
  exact h t w
def thC : Con := trC fun t => .agg (Sp.hc (thS t))
theorem th_ok : ConOK Try.prog fTHash thC := trC_ok (fn := Try.f59) (by kernel_rfl) rfl rfl (fun _ => rfl) fun t w => Fn.xvL thL_ok Sp.mixed [] (th_run t) rfl trivial rfl
abbrev rbL : List (Nat × Con) := [(frNum, rnumC), (fNums, numsC)]
theorem rbL_ok : LibOK Try.prog rbL := LibOK.cons rnum_ok (LibOK.cons nums_ok (LibOK.nil _))
theorem bytes_run (t : Tr) : (xfunL Try.prog rbL 1000 frBytes [.agg t.cs] [] 0 []).map (fun q => (q.1, q.2.1, q.2.2.1, q.2.2.2.blk 1428)) = some (true, [], .c (.slc 1428 0 1 248 none), some ⟨(trBy t).map SC.u8, tB, true, true⟩) := by kernel_rfl
def bytesC : Con := gNew [false] 0 fun ps rs => match ps, rs with | [.agg cs], [] => some (isTr cs, ⟨⟨(trBy (Tr.of cs 0)).map SC.u8, tB, true, true⟩, 248, none, none⟩) | _, _ => none
theorem bytes_ok : ConOK Try.prog frBytes bytesC := by
  refine gNew_ok (fn := Try.f78) (by kernel_rfl) rfl rfl fun ps rs o h hps hrs w rb hrb => ?_
  split at h <;> try (cases h; done)
  rename_i cs
  simp only [Option.some.injEq, Prod.mk.injEq] at h
  obtain ⟨hok, rfl⟩ := h
  cases hrb
  have e := Tr.of_cs hok
  generalize Tr.of cs 0 = t at e
  subst e
  exact Fn_post (Fn.xtL rbL_ok Sp.mixed [] (bytes_run t) rfl trivial) fun r T h => .inl ⟨1428, h⟩
abbrev rthL : List (Nat × Con) := [(frBytes, bytesC), (Sp.fRDer, Sp.rderC)]
theorem rthL_ok : LibOK Try.prog rthL := LibOK.cons bytes_ok (LibOK.cons Sp.rder_ok (LibOK.nil _))
theorem rth_run (t : Tr) : (xfunL Try.prog rthL 1000 frTHash [.agg t.cs] [] 0 []).map (fun q => (q.1, q.2.1, q.2.2.1)) = some (true, [], .agg (Sp.hc (thS t))) := by kernel_rfl
theorem rth_ok : ConOK Try.prog frTHash thC := trC_ok (fn := Try.f61) (by kernel_rfl) rfl rfl (fun _ => rfl) fun t w => Fn.xvL rthL_ok Sp.mixed [] (rth_run t) rfl trivial rfl

/-! Flags. -/
abbrev frFlags : Nat := 63
def b8C (f : Nat → UInt8) : List SC := [.u8 (f 0), .u8 (f 1), .u8 (f 2), .u8 (f 3), .u8 (f 4), .u8 (f 5), .u8 (f 6), .u8 (f 7)]
def flL (ad : Nat → Bool) : List UInt8 := [bif ad 0 then 1 else 0, bif ad 1 then 1 else 0, bif ad 2 then 1 else 0, bif ad 3 then 1 else 0, bif ad 4 then 1 else 0, bif ad 5 then 1 else 0, bif ad 6 then 1 else 0, bif ad 7 then 1 else 0]
def flF (ad : Nat → Bool) (i j : Nat) : UInt8 := bif Nat.blt j i && ad j then 1 else 0
def flI (ad : Nat → Bool) (f : Nat → UInt8) (i : Int) : St := ⟨[(1, .c (.ptr 0 0)), (3, .c (.slc 1 0 1 8 (some 8))), (4, .c (.int i))], [(0, some ⟨adC ad, tB8, false, true⟩), (1, some ⟨b8C f, tB, false, true⟩)], 2, 17⟩
def flCut (j : Nat) : Cut := ⟨[(1, false), (3, false), (4, true)], [(0, 0, true), (j, 1, true)], 2⟩
theorem fl_start (ad : Nat → Bool) : stepL Try.prog [] 0 1000 3 (bodyOf Try.prog frFlags) ⟨argTmps [.agg (adC ad)] 0, [], 0, 17⟩ [] [] (flCut 8) = some (true, [], flI ad (flF ad 0) 0) := by kernel_rfl
theorem fl_no (ad : Nat → Bool) (f : Nat → UInt8) (i : Nat) (hi : i < 8) : stepL Try.prog [] 0 1000 4 (loopB ((bodyOf Try.prog frFlags).drop 3)) (flI ad f i) [true, false] [] (flCut 1) = some (tn true (ad i), [], flI ad f (i + 1)) := by
  revert i
  refine all8 ?_ ?_ ?_ ?_ ?_ ?_ ?_ ?_ <;> kernel_rfl
theorem fl_yes (ad : Nat → Bool) (f : Nat → UInt8) (i : Nat) (hi : i < 8) : stepL Try.prog [] 0 1000 4 (loopB ((bodyOf Try.prog frFlags).drop 3)) (flI ad f i) [true, true] [] (flCut 1) = some (ty_ true (ad i), [], flI ad (fun j => bif Nat.beq j i then 1 else f j) (i + 1)) := by
  revert i
  refine all8 ?_ ?_ ?_ ?_ ?_ ?_ ?_ ?_ <;> kernel_rfl
theorem fl_out (ad : Nat → Bool) (f : Nat → UInt8) : exitL Try.prog [] 0 1000 4 (loopB ((bodyOf Try.prog frFlags).drop 3)) (flI ad f 8) [false] [] (flCut 1) = some (0, true, [], flI ad f 8) := by kernel_rfl
theorem fl_end (ad : Nat → Bool) (f : Nat → UInt8) : (finL Try.prog [] frFlags 1000 100 ((bodyOf Try.prog frFlags).drop 4) (flI ad f 8) []).map (fun q => (q.1, q.2.1, q.2.2.1, q.2.2.2.blk 1)) = some (true, [], .c (.slc 1 0 1 8 (some 8)), some ⟨b8C f, tB, false, true⟩) := by kernel_rfl

theorem b8C_congr {f g : Nat → UInt8} (h : ∀ j, f j = g j) : b8C f = b8C g := by rw [show f = g from funext h]
theorem flF_no {ad : Nat → Bool} {i : Nat} (h : ad i = false) (j : Nat) : flF ad (i + 1) j = flF ad i j := by
  unfold flF
  by_cases hj : j = i
  · subst hj; rw [h]; simp
  · have : Nat.blt j (i + 1) = Nat.blt j i := by
      rw [Bool.eq_iff_iff, Nat.blt_eq, Nat.blt_eq]; omega
    rw [this]
theorem flF_yes {ad : Nat → Bool} {i : Nat} (h : ad i = true) (j : Nat) : (bif Nat.beq j i then 1 else flF ad i j) = flF ad (i + 1) j := by
  unfold flF
  by_cases hj : j = i
  · subst hj
    rw [h, Nat.beq_refl, show Nat.blt j (j + 1) = true by rw [Nat.blt_eq]; omega]; rfl
  · have : Nat.blt j (i + 1) = Nat.blt j i := by
      rw [Bool.eq_iff_iff, Nat.blt_eq, Nat.blt_eq]; omega
    rw [this, show Nat.beq j i = false by rw [← Bool.not_eq_true, Nat.beq_eq]; exact hj]; rfl
theorem fl_fn (ad : Nat → Bool) (w : World) : Sx.Fn Try.prog frFlags (atW w 0) [.agg (adC ad)] [] 0 fun x T => x = .c (.slc 1 0 1 8 (some 8)) ∧ T.blk 1 = some ⟨(flL ad).map SC.u8, tB, false, true⟩ := by
  refine Sx.Fn.of (nt := 17) (by kernel_rfl) rfl ?_
  refine SWs.stepL (LibOK.nil _) Sp.mixed [] (fl_start ad) rfl trivial ?_
  refine SWs.loop (by kernel_rfl) (fun i : Nat => flI ad (flF ad i) i) (fun i => 8 - i) (fun i => i ≤ 8) 0 (by omega) ?_
  rintro i hi
  by_cases h8 : i = 8
  · subst h8
    refine SWs.outL (LibOK.nil _) Sp.mixed [false] (fl_out ad _) rfl trivial ?_
    exact SWs.fintL (LibOK.nil _) Sp.mixed [] (fl_end ad _) rfl trivial
  · have hi' : i < 8 := by omega
    cases ha : ad i with
    | false =>
      refine SWs.roundL (LibOK.nil _) Sp.mixed [true, false] (fl_no ad _ i hi') rfl (tn_eq rfl ha) trivial ⟨i + 1, by omega, by omega, ?_⟩
      simp only [show flF ad (i + 1) = flF ad i from funext (flF_no ha)]; rfl
    | true =>
      refine SWs.roundL (LibOK.nil _) Sp.mixed [true, true] (fl_yes ad _ i hi') rfl (ty_eq rfl ha) trivial ⟨i + 1, by omega, by omega, ?_⟩
      simp only [show (fun j => bif Nat.beq j i then 1 else flF ad i j) = flF ad (i + 1) from funext (flF_yes ha)]; rfl
def isB8 (cs : List SC) : Bool := Nat.beq cs.length 8 && cs.all SC.isBool
theorem adC_of {cs : List SC} (h : isB8 cs = true) : cs = adC (gB cs) := by
  simp only [isB8, Bool.and_eq_true] at h
  have hl := Nat.eq_of_beq_eq_true h.1
  match cs, hl, h.2 with
  | [a, b, c, d, e, f, g, k], _, h2 =>
    simp only [List.all_cons, List.all_nil, Bool.and_eq_true] at h2
    obtain ⟨h0, h1, h2, h3, h4, h5, h6, h7, _⟩ := h2
    have cv : ∀ x : SC, x.isBool = true → SC.bool x.asBool = x := fun x hx => by cases x <;> first | rfl | (simp [SC.isBool] at hx; done)
    show _ = [SC.bool a.asBool, SC.bool b.asBool, SC.bool c.asBool, SC.bool d.asBool, SC.bool e.asBool, SC.bool f.asBool, SC.bool g.asBool, SC.bool k.asBool]
    rw [cv a h0, cv b h1, cv c h2, cv d h3, cv e h4, cv f h5, cv g h6, cv k h7]
def flagsC : Con := gNew [false] 0 fun ps rs => match ps, rs with | [.agg cs], [] => some (isB8 cs, ⟨⟨(flL (gB cs)).map SC.u8, tB, false, true⟩, 8, some 8, none⟩) | _, _ => none
theorem flags_ok : ConOK Try.prog frFlags flagsC := by
  refine gNew_ok (fn := Try.f63) (by kernel_rfl) rfl rfl fun ps rs o h hps hrs w rb hrb => ?_
  split at h <;> try (cases h; done)
  rename_i cs
  simp only [Option.some.injEq, Prod.mk.injEq] at h
  obtain ⟨hok, rfl⟩ := h
  cases hrb
  have e := adC_of hok
  generalize gB cs = t at e
  subst e
  exact Fn_post (fl_fn t w) fun r T h => .inl ⟨1, h⟩

/-! Views. -/
abbrev fVHash : Nat := 26
abbrev frVHash : Nat := 30
def chL (c : Nat → UInt8) : List UInt8 := (chC c).map SC.asU8
def hashL (H : Sp.H4) : List UInt8 := (Sp.hc H).map SC.asU8
def vBy (v : Vi) : List UInt8 := numL v.ep ++ (numL v.k ++ (flL v.ad ++ hashL (thS v.t)))
def vhS (v : Vi) : Sp.H4 := Sp.deriveS (chL v.ch) [118, 105, 101, 119] (vBy v)
abbrev vhL : List (Nat × Con) := [(fNum, numC), (fTHash, thC), (Sp.fDer, Sp.derC)]
theorem vhL_ok : LibOK Try.prog vhL := LibOK.cons num_ok (LibOK.cons th_ok (LibOK.cons Sp.der_ok (LibOK.nil _)))
def vhI (v : Vi) (cs : List SC) (m : Nat) (i : Int) : St := ⟨[(1, .c (.ptr 0 0)), (2, .c (.ptr 1 0)), (3, .c (.slc 2 0 1 m none)), (9, .agg (adC v.ad)), (10, .c (.int i))], [(0, some ⟨v.cs, tView, false, true⟩), (1, some ⟨List.replicate 32 (.u8 0), tHash, false, true⟩), (2, some ⟨cs, tB, true, true⟩)], 3, 34⟩
def vhCut (a b : Nat) : Cut := ⟨[(1, false), (2, false), (3, false), (9, true), (10, true)], [(0, 0, true), (a, 1, true), (b, 2, true)], 3⟩
theorem vh_start (v : Vi) : stepL Try.prog vhL 0 1000 3 (bodyOf Try.prog fVHash) ⟨argTmps [.agg v.cs] 0, [], 0, 34⟩ [] [(3, 1, tB)] (vhCut 4 24) = some (true, [], vhI v [] 0 0) := by kernel_rfl
def vhO (m : Nat) (cs : List SC) (acc : Bool) : Bool := bnd acc (Nat.ble (m + 1) maxLen && (Nat.ble ((m + 1) * 1) 140737488355328 && Nat.ble (m * 1) cs.length))
def vhP (v : Vi) (cs : List SC) (b : UInt8) (m : Nat) : Bool := (v.cs.all SC.plain && ((List.replicate 32 (SC.u8 0)).all SC.plain && ((cs.take (m * 1) ++ [SC.u8 b]).all SC.plain && true)))
theorem vh_no (v : Vi) (cs : List SC) (m : Nat) (i : Nat) (hi : i < 8) : stepL Try.prog vhL 0 1000 4 (loopB ((bodyOf Try.prog fVHash).drop 3)) (vhI v cs m i) [true, false] [] (vhCut 1 35) = some (bnd (vhO m cs (tn true (v.ad i))) (vhP v cs 0 m), [], vhI v (cs.take (m * 1) ++ [.u8 0]) (m + 1) (i + 1)) := by
  revert i
  refine all8 ?_ ?_ ?_ ?_ ?_ ?_ ?_ ?_ <;> kernel_rfl
theorem vh_yes (v : Vi) (cs : List SC) (m : Nat) (i : Nat) (hi : i < 8) : stepL Try.prog vhL 0 1000 4 (loopB ((bodyOf Try.prog fVHash).drop 3)) (vhI v cs m i) [true, true] [] (vhCut 1 39) = some (bnd (vhO m cs (ty_ true (v.ad i))) (vhP v cs 1 m), [], vhI v (cs.take (m * 1) ++ [.u8 1]) (m + 1) (i + 1)) := by
  revert i
  refine all8 ?_ ?_ ?_ ?_ ?_ ?_ ?_ ?_ <;> kernel_rfl
theorem vh_out (v : Vi) (cs : List SC) (m : Nat) : exitL Try.prog vhL 0 1000 4 (loopB ((bodyOf Try.prog fVHash).drop 3)) (vhI v cs m 8) [false] [] (vhCut 1 2) = some (0, bnd true (v.cs.all SC.plain && ((List.replicate 32 (SC.u8 0)).all SC.plain && (cs.all SC.plain && true))), [], vhI v cs m 8) := by kernel_rfl
theorem vh_end (v : Vi) : (finL Try.prog vhL fVHash 1000 100 ((bodyOf Try.prog fVHash).drop 4) (vhI v ((flL v.ad).map SC.u8) 8 8) []).map (fun q => (q.1, q.2.1, q.2.2.1)) = some (true, [], .agg (Sp.hc (vhS v))) := by kernel_rfl
def flP (ad : Nat → Bool) (i : Nat) : List UInt8 := (List.range i).map fun j => bif ad j then 1 else 0
theorem flP_succ (ad : Nat → Bool) (i : Nat) : flP ad (i + 1) = flP ad i ++ [bif ad i then 1 else 0] := by
  unfold flP
  rw [List.range_succ, List.map_append]; rfl
theorem flP_len (ad : Nat → Bool) (i : Nat) : (flP ad i).length = i := by unfold flP; simp
theorem cs_plain (v : Vi) : v.cs.all SC.plain = true := rfl
theorem vhO_eq {bs : List UInt8} {m : Nat} {acc : Bool} (h : bs.length = m) (hm : m ≤ 8) (ha : acc = true) : vhO m (bs.map SC.u8) acc = true := by
  unfold vhO
  have hM : maxLen = 9223372036854775807 := rfl
  refine bnds ha ?_
  simp only [Bool.and_eq_true, Nat.ble_eq, List.length_map]
  omega
theorem u8_step {bs : List UInt8} {m : Nat} (h : bs.length = m) (b : UInt8) : (bs.map SC.u8).take (m * 1) ++ [SC.u8 b] = (bs ++ [b]).map SC.u8 := by
  rw [Nat.mul_one, List.take_of_length_le (by simp [h]), List.map_append]; rfl
theorem vhP_eq {v : Vi} {bs : List UInt8} {m : Nat} (h : bs.length = m) (b : UInt8) : vhP v (bs.map SC.u8) b m = true := by
  unfold vhP
  rw [cs_plain, u8_step h, Sp.plainU8]; rfl
theorem vh_fn (v : Vi) (w : World) : Sx.Fn Try.prog fVHash (atW w 0) [.agg v.cs] [] 0 fun x _ => x = .agg (Sp.hc (vhS v)) := by
  refine Sx.Fn.of (nt := 34) (by kernel_rfl) rfl ?_
  refine SWs.stepL vhL_ok Sp.mixed [] (vh_start v) rfl trivial ?_
  refine SWs.loop (by kernel_rfl) (fun i : Nat => vhI v ((flP v.ad i).map SC.u8) i i) (fun i => 8 - i) (fun i => i ≤ 8) 0 (by omega) ?_
  rintro i hi
  have hl := flP_len v.ad i
  by_cases h8 : i = 8
  · subst h8
    refine SWs.outL vhL_ok Sp.mixed [false] (vh_out v _ _) (bnds rfl (by rw [cs_plain, Sp.plainU8]; rfl)) trivial ?_
    exact SWs.finvL vhL_ok Sp.mixed [] (vh_end v) rfl trivial rfl
  · have hi' : i < 8 := by omega
    cases ha : v.ad i with
    | false =>
      refine SWs.roundL vhL_ok Sp.mixed [true, false] (vh_no v _ _ i hi') rfl (bnds (vhO_eq hl hi (tn_eq rfl ha)) (vhP_eq hl 0)) trivial ⟨i + 1, by omega, by omega, ?_⟩
      rw [u8_step hl, flP_succ, ha]; rfl
    | true =>
      refine SWs.roundL vhL_ok Sp.mixed [true, true] (vh_yes v _ _ i hi') rfl (bnds (vhO_eq hl hi (ty_eq rfl ha)) (vhP_eq hl 1)) trivial ⟨i + 1, by omega, by omega, ?_⟩
      rw [u8_step hl, flP_succ, ha]; rfl
def vhC : Con := viC fun v => .agg (Sp.hc (vhS v))
theorem vh_ok : ConOK Try.prog fVHash vhC := viC_ok (fn := Try.f26) (by kernel_rfl) rfl rfl (fun _ => rfl) vh_fn
abbrev rvhL : List (Nat × Con) := [(frTHash, thC), (fNums, numsC), (frFlags, flagsC), (Sp.fJoin, Sp.joinC), (Sp.fRDer, Sp.rderC)]
theorem rvhL_ok : LibOK Try.prog rvhL := LibOK.cons rth_ok (LibOK.cons nums_ok (LibOK.cons flags_ok (LibOK.cons Sp.join_ok (LibOK.cons Sp.rder_ok (LibOK.nil _)))))
theorem rvh_run (v : Vi) : (xfunL Try.prog rvhL 1000 frVHash [.agg v.cs] [] 0 []).map (fun q => (q.1, q.2.1, q.2.2.1)) = some (true, [], .agg (Sp.hc (vhS v))) := by kernel_rfl
theorem rvh_ok : ConOK Try.prog frVHash vhC := viC_ok (fn := Try.f30) (by kernel_rfl) rfl rfl (fun _ => rfl) fun v w => Fn.xvL rvhL_ok Sp.mixed [] (rvh_run v) rfl trivial rfl

end Go.Proofs.Ytabiknpgakhkkaa.Vw
