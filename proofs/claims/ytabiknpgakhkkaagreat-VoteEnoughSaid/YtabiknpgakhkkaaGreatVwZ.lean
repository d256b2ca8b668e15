/-
  Numbers and operations as bytes. The document's numbers and operations as bytes. Sums of trees and views.
-/
import Derived.Test.YtabiknpgakhkkaaGreatVwO
import Derived.Test.YtabiknpgakhkkaaGreatSpT
set_option maxRecDepth 20000
section
namespace Go.Proofs.YtabiknpgakhkkaaGreat.Vw
open Go.RowKit Go.Proofs.YtabiknpgakhkkaaGreat.Sx Go.Proofs.YtabiknpgakhkkaaGreat.Pw
set_option linter.unusedVariables false
set_option linter.unusedSimpArgs false

abbrev tB : Nat := 5
abbrev fNum : Nat := 32
abbrev frNum : Nat := 37
def byN (n : Int) (k : Nat) : UInt8 := UInt8.ofInt (n.fdiv (2 ^ k))
def numL (n : Int) : List UInt8 := [byN n 56, byN n 48, byN n 40, byN n 32, byN n 24, byN n 16, byN n 8, byN n 0]
def numCs (n : Int) : List SC := [.u8 (byN n 56), .u8 (byN n 48), .u8 (byN n 40), .u8 (byN n 32), .u8 (byN n 24), .u8 (byN n 16), .u8 (byN n 8), .u8 (byN n 0)]
theorem numCs_map (n : Int) : numCs n = (numL n).map SC.u8 := rfl
theorem Fn_post {P : Program} {X : Cx} {f : FuncId} {args : List SV} {T : Tab} {nk : Nat} {Post Post' : SV → Tab → Prop} (h : Sx.Fn P f X args T nk Post) (hP : ∀ r T, Post r T → Post' r T) : Sx.Fn P f X args T nk Post' :=
  fun ρ w vs h1 h2 h3 => (h ρ w vs h1 h2 h3).mono fun e w' ⟨u, v, T', ρ', he, hv, hr⟩ => ⟨u, v, T', ρ', he, hP _ _ hv, hr⟩
def numC : Con := gNew [false] 0 fun ps rs => match ps, rs with | [.c (.int n)], [] => some (true, ⟨⟨numCs n, tB, false, true⟩, 8, some 8, none⟩) | _, _ => none
def rnumC : Con := gNew [false] 0 fun ps rs => match ps, rs with | [.c (.int n)], [] => some (true, ⟨⟨numCs n, tB, true, true⟩, 8, none, none⟩) | _, _ => none
theorem num_ok : ConOK Tryz.prog fNum numC := by
  refine gNew_ok (fn := Tryz.f32) (by kernel_rfl) rfl rfl fun ps rs o h hps hrs w rb hrb => ?_
  split at h <;> try (cases h; done)
  rename_i n
  simp only [Option.some.injEq, Prod.mk.injEq, true_and] at h; subst h
  cases hrb
  exact Fn_post (Fn.xtL (fuel := 1000) (k := 4) (LibOK.nil _) Sp.mixed [] (r := .c (.slc 4 0 1 8 (some 8))) (b := some ⟨numCs n, tB, false, true⟩) (ob := true) (obs := []) (by kernel_rfl) rfl trivial) fun r T h => .inl ⟨4, h⟩
theorem rnum_ok : ConOK Tryz.prog frNum rnumC := by
  refine gNew_ok (fn := Tryz.f37) (by kernel_rfl) rfl rfl fun ps rs o h hps hrs w rb hrb => ?_
  split at h <;> try (cases h; done)
  rename_i n
  simp only [Option.some.injEq, Prod.mk.injEq, true_and] at h; subst h
  cases hrb
  exact Fn_post (Fn.xtL (fuel := 1000) (k := 472) (LibOK.nil _) Sp.mixed [] (r := .c (.slc 472 0 1 8 none)) (b := some ⟨numCs n, tB, true, true⟩) (ob := true) (obs := []) (by kernel_rfl) rfl trivial) fun r T h => .inl ⟨472, h⟩

/-! Operations as bytes. -/
abbrev fOps : Nat := 33
abbrev frOps : Nat := 38
abbrev fNums : Nat := 71
def nL : List (Nat × Con) := [(fNum, numC)]
theorem nL_ok : LibOK Tryz.prog nL := LibOK.cons num_ok (LibOK.nil _)
def opsI (r : RB) (cs : List SC) (m : Nat) (i : Int) : St := ⟨[(3, .c (.slc 1 0 1 m none)), (8, .c (.slc 0 r.off 5 r.n none)), (9, .c (.int r.n)), (10, .c (.int i))], [(0, some r.b), (1, some ⟨cs, tB, true, true⟩)], 2, 39⟩
def opsCut (j : Nat) : Cut := ⟨[(3, false), (8, false), (9, true), (10, true)], [(0, 0, true), (j, 1, true)], 2⟩

def apO (m : Nat) (cs : List SC) (acc : Bool) : Bool := bnd acc (Nat.ble (m + 8) maxLen && (Nat.ble ((m + 8) * 1) 140737488355328 && Nat.ble (m * 1) cs.length))
def apC (m : Nat) (cs : List SC) (x : Int) : List SC := cs.take (m * 1) ++ numCs x
def c5 (m : Nat) (cs : List SC) (o : Ope) : List SC := apC (m + 8 + 8 + 8 + 8) (apC (m + 8 + 8 + 8) (apC (m + 8 + 8) (apC (m + 8) (apC m cs o.kind) o.who) o.k) o.sg) o.sl
def o5 (m : Nat) (cs : List SC) (o : Ope) (acc : Bool) : Bool := apO (m + 8 + 8 + 8 + 8) (apC (m + 8 + 8 + 8) (apC (m + 8 + 8) (apC (m + 8) (apC m cs o.kind) o.who) o.k) o.sg) (apO (m + 8 + 8 + 8) (apC (m + 8 + 8) (apC (m + 8) (apC m cs o.kind) o.who) o.k) (apO (m + 8 + 8) (apC (m + 8) (apC m cs o.kind) o.who) (apO (m + 8) (apC m cs o.kind) (apO m cs acc))))
theorem ops_start (off n : Nat) (cells : List SC) (ty : TypeId) : stepL Tryz.prog nL 0 1000 3 (bodyOf Tryz.prog fOps) ⟨argTmps [.c (.slc 0 off 5 n none)] 0, [(0, some ⟨cells, ty, true, false⟩)], 1, 39⟩ [] [(3, 1, tB)] (opsCut 21) =
    some (bnd true (pl (rbO off n cells ty)), [], opsI (rbO off n cells ty) [] 0 0) := by kernel_rfl
theorem ops_round (off n : Nat) (cells : List SC) (ty : TypeId) (m : Nat) (cs : List SC) (i : Nat) : stepL Tryz.prog nL 0 1000 4 (loopB ((bodyOf Tryz.prog fOps).drop 3)) (opsI (rbO off n cells ty) cs m i) [true] [] (opsCut 286) =
    some (bnd (o5 m cs (opAt (rbO off n cells ty) i) (ldO (rbO off n cells ty) i (ltO (rbO off n cells ty) i))) (cells.all SC.plain && ((c5 m cs (opAt (rbO off n cells ty) i)).all SC.plain && true)), [],
      opsI (rbO off n cells ty) (c5 m cs (opAt (rbO off n cells ty) i)) (m + 8 + 8 + 8 + 8 + 8) (IntKind.i64.wrap ((i : Int) + 1))) := by kernel_rfl
theorem ops_out (off n : Nat) (cells : List SC) (ty : TypeId) (m : Nat) (cs : List SC) : exitL Tryz.prog nL 0 1000 4 (loopB ((bodyOf Tryz.prog fOps).drop 3)) (opsI (rbO off n cells ty) cs m n) [false] [] (opsCut 1) =
    some (0, bnd (tn true (decide ((n : Int) < (n : Int)))) (cells.all SC.plain && (cs.all SC.plain && true)), [], opsI (rbO off n cells ty) cs m n) := by kernel_rfl
theorem ops_end (off n : Nat) (cells : List SC) (ty : TypeId) (m : Nat) (cs : List SC) : (finL Tryz.prog nL fOps 1000 100 ((bodyOf Tryz.prog fOps).drop 4) (opsI (rbO off n cells ty) cs m n) []).map (fun q => (q.1, q.2.1, q.2.2.1, q.2.2.2.blk 1)) =
    some (true, [], .c (.slc 1 0 1 m none), some ⟨cs, tB, true, true⟩) := by kernel_rfl

/-! The bytes of operations. -/
def opB (o : Ope) : List UInt8 := numL o.kind ++ (numL o.who ++ (numL o.k ++ (numL o.sg ++ numL o.sl)))
def opsBy : List Ope → List UInt8
  | [] => []
  | o :: l => opB o ++ opsBy l
theorem opsBy_len : ∀ l : List Ope, (opsBy l).length = 40 * l.length
  | [] => rfl
  | o :: l => by
    unfold opsBy
    rw [List.length_append, opsBy_len l, List.length_cons]
    have : (opB o).length = 40 := rfl
    omega
theorem opsBy_app : ∀ l m : List Ope, opsBy (l ++ m) = opsBy l ++ opsBy m
  | [], m => rfl
  | o :: l, m => by show opB o ++ opsBy (l ++ m) = opB o ++ opsBy l ++ opsBy m; rw [opsBy_app l m, List.append_assoc]
theorem opsL_take (r : RB) (i : Nat) (hi : i < r.n) : (opsL r).take (i + 1) = (opsL r).take i ++ [opAt r i] := by
  have hl : i < (opsL r).length := by unfold opsL; simpa using hi
  have hg : (opsL r)[i]? = some (opAt r i) := by unfold opsL; simp [hi]
  rw [List.getElem?_eq_getElem hl] at hg
  rw [List.take_succ_eq_append_getElem hl, Option.some.inj hg]
theorem apC_eq (bs : List UInt8) (x : Int) {m : Nat} (h : bs.length = m) : apC m (bs.map SC.u8) x = (bs ++ numL x).map SC.u8 := by
  unfold apC
  rw [Nat.mul_one, List.take_of_length_le (by simp [h]), numCs_map, List.map_append]
theorem apO_eq {m : Nat} {cs : List SC} {acc : Bool} (ha : acc = true) (hm : m ≤ 1000000000) (hl : m ≤ cs.length) : apO m cs acc = true := by
  unfold apO
  have hM : maxLen = 9223372036854775807 := rfl
  refine bnds ha ?_
  simp only [Bool.and_eq_true, Nat.ble_eq]
  omega
theorem c5_eq (bs : List UInt8) (o : Ope) {m : Nat} (h : bs.length = m) : c5 m (bs.map SC.u8) o = (bs ++ opB o).map SC.u8 := by
  have hn : ∀ x, (numL x).length = 8 := fun _ => rfl
  unfold c5
  rw [apC_eq bs _ h, apC_eq _ _ (by rw [List.length_append, h, hn]), apC_eq _ _ (by rw [List.length_append, List.length_append, h, hn, hn]),
    apC_eq _ _ (by rw [List.length_append, List.length_append, List.length_append, h, hn, hn, hn]), apC_eq _ _ (by rw [List.length_append, List.length_append, List.length_append, List.length_append, h, hn, hn, hn, hn])]
  unfold opB
  simp only [List.append_assoc]
theorem o5_eq (bs : List UInt8) (o : Ope) {m : Nat} {acc : Bool} (ha : acc = true) (h : bs.length = m) (hm : m ≤ 100000000) : o5 m (bs.map SC.u8) o acc = true := by
  have hn : ∀ x, (numL x).length = 8 := fun _ => rfl
  unfold o5
  rw [apC_eq bs _ h, apC_eq _ _ (by rw [List.length_append, h, hn]), apC_eq _ _ (by rw [List.length_append, List.length_append, h, hn, hn]),
    apC_eq _ _ (by rw [List.length_append, List.length_append, List.length_append, h, hn, hn, hn])]
  refine apO_eq (apO_eq (apO_eq (apO_eq (apO_eq ha (by omega) ?_) (by omega) ?_) (by omega) ?_) (by omega) ?_) (by omega) ?_ <;>
    simp only [List.length_map, List.length_append, hn] <;> omega
theorem ops_fn (r : RB) (hr : RBok r) (ho : okOps r = true) (hn : r.n ≤ 1000000) (w : World) : Sx.Fn Tryz.prog fOps (atW w 0) [.c (.slc 0 r.off 5 r.n none)] [(0, some r.b)] 1 fun x T => x = .c (.slc 1 0 1 (40 * r.n) none) ∧ T.blk 1 = some ⟨(opsBy (opsL r)).map SC.u8, tB, true, true⟩ := by
  have hlen : (opsL r).length = r.n := by unfold opsL; simp
  obtain ⟨off, n, cells, ty, tail, own⟩ := r
  obtain ⟨hown, htail, hsole⟩ := hr
  simp only at hown htail hn
  subst hown htail
  have hr : RBok (rbO off n cells ty) := ⟨rfl, rfl, hsole⟩
  have ho : okOps (rbO off n cells ty) = true := ho
  have hlen : (opsL (rbO off n cells ty)).length = n := hlen
  have hpl := pl_eq hr
  have hp1 : cells.all SC.plain = true := sole_plain hsole
  show Sx.Fn Tryz.prog fOps (atW w 0) [.c (.slc 0 off 5 n none)] [(0, some ⟨cells, ty, true, false⟩)] 1 fun x T => x = .c (.slc 1 0 1 (40 * n) none) ∧ T.blk 1 = some ⟨(opsBy (opsL (rbO off n cells ty))).map SC.u8, tB, true, true⟩
  refine Sx.Fn.of (nt := 39) (by kernel_rfl) rfl ?_
  refine SWs.stepL nL_ok Sp.mixed [] (ops_start off n cells ty) (bnd_eq rfl hpl) trivial ?_
  refine SWs.loop (by kernel_rfl) (fun i : Nat => opsI (rbO off n cells ty) ((opsBy ((opsL (rbO off n cells ty)).take i)).map SC.u8) (40 * i) i) (fun i => n - i) (fun i => i ≤ n) 0 (by omega) ?_
  intro i hi
  have hl : (opsBy ((opsL (rbO off n cells ty)).take i)).length = 40 * i := by rw [opsBy_len, List.length_take, hlen, Nat.min_eq_left hi]
  by_cases hlt : i < n
  · have hO : ldO (rbO off n cells ty) i (ltO (rbO off n cells ty) i) = true := by
      rw [ldO_eq ho hlt]; exact ty_eq rfl (decide_eq_true (by show (i : Int) < (n : Int); omega))
    refine SWs.roundL nL_ok Sp.mixed [true] (ops_round off n cells ty (40 * i) _ i) rfl (bnds (o5_eq _ _ hO hl (by omega)) ?_) trivial ⟨i + 1, by omega, by omega, ?_⟩
    · rw [hp1, c5_eq _ _ hl, Sp.plainU8]; rfl
    · rw [c5_eq _ _ hl, opsL_take _ i hlt, opsBy_app, show opsBy [opAt (rbO off n cells ty) i] = opB (opAt (rbO off n cells ty) i) from List.append_nil _, wrapN (show (0 : Int) ≤ (i : Int) + 1 by omega) (by omega)]
      have : 40 * i + 8 + 8 + 8 + 8 + 8 = 40 * (i + 1) := by omega
      rw [this]; rfl
  · obtain rfl : i = n := by omega
    rw [List.take_of_length_le (by omega)]
    refine SWs.outL nL_ok Sp.mixed [false] (ops_out off i cells ty (40 * i) _) (bnds (tn_eq rfl (decide_eq_false (by omega))) (by rw [hp1, Sp.plainU8]; rfl)) trivial ?_
    exact SWs.fintL nL_ok Sp.mixed [] (ops_end off i cells ty (40 * i) _) rfl trivial
def opsBC : Con := sNew [some 5] fun ps rs => match ps, rs with | [], [r] => some (okOps r && Nat.ble r.n 1000000, ⟨⟨(opsBy (opsL r)).map SC.u8, tB, true, true⟩, 40 * r.n, none, none⟩) | _, _ => none
theorem opsB_ok : ConOK Tryz.prog fOps opsBC := by
  refine sNew_ok (fn := Tryz.f33) (by kernel_rfl) rfl rfl fun ps rs o h hps hrs w => ?_
  split at h <;> try (cases h; done)
  rename_i r
  simp only [Option.some.injEq, Prod.mk.injEq, Bool.and_eq_true, Nat.ble_eq] at h
  obtain ⟨⟨ho, hn⟩, rfl⟩ := h
  exact Fn_post (ops_fn r (hrs r (by simp)) ho hn w) fun x T h => .inl ⟨1, h⟩

end Go.Proofs.YtabiknpgakhkkaaGreat.Vw
end

section
namespace Go.Proofs.YtabiknpgakhkkaaGreat.Vw
open Go.RowKit Go.Proofs.YtabiknpgakhkkaaGreat.Sx Go.Proofs.YtabiknpgakhkkaaGreat.Pw
set_option linter.unusedVariables false
set_option linter.unusedSimpArgs false

def rnL : List (Nat × Con) := [(frNum, rnumC)]
theorem rnL_ok : LibOK Tryz.prog rnL := LibOK.cons rnum_ok (LibOK.nil _)
def numsI (r : RB) (cs : List SC) (m : Nat) (i : Int) : St := ⟨[(0, .c (.slc 0 r.off 1 r.n none)), (3, .c (.slc 1 0 1 m none)), (4, .c (.int i))], [(0, some r.b), (1, some ⟨cs, tB, true, true⟩)], 2, 19⟩
def numsCut (j : Nat) : Cut := ⟨[(0, false), (3, false), (4, true)], [(0, 0, true), (j, 1, true)], 2⟩
/-- Rows of numbers. -/
def okInts (r : RB) : Bool := Nat.ble (r.off + r.n * 1) r.b.cells.length && ((r.b.cells.drop r.off).take (r.n * 1)).all SC.isInt
def intAt (r : RB) (i : Nat) : Int := gI r.b.cells (r.off + i * 1)
def intsL (r : RB) : List Int := (List.range r.n).map (intAt r)
def numsBy : List Int → List UInt8
  | [] => []
  | x :: l => numL x ++ numsBy l
def ldN (r : RB) (i : Nat) (acc : Bool) : Bool := bnd (bnd acc (decide (0 ≤ (i : Int)) && (Nat.blt (i : Int).toNat r.n && true))) (Nat.blt (r.off + i * 1) r.b.cells.length && isI r.b.cells (r.off + i * 1))
theorem nums_start (off n : Nat) (cells : List SC) (ty : TypeId) : stepL Tryz.prog rnL 0 1000 3 (bodyOf Tryz.prog fNums) ⟨argTmps [.c (.slc 0 off 1 n none)] 0, [(0, some ⟨cells, ty, true, false⟩)], 1, 19⟩ [] [(3, 1, tB)] (numsCut 13) =
    some (bnd true (pl (rbO off n cells ty)), [], numsI (rbO off n cells ty) [] 0 0) := by kernel_rfl
theorem nums_round (off n : Nat) (cells : List SC) (ty : TypeId) (m : Nat) (cs : List SC) (i : Nat) : stepL Tryz.prog rnL 0 1000 4 (loopB ((bodyOf Tryz.prog fNums).drop 3)) (numsI (rbO off n cells ty) cs m i) [true] [] (numsCut 42) =
    some (bnd (apO m cs (ldN (rbO off n cells ty) i (ltO (rbO off n cells ty) i))) (cells.all SC.plain && ((apC m cs (intAt (rbO off n cells ty) i)).all SC.plain && true)), [],
      numsI (rbO off n cells ty) (apC m cs (intAt (rbO off n cells ty) i)) (m + 8) (IntKind.i64.wrap ((i : Int) + 1))) := by kernel_rfl
theorem nums_out (off n : Nat) (cells : List SC) (ty : TypeId) (m : Nat) (cs : List SC) : exitL Tryz.prog rnL 0 1000 4 (loopB ((bodyOf Tryz.prog fNums).drop 3)) (numsI (rbO off n cells ty) cs m n) [false] [] (numsCut 1) =
    some (0, bnd (tn true (decide ((n : Int) < (n : Int)))) (cells.all SC.plain && (cs.all SC.plain && true)), [], numsI (rbO off n cells ty) cs m n) := by kernel_rfl
theorem nums_end (off n : Nat) (cells : List SC) (ty : TypeId) (m : Nat) (cs : List SC) : (finL Tryz.prog rnL fNums 1000 100 ((bodyOf Tryz.prog fNums).drop 4) (numsI (rbO off n cells ty) cs m n) []).map (fun q => (q.1, q.2.1, q.2.2.1, q.2.2.2.blk 1)) =
    some (true, [], .c (.slc 1 0 1 m none), some ⟨cs, tB, true, true⟩) := by kernel_rfl
theorem numsBy_len : ∀ l : List Int, (numsBy l).length = 8 * l.length
  | [] => rfl
  | o :: l => by
    unfold numsBy
    rw [List.length_append, numsBy_len l, List.length_cons]
    have : (numL o).length = 8 := rfl
    omega
theorem numsBy_app : ∀ l m : List Int, numsBy (l ++ m) = numsBy l ++ numsBy m
  | [], m => rfl
  | o :: l, m => by show numL o ++ numsBy (l ++ m) = numL o ++ numsBy l ++ numsBy m; rw [numsBy_app l m, List.append_assoc]
theorem intsL_take (r : RB) (i : Nat) (hi : i < r.n) : (intsL r).take (i + 1) = (intsL r).take i ++ [intAt r i] := by
  have hl : i < (intsL r).length := by unfold intsL; simpa using hi
  have hg : (intsL r)[i]? = some (intAt r i) := by unfold intsL; simp [hi]
  rw [List.getElem?_eq_getElem hl] at hg
  rw [List.take_succ_eq_append_getElem hl, Option.some.inj hg]
theorem ldN_eq {r : RB} (h : okInts r = true) {i : Nat} {acc : Bool} (ha : acc = true) (hi : i < r.n) : ldN r i acc = true := by
  unfold okInts at h
  simp only [Bool.and_eq_true, Nat.ble_eq, List.all_eq_true] at h
  have hlt : r.off + i * 1 < r.b.cells.length := by omega
  have hI : isI r.b.cells (r.off + i * 1) = true := by
    unfold isI
    have hg : r.b.cells.getD (r.off + i * 1) .nilp = r.b.cells[r.off + i * 1] := by rw [List.getD, List.getElem?_eq_getElem hlt]; rfl
    rw [hg]
    refine h.2 _ ?_
    have hs : ((r.b.cells.drop r.off).take (r.n * 1))[i]? = some r.b.cells[r.off + i * 1] := by
      rw [List.getElem?_take, if_pos (by omega), List.getElem?_drop, List.getElem?_eq_getElem (by omega)]
      simp
    exact List.mem_of_getElem? hs
  unfold ldN
  refine bnds (bnds ha ?_) ?_
  · rw [decide_eq_true (by omega), show Nat.blt (i : Int).toNat r.n = true by rw [Nat.blt_eq, Int.toNat_natCast]; exact hi]; rfl
  · rw [hI, show Nat.blt (r.off + i * 1) r.b.cells.length = true by rw [Nat.blt_eq]; exact hlt]; rfl
theorem nums_fn (r : RB) (hr : RBok r) (ho : okInts r = true) (hn : r.n ≤ 1000000) (w : World) : Sx.Fn Tryz.prog fNums (atW w 0) [.c (.slc 0 r.off 1 r.n none)] [(0, some r.b)] 1 fun x T => x = .c (.slc 1 0 1 (8 * r.n) none) ∧ T.blk 1 = some ⟨(numsBy (intsL r)).map SC.u8, tB, true, true⟩ := by
  have hlen : (intsL r).length = r.n := by unfold intsL; simp
  obtain ⟨off, n, cells, ty, tail, own⟩ := r
  obtain ⟨hown, htail, hsole⟩ := hr
  simp only at hown htail hn
  subst hown htail
  have hr : RBok (rbO off n cells ty) := ⟨rfl, rfl, hsole⟩
  have ho : okInts (rbO off n cells ty) = true := ho
  have hlen : (intsL (rbO off n cells ty)).length = n := hlen
  have hpl := pl_eq hr
  have hp1 : cells.all SC.plain = true := sole_plain hsole
  have hn8 : ∀ x, (numL x).length = 8 := fun _ => rfl
  show Sx.Fn Tryz.prog fNums (atW w 0) [.c (.slc 0 off 1 n none)] [(0, some ⟨cells, ty, true, false⟩)] 1 fun x T => x = .c (.slc 1 0 1 (8 * n) none) ∧ T.blk 1 = some ⟨(numsBy (intsL (rbO off n cells ty))).map SC.u8, tB, true, true⟩
  refine Sx.Fn.of (nt := 19) (by kernel_rfl) rfl ?_
  refine SWs.stepL rnL_ok Sp.mixed [] (nums_start off n cells ty) (bnd_eq rfl hpl) trivial ?_
  refine SWs.loop (by kernel_rfl) (fun i : Nat => numsI (rbO off n cells ty) ((numsBy ((intsL (rbO off n cells ty)).take i)).map SC.u8) (8 * i) i) (fun i => n - i) (fun i => i ≤ n) 0 (by omega) ?_
  intro i hi
  have hl : (numsBy ((intsL (rbO off n cells ty)).take i)).length = 8 * i := by rw [numsBy_len, List.length_take, hlen, Nat.min_eq_left hi]
  by_cases hlt : i < n
  · have hO : ldN (rbO off n cells ty) i (ltO (rbO off n cells ty) i) = true := ldN_eq ho (ty_eq rfl (decide_eq_true (by show (i : Int) < (n : Int); omega))) hlt
    refine SWs.roundL rnL_ok Sp.mixed [true] (nums_round off n cells ty (8 * i) _ i) rfl (bnds (apO_eq hO (by omega) (by simp [hl])) ?_) trivial ⟨i + 1, by omega, by omega, ?_⟩
    · rw [hp1, apC_eq _ _ hl, Sp.plainU8]; rfl
    · rw [apC_eq _ _ hl, intsL_take _ i hlt, numsBy_app, show numsBy [intAt (rbO off n cells ty) i] = numL (intAt (rbO off n cells ty) i) from List.append_nil _, wrapN (show (0 : Int) ≤ (i : Int) + 1 by omega) (by omega)]
      have : 8 * i + 8 = 8 * (i + 1) := by omega
      rw [this]; rfl
  · obtain rfl : i = n := by omega
    rw [List.take_of_length_le (by omega)]
    refine SWs.outL rnL_ok Sp.mixed [false] (nums_out off i cells ty (8 * i) _) (bnds (tn_eq rfl (decide_eq_false (by omega))) (by rw [hp1, Sp.plainU8]; rfl)) trivial ?_
    exact SWs.fintL rnL_ok Sp.mixed [] (nums_end off i cells ty (8 * i) _) rfl trivial
def numsC : Con := sNew [some 1] fun ps rs => match ps, rs with | [], [r] => some (okInts r && Nat.ble r.n 1000000, ⟨⟨(numsBy (intsL r)).map SC.u8, tB, true, true⟩, 8 * r.n, none, none⟩) | _, _ => none
theorem nums_ok : ConOK Tryz.prog fNums numsC := by
  refine sNew_ok (fn := Tryz.f71) (by kernel_rfl) rfl rfl fun ps rs o h hps hrs w => ?_
  split at h <;> try (cases h; done)
  rename_i r
  simp only [Option.some.injEq, Prod.mk.injEq, Bool.and_eq_true, Nat.ble_eq] at h
  obtain ⟨⟨ho, hn⟩, rfl⟩ := h
  exact Fn_post (nums_fn r (hrs r (by simp)) ho hn w) fun x T h => .inl ⟨1, h⟩

/-! The document's operations as bytes. -/
def rsL : List (Nat × Con) := [(fNums, numsC)]
theorem rsL_ok : LibOK Tryz.prog rsL := LibOK.cons nums_ok (LibOK.nil _)
def ropsI (r : RB) (cs : List SC) (m : Nat) (i : Int) : St := ⟨[(0, .c (.slc 0 r.off 5 r.n none)), (3, .c (.slc 1 0 1 m none)), (4, .c (.int i))], [(0, some r.b), (1, some ⟨cs, tB, true, true⟩)], 2, 43⟩
def ldF (r : RB) (i c : Nat) (acc : Bool) : Bool := bnd (bnd acc (decide (0 ≤ (i : Int)) && (Nat.blt (i : Int).toNat r.n && true))) (Nat.blt (r.off + i * 5 + c) r.b.cells.length && isI r.b.cells (r.off + i * 5 + c))
def apO40 (m : Nat) (cs : List SC) (acc : Bool) : Bool := bnd acc (Nat.ble (m + 40) maxLen && (Nat.ble ((m + 40) * 1) 140737488355328 && Nat.ble (m * 1) cs.length))
def rapC (m : Nat) (cs : List SC) (o : Ope) : List SC := cs.take (m * 1) ++ (opB o).map SC.u8
theorem rops_start (off n : Nat) (cells : List SC) (ty : TypeId) : stepL Tryz.prog rsL 0 1000 3 (bodyOf Tryz.prog frOps) ⟨argTmps [.c (.slc 0 off 5 n none)] 0, [(0, some ⟨cells, ty, true, false⟩)], 1, 43⟩ [] [(3, 1, tB)] (numsCut 13) =
    some (bnd true (pl (rbO off n cells ty)), [], ropsI (rbO off n cells ty) [] 0 0) := by kernel_rfl
def rldAll (r : RB) (i : Nat) : Bool := ldF r i 4 (ldF r i 3 (ldF r i 2 (ldF r i 1 (ldF r i 0 (ltO r i)))))
theorem rops_round (off n : Nat) (cells : List SC) (ty : TypeId) (m : Nat) (cs : List SC) (i : Nat) : stepL Tryz.prog rsL 0 1000 4 (loopB ((bodyOf Tryz.prog frOps).drop 3)) (ropsI (rbO off n cells ty) cs m i) [true] [] (numsCut 138) =
    some (bnd (apO40 m cs (rldAll (rbO off n cells ty) i)) (cells.all SC.plain && ((rapC m cs (opAt (rbO off n cells ty) i)).all SC.plain && true)), [],
      ropsI (rbO off n cells ty) (rapC m cs (opAt (rbO off n cells ty) i)) (m + 40) (IntKind.i64.wrap ((i : Int) + 1))) := by kernel_rfl
theorem rops_out (off n : Nat) (cells : List SC) (ty : TypeId) (m : Nat) (cs : List SC) : exitL Tryz.prog rsL 0 1000 4 (loopB ((bodyOf Tryz.prog frOps).drop 3)) (ropsI (rbO off n cells ty) cs m n) [false] [] (numsCut 1) =
    some (0, bnd (tn true (decide ((n : Int) < (n : Int)))) (cells.all SC.plain && (cs.all SC.plain && true)), [], ropsI (rbO off n cells ty) cs m n) := by kernel_rfl
theorem rops_end (off n : Nat) (cells : List SC) (ty : TypeId) (m : Nat) (cs : List SC) : (finL Tryz.prog rsL frOps 1000 100 ((bodyOf Tryz.prog frOps).drop 4) (ropsI (rbO off n cells ty) cs m n) []).map (fun q => (q.1, q.2.1, q.2.2.1, q.2.2.2.blk 1)) =
    some (true, [], .c (.slc 1 0 1 m none), some ⟨cs, tB, true, true⟩) := by kernel_rfl
theorem rapC_eq (bs : List UInt8) (o : Ope) {m : Nat} (h : bs.length = m) : rapC m (bs.map SC.u8) o = (bs ++ opB o).map SC.u8 := by
  unfold rapC
  rw [Nat.mul_one, List.take_of_length_le (by simp [h]), List.map_append]
theorem ldF_eq {r : RB} (h : okOps r = true) {i c : Nat} {acc : Bool} (ha : acc = true) (hi : i < r.n) (hc : c < 5) : ldF r i c acc = true := by
  have hI : isI r.b.cells (r.off + i * 5 + c) = true := by rw [Nat.add_assoc]; exact isI_of h (by omega)
  unfold okOps at h
  simp only [Bool.and_eq_true, Nat.ble_eq] at h
  unfold ldF
  refine bnds (bnds ha ?_) ?_
  · rw [decide_eq_true (by omega), show Nat.blt (i : Int).toNat r.n = true by rw [Nat.blt_eq, Int.toNat_natCast]; exact hi]; rfl
  · rw [hI, show Nat.blt (r.off + i * 5 + c) r.b.cells.length = true by rw [Nat.blt_eq]; omega]; rfl
theorem rops_fn (r : RB) (hr : RBok r) (ho : okOps r = true) (hn : r.n ≤ 1000000) (w : World) : Sx.Fn Tryz.prog frOps (atW w 0) [.c (.slc 0 r.off 5 r.n none)] [(0, some r.b)] 1 fun x T => x = .c (.slc 1 0 1 (40 * r.n) none) ∧ T.blk 1 = some ⟨(opsBy (opsL r)).map SC.u8, tB, true, true⟩ := by
  have hlen : (opsL r).length = r.n := by unfold opsL; simp
  obtain ⟨off, n, cells, ty, tail, own⟩ := r
  obtain ⟨hown, htail, hsole⟩ := hr
  simp only at hown htail hn
  subst hown htail
  have hr : RBok (rbO off n cells ty) := ⟨rfl, rfl, hsole⟩
  have ho : okOps (rbO off n cells ty) = true := ho
  have hlen : (opsL (rbO off n cells ty)).length = n := hlen
  have hpl := pl_eq hr
  have hp1 : cells.all SC.plain = true := sole_plain hsole
  have hM : maxLen = 9223372036854775807 := rfl
  show Sx.Fn Tryz.prog frOps (atW w 0) [.c (.slc 0 off 5 n none)] [(0, some ⟨cells, ty, true, false⟩)] 1 fun x T => x = .c (.slc 1 0 1 (40 * n) none) ∧ T.blk 1 = some ⟨(opsBy (opsL (rbO off n cells ty))).map SC.u8, tB, true, true⟩
  refine Sx.Fn.of (nt := 43) (by kernel_rfl) rfl ?_
  refine SWs.stepL rsL_ok Sp.mixed [] (rops_start off n cells ty) (bnd_eq rfl hpl) trivial ?_
  refine SWs.loop (by kernel_rfl) (fun i : Nat => ropsI (rbO off n cells ty) ((opsBy ((opsL (rbO off n cells ty)).take i)).map SC.u8) (40 * i) i) (fun i => n - i) (fun i => i ≤ n) 0 (by omega) ?_
  intro i hi
  have hl : (opsBy ((opsL (rbO off n cells ty)).take i)).length = 40 * i := by rw [opsBy_len, List.length_take, hlen, Nat.min_eq_left hi]
  by_cases hlt : i < n
  · have h0 : ltO (rbO off n cells ty) i = true := ty_eq rfl (decide_eq_true (by show (i : Int) < (n : Int); omega))
    have hO : rldAll (rbO off n cells ty) i = true := ldF_eq ho (ldF_eq ho (ldF_eq ho (ldF_eq ho (ldF_eq ho h0 hlt (by omega)) hlt (by omega)) hlt (by omega)) hlt (by omega)) hlt (by omega)
    refine SWs.roundL rsL_ok Sp.mixed [true] (rops_round off n cells ty (40 * i) _ i) rfl (bnds ?_ ?_) trivial ⟨i + 1, by omega, by omega, ?_⟩
    · unfold apO40
      refine bnds hO ?_
      simp only [Bool.and_eq_true, Nat.ble_eq, List.length_map, hl]
      omega
    · rw [hp1, rapC_eq _ _ hl, Sp.plainU8]; rfl
    · rw [rapC_eq _ _ hl, opsL_take _ i hlt, opsBy_app, show opsBy [opAt (rbO off n cells ty) i] = opB (opAt (rbO off n cells ty) i) from List.append_nil _, wrapN (show (0 : Int) ≤ (i : Int) + 1 by omega) (by omega)]
      have : 40 * i + 40 = 40 * (i + 1) := by omega
      rw [this]; rfl
  · obtain rfl : i = n := by omega
    rw [List.take_of_length_le (by omega)]
    refine SWs.outL rsL_ok Sp.mixed [false] (rops_out off i cells ty (40 * i) _) (bnds (tn_eq rfl (decide_eq_false (by omega))) (by rw [hp1, Sp.plainU8]; rfl)) trivial ?_
    exact SWs.fintL rsL_ok Sp.mixed [] (rops_end off i cells ty (40 * i) _) rfl trivial
theorem ropsB_ok : ConOK Tryz.prog frOps opsBC := by
  refine sNew_ok (fn := Tryz.f38) (by kernel_rfl) rfl rfl fun ps rs o h hps hrs w => ?_
  split at h <;> try (cases h; done)
  rename_i r
  simp only [Option.some.injEq, Prod.mk.injEq, Bool.and_eq_true, Nat.ble_eq] at h
  obtain ⟨⟨ho, hn⟩, rfl⟩ := h
  exact Fn_post (rops_fn r (hrs r (by simp)) ho hn w) fun x T h => .inl ⟨1, h⟩

end Go.Proofs.YtabiknpgakhkkaaGreat.Vw
end

section
namespace Go.Proofs.YtabiknpgakhkkaaGreat.Vw
open Go.RowKit Go.Proofs.YtabiknpgakhkkaaGreat.Sx Go.Proofs.YtabiknpgakhkkaaGreat.Pw
set_option linter.unusedVariables false
set_option linter.unusedSimpArgs false
set_option maxRecDepth 10000

/-! Trees. -/
abbrev fTHash : Nat := 68
abbrev frTHash : Nat := 70
abbrev frBytes : Nat := 94
abbrev tHash : Nat := 30
def trInts (t : Tr) : List Int := [t.sg 0, t.sl 0, t.sg 1, t.sl 1, t.sg 2, t.sl 2, t.sg 3, t.sl 3, t.sg 4, t.sl 4, t.sg 5, t.sl 5, t.sg 6, t.sl 6, t.sg 7, t.sl 7, t.nd 0, t.nd 1, t.nd 2, t.nd 3, t.nd 4, t.nd 5, t.nd 6, t.nd 7, t.nd 8, t.nd 9, t.nd 10, t.nd 11, t.nd 12, t.nd 13, t.nd 14]
def trBy (t : Tr) : List UInt8 := numsBy (trInts t)
def thS (t : Tr) : Sp.H4 := Sp.deriveS (List.replicate 32 0) [116, 114, 101, 101] (trBy t)
abbrev thL : List (Nat × Con) := [(fNum, numC), (Sp.fDer, Sp.derC)]
theorem thL_ok : LibOK Tryz.prog thL := LibOK.cons num_ok (LibOK.cons Sp.der_ok (LibOK.nil _))
theorem th_run (t : Tr) : (xfunL Tryz.prog thL 1000 fTHash [.agg t.cs] [] 0 []).map (fun q => (q.1, q.2.1, q.2.2.1)) = some (true, [], .agg (Sp.hc (thS t))) := by kernel_rfl
def trC (f : Tr → SV) : Con := pureConB (fun | [.agg cs] => isTr cs | _ => true) fun | [.agg cs] => some (f (Tr.of cs 0)) | _ => none
theorem trC_ok {f : FuncId} {g : Tr → SV} {fn : Func} (hf : Tryz.prog.funcs[f]? = some fn) (hn : (fn.name == "runtime.NumGoroutine") = false) (hb : fn.body.isNone = false) (hg : ∀ v, (g v).sole = true)
    (h : ∀ v w, Sx.Fn Tryz.prog f (atW w 0) [.agg v.cs] [] 0 fun r _ => r = g v) : ConOK Tryz.prog f (trC g) := by
  refine pureConB_ok hf hn hb fun args v hok he => ?_
  split at he <;> try (cases he; done)
  rename_i cs
  simp only [Option.some.injEq] at he; subst he
  simp only at hok
  have e := Tr.of_cs hok
  refine ⟨hg _, by rw [e]; rfl, fun w => ?_⟩
  generalize Tr.of cs 0 = t at e
  subst e
  exact h t w
def thC : Con := trC fun t => .agg (Sp.hc (thS t))
theorem th_ok : ConOK Tryz.prog fTHash thC := trC_ok (fn := Tryz.f68) (by kernel_rfl) rfl rfl (fun _ => rfl) fun t w => Fn.xvL thL_ok Sp.mixed [] (th_run t) rfl trivial rfl
abbrev rbL : List (Nat × Con) := [(frNum, rnumC), (fNums, numsC)]
theorem rbL_ok : LibOK Tryz.prog rbL := LibOK.cons rnum_ok (LibOK.cons nums_ok (LibOK.nil _))
theorem bytes_run (t : Tr) : (xfunL Tryz.prog rbL 1000 frBytes [.agg t.cs] [] 0 []).map (fun q => (q.1, q.2.1, q.2.2.1, q.2.2.2.blk 1428)) = some (true, [], .c (.slc 1428 0 1 248 none), some ⟨(trBy t).map SC.u8, tB, true, true⟩) := by kernel_rfl
def bytesC : Con := gNew [false] 0 fun ps rs => match ps, rs with | [.agg cs], [] => some (isTr cs, ⟨⟨(trBy (Tr.of cs 0)).map SC.u8, tB, true, true⟩, 248, none, none⟩) | _, _ => none
theorem bytes_ok : ConOK Tryz.prog frBytes bytesC := by
  refine gNew_ok (fn := Tryz.f94) (by kernel_rfl) rfl rfl fun ps rs o h hps hrs w rb hrb => ?_
  split at h <;> try (cases h; done)
  rename_i cs
  simp only [Option.some.injEq, Prod.mk.injEq] at h
  obtain ⟨hok, rfl⟩ := h
  cases hrb
  have e := Tr.of_cs hok
  generalize Tr.of cs 0 = t at e
  subst e
  exact Fn_post (Fn.xtL rbL_ok Sp.mixed [] (bytes_run t) rfl trivial) fun r T h => .inl ⟨1428, h⟩
abbrev rthL : List (Nat × Con) := [(frBytes, bytesC), (Sp.fRDer, Sp.rderC)]
theorem rthL_ok : LibOK Tryz.prog rthL := LibOK.cons bytes_ok (LibOK.cons Sp.rder_ok (LibOK.nil _))
theorem rth_run (t : Tr) : (xfunL Tryz.prog rthL 1000 frTHash [.agg t.cs] [] 0 []).map (fun q => (q.1, q.2.1, q.2.2.1)) = some (true, [], .agg (Sp.hc (thS t))) := by kernel_rfl
theorem rth_ok : ConOK Tryz.prog frTHash thC := trC_ok (fn := Tryz.f70) (by kernel_rfl) rfl rfl (fun _ => rfl) fun t w => Fn.xvL rthL_ok Sp.mixed [] (rth_run t) rfl trivial rfl

/-! Flags. -/
abbrev frFlags : Nat := 72
def b8C (f : Nat → UInt8) : List SC := [.u8 (f 0), .u8 (f 1), .u8 (f 2), .u8 (f 3), .u8 (f 4), .u8 (f 5), .u8 (f 6), .u8 (f 7)]
def flL (ad : Nat → Bool) : List UInt8 := [bif ad 0 then 1 else 0, bif ad 1 then 1 else 0, bif ad 2 then 1 else 0, bif ad 3 then 1 else 0, bif ad 4 then 1 else 0, bif ad 5 then 1 else 0, bif ad 6 then 1 else 0, bif ad 7 then 1 else 0]
def flF (ad : Nat → Bool) (i j : Nat) : UInt8 := bif Nat.blt j i && ad j then 1 else 0
def flI (ad : Nat → Bool) (f : Nat → UInt8) (i : Int) : St := ⟨[(1, .c (.ptr 0 0)), (3, .c (.slc 1 0 1 8 (some 8))), (4, .c (.int i))], [(0, some ⟨adC ad, tB8, false, true⟩), (1, some ⟨b8C f, tB, false, true⟩)], 2, 17⟩
def flCut (j : Nat) : Cut := ⟨[(1, false), (3, false), (4, true)], [(0, 0, true), (j, 1, true)], 2⟩
theorem fl_start (ad : Nat → Bool) : stepL Tryz.prog [] 0 1000 3 (bodyOf Tryz.prog frFlags) ⟨argTmps [.agg (adC ad)] 0, [], 0, 17⟩ [] [] (flCut 8) = some (true, [], flI ad (flF ad 0) 0) := by kernel_rfl
theorem fl_no (ad : Nat → Bool) (f : Nat → UInt8) (i : Nat) (hi : i < 8) : stepL Tryz.prog [] 0 1000 4 (loopB ((bodyOf Tryz.prog frFlags).drop 3)) (flI ad f i) [true, false] [] (flCut 1) = some (tn true (ad i), [], flI ad f (i + 1)) := by
  revert i
  refine all8 ?_ ?_ ?_ ?_ ?_ ?_ ?_ ?_ <;> kernel_rfl
theorem fl_yes (ad : Nat → Bool) (f : Nat → UInt8) (i : Nat) (hi : i < 8) : stepL Tryz.prog [] 0 1000 4 (loopB ((bodyOf Tryz.prog frFlags).drop 3)) (flI ad f i) [true, true] [] (flCut 1) = some (ty_ true (ad i), [], flI ad (fun j => bif Nat.beq j i then 1 else f j) (i + 1)) := by
  revert i
  refine all8 ?_ ?_ ?_ ?_ ?_ ?_ ?_ ?_ <;> kernel_rfl
theorem fl_out (ad : Nat → Bool) (f : Nat → UInt8) : exitL Tryz.prog [] 0 1000 4 (loopB ((bodyOf Tryz.prog frFlags).drop 3)) (flI ad f 8) [false] [] (flCut 1) = some (0, true, [], flI ad f 8) := by kernel_rfl
theorem fl_end (ad : Nat → Bool) (f : Nat → UInt8) : (finL Tryz.prog [] frFlags 1000 100 ((bodyOf Tryz.prog frFlags).drop 4) (flI ad f 8) []).map (fun q => (q.1, q.2.1, q.2.2.1, q.2.2.2.blk 1)) = some (true, [], .c (.slc 1 0 1 8 (some 8)), some ⟨b8C f, tB, false, true⟩) := by kernel_rfl

theorem b8C_congr {f g : Nat → UInt8} (h : ∀ j, f j = g j) : b8C f = b8C g := by rw [show f = g from funext h]
theorem flF_no {ad : Nat → Bool} {i : Nat} (h : ad i = false) (j : Nat) : flF ad (i + 1) j = flF ad i j := by
  unfold flF
  by_cases hj : j = i
  · subst hj; rw [h]; simp
  · have : Nat.blt j (i + 1) = Nat.blt j i := by
      rw [Bool.eq_iff_iff, Nat.blt_eq, Nat.blt_eq]; omega
    rw [this]
theorem flF_yes {ad : Nat → Bool} {i : Nat} (h : ad i = true) (j : Nat) : (bif Nat.beq j i then 1 else flF ad i j) = flF ad (i + 1) j := by
  unfold flF
  by_cases hj : j = i
  · subst hj
    rw [h, Nat.beq_refl, show Nat.blt j (j + 1) = true by rw [Nat.blt_eq]; omega]; rfl
  · have : Nat.blt j (i + 1) = Nat.blt j i := by
      rw [Bool.eq_iff_iff, Nat.blt_eq, Nat.blt_eq]; omega
    rw [this, show Nat.beq j i = false by rw [← Bool.not_eq_true, Nat.beq_eq]; exact hj]; rfl
theorem fl_fn (ad : Nat → Bool) (w : World) : Sx.Fn Tryz.prog frFlags (atW w 0) [.agg (adC ad)] [] 0 fun x T => x = .c (.slc 1 0 1 8 (some 8)) ∧ T.blk 1 = some ⟨(flL ad).map SC.u8, tB, false, true⟩ := by
  refine Sx.Fn.of (nt := 17) (by kernel_rfl) rfl ?_
  refine SWs.stepL (LibOK.nil _) Sp.mixed [] (fl_start ad) rfl trivial ?_
  refine SWs.loop (by kernel_rfl) (fun i : Nat => flI ad (flF ad i) i) (fun i => 8 - i) (fun i => i ≤ 8) 0 (by omega) ?_
  rintro i hi
  by_cases h8 : i = 8
  · subst h8
    refine SWs.outL (LibOK.nil _) Sp.mixed [false] (fl_out ad _) rfl trivial ?_
    exact SWs.fintL (LibOK.nil _) Sp.mixed [] (fl_end ad _) rfl trivial
  · have hi' : i < 8 := by omega
    cases ha : ad i with
    | false =>
      refine SWs.roundL (LibOK.nil _) Sp.mixed [true, false] (fl_no ad _ i hi') rfl (tn_eq rfl ha) trivial ⟨i + 1, by omega, by omega, ?_⟩
      simp only [show flF ad (i + 1) = flF ad i from funext (flF_no ha)]; rfl
    | true =>
      refine SWs.roundL (LibOK.nil _) Sp.mixed [true, true] (fl_yes ad _ i hi') rfl (ty_eq rfl ha) trivial ⟨i + 1, by omega, by omega, ?_⟩
      simp only [show (fun j => bif Nat.beq j i then 1 else flF ad i j) = flF ad (i + 1) from funext (flF_yes ha)]; rfl
def isB8 (cs : List SC) : Bool := Nat.beq cs.length 8 && cs.all SC.isBool
theorem adC_of {cs : List SC} (h : isB8 cs = true) : cs = adC (gB cs) := by
  simp only [isB8, Bool.and_eq_true] at h
  have hl := Nat.eq_of_beq_eq_true h.1
  match cs, hl, h.2 with
  | [a, b, c, d, e, f, g, k], _, h2 =>
    simp only [List.all_cons, List.all_nil, Bool.and_eq_true] at h2
    obtain ⟨h0, h1, h2, h3, h4, h5, h6, h7, _⟩ := h2
    have cv : ∀ x : SC, x.isBool = true → SC.bool x.asBool = x := fun x hx => by cases x <;> first | rfl | (simp [SC.isBool] at hx; done)
    show _ = [SC.bool a.asBool, SC.bool b.asBool, SC.bool c.asBool, SC.bool d.asBool, SC.bool e.asBool, SC.bool f.asBool, SC.bool g.asBool, SC.bool k.asBool]
    rw [cv a h0, cv b h1, cv c h2, cv d h3, cv e h4, cv f h5, cv g h6, cv k h7]
def flagsC : Con := gNew [false] 0 fun ps rs => match ps, rs with | [.agg cs], [] => some (isB8 cs, ⟨⟨(flL (gB cs)).map SC.u8, tB, false, true⟩, 8, some 8, none⟩) | _, _ => none
theorem flags_ok : ConOK Tryz.prog frFlags flagsC := by
  refine gNew_ok (fn := Tryz.f72) (by kernel_rfl) rfl rfl fun ps rs o h hps hrs w rb hrb => ?_
  split at h <;> try (cases h; done)
  rename_i cs
  simp only [Option.some.injEq, Prod.mk.injEq] at h
  obtain ⟨hok, rfl⟩ := h
  cases hrb
  have e := adC_of hok
  generalize gB cs = t at e
  subst e
  exact Fn_post (fl_fn t w) fun r T h => .inl ⟨1, h⟩

/-! Views. -/
abbrev fVHash : Nat := 31
abbrev frVHash : Nat := 35
def chL (c : Nat → UInt8) : List UInt8 := (chC c).map SC.asU8
def hashL (H : Sp.H4) : List UInt8 := (Sp.hc H).map SC.asU8
def vBy (v : Vi) : List UInt8 := numL v.ep ++ (numL v.k ++ (flL v.ad ++ hashL (thS v.t)))
def vhS (v : Vi) : Sp.H4 := Sp.deriveS (chL v.ch) [118, 105, 101, 119] (vBy v)
abbrev vhL : List (Nat × Con) := [(fNum, numC), (fTHash, thC), (Sp.fDer, Sp.derC)]
theorem vhL_ok : LibOK Tryz.prog vhL := LibOK.cons num_ok (LibOK.cons th_ok (LibOK.cons Sp.der_ok (LibOK.nil _)))
def vhI (v : Vi) (cs : List SC) (m : Nat) (i : Int) : St := ⟨[(1, .c (.ptr 0 0)), (2, .c (.ptr 1 0)), (3, .c (.slc 2 0 1 m none)), (9, .agg (adC v.ad)), (10, .c (.int i))], [(0, some ⟨v.cs, tView, false, true⟩), (1, some ⟨List.replicate 32 (.u8 0), tHash, false, true⟩), (2, some ⟨cs, tB, true, true⟩)], 3, 34⟩
def vhCut (a b : Nat) : Cut := ⟨[(1, false), (2, false), (3, false), (9, true), (10, true)], [(0, 0, true), (a, 1, true), (b, 2, true)], 3⟩
theorem vh_start (v : Vi) : stepL Tryz.prog vhL 0 1000 3 (bodyOf Tryz.prog fVHash) ⟨argTmps [.agg v.cs] 0, [], 0, 34⟩ [] [(3, 1, tB)] (vhCut 4 24) = some (true, [], vhI v [] 0 0) := by kernel_rfl
def vhO (m : Nat) (cs : List SC) (acc : Bool) : Bool := bnd acc (Nat.ble (m + 1) maxLen && (Nat.ble ((m + 1) * 1) 140737488355328 && Nat.ble (m * 1) cs.length))
def vhP (v : Vi) (cs : List SC) (b : UInt8) (m : Nat) : Bool := (v.cs.all SC.plain && ((List.replicate 32 (SC.u8 0)).all SC.plain && ((cs.take (m * 1) ++ [SC.u8 b]).all SC.plain && true)))
theorem vh_no (v : Vi) (cs : List SC) (m : Nat) (i : Nat) (hi : i < 8) : stepL Tryz.prog vhL 0 1000 4 (loopB ((bodyOf Tryz.prog fVHash).drop 3)) (vhI v cs m i) [true, false] [] (vhCut 1 35) = some (bnd (vhO m cs (tn true (v.ad i))) (vhP v cs 0 m), [], vhI v (cs.take (m * 1) ++ [.u8 0]) (m + 1) (i + 1)) := by
  revert i
  refine all8 ?_ ?_ ?_ ?_ ?_ ?_ ?_ ?_ <;> kernel_rfl
theorem vh_yes (v : Vi) (cs : List SC) (m : Nat) (i : Nat) (hi : i < 8) : stepL Tryz.prog vhL 0 1000 4 (loopB ((bodyOf Tryz.prog fVHash).drop 3)) (vhI v cs m i) [true, true] [] (vhCut 1 39) = some (bnd (vhO m cs (ty_ true (v.ad i))) (vhP v cs 1 m), [], vhI v (cs.take (m * 1) ++ [.u8 1]) (m + 1) (i + 1)) := by
  revert i
  refine all8 ?_ ?_ ?_ ?_ ?_ ?_ ?_ ?_ <;> kernel_rfl
theorem vh_out (v : Vi) (cs : List SC) (m : Nat) : exitL Tryz.prog vhL 0 1000 4 (loopB ((bodyOf Tryz.prog fVHash).drop 3)) (vhI v cs m 8) [false] [] (vhCut 1 2) = some (0, bnd true (v.cs.all SC.plain && ((List.replicate 32 (SC.u8 0)).all SC.plain && (cs.all SC.plain && true))), [], vhI v cs m 8) := by kernel_rfl
theorem vh_end (v : Vi) : (finL Tryz.prog vhL fVHash 1000 100 ((bodyOf Tryz.prog fVHash).drop 4) (vhI v ((flL v.ad).map SC.u8) 8 8) []).map (fun q => (q.1, q.2.1, q.2.2.1)) = some (true, [], .agg (Sp.hc (vhS v))) := by kernel_rfl
def flP (ad : Nat → Bool) (i : Nat) : List UInt8 := (List.range i).map fun j => bif ad j then 1 else 0
theorem flP_succ (ad : Nat → Bool) (i : Nat) : flP ad (i + 1) = flP ad i ++ [bif ad i then 1 else 0] := by
  unfold flP
  rw [List.range_succ, List.map_append]; rfl
theorem flP_len (ad : Nat → Bool) (i : Nat) : (flP ad i).length = i := by unfold flP; simp
theorem cs_plain (v : Vi) : v.cs.all SC.plain = true := rfl
theorem vhO_eq {bs : List UInt8} {m : Nat} {acc : Bool} (h : bs.length = m) (hm : m ≤ 8) (ha : acc = true) : vhO m (bs.map SC.u8) acc = true := by
  unfold vhO
  have hM : maxLen = 9223372036854775807 := rfl
  refine bnds ha ?_
  simp only [Bool.and_eq_true, Nat.ble_eq, List.length_map]
  omega
theorem u8_step {bs : List UInt8} {m : Nat} (h : bs.length = m) (b : UInt8) : (bs.map SC.u8).take (m * 1) ++ [SC.u8 b] = (bs ++ [b]).map SC.u8 := by
  rw [Nat.mul_one, List.take_of_length_le (by simp [h]), List.map_append]; rfl
theorem vhP_eq {v : Vi} {bs : List UInt8} {m : Nat} (h : bs.length = m) (b : UInt8) : vhP v (bs.map SC.u8) b m = true := by
  unfold vhP
  rw [cs_plain, u8_step h, Sp.plainU8]; rfl
theorem vh_fn (v : Vi) (w : World) : Sx.Fn Tryz.prog fVHash (atW w 0) [.agg v.cs] [] 0 fun x _ => x = .agg (Sp.hc (vhS v)) := by
  refine Sx.Fn.of (nt := 34) (by kernel_rfl) rfl ?_
  refine SWs.stepL vhL_ok Sp.mixed [] (vh_start v) rfl trivial ?_
  refine SWs.loop (by kernel_rfl) (fun i : Nat => vhI v ((flP v.ad i).map SC.u8) i i) (fun i => 8 - i) (fun i => i ≤ 8) 0 (by omega) ?_
  rintro i hi
  have hl := flP_len v.ad i
  by_cases h8 : i = 8
  · subst h8
    refine SWs.outL vhL_ok Sp.mixed [false] (vh_out v _ _) (bnds rfl (by rw [cs_plain, Sp.plainU8]; rfl)) trivial ?_
    exact SWs.finvL vhL_ok Sp.mixed [] (vh_end v) rfl trivial rfl
  · have hi' : i < 8 := by omega
    cases ha : v.ad i with
    | false =>
      refine SWs.roundL vhL_ok Sp.mixed [true, false] (vh_no v _ _ i hi') rfl (bnds (vhO_eq hl hi (tn_eq rfl ha)) (vhP_eq hl 0)) trivial ⟨i + 1, by omega, by omega, ?_⟩
      rw [u8_step hl, flP_succ, ha]; rfl
    | true =>
      refine SWs.roundL vhL_ok Sp.mixed [true, true] (vh_yes v _ _ i hi') rfl (bnds (vhO_eq hl hi (ty_eq rfl ha)) (vhP_eq hl 1)) trivial ⟨i + 1, by omega, by omega, ?_⟩
      rw [u8_step hl, flP_succ, ha]; rfl
def vhC : Con := viC fun v => .agg (Sp.hc (vhS v))
theorem vh_ok : ConOK Tryz.prog fVHash vhC := viC_ok (fn := Tryz.f31) (by kernel_rfl) rfl rfl (fun _ => rfl) vh_fn
abbrev rvhL : List (Nat × Con) := [(frTHash, thC), (fNums, numsC), (frFlags, flagsC), (Sp.fJoin, Sp.joinC), (Sp.fRDer, Sp.rderC)]
theorem rvhL_ok : LibOK Tryz.prog rvhL := LibOK.cons rth_ok (LibOK.cons nums_ok (LibOK.cons flags_ok (LibOK.cons Sp.join_ok (LibOK.cons Sp.rder_ok (LibOK.nil _)))))
theorem rvh_run (v : Vi) : (xfunL Tryz.prog rvhL 1000 frVHash [.agg v.cs] [] 0 []).map (fun q => (q.1, q.2.1, q.2.2.1)) = some (true, [], .agg (Sp.hc (vhS v))) := by kernel_rfl
theorem rvh_ok : ConOK Tryz.prog frVHash vhC := viC_ok (fn := Tryz.f35) (by kernel_rfl) rfl rfl (fun _ => rfl) fun v w => Fn.xvL rvhL_ok Sp.mixed [] (rvh_run v) rfl trivial rfl

end Go.Proofs.YtabiknpgakhkkaaGreat.Vw
end

