/-
  Numbers and operations as bytes.
-/
import Derived.Test.YtabiknpgakhkkaaVwO
import Derived.Test.YtabiknpgakhkkaaSpT
import Derived.Test.YtabiknpgakhkkaaSpS
namespace Go.Proofs.Ytabiknpgakhkkaa.Vw
open Go.RowKit Go.Proofs.Ytabiknpgakhkkaa.Sx Go.Proofs.Ytabiknpgakhkkaa.Pw
set_option linter.unusedVariables false
set_option linter.unusedSimpArgs false

abbrev tB : Nat := 5
abbrev fNum : Nat := 27
abbrev frNum : Nat := 32
def byN (n : Int) (k : Nat) : UInt8 := UInt8.ofInt (n.fdiv (2 ^ k))
def numL (n : Int) : List UInt8 := [byN n 56, byN n 48, byN n 40, byN n 32, byN n 24, byN n 16, byN n 8, byN n 0]
def numCs (n : Int) : List SC := [.u8 (byN n 56), .u8 (byN n 48), .u8 (byN n 40), .u8 (byN n 32), .u8 (byN n 24), .u8 (byN n 16), .u8 (byN n 8), .u8 (byN n 0)]
theorem numCs_map (n : Int) : numCs n = (numL n).map SC.u8 := rfl
theorem Fn_post {P : Program} {X : Cx} {f : FuncId} {args : List SV} {T : Tab} {nk : Nat} {Post Post' : SV → Tab → Prop} (h : Sx.Fn P f X args T nk Post) (hP : ∀ r T, Post r T → Post' r T) : Sx.Fn P f X args T nk Post' :=
  fun ρ w vs h1 h2 h3 => (h ρ w vs h1 h2 h3).mono fun e w' ⟨u, v, T', ρ', he, hv, hr⟩ => ⟨u, v, T', ρ', he, hP _ _ hv, hr⟩
def numC : Con := gNew [false] 0 fun ps rs => match ps, rs with | [.c (.int n)], [] => some (true, ⟨⟨numCs n, tB, false, true⟩, 8, some 8, none⟩) | _, _ => none
def rnumC : Con := gNew [false] 0 fun ps rs => match ps, rs with | [.c (.int n)], [] => some (true, ⟨⟨numCs n, tB, true, true⟩, 8, none, none⟩) | _, _ => none
theorem num_ok : ConOK Try.prog fNum numC := by
  refine gNew_ok (fn := Try.f27) (by kernel_rfl) rfl rfl fun ps rs o h hps hrs w rb hrb => ?_
  split at h <;> try (cases h; done)
  rename_i n
  simp only [Option.some.injEq, Prod.mk.injEq, true_and] at h; subst h
  cases hrb
  exact Fn_post (Fn.xtL (fuel := 1000) (k := 4) (LibOK.nil _) Sp.mixed [] (r := .c (.slc 4 0 1 8 (some 8))) (b := some ⟨numCs n, tB, false, true⟩) (ob := true) (obs := []) (by kernel_rfl) rfl trivial) fun r T h => .inl ⟨4, h⟩
theorem rnum_ok : ConOK Try.prog frNum rnumC := by
  refine gNew_ok (fn := Try.f32) (by kernel_rfl) rfl rfl fun ps rs o h hps hrs w rb hrb => ?_
  split at h <;> try (cases h; done)
  rename_i n
  simp only [Option.some.injEq, Prod.mk.injEq, true_and] at h; subst h
  cases hrb
  exact Fn_post (Fn.xtL (fuel := 1000) (k := 472) (LibOK.nil _) Sp.mixed [] (r := .c (.slc 472 0 1 8 none)) (b := some ⟨numCs n, tB, true, true⟩) (ob := true) (obs := []) (by kernel_rfl) rfl trivial) fun r T h => .inl ⟨472, h⟩

/-! Operations as bytes. -/
abbrev fOps : Nat := 28
abbrev frOps : Nat := 33
abbrev fNums : Nat := 62
def nL : List (Nat × Con) := [(fNum, numC)]
theorem nL_ok : LibOK Try.prog nL := LibOK.cons num_ok (LibOK.nil _)
def opsI (r : RB) (cs : List SC) (m : Nat) (i : Int) : St := ⟨[(3, .c (.slc 1 0 1 m none)), (8, .c (.slc 0 r.off 5 r.n none)), (9, .c (.int r.n)), (10, .c (.int i))], [(0, some r.b), (1, some ⟨cs, tB, true, true⟩)], 2, 39⟩
def opsCut (j : Nat) : Cut := ⟨[(3, false), (8, false), (9, true), (10, true)], [(0, 0, true), (j, 1, true)], 2⟩

def apO (m : Nat) (cs : List SC) (acc : Bool) : Bool := bnd acc (Nat.ble (m + 8) maxLen && (Nat.ble ((m + 8) * 1) 140737488355328 && Nat.ble (m * 1) cs.length))
def apC (m : Nat) (cs : List SC) (x : Int) : List SC := cs.take (m * 1) ++ numCs x
def c5 (m : Nat) (cs : List SC) (o : Ope) : List SC := apC (m + 8 + 8 + 8 + 8) (apC (m + 8 + 8 + 8) (apC (m + 8 + 8) (apC (m + 8) (apC m cs o.kind) o.who) o.k) o.sg) o.sl
def o5 (m : Nat) (cs : List SC) (o : Ope) (acc : Bool) : Bool := apO (m + 8 + 8 + 8 + 8) (apC (m + 8 + 8 + 8) (apC (m + 8 + 8) (apC (m + 8) (apC m cs o.kind) o.who) o.k) o.sg) (apO (m + 8 + 8 + 8) (apC (m + 8 + 8) (apC (m + 8) (apC m cs o.kind) o.who) o.k) (apO (m + 8 + 8) (apC (m + 8) (apC m cs o.kind) o.who) (apO (m + 8) (apC m cs o.kind) (apO m cs acc))))
theorem ops_start (off n : Nat) (cells : List SC) (ty : TypeId) : stepL Try.prog nL 0 1000 3 (bodyOf Try.prog fOps) ⟨argTmps [.c (.slc 0 off 5 n none)] 0, [(0, some ⟨cells, ty, true, false⟩)], 1, 39⟩ [] [(3, 1, tB)] (opsCut 21) =
    some (bnd true (pl (rbO off n cells ty)), [], opsI (rbO off n cells ty) [] 0 0) := by kernel_rfl
theorem ops_round (off n : Nat) (cells : List SC) (ty : TypeId) (m : Nat) (cs : List SC) (i : Nat) : stepL Try.prog nL 0 1000 4 (loopB ((bodyOf Try.prog fOps).drop 3)) (opsI (rbO off n cells ty) cs m i) [true] [] (opsCut 286) =
    some (bnd (o5 m cs (opAt (rbO off n cells ty) i) (ldO (rbO off n cells ty) i (ltO (rbO off n cells ty) i))) (cells.all SC.plain && ((c5 m cs (opAt (rbO off n cells ty) i)).all SC.plain && true)), [],
      opsI (rbO off n cells ty) (c5 m cs (opAt (rbO off n cells ty) i)) (m + 8 + 8 + 8 + 8 + 8) (IntKind.i64.wrap ((i : Int) + 1))) := by kernel_rfl
theorem ops_out (off n : Nat) (cells : List SC) (ty : TypeId) (m : Nat) (cs : List SC) : exitL Try.prog nL 0 1000 4 (loopB ((bodyOf Try.prog fOps).drop 3)) (opsI (rbO off n cells ty) cs m n) [false] [] (opsCut 1) =
    some (0, bnd (tn true (decide ((n : Int) < (n : Int)))) (cells.all SC.plain && (cs.all SC.plain && true)), [], opsI (rbO off n cells ty) cs m n) := by kernel_rfl
theorem ops_end (off n : Nat) (cells : List SC) (ty : TypeId) (m : Nat) (cs : List SC) : (finL Try.prog nL fOps 1000 100 ((bodyOf Try.prog fOps).drop 4) (opsI (rbO off n cells ty) cs m n) []).map (fun q => (q.1, q.2.1, q.2.2.1, q.2.2.2.blk 1)) =
    some (true, [], .c (.slc 1 0 1 m none), some ⟨cs, tB, true, true⟩) := by kernel_rfl

/-! The bytes of operations. -/
def opB (o : Ope) : List UInt8 := numL o.kind ++ (numL o.who ++ (numL o.k ++ (numL o.sg ++ numL o.sl)))
def opsBy : List Ope → List UInt8
  | [] => []
  | o :: l => opB o ++ opsBy l
theorem opsBy_len : ∀ l : List Ope, (opsBy l).length = 40 * l.length
  | [] => rfl
  | o :: l => by
    unfold opsBy
    rw [List.length_append, opsBy_len l, List.length_cons]
    have : (opB o).length = 40 := rfl
    omega
theorem opsBy_app : ∀ l m : List Ope, opsBy (l ++ m) = opsBy l ++ opsBy m
  | [], m => rfl
  | o :: l, m => by show opB o ++ opsBy (l ++ m) = opB o ++ opsBy l ++ opsBy m; rw [opsBy_app l m, List.append_assoc]
theorem opsL_take (r : RB) (i : Nat) (hi : i < r.n) : (opsL r).take (i + 1) = (opsL r).take i ++ [opAt r i] := by
  have hl : i < (opsL r).length := by unfold opsL; simpa using hi
  have hg : (opsL r)[i]? = some (opAt r i) := by unfold opsL; simp [hi]
  rw [List.getElem?_eq_getElem hl] at hg
  rw [List.take_succ_eq_append_getElem hl, Option.some.inj hg]
theorem apC_eq (bs : List UInt8) (x : Int) {m : Nat} (h : bs.length = m) : apC m (bs.map SC.u8) x = (bs ++ numL x).map SC.u8 := by
  unfold apC
  rw [Nat.mul_one, List.take_of_length_le (by simp [h]), numCs_map, List.map_append]
theorem apO_eq {m : Nat} {cs : List SC} {acc : Bool} (ha : acc = true) (hm : m ≤ 1000000000) (hl : m ≤ cs.length) : apO m cs acc = true := by
  unfold apO
  have hM : maxLen = 9223372036854775807 := rfl
  refine bnds ha ?_
  simp only [Bool.and_eq_true, Nat.ble_eq]
  omega
theorem c5_eq (bs : List UInt8) (o : Ope) {m : Nat} (h : bs.length = m) : c5 m (bs.map SC.u8) o = (bs ++ opB o).map SC.u8 := by
  have hn : ∀ x, (numL x).length = 8 := fun _ => rfl
  unfold c5
  rw [apC_eq bs _ h, apC_eq _ _ (by rw [List.length_append, h, hn]), apC_eq _ _ (by rw [List.length_append, List.length_append, h, hn, hn]),
    apC_eq _ _ (by rw [List.length_append, List.length_append, List.length_append, h, hn, hn, hn]), apC_eq _ _ (by rw [List.length_append, List.length_append, List.length_append, List.length_append, h, hn, hn, hn, hn])]
  unfold opB
  simp only [List.append_assoc]
theorem o5_eq (bs : List UInt8) (o : Ope) {m : Nat} {acc : Bool} (ha : acc = true) (h : bs.length = m) (hm : m ≤ 100000000) : o5 m (bs.map SC.u8) o acc = true := by
  have hn : ∀ x, (numL x).length = 8 := fun _ => rfl
  unfold o5
  rw [apC_eq bs _ h, apC_eq _ _ (by rw [List.length_append, h, hn]), apC_eq _ _ (by rw [List.length_append, List.length_append, h, hn, hn]),
    apC_eq _ _ (by rw [List.length_append, List.length_append, List.length_append, h, hn, hn, hn])]
  refine apO_eq (apO_eq (apO_eq (apO_eq (apO_eq ha (by omega) ?_) (by omega) ?_) (by omega) ?_) (by omega) ?_) (by omega) ?_ <;>
    simp only [List.length_map, List.length_append, hn] <;> omega
theorem ops_fn (r : RB) (hr : RBok r) (ho : okOps r = true) (hn : r.n ≤ 1000000) (w : World) : Sx.Fn Try.prog fOps (atW w 0) [.c (.slc 0 r.off 5 r.n none)] [(0, some r.b)] 1 fun x T => x = .c (.slc 1 0 1 (40 * r.n) none) ∧ T.blk 1 = some ⟨(opsBy (opsL r)).map SC.u8, tB, true, true⟩ := by
  have hlen : (opsL r).length = r.n := by unfold opsL; simp
  obtain ⟨off, n, cells, ty, tail, own⟩ := r
  obtain ⟨hown, htail, hsole⟩ := hr
  simp only at hown htail hn
  subst hown htail
  have hr : RBok (rbO off n cells ty) := ⟨rfl, rfl, hsole⟩
  have ho : okOps (rbO off n cells ty) = true := ho
  have hlen : (opsL (rbO off n cells ty)).length = n := hlen
  have hpl := pl_eq hr
  have hp1 : cells.all SC.plain = true := sole_plain hsole
  show Sx.Fn Try.prog fOps (atW w 0) [.c (.slc 0 off 5 n none)] [(0, some ⟨cells, ty, true, false⟩)] 1 fun x T => x = .c (.slc 1 0 1 (40 * n) none) ∧ T.blk 1 = some ⟨(opsBy (opsL (rbO off n cells ty))).map SC.u8, tB, true, true⟩
  refine Sx.Fn.of (nt := 39) (by kernel_rfl) rfl ?_
  refine SWs.stepL nL_ok Sp.mixed [] (ops_start off n cells ty) (bnd_eq rfl hpl) trivial ?_
  refine SWs.loop (by kernel_rfl) (fun i : Nat => opsI (rbO off n cells ty) ((opsBy ((opsL (rbO off n cells ty)).take i)).map SC.u8) (40 * i) i) (fun i => n - i) (fun i => i ≤ n) 0 (by omega) ?_
  intro i hi
  have hl : (opsBy ((opsL (rbO off n cells ty)).take i)).length = 40 * i := by rw [opsBy_len, List.length_take, hlen, Nat.min_eq_left hi]
  by_cases hlt : i < n
  · have hO : ldO (rbO off n cells ty) i (ltO (rbO off n cells ty) i) = true := by
      rw [ldO_eq ho hlt]; exact ty_eq rfl (decide_eq_true (by show (i : Int) < (n : Int); omega))
    refine SWs.roundL nL_ok Sp.mixed [true] (ops_round off n cells ty (40 * i) _ i) rfl (bnds (o5_eq _ _ hO hl (by omega)) ?_) trivial ⟨i + 1, by omega, by omega, ?_⟩
    · rw [hp1, c5_eq _ _ hl, Sp.plainU8]; rfl
    · rw [c5_eq _ _ hl, opsL_take _ i hlt, opsBy_app, show opsBy [opAt (rbO off n cells ty) i] = opB (opAt (rbO off n cells ty) i) from List.append_nil _, wrapN (show (0 : Int) ≤ (i : Int) + 1 by omega) (by omega)]
      have : 40 * i + 8 + 8 + 8 + 8 + 8 = 40 * (i + 1) := by omega
      rw [this]; rfl
  · obtain rfl : i = n := by omega
    rw [List.take_of_length_le (by omega)]
    refine SWs.outL nL_ok Sp.mixed [false] (ops_out off i cells ty (40 * i) _) (bnds (tn_eq rfl (decide_eq_false (by omega))) (by rw [hp1, Sp.plainU8]; rfl)) trivial ?_
    exact SWs.fintL nL_ok Sp.mixed [] (ops_end off i cells ty (40 * i) _) rfl trivial
def opsBC : Con := sNew [some 5] fun ps rs => match ps, rs with | [], [r] => some (okOps r && Nat.ble r.n 1000000, ⟨⟨(opsBy (opsL r)).map SC.u8, tB, true, true⟩, 40 * r.n, none, none⟩) | _, _ => none
theorem opsB_ok : ConOK Try.prog fOps opsBC := by
  refine sNew_ok (fn := Try.f28) (by kernel_rfl) rfl rfl fun ps rs o h hps hrs w => ?_
  split at h <;> try (cases h; done)
  rename_i r
  simp only [Option.some.injEq, Prod.mk.injEq, Bool.and_eq_true, Nat.ble_eq] at h
  obtain ⟨⟨ho, hn⟩, rfl⟩ := h
  exact Fn_post (ops_fn r (hrs r (by simp)) ho hn w) fun x T h => .inl ⟨1, h⟩

end Go.Proofs.Ytabiknpgakhkkaa.Vw
