/-
  Some members of votes' laws; Check where nothing is done; what all laws of votes ask last.
-/
import Derived.Test.YtabiknpgakhkkaaVtA
namespace Go.Proofs.Ytabiknpgakhkkaa.Vt
open Go.RowKit Go.Proofs.Ytabiknpgakhkkaa.Sx Go.Proofs.Ytabiknpgakhkkaa.Pw Go.Proofs.Ytabiknpgakhkkaa.Vw
set_option linter.unusedVariables false
set_option linter.unusedSimpArgs false
set_option maxRecDepth 10000

/-! A view of some members. -/
abbrev fSome : Nat := 7
abbrev fSeed : Nat := 10
def seedC (n : Int) : List SC := .u8 (UInt8.ofInt n) :: .u8 5 :: List.replicate 30 (.u8 0)
def keyX (n : Int) : Int := scalS (seedC n)
def keyY (n : Int) : Int := powS 4 (keyX n)
def someV (m a k : Int) : Vi := ⟨0, ⟨fun i => bif decide ((i : Int) < m) then keyY i else 0, fun i => bif decide ((i : Int) < m) then keyY (i + 20) else 0, fun _ => 0⟩, fun i => bif decide ((i : Int) < m) then decide ((i : Int) < a) else false, k, fun _ => 0⟩
noncomputable abbrev smL : List (Nat × Con) := deep Try.prog 1000 [fSeed] [(frFrom, rfromC)] 1
theorem smL_ok : LibOK Try.prog smL := deep_ok (LibOK.cons rfrom_ok (LibOK.nil _)) Sp.mixed (by kernel_rfl) 1
theorem some_0 (a k : Int) : (xfunL Try.prog smL 1000 fSome [.c (.int 0), .c (.int a), .c (.int k)] [] 0 []).map (fun q => (q.1, q.2.1, q.2.2.1)) = some (true, [], .agg (someV 0 a k).cs) := by kernel_rfl
theorem some_1 (a k : Int) : (xfunL Try.prog smL 1000 fSome [.c (.int 1), .c (.int a), .c (.int k)] [] 0 []).map (fun q => (q.1, q.2.1, q.2.2.1)) = some (true, [], .agg (someV 1 a k).cs) := by kernel_rfl
theorem some_2 (a k : Int) : (xfunL Try.prog smL 1000 fSome [.c (.int 2), .c (.int a), .c (.int k)] [] 0 []).map (fun q => (q.1, q.2.1, q.2.2.1)) = some (true, [], .agg (someV 2 a k).cs) := by kernel_rfl
theorem some_3 (a k : Int) : (xfunL Try.prog smL 1000 fSome [.c (.int 3), .c (.int a), .c (.int k)] [] 0 []).map (fun q => (q.1, q.2.1, q.2.2.1)) = some (true, [], .agg (someV 3 a k).cs) := by kernel_rfl
theorem some_4 (a k : Int) : (xfunL Try.prog smL 1000 fSome [.c (.int 4), .c (.int a), .c (.int k)] [] 0 []).map (fun q => (q.1, q.2.1, q.2.2.1)) = some (true, [], .agg (someV 4 a k).cs) := by kernel_rfl
theorem some_5 (a k : Int) : (xfunL Try.prog smL 1000 fSome [.c (.int 5), .c (.int a), .c (.int k)] [] 0 []).map (fun q => (q.1, q.2.1, q.2.2.1)) = some (true, [], .agg (someV 5 a k).cs) := by kernel_rfl
theorem some_6 (a k : Int) : (xfunL Try.prog smL 1000 fSome [.c (.int 6), .c (.int a), .c (.int k)] [] 0 []).map (fun q => (q.1, q.2.1, q.2.2.1)) = some (true, [], .agg (someV 6 a k).cs) := by kernel_rfl
theorem some_7 (a k : Int) : (xfunL Try.prog smL 1000 fSome [.c (.int 7), .c (.int a), .c (.int k)] [] 0 []).map (fun q => (q.1, q.2.1, q.2.2.1)) = some (true, [], .agg (someV 7 a k).cs) := by kernel_rfl
theorem some_8 (a k : Int) : (xfunL Try.prog smL 1000 fSome [.c (.int 8), .c (.int a), .c (.int k)] [] 0 []).map (fun q => (q.1, q.2.1, q.2.2.1)) = some (true, [], .agg (someV 8 a k).cs) := by kernel_rfl
theorem some_fn (m : Nat) (hm : m ≤ 8) (a k : Int) (w : World) : Sx.Fn Try.prog fSome (atW w 0) [.c (.int (.ofNat m)), .c (.int a), .c (.int k)] [] 0 fun x _ => x = .agg (someV m a k).cs := by
  have h : m = 0 ∨ m = 1 ∨ m = 2 ∨ m = 3 ∨ m = 4 ∨ m = 5 ∨ m = 6 ∨ m = 7 ∨ m = 8 := by omega
  rcases h with rfl | rfl | rfl | rfl | rfl | rfl | rfl | rfl | rfl
  · exact Fn.xvL smL_ok Sp.mixed [] (some_0 a k) rfl trivial rfl
  · exact Fn.xvL smL_ok Sp.mixed [] (some_1 a k) rfl trivial rfl
  · exact Fn.xvL smL_ok Sp.mixed [] (some_2 a k) rfl trivial rfl
  · exact Fn.xvL smL_ok Sp.mixed [] (some_3 a k) rfl trivial rfl
  · exact Fn.xvL smL_ok Sp.mixed [] (some_4 a k) rfl trivial rfl
  · exact Fn.xvL smL_ok Sp.mixed [] (some_5 a k) rfl trivial rfl
  · exact Fn.xvL smL_ok Sp.mixed [] (some_6 a k) rfl trivial rfl
  · exact Fn.xvL smL_ok Sp.mixed [] (some_7 a k) rfl trivial rfl
  · exact Fn.xvL smL_ok Sp.mixed [] (some_8 a k) rfl trivial rfl
def memIn (m : Int) : Bool := decide (0 ≤ m) && decide (m ≤ 8)
def someC (S : Int → Int → Int → Vi) : Con := pureConB (fun | [.c (.int m), .c (.int a), .c (.int k)] => memIn m | _ => true) fun | [.c (.int m), .c (.int a), .c (.int k)] => some (.agg (S m a k).cs) | _ => none
theorem some_ok {S : Int → Int → Int → Vi} (hS : S = someV) : ConOK Try.prog fSome (someC S) := by
  subst hS
  refine pureConB_ok (fn := Try.f7) (by kernel_rfl) rfl rfl fun args v hok h => ?_
  split at h <;> try (cases h; done)
  rename_i m a k
  simp only [Option.some.injEq] at h; subst h
  simp only [memIn, Bool.and_eq_true, decide_eq_true_eq] at hok
  refine ⟨rfl, rfl, fun w => ?_⟩
  have := some_fn m.toNat (by omega) a k w
  rw [show (Int.ofNat m.toNat) = m from Int.toNat_of_nonneg hok.1, show ((m.toNat : Nat) : Int) = m from Int.toNat_of_nonneg hok.1] at this
  exact this

/-! Check where nothing is done. -/
abbrev fChk : Nat := 11
def chk0C : Con := sVal [none, none, some 5, some 3] fun ps rs => match ps, rs with | [.agg cs, .c (.int f)], [r, q] => some (isVi cs && Nat.beq r.n 0, .c (.int (bif Nat.beq q.n 0 then 0 else 8))) | _, _ => none
theorem chk0_run (v : Vi) (f : Int) (o1 o2 : Nat) (c1 c2 : List SC) (t1 t2 : TypeId) : (xfunL Try.prog [] 1000 fChk [.agg v.cs, .c (.int f), .c (.slc 0 o1 5 0 none), .c (.slc 1 o2 3 0 none)] [(0, some ⟨c1, t1, true, false⟩), (1, some ⟨c2, t2, true, false⟩)] 2 []).map (fun q => (q.1, q.2.1, q.2.2.1)) =
  some (true, [], .c (.int 0)) := by kernel_rfl
theorem chk1_run (v : Vi) (f : Int) (o1 o2 n : Nat) (c1 c2 : List SC) (t1 t2 : TypeId) : (xfunL Try.prog [] 1000 fChk [.agg v.cs, .c (.int f), .c (.slc 0 o1 5 0 none), .c (.slc 1 o2 3 n none)] [(0, some ⟨c1, t1, true, false⟩), (1, some ⟨c2, t2, true, false⟩)] 2 [true, true]).map (fun q => (q.1, q.2.1, q.2.2.1)) =
  some (ty_ true (decide ((n : Int) > 0)), [], .c (.int 8)) := by kernel_rfl
theorem chk0_ok : ConOK Try.prog fChk chk0C := by
  refine sVal_ok (fn := Try.f11) (by kernel_rfl) rfl rfl fun ps rs v h' hps hrs => ?_
  split at h' <;> try (cases h'; done)
  rename_i cs i r q
  simp only [Option.some.injEq, Prod.mk.injEq, Bool.and_eq_true] at h'
  obtain ⟨⟨hv, hn⟩, rfl⟩ := h'
  replace hn := Nat.eq_of_beq_eq_true hn
  refine ⟨rfl, fun w => ?_⟩
  have e := Vi.of_cs hv
  generalize Vi.of cs = t at e
  subst e
  have h1 := hrs r (by simp)
  have h2 := hrs q (by simp)
  obtain ⟨o1, n1, c1, t1, tail1, own1⟩ := r
  obtain ⟨o2, n2, c2, t2, tail2, own2⟩ := q
  obtain ⟨a1, a2, _⟩ := h1
  obtain ⟨b1, b2, _⟩ := h2
  simp only at a1 a2 b1 b2 hn
  subst a1 a2 b1 b2 hn
  cases n2 with
  | zero => exact Fn.xvL (LibOK.nil _) Sp.mixed [] (chk0_run t i o1 o2 c1 c2 t1 t2) rfl trivial rfl
  | succ k => exact Fn.xvL (LibOK.nil _) Sp.mixed [true, true] (chk1_run t i o1 o2 (k + 1) c1 c2 t1 t2) (ty_eq rfl (decide_eq_true (by omega))) trivial rfl

/-! Known. -/
abbrev fKnownT : Nat := 13
abbrev knL (S : Int → Int → Int → Vi) (P : Vi → Int → List Ope → Sp.H4) : List (Nat × Con) := [(fSome, someC S), (fChk, chk0C), (fPaper, paC P), (frPaper, paC P)]
theorem knL_ok : LibOK Try.prog (knL someV paperS) := LibOK.cons (some_ok rfl) (LibOK.cons chk0_ok (LibOK.cons (pa_ok rfl) (LibOK.cons (rpa_ok rfl) (LibOK.nil _))))
def eqH (G H : Sp.H4) : Bool := andN (fun i => gU (Sp.hc G) i == gU (Sp.hc H) i) 0 32
theorem eqH_self (G : Sp.H4) : eqH G G = true := andN_true fun i => by simp
def knP (S : Int → Int → Int → Vi) (P : Vi → Int → List Ope → Sp.H4) : Sp.H4 := P (Vi.of (S 2 1 1).cs) 0 []
theorem kn_run (S : Int → Int → Int → Vi) (P : Vi → Int → List Ope → Sp.H4) : (xfunL Try.prog (knL S P) 1000 fKnownT [] [] 0 [true, true, true]).map (fun q => (q.1, q.2.1, q.2.2.1)) = some (true, [], .c (.bool (eqH (knP S P) (knP S P)))) := by kernel_rfl
def knownC : Con := pureCon fun | [] => some (.c (.bool true)) | _ => none
theorem known_ok : ConOK Try.prog fKnownT knownC := by
  refine pureCon_ok (fn := Try.f13) (by kernel_rfl) rfl rfl fun args v h => ?_
  split at h <;> try (cases h; done)
  simp only [Option.some.injEq] at h; subst h
  exact ⟨rfl, rfl, fun w => Fn.xvL (fuel := 1000) knL_ok Sp.mixed [true, true, true] (kn_run someV paperS) rfl trivial (by rw [eqH_self])⟩

/-! Where nothing is done. -/
abbrev fEmpty : Nat := 5
abbrev emL : List (Nat × Con) := [(fChk, chk0C), (fKnownT, knownC)]
theorem emL_ok : LibOK Try.prog emL := LibOK.cons chk0_ok (LibOK.cons known_ok (LibOK.nil _))
theorem em_run (v : Vi) (f E Sg a : Int) : (xfunL Try.prog emL 1000 fEmpty [.agg v.cs, .c (.int f), .agg [.int E, .int Sg], .c (.int a)] [] 0 []).map (fun q => (q.1, q.2.1, q.2.2.1)) = some (true, [], .c (.bool true)) := by kernel_rfl
theorem voteEmpty_fn (v : Vi) (f E Sg a : Int) (w : World) : Sx.Fn Try.prog fEmpty (atW w 0) [.agg v.cs, .c (.int f), .agg [.int E, .int Sg], .c (.int a)] [] 0 fun x _ => x = .c (.bool true) := Fn.xvL emL_ok Sp.mixed [] (em_run v f E Sg a) rfl trivial rfl

/-! What is approved is the same for all admins. -/
abbrev fPapers : Nat := 6
abbrev ppL (S : Int → Int → Int → Vi) (P : Vi → Int → List Ope → Sp.H4) : List (Nat × Con) := [(fSome, someC S), (fPaper, paC P), (frPaper, paC P), (fKnownT, knownC)]
theorem ppL_ok : LibOK Try.prog (ppL someV paperS) := LibOK.cons (some_ok rfl) (LibOK.cons (pa_ok rfl) (LibOK.cons (rpa_ok rfl) (LibOK.cons known_ok (LibOK.nil _))))
theorem pp_1 (S : Int → Int → Int → Vi) (P : Vi → Int → List Ope → Sp.H4) (off n : Nat) (cells : List SC) (ty : TypeId) (f : Int) : (xfunL Try.prog (ppL S P) 1000 fPapers [.c (.slc 0 off 5 n none), .c (.int f)] [(0, some ⟨cells, ty, true, false⟩)] 1 [true]).map (fun q => (q.1, q.2.1, q.2.2.1)) = some (ty_ true (decide ((n : Int) > 4)), [], .c (.bool true)) := by kernel_rfl
def paOk (r : RB) : Bool := (r.b.cells.all SC.sole && true) && (okOps r && Nat.ble r.n 1000000)
theorem paOk_eq {r : RB} (hr : RBok r) (ho : okOps r = true) (hn : r.n ≤ 1000000) : paOk r = true := by
  unfold paOk
  rw [hr.2.2, ho, show Nat.ble r.n 1000000 = true by rw [Nat.ble_eq]; exact hn]; rfl
/-- A copy of a row of operations. -/
def cpR (r : RB) : RB := ⟨0, 0 + r.n, ⟨(r.b.cells.drop r.off).take (r.n * 5), 52, true, false⟩⟩
def apR (r : RB) (acc : Bool) : Bool := bnd acc ((Nat.ble (r.off + r.n * 5) r.b.cells.length && true) && (Nat.ble (0 + r.n) maxLen && (Nat.ble ((0 + r.n) * 40) 140737488355328 && true)))
def ppO (S : Int → Int → Int → Vi) (P : Vi → Int → List Ope → Sp.H4) (r : RB) (f : Int) : Bool :=
  tg (bnd (tg (bnd (apR r (bnd (tn true (decide ((r.n : Int) > 4))) (paOk r))) (paOk (cpR r))) (eqH (P (Vi.of (S 4 3 1).cs) f (opsL r)) (P (Vi.of (S 4 3 1).cs) f (opsL (cpR r)))) true) (paOk r)) (eqH (P (Vi.of (S 4 3 1).cs) f (opsL r)) (P (Vi.of (S 4 3 1).cs) f (opsL r))) true
def ppE (S : Int → Int → Int → Vi) (P : Vi → Int → List Ope → Sp.H4) (r : RB) (f : Int) : List Prop := [SV.agg (Sp.hc (P (Vi.of (S 4 3 1).cs) f (opsL r))) = SV.agg (Sp.hc (P (Vi.of (S 4 3 1).cs) f (opsL r))), SV.agg (S 4 3 1).cs = SV.agg (S 4 3 1).cs]
theorem pp_2 (S : Int → Int → Int → Vi) (P : Vi → Int → List Ope → Sp.H4) (off n : Nat) (cells : List SC) (ty : TypeId) (f : Int) : (xfunL Try.prog (ppL S P) 1000 fPapers [.c (.slc 0 off 5 n none), .c (.int f)] [(0, some ⟨cells, ty, true, false⟩)] 1 [false, true, true]).map (fun q => (q.1, q.2.1, q.2.2.1)) =
  some (ppO S P (rbO off n cells ty) f, ppE S P (rbO off n cells ty) f, .c (.bool true)) := by kernel_rfl
theorem cp_get (c : List SC) (o m j : Nat) (hj : j < m) : ((c.drop o).take m).getD j .nilp = c.getD (o + j) .nilp := by
  rw [List.getD_eq_getElem?_getD, List.getD_eq_getElem?_getD, List.getElem?_take, if_pos hj, List.getElem?_drop]
theorem cp_ops (r : RB) : opsL (cpR r) = opsL r := by
  unfold opsL
  show (List.range (0 + r.n)).map _ = (List.range r.n).map _
  rw [Nat.zero_add]
  refine List.map_congr_left fun i hi => ?_
  rw [List.mem_range] at hi
  have e : ∀ j, j < 5 → ((r.b.cells.drop r.off).take (r.n * 5)).getD (0 + i * 5 + j) .nilp = r.b.cells.getD (r.off + i * 5 + j) .nilp := fun j hj => by
    rw [cp_get _ _ _ _ (by omega)]
    congr 1; omega
  unfold opAt gI
  have e0 := e 0 (by omega)
  have e1 := e 1 (by omega)
  have e2 := e 2 (by omega)
  have e3 := e 3 (by omega)
  have e4 := e 4 (by omega)
  show Ope.mk (((r.b.cells.drop r.off).take (r.n * 5)).getD (0 + i * 5 + 0) .nilp).asInt (((r.b.cells.drop r.off).take (r.n * 5)).getD (0 + i * 5 + 1) .nilp).asInt (((r.b.cells.drop r.off).take (r.n * 5)).getD (0 + i * 5 + 2) .nilp).asInt (((r.b.cells.drop r.off).take (r.n * 5)).getD (0 + i * 5 + 3) .nilp).asInt (((r.b.cells.drop r.off).take (r.n * 5)).getD (0 + i * 5 + 4) .nilp).asInt = _
  rw [e0, e1, e2, e3, e4]
  rfl
theorem sub_all {p : SC → Bool} {c : List SC} (o m : Nat) (h : c.all p = true) : ((c.drop o).take m).all p = true := by
  rw [List.all_eq_true] at h ⊢
  intro x hx
  exact h x (List.mem_of_mem_drop (List.mem_of_mem_take hx))
theorem cp_ok {r : RB} (hr : RBok r) (ho : okOps r = true) : RBok (cpR r) ∧ okOps (cpR r) = true := by
  refine ⟨⟨rfl, rfl, sub_all _ _ hr.2.2⟩, ?_⟩
  unfold okOps at ho ⊢
  simp only [Bool.and_eq_true, Nat.ble_eq] at ho ⊢
  refine ⟨?_, ?_⟩
  · show 0 + (0 + r.n) * 5 ≤ ((r.b.cells.drop r.off).take (r.n * 5)).length
    rw [List.length_take, List.length_drop]; omega
  · exact sub_all _ _ ho.2
theorem votePapers_fn (r : RB) (hr : RBok r) (ho : okOps r = true) (f : Int) (w : World) : Sx.Fn Try.prog fPapers (atW w 0) [.c (.slc 0 r.off 5 r.n none), .c (.int f)] [(0, some r.b)] 1 fun x _ => x = .c (.bool true) := by
  obtain ⟨off, n, cells, ty, tail, own⟩ := r
  obtain ⟨hown, htail, hs⟩ := hr
  simp only at hown htail
  subst hown htail
  have hr : RBok (rbO off n cells ty) := ⟨rfl, rfl, hs⟩
  have ho : okOps (rbO off n cells ty) = true := ho
  have hM : maxLen = 9223372036854775807 := rfl
  cases h1 : decide ((n : Int) > 4) with
  | true => exact Fn.xvL ppL_ok Sp.mixed [true] (pp_1 someV paperS off n cells ty f) (ty_eq rfl h1) trivial rfl
  | false =>
  have b1 : n ≤ 4 := by rw [decide_eq_false_iff_not] at h1; omega
  have hp := paOk_eq hr ho (by show n ≤ 1000000; omega)
  have hc := cp_ok hr ho
  have hl : off + n * 5 ≤ cells.length := by
    unfold okOps at ho
    simp only [Bool.and_eq_true, Nat.ble_eq] at ho
    exact ho.1
  refine Fn.xvL ppL_ok Sp.mixed [false, true, true] (pp_2 someV paperS off n cells ty f) ?_ ⟨rfl, rfl, trivial⟩ rfl
  refine tg_eq (bnds (tg_eq (bnds (bnds (bnds (tn_eq rfl h1) hp) ?_) (paOk_eq hc.1 hc.2 (by show 0 + n ≤ 1000000; omega))) ?_) hp) (eqH_self _)
  · show ((Nat.ble (off + n * 5) cells.length && true) && (Nat.ble (0 + n) maxLen && (Nat.ble ((0 + n) * 40) 140737488355328 && true))) = true
    simp only [Bool.and_eq_true, Nat.ble_eq, and_true]; omega
  · rw [cp_ops]; exact eqH_self _

end Go.Proofs.Ytabiknpgakhkkaa.Vt
