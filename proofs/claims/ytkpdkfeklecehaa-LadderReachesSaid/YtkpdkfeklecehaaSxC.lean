/-
  The executor's operations on structs and arrays by value: a part of one, one built of parts, equality.
-/
import Derived.Test.YtkpdkfeklecehaaSxB
import Derived.Laws.StructEq
namespace Go.Proofs.Ytkpdkfeklecehaa.Sx
open Go.RowKit
set_option linter.unusedVariables false
set_option linter.unusedSimpArgs false

def isAggS (P : Program) (t : TypeId) : Option Bool :=
  match P.underlying t with
  | some (.struct _) => some true
  | some (.array _ _) => some true
  | some _ => some false
  | none => none
theorem isAggS_run {P : Program} {t : TypeId} {b : Bool} (h : isAggS P t = some b) (w : World) : (isAgg t).run P w = .ok b w := by
  unfold isAggS at h
  split at h <;> simp only [Option.some.injEq, reduceCtorEq] at h <;> subst h
  · rename_i hu; simp [isAgg, run_underlying hu]
  · rename_i hu; simp [isAgg, run_underlying hu]
  · rename_i d hu h1 h2
    unfold isAgg
    simp only [Sem.run_bind, run_underlying h2, Result.andThen_ok]
    cases d <;> first | rfl | (exact absurd h2 (by simp_all))
def sizeS (P : Program) (t : TypeId) : Option Nat := (P.info? t).map (·.size)
theorem sizeS_run {P : Program} {t : TypeId} {n : Nat} (h : sizeS P t = some n) (w : World) : (sizeOf t).run P w = .ok n w := by
  unfold sizeS at h
  cases hi : P.info? t with
  | none => simp [hi] at h
  | some i => simp [hi] at h; subst h; simp [sizeOf, typeInfo, hi]

/-- A part of a struct or an array by value. -/
def partS (P : Program) (t : TypeId) (cs : List SC) (off : Nat) : Option SV :=
  match isAggS P t, sizeS P t with
  | some true, some n => some (.agg ((cs.drop off).take n))
  | some false, some _ => (cs[off]?).map SV.c
  | _, _ => none
theorem partS_run {ρ : Ren} {P : Program} {t : TypeId} {cs : List SC} {off : Nat} {r : SV} {vs : List Value} (h : partS P t cs off = some r) (hc : All2 (SC.R ρ) cs vs) (w : World) :
    ∃ v, (part t vs.toArray off).run P w = .ok v w ∧ r.R ρ v := by
  unfold partS at h
  split at h
  · rename_i n ha hs
    simp only [Option.some.injEq] at h; subst h
    refine ⟨.agg ((vs.drop off).take n).toArray, ?_, _, rfl, (hc.drop off).take n⟩
    simp only [part, Sem.run_bind, isAggS_run ha, sizeS_run hs, Result.andThen_ok, if_true, Sem.run_pure]
    congr 1; congr 1
    simp
  · rename_i n ha hs
    cases hx : cs[off]? with
    | none => simp [hx] at h
    | some x =>
      simp [hx] at h; subst h
      obtain ⟨v, hv, hr⟩ := hc.get hx
      refine ⟨v, ?_, hr⟩
      simp only [part, Sem.run_bind, isAggS_run ha, Result.andThen_ok, Bool.false_eq_true, if_false]
      simp [hv]
  · cases h

/-- Are two values of a type one? -/
def eqV (P : Program) : Nat → TypeId → SV → SV → Option Bool
  | 0, _, _, _ => none
  | d + 1, t, x, y =>
    match P.underlying t with
    | some .bool => match x, y with
      | .c (.bool a), .c (.bool b) => some (a == b)
      | _, _ => none
    | some (.int _) => match x, y with
      | .c (.u64 a), .c (.u64 b) => some (a == b)
      | .c (.u8 a), .c (.u8 b) => some (a == b)
      | .c (.int a), .c (.int b) => some (a == b)
      | _, _ => none
    | some .string => match x, y with
      | .c (.str a), .c (.str b) => some (a == b)
      | _, _ => none
    | some (.struct fs) => match x, y with
      | .agg xs, .agg ys => if P.stoodInHeld t then none else
        fs.toList.foldr (fun f acc => if f.name = "_" then none else match partS P f.type xs f.offset, partS P f.type ys f.offset with
          | some a, some b => (match eqV P d f.type a b, acc with | some r, some s => some (r && s) | _, _ => none)
          | _, _ => none) (some true)
      | _, _ => none
    | some (.array n e) => match x, y, sizeS P e with
      | .agg xs, .agg ys, some m =>
        (List.range n).foldr (fun i acc => match partS P e xs (i * m), partS P e ys (i * m) with
          | some a, some b => (match eqV P d e a b, acc with | some r, some s => some (r && s) | _, _ => none)
          | _, _ => none) (some true)
      | _, _, _ => none
    | _ => none

theorem eqf_cons' {P : Program} {d : Nat} {xs ys : Array Value} {f : Field} {fs : List Field} {a b : Value} {r s : Bool} {w : World} (hn : ¬ f.name = "_") (ha : (part f.type xs f.offset).run P w = .ok a w) (hb : (part f.type ys f.offset).run P w = .ok b w) (he : (Op.equalIn d f.type a b).run P w = .ok r w) (hr : (Op.eqFields d xs ys fs).run P w = .ok s w) : (Op.eqFields d xs ys (f :: fs)).run P w = .ok (r && s) w := by
  rw [Op.eqFields]
  simp only [ne_eq, if_pos hn, Sem.run_bind, ha, hb, he, Result.andThen_ok]
  cases r
  · simp
  · simpa using hr

theorem array_rounds {P : Program} {d : Nat} {e : TypeId} {m : Nat} {xs ys : Array Value} (w : World) : ∀ (l : List Nat) (bs : List Bool),
    All2 (fun i b => ∃ u v, (part e xs (i * m)).run P w = .ok u w ∧ (part e ys (i * m)).run P w = .ok v w ∧ (Op.equalIn d e u v).run P w = .ok b w) l bs →
    (forIn l ((none, ()) : Option Bool × Unit) fun i (_ : Option Bool × Unit) => do
        let a ← part e xs (i * m)
        let b ← part e ys (i * m)
        let r ← Op.equalIn d e a b
        if (!r) = true then pure (ForInStep.done (some false, ())) else pure (ForInStep.yield (none, ())) : Sem (Option Bool × Unit)).run P w = .ok (if bs.foldr (· && ·) true then none else some false, ()) w
  | [], _, .nil => by simp
  | i :: l, _, .cons (b := b) (m := bs) ⟨u, v, h1, h2, h3⟩ hr => by
    have ih := array_rounds w l bs hr
    rw [List.forIn_cons]
    simp only [Sem.run_bind, h1, h2, h3, Result.andThen_ok]
    cases b
    · simp
    · simp only [Bool.not_true, Bool.false_eq_true, if_false, Sem.run_pure, Result.andThen_ok, List.foldr_cons, Bool.true_and]
      exact ih

theorem run_equalIn_array {P : Program} (w : World) (d : Nat) (t : TypeId) (n : Nat) (e : TypeId) (m : Nat) (xs ys : Array Value) (ht : P.underlying t = some (.array n e)) (hm : sizeS P e = some m) (bs : List Bool)
    (h : All2 (fun i b => ∃ u v, (part e xs (i * m)).run P w = .ok u w ∧ (part e ys (i * m)).run P w = .ok v w ∧ (Op.equalIn d e u v).run P w = .ok b w) (List.range n) bs) :
    (Op.equalIn (d + 1) t (.agg xs) (.agg ys)).run P w = .ok (bs.foldr (· && ·) true) w := by
  simp only [Op.equalIn, Sem.run_bind, run_underlying ht, Result.andThen_ok, sizeS_run hm]
  rw [List.range_eq_range'] at h
  have := array_rounds w _ bs h
  simp only [Std.Legacy.Range.forIn_eq_forIn_range', Std.Legacy.Range.size]
  simp only [Nat.sub_zero, Nat.add_sub_cancel, Nat.div_one, this, Result.andThen_ok]
  cases bs.foldr (· && ·) true <;> rfl

theorem eqV_run {P : Program} {ρ : Ren} (w : World) : ∀ (d : Nat) (t : TypeId) (x y : SV) (b : Bool) (u v : Value), eqV P d t x y = some b → x.R ρ u → y.R ρ v →
    ∀ D, d ≤ D → (Op.equalIn D t u v).run P w = .ok b w := by
  intro d
  induction d with
  | zero => intro t x y b u v h; simp [eqV] at h
  | succ d ih =>
    intro t x y b u v h hx hy D hD
    obtain ⟨D, rfl⟩ : ∃ k, D = k + 1 := ⟨D - 1, by omega⟩
    have hD' : d ≤ D := by omega
    unfold eqV at h
    split at h
    · rename_i hu
      split at h <;> simp only [Option.some.injEq, reduceCtorEq] at h
      subst h; obtain rfl : u = _ := hx; obtain rfl : v = _ := hy
      simp [Op.equalIn, run_underlying hu]
    · rename_i hu
      split at h <;> simp only [Option.some.injEq, reduceCtorEq] at h
      · subst h; obtain rfl : u = _ := hx; obtain rfl : v = _ := hy
        rw [run_equalIn_int _ _ _ _ _ _ _ hu]
        congr 1; rw [Bool.eq_iff_iff, beq_iff_eq, beq_iff_eq, Int.ofNat_inj, UInt64.toNat_inj]
      · subst h; obtain rfl : u = _ := hx; obtain rfl : v = _ := hy
        rw [run_equalIn_int _ _ _ _ _ _ _ hu]
        congr 1; rw [Bool.eq_iff_iff, beq_iff_eq, beq_iff_eq, Int.ofNat_inj, UInt8.toNat_inj]
      · subst h; obtain rfl : u = _ := hx; obtain rfl : v = _ := hy
        rw [run_equalIn_int _ _ _ _ _ _ _ hu]
    · rename_i hu
      split at h <;> simp only [Option.some.injEq, reduceCtorEq] at h
      subst h; obtain rfl : u = _ := hx; obtain rfl : v = _ := hy
      rw [run_equalIn_string _ _ _ _ _ hu, str_toList, str_toList]
    · rename_i fs hu
      split at h <;> try (simp only [reduceCtorEq] at h; done)
      rename_i xs ys
      by_cases hst : P.stoodInHeld t = true
      · simp [hst] at h
      have hst' : P.stoodInHeld t = false := by simpa using hst
      simp only [hst', Bool.false_eq_true, if_false] at h
      obtain ⟨us, rfl, hus⟩ := hx
      obtain ⟨vs, rfl, hvs⟩ := hy
      have hf : P.fieldsOf t = fs := by simp [Program.fieldsOf, hu]
      rw [run_equalIn_struct (P := P) w D t _ _ (by rw [hf]; exact hu) hst', hf]
      clear hf hu hst hst'
      generalize fs.toList = l at h
      induction l generalizing b with
      | nil => simp only [List.foldr_nil, Option.some.injEq] at h; subst h; simp [Op.eqFields]
      | cons f l ihl =>
        simp only [List.foldr_cons] at h
        by_cases hn : f.name = "_"
        · simp [hn] at h
        simp only [hn, if_false] at h
        split at h <;> try (simp only [reduceCtorEq] at h; done)
        rename_i a c ha hc
        split at h <;> try (simp only [reduceCtorEq] at h; done)
        rename_i r s hr hs
        simp only [Option.some.injEq] at h; subst h
        obtain ⟨a', ha', hra⟩ := partS_run ha hus w
        obtain ⟨c', hc', hrc⟩ := partS_run hc hvs w
        exact eqf_cons' hn ha' hc' (ih _ _ _ _ _ _ hr hra hrc D hD') (ihl s hs)
    · rename_i n e hu
      split at h <;> try (simp only [reduceCtorEq] at h; done)
      rename_i xs ys m hm
      obtain ⟨us, rfl, hus⟩ := hx
      obtain ⟨vs, rfl, hvs⟩ := hy
      have key : ∀ (l : List Nat) (b : Bool), (l.foldr (fun i acc => match partS P e xs (i * m), partS P e ys (i * m) with
          | some a, some b => (match eqV P d e a b, acc with | some r, some s => some (r && s) | _, _ => none)
          | _, _ => none) (some true)) = some b →
          ∃ bs : List Bool, All2 (fun i b => ∃ u v, (part e us.toArray (i * m)).run P w = .ok u w ∧ (part e vs.toArray (i * m)).run P w = .ok v w ∧ (Op.equalIn D e u v).run P w = .ok b w) l bs ∧ bs.foldr (· && ·) true = b := by
        intro l
        induction l with
        | nil => intro b h; simp at h; subst h; exact ⟨[], .nil, rfl⟩
        | cons i l ihl =>
          intro b h
          simp only [List.foldr_cons] at h
          split at h <;> try (simp only [reduceCtorEq] at h; done)
          rename_i a c ha hc
          split at h <;> try (simp only [reduceCtorEq] at h; done)
          rename_i r s hr hs
          simp only [Option.some.injEq] at h; subst h
          obtain ⟨a', ha', hra⟩ := partS_run ha hus w
          obtain ⟨c', hc', hrc⟩ := partS_run hc hvs w
          obtain ⟨bs, hbs, hb⟩ := ihl s hs
          exact ⟨r :: bs, .cons ⟨a', c', ha', hc', ih _ _ _ _ _ _ hr hra hrc D hD'⟩ hbs, by simp [hb]⟩
      obtain ⟨bs, hbs, hb⟩ := key _ _ h
      rw [run_equalIn_array w D t n e m _ _ hu hm bs hbs, hb]
    · cases h

/-- An array's or a struct's cells, some of them anew. -/
def setRange : List SC → Nat → List SC → List SC
  | l, _, [] => l
  | l, off, x :: xs => setRange (l.set off x) (off + 1) xs
def setRangeV : List Value → Nat → List Value → List Value
  | l, _, [] => l
  | l, off, x :: xs => setRangeV (l.set off x) (off + 1) xs
theorem setRange_All2 {ρ : Ren} {xs : List SC} {vs : List Value} (hx : All2 (SC.R ρ) xs vs) : ∀ {l : List SC} {m : List Value} (off : Nat), All2 (SC.R ρ) l m → All2 (SC.R ρ) (setRange l off xs) (setRangeV m off vs) := by
  induction hx with
  | nil => intro l m off h; exact h
  | cons h1 h2 ih => intro l m off h; exact ih (off + 1) (h.set h1 off)
theorem setRange_length : ∀ (xs l : List SC) (off : Nat), (setRange l off xs).length = l.length
  | [], _, _ => rfl
  | x :: xs, l, off => by rw [setRange, setRange_length xs]; simp
theorem setRangeV_length : ∀ (xs l : List Value) (off : Nat), (setRangeV l off xs).length = l.length
  | [], _, _ => rfl
  | x :: xs, l, off => by rw [setRangeV, setRangeV_length xs]; simp

def SV.cells : SV → Option (List SC)
  | .c x => some [x]
  | .agg cs => some cs
  | _ => none
theorem SV.cells_R {ρ : Ren} {x : SV} {cs : List SC} {v : Value} (h : x.cells = some cs) (hx : x.R ρ v) : All2 (SC.R ρ) cs v.cells.toList ∧ ∀ u ∈ v.cells.toList, u.oneCell' = true := by
  have key : ∀ {cs : List SC} {vs : List Value}, All2 (SC.R ρ) cs vs → ∀ u ∈ vs, u.oneCell' = true := fun h => by
    induction h with
    | nil => intro u h; cases h
    | cons h1 h2 ih => intro u hu; rcases List.mem_cons.1 hu with rfl | hu; exact SC.R.one h1; exact ih u hu
  cases x <;> simp only [SV.cells, Option.some.injEq, reduceCtorEq] at h <;> subst h
  · have h1 := SC.R.one hx
    have : v.cells = #[v] := by cases v <;> first | rfl | (simp [Value.oneCell'] at h1)
    rw [this]
    exact ⟨.cons hx .nil, fun u hu => by simp at hu; subst hu; exact h1⟩
  · obtain ⟨vs, rfl, hvs⟩ := hx
    exact ⟨by simpa [Value.cells] using hvs, by simpa [Value.cells] using key hvs⟩

/-- A constant's value. -/
def ofCell : Value → SC
  | .int .i64 n => .int n
  | .int .u8 n => if n = ((UInt8.ofNat n.toNat).toNat : Int) then .u8 (UInt8.ofNat n.toNat) else .ik .u8 n
  | .int .u64 n => if n = ((UInt64.ofNat n.toNat).toNat : Int) then .u64 (UInt64.ofNat n.toNat) else .ik .u64 n
  | .int k n => .ik k n
  | .bool b => .bool b
  | .string s => .str s.data.toList
  | .pointer none => .nilp
  | .slice none 0 0 => .nils
  | v => .raw v
theorem ofCell_R {ρ : Ren} {v : Value} (h : v.oneCell' = true) : (ofCell v).R ρ v := by
  unfold ofCell
  split
  · rfl
  · split
    · rename_i n h; show Value.int .u8 n = _; rw [← h]
    · rfl
  · split
    · rename_i n h; show Value.int .u64 n = _; rw [← h]
    · rfl
  · rfl
  · rfl
  · rfl
  · rfl
  · rfl
  · exact ⟨rfl, h⟩
def ofVal (v : Value) : SV :=
  match v with
  | .agg cs => if cs.all (·.oneCell') then .agg (cs.toList.map ofCell) else .und
  | .tuple _ => .und
  | v => .c (ofCell v)
theorem ofVal_R {ρ : Ren} (v : Value) : (ofVal v).R ρ v := by
  unfold ofVal
  split
  · rename_i cs
    split
    · rename_i h
      refine ⟨cs.toList, by simp, ?_⟩
      have h' : ∀ v ∈ cs.toList, v.oneCell' = true := fun v hv => by
        rw [Array.all_eq_true_iff_forall_mem] at h
        exact h v (by simpa using hv)
      clear h
      generalize cs.toList = l at h'
      induction l with
      | nil => exact .nil
      | cons x l ih => exact .cons (ofCell_R (h' x (by simp))) (ih fun v hv => h' v (by simp [hv]))
    · exact trivial
  · exact trivial
  · rename_i h1 h2
    refine ofCell_R ?_
    unfold Value.oneCell'
    split
    · exact (h1 _ rfl).elim
    · exact (h2 _ rfl).elim
    · rfl

theorem foldl_range (xs : List Value) : ∀ (l : List Value) (off j : Nat), ((xs.zipIdx j).foldl (fun (cs : Array Value) (p : Value × Nat) => cs.setIfInBounds (off + p.2) p.1) l.toArray) = (setRangeV l (off + j) xs).toArray := by
  induction xs with
  | nil => intro l off j; rfl
  | cons x xs ih =>
    intro l off j
    simp only [List.zipIdx_cons, List.foldl_cons, setRangeV]
    have := ih (l.set (off + j) x) off (j + 1)
    rw [← Nat.add_assoc] at this
    rw [← this]
    simp

/-- A struct or an array built of parts. -/
def fillS (place : Nat → Option (Nat × Nat)) (cells : List SC) : List (Nat × SV) → Option (List SC)
  | [] => some cells
  | (i, v) :: rest =>
    match place i, v.cells with
    | some (off, size), some xs => if xs.length ≠ size || Nat.blt cells.length (off + xs.length) then none else fillS place (setRange cells off xs) rest
    | _, _ => none
theorem fillS_run {ρ : Ren} {place : Nat → Option (Nat × Nat)} : ∀ {parts : List (Nat × SV)} {vs : List (Nat × Value)} {cells r : List SC} {cv : List Value},
    All2 (fun (p : Nat × SV) (q : Nat × Value) => p.1 = q.1 ∧ p.2.R ρ q.2) parts vs → All2 (SC.R ρ) cells cv → fillS place cells parts = some r →
    ∃ rv : List Value, Instr.fill place cv.toArray vs = some rv.toArray ∧ All2 (SC.R ρ) r rv := by
  intro parts
  induction parts with
  | nil => intro vs cells r cv h hc hr; cases h; simp [fillS] at hr; subst hr; exact ⟨cv, rfl, hc⟩
  | cons p parts ih =>
    obtain ⟨i, x⟩ := p
    intro vs cells r cv h hc hr
    cases h with
    | @cons _ q _ vs h1 h2 =>
    obtain ⟨j, v⟩ := q
    obtain ⟨hij, hxv⟩ := h1
    simp only at hij hxv; subst hij
    unfold fillS at hr
    split at hr <;> try (cases hr; done)
    rename_i off size xs hp hxs
    obtain ⟨ha, h1⟩ := SV.cells_R hxs hxv
    have hl : v.cells.size = xs.length := by have := ha.length; simpa using this.symm
    split at hr <;> try (cases hr; done)
    rename_i hcond
    simp only [Bool.or_eq_true, not_or, Bool.not_eq_true, ne_eq, decide_not, Bool.not_eq_eq_eq_not, Bool.not_true, decide_eq_false_iff_not, Decidable.not_not] at hcond
    obtain ⟨hsz, hlt⟩ := hcond
    have hle : ¬ (cv.length < off + xs.length) := by
      have := hc.length
      intro hh
      have : Nat.blt cells.length (off + xs.length) = true := by simp [Nat.blt_eq]; omega
      rw [this] at hlt; cases hlt
    obtain ⟨rv, hrv, hr'⟩ := ih h2 (setRange_All2 ha off hc) hr
    refine ⟨rv, ?_, hr'⟩
    rw [Instr.fill]
    simp only [hp]
    have hif : ¬ (v.cells.size ≠ size ∨ off + v.cells.size > cv.toArray.size) := by simp; omega
    simp only [Bool.or_eq_true, decide_eq_true_eq, if_neg hif]
    have := foldl_range v.cells.toList cv off 0
    rw [Nat.add_zero] at this
    rw [← Array.foldl_toList, Array.toList_zipIdx, this]
    exact hrv

def zeroS (P : Program) (t : TypeId) : Option (List SC) :=
  match (P.info? t).bind (·.zero) with
  | some z => (ofVal z).cells
  | none => none
theorem zeroS_run {ρ : Ren} {P : Program} {t : TypeId} {cs : List SC} (h : zeroS P t = some cs) (w : World) : ∃ z, (zeroValue t).run P w = .ok z w ∧ All2 (SC.R ρ) cs z.cells.toList ∧ (ofVal z).cells = some cs := by
  unfold zeroS at h
  split at h <;> try (cases h; done)
  rename_i z hz
  refine ⟨z, ?_, (SV.cells_R h (ofVal_R z)).1, h⟩
  cases hi : P.info? t with
  | none => simp [hi] at hz
  | some i => simp [hi] at hz; simp [zeroValue, typeInfo, hi, hz]

def placesS (P : Program) (fs : List Field) : Option (List (Nat × Nat)) := fs.mapM fun f => (P.info? f.type).map fun i => (f.offset, i.size)

def buildS (P : Program) (t : TypeId) (parts : List (Nat × SV)) : Option SV :=
  match zeroS P t, P.underlying t with
  | some z, some (.struct fs) => match placesS P fs.toList with
    | some ps => (fillS (fun i => ps[i]?) z parts).map SV.agg
    | none => none
  | some z, some (.array _ e) => match sizeS P e with
    | some n => (fillS (fun i => some (i * n, n)) z parts).map SV.agg
    | none => none
  | _, _ => none

theorem buildS_run {ρ : Ren} {P : Program} {t : TypeId} {parts : List (Nat × SV)} {vs : Array (Nat × Value)} {r : SV} (h : buildS P t parts = some r)
    (hp : All2 (fun (p : Nat × SV) (q : Nat × Value) => p.1 = q.1 ∧ p.2.R ρ q.2) parts vs.toList) (w : World) : ∃ v, (Instr.build t vs).run P w = .ok v w ∧ r.R ρ v := by
  unfold buildS at h
  split at h
  · rename_i z fs hz hu
    obtain ⟨zv, hzr, hza, _⟩ := zeroS_run (ρ := ρ) hz w
    split at h <;> try (cases h; done)
    rename_i ps hps
    cases hf : fillS (fun i => ps[i]?) z parts with
    | none => simp [hf] at h
    | some cs =>
      simp [hf] at h; subst h
      obtain ⟨rv, hrv, hr⟩ := fillS_run hp hza hf
      refine ⟨.agg rv.toArray, ?_, rv, rfl, hr⟩
      have h' : Instr.fill (fun x => ps[x]?) zv.cells vs.toList = some rv.toArray := by simpa using hrv
      simp [Instr.build, run_underlying hu, hzr, Array.mapM_eq_mapM_toList, run_places w _ _ hps, h']
  · rename_i z n e hz hu
    obtain ⟨zv, hzr, hza, _⟩ := zeroS_run (ρ := ρ) hz w
    split at h <;> try (cases h; done)
    rename_i m hm
    cases hf : fillS (fun i => some (i * m, m)) z parts with
    | none => simp [hf] at h
    | some cs =>
      simp [hf] at h; subst h
      obtain ⟨rv, hrv, hr⟩ := fillS_run hp hza hf
      refine ⟨.agg rv.toArray, ?_, rv, rfl, hr⟩
      have h' : Instr.fill (fun i => some (i * m, m)) zv.cells vs.toList = some rv.toArray := by simpa using hrv
      simp [Instr.build, run_underlying hu, hzr, sizeS_run hm, h']
  · cases h

end Go.Proofs.Ytkpdkfeklecehaa.Sx
