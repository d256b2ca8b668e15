/-
  The executor's operations on structs and arrays by value: a part of one, one built of parts, equality. The executor's operations that look at no memory.
-/
import Derived.Laws.StructEq
import Derived.Test.YtabiknpgakhkkaaGreatSxB
set_option maxRecDepth 20000
section
namespace Go.Proofs.YtabiknpgakhkkaaGreat.Sx
open Go.RowKit
set_option linter.unusedVariables false
set_option linter.unusedSimpArgs false

def isAggS (P : Program) (t : TypeId) : Option Bool :=
  match P.underlying t with
  | some (.struct _) => some true
  | some (.array _ _) => some true
  | some _ => some false
  | none => none
theorem isAggS_run {P : Program} {t : TypeId} {b : Bool} (h : isAggS P t = some b) (w : World) : (isAgg t).run P w = .ok b w := by
  unfold isAggS at h
  split at h <;> simp only [Option.some.injEq, reduceCtorEq] at h <;> subst h
  · rename_i hu; simp [isAgg, run_underlying hu]
  · rename_i hu; simp [isAgg, run_underlying hu]
  · rename_i d hu h1 h2
    unfold isAgg
    simp only [Sem.run_bind, run_underlying h2, Result.andThen_ok]
    cases d <;> first | rfl | (exact absurd h2 (by simp_all))
def sizeS (P : Program) (t : TypeId) : Option Nat := (P.info? t).map (·.size)
theorem sizeS_run {P : Program} {t : TypeId} {n : Nat} (h : sizeS P t = some n) (w : World) : (sizeOf t).run P w = .ok n w := by
  unfold sizeS at h
  cases hi : P.info? t with
  | none => simp [hi] at h
  | some i => simp [hi] at h; subst h; simp [sizeOf, typeInfo, hi]

/-- A part of a struct or an array by value. -/
def partS (P : Program) (t : TypeId) (cs : List SC) (off : Nat) : Option SV :=
  match isAggS P t, sizeS P t with
  | some true, some n => some (.agg ((cs.drop off).take n))
  | some false, some _ => (cs[off]?).map SV.c
  | _, _ => none
theorem partS_run {ρ : Ren} {P : Program} {t : TypeId} {cs : List SC} {off : Nat} {r : SV} {vs : List Value} (h : partS P t cs off = some r) (hc : All2 (SC.R ρ) cs vs) (w : World) :
    ∃ v, (part t vs.toArray off).run P w = .ok v w ∧ r.R ρ v := by
  unfold partS at h
  split at h
  · rename_i n ha hs
    simp only [Option.some.injEq] at h; subst h
    refine ⟨.agg ((vs.drop off).take n).toArray, ?_, _, rfl, (hc.drop off).take n⟩
    simp only [part, Sem.run_bind, isAggS_run ha, sizeS_run hs, Result.andThen_ok, if_true, Sem.run_pure]
    congr 1; congr 1
    simp
  · rename_i n ha hs
    cases hx : cs[off]? with
    | none => simp [hx] at h
    | some x =>
      simp [hx] at h; subst h
      obtain ⟨v, hv, hr⟩ := hc.get hx
      refine ⟨v, ?_, hr⟩
      simp only [part, Sem.run_bind, isAggS_run ha, Result.andThen_ok, Bool.false_eq_true, if_false]
      simp [hv]
  · cases h

/-- Are two values of a type one? -/
def eqV (P : Program) : Nat → TypeId → SV → SV → Option Bool
  | 0, _, _, _ => none
  | d + 1, t, x, y =>
    match P.underlying t with
    | some .bool => match x, y with
      | .c (.bool a), .c (.bool b) => some (a == b)
      | _, _ => none
    | some (.int _) => match x, y with
      | .c (.u64 a), .c (.u64 b) => some (a == b)
      | .c (.u8 a), .c (.u8 b) => some (a == b)
      | .c (.int a), .c (.int b) => some (a == b)
      | _, _ => none
    | some .string => match x, y with
      | .c (.str a), .c (.str b) => some (a == b)
      | _, _ => none
    | some (.struct fs) => match x, y with
      | .agg xs, .agg ys => if P.stoodInHeld t then none else
        fs.toList.foldr (fun f acc => if f.name = "_" then none else match partS P f.type xs f.offset, partS P f.type ys f.offset with
          | some a, some b => (match eqV P d f.type a b, acc with | some r, some s => some (r && s) | _, _ => none)
          | _, _ => none) (some true)
      | _, _ => none
    | some (.array n e) => match x, y, sizeS P e with
      | .agg xs, .agg ys, some m =>
        (List.range n).foldr (fun i acc => match partS P e xs (i * m), partS P e ys (i * m) with
          | some a, some b => (match eqV P d e a b, acc with | some r, some s => some (r && s) | _, _ => none)
          | _, _ => none) (some true)
      | _, _, _ => none
    | _ => none

theorem eqf_cons' {P : Program} {d : Nat} {xs ys : Array Value} {f : Field} {fs : List Field} {a b : Value} {r s : Bool} {w : World} (hn : ¬ f.name = "_") (ha : (part f.type xs f.offset).run P w = .ok a w) (hb : (part f.type ys f.offset).run P w = .ok b w) (he : (Op.equalIn d f.type a b).run P w = .ok r w) (hr : (Op.eqFields d xs ys fs).run P w = .ok s w) : (Op.eqFields d xs ys (f :: fs)).run P w = .ok (r && s) w := by
  rw [Op.eqFields]
  simp only [ne_eq, if_pos hn, Sem.run_bind, ha, hb, he, Result.andThen_ok]
  cases r
  · simp
  · simpa using hr

theorem array_rounds {P : Program} {d : Nat} {e : TypeId} {m : Nat} {xs ys : Array Value} (w : World) : ∀ (l : List Nat) (bs : List Bool),
    All2 (fun i b => ∃ u v, (part e xs (i * m)).run P w = .ok u w ∧ (part e ys (i * m)).run P w = .ok v w ∧ (Op.equalIn d e u v).run P w = .ok b w) l bs →
    (forIn l ((none, ()) : Option Bool × Unit) fun i (_ : Option Bool × Unit) => do
        let a ← part e xs (i * m)
        let b ← part e ys (i * m)
        let r ← Op.equalIn d e a b
        if (!r) = true then pure (ForInStep.done (some false, ())) else pure (ForInStep.yield (none, ())) : Sem (Option Bool × Unit)).run P w = .ok (if bs.foldr (· && ·) true then none else some false, ()) w
  | [], _, .nil => by simp
  | i :: l, _, .cons (b := b) (m := bs) ⟨u, v, h1, h2, h3⟩ hr => by
    have ih := array_rounds w l bs hr
    rw [List.forIn_cons]
    simp only [Sem.run_bind, h1, h2, h3, Result.andThen_ok]
    cases b
    · simp
    · simp only [Bool.not_true, Bool.false_eq_true, if_false, Sem.run_pure, Result.andThen_ok, List.foldr_cons, Bool.true_and]
      exact ih

theorem run_equalIn_array {P : Program} (w : World) (d : Nat) (t : TypeId) (n : Nat) (e : TypeId) (m : Nat) (xs ys : Array Value) (ht : P.underlying t = some (.array n e)) (hm : sizeS P e = some m) (bs : List Bool)
    (h : All2 (fun i b => ∃ u v, (part e xs (i * m)).run P w = .ok u w ∧ (part e ys (i * m)).run P w = .ok v w ∧ (Op.equalIn d e u v).run P w = .ok b w) (List.range n) bs) :
    (Op.equalIn (d + 1) t (.agg xs) (.agg ys)).run P w = .ok (bs.foldr (· && ·) true) w := by
  simp only [Op.equalIn, Sem.run_bind, run_underlying ht, Result.andThen_ok, sizeS_run hm]
  rw [List.range_eq_range'] at h
  have := array_rounds w _ bs h
  simp only [Std.Legacy.Range.forIn_eq_forIn_range', Std.Legacy.Range.size]
  simp only [Nat.sub_zero, Nat.add_sub_cancel, Nat.div_one, this, Result.andThen_ok]
  cases bs.foldr (· && ·) true <;> rfl

theorem eqV_run {P : Program} {ρ : Ren} (w : World) : ∀ (d : Nat) (t : TypeId) (x y : SV) (b : Bool) (u v : Value), eqV P d t x y = some b → x.R ρ u → y.R ρ v →
    ∀ D, d ≤ D → (Op.equalIn D t u v).run P w = .ok b w := by
  intro d
  induction d with
  | zero => intro t x y b u v h; simp [eqV] at h
  | succ d ih =>
    intro t x y b u v h hx hy D hD
    obtain ⟨D, rfl⟩ : ∃ k, D = k + 1 := ⟨D - 1, by omega⟩
    have hD' : d ≤ D := by omega
    unfold eqV at h
    split at h
    · rename_i hu
      split at h <;> simp only [Option.some.injEq, reduceCtorEq] at h
      subst h; obtain rfl : u = _ := hx; obtain rfl : v = _ := hy
      simp [Op.equalIn, run_underlying hu]
    · rename_i hu
      split at h <;> simp only [Option.some.injEq, reduceCtorEq] at h
      · subst h; obtain rfl : u = _ := hx; obtain rfl : v = _ := hy
        rw [run_equalIn_int _ _ _ _ _ _ _ hu]
        congr 1; rw [Bool.eq_iff_iff, beq_iff_eq, beq_iff_eq, Int.ofNat_inj, UInt64.toNat_inj]
      · subst h; obtain rfl : u = _ := hx; obtain rfl : v = _ := hy
        rw [run_equalIn_int _ _ _ _ _ _ _ hu]
        congr 1; rw [Bool.eq_iff_iff, beq_iff_eq, beq_iff_eq, Int.ofNat_inj, UInt8.toNat_inj]
      · subst h; obtain rfl : u = _ := hx; obtain rfl : v = _ := hy
        rw [run_equalIn_int _ _ _ _ _ _ _ hu]
    · rename_i hu
      split at h <;> simp only [Option.some.injEq, reduceCtorEq] at h
      subst h; obtain rfl : u = _ := hx; obtain rfl : v = _ := hy
      rw [run_equalIn_string _ _ _ _ _ hu, str_toList, str_toList]
    · rename_i fs hu
      split at h <;> try (simp only [reduceCtorEq] at h; done)
      rename_i xs ys
      by_cases hst : P.stoodInHeld t = true
      · simp [hst] at h
      have hst' : P.stoodInHeld t = false := by simpa using hst
      simp only [hst', Bool.false_eq_true, if_false] at h
      obtain ⟨us, rfl, hus⟩ := hx
      obtain ⟨vs, rfl, hvs⟩ := hy
      have hf : P.fieldsOf t = fs := by simp [Program.fieldsOf, hu]
      rw [run_equalIn_struct (P := P) w D t _ _ (by rw [hf]; exact hu) hst', hf]
      clear hf hu hst hst'
      generalize fs.toList = l at h
      induction l generalizing b with
      | nil => simp only [List.foldr_nil, Option.some.injEq] at h; subst h; simp [Op.eqFields]
      | cons f l ihl =>
        simp only [List.foldr_cons] at h
        by_cases hn : f.name = "_"
        · simp [hn] at h
        simp only [hn, if_false] at h
        split at h <;> try (simp only [reduceCtorEq] at h; done)
        rename_i a c ha hc
        split at h <;> try (simp only [reduceCtorEq] at h; done)
        rename_i r s hr hs
        simp only [Option.some.injEq] at h; subst h
        obtain ⟨a', ha', hra⟩ := partS_run ha hus w
        obtain ⟨c', hc', hrc⟩ := partS_run hc hvs w
        exact eqf_cons' hn ha' hc' (ih _ _ _ _ _ _ hr hra hrc D hD') (ihl s hs)
    · rename_i n e hu
      split at h <;> try (simp only [reduceCtorEq] at h; done)
      rename_i xs ys m hm
      obtain ⟨us, rfl, hus⟩ := hx
      obtain ⟨vs, rfl, hvs⟩ := hy
      have key : ∀ (l : List Nat) (b : Bool), (l.foldr (fun i acc => match partS P e xs (i * m), partS P e ys (i * m) with
          | some a, some b => (match eqV P d e a b, acc with | some r, some s => some (r && s) | _, _ => none)
          | _, _ => none) (some true)) = some b →
          ∃ bs : List Bool, All2 (fun i b => ∃ u v, (part e us.toArray (i * m)).run P w = .ok u w ∧ (part e vs.toArray (i * m)).run P w = .ok v w ∧ (Op.equalIn D e u v).run P w = .ok b w) l bs ∧ bs.foldr (· && ·) true = b := by
        intro l
        induction l with
        | nil => intro b h; simp at h; subst h; exact ⟨[], .nil, rfl⟩
        | cons i l ihl =>
          intro b h
          simp only [List.foldr_cons] at h
          split at h <;> try (simp only [reduceCtorEq] at h; done)
          rename_i a c ha hc
          split at h <;> try (simp only [reduceCtorEq] at h; done)
          rename_i r s hr hs
          simp only [Option.some.injEq] at h; subst h
          obtain ⟨a', ha', hra⟩ := partS_run ha hus w
          obtain ⟨c', hc', hrc⟩ := partS_run hc hvs w
          obtain ⟨bs, hbs, hb⟩ := ihl s hs
          exact ⟨r :: bs, .cons ⟨a', c', ha', hc', ih _ _ _ _ _ _ hr hra hrc D hD'⟩ hbs, by simp [hb]⟩
      obtain ⟨bs, hbs, hb⟩ := key _ _ h
      rw [run_equalIn_array w D t n e m _ _ hu hm bs hbs, hb]
    · cases h

/-- An array's or a struct's cells, some of them anew. -/
def setRange : List SC → Nat → List SC → List SC
  | l, _, [] => l
  | l, off, x :: xs => setRange (l.set off x) (off + 1) xs
def setRangeV : List Value → Nat → List Value → List Value
  | l, _, [] => l
  | l, off, x :: xs => setRangeV (l.set off x) (off + 1) xs
theorem setRange_All2 {ρ : Ren} {xs : List SC} {vs : List Value} (hx : All2 (SC.R ρ) xs vs) : ∀ {l : List SC} {m : List Value} (off : Nat), All2 (SC.R ρ) l m → All2 (SC.R ρ) (setRange l off xs) (setRangeV m off vs) := by
  induction hx with
  | nil => intro l m off h; exact h
  | cons h1 h2 ih => intro l m off h; exact ih (off + 1) (h.set h1 off)
theorem setRange_length : ∀ (xs l : List SC) (off : Nat), (setRange l off xs).length = l.length
  | [], _, _ => rfl
  | x :: xs, l, off => by rw [setRange, setRange_length xs]; simp
theorem setRangeV_length : ∀ (xs l : List Value) (off : Nat), (setRangeV l off xs).length = l.length
  | [], _, _ => rfl
  | x :: xs, l, off => by rw [setRangeV, setRangeV_length xs]; simp

def SV.cells : SV → Option (List SC)
  | .c x => some [x]
  | .agg cs => some cs
  | _ => none
theorem SV.cells_R {ρ : Ren} {x : SV} {cs : List SC} {v : Value} (h : x.cells = some cs) (hx : x.R ρ v) : All2 (SC.R ρ) cs v.cells.toList ∧ ∀ u ∈ v.cells.toList, u.oneCell' = true := by
  have key : ∀ {cs : List SC} {vs : List Value}, All2 (SC.R ρ) cs vs → ∀ u ∈ vs, u.oneCell' = true := fun h => by
    induction h with
    | nil => intro u h; cases h
    | cons h1 h2 ih => intro u hu; rcases List.mem_cons.1 hu with rfl | hu; exact SC.R.one h1; exact ih u hu
  cases x <;> simp only [SV.cells, Option.some.injEq, reduceCtorEq] at h <;> subst h
  · have h1 := SC.R.one hx
    have : v.cells = #[v] := by cases v <;> first | rfl | (simp [Value.oneCell'] at h1)
    rw [this]
    exact ⟨.cons hx .nil, fun u hu => by simp at hu; subst hu; exact h1⟩
  · obtain ⟨vs, rfl, hvs⟩ := hx
    exact ⟨by simpa [Value.cells] using hvs, by simpa [Value.cells] using key hvs⟩

/-- A constant's value. -/
def ofCell : Value → SC
  | .int .i64 n => .int n
  | .int .u8 n => if n = ((UInt8.ofNat n.toNat).toNat : Int) then .u8 (UInt8.ofNat n.toNat) else .ik .u8 n
  | .int .u64 n => if n = ((UInt64.ofNat n.toNat).toNat : Int) then .u64 (UInt64.ofNat n.toNat) else .ik .u64 n
  | .int k n => .ik k n
  | .bool b => .bool b
  | .string s => .str s.data.toList
  | .pointer none => .nilp
  | .slice none 0 0 => .nils
  | v => .raw v
theorem ofCell_R {ρ : Ren} {v : Value} (h : v.oneCell' = true) : (ofCell v).R ρ v := by
  unfold ofCell
  split
  · rfl
  · split
    · rename_i n h; show Value.int .u8 n = _; rw [← h]
    · rfl
  · split
    · rename_i n h; show Value.int .u64 n = _; rw [← h]
    · rfl
  · rfl
  · rfl
  · rfl
  · rfl
  · rfl
  · exact ⟨rfl, h⟩
def ofVal (v : Value) : SV :=
  match v with
  | .agg cs => if cs.all (·.oneCell') then .agg (cs.toList.map ofCell) else .und
  | .tuple _ => .und
  | v => .c (ofCell v)
theorem ofVal_R {ρ : Ren} (v : Value) : (ofVal v).R ρ v := by
  unfold ofVal
  split
  · rename_i cs
    split
    · rename_i h
      refine ⟨cs.toList, by simp, ?_⟩
      have h' : ∀ v ∈ cs.toList, v.oneCell' = true := fun v hv => by
        rw [Array.all_eq_true_iff_forall_mem] at h
        exact h v (by simpa using hv)
      clear h
      generalize cs.toList = l at h'
      induction l with
      | nil => exact .nil
      | cons x l ih => exact .cons (ofCell_R (h' x (by simp))) (ih fun v hv => h' v (by simp [hv]))
    · exact trivial
  · exact trivial
  · rename_i h1 h2
    refine ofCell_R ?_
    unfold Value.oneCell'
    split
    · exact (h1 _ rfl).elim
    · exact (h2 _ rfl).elim
    · rfl

theorem foldl_range (xs : List Value) : ∀ (l : List Value) (off j : Nat), ((xs.zipIdx j).foldl (fun (cs : Array Value) (p : Value × Nat) => cs.setIfInBounds (off + p.2) p.1) l.toArray) = (setRangeV l (off + j) xs).toArray := by
  induction xs with
  | nil => intro l off j; rfl
  | cons x xs ih =>
    intro l off j
    simp only [List.zipIdx_cons, List.foldl_cons, setRangeV]
    have := ih (l.set (off + j) x) off (j + 1)
    rw [← Nat.add_assoc] at this
    rw [← this]
    simp

/-- A struct or an array built of parts. -/
def fillS (place : Nat → Option (Nat × Nat)) (cells : List SC) : List (Nat × SV) → Option (List SC)
  | [] => some cells
  | (i, v) :: rest =>
    match place i, v.cells with
    | some (off, size), some xs => if xs.length ≠ size || Nat.blt cells.length (off + xs.length) then none else fillS place (setRange cells off xs) rest
    | _, _ => none
theorem fillS_run {ρ : Ren} {place : Nat → Option (Nat × Nat)} : ∀ {parts : List (Nat × SV)} {vs : List (Nat × Value)} {cells r : List SC} {cv : List Value},
    All2 (fun (p : Nat × SV) (q : Nat × Value) => p.1 = q.1 ∧ p.2.R ρ q.2) parts vs → All2 (SC.R ρ) cells cv → fillS place cells parts = some r →
    ∃ rv : List Value, Instr.fill place cv.toArray vs = some rv.toArray ∧ All2 (SC.R ρ) r rv := by
  intro parts
  induction parts with
  | nil => intro vs cells r cv h hc hr; cases h; simp [fillS] at hr; subst hr; exact ⟨cv, rfl, hc⟩
  | cons p parts ih =>
    obtain ⟨i, x⟩ := p
    intro vs cells r cv h hc hr
    cases h with
    | @cons _ q _ vs h1 h2 =>
    obtain ⟨j, v⟩ := q
    obtain ⟨hij, hxv⟩ := h1
    simp only at hij hxv; subst hij
    unfold fillS at hr
    split at hr <;> try (cases hr; done)
    rename_i off size xs hp hxs
    obtain ⟨ha, h1⟩ := SV.cells_R hxs hxv
    have hl : v.cells.size = xs.length := by have := ha.length; simpa using this.symm
    split at hr <;> try (cases hr; done)
    rename_i hcond
    simp only [Bool.or_eq_true, not_or, Bool.not_eq_true, ne_eq, decide_not, Bool.not_eq_eq_eq_not, Bool.not_true, decide_eq_false_iff_not, Decidable.not_not] at hcond
    obtain ⟨hsz, hlt⟩ := hcond
    have hle : ¬ (cv.length < off + xs.length) := by
      have := hc.length
      intro hh
      have : Nat.blt cells.length (off + xs.length) = true := by simp [Nat.blt_eq]; omega
      rw [this] at hlt; cases hlt
    obtain ⟨rv, hrv, hr'⟩ := ih h2 (setRange_All2 ha off hc) hr
    refine ⟨rv, ?_, hr'⟩
    rw [Instr.fill]
    simp only [hp]
    have hif : ¬ (v.cells.size ≠ size ∨ off + v.cells.size > cv.toArray.size) := by simp; omega
    simp only [Bool.or_eq_true, decide_eq_true_eq, if_neg hif]
    have := foldl_range v.cells.toList cv off 0
    rw [Nat.add_zero] at this
    rw [← Array.foldl_toList, Array.toList_zipIdx, this]
    exact hrv

def zeroS (P : Program) (t : TypeId) : Option (List SC) :=
  match (P.info? t).bind (·.zero) with
  | some z => (ofVal z).cells
  | none => none
theorem zeroS_run {ρ : Ren} {P : Program} {t : TypeId} {cs : List SC} (h : zeroS P t = some cs) (w : World) : ∃ z, (zeroValue t).run P w = .ok z w ∧ All2 (SC.R ρ) cs z.cells.toList ∧ (ofVal z).cells = some cs := by
  unfold zeroS at h
  split at h <;> try (cases h; done)
  rename_i z hz
  refine ⟨z, ?_, (SV.cells_R h (ofVal_R z)).1, h⟩
  cases hi : P.info? t with
  | none => simp [hi] at hz
  | some i => simp [hi] at hz; simp [zeroValue, typeInfo, hi, hz]

def placesS (P : Program) (fs : List Field) : Option (List (Nat × Nat)) := fs.mapM fun f => (P.info? f.type).map fun i => (f.offset, i.size)

def buildS (P : Program) (t : TypeId) (parts : List (Nat × SV)) : Option SV :=
  match zeroS P t, P.underlying t with
  | some z, some (.struct fs) => match placesS P fs.toList with
    | some ps => (fillS (fun i => ps[i]?) z parts).map SV.agg
    | none => none
  | some z, some (.array _ e) => match sizeS P e with
    | some n => (fillS (fun i => some (i * n, n)) z parts).map SV.agg
    | none => none
  | _, _ => none

theorem buildS_run {ρ : Ren} {P : Program} {t : TypeId} {parts : List (Nat × SV)} {vs : Array (Nat × Value)} {r : SV} (h : buildS P t parts = some r)
    (hp : All2 (fun (p : Nat × SV) (q : Nat × Value) => p.1 = q.1 ∧ p.2.R ρ q.2) parts vs.toList) (w : World) : ∃ v, (Instr.build t vs).run P w = .ok v w ∧ r.R ρ v := by
  unfold buildS at h
  split at h
  · rename_i z fs hz hu
    obtain ⟨zv, hzr, hza, _⟩ := zeroS_run (ρ := ρ) hz w
    split at h <;> try (cases h; done)
    rename_i ps hps
    cases hf : fillS (fun i => ps[i]?) z parts with
    | none => simp [hf] at h
    | some cs =>
      simp [hf] at h; subst h
      obtain ⟨rv, hrv, hr⟩ := fillS_run hp hza hf
      refine ⟨.agg rv.toArray, ?_, rv, rfl, hr⟩
      have h' : Instr.fill (fun x => ps[x]?) zv.cells vs.toList = some rv.toArray := by simpa using hrv
      simp [Instr.build, run_underlying hu, hzr, Array.mapM_eq_mapM_toList, run_places w _ _ hps, h']
  · rename_i z n e hz hu
    obtain ⟨zv, hzr, hza, _⟩ := zeroS_run (ρ := ρ) hz w
    split at h <;> try (cases h; done)
    rename_i m hm
    cases hf : fillS (fun i => some (i * m, m)) z parts with
    | none => simp [hf] at h
    | some cs =>
      simp [hf] at h; subst h
      obtain ⟨rv, hrv, hr⟩ := fillS_run hp hza hf
      refine ⟨.agg rv.toArray, ?_, rv, rfl, hr⟩
      have h' : Instr.fill (fun i => some (i * m, m)) zv.cells vs.toList = some rv.toArray := by simpa using hrv
      simp [Instr.build, run_underlying hu, hzr, sizeS_run hm, h']
  · cases h

end Go.Proofs.YtabiknpgakhkkaaGreat.Sx
end

section
namespace Go.Proofs.YtabiknpgakhkkaaGreat.Sx
open Go.RowKit
set_option linter.unusedVariables false
set_option linter.unusedSimpArgs false

def SV.num : SV → Option (IntKind × Int)
  | .c x => x.num
  | _ => none
theorem SV.num_R {ρ : Ren} {x : SV} {k : IntKind} {n : Int} {v : Value} (h : x.num = some (k, n)) (hx : x.R ρ v) : v = .int k n := by
  cases x <;> simp only [SV.num, reduceCtorEq] at h
  exact SC.num_R h hx

/-- An optional bound of a slice expression. -/
def bndS (ev : Operand → SV) (dflt : Nat) : Option Operand → Option (Bool × Nat)
  | none => some (true, dflt)
  | some x => match (ev x).num with
    | some (_, n) => some (decide (0 ≤ n), n.toNat)
    | none => none

def ptrs (ev : Operand → SV) : List Operand → Option (List (Nat × Nat))
  | [] => some []
  | x :: r => match ev x, ptrs ev r with
    | .c (.ptr k off), some l => some ((k, off) :: l)
    | _, _ => none

def binS (P : Program) (op : BinOp) (t : TypeId) (x y : SV) : Option (Bool × SV) :=
  match x, y with
  | .c a, .c b => match cellBin P op t a b with
    | some (o, r) => some (o, .c r)
    | none => none
  | .agg a, .agg b => match eqV P 12 t (.agg a) (.agg b), op with
    | some r, .eql => some (!(P.eqGuardType P.depth t), .c (.bool r))
    | some r, .neq => some (!(P.eqGuardType P.depth t), .c (.bool (!r)))
    | _, _ => none
  | _, _ => none

/-- How many elements a slice has. -/
def SV.sliN : SV → Nat
  | .c (.slc _ _ _ len _) => len
  | .c (.row bs _) => bs.length
  | _ => 0
def SV.sliOk : SV → Bool
  | .c (.slc _ _ _ _ _) => true
  | .c (.row _ _) => true
  | .c .nils => true
  | _ => false
def lenS (P : Program) (t : TypeId) (x : SV) : Option (Bool × SV) :=
  match P.underlying t with
  | some .string => match x with
    | .c (.str s) => some (true, .c (.int s.length))
    | _ => none
  | some (.array n _) => some (true, .c (.int n))
  | some (.slice _) => some (x.sliOk, .c (.int x.sliN))
  | _ => none

def sliceS (P : Program) (ev : Operand → SV) (t : TypeId) (x : Operand) (lo hi : Option Operand) : Option (Bool × SV) :=
  match P.underlying t, ev x with
  | some (.slice e), .c (.slc k off esz len cap) => match bndS ev 0 lo, bndS ev len hi, sizeS P e with
    | some (o1, l), some (o2, h), some m => some (o1 && (o2 && (Nat.ble l h && (Nat.ble h len && Nat.beq m esz))), .c (.slc k (off + l * esz) esz (h - l) (cap.map (· - l))))
    | _, _, _ => none
  | some (.slice e), .c .nils => match bndS ev 0 lo, bndS ev 0 hi, sizeS P e with
    | some (o1, l), some (o2, h), some _ => some (o1 && (o2 && (Nat.beq l 0 && Nat.beq h 0)), .c .nils)
    | _, _, _ => none
  | some .string, .c (.str s) => match bndS ev 0 lo, bndS ev s.length hi with
    | some (o1, l), some (o2, h) => some (o1 && (o2 && (Nat.ble l h && Nat.ble h s.length)), .c (.str ((s.drop l).take (h - l))))
    | _, _ => none
  | _, _ => none

/-- The builtins that look at no memory. -/
def callS (P : Program) (ev : Operand → SV) (c : Call) : Option (Bool × SV) :=
  match c.callee, c.args.toList with
  | .builtin .len, [x] => match c.argTypes[0]? with
    | some t => lenS P t (ev x)
    | none => none
  | .builtin .cap, [x] => match c.argTypes[0]? with
    | some t => match isSliceT P t, ev x with
      | true, .c .nils => some (true, .c (.int 0))
      | _, _ => none
    | none => none
  | .builtin .min, [x, y] => match ev x, ev y with
    | .c (.int a), .c (.int b) => some (true, .c (.int (bif decide (b < a) then b else a)))
    | _, _ => none
  | .builtin .max, [x, y] => match ev x, ev y with
    | .c (.int a), .c (.int b) => some (true, .c (.int (bif decide (a < b) then b else a)))
    | _, _ => none
  | _, _ => none

/-- An operation that looks at no memory: what must hold; what it yields. -/
def pop (P : Program) (op : Op) (ev : Operand → SV) : Option (Bool × SV) :=
  match op with
  | .move x => some (true, ev x)
  | .assign x => some (true, ev x)
  | .pick c a b => match ev c with
    | .c (.bool t) => match ev a, ev b with
      | .c (.bool x), .c (.bool y) => some (true, .c (.bool (bif t then x else y)))
      | .c (.bool x), .und => some (t, .c (.bool x))
      | .und, .c (.bool y) => some (!t, .c (.bool y))
      | .c (.bool x), .tup [] => some (t, .c (.bool x))
      | .tup [], .c (.bool y) => some (!t, .c (.bool y))
      | x, y => bif t then some (true, x) else some (true, y)
    | _ => none
  | .binOp op t x y _ => binS P op t (ev x) (ev y)
  | .unOp op _ x => match ev x with
    | .c a => (cellUn op a).map fun r => (true, .c r)
    | _ => none
  | .convert src dst x => match P.underlying src, P.underlying dst, ev x with
    | some _, some (.int k), .c a => (cellConv k a).map fun r => (true, .c r)
    | _, _, _ => none
  | .nilCheck x => match ev x with
    | .c (.ptr k off) => some (true, .c (.ptr k off))
    | .c (.fn f l) => some (true, .c (.fn f l))
    | _ => none
  | .fieldAddr s x f => match P.underlying s, ev x with
    | some (.struct fs), .c (.ptr k off) => match fs[f]? with
      | some fd => match sizeS P fd.type with
        | some n => some (n != 0, .c (.ptr k (off + fd.offset)))
        | none => none
      | none => none
    | _, _ => none
  | .field t x f => match P.underlying t, ev x with
    | some (.struct fs), .agg cs => match fs[f]? with
      | some fd => (partS P fd.type cs fd.offset).map fun r => (true, r)
      | none => none
    | _, _ => none
  | .indexAddr t x i => match (ev i).num with
    | none => none
    | some (_, n) => match P.underlying t, ev x with
      | some (.array len e), .c (.ptr k off) => match sizeS P e with
        | some m => some (decide (0 ≤ n) && Nat.blt n.toNat len, .c (.ptr k (off + n.toNat * m)))
        | none => none
      | some (.slice e), .c (.slc k off esz len cap) => match sizeS P e with
        | some m => some (decide (0 ≤ n) && (Nat.blt n.toNat len && Nat.beq m esz), .c (.ptr k (off + n.toNat * esz)))
        | none => none
      | _, _ => none
  | .index t x i => match (ev i).num with
    | none => none
    | some (_, n) => match P.underlying t, ev x with
      | some (.array len e), .agg cs => match sizeS P e with
        | some m => (partS P e cs (n.toNat * m)).map fun r => (decide (0 ≤ n) && Nat.blt n.toNat len, r)
        | none => none
      | some .string, .c (.str s) => (s[n.toNat]?).map fun b => (decide (0 ≤ n), .c (.u8 b))
      | _, _ => none
  | .build t parts => (buildS P t (parts.toList.map fun p => (p.1, ev p.2))).map fun r => (true, r)
  | .extract x i => match ev x with
    | .tup vs => match vs[i]? with
      | some (.inl a) => some (true, .c a)
      | some (.inr cs) => some (true, .agg cs)
      | none => none
    | _ => none
  | .makeFunc fn first caps => match fn, first.toList with
    | .func f, [] => (ptrs ev caps.toList).map fun l => (true, .c (.fn f l))
    | _, _ => none
  | .slice t x lo hi mx => match mx with
    | none => sliceS P ev t x lo hi
    | some _ => none
  | .call c => callS P ev c
  | _ => none

section
variable {ρ : Ren} {P : Program} {ev : Operand → SV} {val : Operand → Value}

theorem eqGuard_cell {w : World} {op : BinOp} {t : TypeId} {x y : Operand} {u v : Value} (h : u.oneCell' = true ∧ u ≠ .nilIface) : (eqGuard op t x y u v).run P w = .ok () w := by
  obtain ⟨h1, h2⟩ := h
  cases u <;> first | (simp [Value.oneCell'] at h1; done) | exact absurd rfl h2 | (cases op <;> rfl)
theorem cellBin_left {op : BinOp} {t : TypeId} {a b : SC} {r : Bool × SC} {u : Value} (h : cellBin P op t a b = some r) (hx : a.R ρ u) : u.oneCell' = true ∧ u ≠ .nilIface := by
  refine ⟨SC.R.one hx, fun hu => ?_⟩
  subst hu
  cases a <;> simp only [SC.R, PtrR, SlcR, reduceCtorEq, false_and, and_false, exists_false, or_false, and_self, exists_const] at hx
  all_goals
    obtain ⟨rfl, hrest⟩ := hx
    first
    | (exact absurd hrest.2 (by rintro ⟨_, _, h⟩; cases h))
    | (cases op <;> simp only [cellBin, plainBin, eqBin, cellEq, shiftCell, SC.num, Option.map_none, reduceCtorEq] at h
       all_goals (split at h <;> cases h))

theorem binS_run (w : World) {op : BinOp} {t : TypeId} {x y : Operand} {X Y r : SV} {u v : Value} (h : binS P op t X Y = some (true, r)) (hx : X.R ρ u) (hy : Y.R ρ v) :
    ∃ z, (do eqGuard op t x y u v; binOp op t u v : Sem Value).run P w = .ok z w ∧ r.R ρ z := by
  unfold binS at h
  split at h
  · split at h <;> try (cases h; done)
    rename_i a b o s hc
    simp only [Option.some.injEq, Prod.mk.injEq] at h
    obtain ⟨rfl, rfl⟩ := h
    obtain ⟨z, hz, hr⟩ := cellBin_run w hc hx hy
    refine ⟨z, ?_, hr⟩
    have hg : (eqGuard op t x y u v).run P w = .ok () w := eqGuard_cell (cellBin_left hc hx)
    simp only [Sem.run_bind, hg, Result.andThen_ok, hz]
  · split at h <;> simp only [Option.some.injEq, Prod.mk.injEq, reduceCtorEq, Bool.not_eq_true'] at h
    all_goals
      rename_i hq
      obtain ⟨hg, rfl⟩ := h
      obtain ⟨us, rfl, hus⟩ := hx
      obtain ⟨vs, rfl, hvs⟩ := hy
      have he := eqV_run w 12 t _ _ _ (.agg us.toArray) (.agg vs.toArray) hq ⟨us, rfl, hus⟩ ⟨vs, rfl, hvs⟩ 10000 (by decide)
      refine ⟨_, ?_, rfl⟩
      simp only [Sem.run_bind, run_eqGuard_agg _ _ _ _ _ _ _ hg, Result.andThen_ok, run_eql_struct, run_neq_struct, he]
  · cases h

theorem ptrs_R (hv : ∀ x, (ev x).R ρ (val x)) : ∀ {xs : List Operand} {l : List (Nat × Nat)}, ptrs ev xs = some l → All2 (PtrR ρ) l (xs.map val)
  | [], l, h => by simp [ptrs] at h; subst h; exact .nil
  | x :: xs, l, h => by
    unfold ptrs at h
    split at h <;> try (cases h; done)
    rename_i k off l' hx hl
    simp only [Option.some.injEq] at h; subst h
    have := hv x
    rw [hx] at this
    exact .cons this (ptrs_R hv hl)

theorem bnd_run {x : Operand} {n : Int} {k : IntKind} (hv : ∀ x, (ev x).R ρ (val x)) (hx : (ev x).num = some (k, n)) (h0 : 0 ≤ n) (y : Nat) (hy : n.toNat ≤ y) (code : BoundsCode) (w : World) :
    (Instr.sliceBound (val x) y code).run P w = .ok n.toNat w := by
  rw [SV.num_R hx (hv x)]
  have : 0 ≤ n ∧ n ≤ (y : Int) := ⟨h0, by omega⟩
  simp [Instr.sliceBound, asIntOf, this]

theorem bndS_run (hv : ∀ x, (ev x).R ρ (val x)) {x : Operand} {d n : Nat} (h : bndS ev d (some x) = some (true, n)) (y : Nat) (hy : n ≤ y) (code : BoundsCode) (w : World) :
    (Instr.sliceBound (val x) y code).run P w = .ok n w := by
  simp only [bndS] at h
  split at h <;> try (cases h; done)
  rename_i k m hx
  simp only [Option.some.injEq, Prod.mk.injEq, decide_eq_true_eq] at h
  obtain ⟨h0, rfl⟩ := h
  exact bnd_run hv hx h0 _ hy _ w

theorem bounds_run (hv : ∀ x, (ev x).R ρ (val x)) {lo hi : Option Operand} {l h dh : Nat} (hl : bndS ev 0 lo = some (true, l)) (hh : bndS ev dh hi = some (true, h)) (hlh : l ≤ h) (b : Bool) (cap : Nat) (hc : h ≤ cap) (w : World) :
    (Instr.sliceBounds b dh cap (lo.map val) (hi.map val) none).run P w = .ok (l, h, cap) w := by
  unfold Instr.sliceBounds
  simp only [Sem.run_bind, Sem.run_pure, Result.andThen_ok]
  cases hi with
  | none =>
    simp only [bndS, Option.some.injEq, Prod.mk.injEq, true_and] at hh; subst hh
    cases lo with
    | none => simp only [bndS, Option.some.injEq, Prod.mk.injEq, true_and] at hl; subst hl; rfl
    | some x => simp only [Option.map_some, Option.map_none, Sem.run_bind, Sem.run_pure, Result.andThen_ok, bndS_run hv hl _ hlh]
  | some y =>
    cases lo with
    | none => simp only [bndS, Option.some.injEq, Prod.mk.injEq, true_and] at hl; subst hl; simp only [Option.map_some, Option.map_none, Sem.run_bind, Sem.run_pure, Result.andThen_ok, bndS_run hv hh _ hc]
    | some x => simp only [Option.map_some, Option.map_none, Sem.run_bind, Sem.run_pure, Result.andThen_ok, bndS_run hv hh _ hc, bndS_run hv hl _ hlh]

theorem sliceS_run (hv : ∀ x, (ev x).R ρ (val x)) {t : TypeId} {x : Operand} {lo hi : Option Operand} {r : SV} (h : sliceS P ev t x lo hi = some (true, r)) {dst : Option Tmp} {type : TypeId} {pos : String} {after : Array Edge} {guard : Option (Nat × Bool)} (w : World) :
    ∃ v, (execOp val { dst := dst, op := .slice t x lo hi none, type := type, pos := pos, after := after, guard := guard }).run P w = .ok (.value v) w ∧ r.R ρ v := by
    unfold sliceS at h
    split at h
    · rename_i e k off esz len cap hu hx
      split at h <;> try (cases h; done)
      rename_i o1 l o2 hh m hl hhi hm
      simp only [Option.some.injEq, Prod.mk.injEq, Bool.and_eq_true, Nat.ble_eq] at h
      obtain ⟨⟨rfl, rfl, hlh, hhl, hbq⟩, rfl⟩ := h
      obtain rfl := Nat.eq_of_beq_eq_true hbq
      have h1 := hv x
      rw [hx] at h1
      rcases h1 with ⟨hk, ⟨aa, hv'⟩, rfl, hcap⟩ | ⟨lc, o, c, hk, hv', hlc, hoff, hcap⟩
      · have hl0 : l = 0 := by omega
        have hh0 : hh = 0 := by omega
        subst hl0; subst hh0
        refine ⟨.slice aa 0 0, ?_, .inl ⟨hk, ⟨_, rfl⟩, by omega, ?_⟩⟩
        · have hb := bounds_run (P := P) hv hl hhi hlh true 0 (Nat.le_refl _) w
          simp only [execOp, Instr.sliceAt, Sem.run_bind, run_underlying hu, Result.andThen_ok, Instr.slice, hv', Option.map_none, hb, sizeS_run hm]
          rfl
        · intro n hn
          cases cap with
          | none => simp at hn
          | some c => have := hcap c rfl; subst this; simp at hn; exact hn.symm
      · have hb := bounds_run (P := P) hv hl hhi hlh true c (by omega) w
        refine ⟨.slice (if c = l then some ⟨lc.blk, o, none⟩ else (some (⟨lc.blk, o, none⟩ : Addr)).map (·.add (l * m))) (hh - l) (c - l), ?_, .inr ?_⟩
        · simp only [execOp, Instr.sliceAt, Sem.run_bind, run_underlying hu, Result.andThen_ok, Instr.slice, hv', Option.map_none, hb, sizeS_run hm, Sem.run_pure]
        · refine ⟨lc, if c = l then o else o + l * m, c - l, hk, ?_, by omega, ?_, ?_⟩
          · by_cases hcl : c = l
            · simp [hcl]
            · simp only [if_neg hcl, Option.map_some, Addr.add]
              by_cases hz : l * m = 0 <;> simp [hz]
          · intro hne
            have hcl : ¬ c = l := by omega
            obtain ⟨rfl, hb'⟩ := hoff (by omega)
            refine ⟨by rw [if_neg hcl, Nat.add_assoc], ?_⟩
            have : c * m = (c - l) * m + l * m := by rw [← Nat.add_mul]; congr 1; omega
            omega
          · intro n hn
            cases cap with
            | none => simp at hn
            | some c' => have := hcap c' rfl; subst this; simp at hn; exact hn
    · rename_i e hu hx
      split at h <;> try (cases h; done)
      rename_i o1 l o2 hh m hl hhi hm
      simp only [Option.some.injEq, Prod.mk.injEq, Bool.and_eq_true] at h
      obtain ⟨⟨rfl, rfl, hq1, hq2⟩, rfl⟩ := h
      obtain rfl := Nat.eq_of_beq_eq_true hq1
      obtain rfl := Nat.eq_of_beq_eq_true hq2
      have h1 := hv x
      rw [hx] at h1
      have hv' : val x = .slice none 0 0 := h1
      refine ⟨.slice none 0 0, ?_, rfl⟩
      have hb := bounds_run (P := P) hv hl hhi (Nat.le_refl _) true 0 (Nat.le_refl _) w
      simp only [execOp, Instr.sliceAt, Sem.run_bind, run_underlying hu, Result.andThen_ok, Instr.slice, hv', Option.map_none, hb, sizeS_run hm]
      rfl
    · rename_i s hu hx
      split at h <;> try (cases h; done)
      rename_i o1 l o2 hh hl hhi
      simp only [Option.some.injEq, Prod.mk.injEq, Bool.and_eq_true, Nat.ble_eq] at h
      obtain ⟨⟨rfl, rfl, hlh, hhl⟩, rfl⟩ := h
      have h1 := hv x
      rw [hx] at h1
      have hv' : val x = .string ⟨s.toArray⟩ := h1
      have hsz : (⟨s.toArray⟩ : ByteArray).size = s.length := by simp [ByteArray.size]
      have hb := bounds_run (P := P) hv hl hhi hlh false s.length hhl w
      refine ⟨.string ((⟨s.toArray⟩ : ByteArray).extract l hh), ?_, ?_⟩
      · simp only [execOp, Instr.sliceAt, Sem.run_bind, run_underlying hu, Result.andThen_ok, Instr.slice, hv', Option.map_none, hsz, Option.isSome_none, Bool.false_eq_true, if_false, hb]
        rfl
      · simp only [SV.R, SC.R, Value.string.injEq]
        apply ByteArray.ext
        apply Array.toList_inj.1
        simp [ByteArray.data_extract]
    · cases h

theorem callS_run (hv : ∀ x, (ev x).R ρ (val x)) {c : Call} {r : SV} (h : callS P ev c = some (true, r)) {dst : Option Tmp} {type : TypeId} {pos : String} {after : Array Edge} {guard : Option (Nat × Bool)} (w : World) :
    ∃ v, (execOp val { dst := dst, op := .call c, type := type, pos := pos, after := after, guard := guard }).run P w = .ok (.value v) w ∧ r.R ρ v := by
  obtain ⟨callee, args, ts⟩ := c
  unfold callS at h
  simp only at h
  split at h
  · -- len
    rename_i x hargs
    obtain rfl : args = #[x] := by rw [← Array.toList_inj]; exact hargs
    split at h <;> try (cases h; done)
    rename_i t ht
    have h1 := hv x
    have run : ∀ (n : Int), (Builtin.len_ ts type #[val x]).run P w = .ok (goInt n) w → ∃ v, (execOp val { dst := dst, op := .call { callee := .builtin .len, args := #[x], argTypes := ts }, type := type, pos := pos, after := after, guard := guard }).run P w = .ok (.value v) w ∧ (SV.c (.int n)).R ρ v := fun n hn => by
      refine ⟨goInt n, ?_, rfl⟩
      simp only [execOp, resolve, Sem.run_bind, Sem.run_pure, Result.andThen_ok, invoke, builtin]
      have : (#[x].map val) = #[val x] := by simp
      rw [this, hn]; rfl
    unfold lenS at h
    split at h
    · rename_i hu
      split at h <;> try (cases h; done)
      rename_i s hx
      simp only [Option.some.injEq, Prod.mk.injEq, true_and] at h; subst h
      rw [hx] at h1
      have hv' : val x = .string ⟨s.toArray⟩ := h1
      exact run s.length (by simp only [Builtin.len_, ht, hv', List.getElem?_toArray, List.getElem?_cons_zero, Sem.run_bind, run_underlying hu, Result.andThen_ok]; rfl)
    · rename_i n e hu
      simp only [Option.some.injEq, Prod.mk.injEq, true_and] at h; subst h
      exact run n (by simp [Builtin.len_, ht, run_underlying hu])
    · rename_i e hu
      simp only [Option.some.injEq, Prod.mk.injEq] at h
      obtain ⟨hok, rfl⟩ := h
      generalize hx : ev x = sx at h1 hok ⊢
      unfold SV.sliOk at hok
      split at hok <;> try (cases hok; done)
      · rename_i k off esz len cap
        rcases h1 with ⟨hk, ⟨aa, hv'⟩, rfl, hcap⟩ | ⟨lc, o, c, hk, hv', hlc, hoff, hcap⟩
        · exact run (0 : Nat) (by simp [Builtin.len_, ht, run_underlying hu, hv'])
        · exact run len (by simp [Builtin.len_, ht, run_underlying hu, hv'])
      · rename_i bs u
        obtain ⟨hv', _, a, c, rfl⟩ := h1
        exact run bs.length (by simp [Builtin.len_, ht, run_underlying hu, hv'])
      · have hv' : val x = .slice none 0 0 := h1
        exact run (0 : Nat) (by simp [Builtin.len_, ht, run_underlying hu, hv'])
    · cases h
  · -- cap
    rename_i x hargs
    obtain rfl : args = #[x] := by rw [← Array.toList_inj]; exact hargs
    split at h <;> try (cases h; done)
    rename_i t ht
    split at h <;> try (cases h; done)
    rename_i hu hx
    simp only [Option.some.injEq, Prod.mk.injEq, true_and] at h; subst h
    obtain ⟨e, hu⟩ := isSliceT_spec hu
    have h1 := hv x
    rw [hx] at h1
    have hv' : val x = .slice none 0 0 := h1
    refine ⟨goInt (0 : Nat), ?_, rfl⟩
    simp only [execOp, resolve, Sem.run_bind, Sem.run_pure, Result.andThen_ok, invoke, builtin]
    have : (#[x].map val) = #[val x] := by simp
    rw [this]
    simp [Builtin.cap_, ht, run_underlying hu, hv']
  · -- min
    rename_i x y hargs
    obtain rfl : args = #[x, y] := by rw [← Array.toList_inj]; exact hargs
    split at h <;> try (cases h; done)
    rename_i a b hx hy
    simp only [Option.some.injEq, Prod.mk.injEq, true_and] at h; subst h
    have h1 := hv x; have h2 := hv y
    rw [hx] at h1; rw [hy] at h2
    have h1' : val x = .int .i64 a := h1
    have h2' : val y = .int .i64 b := h2
    refine ⟨.int .i64 (if b < a then b else a), ?_, ?_⟩
    · simp only [execOp, resolve, Sem.run_bind, Sem.run_pure, Result.andThen_ok, invoke, builtin]
      have : (#[x, y].map val) = #[val x, val y] := by simp
      rw [this, h1', h2']; rfl
    · simp only [SV.R, SC.R, Value.int.injEq, true_and]
      by_cases hlt : b < a <;> simp [hlt]
  · -- max
    rename_i x y hargs
    obtain rfl : args = #[x, y] := by rw [← Array.toList_inj]; exact hargs
    split at h <;> try (cases h; done)
    rename_i a b hx hy
    simp only [Option.some.injEq, Prod.mk.injEq, true_and] at h; subst h
    have h1 := hv x; have h2 := hv y
    rw [hx] at h1; rw [hy] at h2
    have h1' : val x = .int .i64 a := h1
    have h2' : val y = .int .i64 b := h2
    refine ⟨.int .i64 (if b > a then b else a), ?_, ?_⟩
    · simp only [execOp, resolve, Sem.run_bind, Sem.run_pure, Result.andThen_ok, invoke, builtin]
      have : (#[x, y].map val) = #[val x, val y] := by simp
      rw [this, h1', h2']; rfl
    · simp only [SV.R, SC.R, Value.int.injEq, true_and]
      by_cases hlt : a < b <;> simp [hlt]
  · cases h

theorem pop_run {o : Oper} (hv : ∀ x, (ev x).R ρ (val x)) {r : SV} (h : pop P o.op ev = some (true, r)) (w : World) :
    ∃ v, (execOp val o).run P w = .ok (.value v) w ∧ r.R ρ v := by
  obtain ⟨dst, op, type, pos, after, guard⟩ := o
  simp only at h
  unfold pop at h
  split at h
  · simp only [Option.some.injEq, Prod.mk.injEq, true_and] at h; subst h; exact ⟨_, rfl, hv _⟩
  · simp only [Option.some.injEq, Prod.mk.injEq, true_and] at h; subst h; exact ⟨_, rfl, hv _⟩
  · -- pick
    rename_i c a b
    split at h <;> try (cases h; done)
    rename_i t ht
    have hc := hv c
    rw [ht] at hc
    have hc' : val c = .bool t := hc
    split at h
    · rename_i x y hx hy
      simp only [Option.some.injEq, Prod.mk.injEq, true_and] at h; subst h
      have h1 := hv a; have h2 := hv b
      rw [hx] at h1; rw [hy] at h2
      have h1' : val a = .bool x := h1
      have h2' : val b = .bool y := h2
      refine ⟨.bool (bif t then x else y), ?_, rfl⟩
      simp only [execOp, Sem.run_bind, hc', asBool, Sem.run_pure, Result.andThen_ok, h1', h2']
      cases t <;> rfl
    · rename_i x hx hy
      simp only [Option.some.injEq, Prod.mk.injEq] at h
      obtain ⟨rfl, rfl⟩ := h
      have h1 := hv a
      rw [hx] at h1
      exact ⟨val a, by simp only [execOp, Sem.run_bind, hc', asBool, Sem.run_pure, Result.andThen_ok, if_true], h1⟩
    · rename_i y hx hy
      simp only [Option.some.injEq, Prod.mk.injEq, Bool.not_eq_true'] at h
      obtain ⟨rfl, rfl⟩ := h
      have h1 := hv b
      rw [hy] at h1
      exact ⟨val b, by simp only [execOp, Sem.run_bind, hc', asBool, Sem.run_pure, Result.andThen_ok, Bool.false_eq_true, if_false], h1⟩
    · rename_i x hx hy
      simp only [Option.some.injEq, Prod.mk.injEq] at h
      obtain ⟨rfl, rfl⟩ := h
      have h1 := hv a
      rw [hx] at h1
      exact ⟨val a, by simp only [execOp, Sem.run_bind, hc', asBool, Sem.run_pure, Result.andThen_ok, if_true], h1⟩
    · rename_i y hx hy
      simp only [Option.some.injEq, Prod.mk.injEq, Bool.not_eq_true'] at h
      obtain ⟨rfl, rfl⟩ := h
      have h1 := hv b
      rw [hy] at h1
      exact ⟨val b, by simp only [execOp, Sem.run_bind, hc', asBool, Sem.run_pure, Result.andThen_ok, Bool.false_eq_true, if_false], h1⟩
    · refine ⟨if t then val a else val b, ?_, ?_⟩
      · simp only [execOp, Sem.run_bind, hc', asBool, Sem.run_pure, Result.andThen_ok]
      · cases t
        · simp only [cond_false, Option.some.injEq, Prod.mk.injEq, true_and] at h; subst h; exact hv b
        · simp only [cond_true, Option.some.injEq, Prod.mk.injEq, true_and] at h; subst h; exact hv a
  · -- binOp
    rename_i op t x y yt
    obtain ⟨z, hz, hr⟩ := binS_run (x := x) (y := y) w h (hv x) (hv y)
    refine ⟨z, ?_, hr⟩
    simp only [Sem.run_bind] at hz
    simp only [execOp, Sem.run_bind, hz, Result.andThen_ok, Sem.run_pure]
  · -- unOp
    rename_i op t x
    split at h <;> try (cases h; done)
    rename_i a ha
    cases hc : cellUn op a with
    | none => simp [hc] at h
    | some s =>
      simp [hc] at h; subst h
      have hx := hv x
      rw [ha] at hx
      obtain ⟨z, hz, hr⟩ := cellUn_run (P := P) w hc hx
      exact ⟨z, by simp only [execOp, Sem.run_bind, hz, Result.andThen_ok, Sem.run_pure], hr⟩
  · -- convert
    rename_i src dst x
    split at h <;> try (cases h; done)
    rename_i d k a hs hd ha
    cases hc : cellConv k a with
    | none => simp [hc] at h
    | some s =>
      simp [hc] at h; subst h
      have hx := hv x
      rw [ha] at hx
      obtain ⟨z, hz, hr⟩ := cellConv_run (P := P) w hs hd hc hx
      exact ⟨z, by simp only [execOp, Sem.run_bind, hz, Result.andThen_ok, Sem.run_pure], hr⟩
  · -- nilCheck
    rename_i x
    split at h <;> simp only [Option.some.injEq, Prod.mk.injEq, true_and, reduceCtorEq] at h <;> subst h <;> rename_i hx <;> have h1 := hv x <;> rw [hx] at h1
    · obtain ⟨l, hl, hv'⟩ := h1
      refine ⟨val x, ?_, l, hl, hv'⟩
      simp only [execOp, hv']; rfl
    · obtain ⟨vs, hv', hc⟩ := h1
      refine ⟨val x, ?_, vs, hv', hc⟩
      simp only [execOp, hv']; rfl
  · -- fieldAddr
    rename_i s x f
    split at h <;> try (cases h; done)
    rename_i fs k off hu hx
    split at h <;> try (cases h; done)
    rename_i fd hf
    split at h <;> try (cases h; done)
    rename_i n hn
    simp only [Option.some.injEq, Prod.mk.injEq] at h
    obtain ⟨h0, rfl⟩ := h
    have h0' : ¬ n = 0 := by simpa using h0
    have h1 := hv x
    rw [hx] at h1
    obtain ⟨l, hl, hv'⟩ := h1
    refine ⟨.pointer (some ⟨l.blk, l.o0 + (off + fd.offset), none⟩), ?_, l, hl, rfl⟩
    simp only [execOp, Instr.fieldAt, Sem.run_bind, run_underlying hu, Result.andThen_ok, hf, hv', Instr.sureAddr, Sem.run_pure, fieldPlace, sizeS_run hn, if_neg h0', Addr.add]
    by_cases hz : fd.offset = 0 <;> simp [hz, Nat.add_assoc]
  · -- field
    rename_i t x f
    split at h <;> try (cases h; done)
    rename_i fs cs hu hx
    split at h <;> try (cases h; done)
    rename_i fd hf
    cases hp : partS P fd.type cs fd.offset with
    | none => simp [hp] at h
    | some s =>
      simp [hp] at h; subst h
      have h1 := hv x
      rw [hx] at h1
      obtain ⟨vs, hv', hc⟩ := h1
      obtain ⟨z, hz, hr⟩ := partS_run hp hc w
      refine ⟨z, ?_, hr⟩
      simp only [execOp, Instr.field, Sem.run_bind, run_underlying hu, Result.andThen_ok, hf, hv', asAgg, Sem.run_pure, hz]
  · -- indexAddr
    rename_i t x i
    split at h <;> try (cases h; done)
    rename_i ki n hi
    have hi' := SV.num_R hi (hv i)
    split at h
    · rename_i len e k off hu hx
      split at h <;> try (cases h; done)
      rename_i m hm
      simp only [Option.some.injEq, Prod.mk.injEq, Bool.and_eq_true, decide_eq_true_eq, Nat.blt_eq] at h
      obtain ⟨⟨h0, hlt⟩, rfl⟩ := h
      have h1 := hv x
      rw [hx] at h1
      obtain ⟨l, hl, hv'⟩ := h1
      refine ⟨.pointer (some ⟨l.blk, l.o0 + (off + n.toNat * m), none⟩), ?_, l, hl, rfl⟩
      have hin : 0 ≤ n ∧ n < (len : Int) := ⟨h0, by omega⟩
      simp only [execOp, Instr.indexAt, Sem.run_bind, hi', asIntOf, Sem.run_pure, Result.andThen_ok, run_underlying hu, hv', Instr.sureAddr, if_pos hin, sizeS_run hm, Addr.add]
      by_cases hz : n.toNat * m = 0 <;> simp [hz, Nat.add_assoc]
    · rename_i e k off esz len cap hu hx
      split at h <;> try (cases h; done)
      rename_i m hm
      simp only [Option.some.injEq, Prod.mk.injEq, Bool.and_eq_true, decide_eq_true_eq, Nat.blt_eq] at h
      obtain ⟨⟨h0, hlt, hbq⟩, rfl⟩ := h
      obtain rfl := Nat.eq_of_beq_eq_true hbq
      have h1 := hv x
      rw [hx] at h1
      rcases h1 with ⟨_, _, h0', _⟩ | ⟨l, o, c, hl, hv', hlc, hoff, _⟩
      · omega
      obtain ⟨rfl, hb⟩ := hoff (by omega)
      refine ⟨.pointer (some ⟨l.blk, l.o0 + (off + n.toNat * m), none⟩), ?_, l, hl, rfl⟩
      have hin : 0 ≤ n ∧ n < (len : Int) := ⟨h0, by omega⟩
      simp only [execOp, Instr.indexAt, Sem.run_bind, hi', asIntOf, Sem.run_pure, Result.andThen_ok, run_underlying hu, hv', if_pos hin, sizeS_run hm, Addr.add]
      by_cases hz : n.toNat * m = 0 <;> simp [hz, Nat.add_assoc]
    · cases h
  · -- index
    rename_i t x i
    split at h <;> try (cases h; done)
    rename_i ki n hi
    have hi' := SV.num_R hi (hv i)
    split at h
    · rename_i len e cs hu hx
      split at h <;> try (cases h; done)
      rename_i m hm
      cases hp : partS P e cs (n.toNat * m) with
      | none => simp [hp] at h
      | some s =>
        simp only [hp, Option.map_some, Option.some.injEq, Prod.mk.injEq, Bool.and_eq_true, decide_eq_true_eq, Nat.blt_eq] at h
        obtain ⟨⟨h0, hlt⟩, rfl⟩ := h
        have h1 := hv x
        rw [hx] at h1
        obtain ⟨vs, hv', hc⟩ := h1
        obtain ⟨z, hz, hr⟩ := partS_run hp hc w
        refine ⟨z, ?_, hr⟩
        have hin : 0 ≤ n ∧ n < (len : Int) := ⟨h0, by omega⟩
        simp only [execOp, Instr.index, Sem.run_bind, hi', asIntOf, Sem.run_pure, Result.andThen_ok, run_underlying hu, hv', if_pos hin, sizeS_run hm, hz]
    · rename_i s hu hx
      cases hb : s[n.toNat]? with
      | none => simp [hb] at h
      | some b =>
        simp only [hb, Option.map_some, Option.some.injEq, Prod.mk.injEq, decide_eq_true_eq] at h
        obtain ⟨h0, rfl⟩ := h
        have h1 := hv x
        rw [hx] at h1
        have hv' : val x = .string ⟨s.toArray⟩ := h1
        refine ⟨.int .u8 b.toNat, ?_, rfl⟩
        have hg : (⟨s.toArray⟩ : ByteArray)[n.toNat]? = some b := by
          have hlt : n.toNat < s.length := (List.getElem?_eq_some_iff.1 hb).1
          have hge := (List.getElem?_eq_some_iff.1 hb).2
          rw [getElem?_pos _ _ (by simpa [ByteArray.size] using hlt)]
          congr 1
        simp only [execOp, Instr.index, Sem.run_bind, hi', asIntOf, Sem.run_pure, Result.andThen_ok, run_underlying hu, hv', if_pos h0, hg]
    · cases h
  · -- build
    rename_i t parts
    cases hb : buildS P t (parts.toList.map fun p => (p.1, ev p.2)) with
    | none => simp [hb] at h
    | some s =>
      simp [hb] at h; subst h
      have hp : All2 (fun (p : Nat × SV) (q : Nat × Value) => p.1 = q.1 ∧ p.2.R ρ q.2) (parts.toList.map fun p => (p.1, ev p.2)) (parts.map fun (p : Nat × Operand) => (p.1, val p.2)).toList := by
        rw [Array.toList_map]
        exact All2.map (fun p => ⟨rfl, hv p.2⟩) _
      obtain ⟨z, hz, hr⟩ := buildS_run hb hp w
      refine ⟨z, ?_, hr⟩
      simp only [execOp, Sem.run_bind]
      rw [hz]; rfl
  · -- extract
    rename_i x i
    split at h <;> try (cases h; done)
    rename_i vs hx
    have h1 := hv x
    rw [hx] at h1
    obtain ⟨us, hv', hc⟩ := h1
    split at h <;> simp only [Option.some.injEq, Prod.mk.injEq, true_and, reduceCtorEq] at h <;> subst h
    all_goals
      rename_i hg
      obtain ⟨u, hu, hr⟩ := hc.get hg
      refine ⟨u, ?_, hr⟩
      simp only [execOp, Instr.extract, hv', Sem.run_bind, List.getElem?_toArray, hu, Sem.run_pure, Result.andThen_ok]
  · -- makeFunc
    rename_i fn first caps
    split at h <;> try (cases h; done)
    rename_i f hfirst
    obtain rfl : first = #[] := by simpa using hfirst
    cases hp : ptrs ev caps.toList with
    | none => simp [hp] at h
    | some l =>
      simp [hp] at h; subst h
      refine ⟨.func (.func f) #[] (caps.map val), ?_, (caps.map val).toList, by rw [Array.toArray_toList], ?_⟩
      · simp only [execOp, Instr.makeFunc, Sem.run_bind, Sem.run_pure, Result.andThen_ok, Array.map_empty]
      · rw [Array.toList_map]
        exact ptrs_R hv hp
  · rename_i t x lo hi mx
    split at h <;> try (cases h; done)
    exact sliceS_run hv h w
  · exact callS_run hv h w
  · cases h
end
end Go.Proofs.YtabiknpgakhkkaaGreat.Sx
end

