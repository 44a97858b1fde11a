/- What the steps of a region come to, the evaluator's region comes to. -/
import Derived.Test.YtpabofkomhffgaaGreatAgsOpOk2
import Derived.Test.YtpabofkomhffgaaGreatAgsStep
set_option linter.unusedVariables false
set_option linter.unusedSimpArgs false
namespace Go.Ags

/-! ### Sets of temporaries -/
theorem mem_bitsFrom : ∀ (n t m x : Nat), x ∈ bitsFrom n t m ↔ ∃ i, i < n ∧ m.testBit i = true ∧ x = t + i
  | 0, t, m, x => by simp [bitsFrom]
  | n + 1, t, m, x => by
    have ih := mem_bitsFrom n (t + 1) (m / 2) x
    have hs : ∀ i, (m / 2).testBit i = m.testBit (i + 1) := fun i => by rw [Nat.testBit_succ]
    have h0 : Nat.beq (Nat.mod m 2) 1 = m.testBit 0 := by
      rw [Nat.testBit_zero]
      show Nat.beq (m % 2) 1 = _
      by_cases q : m % 2 = 1
      · rw [beq_yes q]; simp [q]
      · rw [beq_no q]; simp [q]
    have hrec : (x ∈ bitsFrom n (t + 1) (m / 2)) ↔ ∃ i, i < n + 1 ∧ 0 < i ∧ m.testBit i = true ∧ x = t + i := by
      rw [ih]
      constructor
      · rintro ⟨i, h1, h2, h3⟩
        exact ⟨i + 1, by omega, by omega, by rw [← hs]; exact h2, by omega⟩
      · rintro ⟨i, h1, h2, h3, h4⟩
        cases i with
        | zero => omega
        | succ i => exact ⟨i, by omega, by rw [hs]; exact h3, by omega⟩
    show x ∈ (bif Nat.beq (Nat.mod m 2) 1 then t :: bitsFrom n (t + 1) (m / 2) else bitsFrom n (t + 1) (m / 2)) ↔ _
    rw [h0]
    cases hb : m.testBit 0 with
    | true =>
      rw [cond_true, List.mem_cons, hrec]
      constructor
      · rintro (h | ⟨i, h1, h2, h3, h4⟩)
        · exact ⟨0, by omega, hb, by omega⟩
        · exact ⟨i, h1, h3, h4⟩
      · rintro ⟨i, h1, h2, h3⟩
        cases i with
        | zero => exact .inl (by omega)
        | succ i => exact .inr ⟨i + 1, h1, by omega, h2, h3⟩
    | false =>
      rw [cond_false, hrec]
      constructor
      · rintro ⟨i, h1, h2, h3, h4⟩; exact ⟨i, h1, h3, h4⟩
      · rintro ⟨i, h1, h2, h3⟩
        cases i with
        | zero => rw [hb] at h2; cases h2
        | succ i => exact ⟨i + 1, h1, by omega, h2, h3⟩

theorem mem_bitsOf (m x : Nat) : x ∈ bitsOf m ↔ m.testBit x = true := by
  unfold bitsOf
  rw [mem_bitsFrom]
  constructor
  · rintro ⟨i, _, h, rfl⟩; rw [Nat.zero_add]; exact h
  · intro h
    have : 2 ^ x ≤ m := Nat.ge_two_pow_of_testBit h
    have hm : m ≠ 0 := by have := Nat.two_pow_pos x; omega
    exact ⟨x, by have := (Nat.le_log2 hm).2 this; omega, h, by omega⟩

theorem lor_bit (a b t : Nat) : (Nat.lor a b).testBit t = (a.testBit t || b.testBit t) := Nat.testBit_or a b t
theorem land_bit (a b t : Nat) : (Nat.land a b).testBit t = (a.testBit t && b.testBit t) := Nat.testBit_and a b t
theorem bit_bit (d t : Nat) : (bit d).testBit t = decide (d = t) := Nat.testBit_two_pow

theorem envSets_map (env f : Env) : ∀ (W : List Nat) (t : Nat), envSets env W (W.map f) t = if t ∈ W then f t else env t
  | [], t => by simp [envSets]
  | d :: W, t => by
    simp only [List.map_cons, envSets]
    by_cases h : t = d
    · subst h; rw [beq_yes rfl]; simp
    · rw [beq_no h, cond_false, envSets_map env f W t]; simp [h]

theorem app_cur : ∀ (n : Nat) (f : List Value → AH → M) (l : List Value) (h : AH), l.length = n → app n (cur n f) l h = f l h
  | 0, f, [], h, _ => rfl
  | 0, f, v :: l, h, e => by simp at e
  | n + 1, f, [], h, e => by simp at e
  | n + 1, f, v :: l, h, e => by
    show app n (cur n fun l => f (v :: l)) l h = _
    rw [app_cur n _ l h (by simpa using e)]

/-! ### The temporaries' array and the environment -/
def Agr (S : Nat → Prop) (env : Env) (ts : Array Value) : Prop := ∀ t, S t → env t = ts.getD t undef

theorem Agr.sub {S S' : Nat → Prop} {env : Env} {ts : Array Value} (h : Agr S env ts) (hs : ∀ t, S' t → S t) : Agr S' env ts := fun t ht => h t (hs t ht)

theorem putT_getD (ts : Array Value) (d : Option Tmp) (v : Value) (t : Nat) : (putT ts d v).getD t undef = if d = some t then (if t < ts.size then v else undef) else ts.getD t undef := by
  cases d with
  | none => simp [putT]
  | some d =>
    simp only [putT, Array.getD_eq_getD_getElem?, Array.getElem?_setIfInBounds, Option.some.injEq]
    by_cases h : d = t
    · subst h; by_cases hs : d < ts.size <;> simp [hs]
    · simp [h]

theorem putT_size' (ts : Array Value) (d : Option Tmp) (v : Value) : (putT ts d v).size = ts.size := by cases d <;> simp [putT]

theorem envPut_eq (env : Env) (d : Option Tmp) (v : Value) (t : Nat) : envPut env d v t = if d = some t then v else env t := by
  cases d with
  | none => simp [envPut]
  | some d =>
    simp only [envPut, Option.some.injEq]
    by_cases h : t = d
    · subst h; rw [beq_yes rfl]; simp
    · rw [beq_no h]; have : ¬ d = t := fun e => h e.symm
      simp [this]

theorem Agr.put {S : Nat → Prop} {env : Env} {ts : Array Value} (h : Agr S env ts) (d : Option Tmp) (v : Value) (hd : ∀ t, d = some t → t < ts.size) : Agr (fun t => S t ∨ d = some t) (envPut env d v) (putT ts d v) := by
  intro t ht
  rw [envPut_eq, putT_getD]
  by_cases q : d = some t
  · simp [q, hd t q]
  · simp only [q, if_false]
    rcases ht with ht | ht
    · exact h t ht
    · exact absurd ht q

theorem mem_mOpnds {l : List Operand} {t : Nat} : (mOpnds l).testBit t = true ↔ .tmp t ∈ l := by
  unfold mOpnds
  induction l with
  | nil => simp
  | cons x l ih =>
    rw [List.foldr_cons, lor_bit, Bool.or_eq_true, ih, List.mem_cons]
    cases x with
    | tmp d => simp [mOpnd, bit_bit, eq_comm]
    | _ => simp [mOpnd]

theorem mem_mOpers {ops : Array Oper} {l : List Oper} {t : Nat} : (mOpers ops l).testBit t = true ↔ ∃ o, o ∈ l ∧ (mOper ops o).testBit t = true := by
  unfold mOpers
  induction l with
  | nil => simp
  | cons x l ih =>
    rw [List.foldr_cons, lor_bit, Bool.or_eq_true, ih]
    simp [or_and_right, exists_or]

theorem mem_wOper {o : Oper} {t : Nat} : (wOper o).testBit t = true ↔ o.dst = some t := by
  unfold wOper
  cases o.dst with
  | none => simp
  | some d => simp [bit_bit]

theorem mem_wOpers {l : List Oper} {t : Nat} : (wOpers l).testBit t = true ↔ ∃ o, o ∈ l ∧ o.dst = some t := by
  unfold wOpers
  induction l with
  | nil => simp
  | cons x l ih =>
    rw [List.foldr_cons, lor_bit, Bool.or_eq_true, ih, mem_wOper]
    simp [or_and_right, exists_or]

theorem mDiff_bit (a b t : Nat) : (mDiff a b).testBit t = (a.testBit t && !b.testBit t) := by
  show (a ^^^ (a &&& b)).testBit t = _
  rw [Nat.testBit_xor, Nat.testBit_and]
  cases a.testBit t <;> cases b.testBit t <;> rfl

theorem lvOps_cons {ops : Array Oper} {o : Oper} {r : List Oper} {L t : Nat} : (lvOps ops (o :: r) L).testBit t = true ↔ (mOper ops o).testBit t = true ∨ ((lvOps ops r L).testBit t = true ∧ ¬ o.dst = some t) := by
  show (Nat.lor (mOper ops o) (mDiff (lvOps ops r L) (wOper o))).testBit t = true ↔ _
  rw [lor_bit, mDiff_bit, Bool.or_eq_true, Bool.and_eq_true, ← mem_wOper]
  simp

theorem lvOps_append {ops : Array Oper} : ∀ (a b : List Oper) (L : Nat), lvOps ops (a ++ b) L = lvOps ops a (lvOps ops b L)
  | [], b, L => rfl
  | o :: a, b, L => by
    show Nat.lor (mOper ops o) (mDiff (lvOps ops (a ++ b) L) (wOper o)) = _
    rw [lvOps_append a b L]; rfl

theorem lvOps_old {ops : Array Oper} : ∀ (a : List Oper) (L t : Nat), L.testBit t = true → (wOpers a).testBit t = false → (lvOps ops a L).testBit t = true
  | [], L, t, h, _ => h
  | o :: a, L, t, h, hw => by
    have hno : ¬ o.dst = some t := fun q => by rw [mem_wOpers.2 ⟨o, by simp, q⟩] at hw; cases hw
    have hwa : (wOpers a).testBit t = false := by
      cases q : (wOpers a).testBit t with
      | false => rfl
      | true =>
        rw [mem_wOpers] at q
        obtain ⟨x, hx, hd⟩ := q
        rw [mem_wOpers.2 ⟨x, by simp [hx], hd⟩] at hw; cases hw
    rw [lvOps_cons]
    exact .inr ⟨lvOps_old a L t h hwa, hno⟩

section
variable {P : Program} {R : Rec}

theorem okOp_of {o : Oper} (h : o.op.operands.toList.all opndOk = true) : okOp o = true := by
  unfold okOp
  rw [Array.all_eq_true']
  intro x hx
  have := List.all_eq_true.1 h x (by simpa using hx)
  cases x <;> exact this

theorem evE_evalIn {env : Env} {ts : Array Value} {x : Operand} (h : ∀ t, x = .tmp t → env t = ts.getD t undef) : evE env x = evalIn ts x := by
  cases x with
  | tmp t => exact h t rfl
  | _ => rfl

/-- One operation. -/
theorem cOne_ok {o : Oper} {env : Env} {h : AH} {c : Env → AH → M} {r : Value × AH} {ts : Array Value} (e : cOne P R o env h c = some r) (ha : Agr (fun t => (mOpnds o.op.operands.toList).testBit t = true) env ts) :
    okOp o = true ∧ ∃ v h', aOp P R (evalIn ts) o h = some (v, h') ∧ c (envPut env o.dst v) h' = some r := by
  unfold cOne at e
  rw [ifB_eq] at e
  cases hok : o.op.operands.toList.all opndOk with
  | false => rw [hok] at e; cases e
  | true =>
    rw [hok, cond_true] at e
    obtain ⟨v, h', h1, h2⟩ := cOp_ok e
    refine ⟨okOp_of hok, v, h', ?_, h2⟩
    rw [← h1, aOp_bare]
    exact (aOp_congr fun x hx => evE_evalIn fun t ht => ha t (mem_mOpnds.2 (by subst ht; simpa using hx))).symm

theorem gEq_eq {a b : Option (Nat × Bool)} (h : gEq a b = true) : a = b := by
  unfold gEq at h
  split at h
  · rename_i g x g' y
    rw [Bool.and_eq_true] at h
    have := Nat.eq_of_beq_eq_true h.1
    subst this
    cases x <;> cases y <;> simp_all
  · rfl
  · cases h

theorem gSpan_append (g : Option (Nat × Bool)) : ∀ (l : List Oper), (gSpan g l).1 ++ (gSpan g l).2 = l
  | [] => rfl
  | o :: r => by
    unfold gSpan
    cases gEq o.guard g with
    | false => rfl
    | true => simp [gSpan_append g r]
theorem gSpan_guard (g : Option (Nat × Bool)) : ∀ (l : List Oper) (o : Oper), o ∈ (gSpan g l).1 → o.guard = g
  | [], o, h => by simp [gSpan] at h
  | x :: r, o, h => by
    unfold gSpan at h
    cases hq : gEq x.guard g with
    | false => rw [hq] at h; simp at h
    | true =>
      rw [hq] at h
      simp only [cond_true, List.mem_cons] at h
      rcases h with rfl | h
      · exact gEq_eq hq
      · exact gSpan_guard g r o h

theorem evOpsL_append {ops : Array Oper} : ∀ (a b : List Oper) (ts : Array Value) (h : AH), evOpsL P R ops (a ++ b) ts h = match evOpsL P R ops a ts h with | some (ts', h') => evOpsL P R ops b ts' h' | none => none
  | [], b, ts, h => rfl
  | o :: a, b, ts, h => by
    simp only [List.cons_append, evOpsL]
    split
    · split
      · split
        · exact evOpsL_append a b _ _
        · rfl
      · rfl
    · exact evOpsL_append a b _ _

/-- What stands behind some operations: the temporaries, the heap, and what goes on. -/
structure Behind (L : Nat → Prop) (W : Nat) (ts : Array Value) (env : Env) (c : Env → AH → M) (r : Value × AH) (ts' : Array Value) (h' : AH) (env' : Env) : Prop where
  agr : Agr L env' ts'
  go : c env' h' = some r
  size : ts'.size = ts.size
  old : ∀ t, W.testBit t = false → ts'.getD t undef = ts.getD t undef
  env : ∀ t, W.testBit t = false → env' t = env t

theorem envPut_no {o : Oper} {l : List Oper} {env : Env} {v : Value} {t : Nat} (ho : o ∈ l) (ht : (wOpers l).testBit t = false) : envPut env o.dst v t = env t := by
  rw [envPut_eq, if_neg]
  intro q
  rw [mem_wOpers.2 ⟨o, ho, q⟩] at ht; cases ht
theorem envSets_no {W m : Nat} {env f : Env} {t : Nat} (ht : W.testBit t = false) : envSets env (bitsOf (Nat.land W m)) ((bitsOf (Nat.land W m)).map f) t = env t := by
  rw [envSets_map, if_neg]
  rw [mem_bitsOf, land_bit, ht]
  simp

theorem wanted_guard {ops : Array Oper} {ts : Array Value} {o : Oper} {g : Nat} {want : Bool} {d : Tmp} (hg : o.guard = some (g, want)) (hd : guardTmp ops g = some d) :
    Region.wanted o (yielded ops ts) = (match ts.getD d undef with | .bool b => b == want | _ => false) := by
  unfold Region.wanted
  rw [hg]
  simp only
  unfold yielded
  unfold guardTmp at hd
  rw [hd]
  simp only [Option.bind_some, Array.getD_eq_getD_getElem?]
  cases ts[d]? with
  | none => rfl
  | some v => cases v <;> first | rfl | (simp; rfl)

theorem agr_size {W : Nat} {ts ts' : Array Value} (h : ts'.size = ts.size) (hs : ∀ t, W.testBit t = true → t < ts.size) : ∀ t, W.testBit t = true → t < ts'.size := fun t ht => by rw [h]; exact hs t ht

theorem mOper_opnds {ops : Array Oper} {o : Oper} {t : Nat} (h : (mOpnds o.op.operands.toList).testBit t = true) : (mOper ops o).testBit t = true := by
  unfold mOper; rw [lor_bit, h, Bool.true_or]
theorem mOper_guard {ops : Array Oper} {o : Oper} {g : Nat} {want : Bool} {d : Tmp} (hg : o.guard = some (g, want)) (hd : guardTmp ops g = some d) : (mOper ops o).testBit d = true := by
  unfold mOper mGuard
  unfold guardTmp at hd
  rw [lor_bit, hg]
  simp [hd, bit_bit]

/-- Operations that are all done. -/
theorem cRun_ok {ops : Array Oper} {L : Nat} : ∀ (a : List Oper) (env : Env) (h : AH) (c : Env → AH → M) (r : Value × AH) (ts : Array Value),
    cRun P R a env h c = some r → Agr (fun t => (lvOps ops a L).testBit t = true) env ts → (∀ t, (wOpers a).testBit t = true → t < ts.size) →
    (∀ o, o ∈ a → ∀ ts' : Array Value, (∀ t, (wOpers a).testBit t = false → ts'.getD t undef = ts.getD t undef) → Region.wanted o (yielded ops ts') = true) →
    ∃ ts' h' env', evOpsL P R ops a ts h = some (ts', h') ∧ Behind (fun t => L.testBit t = true) (wOpers a) ts env c r ts' h' env'
  | [], env, h, c, r, ts, e, ha, hs, hw => ⟨ts, h, env, rfl, ⟨ha, e, rfl, fun _ _ => rfl, fun _ _ => rfl⟩⟩
  | o :: a, env, h, c, r, ts, e, ha, hs, hw => by
    simp only [cRun] at e
    obtain ⟨hok, v, h1, hop, e1⟩ := cOne_ok e (ha.sub fun t ht => lvOps_cons.2 (.inl (mOper_opnds ht)))
    have hwo : Region.wanted o (yielded ops ts) = true := hw o (by simp) ts fun _ _ => rfl
    have wsub : ∀ t, (wOpers a).testBit t = true → (wOpers (o :: a)).testBit t = true := fun t ht => by
      rw [mem_wOpers] at ht ⊢
      obtain ⟨x, hx, hd⟩ := ht
      exact ⟨x, by simp [hx], hd⟩
    have wdst : ∀ t, o.dst = some t → (wOpers (o :: a)).testBit t = true := fun t ht => mem_wOpers.2 ⟨o, by simp, ht⟩
    have hput := ha.put o.dst v (fun t ht => hs t (wdst t ht))
    have hold : ∀ t, (wOpers (o :: a)).testBit t = false → (putT ts o.dst v).getD t undef = ts.getD t undef := by
      intro t ht
      rw [putT_getD, if_neg]
      intro q
      rw [wdst t q] at ht; cases ht
    have wno : ∀ t, (wOpers (o :: a)).testBit t = false → (wOpers a).testBit t = false := fun t ht => by
      cases q : (wOpers a).testBit t with
      | false => rfl
      | true => rw [wsub t q] at ht; cases ht
    obtain ⟨ts', h', env', e2, B⟩ := cRun_ok (ops := ops) (L := L) a _ h1 c r (putT ts o.dst v) e1 (hput.sub fun t ht => by
        by_cases q : o.dst = some t
        · exact .inr q
        · exact .inl (lvOps_cons.2 (.inr ⟨ht, q⟩)))
      (fun t ht => by rw [putT_size']; exact hs t (wsub t ht))
      (fun x hx ts2 h2 => hw x (by simp [hx]) ts2 fun t ht => by rw [h2 t (wno t ht), hold t ht])
    refine ⟨ts', h', env', ?_, ⟨B.agr, B.go, B.size.trans (putT_size' _ _ _), fun t ht => by rw [B.old t (wno t ht), hold t ht], fun t ht => by rw [B.env t (wno t ht)]; exact envPut_no (by simp) ht⟩⟩
    simp only [evOpsL, hwo, if_true, hok, hop]; exact e2

/-- Operations of which none is done. -/
theorem evOpsL_skip {ops : Array Oper} : ∀ (a : List Oper) (ts : Array Value) (h : AH), (∀ t, (wOpers a).testBit t = true → t < ts.size) →
    (∀ o, o ∈ a → ∀ ts' : Array Value, (∀ t, (wOpers a).testBit t = false → ts'.getD t undef = ts.getD t undef) → Region.wanted o (yielded ops ts') = false) →
    ∃ ts', evOpsL P R ops a ts h = some (ts', h) ∧ ts'.size = ts.size ∧ (∀ t, (wOpers a).testBit t = false → ts'.getD t undef = ts.getD t undef) ∧ ∀ t, (wOpers a).testBit t = true → ts'.getD t undef = undef
  | [], ts, h, hs, hw => ⟨ts, rfl, rfl, fun _ _ => rfl, fun t ht => by simp [wOpers] at ht⟩
  | o :: a, ts, h, hs, hw => by
    have hwo : Region.wanted o (yielded ops ts) = false := hw o (by simp) ts fun _ _ => rfl
    have wsub : ∀ t, (wOpers a).testBit t = true → (wOpers (o :: a)).testBit t = true := fun t ht => by
      rw [mem_wOpers] at ht ⊢
      obtain ⟨x, hx, hd⟩ := ht
      exact ⟨x, by simp [hx], hd⟩
    have wdst : ∀ t, o.dst = some t → (wOpers (o :: a)).testBit t = true := fun t ht => mem_wOpers.2 ⟨o, by simp, ht⟩
    have hold : ∀ t, (wOpers (o :: a)).testBit t = false → (putT ts o.dst undef).getD t undef = ts.getD t undef := by
      intro t ht
      rw [putT_getD, if_neg]
      intro q
      rw [wdst t q] at ht; cases ht
    have wno : ∀ t, (wOpers (o :: a)).testBit t = false → (wOpers a).testBit t = false := fun t ht => by
      cases q : (wOpers a).testBit t with
      | false => rfl
      | true => rw [wsub t q] at ht; cases ht
    obtain ⟨ts', e, h1, h2, h3⟩ := evOpsL_skip (ops := ops) a (putT ts o.dst undef) h (fun t ht => by rw [putT_size']; exact hs t (wsub t ht))
      (fun x hx ts2 h2 => hw x (by simp [hx]) ts2 fun t ht => by rw [h2 t (wno t ht), hold t ht])
    refine ⟨ts', by simp only [evOpsL, hwo]; exact e, h1.trans (putT_size' _ _ _), fun t ht => by rw [h2 t (wno t ht), hold t ht], fun t ht => ?_⟩
    cases q : (wOpers a).testBit t with
    | true => exact h3 t q
    | false =>
      rw [h2 t q, putT_getD]
      rw [mem_wOpers] at ht
      obtain ⟨x, hx, hd⟩ := ht
      rcases List.mem_cons.1 hx with rfl | hx
      · simp [hd]
      · rw [mem_wOpers.2 ⟨x, hx, hd⟩] at q; cases q

/-- A guarded run. 'c2' is what follows, 'L' what it looks at. -/
theorem cGuard_ok {ops : Array Oper} {want : Bool} {d : Tmp} {m g : Nat} {a : List Oper} {env : Env} {h : AH} {c : Env → AH → M} {r : Value × AH} {ts : Array Value}
    (e : cGuard P R want d (bitsOf (Nat.land (wOpers a) m)) a env h c = some r) (hg : ∀ o, o ∈ a → o.guard = some (g, want)) (hd : guardTmp ops g = some d) (hdw : (wOpers a).testBit d = false)
    (hSd : (lvOps ops a m).testBit d = true) (ha : Agr (fun t => (lvOps ops a m).testBit t = true) env ts) (hs : ∀ t, (wOpers a).testBit t = true → t < ts.size) :
    ∃ ts' h' env', evOpsL P R ops a ts h = some (ts', h') ∧ Behind (fun t => m.testBit t = true) (wOpers a) ts env c r ts' h' env' ∧
      ∃ w : Bool, ∀ o, o ∈ a → ∀ ts' : Array Value, (∀ t, (wOpers a).testBit t = false → ts'.getD t undef = ts.getD t undef) → Region.wanted o (yielded ops ts') = w := by
  unfold cGuard jn at e
  dsimp only at e
  have hdv : env d = ts.getD d undef := ha d hSd
  have wv : ∀ o, o ∈ a → ∀ ts' : Array Value, (∀ t, (wOpers a).testBit t = false → ts'.getD t undef = ts.getD t undef) → Region.wanted o (yielded ops ts') = (match env d with | .bool b => b == want | _ => false) := by
    intro o ho ts' ht
    rw [wanted_guard (hg o ho) hd, ht d hdw, hdv]
  have skip : (∀ o, o ∈ a → ∀ ts' : Array Value, (∀ t, (wOpers a).testBit t = false → ts'.getD t undef = ts.getD t undef) → Region.wanted o (yielded ops ts') = false) →
      app (bitsOf (Nat.land (wOpers a) m)).length (cur (bitsOf (Nat.land (wOpers a) m)).length fun vs h' => c (envSets env (bitsOf (Nat.land (wOpers a) m)) vs) h') ((bitsOf (Nat.land (wOpers a) m)).map fun _ => undef) h = some r →
      ∃ ts' h' env', evOpsL P R ops a ts h = some (ts', h') ∧ Behind (fun t => m.testBit t = true) (wOpers a) ts env c r ts' h' env' ∧ h' = h := by
    intro hw e
    rw [app_cur _ _ _ _ (by simp)] at e
    obtain ⟨ts', e1, h1, h2, h3⟩ := evOpsL_skip (P := P) (R := R) (ops := ops) a ts h hs hw
    refine ⟨ts', h, _, e1, ⟨?_, e, h1, h2, fun t ht => envSets_no (f := fun _ => undef) ht⟩, rfl⟩
    intro t ht
    have : ((bitsOf (Nat.land (wOpers a) m)).map fun _ => undef) = (bitsOf (Nat.land (wOpers a) m)).map (fun _ => undef : Nat → Value) := rfl
    rw [this, envSets_map]
    split
    · rename_i q
      rw [mem_bitsOf, land_bit, Bool.and_eq_true] at q
      exact (h3 t q.1).symm
    · rename_i q
      rw [mem_bitsOf, land_bit, ht, Bool.and_true, Bool.not_eq_true] at q
      rw [h2 t q]
      exact ha t (lvOps_old a m t ht q)
  unfold pG at e
  split at e
  · rename_i b hb
    rw [hb] at wv
    have hbw : (bif b then want else !want) = (b == want) := by cases b <;> cases want <;> rfl
    rw [hbw] at e
    cases hq : (b == want) with
    | true =>
      rw [hq, cond_true] at e
      obtain ⟨ts', h', env', e1, B⟩ := cRun_ok (ops := ops) (L := m) a env h _ r ts e ha hs (fun o ho ts' ht => by rw [wv o ho ts' ht]; exact hq)
      have hgo := B.go
      rw [app_cur _ _ _ _ (by simp)] at hgo
      refine ⟨ts', h', _, e1, ⟨?_, hgo, B.size, B.old, fun t ht => envSets_no ht⟩, true, fun o ho ts' ht => (wv o ho ts' ht).trans hq⟩
      intro t ht
      rw [envSets_map]
      split
      · rename_i q
        exact B.agr t ht
      · rename_i q
        rw [mem_bitsOf, land_bit, ht, Bool.and_true, Bool.not_eq_true] at q
        rw [B.old t q]
        exact ha t (lvOps_old a m t ht q)
    | false =>
      rw [hq, cond_false] at e
      have hw := fun o ho ts' ht => (wv o ho ts' ht).trans hq
      obtain ⟨ts', h', env', e1, B, hh⟩ := skip hw e
      exact ⟨ts', h', env', e1, B, false, hw⟩
  · rename_i hnb
    have hw : ∀ o, o ∈ a → ∀ ts' : Array Value, (∀ t, (wOpers a).testBit t = false → ts'.getD t undef = ts.getD t undef) → Region.wanted o (yielded ops ts') = false := by
      intro o ho ts' ht
      rw [wv o ho ts' ht]
      split
      · rename_i b hb; exact absurd hb (hnb b)
      · rfl
    obtain ⟨ts', h', env', e1, B, hh⟩ := skip hw e
    exact ⟨ts', h', env', e1, B, false, hw⟩

/-- A region that does not draw. -/
theorem cOps_ok {ops : Array Oper} : ∀ (n : Nat) (l : List Oper) (L : Nat) (env : Env) (h : AH) (c : Env → AH → M) (r : Value × AH) (ts : Array Value),
    cOps P R ops n l L env h c = some r → Agr (fun t => (lvOps ops l L).testBit t = true) env ts → (∀ t, (wOpers l).testBit t = true → t < ts.size) →
    ∃ ts' h' env', evOpsL P R ops l ts h = some (ts', h') ∧ Behind (fun t => L.testBit t = true) (wOpers l) ts env c r ts' h' env'
  | n, [], L, env, h, c, r, ts, e, ha, hs => ⟨ts, h, env, rfl, ⟨ha, by cases n <;> exact e, rfl, fun _ _ => rfl, fun _ _ => rfl⟩⟩
  | 0, o :: rest, L, env, h, c, r, ts, e, ha, hs => by simp only [cOps, ifB_eq] at e; cases e
  | n + 1, o :: rest, L, env, h, c, r, ts, e, ha, hs => by
    simp only [cOps, ifB_eq] at e
    split at e
    · -- no guard
      rename_i hg
      obtain ⟨hok, v, h1, hop, e1⟩ := cOne_ok e (ha.sub fun t ht => lvOps_cons.2 (.inl (mOper_opnds ht)))
      have wdst : ∀ t, o.dst = some t → (wOpers (o :: rest)).testBit t = true := fun t ht => mem_wOpers.2 ⟨o, by simp, ht⟩
      have wsub : ∀ t, (wOpers rest).testBit t = true → (wOpers (o :: rest)).testBit t = true := fun t ht => by
        rw [mem_wOpers] at ht ⊢
        obtain ⟨x, hx, hd⟩ := ht
        exact ⟨x, by simp [hx], hd⟩
      have hput := ha.put o.dst v (fun t ht => hs t (wdst t ht))
      obtain ⟨ts', h', env', e2, B⟩ := cOps_ok (ops := ops) n rest L _ h1 c r (putT ts o.dst v) e1 (hput.sub fun t ht => by
          by_cases q : o.dst = some t
          · exact .inr q
          · exact .inl (lvOps_cons.2 (.inr ⟨ht, q⟩))) (fun t ht => by rw [putT_size']; exact hs t (wsub t ht))
      have hw : Region.wanted o (yielded ops ts) = true := by unfold Region.wanted; rw [hg]
      refine ⟨ts', h', env', by simp only [evOpsL, hw, if_true, hok, hop]; exact e2, ⟨B.agr, B.go, B.size.trans (putT_size' _ _ _), fun t ht => ?_, fun t ht => ?_⟩⟩
      · rw [B.old t (by
          cases q : (wOpers rest).testBit t with
          | false => rfl
          | true => rw [wsub t q] at ht; cases ht), putT_getD, if_neg]
        intro q
        rw [wdst t q] at ht; cases ht
      · rw [B.env t (by
          cases q : (wOpers rest).testBit t with
          | false => rfl
          | true => rw [wsub t q] at ht; cases ht)]
        exact envPut_no (by simp) ht
    · -- a guarded run
      rename_i g want hg
      split at e
      case h_2 => cases e
      rename_i d hd
      cases hdw : (wOpers (gSpan o.guard (o :: rest)).1).testBit d with
      | true => rw [show Nat.testBit _ d = true from hdw] at e; cases e
      | false =>
      rw [show Nat.testBit _ d = false from hdw, cond_false] at e
      have happ := gSpan_append o.guard (o :: rest)
      have hgu := gSpan_guard o.guard (o :: rest)
      have hcons : ∃ a', (gSpan o.guard (o :: rest)).1 = o :: a' := by
        unfold gSpan
        have : gEq o.guard o.guard = true := by rw [hg]; cases want <;> simp [gEq]
        rw [this]; exact ⟨_, rfl⟩
      generalize (gSpan o.guard (o :: rest)).1 = a at *
      generalize (gSpan o.guard (o :: rest)).2 = b at *
      have wsub : ∀ t, (wOpers a).testBit t = true → (wOpers (o :: rest)).testBit t = true := fun t ht => by
        rw [mem_wOpers] at ht ⊢
        obtain ⟨x, hx, hd⟩ := ht
        exact ⟨x, by rw [← happ]; simp [hx], hd⟩
      have wsubb : ∀ t, (wOpers b).testBit t = true → (wOpers (o :: rest)).testBit t = true := fun t ht => by
        rw [mem_wOpers] at ht ⊢
        obtain ⟨x, hx, hd⟩ := ht
        exact ⟨x, by rw [← happ]; simp [hx], hd⟩
      obtain ⟨ts1, h1, env1, e1, B, _⟩ := cGuard_ok (ops := ops) e (fun x hx => (hgu x hx).trans hg) hd hdw (by
          obtain ⟨a', ha'⟩ : ∃ a', a = o :: a' := hcons
          rw [ha', lvOps_cons]
          exact .inl (mOper_guard hg hd)) (by rw [← lvOps_append, happ]; exact ha) (fun t ht => hs t (wsub t ht))
      obtain ⟨ts2, h2, env2, e2, B2⟩ := cOps_ok (ops := ops) n b L env1 h1 c r ts1 B.go B.agr (fun t ht => by rw [B.size]; exact hs t (wsubb t ht))
      refine ⟨ts2, h2, env2, ?_, ⟨B2.agr, B2.go, B2.size.trans B.size, fun t ht => ?_, fun t ht => ?_⟩⟩
      · rw [← happ, evOpsL_append, e1]; exact e2
      · have q1 : (wOpers a).testBit t = false := by
          cases q : (wOpers a).testBit t with
          | false => rfl
          | true => rw [wsub t q] at ht; cases ht
        have q2 : (wOpers b).testBit t = false := by
          cases q : (wOpers b).testBit t with
          | false => rfl
          | true => rw [wsubb t q] at ht; cases ht
        rw [B2.old t q2, B.old t q1]
      · have q1 : (wOpers a).testBit t = false := by
          cases q : (wOpers a).testBit t with
          | false => rfl
          | true => rw [wsub t q] at ht; cases ht
        have q2 : (wOpers b).testBit t = false := by
          cases q : (wOpers b).testBit t with
          | false => rfl
          | true => rw [wsubb t q] at ht; cases ht
        rw [B2.env t q2, B.env t q1]
end
end Go.Ags
