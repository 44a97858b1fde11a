/- What the steps of a region that draws its order come to, the evaluator's region comes to. -/
import Derived.Test.YtpabofkomhffgaaGreatAgsRun
import Derived.Test.YtpabofkomhffgaaGreatAgsSeq
set_option linter.unusedVariables false
set_option linter.unusedSimpArgs false
namespace Go.Ags
section
variable {P : Program} {R : Rec}

structure AccRel (acc : List (Op × Option Tr)) (T : List Tr) : Prop where
  len : acc.length = T.length
  at_ : ∀ (i : Nat) (x : Op) (t : Option Tr) (y : Tr), acc[i]? = some (x, t) → T[i]? = some y → (quiet x = true → y.wr = []) ∧ (idle x = true → y.nd = some []) ∧ ∀ t', t = some t' → y.nd = t'.nd ∧ y.wr = t'.wr ∧ y.h0 = t'.h0

theorem AccRel.push {acc : List (Op × Option Tr)} {T : List Tr} (A : AccRel acc T) {x : Op} {t : Option Tr} {y : Tr} (h1 : quiet x = true → y.wr = []) (h2 : idle x = true → y.nd = some [])
    (h3 : ∀ t', t = some t' → y.nd = t'.nd ∧ y.wr = t'.wr ∧ y.h0 = t'.h0) : AccRel (acc ++ [(x, t)]) (T ++ [y]) := by
  refine ⟨by simp [A.len], fun i x' t' y' hx hy => ?_⟩
  have hl := A.len
  rcases Nat.lt_trichotomy i acc.length with q | q | q
  · rw [List.getElem?_append_left q] at hx
    rw [List.getElem?_append_left (by omega)] at hy
    exact A.at_ i x' t' y' hx hy
  · subst q
    rw [List.getElem?_append_right (Nat.le_refl _)] at hx
    rw [List.getElem?_append_right (by omega)] at hy
    simp [hl] at hx hy
    obtain ⟨rfl, rfl⟩ := hx
    subst hy
    exact ⟨h1, h2, h3⟩
  · rw [List.getElem?_eq_none (by simp; omega)] at hx; cases hx

theorem trOk_congr {x x' d d' : Tr} (h1 : x.nd = x'.nd) (h2 : x.wr = x'.wr) (h3 : x.h0 = x'.h0) (h4 : d.nd = d'.nd) (h5 : d.wr = d'.wr) : trOk x d = trOk x' d' := by
  unfold trOk
  rw [h1, h2, h3, h4, h5]

theorem pairFree_ok {x d : Op} {y tr : Tr} (hp : pairFree x d = true) (x1 : quiet x = true → y.wr = []) (x2 : idle x = true → y.nd = some []) (d1 : quiet d = true → tr.wr = []) (d2 : idle d = true → tr.nd = some []) : trOk y tr = true := by
  unfold pairFree at hp
  unfold trOk
  simp only [Bool.or_eq_true, Bool.and_eq_true] at hp
  rcases hp with (⟨q1, q2⟩ | q) | q
  · rw [x1 q1, d1 q2]
    cases tr.nd <;> cases y.nd <;> simp
  · rw [x1 (idle_quiet q), x2 q]
    cases tr.nd <;> simp
  · rw [d1 (idle_quiet q), d2 q]
    cases y.nd <;> simp

theorem toChk_ok {bef : Nat} {d : Op} {tr tr' : Tr} (hb : tr.bef = bef) (d1 : quiet d = true → tr.wr = []) (d2 : idle d = true → tr.nd = some []) (e1 : tr.nd = tr'.nd) (e2 : tr.wr = tr'.wr) :
    ∀ (acc : List (Op × Option Tr)) (T : List Tr) (i : Nat) (lst : List Tr), toChk bef d i acc = some lst → AccRel acc T → (∀ x, x ∈ lst → trOk x tr' = true) → trsOk tr i T = true
  | [], [], i, lst, e, A, hl => rfl
  | [], y :: T, i, lst, e, A, hl => by have := A.len; simp at this
  | (x, t) :: acc, [], i, lst, e, A, hl => by have := A.len; simp at this
  | (x, t) :: acc, y :: T, i, lst, e, A, hl => by
    have A' : AccRel acc T := ⟨by simpa using A.len, fun j x' t' y' hx hy => A.at_ (j + 1) x' t' y' (by simpa using hx) (by simpa using hy)⟩
    obtain ⟨a1, a2, a3⟩ := A.at_ 0 x t y rfl rfl
    simp only [toChk] at e
    simp only [trsOk, Bool.and_eq_true, Bool.or_eq_true]
    cases hc : (Nat.testBit bef i || pairFree x d) with
    | true =>
      rw [hc, cond_true] at e
      refine ⟨?_, toChk_ok hb d1 d2 e1 e2 acc T (i + 1) lst e A' hl⟩
      rw [Bool.or_eq_true] at hc
      rcases hc with q | q
      · left; rw [hb]; exact q
      · right; exact pairFree_ok q a1 a2 d1 d2
    | false =>
      rw [hc, cond_false] at e
      split at e
      case h_2 => cases e
      rename_i t' 
      split at e
      case h_2 => cases e
      rename_i l hl2
      cases e
      obtain ⟨b1, b2, b3⟩ := a3 t' rfl
      refine ⟨.inr ?_, toChk_ok hb d1 d2 e1 e2 acc T (i + 1) l hl2 A' (fun x hx => hl x (by simp [hx]))⟩
      rw [trOk_congr b1 b2 b3 e1 e2]
      exact hl t' (by simp)

theorem since_self (h : AH) : since h h = [] := by
  unfold since; simp

/-- A run of which none is done. -/
theorem evSeq_skip {ops : Array Oper} : ∀ (a : List Oper) (ts : Array Value) (h : AH) (T : List Tr) (acc : List (Op × Option Tr)), (∀ t, (wOpers a).testBit t = true → t < ts.size) →
    (∀ o, o ∈ a → ∀ ts2 : Array Value, (∀ t, (wOpers a).testBit t = false → ts2.getD t undef = ts.getD t undef) → Region.wanted o (yielded ops ts2) = false) → AccRel acc T →
    ∃ ts' T', (∀ b, evSeq P R ops (a ++ b) ts h T = evSeq P R ops b ts' h T') ∧ AccRel (acc ++ a.map fun o => (o.op, none)) T' ∧ T'.map (·.bef) = runMs (T.map (·.bef)) a ∧
      ts'.size = ts.size ∧ (∀ t, (wOpers a).testBit t = false → ts'.getD t undef = ts.getD t undef) ∧ ∀ t, (wOpers a).testBit t = true → ts'.getD t undef = undef
  | [], ts, h, T, acc, hs, hw, A => ⟨ts, T, fun _ => rfl, by simpa using A, rfl, rfl, fun _ _ => rfl, fun t ht => by simp [wOpers] at ht⟩
  | o :: a, ts, h, T, acc, hs, hw, A => by
    have hwo := hw o (by simp) ts fun _ _ => rfl
    have wsub : ∀ t, (wOpers a).testBit t = true → (wOpers (o :: a)).testBit t = true := fun t ht => by
      rw [mem_wOpers] at ht ⊢
      obtain ⟨x, hx, hd⟩ := ht
      exact ⟨x, by simp [hx], hd⟩
    have wno : ∀ t, (wOpers (o :: a)).testBit t = false → (wOpers a).testBit t = false := fun t ht => by
      cases q : (wOpers a).testBit t with
      | false => rfl
      | true => rw [wsub t q] at ht; cases ht
    have hold : ∀ t, (wOpers (o :: a)).testBit t = false → (putT ts o.dst undef).getD t undef = ts.getD t undef := by
      intro t ht
      rw [putT_getD, if_neg]
      intro q
      rw [mem_wOpers.2 ⟨o, by simp, q⟩] at ht; cases ht
    obtain ⟨ts', T', q1, q2, q3, q4, q5, q6⟩ := evSeq_skip (ops := ops) a (putT ts o.dst undef) h (T ++ [⟨befOf (T.map (·.bef)) o, some [], [], h⟩]) (acc ++ [(o.op, none)]) (fun t ht => by rw [putT_size']; exact hs t (wsub t ht))
      (fun x hx ts2 h2 => hw x (by simp [hx]) ts2 fun t ht => by rw [h2 t (wno t ht), hold t ht]) (A.push (fun _ => rfl) (fun _ => rfl) (fun t' ht => by cases ht))
    refine ⟨ts', T', fun b => ?_, by simpa using q2, by simpa [runMs] using q3, q4.trans (putT_size' _ _ _), fun t ht => by rw [q5 t (wno t ht), hold t ht], fun t ht => ?_⟩
    · simp only [List.cons_append, evSeq, hwo, Bool.false_eq_true, if_false]
      exact q1 b
    · cases q : (wOpers a).testBit t with
      | true => exact q6 t q
      | false =>
        rw [q5 t q, putT_getD]
        rw [mem_wOpers] at ht
        obtain ⟨x, hx, hd⟩ := ht
        rcases List.mem_cons.1 hx with rfl | hx
        · simp [hd]
        · rw [mem_wOpers.2 ⟨x, hx, hd⟩] at q; cases q

theorem cChk_some {l : List Tr} {d : Tr} {c : M} {r : Value × AH} (e : cChk l d c = some r) : (∀ x, x ∈ l → trOk x d = true) ∧ c = some r := by
  unfold cChk at e
  split at e
  · exact ⟨fun x hx => by simp at hx, e⟩
  · unfold pChk at e
    cases hq : (l.all fun x => trOk x d) with
    | false => rw [hq] at e; cases e
    | true => rw [hq] at e; exact ⟨List.all_eq_true.1 hq, e⟩

theorem AccRel.weaken {acc acc2 : List (Op × Option Tr)} {T : List Tr} (h : AccRel acc T) (hl : acc2.length = acc.length) (hh : ∀ (i : Nat) (x : Op) (t : Option Tr), acc2[i]? = some (x, t) → ∃ t', acc[i]? = some (x, t') ∧ (t = none ∨ t = t')) : AccRel acc2 T := by
  refine ⟨hl.trans h.len, fun i x t y hx hy => ?_⟩
  obtain ⟨t', h1, h2⟩ := hh i x t hx
  obtain ⟨a1, a2, a3⟩ := h.at_ i x t' y h1 hy
  refine ⟨a1, a2, fun t0 ht0 => ?_⟩
  rcases h2 with rfl | rfl
  · cases ht0
  · exact a3 t0 ht0

/-- A run of which all is done, looked at. -/
theorem cRunD_ok {ops : Array Oper} {L : Nat} (hR : RecSt R) : ∀ (a : List Oper) (T : List Tr) (acc : List (Op × Option Tr)) (env : Env) (h : AH) (c : Env → AH → M) (r : Value × AH) (ts : Array Value),
    cRunD P R a (T.map (·.bef)) acc env h c = some r → AccRel acc T → Agr (fun t => (lvOps ops a L).testBit t = true) env ts → (∀ t, (wOpers a).testBit t = true → t < ts.size) →
    (∀ o, o ∈ a → ∀ ts' : Array Value, (∀ t, (wOpers a).testBit t = false → ts'.getD t undef = ts.getD t undef) → Region.wanted o (yielded ops ts') = true) →
    ∃ ts' h' env' T', (∀ b, evSeq P R ops (a ++ b) ts h T = evSeq P R ops b ts' h' T') ∧ AccRel (acc ++ a.map fun o => (o.op, none)) T' ∧ T'.map (·.bef) = runMs (T.map (·.bef)) a ∧ Behind (fun t => L.testBit t = true) (wOpers a) ts env c r ts' h' env'
  | [], T, acc, env, h, c, r, ts, e, A, ha, hs, hw => ⟨ts, h, env, T, fun _ => rfl, by simpa using A, rfl, ⟨ha, e, rfl, fun _ _ => rfl, fun _ _ => rfl⟩⟩
  | o :: a, T, acc, env, h, c, r, ts, e, A, ha, hs, hw => by
    simp only [cRunD] at e
    split at e
    case h_2 => cases e
    rename_i lst hlst
    have hag := ha.sub (S' := fun t => (mOpnds o.op.operands.toList).testBit t = true) fun t ht => lvOps_cons.2 (.inl (mOper_opnds ht))
    obtain ⟨hok, v, h1, hop, e1⟩ := cOne_ok e hag
    obtain ⟨hchk, e1⟩ := cChk_some e1
    have hwo : Region.wanted o (yielded ops ts) = true := hw o (by simp) ts fun _ _ => rfl
    have wsub : ∀ t, (wOpers a).testBit t = true → (wOpers (o :: a)).testBit t = true := fun t ht => by
      rw [mem_wOpers] at ht ⊢
      obtain ⟨x, hx, hd⟩ := ht
      exact ⟨x, by simp [hx], hd⟩
    have wdst : ∀ t, o.dst = some t → (wOpers (o :: a)).testBit t = true := fun t ht => mem_wOpers.2 ⟨o, by simp, ht⟩
    have hput := ha.put o.dst v (fun t ht => hs t (wdst t ht))
    have hold : ∀ t, (wOpers (o :: a)).testBit t = false → (putT ts o.dst v).getD t undef = ts.getD t undef := by
      intro t ht
      rw [putT_getD, if_neg]
      intro q
      rw [wdst t q] at ht; cases ht
    have wno : ∀ t, (wOpers (o :: a)).testBit t = false → (wOpers a).testBit t = false := fun t ht => by
      cases q : (wOpers a).testBit t with
      | false => rfl
      | true => rw [wsub t q] at ht; cases ht
    have d1 : quiet o.op = true → since h h1 = [] := fun q => by rw [quiet_same q hop]; exact since_self h
    have d2 : idle o.op = true → needs (evalIn ts) o = some [] := idle_needs
    have hnd : needs (evE env) o = needs (evalIn ts) o := needs_congr fun x hx => evE_evalIn fun t ht => hag t (mem_mOpnds.2 (by subst ht; simpa using hx))
    have hwr : (trE (T.map (·.bef)) env o h h1).wr = since h h1 := by
      unfold trE
      cases hq : quiet o.op with
      | true => simp [d1 hq]
      | false => rfl
    have htr : trsOk (trOf T ts o h h1) 0 T = true := toChk_ok (tr := trOf T ts o h h1) (tr' := trE (T.map (·.bef)) env o h h1) rfl d1 d2 hnd.symm hwr.symm acc T 0 lst hlst A hchk
    have A1 : AccRel (acc ++ [(o.op, some (trE (T.map (·.bef)) env o h h1))]) (T ++ [trOf T ts o h h1]) := A.push d1 d2 fun t' ht => by
      cases ht
      exact ⟨hnd.symm, hwr.symm, rfl⟩
    obtain ⟨ts', h', env', T', q1, q2, q3, B⟩ := cRunD_ok (ops := ops) (L := L) hR a (T ++ [trOf T ts o h h1]) _ _ h1 c r (putT ts o.dst v) (by simpa [trOf] using e1) A1 (hput.sub fun t ht => by
        by_cases q : o.dst = some t
        · exact .inr q
        · exact .inl (lvOps_cons.2 (.inr ⟨ht, q⟩)))
      (fun t ht => by rw [putT_size']; exact hs t (wsub t ht))
      (fun x hx ts2 h2 => hw x (by simp [hx]) ts2 fun t ht => by rw [h2 t (wno t ht), hold t ht])
    refine ⟨ts', h', env', T', fun b => ?_, ?_, by simpa [runMs, trOf] using q3, ⟨B.agr, B.go, B.size.trans (putT_size' _ _ _), fun t ht => by rw [B.old t (wno t ht), hold t ht], fun t ht => by rw [B.env t (wno t ht)]; exact envPut_no (by simp) ht⟩⟩
    · simp only [List.cons_append, evSeq, hwo, if_true, hok, hop, htr]
      exact q1 b
    · refine q2.weaken (by simp) fun i x t hx => ?_
      simp only [List.map_cons] at hx
      by_cases hi : i = acc.length
      · subst hi
        rw [List.getElem?_append_right (Nat.le_refl _)] at hx
        simp at hx
        obtain ⟨rfl, rfl⟩ := hx
        refine ⟨some (trE (T.map (·.bef)) env o h h1), ?_, .inl rfl⟩
        rw [List.append_assoc, List.getElem?_append_right (Nat.le_refl _)]
        simp
      · refine ⟨t, ?_, .inr rfl⟩
        rw [← hx, List.append_assoc]
        rcases Nat.lt_or_gt_of_ne hi with q | q
        · rw [List.getElem?_append_left q, List.getElem?_append_left q]
        · have hle : acc.length ≤ i := by omega
          simp only [List.getElem?_append_right hle]
          obtain ⟨k, hk⟩ : ∃ k, i - acc.length = k + 1 := ⟨i - acc.length - 1, by omega⟩
          rw [hk]; simp

/-- A guarded run, looked at. -/
theorem cGuardD_ok {ops : Array Oper} (hR : RecSt R) {want : Bool} {d : Tmp} {m g : Nat} {a : List Oper} {T : List Tr} {acc : List (Op × Option Tr)} {env : Env} {h : AH} {c : Env → AH → M} {r : Value × AH} {ts : Array Value}
    (e : cGuardD P R want d (bitsOf (Nat.land (wOpers a) m)) a (T.map (·.bef)) acc env h c = some r) (A : AccRel acc T) (hg : ∀ o, o ∈ a → o.guard = some (g, want)) (hd : guardTmp ops g = some d) (hdw : (wOpers a).testBit d = false)
    (hSd : (lvOps ops a m).testBit d = true) (ha : Agr (fun t => (lvOps ops a m).testBit t = true) env ts) (hs : ∀ t, (wOpers a).testBit t = true → t < ts.size) :
    ∃ ts' h' env' T', (∀ b, evSeq P R ops (a ++ b) ts h T = evSeq P R ops b ts' h' T') ∧ AccRel (acc ++ a.map fun o => (o.op, none)) T' ∧ T'.map (·.bef) = runMs (T.map (·.bef)) a ∧ Behind (fun t => m.testBit t = true) (wOpers a) ts env c r ts' h' env' := by
  unfold cGuardD jn at e
  dsimp only at e
  have hdv : env d = ts.getD d undef := ha d hSd
  have wv : ∀ o, o ∈ a → ∀ ts' : Array Value, (∀ t, (wOpers a).testBit t = false → ts'.getD t undef = ts.getD t undef) → Region.wanted o (yielded ops ts') = (match env d with | .bool b => b == want | _ => false) := by
    intro o ho ts' ht
    rw [wanted_guard (hg o ho) hd, ht d hdw, hdv]
    cases ts.getD d undef <;> rfl
  have skip : (∀ o, o ∈ a → ∀ ts' : Array Value, (∀ t, (wOpers a).testBit t = false → ts'.getD t undef = ts.getD t undef) → Region.wanted o (yielded ops ts') = false) →
      app (bitsOf (Nat.land (wOpers a) m)).length (cur (bitsOf (Nat.land (wOpers a) m)).length fun vs h' => c (envSets env (bitsOf (Nat.land (wOpers a) m)) vs) h') ((bitsOf (Nat.land (wOpers a) m)).map fun _ => undef) h = some r →
      ∃ ts' h' env' T', (∀ b, evSeq P R ops (a ++ b) ts h T = evSeq P R ops b ts' h' T') ∧ AccRel (acc ++ a.map fun o => (o.op, none)) T' ∧ T'.map (·.bef) = runMs (T.map (·.bef)) a ∧ Behind (fun t => m.testBit t = true) (wOpers a) ts env c r ts' h' env' := by
    intro hw e
    rw [app_cur _ _ _ _ (by simp)] at e
    obtain ⟨ts', T', q1, q2, q3, h1, h2, h3⟩ := evSeq_skip (P := P) (R := R) (ops := ops) a ts h T acc hs hw A
    refine ⟨ts', h, _, T', q1, q2, q3, ⟨?_, e, h1, h2, fun t ht => envSets_no (f := fun _ => undef) ht⟩⟩
    intro t ht
    have : ((bitsOf (Nat.land (wOpers a) m)).map fun _ => undef) = (bitsOf (Nat.land (wOpers a) m)).map (fun _ => undef : Nat → Value) := rfl
    rw [this, envSets_map]
    split
    · rename_i q
      rw [mem_bitsOf, land_bit, Bool.and_eq_true] at q
      exact (h3 t q.1).symm
    · rename_i q
      rw [mem_bitsOf, land_bit, ht, Bool.and_true, Bool.not_eq_true] at q
      rw [h2 t q]
      exact ha t (lvOps_old a m t ht q)
  unfold pG at e
  split at e
  · rename_i b hb
    rw [hb] at wv
    have hbw : (bif b then want else !want) = (b == want) := by cases b <;> cases want <;> rfl
    rw [hbw] at e
    cases hq : (b == want) with
    | true =>
      rw [hq, cond_true] at e
      obtain ⟨ts', h', env', T', q1, q2, q3, B⟩ := cRunD_ok (ops := ops) (L := m) hR a T acc env h _ r ts e A ha hs (fun o ho ts' ht => by rw [wv o ho ts' ht]; exact hq)
      have hgo := B.go
      rw [app_cur _ _ _ _ (by simp)] at hgo
      refine ⟨ts', h', _, T', q1, q2, q3, ⟨?_, hgo, B.size, B.old, fun t ht => envSets_no ht⟩⟩
      intro t ht
      rw [envSets_map]
      split
      · exact B.agr t ht
      · rename_i q
        rw [mem_bitsOf, land_bit, ht, Bool.and_true, Bool.not_eq_true] at q
        rw [B.old t q]
        exact ha t (lvOps_old a m t ht q)
    | false =>
      rw [hq, cond_false] at e
      exact skip (fun o ho ts' ht => (wv o ho ts' ht).trans hq) e
  · rename_i hnb
    refine skip (fun o ho ts' ht => ?_) e
    rw [wv o ho ts' ht]
    split
    · rename_i b hb; exact absurd hb (hnb b)
    · rfl

/-- A region that draws. -/
theorem cSeq_ok {ops : Array Oper} (hR : RecSt R) : ∀ (n : Nat) (l : List Oper) (L : Nat) (T : List Tr) (acc : List (Op × Option Tr)) (env : Env) (h : AH) (c : Env → AH → M) (r : Value × AH) (ts : Array Value),
    cSeq P R ops n l L (T.map (·.bef)) acc env h c = some r → AccRel acc T → Agr (fun t => (lvOps ops l L).testBit t = true) env ts → (∀ t, (wOpers l).testBit t = true → t < ts.size) →
    ∃ ts' h' env', evSeq P R ops l ts h T = some (ts', h') ∧ Behind (fun t => L.testBit t = true) (wOpers l) ts env c r ts' h' env'
  | n, [], L, T, acc, env, h, c, r, ts, e, A, ha, hs => ⟨ts, h, env, rfl, ⟨ha, by cases n <;> exact e, rfl, fun _ _ => rfl, fun _ _ => rfl⟩⟩
  | 0, o :: rest, L, T, acc, env, h, c, r, ts, e, A, ha, hs => by simp only [cSeq, ifB_eq] at e; cases e
  | n + 1, o :: rest, L, T, acc, env, h, c, r, ts, e, A, ha, hs => by
    simp only [cSeq, ifB_eq] at e
    split at e
    · -- no guard
      rename_i hg
      split at e
      case h_2 => cases e
      rename_i lst hlst
      have hag := ha.sub (S' := fun t => (mOpnds o.op.operands.toList).testBit t = true) fun t ht => lvOps_cons.2 (.inl (mOper_opnds ht))
      obtain ⟨hok, v, h1, hop, e1⟩ := cOne_ok e hag
      obtain ⟨hchk, e1⟩ := cChk_some e1
      have wdst : ∀ t, o.dst = some t → (wOpers (o :: rest)).testBit t = true := fun t ht => mem_wOpers.2 ⟨o, by simp, ht⟩
      have wsub : ∀ t, (wOpers rest).testBit t = true → (wOpers (o :: rest)).testBit t = true := fun t ht => by
        rw [mem_wOpers] at ht ⊢
        obtain ⟨x, hx, hd⟩ := ht
        exact ⟨x, by simp [hx], hd⟩
      have d1 : quiet o.op = true → since h h1 = [] := fun q => by rw [quiet_same q hop]; exact since_self h
      have d2 : idle o.op = true → needs (evalIn ts) o = some [] := idle_needs
      have hnd : needs (evE env) o = needs (evalIn ts) o := needs_congr fun x hx => evE_evalIn fun t ht => hag t (mem_mOpnds.2 (by subst ht; simpa using hx))
      have hwr : (trE (T.map (·.bef)) env o h h1).wr = since h h1 := by
        unfold trE
        cases hq : quiet o.op with
        | true => simp [d1 hq]
        | false => rfl
      have htr : trsOk (trOf T ts o h h1) 0 T = true := toChk_ok (tr := trOf T ts o h h1) (tr' := trE (T.map (·.bef)) env o h h1) rfl d1 d2 hnd.symm hwr.symm acc T 0 lst hlst A hchk
      have A1 : AccRel (acc ++ [(o.op, some (trE (T.map (·.bef)) env o h h1))]) (T ++ [trOf T ts o h h1]) := A.push d1 d2 fun t' ht => by
        cases ht
        exact ⟨hnd.symm, hwr.symm, rfl⟩
      have hput := ha.put o.dst v (fun t ht => hs t (wdst t ht))
      obtain ⟨ts', h', env', e2, B⟩ := cSeq_ok (ops := ops) hR n rest L (T ++ [trOf T ts o h h1]) _ _ h1 c r (putT ts o.dst v) (by simpa [trOf] using e1) A1 (hput.sub fun t ht => by
          by_cases q : o.dst = some t
          · exact .inr q
          · exact .inl (lvOps_cons.2 (.inr ⟨ht, q⟩))) (fun t ht => by rw [putT_size']; exact hs t (wsub t ht))
      have hw : Region.wanted o (yielded ops ts) = true := by unfold Region.wanted; rw [hg]
      refine ⟨ts', h', env', by simp only [evSeq, hw, if_true, hok, hop, htr]; exact e2, ⟨B.agr, B.go, B.size.trans (putT_size' _ _ _), fun t ht => ?_, fun t ht => ?_⟩⟩
      · rw [B.old t (by
          cases q : (wOpers rest).testBit t with
          | false => rfl
          | true => rw [wsub t q] at ht; cases ht), putT_getD, if_neg]
        intro q
        rw [wdst t q] at ht; cases ht
      · rw [B.env t (by
          cases q : (wOpers rest).testBit t with
          | false => rfl
          | true => rw [wsub t q] at ht; cases ht)]
        exact envPut_no (by simp) ht
    · -- a guarded run
      rename_i g want hg
      split at e
      case h_2 => cases e
      rename_i d hd
      cases hdw : (wOpers (gSpan o.guard (o :: rest)).1).testBit d with
      | true => rw [show Nat.testBit _ d = true from hdw] at e; cases e
      | false =>
      rw [show Nat.testBit _ d = false from hdw, cond_false] at e
      have happ := gSpan_append o.guard (o :: rest)
      have hgu := gSpan_guard o.guard (o :: rest)
      have hcons : ∃ a', (gSpan o.guard (o :: rest)).1 = o :: a' := by
        unfold gSpan
        have : gEq o.guard o.guard = true := by rw [hg]; cases want <;> simp [gEq]
        rw [this]; exact ⟨_, rfl⟩
      generalize (gSpan o.guard (o :: rest)).1 = a at *
      generalize (gSpan o.guard (o :: rest)).2 = b at *
      have wsub : ∀ t, (wOpers a).testBit t = true → (wOpers (o :: rest)).testBit t = true := fun t ht => by
        rw [mem_wOpers] at ht ⊢
        obtain ⟨x, hx, hd⟩ := ht
        exact ⟨x, by rw [← happ]; simp [hx], hd⟩
      have wsubb : ∀ t, (wOpers b).testBit t = true → (wOpers (o :: rest)).testBit t = true := fun t ht => by
        rw [mem_wOpers] at ht ⊢
        obtain ⟨x, hx, hd⟩ := ht
        exact ⟨x, by rw [← happ]; simp [hx], hd⟩
      obtain ⟨ts1, h1, env1, T', q1, q2, q3, B⟩ := cGuardD_ok (ops := ops) hR e A (fun x hx => (hgu x hx).trans hg) hd hdw (by
          obtain ⟨a', ha'⟩ : ∃ a', a = o :: a' := hcons
          rw [ha', lvOps_cons]
          exact .inl (mOper_guard hg hd)) (by rw [← lvOps_append, happ]; exact ha) (fun t ht => hs t (wsub t ht))
      obtain ⟨ts2, h2, env2, e2, B2⟩ := cSeq_ok (ops := ops) hR n b L T' _ env1 h1 c r ts1 (by rw [q3]; exact B.go) q2 B.agr (fun t ht => by rw [B.size]; exact hs t (wsubb t ht))
      refine ⟨ts2, h2, env2, ?_, ⟨B2.agr, B2.go, B2.size.trans B.size, fun t ht => ?_, fun t ht => ?_⟩⟩
      · rw [← happ, q1 b]; exact e2
      · have q1 : (wOpers a).testBit t = false := by
          cases q : (wOpers a).testBit t with
          | false => rfl
          | true => rw [wsub t q] at ht; cases ht
        have q2 : (wOpers b).testBit t = false := by
          cases q : (wOpers b).testBit t with
          | false => rfl
          | true => rw [wsubb t q] at ht; cases ht
        rw [B2.old t q2, B.old t q1]
      · have q1 : (wOpers a).testBit t = false := by
          cases q : (wOpers a).testBit t with
          | false => rfl
          | true => rw [wsub t q] at ht; cases ht
        have q2 : (wOpers b).testBit t = false := by
          cases q : (wOpers b).testBit t with
          | false => rfl
          | true => rw [wsubb t q] at ht; cases ht
        rw [B2.env t q2, B.env t q1]

theorem cRegion_ok (hR : RecSt R) {ops : Array Oper} {draw : Bool} {L : Nat} {env : Env} {h : AH} {c : Env → AH → M} {r : Value × AH} {ts : Array Value}
    (e : cRegion P R ops draw L env h c = some r) (ha : Agr (fun t => (lvOps ops ops.toList L).testBit t = true) env ts) (hs : ∀ t, (wOpers ops.toList).testBit t = true → t < ts.size) :
    ∃ ts' h' env', evRegion P R ops draw ts h = some (ts', h') ∧ Behind (fun t => L.testBit t = true) (wOpers ops.toList) ts env c r ts' h' env' := by
  unfold cRegion at e
  simp only [ifB_eq] at e
  unfold evRegion
  cases draw with
  | true =>
    rw [cond_true] at e
    simp only [if_true]
    cases ho : (orderly ops && drawOk ops 0 ops.toList [] []) with
    | false => rw [ho] at e; cases e
    | true =>
      rw [ho, cond_true] at e
      rw [cond_true]
      exact cSeq_ok hR _ _ L [] [] env h c r ts e ⟨rfl, fun i x t y hx => by simp at hx⟩ ha hs
  | false =>
    rw [cond_false] at e
    simp only [Bool.false_eq_true, if_false]
    exact cOps_ok _ _ L env h c r ts e ha hs
end
end Go.Ags
