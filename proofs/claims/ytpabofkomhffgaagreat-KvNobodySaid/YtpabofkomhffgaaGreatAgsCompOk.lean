/- What the steps of a function come to, the evaluator's function comes to; a table of such functions is sound. -/
import Derived.Test.YtpabofkomhffgaaGreatAgsRun2
import Derived.Test.YtpabofkomhffgaaGreatAgsEv
set_option linter.unusedVariables false
set_option linter.unusedSimpArgs false
namespace Go.Ags
section
variable {P : Program} {R : Rec}

theorem pIf_some {c : Value} {a b : M} {r : Value × AH} (e : pIf c a b = some r) : ∃ t, c = .bool t ∧ (bif t then a else b) = some r := by
  unfold pIf at e
  split at e
  · exact ⟨_, rfl, e⟩
  · cases e

/-- What is looked at behind the code: at its end, or at a way out. -/
def outM (n x : Nat) : Ex → Nat
  | .normal => n
  | _ => x

/-- What the steps of some code come to. -/
def CTo (P : Program) (R : Rec) (fuel : Nat) (code : Code) (n x : Nat) (k : Kont) (r : Value × AH) (env : Env) (s : ES) : Prop :=
  ∃ y s' env', evCode P R fuel false code s = some (y, s') ∧ Agr (fun t => (outM n x y).testBit t = true) env' s'.tmps ∧ k y env' s'.h = some r ∧ s'.tmps.size = s.tmps.size ∧ s'.marks = s.marks ∧
    (∀ t, (wCode code).testBit t = false → s'.tmps.getD t undef = s.tmps.getD t undef) ∧ ∀ t, (wCode code).testBit t = false → env' t = env t

/-- An environment with those of a set turned. -/
theorem agr_sets {W m : Nat} {env env' : Env} {ts' : Array Value} (ha : ∀ t, W.testBit t = false → env' t = env t) (hb : Agr (fun t => m.testBit t = true) env' ts') :
    Agr (fun t => m.testBit t = true) (envSets env (bitsOf (Nat.land W m)) ((bitsOf (Nat.land W m)).map env')) ts' := by
  intro t ht
  rw [envSets_map]
  split
  · exact hb t ht
  · rename_i q
    rw [mem_bitsOf, land_bit, ht, Bool.and_true, Bool.not_eq_true] at q
    rw [← ha t q]; exact hb t ht

theorem cCode_ok (hR : RecSt R) {fuel : Nat} : ∀ (code : Code) (n x : Nat) (k : Kont) (env : Env) (h : AH) (r : Value × AH) (s : ES), cCode P R fuel code n x k env h = some r → s.h = h →
    Agr (fun t => (lv code n x).testBit t = true) env s.tmps → (∀ t, (wCode code).testBit t = true → t < s.tmps.size) → CTo P R fuel code n x k r env s
  | .skip, n, x, k, env, h, r, s, e, hh, ha, hs => ⟨.normal, s, env, rfl, ha, by simp only [cCode, ifB_eq] at e; rw [hh]; exact e, rfl, rfl, fun _ _ => rfl, fun _ _ => rfl⟩
  | .label _, n, x, k, env, h, r, s, e, hh, ha, hs => ⟨.normal, s, env, rfl, ha, by simp only [cCode, ifB_eq] at e; rw [hh]; exact e, rfl, rfl, fun _ _ => rfl, fun _ _ => rfl⟩
  | .ret, n, x, k, env, h, r, s, e, hh, ha, hs => ⟨.ret, s, env, rfl, ha, by simp only [cCode, ifB_eq] at e; rw [hh]; exact e, rfl, rfl, fun _ _ => rfl, fun _ _ => rfl⟩
  | .exit id, n, x, k, env, h, r, s, e, hh, ha, hs => ⟨.exit id, s, env, rfl, ha, by simp only [cCode, ifB_eq] at e; rw [hh]; exact e, rfl, rfl, fun _ _ => rfl, fun _ _ => rfl⟩
  | .region id ops draw, n, x, k, env, h, r, s, e, hh, ha, hs => by
    simp only [cCode, ifB_eq] at e
    obtain ⟨ts', h', env', e1, B⟩ := cRegion_ok hR e ha hs
    subst hh
    exact ⟨.normal, { s with tmps := ts', h := h' }, env', by simp only [evCode, e1], B.agr, B.go, B.size, rfl, B.old, B.env⟩
  | .seq a b, n, x, k, env, h, r, s, e, hh, ha, hs => by
    simp only [cCode, ifB_eq] at e
    have hsa : ∀ t, (wCode a).testBit t = true → t < s.tmps.size := fun t ht => hs t (by show (Nat.lor (wCode a) (wCode b)).testBit t = true; rw [lor_bit, ht, Bool.true_or])
    have hsb : ∀ t, (wCode b).testBit t = true → t < s.tmps.size := fun t ht => hs t (by show (Nat.lor (wCode a) (wCode b)).testBit t = true; rw [lor_bit, ht, Bool.or_true])
    have hw : ∀ t, (wCode (.seq a b)).testBit t = false → (wCode a).testBit t = false ∧ (wCode b).testBit t = false := fun t ht => by
      have : (Nat.lor (wCode a) (wCode b)).testBit t = false := ht
      rw [lor_bit, Bool.or_eq_false_iff] at this; exact this
    -- the second part
    have snd : ∀ (s' : ES) (env2 : Env), evCode P R fuel false a s = some (.normal, s') → cCode P R fuel b n x k env2 s'.h = some r → Agr (fun t => (lv b n x).testBit t = true) env2 s'.tmps → s'.tmps.size = s.tmps.size → s'.marks = s.marks →
        (∀ t, (wCode a).testBit t = false → s'.tmps.getD t undef = s.tmps.getD t undef) → (∀ t, (wCode a).testBit t = false → env2 t = env t) → CTo P R fuel (.seq a b) n x k r env s := by
      intro s' env2 e1 e2 ha2 hsz hmk hold henv
      obtain ⟨y, s2, env3, f1, f2, f3, f4, f5, f6, f7⟩ := cCode_ok hR b n x k env2 s'.h r s' e2 rfl ha2 (fun t ht => by rw [hsz]; exact hsb t ht)
      exact ⟨y, s2, env3, by simp only [evCode, e1, f1], f2, f3, f4.trans hsz, f5.trans hmk, fun t ht => by rw [f6 t (hw t ht).2, hold t (hw t ht).1], fun t ht => by rw [f7 t (hw t ht).2, henv t (hw t ht).1]⟩
    cases hp : plain a with
    | true =>
      rw [hp, cond_true] at e
      obtain ⟨y, s', env', e1, e2, e3, e4, e5, e6, e7⟩ := cCode_ok hR a _ _ _ env h r s e hh ha hsa
      cases y with
      | normal => exact snd s' env' e1 e3 e2 e4 e5 e6 e7
      | exit i => exact ⟨.exit i, s', env', by simp only [evCode, e1], e2, e3, e4, e5, fun t ht => e6 t (hw t ht).1, fun t ht => e7 t (hw t ht).1⟩
      | ret => exact ⟨.ret, s', env', by simp only [evCode, e1], e2, e3, e4, e5, fun t ht => e6 t (hw t ht).1, fun t ht => e7 t (hw t ht).1⟩
    | false =>
      rw [hp, cond_false] at e
      unfold jn at e
      obtain ⟨y, s', env', e1, e2, e3, e4, e5, e6, e7⟩ := cCode_ok hR a _ _ _ env h r s e hh ha hsa
      cases y with
      | normal =>
        dsimp only at e3
        rw [app_cur _ _ _ _ (by simp)] at e3
        exact snd s' _ e1 e3 (agr_sets e7 e2) e4 e5 e6 (fun t ht => envSets_no ht)
      | exit i => exact ⟨.exit i, s', env', by simp only [evCode, e1], e2, e3, e4, e5, fun t ht => e6 t (hw t ht).1, fun t ht => e7 t (hw t ht).1⟩
      | ret => exact ⟨.ret, s', env', by simp only [evCode, e1], e2, e3, e4, e5, fun t ht => e6 t (hw t ht).1, fun t ht => e7 t (hw t ht).1⟩
  | .cond c a b, n, x, k, env, h, r, s, e, hh, ha, hs => by
    have hsa : ∀ t, (wCode a).testBit t = true → t < s.tmps.size := fun t ht => hs t (by show (Nat.lor (wCode a) (wCode b)).testBit t = true; rw [lor_bit, ht, Bool.true_or])
    have hsb : ∀ t, (wCode b).testBit t = true → t < s.tmps.size := fun t ht => hs t (by show (Nat.lor (wCode a) (wCode b)).testBit t = true; rw [lor_bit, ht, Bool.or_true])
    have hm : ∀ t, (mOpnd c).testBit t = true ∨ (lv a n x).testBit t = true ∨ (lv b n x).testBit t = true → (lv (.cond c a b) n x).testBit t = true := fun t ht => by
      show (Nat.lor (mOpnd c) (Nat.lor (lv a n x) (lv b n x))).testBit t = true
      rw [lor_bit, lor_bit, Bool.or_eq_true, Bool.or_eq_true]; exact ht
    have hw : ∀ t, (wCode (.cond c a b)).testBit t = false → (wCode a).testBit t = false ∧ (wCode b).testBit t = false := fun t ht => by
      have : (Nat.lor (wCode a) (wCode b)).testBit t = false := ht
      rw [lor_bit, Bool.or_eq_false_iff] at this; exact this
    have go : ∀ (hne : ∀ g, c ≠ .global g), pIf (evE env c) (cCode P R fuel a n x k env h) (cCode P R fuel b n x k env h) = some r → CTo P R fuel (.cond c a b) n x k r env s := by
      intro hne e
      obtain ⟨t, ht, e⟩ := pIf_some e
      have hc : evalIn s.tmps c = .bool t := by
        rw [← ht]
        exact (evE_evalIn fun u hu => ha u (hm u (.inl (by subst hu; simp [mOpnd, bit_bit])))).symm
      have hev : evCode P R fuel false (.cond c a b) s = if t = true then evCode P R fuel false a s else evCode P R fuel false b s := by
        cases c with
        | global g => exact absurd rfl (hne g)
        | _ => simp only [evCode, hc]; cases t <;> rfl
      cases t with
      | true =>
        obtain ⟨y, s', env', e1, e2, e3, e4, e5, e6, e7⟩ := cCode_ok hR a n x k env h r s e hh (ha.sub fun u hu => hm u (.inr (.inl hu))) hsa
        exact ⟨y, s', env', by rw [hev]; simpa using e1, e2, e3, e4, e5, fun u hu => e6 u (hw u hu).1, fun u hu => e7 u (hw u hu).1⟩
      | false =>
        obtain ⟨y, s', env', e1, e2, e3, e4, e5, e6, e7⟩ := cCode_ok hR b n x k env h r s e hh (ha.sub fun u hu => hm u (.inr (.inr hu))) hsb
        exact ⟨y, s', env', by rw [hev]; simpa using e1, e2, e3, e4, e5, fun u hu => e6 u (hw u hu).2, fun u hu => e7 u (hw u hu).2⟩
    cases c with
    | global g => simp only [cCode, ifB_eq] at e; cases e
    | _ => simp only [cCode, ifB_eq] at e; exact go (by simp) e
  | .block id c, n, x, k, env, h, r, s, e, hh, ha, hs => by
    simp only [cCode, ifB_eq] at e
    obtain ⟨y, s', env', e1, e2, e3, e4, e5, e6, e7⟩ := cCode_ok hR c n (Nat.lor x n) _ env h r s e hh ha hs
    have hx : Agr (fun t => (Nat.lor x n).testBit t = true) env' s'.tmps → Agr (fun t => x.testBit t = true) env' s'.tmps ∧ Agr (fun t => n.testBit t = true) env' s'.tmps := fun q =>
      ⟨q.sub fun t ht => by rw [lor_bit, ht, Bool.true_or], q.sub fun t ht => by rw [lor_bit, ht, Bool.or_true]⟩
    cases y with
    | normal => exact ⟨.normal, s', env', by simp only [evCode, e1], e2, e3, e4, e5, e6, e7⟩
    | ret => exact ⟨.ret, s', env', by simp only [evCode, e1], (hx e2).1, e3, e4, e5, e6, e7⟩
    | exit i =>
      dsimp only at e3
      by_cases q : i = id
      · rw [beq_yes q, cond_true] at e3
        exact ⟨.normal, s', env', by simp only [evCode, e1, q, if_true], (hx e2).2, e3, e4, e5, e6, e7⟩
      · rw [beq_no q, cond_false] at e3
        exact ⟨.exit i, s', env', by simp only [evCode, e1, q, if_false], (hx e2).1, e3, e4, e5, e6, e7⟩
  | .loop c, n, x, k, env, h, r, s, e, hh, ha, hs => by
    simp only [cCode, ifB_eq] at e
    cases hfix : Nat.beq (Nat.lor (lv c (lv c 0 x) x) (lv c 0 x)) (lv c 0 x) with
    | false => rw [hfix] at e; cases e
    | true =>
    rw [hfix, cond_true] at e
    have hfix := Nat.eq_of_beq_eq_true hfix
    have hsub : ∀ t, (lv c (lv c 0 x) x).testBit t = true → (lv c 0 x).testBit t = true := fun t ht => by rw [← hfix, lor_bit, ht, Bool.true_or]
    have ha : Agr (fun t => (lv c 0 x).testBit t = true) env s.tmps := ha
    generalize lv c 0 x = X at *
    -- round by round
    have key : ∀ (m : Nat) (envv : Env) (h1 : AH) (s1 : ES), s1.h = h1 → Agr (fun t => X.testBit t = true) (envSets env (bitsOf (Nat.land (wCode c) X)) ((bitsOf (Nat.land (wCode c) X)).map envv)) s1.tmps →
        s1.tmps.size = s.tmps.size → s1.marks = s.marks → (∀ t, (wCode c).testBit t = false → s1.tmps.getD t undef = s.tmps.getD t undef) →
        app (bitsOf (Nat.land (wCode c) X)).length (lp (bitsOf (Nat.land (wCode c) X)).length (fun again => cur (bitsOf (Nat.land (wCode c) X)).length fun vs h' =>
          cCode P R fuel c X x (fun e env' h'' => match e with | .normal => app (bitsOf (Nat.land (wCode c) X)).length again ((bitsOf (Nat.land (wCode c) X)).map env') h'' | e => k e env' h'')
            (envSets env (bitsOf (Nat.land (wCode c) X)) vs) h') m) ((bitsOf (Nat.land (wCode c) X)).map envv) h1 = some r →
        ∃ y s' env', iter (evCode P R fuel false c) m s1 = some (y, s') ∧ Agr (fun t => (outM n x y).testBit t = true) env' s'.tmps ∧ k y env' s'.h = some r ∧ s'.tmps.size = s.tmps.size ∧ s'.marks = s.marks ∧ (∀ t, (wCode c).testBit t = false → s'.tmps.getD t undef = s.tmps.getD t undef) ∧
          ∀ t, (wCode c).testBit t = false → env' t = env t := by
      intro m
      induction m with
      | zero =>
        intro envv h1 s1 _ _ _ _ _ e
        have e : app (bitsOf (Nat.land (wCode c) X)).length (cur (bitsOf (Nat.land (wCode c) X)).length fun _ _ => none) ((bitsOf (Nat.land (wCode c) X)).map envv) h1 = some r := e
        rw [app_cur _ _ _ _ (by simp)] at e
        cases e
      | succ m ih =>
        intro envv h1 s1 hh1 ha1 hsz hmk hold e
        have e : app (bitsOf (Nat.land (wCode c) X)).length (cur (bitsOf (Nat.land (wCode c) X)).length fun vs h' =>
          cCode P R fuel c X x (fun e env' h'' => match e with | .normal => app (bitsOf (Nat.land (wCode c) X)).length (lp (bitsOf (Nat.land (wCode c) X)).length (fun again => cur (bitsOf (Nat.land (wCode c) X)).length fun vs h' =>
          cCode P R fuel c X x (fun e env' h'' => match e with | .normal => app (bitsOf (Nat.land (wCode c) X)).length again ((bitsOf (Nat.land (wCode c) X)).map env') h'' | e => k e env' h'')
            (envSets env (bitsOf (Nat.land (wCode c) X)) vs) h') m) ((bitsOf (Nat.land (wCode c) X)).map env') h'' | e => k e env' h'')
            (envSets env (bitsOf (Nat.land (wCode c) X)) vs) h') ((bitsOf (Nat.land (wCode c) X)).map envv) h1 = some r := e
        rw [app_cur _ _ _ _ (by simp)] at e
        obtain ⟨y, s', env', e1, e2, e3, e4, e5, e6, e7⟩ := cCode_ok hR c _ _ _ _ h1 r s1 e hh1 (ha1.sub fun t ht => hsub t ht) (fun t ht => by rw [hsz]; exact hs t ht)
        have hold' : ∀ t, (wCode c).testBit t = false → s'.tmps.getD t undef = s.tmps.getD t undef := fun t ht => by rw [e6 t ht, hold t ht]
        have henv' : ∀ t, (wCode c).testBit t = false → env' t = env t := fun t ht => by rw [e7 t ht]; exact envSets_no ht
        cases y with
        | normal =>
          dsimp only at e3
          obtain ⟨x2, s2, env2, f1, f2⟩ := ih env' s'.h s' rfl (agr_sets henv' e2) (e4.trans hsz) (e5.trans hmk) hold' e3
          exact ⟨x2, s2, env2, by simp only [iter, e1, f1], f2⟩
        | exit i => exact ⟨.exit i, s', env', by simp only [iter, e1], e2, e3, e4.trans hsz, e5.trans hmk, hold', henv'⟩
        | ret => exact ⟨.ret, s', env', by simp only [iter, e1], e2, e3, e4.trans hsz, e5.trans hmk, hold', henv'⟩
    have ha0 : Agr (fun t => X.testBit t = true) (envSets env (bitsOf (Nat.land (wCode c) X)) ((bitsOf (Nat.land (wCode c) X)).map env)) s.tmps := fun t ht => by
      rw [envSets_map, ite_self]; exact ha t ht
    obtain ⟨y, s', env', f1, f2⟩ := key fuel env h s hh ha0 rfl rfl (fun _ _ => rfl) e
    exact ⟨y, s', env', by simp only [evCode, f1], f2⟩
  | .rangeFunc _ _ _ _, n, x, k, env, h, r, s, e, hh, ha, hs => by simp only [cCode, ifB_eq] at e; cases e
  | .scope _, n, x, k, env, h, r, s, e, hh, ha, hs => by simp only [cCode, ifB_eq] at e; cases e
  | .goto _, n, x, k, env, h, r, s, e, hh, ha, hs => by simp only [cCode, ifB_eq] at e; cases e
  | .refuse _, n, x, k, env, h, r, s, e, hh, ha, hs => by simp only [cCode, ifB_eq] at e; cases e

theorem getL_eq : ∀ (l : List Value) (t : Nat), getL l t = (l[t]?).getD undef
  | [], t => by simp [getL]
  | v :: r, 0 => rfl
  | v :: r, t + 1 => by
    show getL r t = _
    rw [getL_eq r t]; simp

theorem cRes_ok {env : Env} {h : AH} {r : Value × AH} {ts : Array Value} : ∀ (l : List ResultVar) (c : List Value → M), cRes P env h l c = some r → Agr (fun t => (mRes l).testBit t = true) env ts →
    ∃ vs, l.mapM (aResult P ts h) = some vs ∧ c vs = some r
  | [], c, e, ha => ⟨[], rfl, e⟩
  | .tmp t :: l, c, e, ha => by
    simp only [cRes] at e
    obtain ⟨vs, e1, e2⟩ := cRes_ok l _ e (ha.sub fun u hu => by show (Nat.lor (bit t) (mRes l)).testBit u = true; rw [lor_bit, hu, Bool.or_true])
    have h1 : env t = ts.getD t undef := ha t (by show (Nat.lor (bit t) (mRes l)).testBit t = true; rw [lor_bit, bit_bit]; simp)
    exact ⟨env t :: vs, by simp [List.mapM_cons, aResult, e1, h1], e2⟩
  | .cell a t :: l, c, e, ha => by
    simp only [cRes] at e
    have ha2 : Agr (fun t => (mRes l).testBit t = true) env ts := ha.sub fun u hu => by show (Nat.lor (bit a) (mRes l)).testBit u = true; rw [lor_bit, hu, Bool.or_true]
    have h1 : env a = ts.getD a undef := ha a (by show (Nat.lor (bit a) (mRes l)).testBit a = true; rw [lor_bit, bit_bit]; simp)
    split at e
    · rename_i n hag hs
      obtain ⟨b, o, cs, tt, fr, hx, hb, hn, hc⟩ := pLdN_some e
      obtain ⟨vs, e1, e2⟩ := cRes_ok l _ hc ha2
      refine ⟨_, ?_, e2⟩
      have : aLoad P h t (ts.getD a undef) = some (.agg ⟨(cs.drop o).take (n + 1)⟩) := by
        rw [← h1, hx]; simp only [aLoad, hb]; exact aPart_some hag hs hn (by omega)
      rw [Array.getD_eq_getD_getElem?] at this
      simp [List.mapM_cons, aResult, this, e1]
    · rename_i n hag hs
      obtain ⟨b, o, cs, tt, fr, v, hx, hb, hv, hc⟩ := pLd_some e
      obtain ⟨vs, e1, e2⟩ := cRes_ok l _ hc ha2
      refine ⟨_, ?_, e2⟩
      have : aLoad P h t (ts.getD a undef) = some v := by
        rw [← h1, hx]; simp only [aLoad, hb]; exact aPart_one hag hs hv
      rw [Array.getD_eq_getD_getElem?] at this
      simp [List.mapM_cons, aResult, this, e1]
    · cases e

theorem retV_eq (l : List Value) (h : AH) : retV l h = some (if hs : (Array.mk l).size = 1 then (Array.mk l)[0] else .tuple ⟨l⟩, h) := by
  match l with
  | [] => rfl
  | [v] => rfl
  | a :: b :: l => simp [retV]

theorem cFn_ok (hR : RecSt R) {fuel : Nat} {f : FuncId} {args : List Value} {h : AH} {r : Value × AH} (e : cFn P R fuel f args h = some r) : evFn P R fuel f ⟨args⟩ h = some r := by
  unfold cFn at e
  split at e
  case h_2 => cases e
  rename_i fn hf
  split at e
  case h_2 => cases e
  rename_i c hb
  rw [ifB_eq] at e
  cases hq : (Nat.ble args.length fn.ntmps && Nat.blt (wCode c) (Nat.pow 2 fn.ntmps)) with
  | false => rw [hq] at e; cases e
  | true =>
  rw [hq, cond_true] at e
  rw [Bool.and_eq_true] at hq
  have hle : args.length ≤ fn.ntmps := by simpa [Nat.ble_eq] using hq.1
  have hlt : wCode c < 2 ^ fn.ntmps := by have := hq.2; rw [Nat.blt_eq] at this; exact this
  have hsz : ((Array.mk args) ++ Array.replicate (fn.ntmps - (Array.mk args).size) undef).size = fn.ntmps := by simp; omega
  have hget : ∀ t, getL args t = ((Array.mk args) ++ Array.replicate (fn.ntmps - (Array.mk args).size) undef).getD t undef := by
    intro t
    rw [getL_eq, Array.getD_eq_getD_getElem?]
    by_cases q : t < args.length
    · rw [Array.getElem?_append_left (by simpa using q)]; simp
    · rw [Array.getElem?_append_right (by simpa using q), List.getElem?_eq_none (by omega)]
      simp only [Option.getD_none, Array.getElem?_replicate]
      split <;> rfl
  obtain ⟨x, s', env', e1, e2, e3, e4, e5, e6, e7⟩ := cCode_ok hR c _ _ _ _ h r { tmps := (Array.mk args) ++ Array.replicate (fn.ntmps - (Array.mk args).size) undef, marks := [], h } e rfl (fun t _ => hget t)
    (fun t ht => by
      rw [hsz]
      have := Nat.ge_two_pow_of_testBit ht
      exact (Nat.pow_lt_pow_iff_right (by omega)).1 (Nat.lt_of_le_of_lt this hlt))
  have hmk : aMarks s'.marks s'.h = some s'.h := by rw [e5]; rfl
  have fin : ∀ (y : Ex), (y = .normal ∨ y = .ret) → x = y → (cRes P env' s'.h fn.results.toList fun l => retV l s'.h) = some r → evFn P R fuel f ⟨args⟩ h = some r := by
    intro y hy hxy e3
    obtain ⟨vs, f1, f2⟩ := cRes_ok fn.results.toList _ e3 (by rcases hy with rfl | rfl <;> subst hxy <;> exact e2)
    rw [retV_eq] at f2
    have hm : fn.results.mapM (aResult P s'.tmps s'.h) = some ⟨vs⟩ := by
      rw [← Array.toArray_toList (xs := fn.results)]
      rw [List.mapM_toArray, f1]; rfl
    unfold evFn
    rw [hf]
    simp only [hb]
    rw [e1]
    rcases hy with rfl | rfl <;> subst hxy <;> simp only [hmk, hm] <;> exact f2
  cases x with
  | normal => exact fin .normal (.inl rfl) rfl e3
  | ret => exact fin .ret (.inr rfl) rfl e3
  | exit i => cases e3
end

/-! ### A table of functions -/
/-- A function of so many values, of a list. -/
abbrev unc : (n : Nat) → Cur n → List Value → AH → M
  | 0, F, [], h => F h
  | n + 1, F, v :: l, h => unc n (F v) l h
  | _, _, _, _ => none
noncomputable def ext (R : Rec) (f : FuncId) (n : Nat) (F : Cur n) : Rec := { call := fun g args h => ifB (Nat.beq g f) (unc n F args.toList h) (R.call g args h), rnd := R.rnd }
/-- A function that is not turned into steps. -/
noncomputable def extS (P : Program) (R : Rec) (fuel : Nat) (f : FuncId) : Rec := { call := fun g args h => ifB (Nat.beq g f) (evFn P R fuel f args h) (R.call g args h), rnd := R.rnd }
def extR (P : Program) (R : Rec) (fuel : Nat) : Rec := { call := R.call, rnd := evRnd P R fuel }

structure GoodRec (P : Program) (R : Rec) : Prop where
  sound : RecSound P R
  next : RecNext R

def empty : Rec := { call := fun _ _ _ => none, rnd := fun _ _ _ => none }
theorem empty_good (P : Program) : GoodRec P empty := ⟨⟨fun e => by simp [empty] at e, fun e => by simp [empty] at e⟩, ⟨fun e => by simp [empty] at e, fun e => by simp [empty] at e, ⟨fun e => by simp [empty] at e, fun e => by simp [empty] at e⟩⟩⟩

section
variable {P : Program} {R : Rec} (G : ∀ (f : FuncId) (fn : Func), P.funcs[f]? = some fn → (fn.name == "runtime.NumGoroutine") = false)
include G

theorem ext_any (g : GoodRec P R) {f : FuncId} {R' : Rec} (hr : R'.rnd = R.rnd) (hc : ∀ {g' args h r}, R'.call g' args h = some r → R.call g' args h = some r ∨ (g' = f ∧ ∃ fuel, evFn P R fuel f args h = some r)) : GoodRec P R' := by
  refine ⟨⟨fun e => ?_, fun e => ?_⟩, ⟨fun e => ?_, fun e => ?_, ⟨fun e => ?_, fun e => ?_⟩⟩⟩
  · rcases hc e with q | ⟨rfl, fuel, q⟩
    · exact g.sound.call q
    · exact evFn_sound G g.sound g.next q
  · rw [hr] at e; exact g.sound.rnd e
  · rcases hc e with q | ⟨rfl, fuel, q⟩
    · exact g.next.call q
    · exact evFn_next g.next q
  · rw [hr] at e; exact g.next.rnd e
  · rcases hc e with q | ⟨rfl, fuel, q⟩
    · exact g.next.st.call q
    · exact evFn_st g.next.st q
  · rw [hr] at e; exact g.next.st.rnd e

theorem ext_good (g : GoodRec P R) {f : FuncId} {n : Nat} {F : Cur n} {fuel : Nat} (hF : ∀ (l : List Value) (h : AH), l.length = n → unc n F l h = cFn P R fuel f l h) (hn : ∀ (l : List Value) (h : AH), l.length ≠ n → unc n F l h = none) : GoodRec P (ext R f n F) := by
  refine ext_any G g (f := f) rfl fun {g' args h r} e => ?_
  simp only [ext, ifB_eq] at e
  cases q : Nat.beq g' f with
  | false => rw [q] at e; exact .inl e
  | true =>
    rw [q, cond_true] at e
    refine .inr ⟨Nat.eq_of_beq_eq_true q, fuel, ?_⟩
    by_cases hl : args.toList.length = n
    · rw [hF _ _ hl] at e
      exact cFn_ok g.next.st e
    · rw [hn _ _ hl] at e; cases e

theorem extS_good (g : GoodRec P R) (fuel : Nat) (f : FuncId) : GoodRec P (extS P R fuel f) := by
  refine ext_any G g (f := f) rfl fun {g' args h r} e => ?_
  simp only [extS, ifB_eq] at e
  cases q : Nat.beq g' f with
  | false => rw [q] at e; exact .inl e
  | true => rw [q, cond_true] at e; exact .inr ⟨Nat.eq_of_beq_eq_true q, fuel, e⟩

theorem extR_good (g : GoodRec P R) (fuel : Nat) : GoodRec P (extR P R fuel) :=
  ⟨⟨fun e => g.sound.call e, fun e => evRnd_sound G g.sound g.next e⟩, ⟨fun e => g.next.call e, fun e => evRnd_next g.next e, ⟨fun e => g.next.st.call e, fun e => evRnd_st g.next.st e⟩⟩⟩
end

theorem unc_no : ∀ (n : Nat) (F : Cur n) (l : List Value) (h : AH), l.length ≠ n → unc n F l h = none
  | 0, F, [], h, e => absurd rfl e
  | 0, F, v :: l, h, e => rfl
  | n + 1, F, [], h, e => rfl
  | n + 1, F, v :: l, h, e => unc_no n (F v) l h (by simpa using e)

/-- The function is what its code comes to, at every argument: 'cur' of the code. -/
theorem unc_cur : ∀ (n : Nat) (f : List Value → AH → M) (l : List Value) (h : AH), l.length = n → unc n (cur n f) l h = f l h
  | 0, f, [], h, _ => rfl
  | 0, f, v :: l, h, e => by simp at e
  | n + 1, f, [], h, e => by simp at e
  | n + 1, f, v :: l, h, e => by
    show unc n (cur n fun l => f (v :: l)) l h = _
    rw [unc_cur n _ l h (by simpa using e)]

theorem ext_ok {P : Program} {R : Rec} (G : ∀ (f : FuncId) (fn : Func), P.funcs[f]? = some fn → (fn.name == "runtime.NumGoroutine") = false) (g : GoodRec P R) {f n fuel : Nat} {F : Cur n} (hF : F = cur n (cFn P R fuel f)) : GoodRec P (ext R f n F) :=
  ext_good G g (fuel := fuel) (fun l h e => by rw [hF, unc_cur n _ l h e]) (fun l h e => unc_no n F l h e)
end Go.Ags
