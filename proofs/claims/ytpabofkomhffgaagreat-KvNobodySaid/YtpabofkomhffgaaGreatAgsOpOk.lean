/- What the steps of one operation come to, the evaluator's operation comes to. -/
import Derived.Test.YtpabofkomhffgaaGreatAgsPrimOk
set_option linter.unusedVariables false
set_option linter.unusedSimpArgs false
namespace Go.Ags
section
variable {P : Program} {R : Rec} {env : Env} {h : AH} {c : Value → AH → M} {r : Value × AH}

theorem look_assoc : ∀ (l : List Operand) (t : Nat), .tmp t ∈ l → look (assoc env l) t = env t
  | [], t, h => by simp at h
  | .tmp k :: l, t, h => by
    unfold assoc look
    cases q : Nat.beq k t with
    | true => rw [cond_true, Nat.eq_of_beq_eq_true q]
    | false =>
      rw [cond_false]
      refine look_assoc l t ?_
      rcases List.mem_cons.1 h with e | e
      · cases e; simp at q
      · exact e
  | .const v :: l, t, h => by
    show look (assoc env l) t = _
    exact look_assoc l t (by simpa using h)
  | .global v :: l, t, h => by
    show look (assoc env l) t = _
    exact look_assoc l t (by simpa using h)
  | .func v :: l, t, h => by
    show look (assoc env l) t = _
    exact look_assoc l t (by simpa using h)

theorem rho_assoc {l : List Operand} {x : Operand} (hx : x ∈ l) : rho (assoc env l) x = evE env x := by
  cases x with
  | tmp t => exact look_assoc l t hx
  | _ => rfl

def OpTo (P : Program) (R : Rec) (env : Env) (op : Op) (ty : TypeId) (h : AH) (c : Value → AH → M) (r : Value × AH) : Prop :=
  ∃ v h', aOp P R (evE env) ⟨none, op, ty, "", #[], none⟩ h = some (v, h') ∧ c v h' = some r

theorem gen_ok {op : Op} {ty : TypeId} (e : gen P R op ty env h c = some r) : OpTo P R env op ty h c r := by
  unfold gen pGen at e
  split at e
  · rename_i v h' ho
    refine ⟨v, h', ?_, e⟩
    rw [← ho]
    exact aOp_congr fun x hx => (rho_assoc (by simpa using hx)).symm
  · cases e

theorem arrE_eq (a : Array Operand) : arrE env a = a.map (evE env) := by
  unfold arrE
  rw [← Array.toList_map]

theorem cBin_ok {op : BinOp} {t yt ty : TypeId} {x y : Operand} (e : cBin P R op t x y yt ty env h c = some r) : OpTo P R env (.binOp op t x y yt) ty h c r := by
  unfold cBin at e
  split at e
  case h_2 => exact gen_ok e
  have two : ∀ {f : IntKind → Int → Int → Value}, pI2 f (evE env x) (evE env y) (fun v => c v h) = some r → (∀ k a b, pureVal P (Go.binOp op t (.int k a) (.int k b)) = some (f k a b) ∧ af (f k a b) = true) → OpTo P R env (.binOp op t x y yt) ty h c r := by
    intro f e hf
    obtain ⟨k, a, b, hx, hy, hc⟩ := pI2_some e
    exact ⟨_, _, aOp_int hx hy (hf k a b).1 (hf k a b).2, hc⟩
  split at e
  · exact two e fun k a b => ⟨by rw [fw_eq]; exact bin_arith (.inl ⟨rfl, rfl⟩), rfl⟩
  · exact two e fun k a b => ⟨by rw [fw_eq]; exact bin_arith (.inr (.inl ⟨rfl, rfl⟩)), rfl⟩
  · exact two e fun k a b => ⟨by rw [fw_eq]; exact bin_arith (.inr (.inr ⟨rfl, rfl⟩)), rfl⟩
  · unfold pQuo at e
    split at e
    · rename_i j a j' b hx hy
      cases hk : (kEq j j' && !ieq b (.ofNat 0)) with
      | false => rw [hk] at e; cases e
      | true =>
        rw [hk] at e
        simp only [Bool.and_eq_true, ieq_eq, Bool.not_eq_true', beq_eq_false_iff_ne] at hk
        have := kEq_eq hk.1; subst this
        exact ⟨_, _, aOp_int hx hy (bin_div hk.2 (.inl ⟨rfl, fw_eq _ _⟩)) rfl, e⟩
    · cases e
  · unfold pRem at e
    split at e
    · rename_i j a j' b hx hy
      cases hk : (kEq j j' && !ieq b (.ofNat 0)) with
      | false => rw [hk] at e; cases e
      | true =>
        rw [hk] at e
        simp only [Bool.and_eq_true, ieq_eq, Bool.not_eq_true', beq_eq_false_iff_ne] at hk
        have := kEq_eq hk.1; subst this
        exact ⟨_, _, aOp_int hx hy (bin_div hk.2 (.inr ⟨rfl, rfl⟩)) rfl, e⟩
    · cases e
  · exact two e fun k a b => ⟨bin_bits (.inl ⟨rfl, band_eq k a b⟩), rfl⟩
  · exact two e fun k a b => ⟨bin_bits (.inr (.inl ⟨rfl, bor_eq k a b⟩)), rfl⟩
  · exact two e fun k a b => ⟨bin_bits (.inr (.inr (.inl ⟨rfl, bxor_eq k a b⟩))), rfl⟩
  · exact two e fun k a b => ⟨bin_bits (.inr (.inr (.inr ⟨rfl, rfl⟩))), rfl⟩
  · unfold pShl at e
    split at e
    · rename_i j a j' n hx hy
      exact ⟨_, _, aOp_int hx hy (bin_shift (.inl ⟨rfl, shlF_eq _ _ _⟩)) rfl, e⟩
    · cases e
  · unfold pShr at e
    split at e
    · rename_i j a j' n hx hy
      exact ⟨_, _, aOp_int hx hy (bin_shift (.inr ⟨rfl, shrF_eq _ _⟩)) rfl, e⟩
    · cases e
  · exact two e fun k a b => ⟨bin_cmp (.inr (.inr (.inr (.inr (.inl ⟨rfl, ieq_eq _ _⟩))))), rfl⟩
  · exact two e fun k a b => ⟨bin_cmp (.inr (.inr (.inr (.inr (.inr ⟨rfl, by rw [ieq_eq]; rfl⟩))))), rfl⟩
  · exact two e fun k a b => ⟨bin_cmp (.inl ⟨rfl, ilt_eq _ _⟩), rfl⟩
  · exact two e fun k a b => ⟨bin_cmp (.inr (.inl ⟨rfl, by rw [ilt_eq, Bool.eq_iff_iff]; simp⟩)), rfl⟩
  · exact two e fun k a b => ⟨bin_cmp (.inr (.inr (.inl ⟨rfl, by rw [ilt_eq]⟩))), rfl⟩
  · exact two e fun k a b => ⟨bin_cmp (.inr (.inr (.inr (.inl ⟨rfl, by rw [ilt_eq, Bool.eq_iff_iff]; simp⟩)))), rfl⟩


theorem aOp_minmax {b : Builtin} {args : Array Operand} {ats : Array TypeId} {ty : TypeId} {x y : Operand} {k : IntKind} {m n : Int} {v : Value} (hb : b = .min ∨ b = .max) (ha : args.toList = [x, y]) (hx : evE env x = .int k m) (hy : evE env y = .int k n)
    (hv : pureVal P (Go.builtin b ats ty #[] #[.int k m, .int k n]) = some (.value v)) (hc : ∀ cs, Go.builtin b ats ty cs #[.int k m, .int k n] = Go.builtin b ats ty #[] #[.int k m, .int k n]) (haf : af v = true) :
    aOp P R (evE env) ⟨none, .call { callee := .builtin b, args, argTypes := ats }, ty, "", #[], none⟩ h = some (v, h) := by
  have hm : args.map (evE env) = #[.int k m, .int k n] := by
    rw [← Array.toList_inj, Array.toList_map, ha]; simp [hx, hy]
  have hops : (Op.call { callee := .builtin b, args, argTypes := ats }).operands.toList = [x, y] := by simp [Op.operands, Call.operands, ha]
  have hex : pureVal P (execOp (evE env) ⟨none, .call { callee := .builtin b, args, argTypes := ats }, ty, "", #[], none⟩) = some (.value v) := by
    simp only [execOp, resolve, hm]
    rw [← hv]
    rw [← hc (args.map fun | .const _ => true | _ => false)]
    rfl
  rcases hb with rfl | rfl <;> simp only [aOp, aPure, hops, List.all_cons, List.all_nil, hx, hy, af, Bool.and_self, if_true, hex, haf]

theorem cCall_ok {cl : Call} {ty : TypeId} (e : cCall P R cl ty env h c = some r) : OpTo P R env (.call cl) ty h c r := by
  obtain ⟨callee, args, ats⟩ := cl
  unfold cCall at e
  dsimp only at e
  split at e
  · rename_i f
    obtain ⟨v, h', e1, e2⟩ := pR_some e
    exact ⟨v, h', by simp only [aOp, aCallV, evE]; rw [← e1, arrE_eq]; simp, e2⟩
  · rename_i f _
    obtain ⟨v, h', e1, e2⟩ := pR_some e
    exact ⟨v, h', by simp only [aOp]; rw [← arrE_eq]; exact e1, e2⟩
  · split at e
    · rename_i el x hu ha
      unfold pLen at e
      split at e
      · rename_i b n k hx
        refine ⟨_, _, ?_, e⟩
        obtain ⟨t, ht, hut⟩ : ∃ t, (ats[0]? : Option TypeId) = some t ∧ P.underlying t = some (.slice el) := by
          cases q : (ats[0]? : Option TypeId) with
          | none => simp [q] at hu
          | some t => exact ⟨t, rfl, by simpa [q] using hu⟩
        have hm : (args.map (evE env))[0]? = some (.slice b n k) := by
          rw [Array.getElem?_map]
          have : (args[0]? : Option Operand) = some x := by
            rw [← Array.getElem?_toList, ha]; rfl
          rw [this]; simp [hx]
        simp only [aOp, withH, aLenOf, ht, hm, hut]
        rfl
      · cases e
    · exact gen_ok e
  · split at e
    · rename_i x y kk hu ha
      obtain ⟨k, a, b, hx, hy, hc⟩ := pI2_some e
      refine ⟨_, _, aOp_minmax (.inl rfl) ha hx hy ?_ (fun _ => rfl) rfl, hc⟩
      have : (bif ilt b a then b else a) = if b < a then b else a := by
        rw [ilt_eq]; by_cases q : b < a <;> simp [q]
      rw [this]; rfl
    · exact gen_ok e
  · split at e
    · rename_i x y kk hu ha
      obtain ⟨k, a, b, hx, hy, hc⟩ := pI2_some e
      refine ⟨_, _, aOp_minmax (.inr rfl) ha hx hy ?_ (fun _ => rfl) rfl, hc⟩
      have : (bif ilt a b then b else a) = if b > a then b else a := by
        rw [ilt_eq]; by_cases q : a < b <;> simp [q]
      rw [this]; rfl
    · exact gen_ok e
  · exact gen_ok e

theorem aOp_unNot {t ty : TypeId} {x : Operand} {b : Bool} (hx : evE env x = .bool b) : aOp P R (evE env) ⟨none, .unOp .not t x, ty, "", #[], none⟩ h = some (.bool (!b), h) := by
  have : pureVal P (execOp (evE env) ⟨none, .unOp .not t x, ty, "", #[], none⟩) = some (.value (.bool (!b))) := by
    simp only [execOp, hx]; rfl
  simp only [aOp, aPure, Op.operands, List.all_cons, List.all_nil, hx, af, Bool.and_self, if_true, this]

theorem pureVal_bnd {α β : Type} {f : α → Sem β} {a : α} : ∀ (s : Sem α), pureVal P s = some a → pureVal P (s.bind f) = pureVal P (f a)
  | .pure b, q => by simp [pureVal] at q; subst q; rfl
  | .program k, q => pureVal_bnd (k P) q
  | .load .., q | .store .., q | .new .., q | .shape .., q | .freeze .., q | .frozen .., q | .getObj .., q | .setObj .., q | .choose .., q | .sys .., q | .mark .., q | .halt .., q => by simp [pureVal] at q

theorem pureVal_und {t : TypeId} {u : TypeDesc} (h : P.underlying t = some u) : pureVal P (underlying t) = some u := by
  have : pureVal P (underlying t) = pureVal P (match P.underlying t with | some d => (Sem.pure d : Sem TypeDesc) | none => stuck "no such type") := rfl
  rw [this, h]; rfl

theorem aOp_conv {s d ty : TypeId} {x : Operand} {k k0 k1 : IntKind} {n : Int} (hs : P.underlying s = some (.int k0)) (hd : P.underlying d = some (.int k)) (hx : evE env x = .int k1 n) :
    aOp P R (evE env) ⟨none, .convert s d x, ty, "", #[], none⟩ h = some (.int k (k.wrap n), h) := by
  have e1 : pureVal P (convert s d (.int k1 n)) = some (.int k (k.wrap n)) := by
    unfold convert
    exact (pureVal_bnd _ (pureVal_und hs)).trans ((pureVal_bnd _ (pureVal_und hd)).trans rfl)
  have : pureVal P (execOp (evE env) ⟨none, .convert s d x, ty, "", #[], none⟩) = some (.value (.int k (k.wrap n))) := by
    simp only [execOp, hx]
    exact (pureVal_bnd _ e1).trans rfl
  simp only [aOp, aPure, Op.operands, List.all_cons, List.all_nil, hx, af, Bool.and_self, if_true, this]
end
end Go.Ags
