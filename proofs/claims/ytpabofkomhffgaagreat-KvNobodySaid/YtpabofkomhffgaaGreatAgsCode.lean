/- Code, functions and rounds of the evaluator are what the machine does. -/
import Derived.Test.YtpabofkomhffgaaGreatAgsOps8
import Derived.Test.YtpabofkomhffgaaGreatAgsNext
set_option linter.unusedVariables false
set_option linter.unusedSimpArgs false
namespace Go.Ags
section
variable {P : Program}

/-! ### The numbers only rise -/
theorem evOps_next {R : Rec} (hR : RecNext R) {ops : Array Oper} : ∀ {l : List Nat} {ts ts' : Array Value} {h h' : AH}, evOps P R ops l ts h = some (ts', h') → h.next ≤ h'.next
  | [], _, _, _, _, e => by simp only [evOps] at e; cases e; exact Nat.le_refl _
  | i :: rest, ts, ts', h, h', e => by
    simp only [evOps] at e
    split at e
    · cases e
    · split at e
      · split at e
        · split at e
          · rename_i hop
            exact Nat.le_trans (aOp_next hR hop) (evOps_next hR e)
          · cases e
        · cases e
      · exact evOps_next hR e

theorem only_next (h : AH) (l : Option (List Nat)) : (h.only l).next = h.next := by cases l <;> rfl

theorem evSeq_next {R : Rec} (hR : RecNext R) {ops : Array Oper} : ∀ {l : List Oper} {ts ts' : Array Value} {h h' : AH} {acc : List Tr}, evSeq P R ops l ts h acc = some (ts', h') → h.next ≤ h'.next
  | [], _, _, _, _, _, e => by simp only [evSeq] at e; cases e; exact Nat.le_refl _
  | o :: rest, ts, ts', h, h', acc, e => by
    simp only [evSeq] at e
    split at e
    · split at e
      · split at e
        · rename_i hop
          split at e
          · exact Nat.le_trans (aOp_next hR hop) (evSeq_next hR e)
          · cases e
        · cases e
      · cases e
    · exact evSeq_next hR e

theorem evRegion_next {R : Rec} (hR : RecNext R) {ops : Array Oper} {draw : Bool} {ts ts' : Array Value} {h h' : AH} (e : evRegion P R ops draw ts h = some (ts', h')) : h.next ≤ h'.next := by
  unfold evRegion at e
  split at e
  · cases hor : (orderly ops && drawOk ops 0 ops.toList [] []) with
    | false => rw [hor] at e; cases e
    | true => rw [hor] at e; exact evSeq_next hR e
  · rw [evOpsL_all] at e; exact evOps_next hR e

theorem iter_next {f : ES → Option (Ex × ES)} (hf : ∀ {s s' : ES} {x : Ex}, f s = some (x, s') → s.h.next ≤ s'.h.next) : ∀ {k : Nat} {s s' : ES} {x : Ex}, iter f k s = some (x, s') → s.h.next ≤ s'.h.next
  | 0, _, _, _, e => by simp only [iter] at e; cases e
  | k + 1, s, s', x, e => by
    simp only [iter] at e
    split at e
    · rename_i h1
      exact Nat.le_trans (hf h1) (iter_next hf e)
    · exact hf e

theorem aCallV_next {R : Rec} (hR : RecNext R) {f : Value} {args : Array Value} {h h' : AH} {v : Value} (e : aCallV R f args h = some (v, h')) : h.next ≤ h'.next := by
  unfold aCallV at e
  split at e
  · exact hR.call e
  · exact hR.rnd e
  · cases e

theorem evCode_next {R : Rec} (hR : RecNext R) {fuel : Nat} {b : Bool} : ∀ {c : Code} {s s' : ES} {x : Ex}, evCode P R fuel b c s = some (x, s') → s.h.next ≤ s'.h.next
  | .skip, _, _, _, e => by simp only [evCode] at e; cases e; exact Nat.le_refl _
  | .label _, _, _, _, e => by simp only [evCode] at e; cases e; exact Nat.le_refl _
  | .ret, _, _, _, e => by simp only [evCode] at e; cases e; exact Nat.le_refl _
  | .exit _, _, _, _, e => by simp only [evCode] at e; cases e; exact Nat.le_refl _
  | .region id ops draw, s, s', x, e => by
    simp only [evCode] at e
    split at e
    · rename_i h1
      cases e
      exact evRegion_next hR h1
    · cases e
  | .seq p q, s, s', x, e => by
    simp only [evCode] at e
    split at e
    · rename_i h1
      exact Nat.le_trans (evCode_next hR h1) (evCode_next hR e)
    · exact evCode_next hR e
  | .cond c p q, s, s', x, e => by
    simp only [evCode] at e
    split at e
    · cases e
    · split at e
      · exact evCode_next hR e
      · exact evCode_next hR e
      · cases e
  | .block id c, s, s', x, e => by
    simp only [evCode] at e
    split at e
    · rename_i h1
      split at e
      · cases e; exact evCode_next hR h1
      · cases e; exact evCode_next hR h1
    · exact evCode_next hR e
  | .loop c, s, s', x, e => by
    simp only [evCode] at e
    exact iter_next (fun h => evCode_next hR h) e
  | .rangeFunc (.tmp g) params assign body, s, s', x, e => by
    simp only [evCode] at e
    split at e
    · cases e
    · split at e
      · split at e
        · rename_i h1
          have := hR.call h1
          simp [loopHeap] at this
          (repeat' split at e) <;> first | (cases e; done) | (cases e; simp [afterLoop]; omega)
        · cases e
      · cases e
  | .rangeFunc (.const _) _ _ _, _, _, _, e => by simp only [evCode] at e; cases e
  | .rangeFunc (.global _) _ _ _, _, _, _, e => by simp only [evCode] at e; cases e
  | .rangeFunc (.func _) _ _ _, _, _, _, e => by simp only [evCode] at e; cases e
  | .scope _, _, _, _, e => by simp only [evCode] at e; cases e
  | .goto _, _, _, _, e => by simp only [evCode] at e; cases e
  | .refuse _, _, _, _, e => by simp only [evCode] at e; cases e

theorem aMarks_next : ∀ {l : List Nat} {h h' : AH}, aMarks l h = some h' → h'.next = h.next
  | [], _, _, e => by simp only [aMarks] at e; cases e; rfl
  | m :: r, h, h', e => by
    simp only [aMarks] at e
    split at e
    · split at e
      · have := aMarks_next e; simpa using this
      · cases e
    · cases e

theorem evFn_next {R : Rec} (hR : RecNext R) {fuel f : Nat} {args : Array Value} {h h' : AH} {v : Value} (e : evFn P R fuel f args h = some (v, h')) : h.next ≤ h'.next := by
  unfold evFn at e
  split at e
  · split at e
    · split at e
      · rename_i h1
        split at e
        · rename_i h2
          split at e
          · cases e
            rw [aMarks_next h2]
            exact evCode_next hR h1
          · cases e
        · cases e
      · rename_i h1
        split at e
        · rename_i h2
          split at e
          · cases e
            rw [aMarks_next h2]
            exact evCode_next hR h1
          · cases e
        · cases e
      · cases e
    · cases e
  · cases e

theorem evRnd_next {R : Rec} (hR : RecNext R) {fuel l : Nat} {args : Array Value} {h h' : AH} {v : Value} (e : evRnd P R fuel l args h = some (v, h')) : h.next ≤ h'.next := by
  unfold evRnd at e
  split at e
  · split at e
    · split at e
      · rename_i h1
        split at e
        · split at e
          · split at e
            · rename_i h2
              have a1 := evCode_next hR h1
              have a2 := evCode_next hR h2
              simp at a1 a2
              split at e
              · (repeat' split at e) <;> (cases e; simp; omega)
              · cases e
            · cases e
          · cases e
        · cases e
      · cases e
    · cases e
  · cases e

/-! ### States -/
inductive MRel (ι : Inj) : List Nat → List Deferred → Prop where
  | nil : MRel ι [] []
  | cons {m : Nat} {L : Loc} {ms : List Nat} {ds : List Deferred} (h : ι m = some L) (r : MRel ι ms ds) : MRel ι (m :: ms) ({ target := .collected L.g, args := #[] } :: ds)

theorem MRel.mono {ι ι' : Inj} (he : Ext ι ι') {ms : List Nat} {ds : List Deferred} (r : MRel ι ms ds) : MRel ι' ms ds := by
  induction r with
  | nil => exact .nil
  | cons h _ ih => exact .cons (he _ _ h) ih

structure SRel (ι : Inj) (s : ES) (a : Act) : Prop where
  tmps : ARel ι s.tmps a.tmps
  marks : MRel ι s.marks a.defers

theorem eval_rel {ι : Inj} {ts : Array Value} {a : Act} (r : ARel ι ts a.tmps) {x : Operand} (hx : okOpnd x = true) : VRel ι (evalIn ts x) (a.eval x) := by
  cases x with
  | tmp t => exact r.getD t .undef
  | const v => exact VRel.af_refl ι v hx
  | global g => simp [okOpnd] at hx
  | func f => exact .func' (.func f) (.empty ι) (.empty ι)

theorem yielded_rel {ι : Inj} {ts ts' : Array Value} (r : ARel ι ts ts') (ops : Array Oper) : yielded ops ts' = yielded ops ts := by
  funext j
  unfold yielded
  cases hd : (ops[j]?).bind (·.dst) with
  | none => rfl
  | some d =>
    simp only [Option.bind_some]
    cases hv : ts[d]? with
    | none => rw [r.none hv]
    | some v =>
      obtain ⟨v', hv', rv⟩ := r.get hv
      rw [hv']
      cases rv <;> rfl

theorem put_tmps (a : Act) (dst : Option Tmp) (v : Value) : (a.put dst v).tmps = putT a.tmps dst v := by cases dst <;> rfl
theorem put_defers (a : Act) (dst : Option Tmp) (v : Value) : (a.put dst v).defers = a.defers := by cases dst <;> rfl
theorem putT_rel {ι : Inj} {ts ts' : Array Value} (r : ARel ι ts ts') (dst : Option Tmp) {v v' : Value} (rv : VRel ι v v') : ARel ι (putT ts dst v) (putT ts' dst v') := by
  cases dst with
  | none => exact r
  | some d => exact r.set d rv

section
variable {ι : Inj} {w : World} {F : Fence} {n : Nat} {Q : Exit → Act → World → Prop} {a : Act}

theorem Free.of_le {h h1 h2 : AH} (hf : Free ι h h2) (h12 : h1.next ≤ h2.next) : Free ι h h1 := fun b p q => hf b p (Nat.lt_of_lt_of_le q h12)

theorem evOps_sound (G : ∀ (f : FuncId) (fn : Func), P.funcs[f]? = some fn → (fn.name == "runtime.NumGoroutine") = false) {R : Rec} (hR : RecSound P R) (hN : RecNext R) (hF : FOk F) {ops : Array Oper} :
    ∀ {l : List Nat} {ts ts' : Array Value} {h h' : AH} {ι : Inj} {w : World} {a : Act}, evOps P R ops l ts h = some (ts', h') → ARel ι ts a.tmps → HRel ι h w → Free ι h h' →
      (∀ ι' a' w' δ, Did ι h w ι' h' w' δ → ARel ι' ts' a'.tmps → a'.defers = a.defers → Q .normal a' w') → wpOpsIn F n P ops Q l a w
  | [], ts, ts', h, h', ι, w, a, e, r, k, hf, hq => by
    simp only [evOps] at e
    cases e
    exact hq ι a w [] (.refl k rfl (.refl w)) r rfl
  | i :: rest, ts, ts', h, h', ι, w, a, e, r, k, hf, hq => by
    simp only [evOps] at e
    split at e
    · cases e
    · rename_i o ho
      simp only [wpOpsIn, ho]
      rw [yielded_rel r ops]
      split at e
      · rename_i hw
        rw [if_pos hw]
        split at e
        case isFalse => cases e
        rename_i hok
        split at e
        case h_2 => cases e
        rename_i v h1 hop
        have hle := evOps_next hN e
        refine aOp_sound G hR hF hop (fun x hx => eval_rel r ?_) k (hf.of_le hle) ?_
        · unfold okOp at hok
          rw [Array.all_eq_true'] at hok
          exact hok x hx
        · intro ι1 v1 w1 δ1 hd rv
          have he := hd.ext (hf.of_le hle)
          refine evOps_sound G hR hN hF (ι := ι1) e (by rw [put_tmps]; exact putT_rel (r.mono he) _ rv) hd.c.rel (hd.free2 hf) ?_
          intro ι2 a2 w2 δ2 hd2 r2 hdef
          exact hq ι2 a2 w2 _ (hd.trans hf hd2) r2 (by rw [hdef, put_defers])
      · rename_i hw
        rw [if_neg hw]
        refine ⟨fun f _ => hF.1 f, evOps_sound G hR hN hF (ι := ι) e (by rw [put_tmps]; exact putT_rel r _ .undef) k hf ?_⟩
        intro ι2 a2 w2 δ2 hd2 r2 hdef
        exact hq ι2 a2 w2 _ hd2 r2 (by rw [hdef, put_defers])
end
end
end Go.Ags
