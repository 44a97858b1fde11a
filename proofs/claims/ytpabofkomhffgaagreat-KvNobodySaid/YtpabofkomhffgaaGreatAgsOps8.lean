/- All operations together. -/
import Derived.Test.YtpabofkomhffgaaGreatAgsOps7
set_option linter.unusedVariables false
set_option linter.unusedSimpArgs false
namespace Go.Ags
section
variable {P : Program}

/-- A call's end: it returns what is related, and the heap is as the evaluator says. -/
def Post (ι : Inj) (h : AH) (w : World) (h' : AH) (v : Value) : Ending → World → Prop := fun e w' => ∃ ι' v' δ, e = .returned v' ∧ VRel ι' v v' ∧ Did ι h w ι' h' w' δ

def FOk (F : Fence) : Prop := (∀ f, F.fn f) ∧ F.depth = none

structure RecSound (P : Program) (R : Rec) : Prop where
  call : ∀ {f : FuncId} {args : Array Value} {h : AH} {v : Value} {h' : AH}, R.call f args h = some (v, h') →
    (∃ fn c, P.funcs[f]? = some fn ∧ fn.body = some c ∧ (fn.name == "runtime.NumGoroutine") = false) ∧
    ∀ {ι : Inj} {w : World} {args' : Array Value}, ARel ι args args' → HRel ι h w → Free ι h h' → ∀ {F : Fence} {n : Nat}, FOk F → CallsIn F n P f args' w (Post ι h w h' v)
  rnd : ∀ {l : Nat} {args : Array Value} {h : AH} {v : Value} {h' : AH}, R.rnd l args h = some (v, h') →
    ∀ {ι : Inj} {w : World} {args' : Array Value} {L : Loc}, ι l = some L → ARel ι args args' → HRel ι h w → Free ι h h' →
      ∃ fn tmps assign body, (Instr.yield L.g args').run P w = .ok (.round L.g fn tmps assign body) w ∧
        ∀ {F : Fence} {n : Nat}, FOk F → RoundIn F n P L.g fn tmps assign body w (Post ι h w h' v)

theorem run_callFunc {f : FuncId} {fn : Func} {c : Code} (hf : P.funcs[f]? = some fn) (hb : fn.body = some c) (hn : (fn.name == "runtime.NumGoroutine") = false) (args : Array Value) (w : World) :
    (callFunc f args).run P w = .ok (.enter f args) w := by
  have hn' : ¬ fn.name = "runtime.NumGoroutine" := by simpa using hn
  unfold callFunc
  simp [program, Sem.run, hf, hb, hn']

theorem aMethod_sound {ι : Inj} {recv recv' v : Value} {name : String} {f : FuncId} (e : aMethod P recv name = some (f, v)) (r : VRel ι recv recv') :
    ∃ t v', recv' = .iface t v' ∧ VRel ι v v' ∧ ∀ args w, (callMethod recv' name args).run P w = (callFunc f (#[v'] ++ args)).run P w := by
  unfold aMethod at e
  split at e
  case h_2 => cases e
  rename_i t y
  split at e
  case h_2 => cases e
  rename_i i hi
  split at e
  case h_2 => cases e
  rename_i m hm
  split at e
  case isFalse => cases e
  rename_i hp
  have hp' : m.path.toList = [] := by
    have : m.path = #[] := by simpa [Array.isEmpty] using hp
    simp [this]
  cases r with
  | iface _ ry =>
  rename_i y'
  have hd : ∀ w, (Sem.run P program w) = .ok P w := fun w => rfl
  obtain ⟨k, hk⟩ : ∃ k, P.types.size + Made.depth = k + 1 := ⟨P.types.size + 99, by unfold Made.depth; omega⟩
  split at e
  · rename_i g el hmf hu
    cases e
    refine ⟨t, y', rfl, ry, fun args w => ?_⟩
    simp [callMethod, hd, hk, method, run_info hi, hm, hp', follow, hmf, receiverAt, run_und hu, Place.get]
  · cases e
  · rename_i g d hne hmf hu
    cases e
    refine ⟨t, y', rfl, ry, fun args w => ?_⟩
    cases d <;> first | (simp [callMethod, hd, hk, method, run_info hi, hm, hp', follow, hmf, receiverAt, run_und hu, Place.get]; done) | (exact absurd rfl (hne _))
  · cases e

section
variable {ι : Inj} {h : AH} {w : World} {F : Fence} {n : Nat} {Q : Exit → Act → World → Prop} {a : Act} {o : Oper} {next : Act → World → Prop}

theorem wp_of_run (hF : FOk F) (hd : ∀ c, o.op ≠ .defer c) {v : Value} {w' : World} (hr : (execOp a.eval o).run P w = .ok (.value v) w') (hn : next (a.put o.dst v) w') : o.wpIn F n P a w next Q := by
  refine ⟨fun f _ => hF.1 f, ?_⟩
  rw [Oper.semAt_eq _ _ _ hd, hr]; exact hn

theorem wp_of_skip (hF : FOk F) (hd : ∀ c, o.op ≠ .defer c) {w' : World} (hr : (execOp a.eval o).run P w = .ok .skip w') (hn : next (a.put o.dst undef) w') : o.wpIn F n P a w next Q := by
  refine ⟨fun f _ => hF.1 f, ?_⟩
  rw [Oper.semAt_eq _ _ _ hd, hr]; exact hn

/-- What follows an operation: whatever is related. -/
def Goal (ι : Inj) (h : AH) (w : World) (h' : AH) (v : Value) (next : Act → World → Prop) (a : Act) (dst : Option Tmp) : Prop :=
  ∀ ι' v' w' δ, Did ι h w ι' h' w' δ → VRel ι' v v' → next (a.put dst v') w'

theorem wp_of_call (hF : FOk F) (hd : ∀ c, o.op ≠ .defer c) {f : FuncId} {args : Array Value} {h' : AH} {v : Value} (hr : (execOp a.eval o).run P w = .ok (.enter f args) w)
    (hc : CallsIn F (n - 1) P f args w (Post ι h w h' v)) (hg : Goal ι h w h' v next a o.dst) : o.wpIn F n P a w next Q := by
  refine ⟨fun f _ => hF.1 f, ?_⟩
  rw [Oper.semAt_eq _ _ _ hd, hr]
  refine ⟨fun q => by rw [hF.2] at q; simp at q, hc.mono fun e w' hp => ?_⟩
  obtain ⟨ι', v', δ, rfl, rv, hd⟩ := hp
  exact hg ι' v' w' δ hd rv

theorem wp_of_round (hF : FOk F) (hd : ∀ c, o.op ≠ .defer c) {l f : Nat} {tmps : Array Value} {as bd : Code} {h' : AH} {v : Value} (hr : (execOp a.eval o).run P w = .ok (.round l f tmps as bd) w)
    (hc : RoundIn F (n - 1) P l f tmps as bd w (Post ι h w h' v)) (hg : Goal ι h w h' v next a o.dst) : o.wpIn F n P a w next Q := by
  refine ⟨fun f _ => hF.1 f, ?_⟩
  rw [Oper.semAt_eq _ _ _ hd, hr]
  refine ⟨fun q => by rw [hF.2] at q; simp at q, hc.mono fun e w' hp => ?_⟩
  obtain ⟨ι', v', δ, rfl, rv, hd⟩ := hp
  exact hg ι' v' w' δ hd rv

theorem aPure_sound (hF : FOk F) (hd : ∀ c, o.op ≠ .defer c) {ρ : Operand → Value} {h' : AH} {v : Value} (e : aPure P ρ o h = some (v, h')) (hex : o.op.operands.all (fun x => af (ρ x)) = true → execOp a.eval o = execOp ρ o)
    (k : HRel ι h w) (hg : Goal ι h w h' v next a o.dst) : o.wpIn F n P a w next Q := by
  unfold aPure at e
  split at e
  case isFalse => cases e
  rename_i ha
  rw [Array.all_toList] at ha
  split at e
  case h_2 => cases e
  rename_i u hp
  split at e
  case isFalse => cases e
  rename_i hv
  cases e
  have hr := pureVal_run _ _ hp w
  rw [← hex ha] at hr
  exact wp_of_run hF hd hr (hg ι _ w [] (.refl k rfl (.refl w)) (VRel.af_refl ι _ hv))

/-- The operands of an operation, as the machine has them. -/
theorem aOp_sound (G : ∀ (f : FuncId) (fn : Func), P.funcs[f]? = some fn → (fn.name == "runtime.NumGoroutine") = false) {R : Rec} (hR : RecSound P R) (hF : FOk F) {ρ : Operand → Value} {h' : AH} {v : Value}
    (e : aOp P R ρ o h = some (v, h')) (hρ : ∀ x, x ∈ o.op.operands → VRel ι (ρ x) (a.eval x)) (k : HRel ι h w) (hf : Free ι h h') (hg : Goal ι h w h' v next a o.dst) : o.wpIn F n P a w next Q := by
  obtain ⟨dst, op, type, pos, after, guard⟩ := o
  have nodefer : (∀ c, op ≠ .defer c) → ∀ c, (⟨dst, op, type, pos, after, guard⟩ : Oper).op ≠ .defer c := fun h => h
  have pin : ∀ (hd : ∀ c, op ≠ .defer c), (pureVal P (execOp ρ ⟨dst, op, type, pos, after, guard⟩) = pureVal P (execOp ρ ⟨dst, op, type, pos, after, guard⟩)) := fun _ => rfl
  -- a value, no memory
  have val : (∀ c, op ≠ .defer c) → ∀ {u : Value}, h' = h → v = u → (∃ u', (execOp a.eval ⟨dst, op, type, pos, after, guard⟩).run P w = .ok (.value u') w ∧ VRel ι u u') → (⟨dst, op, type, pos, after, guard⟩ : Oper).wpIn F n P a w next Q := by
    intro hd u hh hv ⟨u', hr, rv⟩
    subst hh; subst hv
    exact wp_of_run hF hd hr (hg ι u' w [] (.refl k rfl (.refl w)) rv)
  -- a value, and memory
  have vmem : (∀ c, op ≠ .defer c) → (∃ u' w' ι' δ, (execOp a.eval ⟨dst, op, type, pos, after, guard⟩).run P w = .ok (.value u') w' ∧ Did ι h w ι' h' w' δ ∧ VRel ι' v u') → (⟨dst, op, type, pos, after, guard⟩ : Oper).wpIn F n P a w next Q := by
    intro hd ⟨u', w', ι', δ, hr, hdid, rv⟩
    exact wp_of_run hF hd hr (hg ι' u' w' δ hdid rv)
  have hop : ∀ x, x ∈ op.operands → VRel ι (ρ x) (a.eval x) := hρ
  have haf : ∀ x, x ∈ op.operands → af (ρ x) = true → a.eval x = ρ x := fun x hx ha => (hop x hx).af_eq ha
  cases op with
  | move x =>
    simp only [aOp, Option.some.injEq, Prod.mk.injEq] at e
    exact val (by simp) e.2.symm e.1.symm ⟨a.eval x, by simp [execOp], hop x (by simp [Op.operands])⟩
  | assign x =>
    simp only [aOp, Option.some.injEq, Prod.mk.injEq] at e
    exact val (by simp) e.2.symm e.1.symm ⟨a.eval x, by simp [execOp], hop x (by simp [Op.operands])⟩
  | pick c x y =>
    simp only [aOp] at e
    split at e
    case h_2 => cases e
    rename_i t hc
    have rc := hop c (by simp [Op.operands])
    rw [hc] at rc
    generalize hcc : a.eval c = cc at rc
    cases rc
    simp only [Option.some.injEq, Prod.mk.injEq] at e
    refine val (by simp) e.2.symm e.1.symm ⟨if t then a.eval x else a.eval y, by simp [execOp, hcc, asBool], ?_⟩
    cases t
    · exact hop y (by simp [Op.operands])
    · exact hop x (by simp [Op.operands])
  | alloc t =>
    simp only [aOp] at e
    cases hz : tzero P t with
    | none => simp [hz] at e
    | some z =>
      simp [hz, aRow] at e
      obtain ⟨rfl, rfl⟩ := e
      have hfr : ι h.next = none := hf _ (Nat.le_refl _) (by simp)
      have rz := (tzero_rel hz ι).cells
      refine vmem (by simp) ⟨.pointer (some ⟨w.heap.size, 0, none⟩), _, _, _, ?_, Did.row (t := t) k hfr rz, ?_⟩
      · simp [execOp, Instr.alloc, run_zero hz, newVar, run_newRow]
      · simpa using VRel.ptr (ι := upd ι h.next ⟨w.heap.size, 0, z.cells.size⟩) (b := h.next) 0 (upd_same _ _ _)
  | box t x =>
    simp only [aOp, aRow, Option.some.injEq, Prod.mk.injEq] at e
    obtain ⟨rfl, rfl⟩ := e
    have hfr : ι h.next = none := hf _ (Nat.le_refl _) (by simp)
    have rz := (hop x (by simp [Op.operands])).cells
    refine vmem (by simp) ⟨.pointer (some ⟨w.heap.size, 0, none⟩), _, _, _, ?_, Did.row (t := t) k hfr rz, ?_⟩
    · simp [execOp, Instr.box, newVar, run_newRow]
    · simpa using VRel.ptr (ι := upd ι h.next ⟨w.heap.size, 0, (a.eval x).cells.size⟩) (b := h.next) 0 (upd_same _ _ _)
  | build t parts =>
    simp only [aOp, withH] at e
    cases hb : aBuild P t (parts.map fun (i, x) => (i, ρ x)) with
    | none => simp [hb] at e
    | some u =>
      simp [hb] at e
      obtain ⟨u', hr, ru⟩ := aBuild_sound hb (parts_rel (ι := ι) (ρ' := a.eval) (fun x hx => hop x (by simpa [Op.operands] using hx))) w
      exact val (by simp) e.2.symm e.1.symm ⟨u', by simp only [execOp, Sem.run_bind, hr, Result.andThen_ok, Sem.run_pure], ru⟩
  | buildSlice t len parts =>
    simp only [aOp] at e
    obtain ⟨u', w', ι', δ, hr, hd, ru⟩ := aBuildSlice_sound e (parts_rel (ι := ι) (ρ' := a.eval) (fun x hx => hop x (by simpa [Op.operands] using hx))) k hf
    exact vmem (by simp) ⟨u', w', ι', δ, by simp only [execOp, Sem.run_bind, hr, Result.andThen_ok, Sem.run_pure], hd, ru⟩
  | load t x =>
    simp only [aOp, withH] at e
    cases hb : aLoad P h t (ρ x) with
    | none => simp [hb] at e
    | some u =>
      simp [hb] at e
      obtain ⟨u', hr, ru⟩ := aLoad_sound hb (hop x (by simp [Op.operands])) k
      exact val (by simp) e.2.symm e.1.symm ⟨u', by simp [execOp, hr], ru⟩
  | store t x y =>
    simp only [aOp, noV] at e
    cases hb : aStore P h t (ρ x) (ρ y) with
    | none => simp [hb] at e
    | some h2 =>
      simp [hb] at e
      obtain ⟨rfl, rfl⟩ := e
      obtain ⟨w', δ, hr, hd⟩ := aStore_sound hb (hop x (by simp [Op.operands])) (hop y (by simp [Op.operands])) k
      exact wp_of_skip hF (by simp) (w' := w') (by simp [execOp, hr]) (hg ι _ w' δ hd .undef)
  | nilCheck x =>
    simp only [aOp] at e
    have rx := hop x (by simp [Op.operands])
    have go : ∀ u, v = u → h' = h → ρ x = u → (∀ u', VRel ι u u' → (execOp a.eval ⟨dst, .nilCheck x, type, pos, after, guard⟩).run P w = .ok (.value (a.eval x)) w) → (⟨dst, .nilCheck x, type, pos, after, guard⟩ : Oper).wpIn F n P a w next Q := by
      intro u h1 h2 h3 h4
      rw [h3] at rx
      exact val (by simp) h2 h1 ⟨_, h4 _ rx, rx⟩
    split at e <;> first
      | (cases e; done)
      | (rename_i hx
         simp only [Option.some.injEq, Prod.mk.injEq] at e
         refine go _ e.1.symm e.2.symm hx (fun u' _ => ?_)
         rw [hx] at rx
         generalize hcc : a.eval x = cc at rx
         cases rx <;> first
           | (simp [execOp, hcc]; done)
           | (rename_i hfr _ _ _ _; cases hfr; simp [execOp, hcc]))
  | binOp op t x y yt =>
    simp only [aOp] at e
    have rx := hop x (by simp [Op.operands])
    have ry := hop y (by simp [Op.operands])
    split at e
    · rename_i ha
      simp only [Bool.and_eq_true] at ha
      refine aPure_sound hF (by simp) e (fun _ => ?_) k hg
      simp only [execOp, rx.af_eq ha.1, ry.af_eq ha.2]
    · split at e
      · cases hb : aEq P t (ρ x) (ρ y) with
        | none => simp [hb, withH] at e
        | some b =>
          simp [hb, withH] at e
          exact val (by simp) e.2.symm e.1.symm ⟨.bool b, by simp [execOp, aEq_guard hb rx ry, (aEq_bin hb rx ry).1, aEq_sound hb rx ry], .bool b⟩
      · cases hb : aEq P t (ρ x) (ρ y) with
        | none => simp [hb, withH] at e
        | some b =>
          simp [hb, withH] at e
          exact val (by simp) e.2.symm e.1.symm ⟨.bool !b, by simp [execOp, aEq_guard hb rx ry, (aEq_bin hb rx ry).2, aEq_sound hb rx ry], .bool _⟩
      · cases e
  | unOp op t x =>
    simp only [aOp] at e
    refine aPure_sound hF (by simp) e (fun ha => ?_) k hg
    simp only [Op.operands] at ha
    simp only [execOp, haf x (by simp [Op.operands]) (by simpa using ha)]
  | convert s t x =>
    simp only [aOp] at e
    refine aPure_sound hF (by simp) e (fun ha => ?_) k hg
    simp only [Op.operands] at ha
    simp only [execOp, haf x (by simp [Op.operands]) (by simpa using ha)]
  | makeInterface t x =>
    simp only [aOp] at e
    have rx := hop x (by simp [Op.operands])
    split at e
    · cases e
    · cases e
    · rename_i h1 h2
      simp only [Option.some.injEq, Prod.mk.injEq] at e
      refine val (by simp) e.2.symm e.1.symm ⟨.iface t (a.eval x), ?_, .iface t rx⟩
      cases hu : P.underlying t with
      | none => exact absurd hu h2
      | some d => cases d <;> first | (simp [execOp, Instr.makeInterface, run_und hu]; done) | exact absurd hu (h1 _)
  | makeFunc fn first captured =>
    cases fn with
    | func f =>
      simp only [aOp, Option.some.injEq, Prod.mk.injEq] at e
      refine val (by simp) e.2.symm e.1.symm ⟨.func (.func f) (first.map a.eval) (captured.map a.eval), by simp [execOp, Instr.makeFunc], .func' (.func f) (ARel.map _ _ _ fun x hx => hop x ?_) (ARel.map _ _ _ fun x hx => hop x ?_)⟩
      · simp [Op.operands, hx]
      · simp [Op.operands, hx]
    | _ => simp only [aOp] at e; cases e
  | makeMap t r =>
    cases r with
    | some r => simp only [aOp] at e; cases e
    | none =>
      simp only [aOp, Option.some.injEq, Prod.mk.injEq] at e
      obtain ⟨rfl, rfl⟩ := e
      have hfr : ι h.next = none := hf _ (Nat.le_refl _) (by simp)
      refine vmem (by simp) ⟨.map (some w.heap.size), w.alloc (.map #[] 0), _, _, by simp [execOp, Instr.makeMap, run_newObj], Did.new (o := .map #[] 0) (o' := .map #[] 0) 0 k hfr rfl ⟨rfl, rfl, rfl⟩ ⟨rfl, rfl, fun i a b h1 => by simp at h1⟩, ?_⟩
      exact VRel.map (L := ⟨w.heap.size, 0, 0⟩) (upd_same _ _ _)
  | makeSlice t l c =>
    simp only [aOp] at e
    obtain ⟨u', w', ι', δ, hr, hd, ru⟩ := aMakeSlice_sound e (hop l (by simp [Op.operands])) (hop c (by simp [Op.operands])) k hf
    exact vmem (by simp) ⟨u', w', ι', δ, by simp [execOp, hr], hd, ru⟩
  | slice t x lo hi mx =>
    simp only [aOp] at e
    have rx := hop x (by simp [Op.operands])
    have opt : ∀ (y : Option Operand), (∀ z, y = some z → z ∈ (Op.slice t x lo hi mx).operands) → ORelV ι (y.map ρ) (y.map a.eval) := by
      intro y hy
      cases y with
      | none => trivial
      | some z => exact hop z (hy z rfl)
    split at e
    · rename_i s hs
      refine aPure_sound hF (by simp) e (fun ha => ?_) k hg
      have hall : ∀ z, z ∈ (Op.slice t x lo hi mx).operands → a.eval z = ρ z := fun z hz => haf z hz (by rw [Array.all_eq_true'] at ha; exact ha z hz)
      have e1 : a.eval x = ρ x := hall x (by simp [Op.operands])
      have e2 : ∀ (y : Option Operand), (∀ z, y = some z → z ∈ (Op.slice t x lo hi mx).operands) → y.map a.eval = y.map ρ := by
        intro y hy
        cases y with
        | none => rfl
        | some z => simp [hall z (hy z rfl)]
      simp only [execOp, e1, e2 lo (fun z hz => by simp [Op.operands, hz]), e2 hi (fun z hz => by simp [Op.operands, hz]), e2 mx (fun z hz => by simp [Op.operands, hz])]
    · cases hb : aSlice P t (ρ x) (lo.map ρ) (hi.map ρ) (mx.map ρ) with
      | none =>
        cases hb2 : aSliceB P h t (ρ x) (lo.map ρ) (hi.map ρ) (mx.map ρ) with
        | none => simp [hb, hb2, withH] at e
        | some u =>
          simp [hb, hb2, withH] at e
          obtain ⟨u', hr, ru⟩ := aSliceB_sound hb2 rx (opt lo (fun z hz => by simp [Op.operands, hz])) (opt hi (fun z hz => by simp [Op.operands, hz])) (opt mx (fun z hz => by simp [Op.operands, hz])) k
          exact val (by simp) e.2.symm e.1.symm ⟨u', by simp only [execOp, Sem.run_bind, hr, Result.andThen_ok, Sem.run_pure], ru⟩
      | some u =>
        simp [hb, withH] at e
        obtain ⟨u', hr, ru⟩ := aSlice_sound hb rx (opt lo (fun z hz => by simp [Op.operands, hz])) (opt hi (fun z hz => by simp [Op.operands, hz])) (opt mx (fun z hz => by simp [Op.operands, hz])) w
        exact val (by simp) e.2.symm e.1.symm ⟨u', by simp only [execOp, Sem.run_bind, hr, Result.andThen_ok, Sem.run_pure], ru⟩
  | fieldAddr t x f =>
    simp only [aOp, withH] at e
    cases hb : aFieldAddr P t (ρ x) f with
    | none => simp [hb] at e
    | some u =>
      simp [hb] at e
      obtain ⟨u', hr, ru⟩ := aFieldAddr_sound hb (hop x (by simp [Op.operands])) w
      exact val (by simp) e.2.symm e.1.symm ⟨u', by simp [execOp, hr], ru⟩
  | field t x f =>
    simp only [aOp, withH] at e
    cases hb : aField P t (ρ x) f with
    | none => simp [hb] at e
    | some u =>
      simp [hb] at e
      obtain ⟨u', hr, ru⟩ := aField_sound hb (hop x (by simp [Op.operands])) w
      exact val (by simp) e.2.symm e.1.symm ⟨u', by simp [execOp, hr], ru⟩
  | indexAddr t x ix =>
    simp only [aOp, withH] at e
    cases hb : aIndexAddr P t (ρ x) (ρ ix) with
    | none => simp [hb] at e
    | some u =>
      simp [hb] at e
      obtain ⟨u', hr, ru⟩ := aIndexAddr_sound hb (hop x (by simp [Op.operands])) (hop ix (by simp [Op.operands])) w
      exact val (by simp) e.2.symm e.1.symm ⟨u', by simp [execOp, hr], ru⟩
  | index t x ix =>
    simp only [aOp] at e
    split at e
    · refine aPure_sound hF (by simp) e (fun ha => ?_) k hg
      have hall : ∀ z, z ∈ (Op.index t x ix).operands → a.eval z = ρ z := fun z hz => haf z hz (by rw [Array.all_eq_true'] at ha; exact ha z hz)
      simp only [execOp, hall x (by simp [Op.operands]), hall ix (by simp [Op.operands])]
    · cases hb : aIndex P t (ρ x) (ρ ix) with
      | none => simp [hb, withH] at e
      | some u =>
        simp [hb, withH] at e
        obtain ⟨u', hr, ru⟩ := aIndex_sound hb (hop x (by simp [Op.operands])) (hop ix (by simp [Op.operands])) w
        exact val (by simp) e.2.symm e.1.symm ⟨u', by simp [execOp, hr], ru⟩
  | lookup t m x ok =>
    simp only [aOp, withH] at e
    cases hb : aLookup P h t (ρ m) (ρ x) ok with
    | none => simp [hb] at e
    | some u =>
      simp [hb] at e
      obtain ⟨u', hr, ru⟩ := aLookup_sound hb (hop m (by simp [Op.operands])) (hop x (by simp [Op.operands])) k
      exact val (by simp) e.2.symm e.1.symm ⟨u', by simp [execOp, hr], ru⟩
  | mapUpdate t m x y =>
    simp only [aOp, noV] at e
    cases hb : aMapUpdate P h t (ρ m) (ρ x) (ρ y) with
    | none => simp [hb] at e
    | some h2 =>
      simp [hb] at e
      obtain ⟨rfl, rfl⟩ := e
      obtain ⟨w', δ, hr, hd⟩ := aMapUpdate_sound hb (hop m (by simp [Op.operands])) (hop x (by simp [Op.operands])) (hop y (by simp [Op.operands])) k
      exact wp_of_skip hF (by simp) (w' := w') (by simp [execOp, hr]) (hg ι _ w' δ hd .undef)
  | insert t m x y =>
    simp only [aOp, noV] at e
    cases hb : aMapUpdate P h t (ρ m) (ρ x) (ρ y) with
    | none => simp [hb] at e
    | some h2 =>
      simp [hb] at e
      obtain ⟨rfl, rfl⟩ := e
      obtain ⟨w', δ, hr, hd⟩ := aMapUpdate_sound hb (hop m (by simp [Op.operands])) (hop x (by simp [Op.operands])) (hop y (by simp [Op.operands])) k
      exact wp_of_skip hF (by simp) (w' := w') (by simp [execOp, hr]) (hg ι _ w' δ hd .undef)
  | range t x =>
    simp only [aOp] at e
    obtain ⟨u', w', ι', δ, hr, hd, ru⟩ := aRange_sound e (hop x (by simp [Op.operands])) k hf
    exact vmem (by simp) ⟨u', w', ι', δ, by simp [execOp, hr], hd, ru⟩
  | next it b =>
    simp only [aOp] at e
    obtain ⟨u', w', δ, hr, hd, ru⟩ := aNext_sound (P := P) e (hop it (by simp [Op.operands])) k type
    exact vmem (by simp) ⟨u', w', ι, δ, by simp [execOp, hr], hd, ru⟩
  | entry it =>
    simp only [aOp, withH] at e
    cases hb : aEntry h (ρ it) with
    | none => simp [hb] at e
    | some u =>
      simp [hb] at e
      obtain ⟨u', hr, ru⟩ := aEntry_sound (P := P) hb (hop it (by simp [Op.operands])) k
      exact val (by simp) e.2.symm e.1.symm ⟨u', by simp [execOp, hr], ru⟩
  | typeAssert x xt t ok =>
    simp only [aOp, withH] at e
    cases hb : aAssert P (ρ x) t ok with
    | none => simp [hb] at e
    | some u =>
      simp [hb] at e
      obtain ⟨u', hr, ru⟩ := aAssert_sound (xt := xt) hb (hop x (by simp [Op.operands])) w
      exact val (by simp) e.2.symm e.1.symm ⟨u', by simp [execOp, hr], ru⟩
  | extract t ix =>
    simp only [aOp] at e
    have rx := hop t (by simp [Op.operands])
    split at e
    case h_2 => cases e
    rename_i vs hvs
    rw [hvs] at rx
    generalize hcc : a.eval t = cc at rx
    cases rx with
    | tuple hc hcs =>
      cases hb : vs[ix]? with
      | none => simp [hb, withH] at e
      | some u =>
        simp [hb, withH] at e
        obtain ⟨u', hu', ru⟩ := ARel.get (ι := ι) ⟨hc, hcs⟩ hb
        exact val (by simp) e.2.symm e.1.symm ⟨u', by simp [execOp, hcc, Instr.extract, hu'], ru⟩
  | call c =>
    obtain ⟨callee, args, argTypes⟩ := c
    have hargs : ARel ι (args.map ρ) (args.map a.eval) := ARel.map _ _ _ fun x hx => hop x (by simp [Op.operands, Call.operands, hx])
    cases callee with
    | builtin b =>
      obtain ⟨consts, hres⟩ : ∃ consts, ∀ w, (resolve a.eval { callee := .builtin b, args, argTypes } type).run P w = .ok { target := .builtin b argTypes type consts, args := args.map a.eval } w := ⟨_, fun w => rfl⟩
      cases b with
      | append =>
        simp only [aOp] at e
        have hall : ∃ u' w' ι' δ, (Builtin.append_ argTypes type (args.map a.eval)).run P w = .ok u' w' ∧ Did ι h w ι' h' w' δ ∧ VRel ι' v u' := by
          split at e
          · rename_i r hr
            cases e
            exact aAppendZ_sound hr hargs k hf type
          · exact aAppend_sound e hargs k hf type
        obtain ⟨u', w', ι', δ, hr, hd, ru⟩ := hall
        exact vmem (by simp) ⟨u', w', ι', δ, by simp only [execOp, Sem.run_bind, hres, Result.andThen_ok, invoke, builtin, hr, Sem.run_pure], hd, ru⟩
      | cap =>
        simp only [aOp, withH] at e
        cases hb : aCap P argTypes (args.map ρ) with
        | none => simp [hb] at e
        | some u =>
          simp [hb] at e
          obtain ⟨u', hr, ru⟩ := aCap_sound hb hargs type (w := w)
          exact val (by simp) e.2.symm e.1.symm ⟨u', by simp only [execOp, Sem.run_bind, hres, Result.andThen_ok, invoke, builtin, hr, Sem.run_pure], ru⟩
      | copy =>
        simp only [aOp] at e
        obtain ⟨u', w', δ, hr, hd, ru⟩ := aCopy_sound e hargs k type
        exact vmem (by simp) ⟨u', w', ι, δ, by simp only [execOp, Sem.run_bind, hres, Result.andThen_ok, invoke, builtin, hr, Sem.run_pure], hd, ru⟩
      | delete =>
        simp only [aOp] at e
        obtain ⟨u', w', δ, hr, hd, ru⟩ := aDelete_sound e hargs k type
        exact vmem (by simp) ⟨u', w', ι, δ, by simp only [execOp, Sem.run_bind, hres, Result.andThen_ok, invoke, builtin, hr, Sem.run_pure], hd, ru⟩
      | clear =>
        simp only [aOp] at e
        obtain ⟨u', w', δ, hr, hd, ru⟩ := aClear_sound e hargs k type
        exact vmem (by simp) ⟨u', w', ι, δ, by simp only [execOp, Sem.run_bind, hres, Result.andThen_ok, invoke, builtin, hr, Sem.run_pure], hd, ru⟩
      | len =>
        simp only [aOp, withH] at e
        cases hb : aLenOf P h argTypes (args.map ρ) with
        | none => simp [hb] at e
        | some u =>
          simp [hb] at e
          obtain ⟨u', hr, ru⟩ := aLenOf_sound hb hargs k type
          exact val (by simp) e.2.symm e.1.symm ⟨u', by simp only [execOp, Sem.run_bind, hres, Result.andThen_ok, invoke, builtin, hr, Sem.run_pure], ru⟩
      | min =>
        simp only [aOp] at e
        refine aPure_sound hF (by simp) e (fun ha => ?_) k hg
        have hall : args.map a.eval = args.map ρ := by
          apply Array.map_congr_left
          intro z hz
          have hz' : z ∈ (Op.call { callee := .builtin .min, args, argTypes }).operands := by simp [Op.operands, Call.operands, hz]
          exact haf z hz' (by rw [Array.all_eq_true'] at ha; exact ha z hz')
        simp only [execOp, resolve, hall]
      | max =>
        simp only [aOp] at e
        refine aPure_sound hF (by simp) e (fun ha => ?_) k hg
        have hall : args.map a.eval = args.map ρ := by
          apply Array.map_congr_left
          intro z hz
          have hz' : z ∈ (Op.call { callee := .builtin .max, args, argTypes }).operands := by simp [Op.operands, Call.operands, hz]
          exact haf z hz' (by rw [Array.all_eq_true'] at ha; exact ha z hz')
        simp only [execOp, resolve, hall]
      | _ => simp only [aOp] at e; cases e
    | value f =>
      simp only [aOp, aCallV] at e
      have rf := hop f (by simp [Op.operands, Call.operands])
      split at e
      · rename_i g first captured hfv
        rw [hfv] at rf
        generalize hcc : a.eval f = cc at rf
        cases rf with
        | func hfn hx hxs hc hcs =>
          rename_i fn' first' captured'
          cases hfn
          obtain ⟨⟨fn, cd, hfu, hbd, hnm⟩, hcall⟩ := hR.call e
          have ra : ARel ι (first ++ args.map ρ ++ captured) (first' ++ args.map a.eval ++ captured') := (ARel.append ⟨hx, hxs⟩ hargs).append ⟨hc, hcs⟩
          refine wp_of_call hF (by simp) (f := g) (args := first' ++ args.map a.eval ++ captured') ?_ (hcall ra k hf hF) hg
          simp [execOp, resolve, hcc, Deferred.ofValue, invoke, run_callFunc hfu hbd hnm]
      · rename_i l first captured hfv
        rw [hfv] at rf
        generalize hcc : a.eval f = cc at rf
        cases rf with
        | func hfn hx hxs hc hcs =>
          rename_i fn' first' captured'
          cases hfn with
          | yield hL =>
          obtain ⟨fn, tmps, as, bd, hy, hround⟩ := hR.rnd e hL (ARel.append ⟨hx, hxs⟩ hargs) k hf
          refine wp_of_round hF (by simp) ?_ (hround hF) hg
          simp [execOp, resolve, hcc, Deferred.ofValue, invoke, hy]
      · cases e
    | invoke recv name =>
      simp only [aOp] at e
      split at e
      case h_2 => cases e
      rename_i f u hm
      obtain ⟨t, u', hrec, ru, hcm⟩ := aMethod_sound hm (hop recv (by simp [Op.operands, Call.operands]))
      obtain ⟨⟨fn, cd, hfu, hbd, hnm⟩, hcall⟩ := hR.call e
      have ra : ARel ι (#[u] ++ args.map ρ) (#[u'] ++ args.map a.eval) := ARel.append (show ARel ι #[u] #[u'] from (ARel.empty ι).push ru) hargs
      refine wp_of_call hF (by simp) (f := f) (args := #[u'] ++ args.map a.eval) ?_ (hcall ra k hf hF) hg
      have e0 : (#[a.eval recv] ++ args.map a.eval : Array Value)[0]? = some (a.eval recv) := by rw [Array.getElem?_append_left (by simp)]; rfl
      have e1 : (#[a.eval recv] ++ args.map a.eval).extract 1 (#[a.eval recv] ++ args.map a.eval).size = args.map a.eval := by
        apply Array.ext'
        simp
        rw [List.take_of_length_le (by simp)]
      simp only [execOp, resolve, Sem.run_bind, Sem.run_pure, Result.andThen_ok, invoke, e0, e1, hcm, run_callFunc hfu hbd hnm]
  | _ => simp only [aOp] at e; cases e
end
end
end Go.Ags
