/- A call whose answer is known is not run again; a first branch on what is not known is taken both ways; arguments whose slices are not read. -/
import Derived.Test.YtpabofkomhffgaaGreatAgsEv
import Derived.Below
set_option linter.unusedVariables false
set_option linter.unusedSimpArgs false
namespace Go.Ags
open Go.RowKit
section
variable {P : Program}

/-! ### A known call -/
def over (R : Rec) (f0 : FuncId) (v0 : Value) : Rec :=
  { call := fun f args h => bif f == f0 && args.size == 0 then some (v0, h) else R.call f args h, rnd := R.rnd }

theorem HRel.below {ι : Inj} {h : AH} {w w' : World} (k : HRel ι h w) (hb : Below w.heap.size w w') : HRel ι h w' := by
  refine ⟨fun b o e => ?_, k.inj⟩
  obtain ⟨L, i, r⟩ := k.live b o e
  refine ⟨L, i, ?_⟩
  have : L.g < w.heap.size := by
    refine Nat.lt_of_not_le fun hle => ?_
    rw [Array.getElem?_eq_none hle] at r
    unfold ORel at r
    split at r <;> first | exact r | (rename_i q; cases q)
  rw [hb.block _ this]; exact r

theorem Did.below {ι : Inj} {h : AH} {w w' : World} (k : HRel ι h w) (hb : Below w.heap.size w w') : Did ι h w ι h w' [] :=
  ⟨.refl h, ⟨fun _ _ => rfl, hb.size, hb.os, hb.tape, hb.output, fun g hg _ => hb.block g hg, fun b L h1 h2 => absurd h1 (by omega), k.below hb⟩⟩

theorem over_sound {R : Rec} (hR : RecSound P R) {f0 : FuncId} {v0 : Value} (hv : af v0 = true)
    (hf : ∃ fn c, P.funcs[f0]? = some fn ∧ fn.body = some c ∧ (fn.name == "runtime.NumGoroutine") = false)
    (hc : ∀ (w : World) {F : Fence} {n : Nat}, FOk F → CallsIn F n P f0 #[] w (fun e w' => e = .returned v0 ∧ Below w.heap.size w w')) : RecSound P (over R f0 v0) := by
  refine ⟨?_, hR.rnd⟩
  intro f args h v h' e
  simp only [over] at e
  cases hq : f == f0 && args.size == 0 with
  | false => rw [hq] at e; exact hR.call e
  | true =>
    rw [hq] at e
    simp only [cond_true, Option.some.injEq, Prod.mk.injEq] at e
    obtain ⟨rfl, rfl⟩ := e
    simp only [Bool.and_eq_true, beq_iff_eq] at hq
    obtain ⟨rfl, hs⟩ := hq
    refine ⟨hf, ?_⟩
    intro ι w args' ra k hfree F n hF
    have : args' = #[] := Array.eq_empty_of_size_eq_zero (by rw [← ra.size]; exact hs)
    subst this
    refine (hc w hF).mono fun e w' he => ?_
    exact ⟨ι, v0, [], he.1, .af_refl ι v0 hv, .below k he.2⟩

theorem over_next {R : Rec} (hR : RecNext R) {f0 : FuncId} {v0 : Value} : RecNext (over R f0 v0) := by
  have key : ∀ {f : FuncId} {args : Array Value} {h : AH} {v : Value} {h' : AH}, (over R f0 v0).call f args h = some (v, h') → h.next ≤ h'.next ∧ St h h' := by
    intro f args h v h' e
    simp only [over] at e
    cases hq : f == f0 && args.size == 0 with
    | false => rw [hq] at e; exact ⟨hR.call e, hR.st.call e⟩
    | true =>
      rw [hq] at e
      simp only [cond_true, Option.some.injEq, Prod.mk.injEq] at e
      rw [e.2]; exact ⟨Nat.le_refl _, .refl _⟩
  exact ⟨fun e => (key e).1, hR.rnd, ⟨fun e => (key e).2, hR.st.rnd⟩⟩

/-! ### The first branch, both ways -/
def evFst (P : Program) (R : Rec) (fuel : Nat) : Code → ES → Option (Value × (Bool → Option (Ex × ES)))
  | .seq p q, s => match evFst P R fuel p s with
    | some (v, k) => some (v, fun b => match k b with
      | some (.normal, s1) => evCode P R fuel false q s1
      | r => r)
    | none => match evCode P R fuel false p s with
      | some (.normal, s1) => evFst P R fuel q s1
      | _ => none
  | .cond (.tmp x) p q, s => some (evalIn s.tmps (.tmp x), fun b => bif b then evCode P R fuel false p s else evCode P R fuel false q s)
  | .block id c, s => match evFst P R fuel c s with
    | some (v, k) => some (v, fun b => match k b with
      | some (.exit i, s') => if i = id then some (.normal, s') else some (.exit i, s')
      | r => r)
    | none => none
  | _, _ => none

theorem evFst_eq {R : Rec} {fuel : Nat} : ∀ {c : Code} {s : ES} {b : Bool} {k : Bool → Option (Ex × ES)}, evFst P R fuel c s = some (.bool b, k) → evCode P R fuel false c s = k b
  | .seq p q, s, b, k, e => by
    simp only [evFst] at e
    split at e
    · rename_i v k1 h1
      simp only [Option.some.injEq, Prod.mk.injEq] at e
      obtain ⟨rfl, rfl⟩ := e
      simp only [evCode, evFst_eq h1]
      cases k1 b with
      | none => rfl
      | some r => obtain ⟨x, s1⟩ := r; cases x <;> rfl
    · split at e
      · rename_i s1 h1
        simp only [evCode, h1]
        exact evFst_eq e
      · cases e
  | .cond (.tmp x) p q, s, b, k, e => by
    simp only [evFst, Option.some.injEq, Prod.mk.injEq] at e
    obtain ⟨h1, rfl⟩ := e
    simp only [evCode, h1]
    cases b <;> rfl
  | .block id c, s, b, k, e => by
    simp only [evFst] at e
    split at e
    · rename_i v k1 h1
      simp only [Option.some.injEq, Prod.mk.injEq] at e
      obtain ⟨rfl, rfl⟩ := e
      simp only [evCode, evFst_eq h1]
      cases k1 b with
      | none => rfl
      | some r => obtain ⟨x, s1⟩ := r; cases x <;> rfl
    · cases e
  | .cond (.const _) _ _, _, _, _, e => by simp only [evFst] at e; cases e
  | .cond (.global _) _ _, _, _, _, e => by simp only [evFst] at e; cases e
  | .cond (.func _) _ _, _, _, _, e => by simp only [evFst] at e; cases e
  | .skip, _, _, _, e => by simp only [evFst] at e; cases e
  | .label _, _, _, _, e => by simp only [evFst] at e; cases e
  | .ret, _, _, _, e => by simp only [evFst] at e; cases e
  | .exit _, _, _, _, e => by simp only [evFst] at e; cases e
  | .region _ _ _, _, _, _, e => by simp only [evFst] at e; cases e
  | .loop _, _, _, _, e => by simp only [evFst] at e; cases e
  | .rangeFunc _ _ _ _, _, _, _, e => by simp only [evFst] at e; cases e
  | .scope _, _, _, _, e => by simp only [evFst] at e; cases e
  | .goto _, _, _, _, e => by simp only [evFst] at e; cases e
  | .refuse _, _, _, _, e => by simp only [evFst] at e; cases e

/-- A function's end. -/
def ended (P : Program) (fn : Func) : Option (Ex × ES) → Option (Value × AH)
  | some (.normal, s) | some (.ret, s) => match aMarks s.marks s.h with
    | some h' => match fn.results.mapM (aResult P s.tmps h') with
      | some vs => some (if hs : vs.size = 1 then vs[0] else .tuple vs, h')
      | none => none
    | none => none
  | _ => none

theorem evFn_ended {R : Rec} {fuel : Nat} {f : FuncId} {fn : Func} {c : Code} (hf : P.funcs[f]? = some fn) (hb : fn.body = some c) (args : Array Value) (h : AH) :
    evFn P R fuel f args h = ended P fn (evCode P R fuel false c { tmps := args ++ Array.replicate (fn.ntmps - args.size) undef, marks := [], h }) := by
  unfold evFn ended
  rw [hf]; simp only []; rw [hb]; rfl

def yes : Option (Value × AH) → Bool
  | some (.bool b, _) => b
  | _ => false

theorem yes_eq {r : Option (Value × AH)} (h : yes r = true) : ∃ h', r = some (.bool true, h') := by
  unfold yes at h
  split at h
  · subst h; exact ⟨_, rfl⟩
  · cases h

/-- The function answers true, whichever way its first branch goes. -/
def bothWays (P : Program) (fn : Func) : Option (Value × (Bool → Option (Ex × ES))) → Bool
  | some (.bool _, k) => yes (ended P fn (k true)) && yes (ended P fn (k false))
  | _ => false

theorem bothWays_eq {R : Rec} {fuel : Nat} {f : FuncId} {fn : Func} {c : Code} (hf : P.funcs[f]? = some fn) (hb : fn.body = some c) {args : Array Value} {h : AH}
    (hy : bothWays P fn (evFst P R fuel c { tmps := args ++ Array.replicate (fn.ntmps - args.size) undef, marks := [], h }) = true) :
    ∃ h', evFn P R fuel f args h = some (.bool true, h') := by
  rw [evFn_ended hf hb]
  unfold bothWays at hy
  split at hy
  · rename_i b k hk
    rw [evFst_eq hk]
    simp only [Bool.and_eq_true] at hy
    cases b
    · exact yes_eq hy.2
    · exact yes_eq hy.1
  · cases hy

/-! ### Arguments whose slices are not read -/
def blank (n : Nat) : AH := ⟨.leaf, n, n, []⟩

theorem get_leaf (n r : Nat) (l : List Nat) (b : Nat) : (AH.mk .leaf n r l).get b = none := by
  simp [AH.get, T.get]

theorem blank_get (n b : Nat) : (blank n).get b = none := get_leaf n n [] b

theorem blank_rel (ι : Inj) (n : Nat) (w : World) : HRel ι (blank n) w := by
  refine ⟨?_, ?_⟩
  · intro b o e
    rw [blank_get] at e; cases e
  · intro b c o o' L L' e
    rw [blank_get] at e; cases e

theorem below_of_did {ι ι' : Inj} {n : Nat} {w w' : World} {h' : AH} {δ : List Nat} (hι : ∀ b, n ≤ b → ι b = none) (d : Did ι (blank n) w ι' h' w' δ) : Below w.heap.size w w' := by
  refine ⟨d.c.os, d.c.tape, d.c.output, d.c.size, fun g hg => d.c.frame g hg ?_⟩
  intro b hb L hL
  rcases d.a.own b hb with h | h
  · rw [hι b h.1] at hL; cases hL
  · have := h.2; rw [blank_get] at this; simp at this

/-- What a call answers, at arguments of which no block is read. -/
theorem ev_blank (G : ∀ (f : FuncId) (fn : Func), P.funcs[f]? = some fn → (fn.name == "runtime.NumGoroutine") = false) {R : Rec} (hR : RecSound P R) (hN : RecNext R) {fuel n : Nat} {f : FuncId} {args args' : Array Value} {h' : AH} {b : Bool} {ι : Inj} {w : World}
    (e : evFn P R fuel f args (blank n) = some (.bool b, h')) (ra : ARel ι args args') (hι : ∀ b, n ≤ b → ι b = none) {F : Fence} {m : Nat} (hF : FOk F) :
    CallsIn F m P f args' w (fun e w' => e = .returned (.bool b) ∧ Below w.heap.size w w') := by
  refine ((evFn_sound G hR hN e).2 ra (blank_rel ι n w) (fun b h _ => hι b h) hF).mono fun e w' hp => ?_
  obtain ⟨ι', v', δ, rfl, rv, d⟩ := hp
  cases rv
  exact ⟨rfl, below_of_did hι d⟩

/-- A call without arguments. -/
theorem ev_closed (G : ∀ (f : FuncId) (fn : Func), P.funcs[f]? = some fn → (fn.name == "runtime.NumGoroutine") = false) {k : Nat} {f : FuncId} (e : yes ((ev P (k + 1)).call f #[] (blank 0)) = true) (w : World) {F : Fence} {m : Nat} (hF : FOk F) :
    CallsIn F m P f #[] w (fun e w' => e = .returned (.bool true) ∧ Below w.heap.size w w') := by
  obtain ⟨h', e'⟩ := yes_eq e
  exact ev_blank G (ev_sound G k) (ev_next k) (ι := fun _ => none) e' (.empty _) (fun _ _ => rfl) hF
end
end Go.Ags
