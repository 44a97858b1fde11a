/- What a table's function answers at arguments of which no block is read; a function without arguments whose answer is known is not run again. -/
import Derived.Test.YtpabofkomhffgaaGreatAgsCompOk
import Derived.Test.YtpabofkomhffgaaGreatAgsRow
set_option linter.unusedVariables false
set_option linter.unusedSimpArgs false
namespace Go.Ags
open Go.RowKit
section
variable {P : Program} {R : Rec}

theorem good_blank (g : GoodRec P R) {n : Nat} {f : FuncId} {args args' : Array Value} {ι : Inj} {w : World} (e : yes (R.call f args (Ags.blank n)) = true) (ra : ARel ι args args') (hι : ∀ b, n ≤ b → ι b = none) {F : Fence} {m : Nat} (hF : FOk F) :
    CallsIn F m P f args' w (fun e w' => e = .returned (.bool true) ∧ Below w.heap.size w w') := by
  obtain ⟨h', e⟩ := yes_eq e
  refine ((g.sound.call e).2 ra (blank_rel ι n w) (fun b h _ => hι b h) hF).mono fun e w' hp => ?_
  obtain ⟨ι', v', δ, rfl, rv, d⟩ := hp
  cases rv
  exact ⟨rfl, below_of_did hι d⟩

noncomputable def known (R : Rec) (f0 : FuncId) (v0 : Value) : Rec := { call := fun f args h => ifB (Nat.beq f f0 && Nat.beq args.size 0) (some (v0, h)) (R.call f args h), rnd := R.rnd }

theorem beq_beq (a b : Nat) : (a == b) = Nat.beq a b := by
  by_cases h : a = b
  · rw [beq_yes h]; simpa using h
  · rw [beq_no h]; simpa using h

theorem known_over (R : Rec) (f0 : FuncId) (v0 : Value) : known R f0 v0 = over R f0 v0 := by
  unfold known over
  congr 1
  funext f args h
  rw [ifB_eq, beq_beq, beq_beq]

theorem known_ok (G : ∀ (f : FuncId) (fn : Func), P.funcs[f]? = some fn → (fn.name == "runtime.NumGoroutine") = false) (g : GoodRec P R) {f0 : FuncId} {fn : Func} {c : Code} (hf : P.funcs[f0]? = some fn) (hb : fn.body = some c)
    (e : yes (R.call f0 #[] (Ags.blank 0)) = true) : GoodRec P (known R f0 (.bool true)) := by
  rw [known_over]
  exact ⟨over_sound g.sound rfl ⟨fn, c, hf, hb, G f0 fn hf⟩ fun w _ _ hF => good_blank g e (.empty (fun _ => none)) (fun _ _ => rfl) hF, over_next g.next⟩
end
end Go.Ags
