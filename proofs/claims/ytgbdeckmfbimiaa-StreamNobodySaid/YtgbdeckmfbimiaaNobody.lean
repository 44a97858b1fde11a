/- StreamNobody: the law's own code is run by the evaluator, its first branch both ways; 'alive' is run once, closed. -/
import Derived.Test.YtgbdeckmfbimiaaAgsRow
import Derived.Test.YtgbdeckmfbimiaaRows
set_option linter.unusedVariables false
set_option linter.unusedSimpArgs false
namespace Go.Proofs.Ytgbdeckmfbimiaa
open Go.ChangeShapes Go.WideShapes Go.ChangeAt Go.RowKit Go.Ags

theorem Try.own : ownKnob Try.prog.godebug = none := by kernel_rfl
theorem Try.laidOut : laidOutB Try.prog = true := by kernel_rfl

theorem noCounter : (Try.prog.funcs.all fun fn => !(fn.name == "runtime.NumGoroutine")) = true := by kernel_rfl

theorem plainNames (f : FuncId) (fn : Func) (h : Try.prog.funcs[f]? = some fn) : (fn.name == "runtime.NumGoroutine") = false := by
  have h1 := noCounter
  rw [Array.all_eq_true'] at h1
  have h2 := h1 fn (Array.mem_of_getElem? h)
  simpa using h2

theorem aliveRuns : yes ((ev Try.prog 60).call 12 #[] (Ags.blank 0)) = true := by kernel_rfl

theorem aliveThere : ∃ fn c, Try.prog.funcs[12]? = some fn ∧ fn.body = some c ∧ (fn.name == "runtime.NumGoroutine") = false :=
  ⟨Try.f12, _, Try.func12, rfl, plainNames 12 _ Try.func12⟩

theorem recSound : RecSound Try.prog (over (ev Try.prog 60) 12 (.bool true)) :=
  over_sound (ev_sound plainNames 60) rfl aliveThere fun w _ _ hF => ev_closed plainNames aliveRuns w hF

theorem recNext : RecNext (over (ev Try.prog 60) 12 (.bool true)) := over_next (ev_next 60)

/-- A slice of an argument: nil, or not. -/
def sl (b : Bool) (i n : Nat) : Value := bif b then .slice (some ⟨i, 0, none⟩) n (loose + 1) else .slice none 0 0

def step (n0 n1 n2 n3 n4 n5 n6 n7 n8 n9 n10 n11 n12 n13 n14 n16 : Int) (s15 s17 : Value) : Value :=
  .agg #[.int .u8 n0, .int .i64 n1, .int .u64 n2, .int .u64 n3, .int .u64 n4, .int .u64 n5, .int .i64 n6, .int .u64 n7, .int .u64 n8, .int .u64 n9, .int .u64 n10, .int .u64 n11, .int .u64 n12, .int .i64 n13, .int .u64 n14, s15, .int .i64 n16, s17]

noncomputable def body6 : Code := Try.f6.body.getD .skip
theorem body6_eq : Try.f6.body = some body6 := rfl

noncomputable def chk (v : Value) : Bool :=
  bothWays Try.prog Try.f6 (evFst Try.prog (over (ev Try.prog 60) 12 (.bool true)) 60 body6 { tmps := #[v] ++ Array.replicate (Try.f6.ntmps - (#[v] : Array Value).size) undef, marks := [], h := Ags.blank 18 })

section
variable (n0 n1 n2 n3 n4 n5 n6 n7 n8 n9 n10 n11 n12 n13 n14 n16 : Int) (a b : Nat)
theorem c00 : chk (step n0 n1 n2 n3 n4 n5 n6 n7 n8 n9 n10 n11 n12 n13 n14 n16 (sl false 15 a) (sl false 17 b)) = true := by kernel_rfl
theorem c01 : chk (step n0 n1 n2 n3 n4 n5 n6 n7 n8 n9 n10 n11 n12 n13 n14 n16 (sl false 15 a) (sl true 17 b)) = true := by kernel_rfl
theorem c10 : chk (step n0 n1 n2 n3 n4 n5 n6 n7 n8 n9 n10 n11 n12 n13 n14 n16 (sl true 15 a) (sl false 17 b)) = true := by kernel_rfl
theorem c11 : chk (step n0 n1 n2 n3 n4 n5 n6 n7 n8 n9 n10 n11 n12 n13 n14 n16 (sl true 15 a) (sl true 17 b)) = true := by kernel_rfl
theorem c (x y : Bool) : chk (step n0 n1 n2 n3 n4 n5 n6 n7 n8 n9 n10 n11 n12 n13 n14 n16 (sl x 15 a) (sl y 17 b)) = true := by
  cases x <;> cases y
  · exact c00 n0 n1 n2 n3 n4 n5 n6 n7 n8 n9 n10 n11 n12 n13 n14 n16 a b
  · exact c01 n0 n1 n2 n3 n4 n5 n6 n7 n8 n9 n10 n11 n12 n13 n14 n16 a b
  · exact c10 n0 n1 n2 n3 n4 n5 n6 n7 n8 n9 n10 n11 n12 n13 n14 n16 a b
  · exact c11 n0 n1 n2 n3 n4 n5 n6 n7 n8 n9 n10 n11 n12 n13 n14 n16 a b
end
end Go.Proofs.Ytgbdeckmfbimiaa
