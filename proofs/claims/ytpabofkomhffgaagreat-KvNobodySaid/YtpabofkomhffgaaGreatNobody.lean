/- KvNobody's own steps are run by the kernel: at a nil list of tokens and at one that is not read. -/
import Derived.Test.YtpabofkomhffgaaGreatSteps
set_option linter.unusedVariables false
namespace Go.Proofs.YtpabofkomhffgaaGreat
open Go.Ags

theorem last_good : GoodRec Tryz.prog R106 := R106_good

/-- A slice of an argument: nil, or not. -/
def sl (b : Bool) (i n : Nat) : Value := bif b then .slice (some ⟨i, 0, none⟩) n (loose + 1) else .slice none 0 0

theorem c0 (n : Nat) (p q : Int) : yes (R106.call 7 #[sl false 0 n, .int .i64 p, .int .i64 q] (Go.Ags.blank (1 : Nat))) = true := by kernel_rfl
theorem c1 (n : Nat) (p q : Int) : yes (R106.call 7 #[sl true 0 n, .int .i64 p, .int .i64 q] (Go.Ags.blank (1 : Nat))) = true := by kernel_rfl
theorem c (x : Bool) (n : Nat) (p q : Int) : yes (R106.call 7 #[sl x 0 n, .int .i64 p, .int .i64 q] (Go.Ags.blank (1 : Nat))) = true := by
  cases x
  · exact c0 n p q
  · exact c1 n p q
end Go.Proofs.YtpabofkomhffgaaGreat
