/- What an operation of the evaluator leaves of a heap: what is not in the log is as it was. -/
import Derived.Test.YtpabofkomhffgaaGreatAgsNext
set_option linter.unusedVariables false
set_option linter.unusedSimpArgs false
namespace Go.Ags
section
variable {P : Program}

theorem aWrite_st {h h' : AH} {b o : Nat} {ys : List Value} (e : aWrite h b o ys = some h') : St h h' := by
  unfold aWrite at e
  (repeat' split at e) <;> first | (cases e; done) | (cases e; first | exact St.put _ _ _ | exact St.new _ _ | exact St.putnew _ _ _ _ | exact St.refl _)

theorem aStore_st {h h' : AH} {t : TypeId} {a x : Value} (e : aStore P h t a x = some h') : St h h' := by
  unfold aStore at e
  (repeat' split at e) <;> first | (cases e; done) | exact aWrite_st e

theorem aAppend_st {h h' : AH} {ats : Array TypeId} {args : Array Value} {v : Value} (e : aAppend P h ats args = some (v, h')) : St h h' := by
  unfold aAppend at e
  (repeat' split at e) <;> first | (cases e; done) | (cases e; first | exact St.put _ _ _ | exact St.new _ _ | exact St.putnew _ _ _ _ | exact St.refl _) | (rename_i hw; cases e; exact aWrite_st hw)

theorem aAppendZ_st {h h' : AH} {ats : Array TypeId} {args : Array Value} {v : Value} (e : aAppendZ P h ats args = some (v, h')) : St h h' := by
  unfold aAppendZ at e
  (repeat' split at e) <;> first | (cases e; done) | (cases e; first | exact St.put _ _ _ | exact St.new _ _ | exact St.putnew _ _ _ _ | exact St.refl _) | (cases e; exact St.refl _)

theorem aCopy_st {h h' : AH} {ats : Array TypeId} {args : Array Value} {v : Value} (e : aCopy P h ats args = some (v, h')) : St h h' := by
  unfold aCopy at e
  (repeat' split at e) <;> first | (cases e; done) | (cases e; exact St.refl _) | (rename_i hw; cases e; exact aWrite_st hw)

theorem aMapUpdate_st {h h' : AH} {t : TypeId} {m x y : Value} (e : aMapUpdate P h t m x y = some h') : St h h' := by
  unfold aMapUpdate at e
  (repeat' split at e) <;> first | (cases e; done) | (cases e; first | exact St.put _ _ _ | exact St.new _ _ | exact St.putnew _ _ _ _ | exact St.refl _)

theorem aDelete_st {h h' : AH} {ats : Array TypeId} {args : Array Value} {v : Value} (e : aDelete P h ats args = some (v, h')) : St h h' := by
  unfold aDelete at e
  (repeat' split at e) <;> first | (cases e; done) | (cases e; first | exact St.put _ _ _ | exact St.new _ _ | exact St.putnew _ _ _ _ | exact St.refl _)

theorem aClear_st {h h' : AH} {ats : Array TypeId} {args : Array Value} {v : Value} (e : aClear P h ats args = some (v, h')) : St h h' := by
  unfold aClear at e
  (repeat' split at e) <;> first | (cases e; done) | (cases e; first | exact St.put _ _ _ | exact St.new _ _ | exact St.putnew _ _ _ _ | exact St.refl _) | (rename_i hw; cases e; exact aWrite_st hw)

theorem aBuildSlice_st {h h' : AH} {t : TypeId} {n : Nat} {parts : Array (Nat × Value)} {v : Value} (e : aBuildSlice P h t n parts = some (v, h')) : St h h' := by
  unfold aBuildSlice at e
  (repeat' split at e) <;> first | (cases e; done) | (cases e; first | exact St.put _ _ _ | exact St.new _ _ | exact St.putnew _ _ _ _ | exact St.refl _)

theorem aMakeSlice_st {h h' : AH} {t : TypeId} {l c v : Value} (e : aMakeSlice P h t l c = some (v, h')) : St h h' := by
  unfold aMakeSlice at e
  (repeat' split at e) <;> first | (cases e; done) | (cases e; first | exact St.put _ _ _ | exact St.new _ _ | exact St.putnew _ _ _ _ | exact St.refl _)

theorem aRange_st {h h' : AH} {t : TypeId} {x v : Value} (e : aRange P h t x = some (v, h')) : St h h' := by
  unfold aRange at e
  (repeat' split at e) <;> first | (cases e; done) | (cases e; first | exact St.put _ _ _ | exact St.new _ _ | exact St.putnew _ _ _ _ | exact St.refl _)

theorem aNext_st {h h' : AH} {x v : Value} {s : Bool} (e : aNext h x s = some (v, h')) : St h h' := by
  unfold aNext at e
  (repeat' split at e) <;> first | (cases e; done) | (cases e; first | exact St.put _ _ _ | exact St.new _ _ | exact St.putnew _ _ _ _ | exact St.refl _) | (dsimp only at e; (repeat' split at e) <;> first | (cases e; done) | (cases e; first | exact St.put _ _ _ | exact St.new _ _ | exact St.putnew _ _ _ _ | exact St.refl _))

theorem withH_st {α : Type} {h h' : AH} {v : Option α} {u : α} (e : withH h v = some (u, h')) : St h h' := by
  unfold withH at e
  cases v <;> simp at e
  rw [e.2]; exact St.refl _

theorem aPure_st {ρ : Operand → Value} {o : Oper} {h h' : AH} {v : Value} (e : aPure P ρ o h = some (v, h')) : St h h' := by
  unfold aPure at e
  (repeat' split at e) <;> first | (cases e; done) | (cases e; exact St.refl _)

theorem noV_st {h h' : AH} {r : Option AH} {v : Value} (e : noV r = some (v, h')) (hr : ∀ x, r = some x → St h x) : St h h' := by
  unfold noV at e
  cases r <;> simp at e
  rw [← e.2]; exact hr _ rfl

theorem aOp_st {R : Rec} (hR : RecSt R) {ρ : Operand → Value} {o : Oper} {h h' : AH} {v : Value} (e : aOp P R ρ o h = some (v, h')) : St h h' := by
  obtain ⟨dst, op, type, pos, after, guard⟩ := o
  cases op with
  | store t a x => simp only [aOp] at e; exact noV_st e fun x hx => aStore_st hx
  | mapUpdate t m x y => simp only [aOp] at e; exact noV_st e fun x hx => aMapUpdate_st hx
  | insert t m x y => simp only [aOp] at e; exact noV_st e fun x hx => aMapUpdate_st hx
  | call c =>
    obtain ⟨callee, args, ats⟩ := c
    cases callee with
    | builtin b =>
      cases b <;> simp only [aOp] at e <;> first
        | (cases e; done)
        | (split at e
           · rename_i r hr
             cases e
             exact aAppendZ_st hr
           · exact aAppend_st e)
        | exact aCopy_st e
        | exact withH_st e
        | exact aDelete_st e
        | exact aClear_st e
        | exact aPure_st e
    | value f =>
      simp only [aOp, aCallV] at e
      split at e
      · exact hR.call e
      · exact hR.rnd e
      · cases e
    | invoke r m =>
      simp only [aOp] at e
      split at e
      · exact hR.call e
      · cases e
  | makeFunc fn x c => cases fn <;> simp only [aOp] at e <;> first | (cases e; done) | (cases e; exact St.refl _)
  | makeMap t r => cases r <;> simp only [aOp] at e <;> first | (cases e; done) | (cases e; first | exact St.put _ _ _ | exact St.new _ _ | exact St.putnew _ _ _ _ | exact St.refl _)
  | alloc t =>
    simp only [aOp] at e
    cases hz : tzero P t with
    | none => simp [hz] at e
    | some z => simp [hz, aRow] at e; rw [← e.2]; exact St.new _ _
  | box t x => simp only [aOp, aRow] at e; cases e; exact St.new _ _
  | buildSlice t n p => simp only [aOp] at e; exact aBuildSlice_st e
  | makeSlice t l c => simp only [aOp] at e; exact aMakeSlice_st e
  | range t x => simp only [aOp] at e; exact aRange_st e
  | next x s => simp only [aOp] at e; exact aNext_st e
  | _ =>
    simp only [aOp] at e
    first
      | (cases e; done)
      | (cases e; exact St.refl _)
      | exact withH_st e
      | exact aPure_st e
      | ((repeat' split at e) <;> first | (cases e; done) | (cases e; exact St.refl _) | exact withH_st e | exact aPure_st e)
end
end Go.Ags
