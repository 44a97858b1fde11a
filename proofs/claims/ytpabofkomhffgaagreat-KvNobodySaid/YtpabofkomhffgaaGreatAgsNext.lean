/- The evaluator's numbers of blocks only rise. -/
import Derived.Test.YtpabofkomhffgaaGreatAgsDefs
set_option linter.unusedVariables false
set_option linter.unusedSimpArgs false
namespace Go.Ags
section
variable {P : Program}

/-- The log grows at its head; what is not in it stands. -/
structure St (h h' : AH) : Prop where
  ro : h'.ro = h.ro
  log : ∃ δ, h'.log = δ ++ h.log ∧ ∀ b, b ∉ δ → h'.get b = h.get b

theorem St.refl (h : AH) : St h h := ⟨rfl, [], rfl, fun _ _ => rfl⟩
theorem St.put (h : AH) (b : Nat) (o : Option Obj) : St h (h.put b o) := ⟨rfl, [b], rfl, fun c hc => by simp at hc; simp [hc]⟩
theorem St.new (h : AH) (o : Obj) : St h (h.new o) := ⟨rfl, [h.next], rfl, fun c hc => by simp at hc; simp [hc]⟩
theorem St.trans {a b c : AH} (x : St a b) (y : St b c) : St a c := by
  obtain ⟨r1, δ, l1, k1⟩ := x
  obtain ⟨r2, ε, l2, k2⟩ := y
  refine ⟨r2.trans r1, ε ++ δ, by rw [l2, l1, List.append_assoc], fun p hp => ?_⟩
  simp at hp
  rw [k2 p hp.1, k1 p hp.2]
theorem St.puts (h : AH) (b c : Nat) (o o' : Option Obj) : St h ((h.put b o).put c o') := (St.put h b o).trans (St.put _ _ _)
theorem St.putnew (h : AH) (b : Nat) (o : Option Obj) (o' : Obj) : St h ((h.put b o).new o') := (St.put h b o).trans (St.new _ _)
theorem St.news (h : AH) (o o' : Obj) : St h ((h.new o).new o') := (St.new h o).trans (St.new _ _)

structure RecSt (R : Rec) : Prop where
  call : ∀ {f : FuncId} {args : Array Value} {h : AH} {v : Value} {h' : AH}, R.call f args h = some (v, h') → St h h'
  rnd : ∀ {l : Nat} {args : Array Value} {h : AH} {v : Value} {h' : AH}, R.rnd l args h = some (v, h') → St h h'

structure RecNext (R : Rec) : Prop where
  call : ∀ {f : FuncId} {args : Array Value} {h : AH} {v : Value} {h' : AH}, R.call f args h = some (v, h') → h.next ≤ h'.next
  rnd : ∀ {l : Nat} {args : Array Value} {h : AH} {v : Value} {h' : AH}, R.rnd l args h = some (v, h') → h.next ≤ h'.next
  st : RecSt R

theorem aWrite_next {h h' : AH} {b o : Nat} {ys : List Value} (e : aWrite h b o ys = some h') : h.next ≤ h'.next := by
  unfold aWrite at e
  (repeat' split at e) <;> first | (cases e; done) | (cases e; simp)

theorem aStore_next {h h' : AH} {t : TypeId} {a x : Value} (e : aStore P h t a x = some h') : h.next ≤ h'.next := by
  unfold aStore at e
  (repeat' split at e) <;> first | (cases e; done) | exact aWrite_next e

theorem aAppend_next {h h' : AH} {ats : Array TypeId} {args : Array Value} {v : Value} (e : aAppend P h ats args = some (v, h')) : h.next ≤ h'.next := by
  unfold aAppend at e
  (repeat' split at e) <;> first | (cases e; done) | (cases e; simp; done) | (rename_i hw; cases e; exact aWrite_next hw)

theorem aAppendZ_next {h h' : AH} {ats : Array TypeId} {args : Array Value} {v : Value} (e : aAppendZ P h ats args = some (v, h')) : h.next ≤ h'.next := by
  unfold aAppendZ at e
  (repeat' split at e) <;> first | (cases e; done) | (cases e; simp; done) | (cases e; exact Nat.le_refl _)

theorem aCopy_next {h h' : AH} {ats : Array TypeId} {args : Array Value} {v : Value} (e : aCopy P h ats args = some (v, h')) : h.next ≤ h'.next := by
  unfold aCopy at e
  (repeat' split at e) <;> first | (cases e; done) | (cases e; exact Nat.le_refl _) | (rename_i hw; cases e; exact aWrite_next hw)

theorem aMapUpdate_next {h h' : AH} {t : TypeId} {m x y : Value} (e : aMapUpdate P h t m x y = some h') : h.next ≤ h'.next := by
  unfold aMapUpdate at e
  (repeat' split at e) <;> first | (cases e; done) | (cases e; simp)

theorem aDelete_next {h h' : AH} {ats : Array TypeId} {args : Array Value} {v : Value} (e : aDelete P h ats args = some (v, h')) : h.next ≤ h'.next := by
  unfold aDelete at e
  (repeat' split at e) <;> first | (cases e; done) | (cases e; simp)

theorem aClear_next {h h' : AH} {ats : Array TypeId} {args : Array Value} {v : Value} (e : aClear P h ats args = some (v, h')) : h.next ≤ h'.next := by
  unfold aClear at e
  (repeat' split at e) <;> first | (cases e; done) | (cases e; simp; done) | (rename_i hw; cases e; exact aWrite_next hw)

theorem aBuildSlice_next {h h' : AH} {t : TypeId} {n : Nat} {parts : Array (Nat × Value)} {v : Value} (e : aBuildSlice P h t n parts = some (v, h')) : h.next ≤ h'.next := by
  unfold aBuildSlice at e
  (repeat' split at e) <;> first | (cases e; done) | (cases e; simp)

theorem aMakeSlice_next {h h' : AH} {t : TypeId} {l c v : Value} (e : aMakeSlice P h t l c = some (v, h')) : h.next ≤ h'.next := by
  unfold aMakeSlice at e
  (repeat' split at e) <;> first | (cases e; done) | (cases e; simp)

theorem aRange_next {h h' : AH} {t : TypeId} {x v : Value} (e : aRange P h t x = some (v, h')) : h.next ≤ h'.next := by
  unfold aRange at e
  (repeat' split at e) <;> first | (cases e; done) | (cases e; simp)

theorem aNext_next {h h' : AH} {x v : Value} {s : Bool} (e : aNext h x s = some (v, h')) : h.next ≤ h'.next := by
  unfold aNext at e
  (repeat' split at e) <;> first | (cases e; done) | (cases e; simp; done) | (dsimp only at e; (repeat' split at e) <;> first | (cases e; done) | (cases e; simp))

theorem withH_next {α : Type} {h h' : AH} {v : Option α} {u : α} (e : withH h v = some (u, h')) : h.next ≤ h'.next := by
  unfold withH at e
  cases v <;> simp at e
  rw [e.2]; exact Nat.le_refl _

theorem aPure_next {ρ : Operand → Value} {o : Oper} {h h' : AH} {v : Value} (e : aPure P ρ o h = some (v, h')) : h.next ≤ h'.next := by
  unfold aPure at e
  (repeat' split at e) <;> first | (cases e; done) | (cases e; exact Nat.le_refl _)

theorem noV_next {h h' : AH} {r : Option AH} {v : Value} (e : noV r = some (v, h')) (hr : ∀ x, r = some x → h.next ≤ x.next) : h.next ≤ h'.next := by
  unfold noV at e
  cases r <;> simp at e
  rw [← e.2]; exact hr _ rfl

theorem aOp_next {R : Rec} (hR : RecNext R) {ρ : Operand → Value} {o : Oper} {h h' : AH} {v : Value} (e : aOp P R ρ o h = some (v, h')) : h.next ≤ h'.next := by
  obtain ⟨dst, op, type, pos, after, guard⟩ := o
  cases op with
  | store t a x => simp only [aOp] at e; exact noV_next e fun x hx => aStore_next hx
  | mapUpdate t m x y => simp only [aOp] at e; exact noV_next e fun x hx => aMapUpdate_next hx
  | insert t m x y => simp only [aOp] at e; exact noV_next e fun x hx => aMapUpdate_next hx
  | call c =>
    obtain ⟨callee, args, ats⟩ := c
    cases callee with
    | builtin b =>
      cases b <;> simp only [aOp] at e <;> first
        | (cases e; done)
        | (split at e
           · rename_i r hr
             cases e
             exact aAppendZ_next hr
           · exact aAppend_next e)
        | exact aCopy_next e
        | exact withH_next e
        | exact aDelete_next e
        | exact aClear_next e
        | exact aPure_next e
    | value f =>
      simp only [aOp, aCallV] at e
      split at e
      · exact hR.call e
      · exact hR.rnd e
      · cases e
    | invoke r m =>
      simp only [aOp] at e
      split at e
      · exact hR.call e
      · cases e
  | makeFunc fn x c => cases fn <;> simp only [aOp] at e <;> first | (cases e; done) | (cases e; exact Nat.le_refl _)
  | makeMap t r => cases r <;> simp only [aOp] at e <;> first | (cases e; done) | (cases e; simp)
  | alloc t =>
    simp only [aOp] at e
    cases hz : tzero P t with
    | none => simp [hz] at e
    | some z => simp [hz, aRow] at e; rw [← e.2]; simp
  | box t x => simp only [aOp, aRow] at e; cases e; simp
  | buildSlice t n p => simp only [aOp] at e; exact aBuildSlice_next e
  | makeSlice t l c => simp only [aOp] at e; exact aMakeSlice_next e
  | range t x => simp only [aOp] at e; exact aRange_next e
  | next x s => simp only [aOp] at e; exact aNext_next e
  | _ =>
    simp only [aOp] at e
    first
      | (cases e; done)
      | (cases e; exact Nat.le_refl _)
      | exact withH_next e
      | exact aPure_next e
      | ((repeat' split at e) <;> first | (cases e; done) | (cases e; exact Nat.le_refl _) | exact withH_next e | exact aPure_next e)
end
end Go.Ags
