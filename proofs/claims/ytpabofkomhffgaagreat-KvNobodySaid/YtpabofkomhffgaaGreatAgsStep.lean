/- What the evaluator leaves of a heap: what is not in the log is as it was. -/
import Derived.Test.YtpabofkomhffgaaGreatAgsCode
import Derived.Test.YtpabofkomhffgaaGreatAgsLocal
set_option linter.unusedVariables false
set_option linter.unusedSimpArgs false
namespace Go.Ags
section
variable {P : Program}
theorem evOps_st {R : Rec} (hR : RecSt R) {ops : Array Oper} : ∀ {l : List Nat} {ts ts' : Array Value} {h h' : AH}, evOps P R ops l ts h = some (ts', h') → St h h'
  | [], _, _, _, _, e => by simp only [evOps] at e; cases e; exact .refl _
  | i :: rest, ts, ts', h, h', e => by
    simp only [evOps] at e
    split at e
    · cases e
    · split at e
      · split at e
        · split at e
          · rename_i hop
            exact St.trans (aOp_st hR hop) (evOps_st hR e)
          · cases e
        · cases e
      · exact evOps_st hR e

theorem evSeq_st {R : Rec} (hR : RecSt R) {ops : Array Oper} : ∀ {l : List Oper} {ts ts' : Array Value} {h h' : AH} {acc : List Tr}, evSeq P R ops l ts h acc = some (ts', h') → St h h'
  | [], _, _, _, _, _, e => by simp only [evSeq] at e; cases e; exact .refl _
  | o :: rest, ts, ts', h, h', acc, e => by
    simp only [evSeq] at e
    split at e
    · split at e
      · split at e
        · rename_i hop
          split at e
          · exact St.trans (aOp_st hR hop) (evSeq_st hR e)
          · cases e
        · cases e
      · cases e
    · exact evSeq_st hR e

theorem evRegion_st {R : Rec} (hR : RecSt R) {ops : Array Oper} {draw : Bool} {ts ts' : Array Value} {h h' : AH} (e : evRegion P R ops draw ts h = some (ts', h')) : St h h' := by
  unfold evRegion at e
  split at e
  · cases hor : (orderly ops && drawOk ops 0 ops.toList [] []) with
    | false => rw [hor] at e; cases e
    | true => rw [hor] at e; exact evSeq_st hR e
  · rw [evOpsL_all] at e; exact evOps_st hR e

theorem iter_st {f : ES → Option (Ex × ES)} (hf : ∀ {s s' : ES} {x : Ex}, f s = some (x, s') → St s.h s'.h) : ∀ {k : Nat} {s s' : ES} {x : Ex}, iter f k s = some (x, s') → St s.h s'.h
  | 0, _, _, _, e => by simp only [iter] at e; cases e
  | k + 1, s, s', x, e => by
    simp only [iter] at e
    split at e
    · rename_i h1
      exact St.trans (hf h1) (iter_st hf e)
    · exact hf e

theorem aCallV_st {R : Rec} (hR : RecSt R) {f : Value} {args : Array Value} {h h' : AH} {v : Value} (e : aCallV R f args h = some (v, h')) : St h h' := by
  unfold aCallV at e
  split at e
  · exact hR.call e
  · exact hR.rnd e
  · cases e

theorem evCode_st {R : Rec} (hR : RecSt R) {fuel : Nat} {b : Bool} : ∀ {c : Code} {s s' : ES} {x : Ex}, evCode P R fuel b c s = some (x, s') → St s.h s'.h
  | .skip, _, _, _, e => by simp only [evCode] at e; cases e; exact .refl _
  | .label _, _, _, _, e => by simp only [evCode] at e; cases e; exact .refl _
  | .ret, _, _, _, e => by simp only [evCode] at e; cases e; exact .refl _
  | .exit _, _, _, _, e => by simp only [evCode] at e; cases e; exact .refl _
  | .region id ops draw, s, s', x, e => by
    simp only [evCode] at e
    split at e
    · rename_i h1
      cases e
      exact evRegion_st hR h1
    · cases e
  | .seq p q, s, s', x, e => by
    simp only [evCode] at e
    split at e
    · rename_i h1
      exact St.trans (evCode_st hR h1) (evCode_st hR e)
    · exact evCode_st hR e
  | .cond c p q, s, s', x, e => by
    simp only [evCode] at e
    split at e
    · cases e
    · split at e
      · exact evCode_st hR e
      · exact evCode_st hR e
      · cases e
  | .block id c, s, s', x, e => by
    simp only [evCode] at e
    split at e
    · rename_i h1
      split at e
      · cases e; exact evCode_st hR h1
      · cases e; exact evCode_st hR h1
    · exact evCode_st hR e
  | .loop c, s, s', x, e => by
    simp only [evCode] at e
    exact iter_st (fun h => evCode_st hR h) e
  | .rangeFunc (.tmp g) params assign body, s, s', x, e => by
    simp only [evCode] at e
    split at e
    · cases e
    · split at e
      · split at e
        · rename_i h1
          have := hR.call h1
          have this := (St.news s.h _ _).trans this
          (repeat' split at e) <;> first | (cases e; done) | (cases e; exact this.trans (St.put _ _ _))
        · cases e
      · cases e
  | .rangeFunc (.const _) _ _ _, _, _, _, e => by simp only [evCode] at e; cases e
  | .rangeFunc (.global _) _ _ _, _, _, _, e => by simp only [evCode] at e; cases e
  | .rangeFunc (.func _) _ _ _, _, _, _, e => by simp only [evCode] at e; cases e
  | .scope _, _, _, _, e => by simp only [evCode] at e; cases e
  | .goto _, _, _, _, e => by simp only [evCode] at e; cases e
  | .refuse _, _, _, _, e => by simp only [evCode] at e; cases e

theorem aMarks_st : ∀ {l : List Nat} {h h' : AH}, aMarks l h = some h' → St h h'
  | [], _, _, e => by simp only [aMarks] at e; cases e; exact .refl _
  | m :: r, h, h', e => by
    simp only [aMarks] at e
    split at e
    · split at e
      · exact (St.put _ _ _).trans (aMarks_st e)
      · cases e
    · cases e

theorem evFn_st {R : Rec} (hR : RecSt R) {fuel f : Nat} {args : Array Value} {h h' : AH} {v : Value} (e : evFn P R fuel f args h = some (v, h')) : St h h' := by
  unfold evFn at e
  split at e
  · split at e
    · split at e
      · rename_i h1
        split at e
        · rename_i h2
          split at e
          · cases e
            exact (evCode_st hR h1).trans (aMarks_st h2)
          · cases e
        · cases e
      · rename_i h1
        split at e
        · rename_i h2
          split at e
          · cases e
            exact (evCode_st hR h1).trans (aMarks_st h2)
          · cases e
        · cases e
      · cases e
    · cases e
  · cases e

theorem evRnd_st {R : Rec} (hR : RecSt R) {fuel l : Nat} {args : Array Value} {h h' : AH} {v : Value} (e : evRnd P R fuel l args h = some (v, h')) : St h h' := by
  unfold evRnd at e
  split at e
  · split at e
    · split at e
      · rename_i h1
        split at e
        · split at e
          · split at e
            · rename_i h2
              have a1 := evCode_st hR h1
              have a2 := evCode_st hR h2
              have a3 := a1.trans ((St.put _ _ _).trans a2)
              split at e
              · (repeat' split at e) <;> (cases e; exact a3.trans (St.put _ _ _))
              · cases e
            · cases e
          · cases e
        · cases e
      · cases e
    · cases e
  · cases e

theorem ev_st : ∀ n, RecSt (ev P n)
  | 0 => ⟨fun e => by simp [ev] at e, fun e => by simp [ev] at e⟩
  | n + 1 => ⟨fun e => evFn_st (ev_st n) e, fun e => evRnd_st (ev_st n) e⟩


theorem ev_next : ∀ n, RecNext (ev P n)
  | 0 => ⟨fun e => by simp [ev] at e, fun e => by simp [ev] at e, ev_st 0⟩
  | n + 1 => ⟨fun e => evFn_next (ev_next n) e, fun e => evRnd_next (ev_next n) e, ev_st (n + 1)⟩
end
end Go.Ags
