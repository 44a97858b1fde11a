/- The row's end: the answer is true, and nothing that was there has turned. -/
import Derived.Test.YtpabofkomhffgaaGreatAgsOver
import Derived.ProofKit
set_option linter.unusedVariables false
set_option linter.unusedSimpArgs false
namespace Go.Ags
open Go.RowKit Go.ChangeShapes Go.WideShapes Go.ChangeAt
section
variable {H : Type} {enc : TypeId × Value → H} {P : Program}

theorem stays_all (hl : laidOutB P = true) {W W' : World} (hb : Below W.heap.size W W') (sp : Nat → Bool) :
    ∀ {ts : List TypeId} {vs : List Value} {ds : List (DataW H)} {ps : List MemPlace}, ts.all (fun t => P.readableRec t && decide (t < P.types.size)) = true →
      DataW.TrodAll enc P W 0 (fun _ => true) true ts vs ds ps → (∀ x ∈ ps, x.block < W.heap.size) → (∀ x ∈ ps, sp x.block = true) → DataW.TrodAll enc P W' 0 sp true ts vs ds ps
  | [], vs, ds, ps, _, h, _, _ => by
    obtain ⟨rfl, rfl, rfl⟩ := trodAll_nil h
    exact rfl
  | t :: ts, vs, ds, ps, ht, h, hlt, hsp => by
    obtain ⟨v, vs1, d, ds1, a, b, rfl, rfl, rfl, h1, h2⟩ := trodAll_cons h
    simp only [List.all_cons, Bool.and_eq_true, decide_eq_true_eq] at ht
    refine ⟨a, b, WideElems.Trod_stays hl ht.1.1 ht.1.2 h1 (fun x hx => hb.same (hlt x (by simp [hx]))) (fun x hx => hsp x (by simp [hx])), ?_, rfl⟩
    exact stays_all hl hb sp ht.2 h2 (fun x hx => hlt x (by simp [hx])) (fun x hx => hsp x (by simp [hx]))

theorem post_true {f : Func} {s : ChangeSpec} {apart fresh handsOn again : Bool} {W W' : World} {args : Array Value} {ds gs : List (DataW H)} {before : List MemPlace}
    (hl : laidOutB P = true) (hv : s.vars = []) (hts : f.params.toList.all (fun t => P.readableRec t && decide (t < P.types.size)) = true)
    (hW : DataW.Whole enc P f.params.toList s.vars apart W args.toList ds gs before)
    (hres : ∀ (b : Nat) (sp : Nat → Bool) (hd : Bool), DataW.TrodAll enc P W' b sp hd f.resultTypes.toList ((Value.bool true).resultList f.resultTypes.size) (s.fn H ds).results [])
    (hargs : (s.fn H ds).args = ds) (hvars : (s.fn H ds).vars = []) (hb : Below W.heap.size W W')
    (hok : ∀ (j : Nat) (t : TypeId) (r : Value), f.resultTypes[j]? = some t → ((Value.bool true).resultList f.resultTypes.size)[j]? = some r → Value.okWide P W' .any 0 t r) :
    s.post enc P f apart fresh handsOn again W args (.bool true) W' := by
  have hlt : ∀ p ∈ before, p.block < W.heap.size := fun p hp => hW.lt p hp
  have hW0 := hW
  obtain ⟨p, q, hA, hV, rfl, hz, hn⟩ := hW
  rw [hv] at hV
  obtain ⟨rfl, rfl⟩ := trodVars_none hV
  have hgs : ds ++ [] = ds := List.append_nil ds
  have hlt' : ∀ x ∈ p, x.block < W.heap.size := fun x hx => hlt x (by simp [hx])
  have A := fun (sp : Nat → Bool) (hsp : ∀ x ∈ p, sp x.block = true) => stays_all hl hb sp hts hA hlt' hsp
  refine ⟨ds, [], p ++ [], [], p, [], hW0, ?_, ?_, ?_, ?_, fun _ => ⟨hok, (s.fn H ds).results ++ ds, [], ([] ++ p) ++ [], ⟨[] ++ p, [], ?_, ?_, rfl, ?_, ?_⟩, ?_⟩⟩
  · rw [hgs]; exact hres _ _ _
  · rw [hgs, hargs]; exact A _ (fun x hx => by simpa using hlt' x hx)
  · rw [hv, hgs, hvars]; exact rfl
  · exact hb.frame _
  · exact trodAll_append (A _ (fun _ _ => rfl)) (hres _ _ _)
  · rw [hv]; exact rfl
  · intro b off hp
    rw [hb.frozen (hlt' _ (by simpa using hp))]
    exact hz b off (by simpa using hp)
  · intro ha
    simpa using hn ha
  · intro x hx _
    simpa using hx
end

/-! ### Arguments -/
/-- A cell of an argument, as the evaluator has it: a slice that is not read. -/
def absCell (sz i : Nat) : Value → Value
  | .slice (some _) n _ => .slice (some ⟨i, 0, none⟩) n (loose + sz)
  | v => v

def locOf (sz : Nat) : Value → Option Loc
  | .slice (some a) _ c => some ⟨a.block, a.off, a.off + c * sz⟩
  | _ => none

theorem absCell_rel {P : Program} {w : World} {r : Reach} {base : Nat} {t : TypeId} {sz i : Nat} {v : Value} {ι : Inj} (hι : ι i = locOf sz v) (h : Cell.okWide P w r base t v)
    (ht : match P.underlying t with | some .bool | some .string | some (.int _) | some (.slice _) => True | _ => False) : VRel ι (absCell sz i v) v := by
  unfold Cell.okWide at h
  cases hu : P.underlying t with
  | none => rw [hu] at ht; exact ht.elim
  | some d =>
    rw [hu] at ht h
    cases d <;> first | exact ht.elim | skip
    · cases v <;> simp_all [Cell.ok, absCell] <;> exact .bool _
    · rename_i k
      cases v <;> simp_all [Cell.ok, absCell] <;> exact .int _ _
    · cases v <;> simp_all [Cell.ok, absCell] <;> exact .string _
    · rename_i e
      cases v with
      | slice a n c =>
        cases a with
        | none =>
          have : n = 0 ∧ c = 0 := by
            simp only [Cell.ok, hu] at h
            cases n <;> cases c <;> simp_all
          obtain ⟨rfl, rfl⟩ := this
          exact .sl0
        | some a =>
          have hh : n ≤ c ∧ a.spot = none := by
            simp only [Cell.ok, hu] at h
            exact ⟨h.1, h.2.2.2.1⟩
          obtain ⟨b, o, sp⟩ := a
          obtain ⟨hn, rfl⟩ := hh
          exact .slL (L := ⟨b, o, o + c * sz⟩) 0 n sz c hι hn rfl
      | _ => simp_all [Cell.ok]
end Go.Ags
