/- The evaluator is sound: what it says of a call, the machine does. -/
import Derived.Test.YtpabofkomhffgaaGreatAgsTop
import Derived.RangeFuncLeaves
set_option linter.unusedVariables false
set_option linter.unusedSimpArgs false
namespace Go.Ags
section
variable {P : Program}

theorem aResult_sound {ι : Inj} {h : AH} {w : World} (k : HRel ι h w) {ts ts' : Array Value} (rt : ARel ι ts ts') {r : ResultVar} {v : Value} (e : aResult P ts h r = some v) :
    ∃ v', (match r with
      | .tmp t => pure (ts'.getD t undef)
      | .cell a t => do loadVar t (← asAddr (ts'.getD a undef)) : Sem Value).run P w = .ok v' w ∧ VRel ι v v' := by
  cases r with
  | tmp t =>
    simp only [aResult] at e; cases e
    exact ⟨_, by simp [Sem.run], rt.getD t .undef⟩
  | cell a t =>
    simp only [aResult] at e
    have ra := rt.getD (ι := ι) a .undef
    show ∃ v', (do loadVar t (← asAddr (ts'.getD a undef)) : Sem Value).run P w = .ok v' w ∧ VRel ι v v'
    generalize ts'.getD a undef = y at ra ⊢
    generalize ts.getD a undef = x at ra e
    unfold aLoad at e
    split at e
    · split at e
      · rename_i b o cs el fr hb
        obtain ⟨L, cs', e', fr', i, hg, r, _⟩ := k.cells hb
        cases ra with
        | ptr o i' =>
          rw [i] at i'; cases i'
          obtain ⟨v', hr, rr⟩ := loadVar_sound e r hg
          exact ⟨v', by simp [asAddr, hr], rr⟩
      · cases e
    · cases e

theorem aResults_list {ι : Inj} {h : AH} {w : World} (k : HRel ι h w) {ts ts' : Array Value} (rt : ARel ι ts ts') : ∀ {rs : List ResultVar} {vs : List Value}, rs.mapM (aResult P ts h) = some vs →
    ∃ vs', (rs.mapM (fun r => (match r with
      | .tmp t => pure (ts'.getD t undef)
      | .cell a t => do loadVar t (← asAddr (ts'.getD a undef)) : Sem Value)) : Sem (List Value)).run P w = .ok vs' w ∧ vs.length = vs'.length ∧ ∀ (i : Nat) (v v' : Value), vs[i]? = some v → vs'[i]? = some v' → VRel ι v v'
  | [], vs, e => by
    simp at e; subst e
    exact ⟨[], by simp [Sem.run], rfl, by simp⟩
  | r :: rs, vs, e => by
    rw [List.mapM_cons] at e
    cases h1 : aResult P ts h r with
    | none => rw [h1] at e; cases e
    | some v =>
      cases h2 : rs.mapM (aResult P ts h) with
      | none => rw [h1, h2] at e; cases e
      | some us =>
        rw [h1, h2] at e
        have e' : v :: us = vs := by simpa using e
        subst e'
        obtain ⟨v', hr, rv⟩ := aResult_sound k rt h1
        obtain ⟨us', hrs, hl, hp⟩ := aResults_list k rt h2
        refine ⟨v' :: us', ?_, by simp [hl], ?_⟩
        · rw [List.mapM_cons]
          simp only [Sem.run_bind, hr, hrs, Result.andThen, Sem.run_pure]
        · intro i a b ha hb
          cases i with
          | zero => simp at ha hb; subst ha; subst hb; exact rv
          | succ i => simp at ha hb; exact hp i a b ha hb

theorem aResults_sound {ι : Inj} {h : AH} {w : World} (k : HRel ι h w) {ts ts' : Array Value} (rt : ARel ι ts ts') {fn : Func} {vs : Array Value} (e : fn.results.mapM (aResult P ts h) = some vs) :
    ∃ v', (results fn ts').run P w = .ok v' w ∧ VRel ι (if hs : vs.size = 1 then vs[0] else .tuple vs) v' := by
  rw [Array.mapM_eq_mapM_toList] at e
  cases h2 : fn.results.toList.mapM (aResult P ts h) with
  | none => rw [h2] at e; cases e
  | some us =>
    rw [h2] at e
    have e' : us.toArray = vs := by simpa using e
    subst e'
    obtain ⟨us', hrs, hl, hp⟩ := aResults_list k rt h2
    refine ⟨if hs : us'.toArray.size = 1 then us'.toArray[0] else .tuple us'.toArray, ?_, ?_⟩
    · unfold results
      rw [Array.mapM_eq_mapM_toList]
      simp only [Sem.run_bind, Result.andThen, Sem.run_pure, Sem.run_map]
      erw [hrs]
    · by_cases hs : us.length = 1
      · have hs' : us'.length = 1 := by omega
        simp only [List.size_toArray, hs, hs', dite_true, List.getElem_toArray]
        exact hp 0 _ _ (by simp) (by simp)
      · have hs' : ¬ us'.length = 1 := by omega
        simp only [List.size_toArray, hs, hs', dite_false]
        exact .tuple' ⟨by simpa using hl, fun i a b ha hb => hp i a b (by simpa using ha) (by simpa using hb)⟩

section
variable {F : Fence} {n : Nat}

theorem leaves_sound {fn : Func} {ts ts' : Array Value} {R : Ending → World → Prop} : ∀ {ms : List Nat} {ds : List Deferred} {h h' : AH} {vs : Array Value} {ι : Inj} {w : World},
    aMarks ms h = some h' → fn.results.mapM (aResult P ts h') = some vs → ARel ι ts ts' → MRel ι ms ds → HRel ι h w → Free ι h h' →
    (∀ w' v' δ, Did ι h w ι h' w' δ → VRel ι (if hs : vs.size = 1 then vs[0] else .tuple vs) v' → R (.returned v') w') → LeavesInM F n P fn ts' R ds .returning w
  | [], ds, h, h', vs, ι, w, em, er, rt, rm, k, hf, hq => by
    simp only [aMarks] at em; cases em
    cases rm
    obtain ⟨v', hr, rv⟩ := aResults_sound k rt er
    exact ⟨v', hr, hq w v' [] (.refl k rfl (.refl w)) rv⟩
  | m :: ms, ds, h, h', vs, ι, w, em, er, rt, rm, k, hf, hq => by
    simp only [aMarks] at em
    split at em
    case h_2 => cases em
    rename_i hg
    split at em
    case isFalse => cases em
    rename_i hro
    cases rm with
    | @cons _ L _ ds hL rm =>
    obtain ⟨L', hL', hg'⟩ := k.deferred hg
    rw [hL] at hL'; cases hL'
    have d := Did.put' k hg hro hL (.deferred none) (.deferred none) trivial
    refine ⟨by simp, .inl ⟨L.g, _, rfl, run_takeDeferred hg', ?_⟩⟩
    exact leaves_sound em er rt rm d.c.rel (d.free2 hf) fun w' v' δ d2 rv => hq w' v' _ (d.trans hf d2) rv
end

theorem ARel.replicate {ι : Inj} (n : Nat) {v v' : Value} (h : VRel ι v v') : ARel ι (Array.replicate n v) (Array.replicate n v') := by
  refine ⟨by simp, fun i a b ha hb => ?_⟩
  rw [Array.getElem?_replicate] at ha hb
  split at ha
  · rename_i hi
    rw [if_pos hi] at hb
    cases ha; cases hb; exact h
  · cases ha

theorem entry_rel {ι : Inj} {args args' : Array Value} (r : ARel ι args args') (n : Nat) : ARel ι (args ++ Array.replicate (n - args.size) undef) (args' ++ Array.replicate (n - args'.size) undef) := by
  rw [r.size]
  exact r.append (ARel.replicate _ .undef)

theorem evFn_sound (G : ∀ (f : FuncId) (fn : Func), P.funcs[f]? = some fn → (fn.name == "runtime.NumGoroutine") = false) {R : Rec} (hR : RecSound P R) (hN : RecNext R) {fuel : Nat} {f : FuncId} {args : Array Value} {h : AH} {v : Value} {h' : AH} (e : evFn P R fuel f args h = some (v, h')) :
    (∃ fn c, P.funcs[f]? = some fn ∧ fn.body = some c ∧ (fn.name == "runtime.NumGoroutine") = false) ∧
    ∀ {ι : Inj} {w : World} {args' : Array Value}, ARel ι args args' → HRel ι h w → Free ι h h' → ∀ {F : Fence} {n : Nat}, FOk F → CallsIn F n P f args' w (Post ι h w h' v) := by
  unfold evFn at e
  split at e
  case h_2 => cases e
  rename_i fn hfn
  split at e
  case h_2 => cases e
  rename_i c hc
  refine ⟨⟨fn, c, hfn, hc, G f fn hfn⟩, ?_⟩
  intro ι w args' ra k hf F n hF
  have main : ∀ {x : Ex} {s : ES}, (x = .normal ∨ x = .ret) → evCode P R fuel false c { tmps := args ++ Array.replicate (fn.ntmps - args.size) undef, marks := [], h } = some (x, s) →
      (match aMarks s.marks s.h with
        | some h' => match fn.results.mapM (aResult P s.tmps h') with
          | some vs => some (if hs : vs.size = 1 then vs[0] else .tuple vs, h')
          | none => none
        | none => none) = some (v, h') → CallsIn F n P f args' w (Post ι h w h' v) := by
    intro x s hx e1 e2
    split at e2
    case h_2 => cases e2
    rename_i h1 hm
    split at e2
    case h_2 => cases e2
    rename_i vs hvs
    obtain ⟨rfl, rfl⟩ : (if hs : vs.size = 1 then vs[0] else .tuple vs) = v ∧ h1 = h' := by simpa using e2
    have hFp : FOk F.plain := ⟨hF.1, hF.2⟩
    have hle := Nat.le_of_eq (aMarks_next hm).symm
    have key : CallsIn F.plain n P f args' w (Post ι h w h1 (if hs : vs.size = 1 then vs[0] else .tuple vs)) := by
      refine callsIn_of_wp_marks hfn hc (hFp.1 f) ?_ rfl
      refine evCode_sound G hR hN hFp (fun _ => rfl) e1 (ι := ι) ⟨entry_rel ra _, .nil⟩ k (hf.of_le hle) ?_
      intro ι1 a1 w1 δ1 d1 r1
      have go : LeavesInM F.plain n P fn a1.tmps (Post ι h w h1 (if hs : vs.size = 1 then vs[0] else .tuple vs)) a1.defers .returning w1 :=
        leaves_sound hm hvs r1.tmps r1.marks d1.c.rel (d1.free2 hf) fun w' v' δ d2 rv => ⟨ι1, v', _, rfl, rv, d1.trans hf d2⟩
      rcases hx with rfl | rfl
      · exact go
      · exact go
    exact key
  split at e
  · rename_i s h1; exact main (.inl rfl) h1 e
  · rename_i s h1; exact main (.inr rfl) h1 e
  · cases e

theorem evRnd_sound (G : ∀ (f : FuncId) (fn : Func), P.funcs[f]? = some fn → (fn.name == "runtime.NumGoroutine") = false) {R : Rec} (hR : RecSound P R) (hN : RecNext R) {fuel : Nat} {l : Nat} {args : Array Value} {h : AH} {v : Value} {h' : AH} (e : evRnd P R fuel l args h = some (v, h')) :
    ∀ {ι : Inj} {w : World} {args' : Array Value} {L : Loc}, ι l = some L → ARel ι args args' → HRel ι h w → Free ι h h' →
      ∃ fn tmps assign body, (Instr.yield L.g args').run P w = .ok (.round L.g fn tmps assign body) w ∧
        ∀ {F : Fence} {n : Nat}, FOk F → RoundIn F n P L.g fn tmps assign body w (Post ι h w h' v) := by
  intro ι w args' L hL ra k hf
  have loopOf : ∀ {h : AH} {r : Loop}, aLoop h l = some r → h.get l = some (.loop r) := by
    intro h r hl
    unfold aLoop at hl
    split at hl
    · rename_i hq; cases hl; exact hq
    · cases hl
  unfold evRnd at e
  split at e
  case h_2 => cases e
  rename_i r hr
  split at e
  case isFalse => cases e
  rename_i hc
  obtain ⟨hsz, hro⟩ := hc
  split at e
  case h_2 => cases e
  rename_i s1 e1
  split at e
  case h_2 => cases e
  rename_i r1 hr1
  split at e
  case isFalse => cases e
  rename_i hst
  split at e
  case h_2 => cases e
  rename_i x s2 e2
  split at e
  case h_2 => cases e
  rename_i r2 hr2
  have hn1 : h.next ≤ s1.h.next := evCode_next hN e1
  have hn2 : s1.h.next ≤ s2.h.next := by simpa using evCode_next hN e2
  have hn3 : h'.next = s2.h.next := by
    split at e <;> (cases e; simp)
  obtain ⟨L0, r', hL0, hg, rl⟩ := k.loop (loopOf hr)
  rw [hL] at hL0; cases hL0
  refine ⟨r'.fn, _, r'.assign, r'.body, run_yield hg (by rw [← ra.size, hsz, rl.params]), ?_⟩
  intro F n hF
  refine roundIn_of_wpIn (hF.1 _) ?_
  have rz : ARel ι ((r.params.zip args).foldl (fun tmps (t, a) => tmps.setIfInBounds t a) r.tmps) ((r'.params.zip args').foldl (fun tmps (t, a) => tmps.setIfInBounds t a) r'.tmps) := by
    rw [rl.params]; exact zipfold_rel' _ ra rl.tmps
  rw [rl.assign]
  refine evCode_sound G hR hN (hF.inRound L.g) (by simp) e1 (ι := ι) ⟨rz, .nil⟩ k (hf.of_le (by omega)) ?_
  intro ι1 a1 w1 δ1 d1 q1
  have hf1 : Free ι h s1.h := hf.of_le (by omega)
  have hL1 : ι1 l = some L := d1.ext hf1 _ _ hL
  obtain ⟨L0, r1', hL0, hg1, rl1⟩ := d1.c.rel.loop (loopOf hr1)
  rw [hL1] at hL0; cases hL0
  have hst' : r1.state = .ready := by simpa using hst
  have dro1 : s1.h.ro ≤ l := by rw [d1.a.ro]; exact hro
  have d2 := Did.put' d1.c.rel (loopOf hr1) dro1 hL1 (.loop { r1 with state := .busy }) (.loop { r1' with state := .busy }) ⟨rfl, rl1.pending, rl1.params, rl1.assign, rl1.body, rl1.tmps⟩
  have d12 := d1.trans (hf.of_le (by simp; omega)) d2
  refine ⟨_, run_beginRound hg1 (by rw [rl1.state, hst']), ?_⟩
  rw [rl.body]
  refine evCode_sound G hR hN (hF.inRound L.g) (by simp) e2 (ι := ι1) ⟨q1.tmps, q1.marks⟩ d2.c.rel (d12.free2 (hf.of_le (by omega))) ?_
  intro ι2 a2 w2 δ2 d3 q2
  have hL2 : ι2 l = some L := d3.ext (d12.free2 (hf.of_le (by omega))) _ _ hL1
  have d123 := d12.trans (hf.of_le (by omega)) d3
  obtain ⟨L0, r2', hL0, hg2, rl2⟩ := d3.c.rel.loop (loopOf hr2)
  rw [hL2] at hL0; cases hL0
  have dro2 : s2.h.ro ≤ l := by rw [d123.a.ro]; exact hro
  split at e
  · cases e
    have d4 := Did.put' d3.c.rel (loopOf hr2) dro2 hL2 (.loop { r2 with state := .ready, pending := none }) (.loop { r2' with state := .ready, pending := none }) ⟨rfl, rfl, rl2.params, rl2.assign, rl2.body, rl2.tmps⟩
    refine ⟨_, _, run_endRound none hg2, ?_⟩
    exact ⟨ι2, _, _, rfl, .bool true, d123.trans hf d4⟩
  · cases e
    have d4 := Did.put' d3.c.rel (loopOf hr2) dro2 hL2 (.loop { r2 with state := .done, pending := some .ret }) (.loop { r2' with state := .done, pending := some .ret }) ⟨rfl, rfl, rl2.params, rl2.assign, rl2.body, rl2.tmps⟩
    refine ⟨_, _, run_endRound (some .ret) hg2, ?_⟩
    exact ⟨ι2, _, _, rfl, .bool false, d123.trans hf d4⟩
  · rename_i id
    cases e
    have d4 := Did.put' d3.c.rel (loopOf hr2) dro2 hL2 (.loop { r2 with state := .done, pending := some (.exit id) }) (.loop { r2' with state := .done, pending := some (.exit id) }) ⟨rfl, rfl, rl2.params, rl2.assign, rl2.body, rl2.tmps⟩
    refine ⟨_, _, run_endRound (some (.exit id)) hg2, ?_⟩
    exact ⟨ι2, _, _, rfl, .bool false, d123.trans hf d4⟩

theorem ev_sound (G : ∀ (f : FuncId) (fn : Func), P.funcs[f]? = some fn → (fn.name == "runtime.NumGoroutine") = false) : ∀ n, RecSound P (ev P n)
  | 0 => ⟨fun e => by simp [ev] at e, fun e => by simp [ev] at e⟩
  | n + 1 => ⟨fun e => evFn_sound G (ev_sound G n) (ev_next n) e, fun e => evRnd_sound G (ev_sound G n) (ev_next n) e⟩

/-- A closed call: no block before it is touched. -/
theorem ev_calls (G : ∀ (f : FuncId) (fn : Func), P.funcs[f]? = some fn → (fn.name == "runtime.NumGoroutine") = false) {n : Nat} {f : FuncId} {args args' : Array Value} {h h' : AH} {v : Value} {ι : Inj} {w : World}
    (e : (ev P n).call f args h = some (v, h')) (ra : ARel ι args args') (k : HRel ι h w) (hf : Free ι h h') : Calls P f args' w (Post ι h w h' v) :=
  callsIn_wide.1 (((ev_sound G n).call e).2 ra k hf (n := 0) ⟨fun _ => trivial, rfl⟩)
end
end Go.Ags
