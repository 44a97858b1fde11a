/- What the evaluator says of a call is what the machine does, on every tape, in every memory. -/
import Derived.Test.YtpabofkomhffgaaGreatAgsSeq
import Derived.LoopNIn
set_option linter.unusedVariables false
set_option linter.unusedSimpArgs false
namespace Go.Ags
section
variable {P : Program}

def toExit : Ex → Exit
  | .normal => .normal
  | .exit id => .exit id
  | .ret => .ret

theorem HRel.loop {ι : Inj} {h : AH} {w : World} (k : HRel ι h w) {b : Nat} {r : Loop} (hb : h.get b = some (.loop r)) :
    ∃ L r', ι b = some L ∧ w.heap[L.g]? = some (.loop r') ∧ LoopRel ι r r' := by
  obtain ⟨L, i, o⟩ := k.live _ _ hb
  unfold ORel at o
  split at o
  case h_5 heq1 heq2 =>
    cases heq1
    exact ⟨L, _, i, heq2, o⟩
  all_goals first | exact o.elim | (rename_i heq1 _; cases heq1)

theorem HRel.deferred {ι : Inj} {h : AH} {w : World} (k : HRel ι h w) {b : Nat} (hb : h.get b = some (.deferred (some []))) :
    ∃ L, ι b = some L ∧ w.heap[L.g]? = some (.deferred (some [])) := by
  obtain ⟨L, i, o⟩ := k.live _ _ hb
  unfold ORel at o
  split at o
  case h_6 heq1 heq2 => exact ⟨L, i, heq2⟩
  all_goals first | exact o.elim | (rename_i heq1 _; cases heq1)

theorem zipfold_rel {ι : Inj} {x x' : Array Value} (r : ARel ι x x') : ∀ (ps : List Tmp) (ts ts' : Array Value) (l l' : List Value), l.length = l'.length → (∀ (i : Nat) (v v' : Value), l[i]? = some v → l'[i]? = some v' → VRel ι v v') → ARel ι ts ts' →
    ARel ι ((ps.zip l).foldl (fun tmps (p : Tmp × Value) => tmps.setIfInBounds p.1 p.2) ts) ((ps.zip l').foldl (fun tmps (p : Tmp × Value) => tmps.setIfInBounds p.1 p.2) ts')
  | [], ts, ts', l, l', _, _, rt => by simpa using rt
  | p :: ps, ts, ts', [], l', hl, _, rt => by
    cases l' with
    | nil => simpa using rt
    | cons a b => simp at hl
  | p :: ps, ts, ts', v :: l, l', hl, hp, rt => by
    cases l' with
    | nil => simp at hl
    | cons v' l' =>
      simp only [List.zip_cons_cons, List.foldl_cons]
      exact zipfold_rel r ps _ _ l l' (by simpa using hl) (fun i a b h1 h2 => hp (i + 1) a b (by simpa using h1) (by simpa using h2)) (rt.set _ (hp 0 v v' (by simp) (by simp)))

theorem zipfold_rel' {ι : Inj} {x x' ts ts' : Array Value} (ps : Array Tmp) (r : ARel ι x x') (rt : ARel ι ts ts') :
    ARel ι ((ps.zip x).foldl (fun tmps (t, a) => tmps.setIfInBounds t a) ts) ((ps.zip x').foldl (fun tmps (t, a) => tmps.setIfInBounds t a) ts') := by
  rw [← Array.foldl_toList, ← Array.foldl_toList, Array.toList_zip, Array.toList_zip]
  exact zipfold_rel r ps.toList ts ts' x.toList x'.toList (by simpa using r.size) (fun i v v' h1 h2 => r.at_ i v v' (by simpa using h1) (by simpa using h2)) rt

theorem FOk.inRound {F : Fence} (h : FOk F) (l : Nat) : FOk (F.inRound l) := ⟨h.1, h.2⟩

/-- A block for itself is changed: the loop's record, the mark's. -/
theorem Did.put' {ι : Inj} {h : AH} {w : World} {b : Nat} {L : Loc} {o0 : Obj} (k : HRel ι h w) (hb : h.get b = some o0) (hro : h.ro ≤ b) (hL : ι b = some L) (o o' : Obj) (hr : ORel ι (h.ro ≤ b) L o (some o')) :
    Did ι h w ι (h.put b (some o)) (w.putObj L.g o') [b] := Did.put k hb hro hL rfl ⟨rfl, rfl, rfl⟩ hr

section
variable {F : Fence} {n : Nat}

theorem roundsIn_of {f : ES → Option (Ex × ES)} {c : Code} {Q : Exit → Act → World → Prop}
    (hn : ∀ {s s' : ES} {x : Ex}, f s = some (x, s') → s.h.next ≤ s'.h.next)
    (hf : ∀ {s s' : ES} {x : Ex} {ι : Inj} {w : World} {a : Act} {Q : Exit → Act → World → Prop}, f s = some (x, s') → SRel ι s a → HRel ι s.h w → Free ι s.h s'.h →
      (∀ ι' a' w' δ, Did ι s.h w ι' s'.h w' δ → SRel ι' s' a' → Q (toExit x) a' w') → c.wpIn F n P Q a w) :
    ∀ (k : Nat) {s s' : ES} {x : Ex} {ι : Inj} {w : World} {a : Act}, iter f k s = some (x, s') → SRel ι s a → HRel ι s.h w → Free ι s.h s'.h →
      (∀ ι' a' w' δ, Did ι s.h w ι' s'.h w' δ → SRel ι' s' a' → Q (toExit x) a' w') → (∃ m, Code.roundsIn F n P c Q m a w)
  | 0, s, s', x, ι, w, a, e, _, _, _, _ => by simp only [iter] at e; cases e
  | k + 1, s, s', x, ι, w, a, e, rs, kh, hfree, hq => by
    simp only [iter] at e
    split at e
    · rename_i s1 h1
      have hle := iter_next hn e
      refine ⟨k + 1, ?_⟩
      refine hf h1 rs kh (hfree.of_le hle) ?_
      intro ι1 a1 w1 δ1 hd r1
      have : ∀ (k : Nat) {s s' : ES} {x : Ex} {ι : Inj} {w : World} {a : Act}, iter f k s = some (x, s') → SRel ι s a → HRel ι s.h w → Free ι s.h s'.h →
          (∀ ι' a' w' δ, Did ι s.h w ι' s'.h w' δ → SRel ι' s' a' → Q (toExit x) a' w') → Code.roundsIn F n P c Q k a w := by
        intro k
        induction k with
        | zero => intro s s' x ι w a e _ _ _ _; simp only [iter] at e; cases e
        | succ k ih =>
          intro s s' x ι w a e rs kh hfree hq
          simp only [iter] at e
          split at e
          · rename_i s1 h1
            have hle := iter_next hn e
            refine hf h1 rs kh (hfree.of_le hle) ?_
            intro ι1 a1 w1 δ1 hd r1
            exact ih e r1 hd.c.rel (hd.free2 hfree) fun ι2 a2 w2 δ2 hd2 r2 => hq ι2 a2 w2 _ (hd.trans hfree hd2) r2
          · rename_i hne
            refine hf e rs kh hfree ?_
            intro ι1 a1 w1 δ1 hd r1
            have := hq ι1 a1 w1 δ1 hd r1
            cases x with
            | normal => exact absurd e (hne _)
            | exit id => exact this
            | ret => exact this
      exact this k e r1 hd.c.rel (hd.free2 hfree) fun ι2 a2 w2 δ2 hd2 r2 => hq ι2 a2 w2 _ (hd.trans hfree hd2) r2
    · rename_i hne
      refine ⟨1, hf e rs kh hfree ?_⟩
      intro ι1 a1 w1 δ1 hd r1
      have := hq ι1 a1 w1 δ1 hd r1
      cases x with
      | normal => exact absurd e (hne _)
      | exit id => exact this
      | ret => exact this

set_option maxHeartbeats 600000 in
theorem rangeFunc_sound (G : ∀ (f : FuncId) (fn : Func), P.funcs[f]? = some fn → (fn.name == "runtime.NumGoroutine") = false) {R : Rec} (hR : RecSound P R) (hN : RecNext R) (hF : FOk F) {fuel : Nat} {b : Bool} (hb : b = false → F.round = none)
    {g : Tmp} {params : Array Tmp} {assign body : Code} {s s' : ES} {x : Ex} {ι : Inj} {w : World} {a : Act} {Q : Exit → Act → World → Prop} (e : evCode P R fuel b (.rangeFunc (.tmp g) params assign body) s = some (x, s')) (rs : SRel ι s a) (k : HRel ι s.h w) (hf : Free ι s.h s'.h)
    (hq : ∀ ι' a' w' δ, Did ι s.h w ι' s'.h w' δ → SRel ι' s' a' → Q (toExit x) a' w') : (Code.rangeFunc (.tmp g) params assign body).wpIn F n P Q a w := by
  simp only [evCode] at e
  split at e
  case isTrue => cases e
  rename_i hbf
  have hro := hb (by simpa using hbf)
  split at e
  case h_2 => cases e
  rename_i gf first captured hg
  split at e
  case h_2 => cases e
  rename_i v2 h2 hcall
  split at e
  case h_2 => cases e
  rename_i r hl
  split at e
  case isFalse => cases e
  rename_i hc
  obtain ⟨hro2, hbusy⟩ := hc
  have hs' : s' = afterLoop s h2 r := by
    (repeat' split at e) <;> first | (cases e; done) | (cases e; rfl)
  have hle := hN.call hcall
  simp [loopHeap] at hle
  have hf' : Free ι s.h h2 := by rw [hs'] at hf; exact hf
  -- the two blocks of the statement
  have f0 : ι s.h.next = none := hf' _ (Nat.le_refl _) (by omega)
  have d1 := Did.new (w' := w.alloc (.deferred (some []))) (o := .deferred (some [])) (o' := .deferred (some [])) 0 k f0 rfl ⟨rfl, rfl, rfl⟩ trivial
  have hfA : Free (upd ι s.h.next ⟨w.heap.size, 0, 0⟩) (s.h.new (.deferred (some []))) h2 := d1.free2 hf'
  have f1 : (upd ι s.h.next ⟨w.heap.size, 0, 0⟩) (s.h.new (.deferred (some []))).next = none := hfA _ (Nat.le_refl _) (by simp; omega)
  have d2 : ∀ fn : FuncId, Did (upd ι s.h.next ⟨w.heap.size, 0, 0⟩) (s.h.new (.deferred (some []))) (w.alloc (.deferred (some []))) (upd (upd ι s.h.next ⟨w.heap.size, 0, 0⟩) (s.h.new (.deferred (some []))).next ⟨(w.alloc (.deferred (some []))).heap.size, 0, 0⟩)
      (loopHeap s params assign body) ((w.alloc (.deferred (some []))).alloc (.loop { state := .ready, pending := none, fn, tmps := a.tmps, params, assign, body, defers := w.heap.size })) [(s.h.new (.deferred (some []))).next] := fun fn =>
    Did.new (o := .loop { state := .ready, pending := none, fn := 0, tmps := s.tmps, params, assign, body, defers := s.h.next }) (o' := .loop { state := .ready, pending := none, fn, tmps := a.tmps, params, assign, body, defers := w.heap.size }) 0 d1.c.rel f1 rfl ⟨rfl, rfl, rfl⟩
      ⟨rfl, rfl, rfl, rfl, rfl, (rs.tmps.mono (upd_ext _ f0)).mono (upd_ext _ f1)⟩
  have d12 := fun fn => d1.trans (hf'.of_le (by simp [loopHeap]; omega)) (d2 fn)
  generalize hι2 : upd (upd ι s.h.next ⟨w.heap.size, 0, 0⟩) (s.h.new (.deferred (some []))).next ⟨(w.alloc (.deferred (some []))).heap.size, 0, 0⟩ = ι2 at d12
  have hL : ι2 (s.h.next + 1) = some ⟨w.heap.size + 1, 0, 0⟩ := by rw [← hι2]; simp
  have hM : ι2 s.h.next = some ⟨w.heap.size, 0, 0⟩ := by
    rw [← hι2, upd_ne _ _ (by simp)]; exact upd_same _ _ _
  have hx2 : Ext ι ι2 := (d12 0).ext (hf'.of_le (by simp [loopHeap]; omega))
  -- the function that is ranged over
  have rg := rs.tmps.getD (ι := ι) g .undef
  rw [hg] at rg
  generalize hcc : a.tmps.getD g undef = cc at rg
  cases rg with
  | func hfn hx hxs hc hcs =>
  rename_i fn' first' captured'
  cases hfn
  obtain ⟨⟨fnn, cd, hfu, hbd, hnm⟩, hcalls⟩ := hR.call hcall
  have rargs : ARel ι2 (first ++ #[.func (.yield (s.h.next + 1)) #[] #[]] ++ captured) (first' ++ #[.func (.yield (w.heap.size + 1)) #[] #[]] ++ captured') := by
    refine ((ARel.mono hx2 ⟨hx, hxs⟩).append ?_).append (ARel.mono hx2 ⟨hc, hcs⟩)
    exact (ARel.empty ι2).push (.func' (.yield hL) (.empty _) (.empty _))
  have hev : a.eval (.tmp g) = .func (.func gf) first' captured' := hcc
  refine wpIn_rangeFunc fun fn _ => ?_
  rw [hro]
  have D12 := d12 fn
  clear d12 d2
  obtain ⟨W1, hW1⟩ : ∃ W1, (w.alloc (.deferred (some []))).alloc (.loop { state := .ready, pending := none, fn, tmps := a.tmps, params, assign, body, defers := w.heap.size }) = W1 := ⟨_, rfl⟩
  have hen : (Instr.enterLoop fn a.tmps params assign body none).run P w = .ok (w.heap.size + 1, [{ target := .collected w.heap.size, args := #[] }]) W1 := by
    rw [← hW1]; exact run_enterLoop_outer fn a.tmps params assign body
  rw [hW1] at D12
  have hcl : ∀ m, CallsIn F m P gf (first' ++ #[.func (.yield (w.heap.size + 1)) #[] #[]] ++ captured') W1 (Post ι2 (loopHeap s params assign body) W1 h2 v2) := fun m => hcalls rargs D12.c.rel (D12.free2 hf') hF
  refine ⟨w.heap.size + 1, [{ target := .collected w.heap.size, args := #[] }], W1, { target := .fn (.func gf) captured', args := first' ++ #[.func (.yield (w.heap.size + 1)) #[] #[]] }, W1, gf, first' ++ #[.func (.yield (w.heap.size + 1)) #[] #[]] ++ captured', W1,
    hen, ?_, fun f' _ => hF.1 f', ?_, fun q => by rw [hF.2] at q; simp at q, ?_⟩
  · simp only [resolve, hev]
    simp [go_sem]
  · simp [invoke, run_callFunc hfu hbd hnm]
  · refine CallsIn.mono (hcl _) ?_
    intro en w3 hp
    obtain ⟨ι3, v3, δ3, rfl, _, d3⟩ := hp
    have dall := D12.trans hf' d3
    have hx3 : Ext ι2 ι3 := d3.ext (D12.free2 hf')
    have hl2 : h2.get (s.h.next + 1) = some (.loop r) := by
      unfold aLoop at hl
      split at hl
      · rename_i hq; cases hl; exact hq
      · cases hl
    obtain ⟨L, r', hL3, hg3, rl⟩ := d3.c.rel.loop hl2
    rw [hx3 _ _ hL] at hL3; cases hL3
    have hend := run_endLoop (P := P) (l := w.heap.size + 1) hg3 (by rw [rl.state]; exact hbusy)
    obtain ⟨W4, hW4⟩ : ∃ W4, w3.putObj (w.heap.size + 1) (.loop { r' with state := .exhausted }) = W4 := ⟨_, rfl⟩
    rw [hW4] at hend
    refine ⟨r'.pending, W4, hend, ?_⟩
    have d4 := Did.put' d3.c.rel hl2 hro2 (hx3 _ _ hL) (.loop { r with state := .exhausted }) (.loop { r' with state := .exhausted }) ⟨rfl, rl.pending, rl.params, rl.assign, rl.body, rl.tmps⟩
    have dfin := dall.trans (by rw [hs'] at hf; exact hf) d4
    simp only [hW4] at dfin
    have srel : SRel ι3 (afterLoop s h2 r) { a with defers := [{ target := .collected w.heap.size, args := #[] }] ++ a.defers } :=
      ⟨(rs.tmps.mono hx2).mono hx3, .cons (L := ⟨w.heap.size, 0, 0⟩) (hx3 _ _ hM) ((rs.marks.mono hx2).mono hx3)⟩
    rw [rl.pending]
    have go := fun x0 (hx0 : x0 = x) => hq ι3 { a with defers := [{ target := .collected w.heap.size, args := #[] }] ++ a.defers } _ _ (by rw [hs']; exact dfin) (by rw [hs']; exact srel)
    split at e
    · rename_i hp; cases e; rw [hp]; exact go _ rfl
    · rename_i hp; cases e; rw [hp]; exact wpIn_ret (go _ rfl)
    · rename_i id hp; cases e; rw [hp]; exact wpIn_exit (go _ rfl)
    · cases e

theorem evCode_sound (G : ∀ (f : FuncId) (fn : Func), P.funcs[f]? = some fn → (fn.name == "runtime.NumGoroutine") = false) {R : Rec} (hR : RecSound P R) (hN : RecNext R) (hF : FOk F) {fuel : Nat} {b : Bool} (hb : b = false → F.round = none) :
    ∀ {c : Code} {s s' : ES} {x : Ex} {ι : Inj} {w : World} {a : Act} {Q : Exit → Act → World → Prop}, evCode P R fuel b c s = some (x, s') → SRel ι s a → HRel ι s.h w → Free ι s.h s'.h →
      (∀ ι' a' w' δ, Did ι s.h w ι' s'.h w' δ → SRel ι' s' a' → Q (toExit x) a' w') → c.wpIn F n P Q a w
  | .skip, s, s', x, ι, w, a, Q, e, rs, k, hf, hq => by
    simp only [evCode] at e; cases e
    exact wpIn_skip (hq ι a w [] (.refl k rfl (.refl w)) rs)
  | .label l, s, s', x, ι, w, a, Q, e, rs, k, hf, hq => by
    simp only [evCode] at e; cases e
    exact wpIn_label (hq ι a w [] (.refl k rfl (.refl w)) rs)
  | .ret, s, s', x, ι, w, a, Q, e, rs, k, hf, hq => by
    simp only [evCode] at e; cases e
    exact wpIn_ret (hq ι a w [] (.refl k rfl (.refl w)) rs)
  | .exit id, s, s', x, ι, w, a, Q, e, rs, k, hf, hq => by
    simp only [evCode] at e; cases e
    exact wpIn_exit (hq ι a w [] (.refl k rfl (.refl w)) rs)
  | .region id ops draw, s, s', x, ι, w, a, Q, e, rs, k, hf, hq => by
    simp only [evCode] at e
    split at e
    case h_2 => cases e
    rename_i ts h he
    cases e
    exact evRegion_sound G hR hN hF he rs.tmps k hf fun ι' a' w' δ hd rt hdef => hq ι' a' w' δ hd ⟨rt, by rw [hdef]; exact rs.marks.mono (hd.ext hf)⟩
  | .seq p q, s, s', x, ι, w, a, Q, e, rs, k, hf, hq => by
    simp only [evCode] at e
    split at e
    · rename_i s1 h1
      have hle := evCode_next hN e
      refine wpIn_seq (evCode_sound G hR hN hF hb h1 rs k (hf.of_le hle) fun ι1 a1 w1 δ1 hd r1 => ?_)
      exact evCode_sound G hR hN hF hb e r1 hd.c.rel (hd.free2 hf) fun ι2 a2 w2 δ2 hd2 r2 => hq ι2 a2 w2 _ (hd.trans hf hd2) r2
    · rename_i hne
      refine wpIn_seq (evCode_sound G hR hN hF hb e rs k hf fun ι1 a1 w1 δ1 hd r1 => ?_)
      have := hq ι1 a1 w1 δ1 hd r1
      cases x with
      | normal => exact absurd e (hne _)
      | exit id => exact this
      | ret => exact this
  | .cond c p q, s, s', x, ι, w, a, Q, e, rs, k, hf, hq => by
    have rc : ∀ t, (∀ g, c ≠ .global g) → evalIn s.tmps c = .bool t → a.eval c = .bool t := by
      intro t hng ht
      cases c with
      | global g => exact absurd rfl (hng g)
      | tmp y =>
        have := rs.tmps.getD (ι := ι) y .undef
        simp only [evalIn] at ht
        rw [ht] at this
        generalize hz : a.tmps.getD y undef = z at this
        cases this
        simpa [Act.eval] using hz
      | const v => simpa [evalIn, Act.eval] using ht
      | func f => simp [evalIn] at ht
    have fin : (∀ g, c ≠ .global g) → (match evalIn s.tmps c with | .bool true => evCode P R fuel b p s | .bool false => evCode P R fuel b q s | _ => none) = some (x, s') → (Code.cond c p q).wpIn F n P Q a w := by
      intro hng e
      split at e
      · rename_i hc
        exact wpIn_cond_true (rc _ hng hc) (evCode_sound G hR hN hF hb e rs k hf hq)
      · rename_i hc
        exact wpIn_cond_false (rc _ hng hc) (evCode_sound G hR hN hF hb e rs k hf hq)
      · cases e
    cases c with
    | global g => simp only [evCode] at e; cases e
    | tmp y => simp only [evCode] at e; exact fin (by simp) e
    | const v => simp only [evCode] at e; exact fin (by simp) e
    | func f => simp only [evCode] at e; exact fin (by simp) e
  | .block id c, s, s', x, ι, w, a, Q, e, rs, k, hf, hq => by
    simp only [evCode] at e
    split at e
    · rename_i i s1 h1
      split at e
      · rename_i hi
        cases e
        refine wpIn_block (evCode_sound G hR hN hF hb h1 rs k hf fun ι1 a1 w1 δ1 hd r1 => ?_)
        have := hq ι1 a1 w1 δ1 hd r1
        simp only [toExit, Exit.inBlock, hi, if_true]; exact this
      · rename_i hi
        cases e
        refine wpIn_block (evCode_sound G hR hN hF hb h1 rs k hf fun ι1 a1 w1 δ1 hd r1 => ?_)
        have := hq ι1 a1 w1 δ1 hd r1
        simp only [toExit, Exit.inBlock, hi, if_false]; exact this
    · rename_i hne
      refine wpIn_block (evCode_sound G hR hN hF hb e rs k hf fun ι1 a1 w1 δ1 hd r1 => ?_)
      have := hq ι1 a1 w1 δ1 hd r1
      cases x with
      | normal => exact this
      | exit id => exact absurd e (hne _ _)
      | ret => exact this
  | .loop c, s, s', x, ι, w, a, Q, e, rs, k, hf, hq => by
    simp only [evCode] at e
    obtain ⟨m, hm⟩ := roundsIn_of (P := P) (F := F) (n := n) (c := c) (Q := Q) (f := evCode P R fuel b c) (fun h => evCode_next hN h)
      (fun h1 h2 h3 h4 h5 => evCode_sound G hR hN hF hb h1 h2 h3 h4 h5) fuel e rs k hf hq
    exact wpIn_loop_rounds m hm
  | .rangeFunc (.tmp g) params assign body, s, s', x, ι, w, a, Q, e, rs, k, hf, hq => rangeFunc_sound G hR hN hF hb e rs k hf hq
  | .rangeFunc (.const _) _ _ _, _, _, _, _, _, _, _, e, _, _, _, _ => by simp only [evCode] at e; cases e
  | .rangeFunc (.global _) _ _ _, _, _, _, _, _, _, _, e, _, _, _, _ => by simp only [evCode] at e; cases e
  | .rangeFunc (.func _) _ _ _, _, _, _, _, _, _, _, e, _, _, _, _ => by simp only [evCode] at e; cases e
  | .scope _, _, _, _, _, _, _, _, e, _, _, _, _ => by simp only [evCode] at e; cases e
  | .goto _, _, _, _, _, _, _, _, e, _, _, _, _ => by simp only [evCode] at e; cases e
  | .refuse _, _, _, _, _, _, _, _, e, _, _, _, _ => by simp only [evCode] at e; cases e
end
end
end Go.Ags
