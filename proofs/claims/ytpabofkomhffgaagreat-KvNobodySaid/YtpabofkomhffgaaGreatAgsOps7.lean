/- Each operation of the evaluator is what the machine does: ranging, pure operations, calls; all of them together. -/
import Derived.Test.YtpabofkomhffgaaGreatAgsOps6b
set_option linter.unusedVariables false
set_option linter.unusedSimpArgs false
namespace Go.Ags
section
variable {P : Program} {ι : Inj} {h : AH} {w : World}

theorem run_newObj (o : Obj) (w : World) : (newObj o).run P w = .ok w.heap.size (w.alloc o) := rfl

theorem aRange_sound {t : TypeId} {x x' v : Value} {h' : AH} (e : aRange P h t x = some (v, h')) (rx : VRel ι x x') (k : HRel ι h w) (hf : Free ι h h') :
    ∃ v' w' ι' δ, (Instr.range t x').run P w = .ok v' w' ∧ Did ι h w ι' h' w' δ ∧ VRel ι' v v' := by
  have fin : ∀ (o o' : Obj), h' = h.new o → ι h.next = none → ORel (upd ι h.next ⟨w.heap.size, 0, 0⟩) True ⟨w.heap.size, 0, 0⟩ o (some o') →
      ∃ v' w' ι' δ, (Result.ok (Value.pointer (some ⟨w.heap.size, 0, none⟩)) (w.alloc o')) = .ok v' w' ∧ Did ι h w ι' h' w' δ ∧ VRel ι' (.pointer (some ⟨h.next, 0, none⟩)) v' := by
    intro o o' hh hfr hr
    subst hh
    refine ⟨_, _, _, _, rfl, Did.new (o := o) (o' := o') 0 k hfr rfl ⟨rfl, rfl, rfl⟩ hr, ?_⟩
    simpa using VRel.ptr (ι := upd ι h.next ⟨w.heap.size, 0, 0⟩) (b := h.next) 0 (upd_same _ _ _)
  unfold aRange at e
  split at e
  · rename_i s hu
    cases e; cases rx
    obtain ⟨v', w', ι', δ, h1, h2⟩ := fin _ (.stringIter s 0) rfl (hf _ (Nat.le_refl _) (by simp)) ⟨rfl, rfl, rfl⟩
    exact ⟨v', w', ι', δ, by rw [← h1]; simp [Instr.range, run_und hu], h2⟩
  · rename_i hu
    cases e; cases rx
    obtain ⟨v', w', ι', δ, h1, h2⟩ := fin _ (.mapIter none 0 #[] 0) rfl (hf _ (Nat.le_refl _) (by simp)) ⟨rfl, trivial, rfl, rfl, rfl⟩
    exact ⟨v', w', ι', δ, by rw [← h1]; simp [Instr.range, run_und hu], h2⟩
  · rename_i kt el m hu
    split at e
    case h_2 => cases e
    rename_i es clock hb
    cases e
    obtain ⟨L, es', hL, hg, re⟩ := k.map hb
    cases rx with
    | map h1 =>
      rw [hL] at h1; cases h1
      have hfr := hf h.next (Nat.le_refl _) (by simp)
      obtain ⟨v', w', ι', δ, h1, h2⟩ := fin _ (.mapIter (some L.g) clock #[] clock) rfl hfr ⟨rfl, ⟨L, upd_ext _ hfr _ _ hL, rfl⟩, rfl, rfl, rfl⟩
      exact ⟨v', w', ι', δ, by rw [← h1]; simp [Instr.range, run_und hu, run_getMap hg], h2⟩
  · cases e

/-! ### Iterators -/
theorem ERel.filter {es es' : Array MapEntry} (r : ERel ι es es') (p : Nat → Bool) : ERel ι (es.filter fun e => p e.born) (es'.filter fun e => p e.born) := by
  have key : ∀ (l l' : List MapEntry), l.length = l'.length → (∀ (i : Nat) (e e' : MapEntry), l[i]? = some e → l'[i]? = some e' → VRel ι e.key e'.key ∧ VRel ι e.val e'.val ∧ e'.born = e.born) →
      (l.filter fun e => p e.born).length = (l'.filter fun e => p e.born).length ∧ ∀ (i : Nat) (e e' : MapEntry), (l.filter fun e => p e.born)[i]? = some e → (l'.filter fun e => p e.born)[i]? = some e' → VRel ι e.key e'.key ∧ VRel ι e.val e'.val ∧ e'.born = e.born := by
    intro l
    induction l with
    | nil => intro l' hl hp; cases l' with
      | nil => exact ⟨rfl, fun i e e' a => by simp at a⟩
      | cons a b => simp at hl
    | cons a l ih =>
      intro l' hl hp
      cases l' with
      | nil => simp at hl
      | cons a' l' =>
        simp at hl
        obtain ⟨r1, r2, r3⟩ := hp 0 a a' (by simp) (by simp)
        obtain ⟨i1, i2⟩ := ih l' hl (fun i e e' x y => hp (i + 1) e e' (by simpa using x) (by simpa using y))
        simp only [List.filter_cons, r3]
        split
        · refine ⟨by simp [i1], fun i e e' x y => ?_⟩
          cases i with
          | zero => simp at x y; subst x; subst y; exact ⟨r1, r2, r3⟩
          | succ i => exact i2 i e e' (by simpa using x) (by simpa using y)
        · exact ⟨i1, i2⟩
  obtain ⟨h1, h2⟩ := key es.toList es'.toList (by simpa using r.size) (fun i e e' a b => r.at_ i e e' (by simpa using a) (by simpa using b))
  refine ⟨by simpa [← Array.length_toList] using h1, fun i e e' a b => h2 i e e' ?_ ?_⟩
  · rw [show es.toList.filter (fun e => p e.born) = (es.filter fun e => p e.born).toList by simp, Array.getElem?_toList]; exact a
  · rw [show es'.toList.filter (fun e => p e.born) = (es'.filter fun e => p e.born).toList by simp, Array.getElem?_toList]; exact b

theorem ERel.all {es es' : Array MapEntry} (r : ERel ι es es') (p : Nat → Bool) : es'.all (fun e => p e.born) = es.all (fun e => p e.born) := by
  rw [Bool.eq_iff_iff, Array.all_eq_true, Array.all_eq_true]
  have hs := r.size
  constructor
  · intro hh i hi
    obtain ⟨e', h1, _, _, h2⟩ := r.get (Array.getElem?_eq_getElem hi)
    obtain ⟨hi', he⟩ := Array.getElem?_eq_some_iff.1 h1
    have := hh i hi'
    rw [he, h2] at this; exact this
  · intro hh i hi
    have hi2 : i < es.size := by omega
    obtain ⟨e', h1, _, _, h2⟩ := r.get (Array.getElem?_eq_getElem hi2)
    obtain ⟨hi', he⟩ := Array.getElem?_eq_some_iff.1 h1
    rw [he, h2]; exact hh i hi2

theorem HRel.iter (k : HRel ι h w) {b : Nat} {m : Option Nat} {a : Nat} {s : Array Nat} {c : Nat} (hb : h.get b = some (.mapIter m a s c)) :
    ∃ L m', ι b = some L ∧ L.base = 0 ∧ w.heap[L.g]? = some (.mapIter m' a s c) ∧ OptRel ι m m' := by
  obtain ⟨L, i, r⟩ := k.live _ _ hb
  unfold ORel at r
  split at r
  case h_4 heq1 heq2 =>
    cases heq1
    obtain ⟨r0, r1, r2, r3, r4⟩ := r; subst r2; subst r3; subst r4
    exact ⟨L, _, i, r0, heq2, r1⟩
  all_goals first | exact r.elim | (rename_i heq1 _; cases heq1)

theorem HRel.siter (k : HRel ι h w) {b : Nat} {s : ByteArray} {p : Nat} (hb : h.get b = some (.stringIter s p)) :
    ∃ L, ι b = some L ∧ L.base = 0 ∧ w.heap[L.g]? = some (.stringIter s p) := by
  obtain ⟨L, i, r⟩ := k.live _ _ hb
  unfold ORel at r
  split at r
  case h_3 heq1 heq2 =>
    cases heq1
    obtain ⟨r0, r1, r2⟩ := r; subst r1; subst r2
    exact ⟨L, i, r0, heq2⟩
  all_goals first | exact r.elim | (rename_i heq1 _; cases heq1)

theorem forced_one : (Question.mapNext 1).forced = true := rfl

theorem aNext_sound {it it' v : Value} {isS : Bool} {h' : AH} (e : aNext h it isS = some (v, h')) (ri : VRel ι it it') (k : HRel ι h w) (ty : TypeId) :
    ∃ v' w' δ, (Instr.next it' isS ty).run P w = .ok v' w' ∧ Did ι h w ι h' w' δ ∧ VRel ι v v' := by
  have over : VRel ι (.tuple #[.bool false]) (.tuple #[.bool false]) := .tuple' (by simpa using (ARel.empty ι).push (.bool false))
  unfold aNext at e
  split at e
  case h_2 => cases e
  rename_i r
  split at e
  case isFalse => cases e
  rename_i hro
  cases ri with
  | ptr _ hL =>
  rename_i L
  split at e
  · rename_i s pos hb
    obtain ⟨L', hL', hb0, hg⟩ := k.siter hb
    rw [hL] at hL'; cases hL'
    have hget : (getObj L.g).run P w = .ok (.stringIter s pos) w := by simp [getObj, Sem.run, hg]
    have hset : ∀ o, (setObj L.g o).run P w = .ok () (w.putObj L.g o) := fun o => by simp [setObj, Sem.run, hg, World.putObj]
    split at e
    · rename_i hp
      cases e
      refine ⟨.tuple #[.bool true, goInt pos, .int .i32 (Utf8.decode s pos).1], w.putObj L.g (.stringIter s (pos + (Utf8.decode s pos).2)), _, ?_, Did.put (o := .stringIter s (pos + (Utf8.decode s pos).2)) k hb hro hL rfl ⟨rfl, rfl, rfl⟩ ⟨hb0, rfl, rfl⟩, ?_⟩
      · simp [Instr.next, hb0, hget, hp, hset]
      · exact .tuple' (by simpa using (((ARel.empty ι).push (.bool true)).push (.goInt pos)).push (.int .i32 (Utf8.decode s pos).1))
    · rename_i hp
      cases e
      exact ⟨_, w, [], by simp [Instr.next, hb0, hget, hp], .refl k rfl (.refl w), over⟩
  · rename_i a b c hb
    obtain ⟨L', m', hL', hb0, hg, ro⟩ := k.iter hb
    rw [hL] at hL'; cases hL'
    cases e
    cases m' with
    | some g => exact ro.elim
    | none =>
      have hget : (getObj L.g).run P w = .ok (.mapIter none a b c) w := by simp [getObj, Sem.run, hg]
      exact ⟨_, w, [], by simp [Instr.next, hb0, hget], .refl k rfl (.refl w), over⟩
  · rename_i m since seen last hb
    obtain ⟨L', m', hL', hb0, hg, ro⟩ := k.iter hb
    rw [hL] at hL'; cases hL'
    cases m' with
    | none => exact ro.elim
    | some gm =>
    obtain ⟨Lm, hLm, hgm⟩ := ro
    subst hgm
    split at e
    case h_2 => cases e
    rename_i es clock hm
    obtain ⟨Lm', es', hLm', hgm, re⟩ := k.map hm
    rw [hLm] at hLm'; cases hLm'
    have hget : (getObj L.g).run P w = .ok (.mapIter (some Lm.g) since seen last) w := by simp [getObj, Sem.run, hg]
    have hset : ∀ o, (setObj L.g o).run P w = .ok () (w.putObj L.g o) := fun o => by simp [setObj, Sem.run, hg, World.putObj]
    by_cases hg1 : (!seen.isEmpty && !es.isEmpty && es.all (·.born ≥ last)) = true
    · rw [if_pos hg1] at e; cases e
    rw [if_neg hg1] at e
    have hg1' : ¬ (!seen.isEmpty && !es'.isEmpty && es'.all (·.born ≥ last)) = true := by
      have e1 : es'.isEmpty = es.isEmpty := by simp [Array.isEmpty, re.size]
      have e2 := re.all (fun b => decide (b ≥ last))
      rw [e1, e2]; exact hg1
    have rleft := re.filter (fun b => !seen.contains b)
    have rold := rleft.filter (fun b => decide (b < since))
    have rnew := rleft.filter (fun b => decide (b ≥ since))
    dsimp only at e
    split at e
    · rename_i h0
      split at e
      case isFalse => cases e
      rename_i h1
      cases e
      have s0 : (Array.filter (fun e => decide (e.born < since)) (Array.filter (fun e => !seen.contains e.born) es')) = #[] := by
        apply Array.eq_empty_of_size_eq_zero
        rw [← rold.size]
        simpa [Array.isEmpty] using h0
      have s1 : (Array.filter (fun e => decide (e.born ≥ since)) (Array.filter (fun e => !seen.contains e.born) es')) = #[] := by
        apply Array.eq_empty_of_size_eq_zero
        rw [← rnew.size]
        simpa [Array.isEmpty] using h1
      refine ⟨_, w, [], ?_, .refl k rfl (.refl w), over⟩
      unfold Instr.next
      simp only [hb0, Nat.add_zero, Sem.run_bind, hget, Result.andThen_ok, run_getMap hgm]
      rw [if_neg hg1']
      simp only [s0, s1]
      simp [forced_one]
    · rename_i h0
      split at e
      case isFalse => cases e
      rename_i h1
      split at e
      case h_2 => cases e
      rename_i x hx
      cases e
      obtain ⟨x', hx', rk, rv, rb⟩ := rold.get hx
      have hsz := rold.size
      have s0 : (Array.filter (fun e => decide (e.born < since)) (Array.filter (fun e => !seen.contains e.born) es')) = #[x'] := by
        apply Array.ext
        · rw [← hsz]; exact h1.1
        · intro i a1 a2
          simp at a2; subst a2
          obtain ⟨q1, q2⟩ := Array.getElem?_eq_some_iff.1 hx'
          simpa using q2
      have s1 : (Array.filter (fun e => decide (e.born ≥ since)) (Array.filter (fun e => !seen.contains e.born) es')) = #[] := by
        apply Array.eq_empty_of_size_eq_zero
        rw [← rnew.size]
        simpa [Array.isEmpty] using h1.2
      refine ⟨.tuple #[.bool true, x'.key, x'.val], w.putObj L.g (.mapIter (some Lm.g) since (seen.push x'.born) clock), _, ?_, Did.put (o := .mapIter (some m) since (seen.push x.born) clock) k hb hro hL rfl ⟨rfl, rfl, rfl⟩ ⟨hb0, ⟨Lm, hLm, rfl⟩, rfl, by rw [rb], rfl⟩, ?_⟩
      · unfold Instr.next
        simp only [hb0, Nat.add_zero, Sem.run_bind, hget, Result.andThen_ok, run_getMap hgm]
        rw [if_neg hg1']
        simp only [s0, s1]
        simp [forced_one, hset]
      · exact .tuple' (by simpa using (((ARel.empty ι).push (.bool true)).push rk).push rv)
  · cases e

theorem ERel.find {es es' : Array MapEntry} (r : ERel ι es es') (p : Nat → Bool) {e : MapEntry} (he : es.find? (fun e => p e.born) = some e) :
    ∃ e', es'.find? (fun e => p e.born) = some e' ∧ VRel ι e.key e'.key ∧ VRel ι e.val e'.val := by
  have key : ∀ l : Array MapEntry, l.find? (fun e => p e.born) = (l.filter fun e => p e.born)[0]? := by
    intro l
    rw [← Array.find?_toList, ← List.head?_filter, ← Array.toList_filter, ← Array.getElem?_toList, List.head?_eq_getElem?]
  rw [key] at he
  obtain ⟨e', h1, h2, h3, _⟩ := (r.filter p).get he
  exact ⟨e', by rw [key]; exact h1, h2, h3⟩

theorem aEntry_sound {it it' v : Value} (e : aEntry h it = some v) (ri : VRel ι it it') (k : HRel ι h w) : ∃ v', (Instr.entry it').run P w = .ok v' w ∧ VRel ι v v' := by
  unfold aEntry at e
  split at e
  case h_2 => cases e
  rename_i r
  cases ri with
  | ptr _ hL =>
  rename_i L
  split at e
  case h_2 => cases e
  rename_i m since seen stepped hb
  obtain ⟨L', m', hL', hb0, hg, ro⟩ := k.iter hb
  rw [hL] at hL'; cases hL'
  cases m' with
  | none => exact ro.elim
  | some gm =>
  obtain ⟨Lm, hLm, hgm⟩ := ro
  subst hgm
  split at e
  case h_2 => cases e
  rename_i stamp hst
  split at e
  case h_2 => cases e
  rename_i es clock hm
  obtain ⟨Lm', es', hLm', hgm, re⟩ := k.map hm
  rw [hLm] at hLm'; cases hLm'
  split at e
  case isFalse => cases e
  rename_i hcl
  subst hcl
  split at e
  case h_2 => cases e
  rename_i x hx
  cases e
  obtain ⟨x', hx', rk, rv⟩ := re.find (fun b => b == stamp) hx
  have hget : (getObj L.g).run P w = .ok (.mapIter (some Lm.g) since seen clock) w := by simp [getObj, Sem.run, hg]
  have hget2 : (getObj Lm.g).run P w = .ok (.map es' clock) w := by simp [getObj, Sem.run, hgm]
  refine ⟨.tuple #[x'.key, x'.val], ?_, .tuple' (by simpa using ((ARel.empty ι).push rk).push rv)⟩
  unfold Instr.entry
  simp [hb0, hget, hget2, hst, hx']
end
end Go.Ags
