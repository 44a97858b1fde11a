/- An operation that looks into certain blocks alone does the same in a heap of just these. -/
import Derived.Test.YtpabofkomhffgaaGreatAgsStep0
set_option linter.unusedVariables false
set_option linter.unusedSimpArgs false
namespace Go.Ags
section
variable {P : Program} {R : Rec} {ρ : Operand → Value}

theorem only_get (h : AH) (bs : List Nat) (b : Nat) : (h.only (some bs)).get b = if b ∈ bs then h.get b else none := by
  have key : ∀ (l : List Nat) (t : T), (l.foldl (fun t c => t.set c (h.get c)) t).get b = if b ∈ l then h.get b else t.get b := by
    intro l
    induction l with
    | nil => intro t; simp
    | cons c l ih =>
      intro t
      rw [List.foldl_cons, ih, T.get_set]
      by_cases hc : b = c
      · subst hc; simp
      · by_cases hl : b ∈ l <;> simp [hc, hl]
  have := key bs .leaf
  show (bs.foldl (fun t c => t.set c (h.get c)) T.leaf).get b = _
  rw [this]
  simp [T.get]
theorem only_next' (h : AH) (bs : List Nat) : (h.only (some bs)).next = h.next := rfl
theorem only_ro' (h : AH) (bs : List Nat) : (h.only (some bs)).ro = h.ro := rfl
theorem only_log' (h : AH) (bs : List Nat) : (h.only (some bs)).log = [] := rfl

/-- What one heap answers the other one answers, and the same blocks are as they are. -/
def Loc2 (h h1 : AH) (r r1 : Option (Value × AH)) : Prop :=
  ∀ v h', r = some (v, h') → ∃ h'' δ, r1 = some (v, h'') ∧ h'.log = δ ++ h.log ∧ h''.log = δ ++ h1.log ∧ h''.next = h'.next ∧ ∀ b, b ∈ δ → h''.get b = h'.get b

theorem Loc2.none {h h1 : AH} {r1 : Option (Value × AH)} : Loc2 h h1 none r1 := fun v h' e => by cases e
theorem Loc2.same {h h1 : AH} (hn : h1.next = h.next) (v : Value) : Loc2 h h1 (some (v, h)) (some (v, h1)) := fun v h' e => by
  cases e; exact ⟨h1, [], rfl, rfl, rfl, hn, fun b hb => by simp at hb⟩
theorem Loc2.with' {h h1 : AH} (hn : h1.next = h.next) (x : Option Value) : Loc2 h h1 (withH h x) (withH h1 x) := by
  cases x with
  | none => exact .none
  | some v => exact .same hn v
theorem Loc2.new {h h1 : AH} (hn : h1.next = h.next) (v : Value) (o : Obj) : Loc2 h h1 (some (v, h.new o)) (some (v, h1.new o)) := fun v h' e => by
  cases e
  exact ⟨_, [h.next], rfl, rfl, by simp [hn], by simp [hn], fun b hb => by simp at hb; subst hb; simp [hn]⟩
theorem Loc2.put {h h1 : AH} (hn : h1.next = h.next) (v : Value) (b : Nat) (o : Option Obj) : Loc2 h h1 (some (v, h.put b o)) (some (v, h1.put b o)) := fun v h' e => by
  cases e
  exact ⟨_, [b], rfl, rfl, rfl, hn, fun c hb => by simp at hb; subst hb; simp⟩

theorem Loc2.write {h h1 : AH} (hn : h1.next = h.next) (hr : h1.ro = h.ro) (b : Nat) (hg : h1.get b = h.get b) (o : Nat) (ys : List Value) : Loc2 h h1 (noV (aWrite h b o ys)) (noV (aWrite h1 b o ys)) := by
  unfold aWrite
  rw [hg, hr]
  split
  · split
    · exact .put hn _ _ _
    · exact .none
  · exact .none

theorem Loc2.pure' {h h1 : AH} (hn : h1.next = h.next) (o : Oper) : Loc2 h h1 (aPure P ρ o h) (aPure P ρ o h1) := by
  unfold aPure
  split
  · split
    · split
      · exact .same hn _
      · exact .none
    · exact .none
  · exact .none

theorem Loc2.upd {h h1 : AH} (hn : h1.next = h.next) (hr : h1.ro = h.ro) (t : TypeId) (m k x : Value) (hg : ∀ r, m = .map (some r) → h1.get r = h.get r) : Loc2 h h1 (noV (aMapUpdate P h t m k x)) (noV (aMapUpdate P h1 t m k x)) := by
  unfold aMapUpdate
  split
  · rename_i r _
    rw [hg r rfl, hr]
    (repeat' split) <;> first | exact .none | exact .put hn _ _ _
  · exact .none

theorem aOp_loc {o : Oper} {bs : List Nat} (hn : needs ρ o = some bs) {h h1 : AH} (h1n : h1.next = h.next) (h1r : h1.ro = h.ro) (hg : ∀ b, b ∈ bs → h1.get b = h.get b) : Loc2 h h1 (aOp P R ρ o h) (aOp P R ρ o h1) := by
  obtain ⟨dst, op, type, pos, after, guard⟩ := o
  cases op with
  | load t a =>
    simp only [needs, Option.some.injEq] at hn
    subst hn
    simp only [aOp]
    have : aLoad P h1 t (ρ a) = aLoad P h t (ρ a) := by
      unfold aLoad
      split
      · rename_i b o hb
        rw [hg b (by simp [blkOf, blkS, hb])]
      · rfl
    rw [this]
    exact .with' h1n _
  | store t a x =>
    simp only [needs, Option.some.injEq] at hn
    subst hn
    simp only [aOp, aStore]
    split
    · rename_i b o n hb _
      split
      · exact .write h1n h1r b (hg b (by simp [blkOf, blkS, hb])) _ _
      · exact .none
    · exact .none
  | lookup t m k ok =>
    simp only [needs, Option.some.injEq] at hn
    subst hn
    simp only [aOp]
    have : aMap h1 (ρ m) = aMap h (ρ m) := by
      unfold aMap
      split
      · rfl
      · rename_i r hb
        rw [hg r (by simp [blkOf, blkS, hb])]
      · rfl
    simp only [aLookup, this]
    exact .with' h1n _
  | mapUpdate t m k x =>
    simp only [needs, Option.some.injEq] at hn
    subst hn
    simp only [aOp]
    exact .upd h1n h1r _ _ _ _ fun r hr => hg r (by simp [blkOf, hr])
  | insert t m k x =>
    simp only [needs, Option.some.injEq] at hn
    subst hn
    simp only [aOp]
    exact .upd h1n h1r _ _ _ _ fun r hr => hg r (by simp [blkOf, hr])
  | range t m =>
    simp only [needs, Option.some.injEq] at hn
    subst hn
    simp only [aOp, aRange, h1n]
    split
    · exact .new h1n _ _
    · exact .new h1n _ _
    · rename_i r _ hb
      rw [hg r (by simp [blkOf, blkS, hb])]
      split
      · exact .new h1n _ _
      · exact .none
    · exact .none
  | slice t x lo hi mx =>
    simp only [needs, Option.some.injEq] at hn
    subst hn
    simp only [aOp]
    split
    · exact .pure' h1n _
    · have : aSliceB P h1 t (ρ x) (lo.map ρ) (hi.map ρ) (mx.map ρ) = aSliceB P h t (ρ x) (lo.map ρ) (hi.map ρ) (mx.map ρ) := by
        unfold aSliceB
        split
        · rename_i b o n c _ hb _
          rw [hg b (by simp [blkOf, blkS, hb])]
        · rfl
      rw [this]
      exact .with' h1n _
  | next x s => simp [needs] at hn
  | entry x => simp [needs] at hn
  | call c =>
    obtain ⟨callee, args, ats⟩ := c
    cases callee with
    | builtin b =>
      cases b <;> simp only [needs, needsLen_eq, Option.some.injEq] at hn <;> first | (cases hn; done) | skip
      · subst hn
        simp only [aOp]
        exact .with' h1n _
      · subst hn
        simp only [aOp]
        have : aLenOf P h1 ats (args.map ρ) = aLenOf P h ats (args.map ρ) := by
          unfold aLenOf
          split
          · rename_i t x a0 b0
            split <;> first | rfl | skip
            rename_i r _
            rw [hg r ?_]
            rw [List.mem_flatMap]
            have h0 := Array.mem_of_getElem? b0
            obtain ⟨y, hy, e⟩ := Array.mem_map.1 h0
            exact ⟨y, by simpa using hy, by simp [blkOf, e]⟩
          · rfl
        rw [this]
        exact .with' h1n _
      · simp only [aOp]; exact .pure' h1n _
      · simp only [aOp]; exact .pure' h1n _
    | value f => simp [needs] at hn
    | invoke r m => simp [needs] at hn
  | makeFunc fn x c => cases fn <;> simp only [aOp] <;> first | exact .none | exact .same h1n _
  | makeMap t r => cases r <;> simp only [aOp, h1n] <;> first | exact .none | exact .new h1n _ _
  | alloc t =>
    simp only [aOp]
    cases tzero P t with
    | none => exact .none
    | some z => simp only [aRow, Option.map_some, h1n]; exact .new h1n _ _
  | box t x => simp only [aOp, aRow, h1n]; exact .new h1n _ _
  | buildSlice t n p =>
    simp only [aOp, aBuildSlice, h1n]
    (repeat' split) <;> first | exact .none | exact .new h1n _ _
  | makeSlice t l c =>
    simp only [aOp, aMakeSlice, h1n]
    (repeat' split) <;> first | exact .none | exact .new h1n _ _
  | _ =>
    simp only [aOp]
    first
      | exact .none
      | exact .same h1n _
      | exact .with' h1n _
      | exact .pure' h1n _
      | ((repeat' split) <;> first | exact .none | exact .same h1n _ | exact .with' h1n _ | exact .pure' h1n _)
end
end Go.Ags
