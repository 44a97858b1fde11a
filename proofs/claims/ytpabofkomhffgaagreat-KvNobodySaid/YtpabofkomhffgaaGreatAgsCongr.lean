/- What an operation comes to hangs on its operands alone. -/
import Derived.Test.YtpabofkomhffgaaGreatAgsComp
import Derived.Test.YtpabofkomhffgaaGreatAgsStep0
set_option linter.unusedVariables false
set_option linter.unusedSimpArgs false
namespace Go.Ags
section
variable {P : Program} {R : Rec} {ρ ρ' : Operand → Value}

theorem aPure_congr {o : Oper} {h : AH} (hh : ∀ x, x ∈ o.op.operands → ρ x = ρ' x) (he : execOp ρ o = execOp ρ' o) : aPure P ρ o h = aPure P ρ' o h := by
  unfold aPure
  have : (o.op.operands.toList.all fun x => af (ρ x)) = (o.op.operands.toList.all fun x => af (ρ' x)) := by
    apply Bool.eq_iff_iff.2
    rw [List.all_eq_true, List.all_eq_true]
    exact ⟨fun q x hx => by rw [← hh x (by simpa using hx)]; exact q x hx, fun q x hx => by rw [hh x (by simpa using hx)]; exact q x hx⟩
  rw [this, he]

theorem map_congr' {a : Array Operand} (h : ∀ x, x ∈ a → ρ x = ρ' x) : a.map ρ = a.map ρ' := Array.map_congr_left h
theorem omap_congr {a : Option Operand} (h : ∀ x, a = some x → ρ x = ρ' x) : a.map ρ = a.map ρ' := by
  cases a with
  | none => rfl
  | some x => simp [h x rfl]

theorem aOp_congr {o : Oper} {h : AH} (hh : ∀ x, x ∈ o.op.operands → ρ x = ρ' x) : aOp P R ρ o h = aOp P R ρ' o h := by
  obtain ⟨dst, op, type, pos, after, guard⟩ := o
  have pure' : execOp ρ ⟨dst, op, type, pos, after, guard⟩ = execOp ρ' ⟨dst, op, type, pos, after, guard⟩ → aPure P ρ ⟨dst, op, type, pos, after, guard⟩ h = aPure P ρ' ⟨dst, op, type, pos, after, guard⟩ h := fun e => aPure_congr hh e
  have hh' : ∀ x, x ∈ op.operands → ρ x = ρ' x := hh
  cases op with
  | move x | assign x | load t x | nilCheck x | fieldAddr t x f | field t x f | extract x i | entry x | next x s | range t x | box t x | makeInterface t x | typeAssert x a b c =>
    have e1 := hh' x (by simp [Op.operands])
    simp only [aOp, e1]
  | pick c a b =>
    have e1 := hh' c (by simp [Op.operands])
    have e2 := hh' a (by simp [Op.operands])
    have e3 := hh' b (by simp [Op.operands])
    simp only [aOp, e1, e2, e3]
  | store t a x =>
    have e1 := hh' a (by simp [Op.operands])
    have e2 := hh' x (by simp [Op.operands])
    simp only [aOp, e1, e2]
  | lookup t a x ok | indexAddr t a x | makeSlice t a x =>
    have e1 := hh' a (by simp [Op.operands])
    have e2 := hh' x (by simp [Op.operands])
    simp only [aOp, e1, e2]
  | mapUpdate t a x y | insert t a x y =>
    have e1 := hh' a (by simp [Op.operands])
    have e2 := hh' x (by simp [Op.operands])
    have e3 := hh' y (by simp [Op.operands])
    simp only [aOp, e1, e2, e3]
  | index t a x =>
    have e1 := hh' a (by simp [Op.operands])
    have e2 := hh' x (by simp [Op.operands])
    have := pure' (by simp only [execOp, e1, e2])
    simp only [aOp, e1, e2, this]
  | binOp op t x y yt =>
    have e1 := hh' x (by simp [Op.operands])
    have e2 := hh' y (by simp [Op.operands])
    have := pure' (by simp only [execOp, e1, e2])
    simp only [aOp, e1, e2, this]
  | unOp op t x =>
    have e1 := hh' x (by simp [Op.operands])
    simp only [aOp]
    exact pure' (by simp only [execOp, e1])
  | convert s t x =>
    have e1 := hh' x (by simp [Op.operands])
    simp only [aOp]
    exact pure' (by simp only [execOp, e1])
  | slice t x lo hi mx =>
    have e1 := hh' x (by simp [Op.operands])
    have e2 : lo.map ρ = lo.map ρ' := omap_congr fun y hy => hh' y (by simp [Op.operands, hy])
    have e3 : hi.map ρ = hi.map ρ' := omap_congr fun y hy => hh' y (by simp [Op.operands, hy])
    have e4 : mx.map ρ = mx.map ρ' := omap_congr fun y hy => hh' y (by simp [Op.operands, hy])
    have := pure' (by simp only [execOp, e1, e2, e3, e4])
    simp only [aOp, e1, e2, e3, e4, this]
  | build t ps =>
    have : (ps.map fun (p : Nat × Operand) => (p.1, ρ p.2)) = ps.map fun p => (p.1, ρ' p.2) := by
      apply Array.map_congr_left
      intro p hp
      rw [hh' p.2 (by simp only [Op.operands, List.mem_toArray, List.mem_map]; exact ⟨p, by simpa using hp, rfl⟩)]
    simp only [aOp]
    exact congrArg (fun z => withH h (aBuild P t z)) this
  | buildSlice t n ps =>
    have : (ps.map fun (p : Nat × Operand) => (p.1, ρ p.2)) = ps.map fun p => (p.1, ρ' p.2) := by
      apply Array.map_congr_left
      intro p hp
      rw [hh' p.2 (by simp only [Op.operands, List.mem_toArray, List.mem_map]; exact ⟨p, by simpa using hp, rfl⟩)]
    simp only [aOp]
    exact congrArg (fun z => aBuildSlice P h t n z) this
  | makeFunc fn a c =>
    have e1 : a.map ρ = a.map ρ' := map_congr' fun y hy => hh' y (by simp [Op.operands, hy])
    have e2 : c.map ρ = c.map ρ' := map_congr' fun y hy => hh' y (by simp [Op.operands, hy])
    cases fn <;> simp only [aOp, e1, e2]
  | call c =>
    obtain ⟨callee, args, ats⟩ := c
    have e1 : args.map ρ = args.map ρ' := map_congr' fun y hy => hh' y (by simp [Op.operands, Call.operands, hy])
    cases callee with
    | builtin b =>
      cases b <;> simp only [aOp, e1]
      · exact pure' (by simp only [execOp, resolve, e1])
      · exact pure' (by simp only [execOp, resolve, e1])
    | value f =>
      have e2 := hh' f (by simp [Op.operands, Call.operands])
      simp only [aOp, e1, e2]
    | invoke r m =>
      have e2 := hh' r (by simp [Op.operands, Call.operands])
      simp only [aOp, e1, e2]
  | makeMap t r => cases r <;> simp only [aOp]
  | alloc t => simp only [aOp]
  | _ => simp only [aOp]

theorem needs_congr {o : Oper} (hh : ∀ x, x ∈ o.op.operands → ρ x = ρ' x) : needs ρ o = needs ρ' o := by
  obtain ⟨dst, op, type, pos, after, guard⟩ := o
  have hh' : ∀ x, x ∈ op.operands → ρ x = ρ' x := hh
  cases op with
  | load t x | range t x =>
    simp only [needs, hh' x (by simp [Op.operands])]
  | store t a x | lookup t a x ok => simp only [needs, hh' a (by simp [Op.operands])]
  | mapUpdate t a x y | insert t a x y => simp only [needs, hh' a (by simp [Op.operands])]
  | slice t x lo hi mx => simp only [needs, hh' x (by simp [Op.operands])]
  | call c =>
    obtain ⟨callee, args, ats⟩ := c
    cases callee with
    | builtin b =>
      cases b <;> simp only [needs, needsLen_eq, Option.some.injEq]
      rw [List.flatMap_def, List.flatMap_def]
      congr 1
      apply List.map_congr_left
      intro x hx
      rw [hh' x (by simp [Op.operands, Call.operands]; simpa using hx)]
    | _ => simp only [needs]
  | _ => simp only [needs]

/-- Only the operation and its type play a part. -/
theorem aOp_bare (o : Oper) (h : AH) : aOp P R ρ ⟨none, o.op, o.type, "", #[], none⟩ h = aOp P R ρ o h := by
  obtain ⟨dst, op, type, pos, after, guard⟩ := o
  cases op with
  | call c =>
    obtain ⟨callee, args, ats⟩ := c
    cases callee with
    | builtin b => cases b <;> rfl
    | _ => rfl
  | makeFunc fn a c => cases fn <;> rfl
  | makeMap t r => cases r <;> rfl
  | _ => rfl

/-- An operation that leaves the heap alone. -/
theorem quiet_same {o : Oper} {h h' : AH} {v : Value} (hq : quiet o.op = true) (e : aOp P R ρ o h = some (v, h')) : h' = h := by
  obtain ⟨dst, op, type, pos, after, guard⟩ := o
  have wH : ∀ {x : Option Value} {v : Value} {h' : AH}, withH h x = some (v, h') → h' = h := by
    intro x v h' e
    unfold withH at e
    cases x <;> simp at e
    exact e.2.symm
  have pu : ∀ {o : Oper} {v : Value} {h' : AH}, aPure P ρ o h = some (v, h') → h' = h := by
    intro o v h' e
    unfold aPure at e
    (repeat' split at e) <;> first | (cases e; done) | (cases e; rfl)
  cases op <;> first | (simp [quiet] at hq; done) | skip
  case call c =>
    obtain ⟨callee, args, ats⟩ := c
    cases callee with
    | builtin b => cases b <;> first | (simp [quiet] at hq; done) | (simp only [aOp] at e; first | exact wH e | exact pu e)
    | _ => simp [quiet] at hq
  case makeFunc fn a c => cases fn <;> simp only [aOp] at e <;> first | (cases e; done) | (cases e; rfl)
  all_goals
    simp only [aOp] at e
    first
      | (cases e; rfl)
      | exact wH e
      | exact pu e
      | ((repeat' split at e) <;> first | (cases e; done) | (cases e; rfl) | exact wH e | exact pu e)

theorem idle_needs {o : Oper} (hq : idle o.op = true) : needs ρ o = some [] := by
  obtain ⟨dst, op, type, pos, after, guard⟩ := o
  cases op <;> first | (simp [idle] at hq; done) | rfl | skip
  case call c =>
    obtain ⟨callee, args, ats⟩ := c
    cases callee with
    | builtin b => cases b <;> first | (simp [idle] at hq; done) | rfl
    | _ => simp [idle] at hq

theorem idle_quiet {o : Op} (hq : idle o = true) : quiet o = true := by
  cases o <;> first | (simp [idle] at hq; done) | rfl | skip
  case call c =>
    obtain ⟨callee, args, ats⟩ := c
    cases callee with
    | builtin b => cases b <;> first | (simp [idle] at hq; done) | rfl
    | _ => simp [idle] at hq
end
end Go.Ags
