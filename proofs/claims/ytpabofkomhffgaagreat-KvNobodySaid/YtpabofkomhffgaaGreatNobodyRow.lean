/- For every list of tokens and every pages and size, KvNobody ends, returns true, and leaves its arguments as they read: a cache that nobody made has nothing, and there is none of no model. Conditions: none. -/
import Derived.Test.YtpabofkomhffgaaGreatNobody
set_option linter.unusedVariables false
set_option linter.unusedSimpArgs false
set_option maxRecDepth 100000
namespace Go.Proofs.YtpabofkomhffgaaGreat
open Go.ChangeShapes Go.WideShapes Go.ChangeAt Go.RowKit Go.Ags

theorem Tryz.own : ownKnob Tryz.prog.godebug = none := by kernel_rfl
theorem Tryz.laidOut : laidOutB Tryz.prog = true := by kernel_rfl

theorem intOf {W : World} {r : Reach} {base : Nat} {t : TypeId} {k : IntKind} {v : Value} (hu : Tryz.prog.underlying t = some (.int k)) (h : Value.okWide Tryz.prog W r base t v) : ∃ n, v = .int k n := by
  revert h
  unfold Value.okWide
  rw [hu]
  unfold Cell.okWide Cell.ok
  rw [hu]
  cases v <;> intro h <;> first | exact ⟨_, by rw [h.1]⟩ | exact h.elim

theorem cellOf {W : World} {r : Reach} {base : Nat} {t e : TypeId} {v : Value} (hu : Tryz.prog.underlying t = some (.slice e)) (h : Value.okWide Tryz.prog W r base t v) : Cell.okWide Tryz.prog W r base t v := by
  revert h
  unfold Value.okWide
  rw [hu]
  exact id

theorem slOf {W : World} {r : Reach} {base : Nat} {t e : TypeId} {v : Value} (hu : Tryz.prog.underlying t = some (.slice e)) (h : Cell.okWide Tryz.prog W r base t v) (i : Nat) : ∃ x n, absCell 1 i v = sl x i n := by
  revert h
  unfold Cell.okWide Cell.ok
  rw [hu]
  cases v with
  | slice a n c =>
    intro h
    cases a with
    | none =>
      cases n with
      | zero =>
        cases c with
        | zero => exact ⟨false, 0, rfl⟩
        | succ c => exact h.elim
      | succ n => exact h.elim
    | some a => exact ⟨true, n, rfl⟩
  | _ => intro h; exact h.elim

theorem nobody_calls {W : World} {base : Nat} {v0 v1 v2 : Value} (h0 : Value.okWide Tryz.prog W .any base 25 v0) (h1 : Value.okWide Tryz.prog W .any base 3 v1) (h2 : Value.okWide Tryz.prog W .any base 3 v2) :
    Calls Tryz.prog 7 #[v0, v1, v2] W fun e W' => e = .returned (.bool true) ∧ Below W.heap.size W W' := by
  have k0 := cellOf Tryz.underlying25 h0
  obtain ⟨p, rfl⟩ := intOf Tryz.underlying3 h1
  obtain ⟨q, rfl⟩ := intOf Tryz.underlying3 h2
  obtain ⟨x, n, hx⟩ := slOf Tryz.underlying25 k0 0
  refine callsIn_wide.1 (good_blank last_good (ι := fun i => if i = 0 then locOf 1 v0 else none) (n := 1) (c x n p q) ?_ ?_ (F := Fence.wide) (m := 0) ⟨fun _ => trivial, rfl⟩)
  · refine ⟨rfl, fun i v v' e1 e2 => ?_⟩
    match i, e1, e2 with
    | 0, e1, e2 =>
      cases e1; cases e2
      rw [← hx]
      exact absCell_rel rfl k0 (by rw [Tryz.underlying25]; trivial)
    | 1, e1, e2 | 2, e1, e2 => cases e1; cases e2; exact .int _ _
    | n + 3, e1, e2 => cases e1
  · intro i hi
    have : ¬ i = 0 := by omega
    simp [this]

theorem nobody_lifted (os : Os) (started : os.Started) (H : Type) (enc : TypeId × Value → H) :
    ReturnsInHanded {} Tryz.checked os 7 .any (Rows.kvNobodySpec.pre6 enc Tryz.prog Tryz.f7 Rows.kvNobodyRow.domain false) (Rows.kvNobodySpec.post enc Tryz.prog Tryz.f7 false true false false) := by
  refine returnsInHanded_of_change (C := Tryz.checked) Tryz.own started (by kernel_rfl) Tryz.func7
    (ChangeSpec.witness6 (enc := enc) (C := Tryz.checked) false ⟨#[], #[.slice none 0 0, .int .i64 0, .int .i64 0], []⟩ 8 (by kernel_rfl) (by kernel_rfl) (by kernel_rfl) (by kernel_rfl)) ?_
  intro W base args ds gs before hval0 hW hcnd _
  have hval : ∀ (j : Nat) t v, Tryz.f7.params[j]? = some t → args[j]? = some v → Value.okWide Tryz.prog W .any base t v := hval0
  have hW' := hW
  obtain ⟨p, q, hA0, hV, rfl, hfz, hnd⟩ := hW
  have hA : DataW.TrodAll enc Tryz.prog W 0 (fun _ => true) true Tryz.f7.params.toList args.toList ds p := hA0
  rw [Tryz.params7] at hA hval
  obtain ⟨v, vs, d, ds', a, b, g1, rfl, rfl, _, g2⟩ := trodAll_cons hA
  obtain ⟨v1, vs1, d1, ds1, a1, b1, rfl, rfl, rfl, _, g3⟩ := trodAll_cons g2
  obtain ⟨v2, vs2, d2, ds2, a2, b2, rfl, rfl, rfl, _, g4⟩ := trodAll_cons g3
  obtain ⟨rfl, rfl, rfl⟩ := trodAll_nil g4
  obtain rfl : args = #[v, v1, v2] := by rw [← Array.toList_inj]; simpa using g1
  refine (nobody_calls (hval 0 25 v rfl rfl) (hval 1 3 v1 rfl rfl) (hval 2 3 v2 rfl rfl)).mono fun e W' ⟨he, hb⟩ => ?_
  subst he
  exact ⟨_, rfl, post_true Tryz.laidOut rfl (by kernel_rfl) hW' (fun _ _ _ => trodAll_mk1 (shut_bool Tryz.underlying4 true)) rfl rfl hb (ok_one (by kernel_rfl) rfl (okWide_bool_mk Tryz.underlying4 true))⟩

theorem kvNobody_holds : Rows.KvNobodySaid :=
  OpenClaim.holds_of_wide 7 Tryz.f7 rfl rfl rfl rfl rfl rfl rfl ⟨rfl, rfl, rfl, rfl, rfl⟩ rfl rfl rfl rfl rfl (by kernel_rfl) Tryz.func7 (by kernel_rfl)
    (of_decide_eq_true (by kernel_rfl)) (by unfold Func.isWrapper; first | (rw [if_pos (by decide +kernel)]; kernel_rfl) | (rw [if_neg (by decide +kernel)]; exact ⟨rfl, rfl⟩))
    (fun os started H enc _ => nobody_lifted os started H enc)
#print axioms kvNobody_holds
end Go.Proofs.YtpabofkomhffgaaGreat
