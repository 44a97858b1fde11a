/- For every step x, StreamNobody(x) ends, returns true, and leaves x as it read: a stream that nobody made has nothing. Conditions: none. -/
import Derived.Test.YtgbdeckmfbimiaaNobody
set_option linter.unusedVariables false
set_option linter.unusedSimpArgs false
set_option maxRecDepth 100000
namespace Go.Proofs.Ytgbdeckmfbimiaa
open Go.ChangeShapes Go.WideShapes Go.ChangeAt Go.RowKit Go.Ags

theorem cells41 : Try.prog.cellTypes Try.prog.depth 41 = some [5, 2, 26, 26, 26, 26, 3, 26, 26, 26, 26, 26, 26, 3, 26, 24, 3, 24] := by kernel_rfl
theorem size41 : Try.prog.cellsOf 41 = 18 := by kernel_rfl

theorem intOf {W : World} {r : Reach} {base : Nat} {t : TypeId} {k : IntKind} {v : Value} (hu : Try.prog.underlying t = some (.int k)) (h : Cell.okWide Try.prog W r base t v) : ∃ n, v = .int k n := by
  revert h
  unfold Cell.okWide Cell.ok
  rw [hu]
  cases v <;> intro h <;> first | exact ⟨_, by rw [h.1]⟩ | exact h.elim

theorem slOf {W : World} {r : Reach} {base : Nat} {t e : TypeId} {v : Value} (hu : Try.prog.underlying t = some (.slice e)) (h : Cell.okWide Try.prog W r base t v) (i : Nat) : ∃ x n, absCell 1 i v = sl x i n := by
  revert h
  unfold Cell.okWide Cell.ok
  rw [hu]
  cases v with
  | slice a n c =>
    intro h
    cases a with
    | none =>
      cases n with
      | zero =>
        cases c with
        | zero => exact ⟨false, 0, rfl⟩
        | succ c => exact h.elim
      | succ n => exact h.elim
    | some a => exact ⟨true, n, rfl⟩
  | _ => intro h; exact h.elim

theorem nobody_calls {W : World} {base : Nat} {v : Value} (h : Value.okWide Try.prog W .any base 41 v) : Calls Try.prog 6 #[v] W fun e W' => e = .returned (.bool true) ∧ Below W.heap.size W W' := by
  unfold Value.okWide at h
  rw [Try.underlying41] at h
  obtain ⟨cs, rfl, hs, ts, hts, _, hcs⟩ := h
  rw [size41] at hs
  rw [cells41] at hts
  cases hts
  obtain ⟨l, rfl⟩ : ∃ l, cs = ⟨l⟩ := ⟨cs.toList, rfl⟩
  match l, hs with
  | [c0, c1, c2, c3, c4, c5, c6, c7, c8, c9, c10, c11, c12, c13, c14, c15, c16, c17], _ =>
  have at_ : ∀ (i : Nat) (v : Value) (t : TypeId), [c0, c1, c2, c3, c4, c5, c6, c7, c8, c9, c10, c11, c12, c13, c14, c15, c16, c17][i]? = some v → [5, 2, 26, 26, 26, 26, 3, 26, 26, 26, 26, 26, 26, 3, 26, 24, 3, 24][i % 18]? = some t → Cell.okWide Try.prog W .any base t v := by
    intro i v t h1 h2
    obtain ⟨u, h3, h4⟩ := hcs i v (by simpa using h1)
    have : (some t : Option TypeId) = some u := by rw [← h2, ← h3]; rfl
    cases this; exact h4
  have k15 := at_ 15 c15 24 rfl rfl
  have k17 := at_ 17 c17 24 rfl rfl
  obtain ⟨n0, rfl⟩ := intOf Try.underlying5 (at_ 0 c0 5 rfl rfl)
  obtain ⟨n1, rfl⟩ := intOf Try.underlying2 (at_ 1 c1 2 rfl rfl)
  obtain ⟨n2, rfl⟩ := intOf Try.underlying26 (at_ 2 c2 26 rfl rfl)
  obtain ⟨n3, rfl⟩ := intOf Try.underlying26 (at_ 3 c3 26 rfl rfl)
  obtain ⟨n4, rfl⟩ := intOf Try.underlying26 (at_ 4 c4 26 rfl rfl)
  obtain ⟨n5, rfl⟩ := intOf Try.underlying26 (at_ 5 c5 26 rfl rfl)
  obtain ⟨n6, rfl⟩ := intOf Try.underlying3 (at_ 6 c6 3 rfl rfl)
  obtain ⟨n7, rfl⟩ := intOf Try.underlying26 (at_ 7 c7 26 rfl rfl)
  obtain ⟨n8, rfl⟩ := intOf Try.underlying26 (at_ 8 c8 26 rfl rfl)
  obtain ⟨n9, rfl⟩ := intOf Try.underlying26 (at_ 9 c9 26 rfl rfl)
  obtain ⟨n10, rfl⟩ := intOf Try.underlying26 (at_ 10 c10 26 rfl rfl)
  obtain ⟨n11, rfl⟩ := intOf Try.underlying26 (at_ 11 c11 26 rfl rfl)
  obtain ⟨n12, rfl⟩ := intOf Try.underlying26 (at_ 12 c12 26 rfl rfl)
  obtain ⟨n13, rfl⟩ := intOf Try.underlying3 (at_ 13 c13 3 rfl rfl)
  obtain ⟨n14, rfl⟩ := intOf Try.underlying26 (at_ 14 c14 26 rfl rfl)
  obtain ⟨n16, rfl⟩ := intOf Try.underlying3 (at_ 16 c16 3 rfl rfl)
  obtain ⟨x, a, hx⟩ := slOf Try.underlying24 k15 15
  obtain ⟨y, b, hy⟩ := slOf Try.underlying24 k17 17
  have hc := c n0 n1 n2 n3 n4 n5 n6 n7 n8 n9 n10 n11 n12 n13 n14 n16 a b x y
  obtain ⟨h', he⟩ := bothWays_eq Try.func6 body6_eq hc
  refine callsIn_wide.1 (ev_blank plainNames recSound recNext (ι := fun i => if i = 15 then locOf 1 c15 else if i = 17 then locOf 1 c17 else none) (n := 18) he ?_ ?_ (F := Fence.wide) (m := 0) ⟨fun _ => trivial, rfl⟩)
  · refine ⟨rfl, fun i v v' h1 h2 => ?_⟩
    match i, h1, h2 with
    | 0, h1, h2 =>
      cases h1; cases h2
      refine .agg rfl fun i v v' h1 h2 => ?_
      match i, h1, h2 with
      | 0, h1, h2 | 1, h1, h2 | 2, h1, h2 | 3, h1, h2 | 4, h1, h2 | 5, h1, h2 | 6, h1, h2 | 7, h1, h2 | 8, h1, h2 | 9, h1, h2 | 10, h1, h2 | 11, h1, h2 | 12, h1, h2 | 13, h1, h2 | 14, h1, h2 | 16, h1, h2 => cases h1; cases h2; exact .int _ _
      | 15, h1, h2 =>
        cases h1; cases h2
        rw [← hx]
        exact absCell_rel rfl k15 (by rw [Try.underlying24]; trivial)
      | 17, h1, h2 =>
        cases h1; cases h2
        rw [← hy]
        exact absCell_rel rfl k17 (by rw [Try.underlying24]; trivial)
      | n + 18, h1, h2 => cases h1
    | n + 1, h1, h2 => cases h1
  · intro i hi
    have h1 : ¬ i = 15 := by omega
    have h2 : ¬ i = 17 := by omega
    simp [h1, h2]

set_option maxRecDepth 100000 in
theorem nobody_lifted (os : Os) (started : os.Started) (H : Type) (enc : TypeId × Value → H) :
    ReturnsInHanded {} Try.checked os 6 .any (Rows.streamNobodySpec.pre6 enc Try.prog Try.f6 Rows.streamNobodyRow.domain false) (Rows.streamNobodySpec.post enc Try.prog Try.f6 false true false false) := by
  refine returnsInHanded_of_change (C := Try.checked) Try.own started (by kernel_rfl) Try.func6
    (ChangeSpec.witness6 (enc := enc) (C := Try.checked) false ⟨#[], #[.agg #[.int .u8 0, .int .i64 0, .int .u64 0, .int .u64 0, .int .u64 0, .int .u64 0, .int .i64 0, .int .u64 0, .int .u64 0, .int .u64 0, .int .u64 0, .int .u64 0, .int .u64 0, .int .i64 0, .int .u64 0, .slice none 0 0, .int .i64 0, .slice none 0 0]], []⟩ 8 (by kernel_rfl) (by kernel_rfl) (by kernel_rfl) (by kernel_rfl)) ?_
  intro W base args ds gs before hval0 hW hcnd _
  have hval : ∀ (j : Nat) t v, Try.f6.params[j]? = some t → args[j]? = some v → Value.okWide Try.prog W .any base t v := hval0
  have hW' := hW
  obtain ⟨p, q, hA0, hV, rfl, hfz, hnd⟩ := hW
  have hA : DataW.TrodAll enc Try.prog W 0 (fun _ => true) true Try.f6.params.toList args.toList ds p := hA0
  rw [Try.params6] at hA hval
  obtain ⟨v, vs, d, ds', a, b, h1, rfl, rfl, _, h2⟩ := trodAll_cons hA
  obtain ⟨rfl, rfl, rfl⟩ := trodAll_nil h2
  obtain rfl : args = #[v] := by rw [← Array.toList_inj]; simpa using h1
  refine (nobody_calls (hval 0 41 v rfl rfl)).mono fun e W' ⟨he, hb⟩ => ?_
  subst he
  exact ⟨_, rfl, post_true Try.laidOut rfl (by kernel_rfl) hW' (fun _ _ _ => trodAll_mk1 (shut_bool Try.underlying4 true)) rfl rfl hb (ok_one (by kernel_rfl) rfl (okWide_bool_mk Try.underlying4 true))⟩

theorem streamNobody_holds : Rows.StreamNobodySaid :=
  OpenClaim.holds_of_wide 6 Try.f6 rfl rfl rfl rfl rfl rfl rfl ⟨rfl, rfl, rfl, rfl, rfl⟩ rfl rfl rfl rfl rfl (by kernel_rfl) Try.func6 (by kernel_rfl)
    (of_decide_eq_true (by kernel_rfl)) (by unfold Func.isWrapper; first | (rw [if_pos (by decide +kernel)]; kernel_rfl) | (rw [if_neg (by decide +kernel)]; exact ⟨rfl, rfl⟩))
    (fun os started H enc _ => nobody_lifted os started H enc)
#print axioms streamNobody_holds
end Go.Proofs.Ytgbdeckmfbimiaa
