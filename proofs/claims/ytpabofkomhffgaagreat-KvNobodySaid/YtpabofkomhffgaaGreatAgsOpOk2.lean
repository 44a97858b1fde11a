/- What the steps of one operation come to, the evaluator's operation comes to: all of them. -/
import Derived.Test.YtpabofkomhffgaaGreatAgsOpOk
set_option linter.unusedVariables false
set_option linter.unusedSimpArgs false
namespace Go.Ags
section
variable {P : Program} {R : Rec} {env : Env} {h : AH} {c : Value → AH → M} {r : Value × AH}

theorem plain_cells {x : Value} (h : plainCell x = true) : x.cells = #[x] := by
  cases x <;> first | rfl | (simp [plainCell] at h)

theorem extract_mk (cs : List Value) (o n : Nat) : (Array.mk cs).extract o (o + n) = ⟨(cs.drop o).take n⟩ := by
  apply Array.ext'
  simp

theorem aPart_some {t : TypeId} {n : Nat} {cs : List Value} {o : Nat} (ha : isAggT P t = some true) (hs : tsize P t = some n) (hn : n ≤ cs.length - o) (ho : o ≤ cs.length) : aPart P t ⟨cs⟩ o = some (.agg ⟨(cs.drop o).take n⟩) := by
  unfold aPart
  rw [ha, hs]
  have : o + n ≤ (Array.mk cs).size := by simp; omega
  simp only [this, if_true, extract_mk]

theorem aPart_one {t : TypeId} {n : Nat} {cs : List Value} {o : Nat} (ha : isAggT P t = some false) (hs : tsize P t = some n) {v : Value} (hv : cs[o]? = some v) : aPart P t ⟨cs⟩ o = some v := by
  unfold aPart
  rw [ha, hs]
  simpa using hv

theorem cOp_ok {op : Op} {ty : TypeId} (e : cOp P R op ty env h c = some r) : OpTo P R env op ty h c r := by
  cases op with
  | move x | assign x => exact ⟨_, _, rfl, e⟩
  | pick x a b =>
    simp only [cOp, pPick] at e
    split at e
    · rename_i t hx
      refine ⟨_, _, ?_, e⟩
      simp only [aOp, hx]
      cases t <;> rfl
    · cases e
  | alloc t =>
    simp only [cOp] at e
    split at e
    · rename_i z hz
      refine ⟨_, _, ?_, e⟩
      simp only [aOp, hz, Option.map_some, aRow, hnew_eq]
    · cases e
  | box t x =>
    simp only [cOp, pBox] at e
    exact ⟨_, _, by simp only [aOp, aRow, hnew_eq], e⟩
  | load t a =>
    simp only [cOp] at e
    split at e
    · rename_i n ha hs
      obtain ⟨b, o, cs, tt, fr, hx, hb, hn, hc⟩ := pLdN_some e
      exact ⟨_, _, by simp only [aOp, aLoad, hx, hb, aPart_some ha hs hn (by omega)]; rfl, hc⟩
    · rename_i n ha hs
      obtain ⟨b, o, cs, tt, fr, v, hx, hb, hv, hc⟩ := pLd_some e
      exact ⟨_, _, by simp only [aOp, aLoad, hx, hb, aPart_one ha hs hv]; rfl, hc⟩
    · cases e
  | store t a x =>
    simp only [cOp] at e
    split at e
    · rename_i ha hs
      obtain ⟨b, o, cs, tt, hx, hb, hp, hro, ho, hc⟩ := pSt_some e
      refine ⟨_, _, ?_, hc⟩
      have hlen : o + 1 ≤ (Array.mk cs).size := by simp; omega
      simp only [aOp, aStore, hx, hs, plain_cells hp, aWrite, hb, noV, List.length_singleton, List.size_toArray, if_true, hro, hlen, List.all_cons, List.all_nil, hp, Bool.and_self, and_self, writeL, Option.map_some]
      simp
      omega
    · rename_i n hs _
      unfold pStN at e
      split at e
      · rename_i b o hx
        cases hq : Nat.beq (evE env x).cells.size n with
        | false => rw [hq] at e; cases e
        | true =>
          rw [hq] at e
          have := Nat.eq_of_beq_eq_true hq
          rw [cond_true] at e
          split at e
          · rename_i h' hw
            refine ⟨_, _, ?_, e⟩
            simp only [aOp, aStore, hx, hs, this, if_true, hw, noV, Option.map_some]
          · cases e
      · cases e
    · cases e
  | nilCheck x =>
    simp only [cOp, pNil] at e
    split at e <;> first | (cases e; done) | (rename_i hx; exact ⟨_, _, by simp only [aOp, hx], e⟩)
  | binOp op t x y yt => exact cBin_ok e
  | unOp op t x =>
    cases op <;> simp only [cOp] at e <;> first | exact gen_ok e | skip
    unfold pNot at e
    split at e
    · rename_i b hx
      exact ⟨_, _, aOp_unNot hx, e⟩
    · cases e
  | convert s d x =>
    simp only [cOp] at e
    split at e
    · rename_i k0 k hs hd
      unfold pCv at e
      split at e
      · rename_i k1 n hx
        exact ⟨_, _, (aOp_conv hs hd hx).trans (by rw [fw_eq]), e⟩
      · cases e
    · exact gen_ok e
  | makeInterface t x =>
    simp only [cOp] at e
    split at e
    · cases e
    · cases e
    · rename_i u hne hnn
      refine ⟨_, _, ?_, e⟩
      cases hu : P.underlying t with
      | none => exact absurd hu hnn
      | some d =>
        simp only [aOp, hu]
        cases d <;> first | rfl | exact absurd hu (hne _)
  | makeFunc fn a cc =>
    cases fn <;> simp only [cOp] at e <;> first | exact gen_ok e | skip
    rw [arrE_eq, arrE_eq] at e
    exact ⟨_, _, rfl, e⟩
  | makeMap t x =>
    cases x <;> simp only [cOp] at e
    · unfold pMkMap at e
      rw [hnew_eq] at e
      exact ⟨_, _, rfl, e⟩
    · exact gen_ok e
  | fieldAddr t x f =>
    simp only [cOp] at e
    split at e
    case h_2 => cases e
    rename_i fields hu
    split at e
    case h_2 => cases e
    rename_i fl hf
    split at e
    case h_2 => cases e
    rename_i n hs
    unfold pFad at e
    split at e
    · rename_i b o hx
      refine ⟨_, _, ?_, e⟩
      simp only [aOp, aFieldAddr, hu, hx, hf, hs, withH]
      simp only [Nat.add_one_ne_zero, if_false, Option.map_some, Addr.add]
      by_cases h0 : fl.offset = 0 <;> simp [h0]
    · cases e
  | field t x f =>
    simp only [cOp] at e
    split at e
    case h_2 => cases e
    rename_i fields hu
    split at e
    case h_2 => cases e
    rename_i fl hf
    split at e
    · rename_i n ha hs
      unfold pFlN at e
      split at e
      · rename_i cs hx
        split at e
        · rename_i l hl
          rw [lcut_eq, ldrop_eq] at hl
          split at hl
          · rename_i hn
            cases hl
            refine ⟨_, _, ?_, e⟩
            simp only [aOp, aField, hu, hx, hf]
            rw [aPart_some ha hs (by simpa using hn) (by simp at hn; omega)]; rfl
          · cases hl
        · cases e
      · cases e
    · rename_i n ha hs
      unfold pFl at e
      split at e
      · rename_i cs hx
        split at e
        · rename_i v hv
          rw [lget_eq] at hv
          refine ⟨_, _, ?_, e⟩
          simp only [aOp, aField, hu, hx, hf]
          rw [aPart_one ha hs hv]; rfl
        · cases e
      · cases e
    · cases e
  | indexAddr t x i =>
    simp only [cOp] at e
    split at e
    · rename_i el hu
      split at e
      case h_2 => cases e
      rename_i n hs
      unfold pIx at e
      split at e
      · rename_i b o k cc kk m hx hi
        cases hq : Nat.blt m k with
        | false => rw [hq] at e; cases e
        | true =>
          rw [hq, cond_true] at e
          have hm : m < k := by simpa [Nat.blt_eq] using hq
          refine ⟨_, _, ?_, e⟩
          have hc : (0 : Int) ≤ Int.ofNat m ∧ Int.ofNat m < (k : Int) := ⟨Int.natCast_nonneg _, Int.ofNat_lt.2 hm⟩
          simp only [aOp, aIndexAddr, hu, hx, hi, hs, withH]
          rw [if_pos hc]
          simp only [Option.map_some, Addr.add, Int.ofNat_eq_natCast, Int.toNat_natCast]
          by_cases h0 : m * n = 0 <;> simp [h0]
      · cases e
    · rename_i k el hu
      split at e
      case h_2 => cases e
      rename_i n hs
      unfold pIxA at e
      split at e
      · rename_i b o kk m hx hi
        cases hq : Nat.blt m k with
        | false => rw [hq] at e; cases e
        | true =>
          rw [hq, cond_true] at e
          have hm : m < k := by simpa [Nat.blt_eq] using hq
          refine ⟨_, _, ?_, e⟩
          have hc : (0 : Int) ≤ Int.ofNat m ∧ Int.ofNat m < (k : Int) := ⟨Int.natCast_nonneg _, Int.ofNat_lt.2 hm⟩
          simp only [aOp, aIndexAddr, hu, hx, hi, hs, withH]
          rw [if_pos hc]
          simp only [Option.map_some, Addr.add, Int.ofNat_eq_natCast, Int.toNat_natCast]
          by_cases h0 : m * n = 0 <;> simp [h0]
      · cases e
    · cases e
  | slice t x lo hi mx =>
    simp only [cOp] at e
    split at e
    · rename_i el hu
      split at e
      case h_2 => cases e
      rename_i n hs
      have key : ∃ v, (match aSlice P t (evE env x) (lo.map (evE env)) (hi.map (evE env)) (mx.map (evE env)) with
          | some u => some u
          | none => aSliceB P h t (evE env x) (lo.map (evE env)) (hi.map (evE env)) (mx.map (evE env))) = some v ∧ c v h = some r ∧ (∀ s, evE env x ≠ .string s) := by
        generalize evE env x = X at e ⊢
        generalize lo.map (evE env) = LO at e ⊢
        generalize hi.map (evE env) = HI at e ⊢
        generalize mx.map (evE env) = MX at e ⊢
        unfold pSl at e
        split at e
        · rename_i v hv
          refine ⟨v, ?_, e, ?_⟩
          · have : aSlice P t X LO HI MX = some v := by
              unfold sliceC at hv
              unfold aSlice
              split at hv
              · simp only [hu, hs]; exact hv
              · cases hv
            rw [this]
          · intro s hX
            subst hX
            simp [sliceC] at hv
        · rename_i hv0
          obtain ⟨v, hv, hc⟩ := pV_some e
          refine ⟨v, ?_, hc, ?_⟩
          · have h1 : aSlice P t X LO HI MX = none := by
              unfold sliceC at hv0
              unfold aSlice
              rw [hu]
              cases X <;> first | rfl | skip
              simp only [hs]
              exact hv0
            rw [h1]
            unfold sliceD at hv
            unfold aSliceB
            split at hv
            · simp only [hu, hs]
              revert hv
              cases aBound LO 0 <;> cases aBound HI _ <;> intro hv <;> first | exact hv | cases hv
            · cases hv
          · intro s hX
            subst hX
            simp [sliceD] at hv
      obtain ⟨v, hv, hc, hns⟩ := key
      refine ⟨v, h, ?_, hc⟩
      revert hv hns
      cases hX : evE env x <;> intro hv hns <;> first
        | exact absurd rfl (hns _)
        | (simp only [aOp, hX]; exact (congrArg (withH h) hv).trans rfl)
    · exact gen_ok e
  | extract t i =>
    simp only [cOp, pExt] at e
    split at e
    · rename_i l hx
      split at e
      · rename_i v hv
        rw [lget_eq] at hv
        refine ⟨_, _, ?_, e⟩
        simp only [aOp, hx, withH]
        have : (Array.mk l)[i]? = some v := by simpa using hv
        rw [this]; rfl
      · cases e
    · cases e
  | call cl => exact cCall_ok e
  | _ => exact gen_ok e
end
end Go.Ags
