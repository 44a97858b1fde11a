/- Each operation of the evaluator is what the machine does: slicing, addresses, ranging. -/
import Derived.Test.YtpabofkomhffgaaGreatAgsOps5
set_option linter.unusedVariables false
set_option linter.unusedSimpArgs false
namespace Go.Ags
section
variable {P : Program} {ι : Inj} {h : AH} {w : World}

def ORelV (ι : Inj) : Option Value → Option Value → Prop
  | none, none => True
  | some v, some v' => VRel ι v v'
  | _, _ => False

theorem aBound_spec {x x' : Option Value} {d l : Nat} (e : aBound x d = some l) (r : ORelV ι x x') :
    (x = none ∧ x' = none ∧ l = d) ∨ (∃ k i, x = some (.int k i) ∧ x' = some (.int k i) ∧ 0 ≤ i ∧ l = i.toNat) := by
  unfold aBound at e
  split at e
  · cases e
    cases x' with
    | none => exact .inl ⟨rfl, rfl, rfl⟩
    | some v => exact r.elim
  · rename_i k i
    split at e
    case isFalse => cases e
    rename_i hi
    cases e
    cases x' with
    | none => exact r.elim
    | some v =>
      cases r
      exact .inr ⟨k, i, rfl, rfl, hi, rfl⟩
  · cases e

theorem run_bound (k : IntKind) (i : Int) (y : Nat) (code : BoundsCode) (h0 : 0 ≤ i) (h1 : i.toNat ≤ y) (w : World) : (Instr.sliceBound (.int k i) y code).run P w = .ok i.toNat w := by
  unfold Instr.sliceBound
  have : 0 ≤ i ∧ i ≤ y := ⟨h0, by omega⟩
  simp [asIntOf, this]

theorem run_bounds {lo hi mx : Option Value} {len cap l h m : Nat} (hlo : lo = none ∧ l = 0 ∨ ∃ k i, lo = some (.int k i) ∧ 0 ≤ i ∧ l = i.toNat)
    (hhi : hi = none ∧ h = len ∨ ∃ k i, hi = some (.int k i) ∧ 0 ≤ i ∧ h = i.toNat) (hmx : mx = none ∧ m = cap ∨ ∃ k i, mx = some (.int k i) ∧ 0 ≤ i ∧ m = i.toNat)
    (h1 : l ≤ h) (h2 : h ≤ m) (h3 : m ≤ cap) (h4 : mx.isSome → hi.isSome) (b : Bool) (w : World) : (Instr.sliceBounds b len cap lo hi mx).run P w = .ok (l, h, m) w := by
  unfold Instr.sliceBounds
  rcases hmx with ⟨rfl, rfl⟩ | ⟨k3, i3, rfl, p3, rfl⟩
  · rcases hhi with ⟨rfl, rfl⟩ | ⟨k2, i2, rfl, p2, rfl⟩
    · rcases hlo with ⟨rfl, rfl⟩ | ⟨k1, i1, rfl, p1, rfl⟩
      · simp
      · simp [run_bound k1 i1 h _ p1 h1]
    · rcases hlo with ⟨rfl, rfl⟩ | ⟨k1, i1, rfl, p1, rfl⟩
      · simp [run_bound k2 i2 m _ p2 h2]
      · simp [run_bound k2 i2 m _ p2 h2, run_bound k1 i1 i2.toNat _ p1 h1]
  · rcases hhi with ⟨rfl, rfl⟩ | ⟨k2, i2, rfl, p2, rfl⟩
    · simp at h4
    · rcases hlo with ⟨rfl, rfl⟩ | ⟨k1, i1, rfl, p1, rfl⟩
      · simp [run_bound k3 i3 cap _ p3 h3, run_bound k2 i2 i3.toNat _ p2 h2]
      · simp [run_bound k3 i3 cap _ p3 h3, run_bound k2 i2 i3.toNat _ p2 h2, run_bound k1 i1 i2.toNat _ p1 h1]

theorem run_sliceAt {t elem : TypeId} {size : Nat} {a : Option Addr} {len cap l h m : Nat} {lo hi mx : Option Value} (hu : P.underlying t = some (.slice elem)) (hs : tsize P elem = some size)
    (hb : ∀ b w, (Instr.sliceBounds b len cap lo hi mx).run P w = .ok (l, h, m) w) (w : World) :
    (Instr.sliceAt t (.slice a len cap) lo hi mx).run P w = .ok (.slice (if m = l then a else a.map (·.add (l * size))) (h - l) (m - l)) w := by
  unfold Instr.sliceAt Instr.slice
  simp [run_und hu, hb, run_size hs]

theorem aSlice_sound {t : TypeId} {x x' : Value} {lo hi mx lo' hi' mx' : Option Value} {v : Value} (e : aSlice P t x lo hi mx = some v) (rx : VRel ι x x') (rlo : ORelV ι lo lo') (rhi : ORelV ι hi hi') (rmx : ORelV ι mx mx') (w : World) :
    ∃ v', (Instr.sliceAt t x' lo' hi' mx').run P w = .ok v' w ∧ VRel ι v v' := by
  unfold aSlice at e
  split at e
  · rename_i elem base n c hu
    split at e
    case h_1 => cases e
    rename_i size hs
    split at e
    case h_2 => cases e
    rename_i l h hl hh
    split at e
    case isTrue => cases e
    rename_i hlh
    have sl : lo' = none ∧ l = 0 ∨ ∃ k i, lo' = some (.int k i) ∧ 0 ≤ i ∧ l = i.toNat := by
      rcases aBound_spec hl rlo with ⟨_, b, c⟩ | ⟨k, i, _, b, c, d⟩
      · exact .inl ⟨b, c⟩
      · exact .inr ⟨k, i, b, c, d⟩
    have sh : hi' = none ∧ h = n ∨ ∃ k i, hi' = some (.int k i) ∧ 0 ≤ i ∧ h = i.toNat := by
      rcases aBound_spec hh rhi with ⟨_, b, c⟩ | ⟨k, i, _, b, c, d⟩
      · exact .inl ⟨b, c⟩
      · exact .inr ⟨k, i, b, c, d⟩
    have hhs : hi.isSome = hi'.isSome := by
      cases hi <;> cases hi' <;> first | rfl | exact rhi.elim
    rcases mx with _ | m0
    rotate_left
    · -- a greatest one
      rcases hi with _ | h0
      · cases e
      dsimp only at e
      split at e
      case h_2 => cases e
      rename_i m hm
      by_cases hc : h ≤ m ∧ m < loose ∧ m ≤ (if c < loose then c else n)
      case neg => rw [if_neg hc] at e; cases e
      rw [if_pos hc] at e
      obtain ⟨hc1, hc2, hc3⟩ := hc
      cases e
      have sm : ∀ cap : Nat, mx' = none ∧ m = cap ∨ ∃ k i, mx' = some (.int k i) ∧ 0 ≤ i ∧ m = i.toNat := by
        intro cap
        rcases aBound_spec hm rmx with ⟨b, _, _⟩ | ⟨k, i, _, b, c, d⟩
        · cases b
        · exact .inr ⟨k, i, b, c, d⟩
      have run : ∀ a cap, m ≤ cap → (Instr.sliceAt t (.slice a n cap) lo' hi' mx').run P w = .ok (.slice (if m = l then a else a.map (·.add (l * size))) (h - l) (m - l)) w := fun a cap hcap =>
        run_sliceAt hu hs (run_bounds sl sh (sm cap) (by omega) hc1 hcap (fun _ => by rw [← hhs]; rfl)) w
      cases rx with
      | sl0 =>
        have hm0 : m = 0 := by rw [if_pos (by unfold loose; omega)] at hc3; omega
        subst hm0
        obtain rfl : h = 0 := by omega
        obtain rfl : l = 0 := by omega
        exact ⟨_, run none 0 (by omega), by simpa using VRel.sl0⟩
      | slX o n c h1 hc =>
        rw [if_pos hc] at hc3
        refine ⟨_, run _ c hc3, ?_⟩
        by_cases q : m = l
        · simp only [q, if_true]; exact .slX o _ _ h1 (by omega)
        · simp only [q, if_false, Option.map_some, addr_add, Nat.add_assoc]; exact .slX _ _ _ h1 (by omega)
      | slL o n sz c h1 hn hl2 =>
        rw [if_neg (by unfold loose; omega)] at hc3
        refine ⟨_, run _ c (by omega), ?_⟩
        by_cases q : m = l
        · simp only [q, if_true]; exact .slX o _ _ h1 (by omega)
        · simp only [q, if_false, Option.map_some, addr_add, Nat.add_assoc]; exact .slX _ _ _ h1 (by omega)
      | slD o sz a h1 hl2 =>
        rw [if_neg (by unfold loose; omega)] at hc3
        obtain rfl : m = 0 := by omega
        obtain rfl : h = 0 := by omega
        obtain rfl : l = 0 := by omega
        exact ⟨_, run _ 0 (by omega), by simpa using VRel.slE o a h1⟩
      | slE o a h1 =>
        rw [if_pos (by unfold loose; omega)] at hc3
        obtain rfl : m = 0 := by omega
        obtain rfl : h = 0 := by omega
        obtain rfl : l = 0 := by omega
        exact ⟨_, run _ 0 (by omega), by simpa using VRel.slE o a h1⟩
    · -- none
      dsimp only at e
      have hmx' : mx' = none := by
        cases mx' with
        | none => rfl
        | some v => exact rmx.elim
      subst hmx'
      have run : ∀ a cap, h ≤ cap → (Instr.sliceAt t (.slice a n cap) lo' hi' none).run P w = .ok (.slice (if cap = l then a else a.map (·.add (l * size))) (h - l) (cap - l)) w := fun a cap hcap =>
        run_sliceAt hu hs (run_bounds sl sh (.inl ⟨rfl, rfl⟩) (by omega) hcap (Nat.le_refl _) (fun q => by simp at q)) w
      split at e
      · rename_i hlo
        split at e
        case isFalse => cases e
        rename_i hc
        cases e
        cases rx with
        | sl0 =>
          obtain rfl : h = 0 := by omega
          obtain rfl : l = 0 := by omega
          exact ⟨_, run none 0 (by omega), by simpa using VRel.sl0⟩
        | slX o n c h1 hc2 =>
          refine ⟨_, run _ c hc, ?_⟩
          by_cases q : c = l
          · simp only [q, if_true]; exact .slX o _ _ h1 (by omega)
          · simp only [q, if_false, Option.map_some, addr_add, Nat.add_assoc]; exact .slX _ _ _ h1 (by omega)
        | slL o n sz c h1 hn hl2 => omega
        | slD o sz a h1 hl2 => omega
        | slE o a h1 =>
          obtain rfl : h = 0 := by omega
          obtain rfl : l = 0 := by omega
          exact ⟨_, run _ 0 (by omega), by simpa using VRel.slE o a h1⟩
      · rename_i hlo
        split at e
        case isFalse => cases e
        rename_i hc
        obtain ⟨hc1, hc2, hc3⟩ := hc
        cases e
        cases base with
        | none => cases rx; unfold loose at hc2; omega
        | some bo =>
          obtain ⟨b, o, sp⟩ := bo
          have hsp : sp = none := by cases rx <;> rfl
          subst hsp
          subst hc2
          obtain ⟨L, h1, ⟨cc, rfl, hn, hl2⟩ | ⟨a, rfl, rfl, hl2⟩⟩ := rx.loose_inv
          · refine ⟨_, run _ cc (by omega), ?_⟩
            by_cases q : cc = l
            · subst q
              obtain rfl : h = cc := by omega
              simp only [if_true, Option.map_some, addr_add, Nat.sub_self]
              exact .slD _ _ _ h1 (by omega)
            · simp only [q, if_false, Option.map_some, addr_add]
              rw [show L.base + o + l * size = L.base + (o + l * size) by omega]
              have hle : l ≤ cc := by omega
              have hmul : l * size + (cc - l) * size = cc * size := by rw [← Nat.add_mul]; congr 1; omega
              exact .slL _ _ _ _ h1 (by omega) (by omega)
          · obtain rfl : h = 0 := by omega
            obtain rfl : l = 0 := by omega
            refine ⟨_, run _ 0 (by omega), ?_⟩
            simpa [addr_add] using VRel.slD o size a h1 hl2
  · rename_i n elem a hu
    split at e
    case h_2 => cases e
    rename_i size l h m hs hl hh hm
    split at e
    case isFalse => cases e
    rename_i hc
    obtain ⟨hc1, hc2, hc3, hc4, hc5⟩ := hc
    cases e
    have sl : lo' = none ∧ l = 0 ∨ ∃ k i, lo' = some (.int k i) ∧ 0 ≤ i ∧ l = i.toNat := by
      rcases aBound_spec hl rlo with ⟨_, b, c⟩ | ⟨k, i, _, b, c, d⟩
      · exact .inl ⟨b, c⟩
      · exact .inr ⟨k, i, b, c, d⟩
    have sh : hi' = none ∧ h = n ∨ ∃ k i, hi' = some (.int k i) ∧ 0 ≤ i ∧ h = i.toNat := by
      rcases aBound_spec hh rhi with ⟨_, b, c⟩ | ⟨k, i, _, b, c, d⟩
      · exact .inl ⟨b, c⟩
      · exact .inr ⟨k, i, b, c, d⟩
    have sm : mx' = none ∧ m = n ∨ ∃ k i, mx' = some (.int k i) ∧ 0 ≤ i ∧ m = i.toNat := by
      rcases aBound_spec hm rmx with ⟨_, b, c⟩ | ⟨k, i, _, b, c, d⟩
      · exact .inl ⟨b, c⟩
      · exact .inr ⟨k, i, b, c, d⟩
    have hhs : hi.isSome = hi'.isSome := by
      cases hi <;> cases hi' <;> first | rfl | exact rhi.elim
    have hms : mx.isSome = mx'.isSome := by
      cases mx <;> cases mx' <;> first | rfl | exact rmx.elim
    cases rx with
    | ptr o h1 =>
      rename_i L
      have hb := fun b w => run_bounds (P := P) sl sh sm hc1 hc2 hc3 (fun q => by rw [← hhs]; exact hc5 (by rw [hms]; exact q)) b w
      refine ⟨.slice (some (if m = l then ⟨L.g, L.base + o, none⟩ else (⟨L.g, L.base + o, none⟩ : Addr).add (l * size))) (h - l) (m - l), ?_, ?_⟩
      · unfold Instr.sliceAt
        simp [run_und hu, hb, run_size hs, Instr.sureAddr]
      · by_cases q : m = l
        · simp only [q, if_true]; exact .slX o _ _ h1 (by omega)
        · simp only [q, if_false, addr_add, Nat.add_assoc]; exact .slX _ _ _ h1 (by omega)
  · cases e

theorem aFieldAddr_sound {t : TypeId} {x x' v : Value} {f : Nat} (e : aFieldAddr P t x f = some v) (rx : VRel ι x x') (w : World) : ∃ v', (Instr.fieldAt t x' f).run P w = .ok v' w ∧ VRel ι v v' := by
  unfold aFieldAddr at e
  split at e
  case h_2 => cases e
  rename_i fields a hu
  split at e
  case h_2 => cases e
  rename_i fl hf
  split at e
  case h_2 => cases e
  rename_i n hs
  split at e
  case isTrue => cases e
  rename_i hn
  cases e
  cases rx with
  | ptr o h1 =>
    rename_i L
    refine ⟨.pointer (some ((⟨L.g, L.base + o, none⟩ : Addr).add fl.offset)), ?_, ?_⟩
    · unfold Instr.fieldAt
      simp [run_und hu, hf, Instr.sureAddr, fieldPlace, run_size hs, hn]
    · simp only [addr_add, Nat.add_assoc]; exact .ptr _ h1

theorem aField_sound {t : TypeId} {x x' v : Value} {f : Nat} (e : aField P t x f = some v) (rx : VRel ι x x') (w : World) : ∃ v', (Instr.field t x' f).run P w = .ok v' w ∧ VRel ι v v' := by
  unfold aField at e
  split at e
  case h_2 => cases e
  rename_i fields cs hu
  split at e
  case h_2 => cases e
  rename_i fl hf
  cases rx with
  | agg hc hcs =>
    obtain ⟨v', hr, rv⟩ := aPart_sound e ⟨hc, hcs⟩ w
    exact ⟨v', by simp [Instr.field, run_und hu, hf, asAgg, hr], rv⟩

theorem aIndexAddr_sound {t : TypeId} {x x' i i' v : Value} (e : aIndexAddr P t x i = some v) (rx : VRel ι x x') (ri : VRel ι i i') (w : World) : ∃ v', (Instr.indexAt t x' i').run P w = .ok v' w ∧ VRel ι v v' := by
  unfold aIndexAddr at e
  split at e
  · rename_i elem a n c k j hu
    split at e
    case h_2 => cases e
    rename_i size hs
    split at e
    case isFalse => cases e
    rename_i hj
    cases e
    cases ri
    have run : ∀ a c, (Instr.indexAt t (.slice (some a) n c) (.int k j)).run P w = .ok (.pointer (some (a.add (j.toNat * size)))) w := by
      intro a c
      unfold Instr.indexAt
      simp [asIntOf, run_und hu, hj, run_size hs]
    cases rx with
    | slX o n c h1 hc => exact ⟨_, run _ _, by simp only [addr_add, Nat.add_assoc]; exact .ptr _ h1⟩
    | slL o n sz c h1 hn hl2 => exact ⟨_, run _ _, by simp only [addr_add, Nat.add_assoc]; exact .ptr _ h1⟩
    | slD o sz a h1 hl2 => omega
    | slE o a h1 => omega
  · rename_i n elem a k j hu
    split at e
    case h_2 => cases e
    rename_i size hs
    split at e
    case isFalse => cases e
    rename_i hj
    cases e
    cases ri
    cases rx with
    | ptr o h1 =>
      rename_i L
      refine ⟨.pointer (some ((⟨L.g, L.base + o, none⟩ : Addr).add (j.toNat * size))), ?_, ?_⟩
      · unfold Instr.indexAt
        simp [asIntOf, run_und hu, hj, run_size hs, Instr.sureAddr]
      · simp only [addr_add, Nat.add_assoc]; exact .ptr _ h1
  · cases e

theorem aIndex_sound {t : TypeId} {x x' i i' v : Value} (e : aIndex P t x i = some v) (rx : VRel ι x x') (ri : VRel ι i i') (w : World) : ∃ v', (Instr.index t x' i').run P w = .ok v' w ∧ VRel ι v v' := by
  unfold aIndex at e
  split at e
  case h_2 => cases e
  rename_i n elem cs k j hu
  split at e
  case h_2 => cases e
  rename_i size hs
  split at e
  case isFalse => cases e
  rename_i hj
  cases ri
  cases rx with
  | agg hc hcs =>
    obtain ⟨v', hr, rv⟩ := aPart_sound e ⟨hc, hcs⟩ w
    exact ⟨v', by simp [Instr.index, asIntOf, run_und hu, hj, run_size hs, hr], rv⟩

theorem aAssert_sound {x x' v : Value} {xt t : TypeId} {ok : Bool} (e : aAssert P x t ok = some v) (rx : VRel ι x x') (w : World) : ∃ v', (Instr.typeAssert x' xt t ok).run P w = .ok v' w ∧ VRel ι v v' := by
  have two : ∀ {a a' : Value} (b : Bool), VRel ι a a' → VRel ι (if ok then .tuple #[a, .bool b] else a) (if ok then .tuple #[a', .bool b] else a') := by
    intro a a' b ra
    cases ok
    · exact ra
    · exact .tuple' (by simpa using (ARel.empty ι).push ra |>.push (.bool b))
  unfold aAssert at e
  split at e
  · rename_i want u y hu
    split at e
    case h_2 => cases e
    rename_i i hi
    split at e
    case h_2 => cases e
    rename_i hm
    cases e
    cases rx with
    | iface _ r =>
      refine ⟨_, ?_, two true (.iface u r)⟩
      simp [Instr.typeAssert, run_und hu, run_info hi, hm]
  · cases e
  · rename_i d u y hd hu
    cases rx with
    | iface _ r =>
      rename_i y'
      split at e
      · rename_i hut
        cases e
        refine ⟨_, ?_, two true r⟩
        subst hut
        cases d <;> first | exact absurd rfl (hd _) | simp [Instr.typeAssert, run_und hu]
      · rename_i hut
        split at e
        case isFalse => cases e
        rename_i hok
        subst hok
        cases hz : tzero P t with
        | none => simp [hz] at e
        | some z =>
          simp [hz] at e; subst e
          refine ⟨.tuple #[z, .bool false], ?_, .tuple' (by simpa using (ARel.empty ι).push (tzero_rel hz ι) |>.push (.bool false))⟩
          cases d <;> first | exact absurd rfl (hd _) | simp [Instr.typeAssert, run_und hu, hut, run_zero hz]
  · cases e
end
end Go.Ags
