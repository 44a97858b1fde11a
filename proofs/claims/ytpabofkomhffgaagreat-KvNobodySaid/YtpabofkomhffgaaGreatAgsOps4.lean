/- Each operation of the evaluator is what the machine does: writing to maps, lengths, equality, structs, slices. -/
import Derived.Test.YtpabofkomhffgaaGreatAgsOps3
set_option linter.unusedVariables false
set_option linter.unusedSimpArgs false
namespace Go.Ags
section
variable {P : Program} {ι : Inj} {h : AH} {w : World}

theorem ERel.modify {es es' : Array MapEntry} (r : ERel ι es es') (i : Nat) (f f' : MapEntry → MapEntry)
    (hf : ∀ e e', es[i]? = some e → es'[i]? = some e' → VRel ι (f e).key (f' e').key ∧ VRel ι (f e).val (f' e').val ∧ (f' e').born = (f e).born) : ERel ι (es.modify i f) (es'.modify i f') := by
  refine ⟨by simp [r.size], fun j e e' h1 h2 => ?_⟩
  rw [Array.getElem?_modify] at h1 h2
  by_cases hj : i = j
  · subst hj
    simp only [if_true] at h1 h2
    cases a : es[i]? with
    | none => simp [a] at h1
    | some x =>
      cases b : es'[i]? with
      | none => simp [b] at h2
      | some y =>
        simp [a] at h1; simp [b] at h2; subst h1; subst h2
        exact hf x y a b
  · simp only [hj, if_false] at h1 h2
    exact r.at_ j e e' h1 h2

theorem ERel.push {es es' : Array MapEntry} (r : ERel ι es es') {e e' : MapEntry} (hk : VRel ι e.key e'.key) (hv : VRel ι e.val e'.val) (hb : e'.born = e.born) : ERel ι (es.push e) (es'.push e') := by
  refine ⟨by simp [r.size], fun j x x' h1 h2 => ?_⟩
  rw [Array.getElem?_push] at h1 h2
  rw [← r.size] at h2
  split at h1
  · rename_i q; simp only [q, if_true] at h2; cases h1; cases h2; exact ⟨hk, hv, hb⟩
  · rename_i q; simp only [q, if_false] at h2; exact r.at_ j x x' h1 h2

theorem ERel.erase {es es' : Array MapEntry} (r : ERel ι es es') (i : Nat) : ERel ι (es.eraseIdxIfInBounds i) (es'.eraseIdxIfInBounds i) := by
  have hs := r.size
  by_cases hi : i < es.size
  · have hi' : i < es'.size := by omega
    unfold Array.eraseIdxIfInBounds
    rw [dif_pos hi, dif_pos hi']
    refine ⟨by simp [hs], fun j x x' h1 h2 => ?_⟩
    rw [Array.getElem?_eraseIdx] at h1 h2
    split at h1
    · rename_i q; simp only [q, if_true] at h2; exact r.at_ j x x' h1 h2
    · rename_i q; simp only [q, if_false] at h2; exact r.at_ _ x x' h1 h2
  · have hi' : ¬ i < es'.size := by omega
    unfold Array.eraseIdxIfInBounds
    rw [dif_neg hi, dif_neg hi']; exact r

theorem putObj_same {g : Nat} {o : Obj} (hg : w.heap[g]? = some o) : (w.putObj g o).heap = w.heap := by
  obtain ⟨hl, e⟩ := Array.getElem?_eq_some_iff.1 hg
  unfold World.putObj
  rw [← e]
  simp [Array.setIfInBounds, hl]

theorem aMapUpdate_sound {t : TypeId} {m m' x x' y y' : Value} {h' : AH} (e : aMapUpdate P h t m x y = some h') (rm : VRel ι m m') (rx : VRel ι x x') (ry : VRel ι y y') (k : HRel ι h w) :
    ∃ w' δ, (Instr.mapUpdate t m' x' y').run P w = .ok () w' ∧ Did ι h w ι h' w' δ := by
  unfold aMapUpdate at e
  split at e
  case h_2 => cases e
  rename_i kt elem r hu
  split at e
  case h_2 => cases e
  rename_i es clock hb
  split at e
  case isFalse => cases e
  rename_i hro
  obtain ⟨L, es', hL, hg, re⟩ := k.map hb
  cases rm with
  | map h1 =>
    rw [hL] at h1; cases h1
    split at e
    · rename_i i hf
      obtain ⟨rfl, ha, _, hck, r', hfk, _, hs⟩ := aFind_sound hf re rx
      obtain ⟨z, z', hz, hz', hr'⟩ := hs i rfl
      simp only [hz] at e
      split at e
      case isFalse => cases e
      rename_i hsb
      cases e
      obtain ⟨rk, rv, rb⟩ := re.at_ i _ _ hz hz'
      have hzk : af z.key = true := by
        obtain ⟨hi, he⟩ := Array.getElem?_eq_some_iff.1 hz
        rw [Array.all_eq_true] at ha
        rw [← he]; simpa using ha i hi
      have hkk : z'.key = z.key := rk.af_eq hzk
      refine ⟨w.putObj L.g (.map (es'.modify i fun e => { e with key := x', val := y' }) clock), _, ?_, Did.put (o := .map (es.modify i fun e => { e with key := x', val := y }) clock) k hb hro hL rfl ⟨rfl, rfl, rfl⟩ ⟨rfl, re.modify i _ _ fun a a' q q' => ?_⟩⟩
      · unfold Instr.mapUpdate
        simp [run_und hu, run_getMap hg, hck, hfk, hr', Instr.keyThatStays, hz', hkk, hsb, run_setMap _ hg]
      · obtain ⟨_, _, b⟩ := re.at_ i a a' q q'
        exact ⟨rx, ry, b⟩
    · rename_i hf
      obtain ⟨rfl, ha, _, hck2, r', hfk, hn, _⟩ := aFind_sound hf re rx
      cases e
      have hr' := hn rfl
      refine ⟨w.putObj L.g (.map (es'.push { key := x', val := y', born := clock }) (clock + 1)), _, ?_, Did.put (o := .map (es.push { key := x', val := y, born := clock }) (clock + 1)) k hb hro hL rfl ⟨rfl, rfl, rfl⟩ ⟨rfl, re.push rx ry rfl⟩⟩
      unfold Instr.mapUpdate
      simp [run_und hu, run_getMap hg, hck2, hfk, hr', run_setMap _ hg]
    · cases e

theorem aDelete_sound {ats : Array TypeId} {args args' : Array Value} {v : Value} {h' : AH} (e : aDelete P h ats args = some (v, h')) (r : ARel ι args args') (k : HRel ι h w) (ty : TypeId) :
    ∃ v' w' δ, (Builtin.delete_ ats ty args').run P w = .ok v' w' ∧ Did ι h w ι h' w' δ ∧ VRel ι v v' := by
  unfold aDelete at e
  split at e
  case h_2 => cases e
  rename_i t q x a0 b0 b1
  obtain ⟨x', b1', rx⟩ := r.get b1
  obtain ⟨m', b0', rm⟩ := r.get b0
  split at e
  case h_2 => cases e
  rename_i kt elem es clock hu hb
  split at e
  case isFalse => cases e
  rename_i hro
  obtain ⟨L, es', hL, hg, re⟩ := k.map hb
  cases rm with
  | map h1 =>
    rw [hL] at h1; cases h1
    split at e
    · rename_i i hf
      cases e
      obtain ⟨rfl, ha, hck, _, r', hfk, _, hs⟩ := aFind_sound hf re rx
      obtain ⟨z, z', hz, hz', hr'⟩ := hs i rfl
      refine ⟨_, w.putObj L.g (.map (es'.eraseIdxIfInBounds i) clock), _, ?_, Did.put (o := .map (es.eraseIdxIfInBounds i) clock) k hb hro hL rfl ⟨rfl, rfl, rfl⟩ ⟨rfl, re.erase i⟩, .undef⟩
      unfold Builtin.delete_
      simp [a0, b0', b1', run_und hu, run_getMap hg, hck, hfk, hr', run_setMap _ hg, undef]
    · rename_i hf
      cases e
      obtain ⟨rfl, ha, hck, _, r', hfk, hn, _⟩ := aFind_sound hf re rx
      have hr' := hn rfl
      refine ⟨_, w.putObj L.g (.map es' clock), [], ?_, .refl k (putObj_same hg) ⟨rfl, rfl, rfl⟩, .undef⟩
      unfold Builtin.delete_
      simp [a0, b0', b1', run_und hu, run_getMap hg, hck, hfk, hr', run_setMap _ hg, undef]
    · cases e

theorem zeroCells_rel {z : Array Value} {n : Nat} (hz : ∀ v, v ∈ z → VRel ι v v) (h0 : z.size ≠ 0) : ARel ι (Builtin.zeroCells z n) (Builtin.zeroCells z n) := by
  unfold Builtin.zeroCells
  refine ARel.map _ _ _ fun x _ => hz _ ?_
  have hl : x % z.size < z.size := Nat.mod_lt _ (by omega)
  rw [getElem!_pos z _ hl]
  exact Array.getElem_mem hl

theorem range_rel {z : Array Value} {n : Nat} (hz : ∀ v, v ∈ z → VRel ι v v) (h0 : n ≠ 0 → z.size ≠ 0) : ARel ι ((Array.range n).map (z[· % z.size]!)) ((Array.range n).map (z[· % z.size]!)) := by
  refine ARel.map _ _ _ fun x hx => hz _ ?_
  have hn : n ≠ 0 := by intro e; subst e; simp at hx
  have hl : x % z.size < z.size := Nat.mod_lt _ (by have := h0 hn; omega)
  rw [getElem!_pos z _ hl]
  exact Array.getElem_mem hl

theorem tzero_cells {t : TypeId} {z : Value} (e : tzero P t = some z) (ι : Inj) : ∀ v, v ∈ z.cells → VRel ι v v := by
  intro v hv
  have r := (tzero_rel e ι).cells
  obtain ⟨i, hi, rfl⟩ := Array.mem_iff_getElem.1 hv
  exact r.at_ i _ _ (Array.getElem?_eq_getElem hi) (Array.getElem?_eq_getElem hi)

theorem aClear_sound {ats : Array TypeId} {args args' : Array Value} {v : Value} {h' : AH} (e : aClear P h ats args = some (v, h')) (r : ARel ι args args') (k : HRel ι h w) (ty : TypeId) :
    ∃ v' w' δ, (Builtin.clear_ ats ty args').run P w = .ok v' w' ∧ Did ι h w ι h' w' δ ∧ VRel ι v v' := by
  unfold aClear at e
  split at e
  · rename_i t base n c a0 b0
    obtain ⟨s', b0', rs⟩ := r.get b0
    split at e
    case h_2 => cases e
    rename_i elem hu
    split at e
    case h_2 => cases e
    rename_i z size hz hs
    split at e
    case isTrue => cases e
    rename_i hzs
    split at e
    · rename_i hn0
      cases e
      subst hn0
      refine ⟨_, w, [], ?_, .refl k rfl (.refl w), .undef⟩
      unfold Builtin.clear_
      cases rs <;> simp [a0, b0', run_und hu, undef]
    · rename_i hn0
      split at e
      case h_2 => cases e
      rename_i b o
      split at e
      case h_2 => cases e
      rename_i hw
      cases e
      have hzr : ARel ι (Builtin.zeroCells z.cells n) (Builtin.zeroCells z.cells n) := by
        by_cases h0 : z.cells.size = 0
        · have : Builtin.zeroCells z.cells n = #[] := by
            have := zeroCells_size z.cells n
            rw [h0] at this
            exact Array.eq_empty_of_size_eq_zero (by simpa using this)
          rw [this]; exact .empty _
        · exact zeroCells_rel (tzero_cells hz ι) h0
      have go : ∀ (L : Loc) (c' : Nat), ι b = some L → s' = .slice (some ⟨L.g, L.base + o, none⟩) n c' → ∃ v' w' δ, (Builtin.clear_ ats ty args').run P w = .ok v' w' ∧ Did ι h w ι h' w' δ ∧ VRel ι (.tuple #[]) v' := by
        intro L c' hL hs'
        subst hs'
        obtain ⟨w', hr, hd, _⟩ := aWrite_sound (P := P) hw k hzr.list hL
        refine ⟨_, w', _, ?_, hd, .undef⟩
        unfold Builtin.clear_
        obtain ⟨n, rfl⟩ : ∃ m, n = m + 1 := ⟨n - 1, by omega⟩
        simp [a0, b0', run_und hu, run_zero hz, hr, undef]
      cases rs with
      | slX o n c h1 hc => exact go _ _ h1 rfl
      | slL o n sz c h1 hn hl2 => exact go _ _ h1 rfl
      | slD o sz a h1 hl2 => exact absurd rfl hn0
      | slE o a h1 => exact absurd rfl hn0
  · rename_i t q a0 b0
    obtain ⟨s', b0', rs⟩ := r.get b0
    split at e
    case h_2 => cases e
    rename_i es clock kt el hb hu
    split at e
    case isFalse => cases e
    rename_i hro
    cases e
    obtain ⟨L, es', hL, hg, re⟩ := k.map hb
    cases rs with
    | map h1 =>
      rw [hL] at h1; cases h1
      refine ⟨_, w.putObj L.g (.map #[] clock), _, ?_, Did.put (o := .map #[] clock) k hb hro hL rfl ⟨rfl, rfl, rfl⟩ ⟨rfl, rfl, fun i a b h1 => by simp at h1⟩, .undef⟩
      unfold Builtin.clear_
      simp [a0, b0', run_und hu, run_getMap hg, run_setMap _ hg, undef]
  · rename_i t a0 b0
    obtain ⟨s', b0', rs⟩ := r.get b0
    split at e
    case isFalse => cases e
    rename_i hu0
    cases e
    obtain ⟨d, hu⟩ := Option.isSome_iff_exists.1 hu0
    cases rs
    refine ⟨_, w, [], ?_, .refl k rfl (.refl w), .undef⟩
    unfold Builtin.clear_
    simp [a0, b0', run_und hu, undef]
  · cases e

theorem aLenOf_sound {ats : Array TypeId} {args args' : Array Value} {v : Value} (e : aLenOf P h ats args = some v) (r : ARel ι args args') (k : HRel ι h w) (ty : TypeId) :
    ∃ v', (Builtin.len_ ats ty args').run P w = .ok v' w ∧ VRel ι v v' := by
  unfold aLenOf at e
  split at e
  case h_2 => cases e
  rename_i t x a0 b0
  obtain ⟨x', b0', rx⟩ := r.get b0
  have go : ∀ n : Int, (Builtin.len_ ats ty args').run P w = .ok (goInt n) w → v = goInt n → ∃ v', (Builtin.len_ ats ty args').run P w = .ok v' w ∧ VRel ι v v' := fun n h1 h2 => ⟨_, h1, by subst h2; exact .int _ _⟩
  split at e
  · rename_i s hu
    cases e; cases rx
    refine go _ ?_ rfl
    unfold Builtin.len_
    simp [a0, b0', run_und hu]
  · rename_i hu
    cases e
    refine go _ ?_ rfl
    unfold Builtin.len_
    cases rx <;> simp [a0, b0', run_und hu]
  · rename_i n el hu
    cases e
    refine go n ?_ rfl
    unfold Builtin.len_
    simp [a0, b0', run_und hu]
  · rename_i hu
    cases e; cases rx
    refine go 0 ?_ rfl
    unfold Builtin.len_
    simp [a0, b0', run_und hu]
  · rename_i q hu
    split at e
    case h_2 => cases e
    rename_i es clock hb
    cases e
    obtain ⟨L, es', hL, hg, re⟩ := k.map hb
    cases rx with
    | map h1 =>
      rw [hL] at h1; cases h1
      refine go es.size ?_ rfl
      unfold Builtin.len_
      simp [a0, b0', run_und hu, run_getMap hg, re.size]
  · cases e
end
end Go.Ags
