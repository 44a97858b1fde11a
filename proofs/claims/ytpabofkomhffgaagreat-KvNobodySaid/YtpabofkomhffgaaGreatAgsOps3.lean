/- Each operation of the evaluator is what the machine does: copy, maps. -/
import Derived.Test.YtpabofkomhffgaaGreatAgsOps2
set_option linter.unusedVariables false
set_option linter.unusedSimpArgs false
namespace Go.Ags
section
variable {P : Program} {ι : Inj} {h : AH} {w : World}

theorem aCells_zero {size : Nat} {x : Value} {cells : Array Value} (e : aCells h size 0 x = some cells) : cells.size = 0 := by
  unfold aCells at e
  split at e
  · simp at e; subst e; rfl
  · cases e; rfl
  · cases e; simp
  · cases e

theorem aCopy_sound {ats : Array TypeId} {args args' : Array Value} {v : Value} {h' : AH} (e : aCopy P h ats args = some (v, h')) (r : ARel ι args args') (k : HRel ι h w) (ty : TypeId) :
    ∃ v' w' δ, (Builtin.copy_ ats ty args').run P w = .ok v' w' ∧ Did ι h w ι h' w' δ ∧ VRel ι v v' := by
  unfold aCopy at e
  split at e
  case h_2 => cases e
  rename_i dType base dLen dCap src a0 b0 b1
  split at e
  case h_2 => cases e
  rename_i elem hu
  split at e
  case h_2 => cases e
  rename_i m size hm hs
  obtain ⟨src', b1', rx⟩ := r.get b1
  obtain ⟨s', b0', rs⟩ := r.get b0
  have hl := fun w => rx.len hm (P := P) w
  split at e
  case h_3 => cases e
  · rename_i cells b o hc
    obtain ⟨cells', hcr, rc⟩ := aCells_sound (P := P) hc rx k
    split at e
    · rename_i h0
      cases e
      have hz0 : cells'.toList = [] := by
        have : cells'.size = 0 := by rw [← rc.size]; exact h0
        simpa using this
      have : ∀ a c, s' = .slice (some a) dLen c → (Builtin.copy_ ats ty args').run P w = .ok (goInt (Nat.min m dLen : Nat)) w := by
        intro a c hs'
        subst hs'
        unfold Builtin.copy_
        simp [a0, b0', b1', run_und hu, hl, run_size hs, hcr w rfl, hz0, storeCells]
      cases rs with
      | slX o n c h1 hc => exact ⟨_, w, [], this _ _ rfl, .refl k rfl (.refl w), .int _ _⟩
      | slL o n sz c h1 hn hl2 => exact ⟨_, w, [], this _ _ rfl, .refl k rfl (.refl w), .int _ _⟩
      | slD o sz a h1 hl2 => exact ⟨_, w, [], this _ _ rfl, .refl k rfl (.refl w), .int _ _⟩
      | slE o a h1 => exact ⟨_, w, [], this _ _ rfl, .refl k rfl (.refl w), .int _ _⟩
    · rename_i h0
      split at e
      · rename_i h2 hw
        cases e
        have : ∀ (L : Loc) (c : Nat), ι b = some L → s' = .slice (some ⟨L.g, L.base + o, none⟩) dLen c → ∃ v' w' δ, (Builtin.copy_ ats ty args').run P w = .ok v' w' ∧ Did ι h w ι h' w' δ ∧ VRel ι (goInt (Nat.min m dLen : Nat)) v' := by
          intro L c hL hs'
          subst hs'
          obtain ⟨w', hr, hd, _⟩ := aWrite_sound (P := P) hw k rc.list hL
          refine ⟨_, w', _, ?_, hd, .int _ _⟩
          unfold Builtin.copy_
          simp [a0, b0', b1', run_und hu, hl, run_size hs, hcr w rfl, hr, goInt]
        cases rs with
        | slX o n c h1 hc => exact this _ _ h1 rfl
        | slL o n sz c h1 hn hl2 => exact this _ _ h1 rfl
        | slD o sz a h1 hl2 => exact absurd (aCells_zero (by simpa using hc)) h0
        | slE o a h1 => exact absurd (aCells_zero (by simpa using hc)) h0
      · cases e
  · rename_i cells hc
    cases e
    obtain ⟨cells', hcr, rc⟩ := aCells_sound (P := P) hc rx k
    cases rs
    refine ⟨_, w, [], ?_, .refl k rfl (.refl w), .int _ _⟩
    have hm0 : Nat.min m 0 = 0 := Nat.min_zero m
    rw [hm0] at hcr
    unfold Builtin.copy_
    simp [a0, b0', b1', run_und hu, hl, run_size hs, hcr w rfl, goInt]

/-! ### Maps -/
theorem pureVal_bind {α β : Type} (s : Sem α) (f : α → Sem β) : pureVal P (s >>= f) = (pureVal P s).bind fun a => pureVal P (f a) := by
  show pureVal P (s.bind f) = _
  induction s with
  | pure a => rfl
  | program k ih => simp only [Sem.bind, pureVal]; exact ih P
  | store m a v k ih => cases v <;> rfl
  | _ => rfl

theorem pureVal_pure {α : Type} (a : α) : pureVal P (Pure.pure a : Sem α) = some a := rfl

def stripE (e : MapEntry) : MapEntry := { e with val := .nilFunc }
def stripR : Option (Nat × Value) → Option (Nat × Value) := Option.map fun p => (p.1, .nilFunc)

theorem findNow_strip (kind : TypeDesc) (k : Value) : ∀ (l : List MapEntry) (i : Nat), Instr.findNow kind k (l.map stripE) i = (Instr.findNow kind k l i).map stripR
  | [], i => rfl
  | e :: l, i => by
    simp only [List.map_cons, Instr.findNow, stripE]
    cases Instr.sameNow kind k e.key with
    | none => rfl
    | some b => cases b with
      | true => rfl
      | false => exact findNow_strip kind k l (i + 1)

theorem findAsking_strip (kt : TypeId) (k : Value) : ∀ (l : List MapEntry) (i : Nat), pureVal P (Instr.findAsking kt k (l.map stripE) i) = (pureVal P (Instr.findAsking kt k l i)).map stripR
  | [], i => rfl
  | e :: l, i => by
    simp only [List.map_cons, Instr.findAsking, pureVal_bind, stripE]
    cases pureVal P (Op.equal kt k e.key) with
    | none => rfl
    | some b => cases b with
      | true => rfl
      | false => exact findAsking_strip kt k l (i + 1)

theorem findNow_val (kind : TypeDesc) (k : Value) : ∀ (l : List MapEntry) (i j : Nat) (v : Value), Instr.findNow kind k l i = some (some (j, v)) → i ≤ j ∧ ∃ e, l[j - i]? = some e ∧ v = e.val
  | [], i, j, v, h => by simp [Instr.findNow] at h
  | e :: l, i, j, v, h => by
    simp only [Instr.findNow] at h
    cases hs : Instr.sameNow kind k e.key with
    | none => simp [hs] at h
    | some b => cases b with
      | true => simp [hs] at h; obtain ⟨rfl, rfl⟩ := h; exact ⟨Nat.le_refl _, e, by simp, rfl⟩
      | false =>
        simp only [hs] at h
        obtain ⟨h1, e', h2, h3⟩ := findNow_val kind k l (i + 1) j v h
        exact ⟨by omega, e', by rw [show j - i = (j - (i + 1)) + 1 by omega]; simpa using h2, h3⟩

theorem findAsking_val (kt : TypeId) (k : Value) : ∀ (l : List MapEntry) (i j : Nat) (v : Value), pureVal P (Instr.findAsking kt k l i) = some (some (j, v)) → i ≤ j ∧ ∃ e, l[j - i]? = some e ∧ v = e.val
  | [], i, j, v, h => by simp [Instr.findAsking, pureVal_pure] at h
  | e :: l, i, j, v, h => by
    simp only [Instr.findAsking, pureVal_bind] at h
    cases hs : pureVal P (Op.equal kt k e.key) with
    | none => simp [hs] at h
    | some b => cases b with
      | true => simp [hs, pureVal_pure] at h; obtain ⟨rfl, rfl⟩ := h; exact ⟨Nat.le_refl _, e, by simp, rfl⟩
      | false =>
        simp [hs] at h
        obtain ⟨h1, e', h2, h3⟩ := findAsking_val kt k l (i + 1) j v h
        exact ⟨by omega, e', by rw [show j - i = (j - (i + 1)) + 1 by omega]; simpa using h2, h3⟩

theorem findKey_strip (kt : TypeId) (k : Value) (l : List MapEntry) : pureVal P (Instr.findKey kt k (l.map stripE)) = (pureVal P (Instr.findKey kt k l)).map stripR := by
  unfold Instr.findKey
  simp only [pureVal_bind]
  cases pureVal P (underlying kt) with
  | none => rfl
  | some d =>
    simp only [Option.bind_some, findNow_strip]
    cases Instr.findNow d k l 0 with
    | none => exact findAsking_strip kt k l 0
    | some r => rfl

theorem findKey_val (kt : TypeId) (k : Value) (l : List MapEntry) (j : Nat) (v : Value) (h : pureVal P (Instr.findKey kt k l) = some (some (j, v))) : ∃ e, l[j]? = some e ∧ v = e.val := by
  unfold Instr.findKey at h
  simp only [pureVal_bind] at h
  cases hu : pureVal P (underlying kt) with
  | none => simp [hu] at h
  | some d =>
    simp only [hu, Option.bind_some] at h
    cases hn : Instr.findNow d k l 0 with
    | none =>
      simp only [hn] at h
      obtain ⟨_, e, h1, h2⟩ := findAsking_val kt k l 0 j v h
      exact ⟨e, by simpa using h1, h2⟩
    | some r =>
      simp only [hn, pureVal_pure, Option.some.injEq] at h
      subst h
      obtain ⟨_, e, h1, h2⟩ := findNow_val d k l 0 j v hn
      exact ⟨e, by simpa using h1, h2⟩

theorem ERel.keys {es es' : Array MapEntry} (r : ERel ι es es') (ha : es.all (fun e => af e.key) = true) : es'.toList.map stripE = es.toList.map stripE := by
  apply List.ext_getElem
  · simp [r.size]
  · intro i h1 h2
    simp at h1 h2
    have e1 := Array.getElem?_eq_getElem h2
    have e2 := Array.getElem?_eq_getElem h1
    obtain ⟨rk, _, rb⟩ := r.at_ i _ _ e1 e2
    have hk : af es[i].key = true := by
      rw [Array.all_eq_true] at ha
      simpa using ha i h2
    have := rk.af_eq hk
    simp only [List.getElem_map, Array.getElem_toList, stripE]
    cases hx : es'[i]; cases hy : es[i]
    simp_all

theorem ERel.get {es es' : Array MapEntry} (r : ERel ι es es') {i : Nat} {e : MapEntry} (h : es[i]? = some e) : ∃ e', es'[i]? = some e' ∧ VRel ι e.key e'.key ∧ VRel ι e.val e'.val ∧ e'.born = e.born := by
  obtain ⟨hi, _⟩ := Array.getElem?_eq_some_iff.1 h
  have hi' : i < es'.size := r.size ▸ hi
  exact ⟨es'[i], Array.getElem?_eq_getElem hi', r.at_ i _ _ h (Array.getElem?_eq_getElem hi')⟩

theorem aFind_sound {kt : TypeId} {k k' : Value} {es es' : Array MapEntry} {r : Option Nat} (e : aFind P kt k es = some r) (re : ERel ι es es') (rk : VRel ι k k') :
    k' = k ∧ es.all (fun e => af e.key) = true ∧ (∀ w, (Instr.checkKey es'.isEmpty 10000 kt k).run P w = .ok () w) ∧ (∀ w, (Instr.checkKey false 10000 kt k).run P w = .ok () w) ∧
      ∃ r', (∀ w, (Instr.findKey kt k es'.toList).run P w = .ok r' w) ∧ (r = none → r' = none) ∧ (∀ i, r = some i → ∃ x x', es[i]? = some x ∧ es'[i]? = some x' ∧ r' = some (i, x'.val)) := by
  unfold aFind at e
  split at e
  case isFalse => cases e
  rename_i ha
  simp only [Bool.and_eq_true] at ha
  split at e
  case h_2 => cases e
  rename_i u u2 r0 h1 h1b h2
  cases e
  have hkeys := re.keys ha.2
  have h2' : pureVal P (Instr.findKey kt k (es'.toList.map stripE)) = some r0 := by rw [hkeys]; exact h2
  rw [findKey_strip] at h2'
  cases hr : pureVal P (Instr.findKey kt k es'.toList) with
  | none => simp [hr] at h2'
  | some r' =>
    simp [hr] at h2'
    have hemp : es'.isEmpty = es.isEmpty := by simp [Array.isEmpty, re.size]
    refine ⟨rk.af_eq ha.1, ha.2, fun w => by rw [hemp]; exact pureVal_run _ _ h1 w, fun w => pureVal_run _ _ h1b w, r', fun w => pureVal_run _ _ hr w, fun hn => ?_, fun i hi => ?_⟩
    · cases r' with
      | none => rfl
      | some p => subst h2'; simp [stripR] at hn
    · cases r' with
      | none => subst h2'; simp [stripR] at hi
      | some p =>
        subst h2'
        simp [stripR] at hi
        obtain ⟨j, v⟩ := p
        simp at hi; subst hi
        obtain ⟨x', hx, hv⟩ := findKey_val kt k es'.toList j v hr
        have hx' : es'[j]? = some x' := by simpa using hx
        obtain ⟨hj, _⟩ := Array.getElem?_eq_some_iff.1 hx'
        have hj' : j < es.size := by rw [re.size]; exact hj
        exact ⟨es[j], x', Array.getElem?_eq_getElem hj', hx', by rw [hv]⟩

theorem run_getMap {g : Nat} {es : Array MapEntry} {c : Nat} (hg : w.heap[g]? = some (.map es c)) : (getObj g).run P w = .ok (.map es c) w := by
  simp [getObj, Sem.run, hg]
theorem run_setMap {g : Nat} {es : Array MapEntry} {c : Nat} (o : Obj) (hg : w.heap[g]? = some (.map es c)) : (setObj g o).run P w = .ok () (w.putObj g o) := by
  simp [setObj, Sem.run, hg, World.putObj]

theorem aMap_sound {m m' : Value} {es : Array MapEntry} (e : aMap h m = some es) (rm : VRel ι m m') (k : HRel ι h w) :
    (m' = .map none ∧ es = #[]) ∨ ∃ g es' c, m' = .map (some g) ∧ w.heap[g]? = some (.map es' c) ∧ ERel ι es es' := by
  unfold aMap at e
  split at e
  · cases e; cases rm; exact .inl ⟨rfl, rfl⟩
  · split at e
    · cases e
      rename_i r _ c hb
      obtain ⟨L, es', i, hg, re⟩ := k.map hb
      cases rm with
      | map h1 => rw [i] at h1; cases h1; exact .inr ⟨_, es', c, rfl, hg, re⟩
    · cases e
  · cases e

theorem aLookup_sound {t : TypeId} {m m' x x' : Value} {ok : Bool} {v : Value} (e : aLookup P h t m x ok = some v) (rm : VRel ι m m') (rx : VRel ι x x') (k : HRel ι h w) :
    ∃ v', (Instr.lookup t m' x' ok).run P w = .ok v' w ∧ VRel ι v v' := by
  unfold aLookup at e
  split at e
  case h_2 => cases e
  rename_i kt elem es hu hm
  have fin : ∀ es', ERel ι es es' → (∀ {α : Type} (f : Array MapEntry → Sem α), True) →
      ∃ v', VRel ι v v' ∧ x' = x ∧ (∀ w, (Instr.checkKey es'.isEmpty 10000 kt x).run P w = .ok () w) ∧ ∃ r', (∀ w, (Instr.findKey kt x es'.toList).run P w = .ok r' w) ∧
        ((r' = none ∧ ∃ z, (∀ w, (zeroValue elem).run P w = .ok z w) ∧ v' = if ok then .tuple #[z, .bool false] else z) ∨ (∃ i y, r' = some (i, y) ∧ v' = if ok then .tuple #[y, .bool true] else y)) := by
    intro es' re _
    have two : ∀ {a a' : Value} (b : Bool), VRel ι a a' → VRel ι (if ok then .tuple #[a, .bool b] else a) (if ok then .tuple #[a', .bool b] else a') := by
      intro a a' b ra
      cases ok
      · exact ra
      · exact .tuple' (by simpa using (ARel.empty ι).push ra |>.push (.bool b))
    split at e
    · rename_i i hf
      obtain ⟨e1, ha, hck, _, r', hfk, _, hs⟩ := aFind_sound hf re rx
      obtain ⟨y, y', hy, hy', hr'⟩ := hs i rfl
      simp [hy] at e; subst e
      obtain ⟨_, rv, _⟩ := re.at_ i _ _ hy hy'
      exact ⟨_, two true rv, e1, hck, r', hfk, .inr ⟨i, y'.val, hr', rfl⟩⟩
    · rename_i hf
      obtain ⟨e1, ha, hck, _, r', hfk, hn, _⟩ := aFind_sound hf re rx
      cases hz : tzero P elem with
      | none => simp [hz] at e
      | some z =>
        simp [hz] at e; subst e
        exact ⟨_, two false (tzero_rel hz ι), e1, hck, r', hfk, .inl ⟨hn rfl, z, run_zero hz, rfl⟩⟩
    · cases e
  rcases aMap_sound hm rm k with ⟨rfl, rfl⟩ | ⟨g, es', c, rfl, hg, re⟩
  · obtain ⟨v', rv, rfl, hck, r', hfk, hh⟩ := fin #[] ⟨rfl, fun i a b h1 => by simp at h1⟩ (fun _ => trivial)
    refine ⟨v', ?_, rv⟩
    unfold Instr.lookup
    rcases hh with ⟨rfl, z, hz, rfl⟩ | ⟨i, y, rfl, rfl⟩
    · simp [run_und hu, hck, hfk, hz] at *
      simp [run_und hu, hck, hfk, hz]
    · simp [run_und hu, hck, hfk] at *
      simp [run_und hu, hck, hfk]
  · obtain ⟨v', rv, rfl, hck, r', hfk, hh⟩ := fin es' re (fun _ => trivial)
    refine ⟨v', ?_, rv⟩
    unfold Instr.lookup
    rcases hh with ⟨rfl, z, hz, rfl⟩ | ⟨i, y, rfl, rfl⟩
    · simp [run_und hu, run_getMap hg, hck, hfk, hz]
    · simp [run_und hu, run_getMap hg, hck, hfk]
end
end Go.Ags
