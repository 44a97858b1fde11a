/- Each operation of the evaluator is what the machine does: equality, structs, addresses. -/
import Derived.Test.YtpabofkomhffgaaGreatAgsOps4
set_option linter.unusedVariables false
set_option linter.unusedSimpArgs false
namespace Go.Ags
section
variable {P : Program} {ι : Inj} {h : AH} {w : World}

set_option maxHeartbeats 2000000 in
theorem aEq_sound1 {t : TypeId} {x x' y y' : Value} {b : Bool} (e : aEq P t x y = some b) (rx : VRel ι x x') (ry : VRel ι y y') (w : World) (d : Nat) :
    (Op.equalIn (d + 1) t x' y').run P w = .ok b w := by
  unfold aEq at e
  split at e
  · rename_i hu; cases e; cases rx; cases ry <;> simp [Op.equalIn, run_und hu]
  · rename_i hu; cases e; cases rx; cases ry; simp [Op.equalIn, run_und hu]
  · rename_i el b1 o1 b2 o2 hu
    split at e
    case h_2 => cases e
    rename_i n hs
    split at e
    case isFalse => cases e
    rename_i hc
    obtain ⟨hn, rfl⟩ := hc
    cases e
    cases rx with
    | ptr _ i1 =>
      cases ry with
      | ptr _ i2 =>
        rw [i1] at i2; cases i2
        rename_i L
        have : ((⟨L.g, L.base + o1, none⟩ : Addr) == ⟨L.g, L.base + o2, none⟩) = (o1 == o2) := by
          rw [Bool.eq_iff_iff]; simp
        simp [Op.equalIn, run_und hu, run_size hs, hn, sameAddr, this]
  · rename_i hu; cases e; cases rx; cases ry; simp [Op.equalIn, run_und hu]
  · rename_i hu; cases e; cases rx; cases ry; simp [Op.equalIn, run_und hu]
  · rename_i hu; cases e; cases rx; cases ry <;> simp [Op.equalIn, run_und hu]
  · rename_i hu; cases e; cases ry; cases rx <;> simp [Op.equalIn, run_und hu]
  · rename_i hu; cases e; cases rx; cases ry <;> simp [Op.equalIn, run_und hu]
  · rename_i hu; cases e; cases ry; cases rx; simp [Op.equalIn, run_und hu]
  · rename_i hu; cases e; cases rx; cases ry; simp [Op.equalIn, run_und hu]
  · rename_i hu; cases e; cases rx; cases ry; simp [Op.equalIn, run_und hu]
  · cases e

theorem aEq_sound {t : TypeId} {x x' y y' : Value} {b : Bool} (e : aEq P t x y = some b) (rx : VRel ι x x') (ry : VRel ι y y') (w : World) :
    (Op.equal t x' y').run P w = .ok b w := aEq_sound1 e rx ry w 9999

set_option maxHeartbeats 2000000 in
theorem aEq_guard {t : TypeId} {x x' y y' : Value} {b : Bool} (e : aEq P t x y = some b) (rx : VRel ι x x') (ry : VRel ι y y') (op : BinOp) (p q : Operand) (w : World) :
    (eqGuard op t p q x' y').run P w = .ok () w := by
  unfold eqGuard
  unfold aEq at e
  split at e <;> first
    | cases e; done
    | (cases rx <;> cases ry <;> cases op <;> simp)

set_option maxHeartbeats 2000000 in
theorem aEq_bin {t : TypeId} {x x' y y' : Value} {b : Bool} (e : aEq P t x y = some b) (rx : VRel ι x x') (ry : VRel ι y y') : binOp .eql t x' y' = (do pure (.bool (← Op.equal t x' y'))) ∧ binOp .neq t x' y' = (do pure (.bool (!(← Op.equal t x' y')))) := by
  unfold aEq at e
  split at e <;> first
    | cases e; done
    | (cases rx <;> cases ry <;> exact ⟨rfl, rfl⟩)

/-! ### Structs -/
def PRel (ι : Inj) (p p' : List (Nat × Value)) : Prop := p.length = p'.length ∧ ∀ (i : Nat) (a b : Nat × Value), p[i]? = some a → p'[i]? = some b → a.1 = b.1 ∧ VRel ι a.2 b.2

theorem foldSet_rel (off : Nat) : ∀ (ys ys' : List Value) (n : Nat) (cs cs' : Array Value), LRel ι ys ys' → ARel ι cs cs' →
    ARel ι ((ys.zipIdx n).foldl (fun cs (p : Value × Nat) => cs.setIfInBounds (off + p.2) p.1) cs) ((ys'.zipIdx n).foldl (fun cs (p : Value × Nat) => cs.setIfInBounds (off + p.2) p.1) cs')
  | [], ys', n, cs, cs', r, rc => by
    have := r.length
    cases ys' with
    | nil => exact rc
    | cons a b => simp at this
  | y :: ys, ys', n, cs, cs', r, rc => by
    cases ys' with
    | nil => have := r.length; simp at this
    | cons y' ys' =>
      simp only [List.zipIdx_cons, List.foldl_cons]
      have h0 : VRel ι y y' := by
        obtain ⟨v', a, b⟩ := r.get (i := 0) (v := y) (by simp)
        simp at a; subst a; exact b
      have ht : LRel ι ys ys' := ⟨by have := r.length; simp at this; simpa using this, fun i v v' a b => by
        obtain ⟨u, c, d⟩ := r.get (i := i + 1) (v := v) (by simpa using a)
        simp at c b
        rw [c] at b; cases b; exact d⟩
      exact foldSet_rel off ys ys' (n + 1) _ _ ht (rc.set _ h0)

theorem fill_rel (place : Nat → Option (Nat × Nat)) : ∀ (p p' : List (Nat × Value)) (cs cs' out : Array Value), PRel ι p p' → ARel ι cs cs' → Instr.fill place cs p = some out → ∃ out', Instr.fill place cs' p' = some out' ∧ ARel ι out out'
  | [], p', cs, cs', out, rp, rc, e => by
    cases p' with
    | nil => simp [Instr.fill] at e; subst e; exact ⟨cs', rfl, rc⟩
    | cons a b => have := rp.1; simp at this
  | (i, v) :: p, p', cs, cs', out, rp, rc, e => by
    cases p' with
    | nil => have := rp.1; simp at this
    | cons a p' =>
      obtain ⟨j, v'⟩ := a
      obtain ⟨hij, rv⟩ := rp.2 0 (i, v) (j, v') (by simp) (by simp)
      simp at hij rv; subst hij
      have rt : PRel ι p p' := ⟨by have := rp.1; simp at this; exact this, fun k a b h1 h2 => rp.2 (k + 1) a b (by simpa using h1) (by simpa using h2)⟩
      unfold Instr.fill at e ⊢
      cases hp : place i with
      | none => simp [hp] at e
      | some q =>
        obtain ⟨off, size⟩ := q
        simp only [hp] at e ⊢
        have hs : v'.cells.size = v.cells.size := rv.cells.size.symm
        rw [hs, ← rc.size]
        split at e
        · cases e
        · rename_i hc
          rw [if_neg hc]
          refine fill_rel place p p' _ _ out rt ?_ e
          have := foldSet_rel off v.cells.toList v'.cells.toList 0 cs cs' rv.cells.list rc
          rw [← Array.foldl_toList, ← Array.foldl_toList, Array.toList_zipIdx, Array.toList_zipIdx]
          exact this

theorem parts_rel {parts : Array (Nat × Operand)} {ρ ρ' : Operand → Value} (r : ∀ x, x ∈ (parts.toList.map (·.2)).toArray → VRel ι (ρ x) (ρ' x)) :
    PRel ι (parts.map fun (i, x) => (i, ρ x)).toList (parts.map fun (i, x) => (i, ρ' x)).toList := by
  refine ⟨by simp, fun i a b h1 h2 => ?_⟩
  simp at h1 h2
  obtain ⟨j, x, hx, rfl⟩ := h1
  obtain ⟨j', x', hx', rfl⟩ := h2
  rw [hx] at hx'; cases hx'
  refine ⟨rfl, r x ?_⟩
  simp
  exact ⟨j, Array.mem_of_getElem? hx⟩

theorem run_places (fields : List Field) : ∀ (places : List (Nat × Nat)), (fields.mapM fun f => (tsize P f.type).map fun n => (f.offset, n)) = some places → ∀ w,
    ((fields.mapM fun f => Prod.mk f.offset <$> sizeOf f.type : Sem (List (Nat × Nat))).run P w = .ok places w) := by
  induction fields with
  | nil => intro places e w; simp at e; subst e; simp
  | cons f fs ih =>
    intro places e w
    simp only [List.mapM_cons] at e ⊢
    cases hs : tsize P f.type with
    | none => simp [hs] at e
    | some n =>
      cases hr : List.mapM (fun f => Option.map (fun n => (f.offset, n)) (tsize P f.type)) fs with
      | none => simp [hs, hr] at e
      | some r =>
        simp [hs, hr] at e
        subst e
        simp [run_size hs, ih r hr w]

theorem aBuild_sound {t : TypeId} {parts parts' : Array (Nat × Value)} {v : Value} (e : aBuild P t parts = some v) (r : PRel ι parts.toList parts'.toList) (w : World) :
    ∃ v', (Instr.build t parts').run P w = .ok v' w ∧ VRel ι v v' := by
  unfold aBuild at e
  split at e
  · rename_i fields z hu hz
    split at e
    case h_2 => cases e
    rename_i places hp
    cases hf : Instr.fill (places[·]?) z.cells parts.toList with
    | none => simp [hf] at e
    | some out =>
      simp [hf] at e; subst e
      obtain ⟨out', hf', ro⟩ := fill_rel (ι := ι) _ _ _ _ _ _ r (tzero_rel hz ι).cells hf
      refine ⟨.agg out', ?_, .agg' ro⟩
      have hpl : (fields.mapM fun f => Prod.mk f.offset <$> sizeOf f.type : Sem (Array (Nat × Nat))).run P w = .ok places w := by
        unfold aPlaces at hp
        rw [Array.mapM_eq_mapM_toList] at hp ⊢
        simp at hp
        obtain ⟨l, hl, rfl⟩ := hp
        have := run_places (P := P) fields.toList l (by simpa using hl) w
        simp [this]
      unfold Instr.build
      simp [run_zero hz, run_und hu, hpl, hf']
  · rename_i n elem z hu hz
    split at e
    case h_2 => cases e
    rename_i size hs
    cases hf : Instr.fill (fun i => some (i * size, size)) z.cells parts.toList with
    | none => simp [hf] at e
    | some out =>
      simp [hf] at e; subst e
      obtain ⟨out', hf', ro⟩ := fill_rel (ι := ι) _ _ _ _ _ _ r (tzero_rel hz ι).cells hf
      refine ⟨.agg out', ?_, .agg' ro⟩
      unfold Instr.build
      simp [run_zero hz, run_und hu, run_size hs, hf']
  · cases e

theorem run_newRow (t : TypeId) (cells : Array Value) (w : World) : (newRow t cells).run P w = .ok ⟨w.heap.size, 0, none⟩ (w.alloc (.cells cells t)) := by
  simp [newRow]

/-- A new row of cells. -/
theorem Did.row {t : TypeId} {cells cells' : Array Value} (k : HRel ι h w) (hf : ι h.next = none) (r : ARel ι cells cells') :
    Did ι h w (upd ι h.next ⟨w.heap.size, 0, cells'.size⟩) (h.new (.cells cells t)) (w.alloc (.cells cells' t)) [h.next] :=
  Did.new (o := .cells cells t) (o' := .cells cells' t) cells'.size k hf rfl ⟨rfl, rfl, rfl⟩ ⟨(CRel.of_arel r w.heap.size).mono (upd_ext _ hf), fun _ => rfl⟩

theorem aBuildSlice_sound {t : TypeId} {len : Nat} {parts parts' : Array (Nat × Value)} {v : Value} {h' : AH} (e : aBuildSlice P h t len parts = some (v, h')) (r : PRel ι parts.toList parts'.toList) (k : HRel ι h w) (hf : Free ι h h') :
    ∃ v' w' ι' δ, (Instr.buildSlice t len parts').run P w = .ok v' w' ∧ Did ι h w ι' h' w' δ ∧ VRel ι' v v' := by
  unfold aBuildSlice at e
  split at e
  case h_2 => cases e
  rename_i elem hu
  split at e
  case h_2 => cases e
  rename_i size z hs hz
  split at e
  case isTrue => cases e
  rename_i hc
  split at e
  case h_2 => cases e
  rename_i out hfl
  cases e
  have hfr : ι h.next = none := hf _ (Nat.le_refl _) (by simp)
  have hzr : ARel ι ((Array.range (len * size)).map (z.cells[· % z.cells.size]!)) ((Array.range (len * size)).map (z.cells[· % z.cells.size]!)) := range_rel (tzero_cells hz ι) (fun hn => by
    intro h0
    have hzs : z.cells.size = size := by omega
    rw [h0] at hzs; subst hzs; simp at hn)
  obtain ⟨out', hf', ro⟩ := fill_rel (ι := ι) _ _ _ _ _ _ r hzr hfl
  have hs0 : 0 < size := by omega
  have hlen : len ≤ len * size := Nat.le_mul_of_pos_right _ hs0
  refine ⟨.slice (some ⟨w.heap.size, 0, none⟩) len len, _, _, _, ?_, Did.row (t := elem) k hfr ro, ?_⟩
  · have hlim : ¬ len * size > 2 ^ 24 := by omega
    unfold Instr.buildSlice
    by_cases h0 : len = 0
    · subst h0
      have hr : ∀ f : Nat → Value, Array.map f (Array.range 0) = #[] := fun f => by rw [show Array.range 0 = #[] from rfl]; simp
      simp only [Nat.zero_mul, hr] at hf'
      simp [run_und hu, run_size hs, hr, hf', run_newRow]
    · have h1 : ¬ size = 0 := by omega
      simp [run_und hu, run_size hs, hlim, h0, h1, run_zero hz, hf', run_newRow]
      try (intro q; exact absurd q (by omega))
  · have hl : len < loose := by unfold loose; omega
    simpa using VRel.slX (ι := upd ι h.next ⟨w.heap.size, 0, out'.size⟩) (b := h.next) 0 len len (upd_same _ _ _) hl

theorem aMakeSlice_sound {t : TypeId} {l l' c c' v : Value} {h' : AH} (e : aMakeSlice P h t l c = some (v, h')) (rl : VRel ι l l') (rc : VRel ι c c') (k : HRel ι h w) (hf : Free ι h h') :
    ∃ v' w' ι' δ, (Instr.makeSlice t l' c').run P w = .ok v' w' ∧ Did ι h w ι' h' w' δ ∧ VRel ι' v v' := by
  unfold aMakeSlice at e
  split at e
  case h_2 => cases e
  rename_i elem k1 l k2 c hu
  split at e
  case h_2 => cases e
  rename_i size bytes z hs hb hz
  split at e
  case isFalse => cases e
  rename_i hc
  obtain ⟨h1, h2, h3, h4, h5⟩ := hc
  cases e
  cases rl; cases rc
  have hfr : ι h.next = none := hf _ (Nat.le_refl _) (by simp)
  obtain ⟨i, hi, hib⟩ := tbytes_info hb
  have hcb : c ≤ (bytes : Int) * c := by
    have : (1 : Int) * c ≤ bytes * c := Int.mul_le_mul_of_nonneg_right (by omega) (by omega)
    omega
  have wl : IntKind.i64.wrap l = l := by
    unfold IntKind.wrap IntKind.bits IntKind.signed; simp; omega
  have wc : IntKind.i64.wrap c = c := by
    unfold IntKind.wrap IntKind.bits IntKind.signed; simp; omega
  have hzr : ARel ι ((Array.range (c.toNat * size)).map (z.cells[· % z.cells.size]!)) ((Array.range (c.toNat * size)).map (z.cells[· % z.cells.size]!)) := range_rel (tzero_cells hz ι) (fun hn => by
    intro h0
    rw [h0] at h5; subst h5; simp at hn)
  have hask : ∀ b w, (askRoom b).run P w = .ok () w := by
    intro b w; unfold askRoom; split <;> rfl
  refine ⟨.slice (some ⟨w.heap.size, 0, none⟩) l.toNat c.toNat, _, _, _, ?_, Did.row (t := elem) k hfr hzr, ?_⟩
  · have n1 : ¬ c < 0 := by omega
    have n2 : ¬ (281474976710656 : Int) < bytes * c := by omega
    have n3 : ¬ l < 0 := by omega
    have n4 : ¬ c < l := by omega
    unfold Instr.makeSlice
    by_cases h0 : c.toNat * size = 0
    · have e0 : (Array.range (c.toNat * size)).map (z.cells[· % z.cells.size]!) = #[] := by rw [h0]; simp
      rw [e0]
      have h0' : c.toNat = 0 ∨ size = 0 := Nat.mul_eq_zero.1 h0
      have e1 : ∀ f : Nat → Value, (Array.range (c.toNat * size)).map f = #[] := fun f => by rw [h0, show Array.range 0 = #[] from rfl]; simp
      simp [run_und hu, run_info hi, hib, asInt, asIntOf, wl, wc, n1, n2, n3, n4, hask, run_size hs, h0', run_newRow, e1]
      exact fun q => absurd h0 q
    · simp [run_und hu, run_info hi, hib, asInt, asIntOf, wl, wc, n1, n2, n3, n4, hask, run_size hs, h0, run_zero hz, run_newRow]
  · have hl : c.toNat < loose := by unfold loose; omega
    simpa using VRel.slX (ι := upd ι h.next ⟨w.heap.size, 0, _⟩) (b := h.next) 0 l.toNat c.toNat (upd_same _ _ _) hl
end
end Go.Ags
