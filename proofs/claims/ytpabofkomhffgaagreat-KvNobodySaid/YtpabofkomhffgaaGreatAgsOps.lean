/- Each operation of the evaluator is what the machine does. -/
import Derived.Test.YtpabofkomhffgaaGreatAgsRel
import Derived.Laws.Cells
import Derived.Laws.Rows
set_option linter.unusedVariables false
set_option linter.unusedSimpArgs false
namespace Go.Ags
section
variable {P : Program} {ι : Inj} {h : AH} {w : World}

theorem run_info {t : TypeId} {i : TypeInfo} (e : P.info? t = some i) (w : World) : (typeInfo t).run P w = .ok i w := by
  simp [typeInfo, program, Sem.run, e, Bind.bind, Sem.bind, Pure.pure]
theorem run_und {t : TypeId} {d : TypeDesc} (e : P.underlying t = some d) (w : World) : (underlying t).run P w = .ok d w := by
  simp [underlying, program, Sem.run, e, Bind.bind, Sem.bind, Pure.pure]
theorem run_size {t : TypeId} {n : Nat} (e : tsize P t = some n) (w : World) : (sizeOf t).run P w = .ok n w := by
  unfold tsize at e
  cases hi : P.info? t with
  | none => simp [hi] at e
  | some i => simp [hi] at e; simp [sizeOf, run_info hi, e]
theorem tzero_info {t : TypeId} {z : Value} (e : tzero P t = some z) : ∃ i, P.info? t = some i ∧ i.zero = some z ∧ af z = true := by
  unfold tzero at e
  cases hi : P.info? t with
  | none => simp [hi] at e
  | some i =>
    simp [hi] at e
    cases hz : i.zero with
    | none => simp [hz] at e
    | some y =>
      simp [hz] at e
      exact ⟨i, rfl, by rw [hz, e.2], e.2 ▸ e.1⟩
theorem run_zero {t : TypeId} {z : Value} (e : tzero P t = some z) (w : World) : (zeroValue t).run P w = .ok z w := by
  obtain ⟨i, hi, hz, _⟩ := tzero_info e
  simp [zeroValue, run_info hi, hz]
theorem tzero_rel {t : TypeId} {z : Value} (e : tzero P t = some z) (ι : Inj) : VRel ι z z := by
  obtain ⟨i, hi, hz, ha⟩ := tzero_info e
  exact VRel.af_refl ι z ha
theorem tbytes_info {t : TypeId} {n : Nat} (e : tbytes P t = some n) : ∃ i, P.info? t = some i ∧ i.bytes = n := by
  unfold tbytes at e
  cases hi : P.info? t with
  | none => simp [hi] at e
  | some i => simp [hi] at e; exact ⟨i, rfl, e⟩
theorem run_agg {t : TypeId} {b : Bool} (e : isAggT P t = some b) (w : World) : (isAgg t).run P w = .ok b w := by
  unfold isAggT at e
  cases hu : P.underlying t with
  | none => simp [hu] at e
  | some d =>
    simp [hu] at e
    unfold isAgg
    rw [Sem.run_bind, run_und hu]
    cases d <;> simp_all

theorem addr_add (g o n : Nat) : (⟨g, o, none⟩ : Addr).add n = ⟨g, o + n, none⟩ := by unfold Addr.add; split <;> simp_all

theorem range_arel {cs cs' : Array Value} {L : Loc} (k : CRel ι L cs cs') (o n : Nat) (hn : o + n ≤ cs.size) :
    ARel ι (cs.extract o (o + n)) ((List.range n).map fun j => cs'.getD (L.base + o + j) undef).toArray := by
  refine ⟨by simp; omega, fun i v v' e e' => ?_⟩
  rw [Array.getElem?_extract] at e
  have hi : i < n := by
    rcases Nat.lt_or_ge i n with q | q
    · exact q
    · simp [List.getElem?_eq_none, q] at e'
  have hi2 : i < min (o + n) cs.size - o := by omega
  rw [if_pos hi2] at e
  obtain ⟨u, hu, r⟩ := k.at_ _ _ e
  simp [hi] at e'
  rw [Nat.add_assoc, hu] at e'
  simp at e'; subst e'; exact r

theorem run_cells {cs' : Array Value} {g : Nat} {t : TypeId} {fr : Nat × Nat} (hg : w.heap[g]? = some (.cells cs' t fr)) (o n : Nat) (hn : o + n ≤ cs'.size) :
    (loadCells ⟨g, o, none⟩ n).run P w = .ok ((List.range n).map fun j => cs'.getD (o + j) undef).toArray w :=
  run_loadCells w ⟨g, o, none⟩ n (fun j => cs'.getD (o + j) undef) (fun j hj => by
    rw [addr_add, cell_of_row w g (o + j) cs' t fr hg]
    have : o + j < cs'.size := by omega
    simp [Array.getD_eq_getD_getElem?, this])

theorem aPart_sound {t : TypeId} {cs cs' : Array Value} {o : Nat} {v : Value} (e : aPart P t cs o = some v) (k : ARel ι cs cs') (w : World) :
    ∃ v', (part t cs' o).run P w = .ok v' w ∧ VRel ι v v' := by
  unfold aPart at e
  cases ha : isAggT P t with
  | none => simp [ha] at e
  | some b =>
    cases hs : tsize P t with
    | none => cases b <;> simp [ha, hs] at e
    | some n =>
      cases b with
      | true =>
        simp [ha, hs] at e
        obtain ⟨_, rfl⟩ := e
        exact ⟨.agg (cs'.extract o (o + n)), by simp [part, run_agg ha, run_size hs], .agg' (k.extract _ _)⟩
      | false =>
        simp [ha, hs] at e
        obtain ⟨v', e', r⟩ := k.get e
        exact ⟨v', by simp [part, run_agg ha, e'], r⟩

theorem run_load_cell {cs' : Array Value} {g o : Nat} {t : TypeId} {fr : Nat × Nat} {v : Value} (hg : w.heap[g]? = some (.cells cs' t fr)) (e : cs'[o]? = some v) :
    (load ⟨g, o, none⟩).run P w = .ok v w := by
  have : w.cell? ⟨g, o, none⟩ = some v := by rw [cell_of_row w g o cs' t fr hg, e]
  simp [load, Sem.run, this]

theorem loadVar_sound {t : TypeId} {cs cs' : Array Value} {L : Loc} {o : Nat} {v : Value} {e' : TypeId} {fr : Nat × Nat} (e : aPart P t cs o = some v) (k : CRel ι L cs cs')
    (hg : w.heap[L.g]? = some (.cells cs' e' fr)) : ∃ v', (loadVar t ⟨L.g, L.base + o, none⟩).run P w = .ok v' w ∧ VRel ι v v' := by
  unfold aPart at e
  cases ha : isAggT P t with
  | none => simp [ha] at e
  | some b =>
    cases hs : tsize P t with
    | none => cases b <;> simp [ha, hs] at e
    | some n =>
      cases b with
      | true =>
        simp [ha, hs] at e
        obtain ⟨hn, rfl⟩ := e
        have hle := k.size
        refine ⟨_, ?_, .agg' (range_arel k o n hn)⟩
        simp [loadVar, run_agg ha, run_size hs, run_cells (P := P) hg (L.base + o) n (by omega)]
      | false =>
        simp [ha, hs] at e
        obtain ⟨v', e', r⟩ := k.at_ _ _ e
        refine ⟨v', ?_, r⟩
        unfold loadVar
        rw [Sem.run_bind, run_agg ha]
        exact run_load_cell hg e'

theorem HRel.cells (k : HRel ι h w) {b : Nat} {cs : Array Value} {e : TypeId} {fr : Nat × Nat} (hb : h.get b = some (.cells cs e fr)) :
    ∃ L cs' e' fr', ι b = some L ∧ w.heap[L.g]? = some (.cells cs' e' fr') ∧ CRel ι L cs cs' ∧ (h.ro ≤ b → fr' = (0, 0)) := by
  obtain ⟨L, i, r⟩ := k.live _ _ hb
  unfold ORel at r
  split at r
  · rename_i heq1 heq2
    cases heq1
    exact ⟨L, _, _, _, i, heq2, r.1, r.2⟩
  all_goals first | exact r.elim | (rename_i heq1 _; cases heq1)

theorem HRel.map (k : HRel ι h w) {b : Nat} {es : Array MapEntry} {c : Nat} (hb : h.get b = some (.map es c)) :
    ∃ L es', ι b = some L ∧ w.heap[L.g]? = some (.map es' c) ∧ ERel ι es es' := by
  obtain ⟨L, i, r⟩ := k.live _ _ hb
  unfold ORel at r
  split at r
  case h_2 heq1 heq2 =>
    cases heq1
    obtain ⟨r1, r2⟩ := r; subst r1
    exact ⟨L, _, i, heq2, r2⟩
  all_goals first | exact r.elim | (rename_i heq1 _; cases heq1)

theorem aLoad_sound {t : TypeId} {a a' v : Value} (e : aLoad P h t a = some v) (ha : VRel ι a a') (k : HRel ι h w) :
    ∃ v', (Instr.loadAt t a').run P w = .ok v' w ∧ VRel ι v v' := by
  unfold aLoad at e
  split at e
  · split at e
    · rename_i b o cs el fr hb
      obtain ⟨L, cs', e', fr', i, hg, r, _⟩ := k.cells hb
      cases ha with
      | ptr o i' =>
        rw [i] at i'; cases i'
        obtain ⟨v', hr, rr⟩ := loadVar_sound e r hg
        exact ⟨v', by simp [Instr.loadAt, Instr.sureAddr, hr], rr⟩
    · cases e
  · cases e

theorem writeL_size : ∀ (ys : List Value) (cs : Array Value) (o : Nat), (writeL cs o ys).size = cs.size
  | [], _, _ => rfl
  | y :: r, cs, o => by rw [writeL, writeL_size r]; simp

theorem writeL_get : ∀ (ys : List Value) (cs : Array Value) (o i : Nat), o + ys.length ≤ cs.size → (writeL cs o ys)[i]? = if o ≤ i ∧ i < o + ys.length then ys[i - o]? else cs[i]?
  | [], cs, o, i, _ => by simp [writeL]; intro _ _; omega
  | y :: r, cs, o, i, hl => by
    simp at hl
    rw [writeL, writeL_get r _ _ _ (by simp; omega)]
    by_cases h1 : o + 1 ≤ i ∧ i < o + 1 + r.length
    · rw [if_pos h1, if_pos ⟨by omega, by simp; omega⟩]
      rw [show i - o = (i - (o + 1)) + 1 by omega]; simp
    · rw [if_neg h1]
      by_cases h2 : i = o
      · subst h2
        rw [if_pos ⟨Nat.le_refl _, by simp⟩, Array.getElem?_setIfInBounds, if_pos rfl, if_pos (by omega)]
        simp
      · rw [if_neg (by simp only [List.length_cons]; omega)]
        rw [Array.getElem?_setIfInBounds_ne (fun q => h2 q.symm)]

/-- The world with a block replaced. -/
theorem run_storeCells_w (g o : Nat) (t : TypeId) : ∀ (vs : List Value) (i : Nat) (cur : Array Value) (w : World), w.heap[g]? = some (.cells cur t (0, 0)) → o + i + vs.length ≤ cur.size → vs.all plainCell = true →
    (storeCells ⟨g, o, none⟩ vs i).run P w = .ok () (w.putObj g (.cells (writeL cur (o + i) vs) t (0, 0)))
  | [], i, cur, w, hg, _, _ => by
    obtain ⟨hl, e⟩ := Array.getElem?_eq_some_iff.1 hg
    have : w.putObj g (.cells cur t (0, 0)) = w := by
      unfold World.putObj
      rw [← e]
      simp [Array.setIfInBounds, hl]
    simp [storeCells, writeL, this]
  | v :: rest, i, cur, w, hg, hl, h1 => by
    obtain ⟨hgl, hge⟩ := Array.getElem?_eq_some_iff.1 hg
    have hi : o + i < cur.size := by simp at hl; omega
    simp at h1
    have hcell : w.cell? ⟨g, o + i, none⟩ = some cur[o + i] := by simp [World.cell?, hg, hi]
    have hfro : w.frozen? ⟨g, o + i, none⟩ = false := by simp [World.frozen?, hg]
    have hset : w.setCell ⟨g, o + i, none⟩ v = w.putObj g (.cells (cur.setIfInBounds (o + i) v) t (0, 0)) := by
      unfold World.setCell World.putObj
      congr 1
      apply Array.ext
      · simp
      · intro j h1 h2
        rw [Array.getElem_modify, Array.getElem_setIfInBounds]
        split
        · rename_i e; subst e; simp [hge]
        · rfl
    have hst : (store ((⟨g, o, none⟩ : Addr).add i) v).run P w = .ok () (w.putObj g (.cells (cur.setIfInBounds (o + i) v) t (0, 0))) := by
      rw [addr_add]
      have hp := h1.1
      cases v <;> simp [plainCell] at hp <;> simp [store, Sem.run, hcell, hfro, ← hset]
    have hg2 : (w.putObj g (.cells (cur.setIfInBounds (o + i) v) t (0, 0))).heap[g]? = some (.cells (cur.setIfInBounds (o + i) v) t (0, 0)) := World.putObj_heap_same hgl
    have ih := run_storeCells_w g o t rest (i + 1) _ _ hg2 (by simp at hl ⊢; omega) (by simpa using h1.2)
    simp only [storeCells, Sem.run_bind, hst, Result.andThen_ok, ih, writeL]
    congr 1
    unfold World.putObj
    simp [Nat.add_assoc]

/-- Related lists of cells. -/
def LRel (ι : Inj) (ys ys' : List Value) : Prop := ARel ι ys.toArray ys'.toArray
theorem LRel.length {ys ys' : List Value} (k : LRel ι ys ys') : ys.length = ys'.length := by simpa using k.size
theorem LRel.get {ys ys' : List Value} (k : LRel ι ys ys') {i : Nat} {v : Value} (e : ys[i]? = some v) : ∃ v', ys'[i]? = some v' ∧ VRel ι v v' := by
  obtain ⟨v', a, b⟩ := ARel.get k (i := i) (v := v) (by simpa using e)
  exact ⟨v', by simpa using a, b⟩
theorem ARel.list {x x' : Array Value} (k : ARel ι x x') : LRel ι x.toList x'.toList := by simpa [LRel] using k
theorem LRel.plain {ys ys' : List Value} (k : LRel ι ys ys') (hp : ys.all plainCell = true) : ys'.all plainCell = true := by
  rw [List.all_eq_true] at *
  intro x hx
  obtain ⟨i, hi, rfl⟩ := List.mem_iff_getElem.1 hx
  have hl := k.length
  have hi2 : i < ys.length := by omega
  obtain ⟨v', e, r⟩ := k.get (List.getElem?_eq_getElem hi2)
  rw [List.getElem?_eq_getElem hi] at e; cases e
  rw [r.plain]; exact hp _ (List.getElem_mem hi2)

theorem CRel.write {L : Loc} {cs cs' : Array Value} (k : CRel ι L cs cs') {o : Nat} {ys ys' : List Value} (r : LRel ι ys ys') (hl : o + ys.length ≤ cs.size) :
    CRel ι L (writeL cs o ys) (writeL cs' (L.base + o) ys') := by
  have h1 := r.length; have h2 := k.size
  refine ⟨by rw [writeL_size]; exact k.lim, by rw [writeL_size, writeL_size]; exact k.size, fun i v e => ?_⟩
  rw [writeL_get _ _ _ _ hl] at e
  rw [writeL_get _ _ _ _ (by omega)]
  by_cases hi : o ≤ i ∧ i < o + ys.length
  · rw [if_pos hi] at e
    rw [if_pos ⟨by omega, by omega⟩, show L.base + i - (L.base + o) = i - o by omega]
    exact r.get e
  · rw [if_neg hi] at e
    rw [if_neg (by omega)]
    exact k.at_ i v e

theorem aWrite_sound {b o : Nat} {ys ys' : List Value} {h' : AH} {L : Loc} (e : aWrite h b o ys = some h') (k : HRel ι h w) (r : LRel ι ys ys') (hL : ι b = some L) :
    ∃ w', (storeCells ⟨L.g, L.base + o, none⟩ ys').run P w = .ok () w' ∧ Did ι h w ι h' w' [b] ∧ h'.next = h.next := by
  unfold aWrite at e
  split at e
  · rename_i cs el hb
    split at e
    · rename_i hc
      obtain ⟨hro, hl, hp⟩ := hc
      cases e
      obtain ⟨L', cs', e', fr', i, hg, rc, hfr⟩ := k.cells hb
      rw [hL] at i; cases i
      have hf0 := hfr hro; subst hf0
      have h1 := r.length; have h2 := rc.size
      have hr := run_storeCells_w (P := P) L.g (L.base + o) e' ys' 0 cs' w hg (by omega) (r.plain hp)
      refine ⟨_, hr, Did.put (o := .cells (writeL cs o ys) el (0, 0)) (o' := .cells (writeL cs' (L.base + o + 0) ys') e' (0, 0)) k hb hro hL rfl ⟨rfl, rfl, rfl⟩ ⟨rc.write r hl, fun _ => rfl⟩, rfl⟩
    · cases e
  · cases e

theorem aStore_sound {t : TypeId} {a a' x x' : Value} {h' : AH} (e : aStore P h t a x = some h') (ha : VRel ι a a') (hx : VRel ι x x') (k : HRel ι h w) :
    ∃ w' δ, (Instr.storeAt t a' x').run P w = .ok () w' ∧ Did ι h w ι h' w' δ := by
  unfold aStore at e
  split at e
  · rename_i b o n hn
    split at e
    · rename_i hs
      cases ha with
      | ptr o i =>
        rename_i L
        have hc := hx.cells
        obtain ⟨w', hr, hd, _⟩ := aWrite_sound (P := P) e k hc.list i
        refine ⟨w', _, ?_, hd⟩
        have hsz : x'.cells.size = n := by rw [← hc.size]; exact hs
        simp [Instr.storeAt, Instr.sureAddr, storeVar, run_size hn, hsz, hr]
    · cases e
  · cases e

theorem aCells_sound {size n : Nat} {x x' : Value} {cells : Array Value} (e : aCells h size n x = some cells) (hx : VRel ι x x') (k : HRel ι h w) :
    ∃ cells', (∀ w', w'.heap = w.heap → (Builtin.firstCells size n x').run P w' = .ok cells' w') ∧ ARel ι cells cells' := by
  unfold aCells at e
  split at e
  · rename_i b o m c
    by_cases h0 : n * size = 0
    · rw [if_pos h0] at e; cases e
      have z : ∀ (a : Addr) w, (loadCells a (n * size)).run P w = .ok #[] w := fun a w => by rw [h0]; simp [loadCells, loadCellsFrom]
      cases hx <;> exact ⟨#[], fun w' _ => by simp [Builtin.firstCells, z], .empty _⟩
    · rw [if_neg h0] at e
      split at e
      · rename_i cs el fr hb
        split at e
        · rename_i hl0
          obtain ⟨hnm, hl⟩ := hl0
          cases e
          obtain ⟨L, cs', e', fr', i, hg, rc, _⟩ := k.cells hb
          have hle := rc.size
          have hrun : ∀ w', w'.heap = w.heap → (loadCells ⟨L.g, L.base + o, none⟩ (n * size)).run P w' = .ok ((List.range (n * size)).map fun j => cs'.getD (L.base + o + j) undef).toArray w' :=
            fun w' hw => run_cells (P := P) (by rw [hw]; exact hg) (L.base + o) (n * size) (by omega)
          cases hx with
          | slX o n2 c h1 hc =>
            rw [i] at h1; cases h1
            exact ⟨_, fun w' hw => by simp [Builtin.firstCells, hrun w' hw], range_arel rc o _ hl⟩
          | slL o n2 sz c h1 hn hl2 =>
            rw [i] at h1; cases h1
            exact ⟨_, fun w' hw => by simp [Builtin.firstCells, hrun w' hw], range_arel rc o _ hl⟩
          | slD o sz a h1 hl2 =>
            obtain rfl : n = 0 := by omega
            simp at h0
          | slE o a h1 =>
            obtain rfl : n = 0 := by omega
            simp at h0
        · cases e
      · cases e
  · cases e
    cases hx
    exact ⟨#[], fun w' _ => by simp [Builtin.firstCells], .empty _⟩
  · cases e
    cases hx
    exact ⟨_, fun w' _ => rfl, ARel.map _ _ _ fun x _ => .int _ _⟩
  · cases e
end
end Go.Ags
