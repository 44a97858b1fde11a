/- A region that draws its order comes to what its operations come to in the order of the text. -/
import Derived.Test.YtpabofkomhffgaaGreatAgsCode
set_option linter.unusedVariables false
set_option linter.unusedSimpArgs false
namespace Go.Ags

/-! ### Whatever order is drawn -/
/-- A list that names the operations not yet in S, each behind those that it hangs on. -/
inductive Legal (ops : Array Oper) : (Nat → Prop) → List Nat → Prop where
  | done {S : Nat → Prop} (h : ∀ i, i < ops.size → S i) : Legal ops S []
  | step {S : Nat → Prop} {i : Nat} {l : List Nat} (hi : i < ops.size) (hn : ¬ S i) (he : ∀ o, ops[i]? = some o → ∀ e, e ∈ o.after → Region.binds .any e = true → S e.on) (r : Legal ops (fun k => S k ∨ k = i) l) : Legal ops S (i :: l)

theorem Legal.congr {ops : Array Oper} {S S' : Nat → Prop} {l : List Nat} (h : Legal ops S l) (he : ∀ k, S k ↔ S' k) : Legal ops S' l := by
  have : S = S' := funext fun k => propext (he k)
  rw [← this]; exact h

theorem count_pos {n : Nat} {p : Nat → Bool} {i : Nat} (hi : i < n) (hp : p i = true) : 0 < (List.range n).countP p := by
  rw [List.countP_pos_iff]; exact ⟨i, by simpa using hi, hp⟩

theorem count_zero {n : Nat} {p : Nat → Bool} (h : (List.range n).countP p = 0) {i : Nat} (hi : i < n) : p i = false := by
  cases hp : p i with
  | false => rfl
  | true => have := count_pos hi hp; omega

theorem count_one {n : Nat} {p q : Nat → Bool} {i : Nat} (hi : i < n) (hp : p i = true) (hq : q i = false) (he : ∀ k, k ≠ i → q k = p k) : (List.range n).countP p = (List.range n).countP q + 1 := by
  induction n with
  | zero => omega
  | succ n ih =>
    rw [List.range_succ, List.countP_append, List.countP_append]
    by_cases hin : i = n
    · subst hin
      have : (List.range i).countP p = (List.range i).countP q := by
        apply List.countP_congr
        intro x hx
        simp at hx
        rw [he x (by omega)]
      simp [this, hp, hq]
    · rw [ih (by omega)]
      have := he n (fun e => hin e.symm)
      simp [List.countP_cons, this]
      omega

theorem binds_any {e : Edge} (h : Region.binds .any e = true) (m : Region.Mode) : Region.binds m e = true := by
  obtain ⟨on, g⟩ := e
  unfold Region.binds at h ⊢
  cases g <;> first | rfl | (exact absurd (show false = true from h) (by simp))

theorem linearise_legal {ops : Array Oper} {m : Region.Mode} {r : Nat → Nat} (hlt : ∀ (i : Nat) (o : Oper), ops[i]? = some o → ∀ e, e ∈ o.after → Region.binds m e = true → e.on < ops.size ∧ r e.on < r i) :
    ∀ (fuel t : Nat) (listed : Array Bool) (acc : List Nat), listed.size = ops.size → (List.range ops.size).countP (fun i => !listed.getD i true) = fuel →
      ∃ l, Region.linearise.go m ops fuel t listed acc = acc.reverse ++ l ∧ Legal ops (fun i => listed.getD i true = true ∧ i < ops.size) l := by
  intro fuel
  induction fuel with
  | zero =>
    intro t listed acc hs hc
    refine ⟨[], by simp [Region.linearise.go], .done fun i hi => ?_⟩
    have := count_zero hc hi
    exact ⟨by simpa using this, hi⟩
  | succ fuel ih =>
    intro t listed acc hs hc
    unfold Region.linearise.go
    generalize hrs : ((List.range ops.size).filter fun i => !listed.getD i true && ((ops[i]?).map (·.after.all fun e => !Region.binds m e || listed.getD e.on false)).getD false) = rs
    cases hpick : rs[t % rs.length]? with
    | none =>
      -- none is ready: all are listed
      exfalso
      have hrs0 : rs = [] := by
        cases rs with
        | nil => rfl
        | cons a b =>
          have hlt2 : t % (a :: b).length < (a :: b).length := Nat.mod_lt _ (by simp)
          rw [List.getElem?_eq_getElem hlt2] at hpick; cases hpick
      have hex : ∃ i, i < ops.size ∧ listed.getD i true = false := by
        have : 0 < (List.range ops.size).countP (fun i => !listed.getD i true) := by omega
        rw [List.countP_pos_iff] at this
        obtain ⟨i, hi, hp⟩ := this
        exact ⟨i, by simpa using hi, by simpa using hp⟩
      have hmin : ∀ i, i < ops.size → listed.getD i true = false → False := by
        have key : ∀ (n i : Nat), r i = n → i < ops.size → listed.getD i true = false → False := by
         intro n
         induction n using Nat.strongRecOn with
         | _ n ihi =>
          intro i hrn hi hl
          have ho := Array.getElem?_eq_getElem hi
          have : i ∈ rs := by
            rw [← hrs, List.mem_filter]
            refine ⟨by simpa using hi, ?_⟩
            simp only [hl, Bool.not_false, Bool.true_and, ho, Option.map_some, Option.getD_some, Array.all_eq_true']
            intro e he
            cases hbe : Region.binds m e with
            | false => simp
            | true =>
            obtain ⟨hel, h1⟩ := hlt i _ ho e he hbe
            simp only [Bool.not_true, Bool.false_or]
            cases hq : listed.getD e.on true with
            | false => exact (ihi (r e.on) (by omega) e.on rfl hel hq).elim
            | true =>
              rw [Array.getD_eq_getD_getElem?, Array.getElem?_eq_getElem (by omega)] at hq ⊢
              simpa using hq
          rw [hrs0] at this; simp at this
        exact fun i => key (r i) i rfl
      obtain ⟨i, hi, hl⟩ := hex
      exact hmin i hi hl
    | some i =>
      have hmem : i ∈ rs := List.mem_of_getElem? hpick
      rw [← hrs, List.mem_filter] at hmem
      obtain ⟨hi0, hp⟩ := hmem
      have hi : i < ops.size := by simpa using hi0
      simp only [Bool.and_eq_true, Bool.not_eq_true'] at hp
      obtain ⟨hl, hready⟩ := hp
      have hset : ∀ k, (listed.setIfInBounds i true).getD k true = if k = i then true else listed.getD k true := by
        intro k
        rw [Array.getD_eq_getD_getElem?, Array.getD_eq_getD_getElem?, Array.getElem?_setIfInBounds]
        by_cases hk : i = k
        · subst hk; simp [hs, hi]
        · have : ¬ k = i := fun e => hk e.symm
          simp [hk, this]
      obtain ⟨l, hl2, hleg⟩ := ih (t / rs.length) (listed.setIfInBounds i true) (i :: acc) (by simpa using hs) (by
        have := count_one (p := fun i => !listed.getD i true) (q := fun k => !(listed.setIfInBounds i true).getD k true) hi (by rw [hl]; rfl) (by simp only [hset, if_true]; rfl) (fun k hk => by simp only [hset, hk, if_false])
        omega)
      refine ⟨i :: l, by simp only [hpick, hl2]; simp, .step hi (fun q => by rw [hl] at q; simp at q) ?_ ?_⟩
      · intro o ho e he hbe
        have h2 := binds_any hbe m
        obtain ⟨hel, h1⟩ := hlt i o ho e he h2
        simp only [ho, Option.map_some, Option.getD_some, Array.all_eq_true'] at hready
        have := hready e he
        rw [h2] at this
        simp only [Bool.not_true, Bool.false_or] at this
        refine ⟨?_, hel⟩
        rw [Array.getD_eq_getD_getElem?, Array.getElem?_eq_getElem (by omega)] at this ⊢
        simpa using this
      · refine hleg.congr fun k => ?_
        simp only [hset]
        by_cases hk : k = i
        · subst hk; simp [hi]
        · simp [hk]

theorem whole_legal {ops : Array Oper} {m : Region.Mode} {r : Nat → Nat} (hlt : ∀ (i : Nat) (o : Oper), ops[i]? = some o → ∀ e, e ∈ o.after → Region.binds m e = true → e.on < ops.size ∧ r e.on < r i) (t : Nat) : Legal ops (fun _ => False) (Region.linearise m ops t) := by
  obtain ⟨l, hl, hleg⟩ := linearise_legal hlt ops.size t (Array.replicate ops.size false) [] (by simp) (by
    have : ∀ n : Nat, n ≤ ops.size → (List.range n).countP (fun i => !(Array.replicate ops.size false).getD i true) = n := by
      intro n
      induction n with
      | zero => simp
      | succ n ih =>
        intro hn
        rw [List.range_succ, List.countP_append, ih (by omega)]
        have : (Array.replicate ops.size false).getD n true = false := by
          rw [Array.getD_eq_getD_getElem?, Array.getElem?_eq_getElem (by simp; omega)]; simp
        rw [List.countP_cons, this]; simp
    exact this ops.size (Nat.le_refl _))
  unfold Region.linearise
  rw [hl]
  simp only [List.reverse_nil, List.nil_append]
  refine hleg.congr fun k => ?_
  constructor
  · rintro ⟨h1, h2⟩
    rw [Array.getD_eq_getD_getElem?, Array.getElem?_eq_getElem (by simp; omega)] at h1
    simp at h1
  · exact fun h => h.elim

theorem ranked_edges {ops : Array Oper} {m : Region.Mode} (h : ranked m ops = true) (i : Nat) (o : Oper) (ho : ops[i]? = some o) (e : Edge) (he : e ∈ o.after) (hb : Region.binds m e = true) : e.on < ops.size ∧ rankOf m ops e.on < rankOf m ops i := by
  unfold ranked at h
  rw [List.all_eq_true] at h
  have hi : i < ops.size := (Array.getElem?_eq_some_iff.1 ho).1
  have h1 := h i (by simpa using hi)
  rw [ho] at h1
  simp only [Array.all_eq_true'] at h1
  have h2 := h1 e he
  rw [hb] at h2
  simpa using h2

theorem schedule_legal {ops : Array Oper} (hlt : ∀ (i : Nat) (o : Oper), ops[i]? = some o → ∀ e, e ∈ o.after → Region.binds .any e = true → e.on < i) (ho : orderly ops = true) (mixed : Bool) (t : Nat) : Legal ops (fun _ => False) (Region.schedule mixed ops t) := by
  have hany : ∀ t, Legal ops (fun _ => False) (Region.linearise .any ops t) := whole_legal (r := fun i => i) fun i o hi e he hb => by
    have := hlt i o hi e he hb
    have hi' : i < ops.size := (Array.getElem?_eq_some_iff.1 hi).1
    exact ⟨by omega, this⟩
  unfold Region.schedule
  split
  · exact hany t
  · rename_i hc
    have hd : Region.departs ops = true := by
      cases hq : Region.departs ops with
      | true => rfl
      | false => rw [hq] at hc; simp at hc
    unfold orderly at ho
    rw [hd] at ho
    simp only [Bool.not_true, Bool.false_or, Bool.and_eq_true] at ho
    split
    · exact whole_legal (ranked_edges ho.1) _
    · exact whole_legal (ranked_edges ho.2) _

/-! ### What has been done, by a mask -/
def effGet (l : List (Nat × Option Obj)) (b : Nat) : Option (Option Obj) := (l.reverse.find? (fun e => e.1 == b)).map (·.2)

theorem effs_get (l : List (Nat × Option Obj)) (h : AH) (b : Nat) : (h.effs l).get b = (effGet l b).getD (h.get b) := by
  unfold AH.effs effGet
  induction l generalizing h with
  | nil => rfl
  | cons e l ih =>
    simp only [List.foldl_cons, ih, List.reverse_cons, List.find?_append]
    cases hf : l.reverse.find? (fun e => e.1 == b) with
    | some x => simp
    | none =>
      simp only [Option.none_or, AH.get_put, Option.map_none, Option.getD_none]
      by_cases hb : e.1 = b
      · simp [hb]
      · have : ¬ b = e.1 := fun q => hb q.symm
        simp [hb, this]

theorem effs_next (l : List (Nat × Option Obj)) (h : AH) : (h.effs l).next = h.next := by
  unfold AH.effs
  induction l generalizing h with
  | nil => rfl
  | cons e l ih => simp only [List.foldl_cons]; rw [ih]; rfl
theorem effs_ro (l : List (Nat × Option Obj)) (h : AH) : (h.effs l).ro = h.ro := by
  unfold AH.effs
  induction l generalizing h with
  | nil => rfl
  | cons e l ih => simp only [List.foldl_cons]; rw [ih]; rfl
theorem effs_log (l : List (Nat × Option Obj)) (h : AH) : (h.effs l).log = (l.map (·.1)).reverse ++ h.log := by
  unfold AH.effs
  induction l generalizing h with
  | nil => rfl
  | cons e l ih => simp only [List.foldl_cons]; rw [ih]; simp

def lastEff (m b : Nat) : Nat → List Done → Option (Option Obj)
  | _, [] => none
  | i, d :: r => match lastEff m b (i + 1) r with
    | some x => some x
    | none => if m.testBit i then effGet d.eff b else none

def lastT (m : Nat) (t : Tmp) : Nat → List Done → Option Value
  | _, [] => none
  | i, d :: r => match lastT m t (i + 1) r with
    | some x => some x
    | none => if m.testBit i ∧ d.dst = some t then some d.v else none

theorem doneH_get (m b : Nat) : ∀ (l : List Done) (h : AH) (i : Nat), (doneH m h i l).get b = (lastEff m b i l).getD (h.get b)
  | [], h, i => rfl
  | d :: r, h, i => by
    simp only [doneH, lastEff, doneH_get m b r]
    cases lastEff m b (i + 1) r with
    | some x => rfl
    | none =>
      simp only [Option.getD_none]
      split
      · rw [effs_get]
      · rfl

theorem doneH_ro (m : Nat) : ∀ (l : List Done) (h : AH) (i : Nat), (doneH m h i l).ro = h.ro
  | [], h, i => rfl
  | d :: r, h, i => by
    simp only [doneH, doneH_ro m r]
    split
    · rw [effs_ro]
    · rfl

theorem putT_size (ts : Array Value) (d : Option Tmp) (v : Value) : (putT ts d v).size = ts.size := by cases d <;> simp [putT]
theorem putT_get (ts : Array Value) (d : Option Tmp) (v : Value) (t : Nat) : (putT ts d v)[t]? = if d = some t then (if t < ts.size then some v else none) else ts[t]? := by
  cases d with
  | none => simp [putT]
  | some x =>
    simp only [putT, Array.getElem?_setIfInBounds, Option.some.injEq]
    by_cases h : x = t
    · subst h; rfl
    · simp [h]

theorem doneT_size (m : Nat) : ∀ (l : List Done) (ts : Array Value) (i : Nat), (doneT m ts i l).size = ts.size
  | [], ts, i => rfl
  | d :: r, ts, i => by
    simp only [doneT, doneT_size m r]
    split
    · rw [putT_size]
    · rfl

theorem doneT_get (m t : Nat) : ∀ (l : List Done) (ts : Array Value) (i : Nat), (doneT m ts i l)[t]? = match lastT m t i l with | some v => (if t < ts.size then some v else none) | none => ts[t]?
  | [], ts, i => rfl
  | d :: r, ts, i => by
    simp only [doneT, lastT]
    rw [doneT_get m t r]
    cases lastT m t (i + 1) r with
    | some x =>
      simp only
      split <;> simp only [putT_size]
    | none =>
      simp only
      by_cases hm : m.testBit i = true
      · rw [if_pos hm, putT_get]
        by_cases hd : d.dst = some t
        · simp [hd, hm]
        · simp [hd]
      · simp [hm]

theorem lastEff_congr {m m' b : Nat} : ∀ (l : List Done) (i : Nat), (∀ (k : Nat) (d : Done), l[k]? = some d → (effGet d.eff b).isSome → m.testBit (i + k) = m'.testBit (i + k)) → lastEff m b i l = lastEff m' b i l
  | [], i, _ => rfl
  | d :: r, i, h => by
    simp only [lastEff]
    rw [lastEff_congr (m := m) (m' := m') r (i + 1) (fun k d' hk hs => by
      have := h (k + 1) d' (by simpa using hk) hs
      rw [show i + 1 + k = i + (k + 1) by omega]; exact this)]
    cases hs : effGet d.eff b with
    | none => split <;> simp
    | some x =>
      have := h 0 d (by simp) (by rw [hs]; rfl)
      simp only [Nat.add_zero] at this
      rw [this]

theorem lastT_congr {m m' t : Nat} : ∀ (l : List Done) (i : Nat), (∀ (k : Nat) (d : Done), l[k]? = some d → d.dst = some t → m.testBit (i + k) = m'.testBit (i + k)) → lastT m t i l = lastT m' t i l
  | [], i, _ => rfl
  | d :: r, i, h => by
    simp only [lastT]
    rw [lastT_congr (m := m) (m' := m') r (i + 1) (fun k d' hk hs => by
      have := h (k + 1) d' (by simpa using hk) hs
      rw [show i + 1 + k = i + (k + 1) by omega]; exact this)]
    by_cases hd : d.dst = some t
    · have := h 0 d (by simp) hd
      simp only [Nat.add_zero] at this
      rw [this]
    · simp [hd]

theorem lastEff_take {m b j : Nat} : ∀ (l : List Done) (i : Nat), (∀ k, i + j ≤ k → m.testBit k = false) → lastEff m b i (l.take j) = lastEff m b i l := by
  induction j with
  | zero =>
    intro l i h
    simp only [List.take_zero, lastEff]
    induction l generalizing i with
    | nil => rfl
    | cons d r ih =>
      simp only [lastEff]
      rw [← ih (i + 1) (fun k hk => h k (by omega))]
      simp [h i (by omega)]
  | succ j ih =>
    intro l i h
    cases l with
    | nil => rfl
    | cons d r =>
      simp only [List.take_succ_cons, lastEff]
      rw [ih r (i + 1) (fun k hk => h k (by omega))]

theorem lastT_take {m t j : Nat} : ∀ (l : List Done) (i : Nat), (∀ k, i + j ≤ k → m.testBit k = false) → lastT m t i (l.take j) = lastT m t i l := by
  induction j with
  | zero =>
    intro l i h
    simp only [List.take_zero, lastT]
    induction l generalizing i with
    | nil => rfl
    | cons d r ih =>
      simp only [lastT]
      rw [← ih (i + 1) (fun k hk => h k (by omega))]
      simp [h i (by omega)]
  | succ j ih =>
    intro l i h
    cases l with
    | nil => rfl
    | cons d r =>
      simp only [List.take_succ_cons, lastT]
      rw [ih r (i + 1) (fun k hk => h k (by omega))]

theorem lastEff_none {m b : Nat} : ∀ (l : List Done) (i : Nat), (∀ (k : Nat) (d : Done), l[k]? = some d → m.testBit (i + k) = true → effGet d.eff b = none) → lastEff m b i l = none
  | [], i, _ => rfl
  | d :: r, i, h => by
    simp only [lastEff]
    rw [lastEff_none r (i + 1) (fun k d' hk hm => h (k + 1) d' (by simpa using hk) (by rw [show i + (k + 1) = i + 1 + k by omega]; exact hm))]
    by_cases hm : m.testBit i = true
    · simp [hm, h 0 d (by simp) (by simpa using hm)]
    · simp [hm]

theorem lastT_none {m t : Nat} : ∀ (l : List Done) (i : Nat), (∀ (k : Nat) (d : Done), l[k]? = some d → m.testBit (i + k) = true → d.dst ≠ some t) → lastT m t i l = none
  | [], i, _ => rfl
  | d :: r, i, h => by
    simp only [lastT]
    rw [lastT_none r (i + 1) (fun k d' hk hm => h (k + 1) d' (by simpa using hk) (by rw [show i + (k + 1) = i + 1 + k by omega]; exact hm))]
    by_cases hm : m.testBit i = true
    · simp [hm, h 0 d (by simp) (by simpa using hm)]
    · simp [hm]

theorem lastEff_here {m b j : Nat} {x : Option Obj} {d : Done} : ∀ (l : List Done) (i : Nat), l[j]? = some d → m.testBit (i + j) = true → effGet d.eff b = some x →
    (∀ (k : Nat) (d' : Done), j < k → l[k]? = some d' → m.testBit (i + k) = true → effGet d'.eff b = none) → lastEff m b i l = some x := by
  induction j with
  | zero =>
    intro l i hd hm hx h
    cases l with
    | nil => simp at hd
    | cons a r =>
      simp at hd; subst hd
      simp only [lastEff]
      rw [lastEff_none r (i + 1) (fun k d' hk hm' => h (k + 1) d' (by omega) (by simpa using hk) (by rw [show i + (k + 1) = i + 1 + k by omega]; exact hm'))]
      simp only [Nat.add_zero] at hm
      simp [hm, hx]
  | succ j ih =>
    intro l i hd hm hx h
    cases l with
    | nil => simp at hd
    | cons a r =>
      simp only [lastEff]
      rw [ih r (i + 1) (by simpa using hd) (by rw [show i + 1 + j = i + (j + 1) by omega]; exact hm) hx (fun k d' hj hk hm' => h (k + 1) d' (by omega) (by simpa using hk) (by rw [show i + (k + 1) = i + 1 + k by omega]; exact hm'))]

theorem lastT_here {m t j : Nat} {d : Done} : ∀ (l : List Done) (i : Nat), l[j]? = some d → m.testBit (i + j) = true → d.dst = some t →
    (∀ (k : Nat) (d' : Done), j < k → l[k]? = some d' → m.testBit (i + k) = true → d'.dst ≠ some t) → lastT m t i l = some d.v := by
  induction j with
  | zero =>
    intro l i hd hm hx h
    cases l with
    | nil => simp at hd
    | cons a r =>
      simp at hd; subst hd
      simp only [lastT]
      rw [lastT_none r (i + 1) (fun k d' hk hm' => h (k + 1) d' (by omega) (by simpa using hk) (by rw [show i + (k + 1) = i + 1 + k by omega]; exact hm'))]
      simp only [Nat.add_zero] at hm
      simp [hm, hx]
  | succ j ih =>
    intro l i hd hm hx h
    cases l with
    | nil => simp at hd
    | cons a r =>
      simp only [lastT]
      rw [ih r (i + 1) (by simpa using hd) (by rw [show i + 1 + j = i + (j + 1) by omega]; exact hm) hx (fun k d' hj hk hm' => h (k + 1) d' (by omega) (by simpa using hk) (by rw [show i + (k + 1) = i + 1 + k by omega]; exact hm'))]

/-! ### The facts of an evaluation -/
theorem before_bit (acc : List Done) (o : Oper) (k : Nat) : (before acc o).testBit k = true ↔ ∃ e, (e ∈ o.after ∧ Region.binds .any e = true) ∧ (e.on = k ∨ (((acc[e.on]?).map Done.bef).getD 0).testBit k = true) := by
  unfold before
  rw [← Array.foldl_toList]
  have key : ∀ (l : List Edge) (s : Nat), (l.foldl (fun s e => bif Region.binds .any e then s ||| 2 ^ e.on ||| ((acc[e.on]?).map Done.bef).getD 0 else s) s).testBit k = true ↔
      s.testBit k = true ∨ ∃ e, (e ∈ l ∧ Region.binds .any e = true) ∧ (e.on = k ∨ (((acc[e.on]?).map Done.bef).getD 0).testBit k = true) := by
    intro l
    induction l with
    | nil => intro s; simp
    | cons e l ih =>
      intro s
      rw [List.foldl_cons, ih]
      cases hbe : Region.binds .any e with
      | false =>
        simp only [cond_false, List.mem_cons]
        constructor
        · rintro (h | ⟨e', ⟨h1, h1'⟩, h2⟩)
          · exact .inl h
          · exact .inr ⟨e', ⟨.inr h1, h1'⟩, h2⟩
        · rintro (h | ⟨e', ⟨rfl | h1, h1'⟩, h2⟩)
          · exact .inl h
          · rw [hbe] at h1'; cases h1'
          · exact .inr ⟨e', ⟨h1, h1'⟩, h2⟩
      | true =>
        simp only [cond_true, Nat.testBit_or, Bool.or_eq_true, Nat.testBit_two_pow, decide_eq_true_eq, List.mem_cons]
        constructor
        · rintro ((h | h) | h)
          · rcases h with h | h
            · exact .inl h
            · exact .inr ⟨e, ⟨.inl rfl, hbe⟩, .inl h⟩
          · exact .inr ⟨e, ⟨.inl rfl, hbe⟩, .inr h⟩
          · obtain ⟨e', ⟨h1, h1'⟩, h2⟩ := h; exact .inr ⟨e', ⟨.inr h1, h1'⟩, h2⟩
        · rintro (h | ⟨e', ⟨rfl | h1, h1'⟩, h2⟩)
          · exact .inl (.inl (.inl h))
          · rcases h2 with h2 | h2
            · exact .inl (.inl (.inr h2))
            · exact .inl (.inr h2)
          · exact .inr ⟨e', ⟨h1, h1'⟩, h2⟩
  rw [key]
  simp

theorem noClash_at {bef : Nat} {d : Done} : ∀ (l : List Done) (i : Nat), noClash bef d i l = true → ∀ (k : Nat) (x : Done), l[k]? = some x → bef.testBit (i + k) = true ∨ clash x d = false
  | [], i, _, k, x, hx => by simp at hx
  | y :: r, i, h, k, x, hx => by
    simp only [noClash, Bool.and_eq_true, Bool.or_eq_true, Bool.not_eq_true'] at h
    cases k with
    | zero => simp at hx; subst hx; simpa using h.1
    | succ k =>
      have := noClash_at r (i + 1) h.2 k x (by simpa using hx)
      rw [show i + 1 + k = i + (k + 1) by omega] at this; exact this
end Go.Ags
