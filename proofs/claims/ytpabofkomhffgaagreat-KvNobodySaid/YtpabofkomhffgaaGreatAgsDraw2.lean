/- A region that draws its order: the induction over the order drawn. -/
import Derived.Test.YtpabofkomhffgaaGreatAgsDraw
import Derived.Test.YtpabofkomhffgaaGreatAgsStep
set_option linter.unusedVariables false
set_option linter.unusedSimpArgs false
namespace Go.Ags

theorem only_sub {h : AH} {bs : List Nat} {b : Nat} {x : Obj} (e : (h.only (some bs)).get b = some x) : b ∈ bs ∧ h.get b = some x := by
  rw [only_get] at e
  split at e
  · rename_i hb; exact ⟨hb, e⟩
  · cases e

theorem effGet_map (l : List Nat) (f : Nat → Option Obj) (b : Nat) : effGet (l.map fun c => (c, f c)) b = if b ∈ l then some (f b) else none := by
  unfold effGet
  rw [← List.map_reverse]
  have : ∀ l : List Nat, ((l.map fun c => (c, f c)).find? (fun e => e.1 == b)).map (·.2) = if b ∈ l then some (f b) else none := by
    intro l
    induction l with
    | nil => simp
    | cons c l ih =>
      by_cases hc : c = b
      · subst hc; simp
      · have : ¬ b = c := fun q => hc q.symm
        have hcb : (c == b) = false := by simpa using hc
        rw [List.map_cons, List.find?_cons]
        simp only [hcb]
        rw [ih]
        simp [this]
  rw [this]; simp

theorem effGet_some_any {l : List (Nat × Option Obj)} {b : Nat} (h : (effGet l b).isSome) : ∃ e, e ∈ l ∧ e.1 = b := by
  unfold effGet at h
  cases hf : l.reverse.find? (fun e => e.1 == b) with
  | none => rw [hf] at h; simp at h
  | some x =>
    have h1 := List.mem_of_find?_eq_some hf
    have h2 := List.find?_some hf
    exact ⟨x, by simpa using h1, by simpa using h2⟩

section
variable {P : Program} {R : Rec} {ops : Array Oper} {ts : Array Value} {h : AH}

/-- What one evaluation says. -/
structure One (P : Program) (R : Rec) (ops : Array Oper) (ts : Array Value) (h : AH) (j : Nat) (o : Oper) (acc : List Done) (next : Nat) (d : Done) (next' : Nat) : Prop where
  edges : ∀ e, e ∈ o.after → Region.binds .any e = true → e.on < j
  guard : guardOk (before acc o) o = true
  dst : d.dst = o.dst
  bef : d.bef = before acc o
  names : d.names = opTmps ops o
  foot : ∀ b x, d.foot.get b = some x → (doneH d.bef h 0 acc).get b = some x
  ro : d.foot.ro = h.ro
  nxt : d.foot.next = next
  run : ∃ tj : Array Value, (∀ t, t ∈ d.names → tj[t]? = (doneT d.bef ts 0 acc)[t]?) ∧
    ((Region.wanted o (yielded ops tj) = true ∧ okOp o = true ∧ ∃ h' δ, aOp P R (evalIn tj) o d.foot = some (d.v, h') ∧ h'.log = δ ++ d.foot.log ∧ d.eff = (δ.eraseDups.map fun b => (b, h'.get b)) ∧ h'.next = next') ∨
    (Region.wanted o (yielded ops tj) = false ∧ d.v = undef ∧ d.eff = [] ∧ next' = next))

theorem One.mono {j : Nat} {o : Oper} {acc : List Done} {next next' : Nat} {d : Done} (O : One P R ops ts h j o acc next d next') (hN : RecNext R) : next ≤ next' := by
  obtain ⟨tj, _, ⟨_, _, h', δ, e, _, _, hn⟩ | ⟨_, _, _, hn⟩⟩ := O.run
  · have := aOp_next hN e
    rw [O.nxt] at this
    omega
  · omega

/-- What an evaluation of a region says of each operation. -/
structure DF (P : Program) (R : Rec) (ops : Array Oper) (ts : Array Value) (h : AH) (L : List Done) (nx : Nat → Nat) : Prop where
  len : L.length = ops.size
  nx0 : nx 0 = h.next
  at_ : ∀ (j : Nat) (o : Oper), ops[j]? = some o → ∃ d, L[j]? = some d ∧ One P R ops ts h j o (L.take j) (nx j) d (nx (j + 1)) ∧
    ∀ (i : Nat) (x : Done), i < j → L[i]? = some x → d.bef.testBit i = true ∨ (clash1 x d = false ∧ clash1 d x = false)

variable {L : List Done} {nx : Nat → Nat}

theorem DF.one (D : DF P R ops ts h L nx) {j : Nat} {d : Done} (hd : L[j]? = some d) : ∃ o, ops[j]? = some o ∧ One P R ops ts h j o (L.take j) (nx j) d (nx (j + 1)) := by
  have hj : j < ops.size := by rw [← D.len]; exact (List.getElem?_eq_some_iff.1 hd).1
  have ho := Array.getElem?_eq_getElem hj
  obtain ⟨d', h1, h2, h3⟩ := D.at_ j _ ho
  rw [hd] at h1; cases h1
  exact ⟨_, ho, h2⟩

theorem take_get {α : Type} {l : List α} {j k : Nat} (h : k < j) : (l.take j)[k]? = l[k]? := by
  rw [List.getElem?_take, if_pos h]

theorem DF.bits (D : DF P R ops ts h L nx) : ∀ (j : Nat) (d : Done), L[j]? = some d → ∀ k, d.bef.testBit k = true → k < j := by
  intro j
  induction j using Nat.strongRecOn with
  | _ j ih =>
    intro d hd k hk
    obtain ⟨o, ho, O⟩ := D.one hd
    rw [O.bef, before_bit] at hk
    obtain ⟨e, ⟨he, hbe⟩, hk⟩ := hk
    have hlt := O.edges e he hbe
    rcases hk with rfl | hk
    · exact hlt
    · rw [take_get hlt] at hk
      cases hx : L[e.on]? with
      | none => simp [hx] at hk
      | some x =>
        simp [hx] at hk
        exact Nat.lt_trans (ih e.on hlt x hx k hk) hlt

theorem DF.noc (D : DF P R ops ts h L nx) {i j : Nat} {x d : Done} (hx : L[i]? = some x) (hd : L[j]? = some d) (hij : i < j) : d.bef.testBit i = true ∨ (clash1 x d = false ∧ clash1 d x = false) := by
  have hj : j < ops.size := by rw [← D.len]; exact (List.getElem?_eq_some_iff.1 hd).1
  obtain ⟨d', h1, _, h3⟩ := D.at_ j _ (Array.getElem?_eq_getElem hj)
  rw [hd] at h1; cases h1
  exact h3 i x hij hx

theorem DF.mono (D : DF P R ops ts h L nx) (hN : RecNext R) : ∀ (k j : Nat), j + k ≤ ops.size → nx j ≤ nx (j + k)
  | 0, j, _ => Nat.le_refl _
  | k + 1, j, hk => by
    have h1 := D.mono hN k j (by omega)
    have hj : j + k < ops.size := by omega
    obtain ⟨d, _, h2, _⟩ := D.at_ (j + k) _ (Array.getElem?_eq_getElem hj)
    have := h2.mono hN
    rw [show j + (k + 1) = j + k + 1 by omega]
    omega

theorem DF.mono' (D : DF P R ops ts h L nx) (hN : RecNext R) {i j : Nat} (hij : i ≤ j) (hj : j ≤ ops.size) : nx i ≤ nx j := by
  obtain ⟨k, rfl⟩ : ∃ k, j = i + k := ⟨j - i, by omega⟩
  exact D.mono hN k i hj

theorem clash1_foot {x d : Done} (h : clash1 x d = false) {b : Nat} (hb : (effGet x.eff b).isSome) : (d.foot.get b).isSome = false := by
  unfold clash1 at h
  simp only [Bool.or_eq_false_iff] at h
  obtain ⟨e, he, rfl⟩ := effGet_some_any hb
  have h2 := h.2
  rw [← Bool.not_eq_true, List.any_eq_true] at h2
  cases hq : (d.foot.get e.1).isSome with
  | false => rfl
  | true => exact absurd ⟨e, he, hq⟩ h2

theorem clash1_dst {x d : Done} (h : clash1 x d = false) {t : Tmp} (ht : x.dst = some t) : t ∉ d.names ∧ d.dst ≠ some t := by
  unfold clash1 at h
  simp only [Bool.or_eq_false_iff, ht] at h
  obtain ⟨⟨h1, h2⟩, _⟩ := h
  exact ⟨by simpa using h1, by simpa using h2⟩

/-- The mask is closed, and an operation that comes next hangs on nothing outside. -/
def Closed (L : List Done) (m : Nat) : Prop := ∀ (j : Nat) (d : Done), L[j]? = some d → m.testBit j = true → ∀ k, d.bef.testBit k = true → m.testBit k = true

theorem DF.pair (D : DF P R ops ts h L nx) {m i j : Nat} {x d : Done} (hc : Closed L m) (hx : L[i]? = some x) (hd : L[j]? = some d) (hi : m.testBit i = true) (hj : m.testBit j = false) (hn : d.bef.testBit i = false) :
    clash1 x d = false ∧ clash1 d x = false := by
  rcases Nat.lt_trichotomy i j with q | q | q
  · rcases D.noc hx hd q with r | r
    · rw [hn] at r; cases r
    · exact r
  · subst q; rw [hi] at hj; cases hj
  · rcases D.noc hd hx q with r | r
    · have := hc i x hx hi j r
      rw [hj] at this; cases this
    · exact ⟨r.2, r.1⟩

theorem DF.sub (D : DF P R ops ts h L nx) {m j : Nat} {d : Done} (hc : Closed L m) (hd : L[j]? = some d) (hj : m.testBit j = false) (hb : ∀ k, d.bef.testBit k = true → m.testBit k = true) {b : Nat} {x : Obj} (e : d.foot.get b = some x) :
    (doneH m h 0 L).get b = some x := by
  obtain ⟨o, ho, O⟩ := D.one hd
  have h1 := O.foot b x e
  rw [doneH_get, lastEff_take L 0 (fun k hk => by
    cases hq : d.bef.testBit k with
    | false => rfl
    | true => have := D.bits j d hd k hq; omega)] at h1
  rw [doneH_get, ← lastEff_congr (m := d.bef) (m' := m) L 0 (fun k y hy hs => ?_)]
  · exact h1
  · simp only [Nat.zero_add]
    cases hq : d.bef.testBit k with
    | true => rw [hb k hq]
    | false =>
      cases hm : m.testBit k with
      | false => rfl
      | true =>
        have := clash1_foot (D.pair hc hy hd hm hj hq).1 hs
        rw [e] at this; simp at this

theorem DF.names (D : DF P R ops ts h L nx) {m j : Nat} {d : Done} (hc : Closed L m) (hd : L[j]? = some d) (hj : m.testBit j = false) (hb : ∀ k, d.bef.testBit k = true → m.testBit k = true) {t : Tmp} (ht : t ∈ d.names) :
    (doneT m ts 0 L)[t]? = (doneT d.bef ts 0 (L.take j))[t]? := by
  rw [doneT_get, doneT_get, lastT_take L 0 (fun k hk => by
    cases hq : d.bef.testBit k with
    | false => rfl
    | true => have := D.bits j d hd k hq; omega)]
  rw [lastT_congr (m := m) (m' := d.bef) L 0 (fun k y hy hs => ?_)]
  simp only [Nat.zero_add]
  cases hq : d.bef.testBit k with
  | true => rw [hb k hq]
  | false =>
    cases hm : m.testBit k with
    | false => rfl
    | true => exact absurd ht (clash1_dst (D.pair hc hy hd hm hj hq).1 hs).1

theorem testBit_add (m j k : Nat) : (m ||| 2 ^ j).testBit k = (m.testBit k || decide (j = k)) := by
  rw [Nat.testBit_or, Nat.testBit_two_pow]

theorem DF.putT (D : DF P R ops ts h L nx) {m j : Nat} {d : Done} (hc : Closed L m) (hd : L[j]? = some d) (hj : m.testBit j = false) (hb : ∀ k, d.bef.testBit k = true → m.testBit k = true) :
    doneT (m ||| 2 ^ j) ts 0 L = Ags.putT (doneT m ts 0 L) d.dst d.v := by
  apply Array.ext_getElem?
  intro t
  rw [doneT_get, putT_get, doneT_size, doneT_get]
  by_cases ht : d.dst = some t
  · rw [if_pos ht, lastT_here (j := j) (d := d) L 0 hd (by simp [testBit_add]) ht (fun k y hk hy hm => ?_)]
    simp only [Nat.zero_add] at hm
    rw [testBit_add] at hm
    have hjk : ¬ j = k := by omega
    simp [hjk] at hm
    have hn : d.bef.testBit k = false := by
      cases hq : d.bef.testBit k with
      | false => rfl
      | true => have := D.bits j d hd k hq; omega
    intro hyt
    exact (clash1_dst (D.pair hc hy hd hm hj hn).1 hyt).2 ht
  · rw [if_neg ht, lastT_congr (m := m ||| 2 ^ j) (m' := m) L 0 (fun k y hy hs => ?_)]
    simp only [Nat.zero_add]
    rw [testBit_add]
    by_cases hjk : j = k
    · subst hjk; rw [hd] at hy; cases hy; exact absurd hs ht
    · simp [hjk]

/-- Behind an operation: its blocks as it leaves them, all others as they were. -/
theorem DF.getH (D : DF P R ops ts h L nx) (hN : RecNext R) {m j : Nat} {d : Done} (hc : Closed L m) (hd : L[j]? = some d) (hj : m.testBit j = false)
    (own : ∀ (i : Nat) (x : Done), L[i]? = some x → (m ||| 2 ^ j).testBit i = true → ∀ b, (effGet x.eff b).isSome → (nx i ≤ b ∧ b < nx (i + 1)) ∨ (x.foot.get b).isSome) (b : Nat) :
    (doneH (m ||| 2 ^ j) h 0 L).get b = match effGet d.eff b with | some x => x | none => (doneH m h 0 L).get b := by
  rw [doneH_get, doneH_get]
  cases hs : effGet d.eff b with
  | some x =>
    rw [lastEff_here (j := j) (d := d) L 0 hd (by simp [testBit_add]) hs (fun k y hk hy hm => ?_)]
    · rfl
    simp only [Nat.zero_add] at hm
    have hm0 := hm
    rw [testBit_add] at hm
    have hjk : ¬ j = k := by omega
    simp [hjk] at hm
    have hn : d.bef.testBit k = false := by
      cases hq : d.bef.testBit k with
      | false => rfl
      | true => have := D.bits j d hd k hq; omega
    obtain ⟨c1, c2⟩ := D.pair hc hy hd hm hj hn
    cases hq : effGet y.eff b with
    | none => rfl
    | some z =>
      exfalso
      have hsz : j + 1 ≤ ops.size := by rw [← D.len]; have := (List.getElem?_eq_some_iff.1 hd).1; omega
      have hkz : k + 1 ≤ ops.size := by rw [← D.len]; have := (List.getElem?_eq_some_iff.1 hy).1; omega
      have m1 := D.mono' hN (show j + 1 ≤ k by omega) (by omega)
      have f1 := clash1_foot c1 (b := b) (by rw [hq]; rfl)
      have f2 := clash1_foot c2 (b := b) (by rw [hs]; rfl)
      rcases own j d hd (by simp [testBit_add]) b (by rw [hs]; rfl) with r | r
      · rcases own k y hy hm0 b (by rw [hq]; rfl) with r2 | r2
        · omega
        · rw [f2] at r2; cases r2
      · rw [f1] at r; cases r
  | none =>
    rw [lastEff_congr (m := m ||| 2 ^ j) (m' := m) L 0 (fun k y hy hse => ?_)]
    simp only [Nat.zero_add]
    rw [testBit_add]
    by_cases hjk : j = k
    · subst hjk; rw [hd] at hy; cases hy; rw [hs] at hse; simp at hse
    · simp [hjk]
end
end Go.Ags
