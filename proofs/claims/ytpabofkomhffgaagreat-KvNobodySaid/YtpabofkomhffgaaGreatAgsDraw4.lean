/- A region, whether it draws its order or not, comes to what the evaluator says. -/
import Derived.Test.YtpabofkomhffgaaGreatAgsDraw3
set_option linter.unusedVariables false
set_option linter.unusedSimpArgs false
namespace Go.Ags
section
variable {P : Program} {R : Rec} {ops : Array Oper} {ts : Array Value} {h : AH} {L : List Done} {nx : Nat → Nat}

theorem doneT_all : ∀ (l : List Done) (m i : Nat) (ts : Array Value), (∀ k, k < l.length → m.testBit (i + k) = true) → doneT m ts i l = allT ts l
  | [], _, _, _, _ => rfl
  | d :: r, m, i, ts, hm => by
    have h0 := hm 0 (by simp)
    simp only [Nat.add_zero] at h0
    simp only [doneT, h0, if_true, allT, List.foldl_cons]
    exact doneT_all r m (i + 1) _ (fun k hk => by
      have := hm (k + 1) (by simp; omega)
      rw [show i + 1 + k = i + (k + 1) by omega]; exact this)

theorem doneH_all : ∀ (l : List Done) (m i : Nat) (h : AH), (∀ k, k < l.length → m.testBit (i + k) = true) → doneH m h i l = allH h l
  | [], _, _, _, _ => rfl
  | d :: r, m, i, h, hm => by
    have h0 := hm 0 (by simp)
    simp only [Nat.add_zero] at h0
    simp only [doneH, h0, if_true, allH, List.foldl_cons]
    exact doneH_all r m (i + 1) _ (fun k hk => by
      have := hm (k + 1) (by simp; omega)
      rw [show i + 1 + k = i + (k + 1) by omega]; exact this)

theorem allH_log : ∀ (l : List Done) (h : AH), (allH h l).log = (l.flatMap fun d => d.eff.map (·.1)).reverse ++ h.log
  | [], h => rfl
  | d :: r, h => by
    show (allH (h.effs d.eff) r).log = _
    rw [allH_log r, effs_log]
    simp

theorem doneT_none : ∀ (l : List Done) (i : Nat) (ts : Array Value), doneT 0 ts i l = ts
  | [], _, _ => rfl
  | d :: r, i, ts => by simp only [doneT, Nat.zero_testBit]; exact doneT_none r (i + 1) ts
theorem doneH_none : ∀ (l : List Done) (i : Nat) (h : AH), doneH 0 h i l = h
  | [], _, _ => rfl
  | d :: r, i, h => by simp only [doneH, Nat.zero_testBit]; exact doneH_none r (i + 1) h

theorem effGet_mem {l : List (Nat × Option Obj)} {b : Nat} (h : b ∈ l.map (·.1)) : (effGet l b).isSome := by
  unfold effGet
  obtain ⟨e, he, rfl⟩ := List.mem_map.1 h
  cases hf : l.reverse.find? (fun x => x.1 == e.1) with
  | some x => rfl
  | none =>
    rw [List.find?_eq_none] at hf
    have := hf e (by simpa using he)
    simp at this

theorem wr_all {m b : Nat} (hm : ∀ k, k < L.length → m.testBit k = true) : Wr L m b ↔ b ∈ (L.flatMap fun d => d.eff.map (·.1)).reverse := by
  rw [List.mem_reverse, List.mem_flatMap]
  constructor
  · rintro ⟨j, d, h1, _, h3⟩
    obtain ⟨e, he, rfl⟩ := effGet_some_any h3
    exact ⟨d, List.mem_of_getElem? h1, List.mem_map.2 ⟨e, he, rfl⟩⟩
  · rintro ⟨d, h1, h2⟩
    obtain ⟨j, hj, rfl⟩ := List.mem_iff_getElem.1 h1
    exact ⟨j, _, List.getElem?_eq_getElem hj, hm j hj, effGet_mem h2⟩

section
variable {F : Fence} {n : Nat} {Q : Exit → Act → World → Prop} {ι0 : Inj} {w0 : World} {a0 : Act} {nE : Nat}

theorem draw_run (G : ∀ (f : FuncId) (fn : Func), P.funcs[f]? = some fn → (fn.name == "runtime.NumGoroutine") = false) (hR : RecSound P R) (hN : RecNext R) (hF : FOk F) (D : DF P R ops ts h L nx) (hnE : nx ops.size = nE)
    (hf : ∀ b, h.next ≤ b → b < nE → ι0 b = none)
    (hq : ∀ m ι a w, (∀ k, k < L.length → m.testBit k = true) → Inv ts h L nx nE ι0 w0 a0 m ι a w → Q .normal a w) :
    ∀ (l : List Nat) (m : Nat) (ι : Inj) (a : Act) (w : World), Legal ops (fun k => m.testBit k = true) l → Inv ts h L nx nE ι0 w0 a0 m ι a w → wpOpsIn F n P ops Q l a w := by
  intro l
  induction l with
  | nil =>
    intro m ι a w hl I
    cases hl with
    | done hall => exact hq m ι a w (fun k hk => hall k (by rw [← D.len]; exact hk)) I
  | cons j rest ih =>
    intro m ι a w hl I
    cases hl with
    | step hi hn he hr =>
    have ho := Array.getElem?_eq_getElem hi
    generalize ops[j] = o at ho
    obtain ⟨d, hd, O, _⟩ := D.at_ j o ho
    have hj : m.testBit j = false := by simpa using hn
    have hb : ∀ k, d.bef.testBit k = true → m.testBit k = true := by
      intro k hk
      rw [O.bef, before_bit] at hk
      obtain ⟨e, ⟨hee, hbe⟩, hk⟩ := hk
      have hme := he o ho e hee hbe
      have hlt := O.edges e hee hbe
      rcases hk with rfl | hk
      · exact hme
      · rw [take_get hlt] at hk
        cases hx : L[e.on]? with
        | none => simp [hx] at hk
        | some x =>
          simp [hx] at hk
          exact I.closed e.on x hx hme k hk
    have hsub : ∀ b x, d.foot.get b = some x → (doneH m h 0 L).get b = some x := fun b x e => D.sub I.closed hd hj hb e
    have hk0 : HRel ι d.foot w := I.hr.sub (by rw [O.ro, doneH_ro]) hsub
    have names : ∀ t, t ∈ d.names → (doneT m ts 0 L)[t]? = (doneT d.bef ts 0 (L.take j))[t]? := fun t ht => D.names I.closed hd hj hb ht
    have hfree : ∀ b, nx j ≤ b → b < nx (j + 1) → ι b = none := by
      intro b h1 h2
      have m0j : h.next ≤ nx j := by rw [← D.nx0]; exact D.mono' hN (Nat.zero_le _) (by omega)
      have mjE : nx (j + 1) ≤ nE := by rw [← hnE]; exact D.mono' hN (by omega) (Nat.le_refl _)
      rw [I.dom b (fun i hmi hil ⟨h3, h4⟩ => ?_)]
      · exact hf b (by omega) (by omega)
      · have his : i < ops.size := by rw [← D.len]; exact hil
        rcases Nat.lt_trichotomy i j with q | q | q
        · have := D.mono' hN (show i + 1 ≤ j by omega) (by omega); omega
        · subst q; rw [hmi] at hj; cases hj
        · have := D.mono' hN (show j + 1 ≤ i by omega) (by omega); omega
    obtain ⟨tj, htj, hrun⟩ := O.run
    -- whether it is wanted
    have hwant : Region.wanted o (yielded ops a.tmps) = Region.wanted o (yielded ops tj) := by
      rw [yielded_rel I.tm ops]
      unfold Region.wanted
      cases hg : o.guard with
      | none => rfl
      | some gw =>
        obtain ⟨g, want⟩ := gw
        simp only
        congr 1
        unfold yielded
        cases hgd : (ops[g]?).bind (·.dst) with
        | none => rfl
        | some t =>
          simp only [Option.bind_some]
          have ht : t ∈ d.names := by rw [O.names]; unfold opTmps; simp [hg, hgd]
          rw [names t ht, ← htj t ht]
    have hnext : ∀ ι1 a1 w1, Inv ts h L nx nE ι0 w0 a0 (m ||| 2 ^ j) ι1 a1 w1 → wpOpsIn F n P ops Q rest a1 w1 := by
      intro ι1 a1 w1 I1
      refine ih _ ι1 a1 w1 (hr.congr fun k => ?_) I1
      rw [testBit_add, Bool.or_eq_true, decide_eq_true_eq]
      exact or_congr Iff.rfl eq_comm
    simp only [wpOpsIn, ho]
    rw [hwant]
    rcases hrun with ⟨hw, hok, h', δ, hop, hlog, heff, hnx⟩ | ⟨hw, hv, heff, hnx⟩
    · rw [if_pos hw]
      refine aOp_sound G hR hF hop (fun x hx => ?_) hk0 (fun b h1 h2 => hfree b (by rw [← O.nxt]; exact h1) (by rw [← hnx]; exact h2)) ?_
      · -- the operands
        unfold okOp at hok
        rw [Array.all_eq_true'] at hok
        have hox := hok x hx
        cases x with
        | tmp t =>
          have ht : t ∈ d.names := by
            rw [O.names]; unfold opTmps
            rw [List.mem_append, List.mem_filterMap]
            exact .inl ⟨.tmp t, by simpa using hx, rfl⟩
          have e1 : evalIn tj (.tmp t) = evalIn (doneT m ts 0 L) (.tmp t) := by
            simp only [evalIn, Array.getD_eq_getD_getElem?, names t ht, htj t ht]
          rw [e1]
          exact eval_rel I.tm hox
        | const v => exact eval_rel (ts := doneT m ts 0 L) I.tm hox
        | global g => simp [okOpnd] at hox
        | func f => exact eval_rel (ts := doneT m ts 0 L) I.tm hox
      · intro ι1 v1 w1 δ1 hdid rv
        have hδ : δ = δ1 := List.append_cancel_right (hlog.symm.trans hdid.a.log)
        subst hδ
        have := I.step D hN hnE hf hd hj hb heff O.nxt O.ro hnx hdid rv
        rw [O.dst] at this
        exact hnext ι1 _ w1 this
    · rw [if_neg (by rw [hw]; simp)]
      refine ⟨fun f _ => hF.1 f, ?_⟩
      have hdid : Did ι d.foot w ι d.foot w [] := .refl hk0 rfl (.refl w)
      have := I.step D hN hnE hf hd hj hb (h' := d.foot) (δ := []) (by rw [heff]; rfl) O.nxt O.ro (by rw [O.nxt, hnx]) hdid (v1 := undef) (by rw [hv]; exact .undef)
      rw [O.dst] at this
      exact hnext ι _ w this

theorem Inv.start {ι0 : Inj} {w0 w1 : World} {a0 : Act} (r : ARel ι0 ts a0.tmps) (k : HRel ι0 h w0) (hw : w1.heap = w0.heap) (hs : Same w0 w1) : Inv ts h L nx nE ι0 w0 a0 0 ι0 a0 w1 := by
  refine ⟨fun j d hd hj => by simp at hj, by rw [doneT_none]; exact r, rfl, by rw [doneH_none]; exact k.world hw, fun b _ => rfl, by rw [hw]; exact Nat.le_refl _, hs, fun g hg _ => by rw [hw], fun j hj => by simp at hj,
    fun j d hd hj => by simp at hj, fun b ⟨j, d, _, hj, _⟩ => by simp at hj, fun b hb => by rw [doneH_none] at hb; exact .inl hb, fun j hj => by simp at hj⟩

theorem Inv.finish (D : DF P R ops ts h L nx) (hN : RecNext R) (hnE : nx ops.size = nE) {m : Nat} {ι : Inj} {a : Act} {w : World} (hm : ∀ k, k < L.length → m.testBit k = true) (I : Inv ts h L nx nE ι0 w0 a0 m ι a w) :
    ∃ δ, Did ι0 h w0 ι { allH h L with next := nE } w δ ∧ ARel ι (allT ts L) a.tmps := by
  have e1 : doneT m ts 0 L = allT ts L := doneT_all L m 0 ts (by simpa using hm)
  have e2 : doneH m h 0 L = allH h L := doneH_all L m 0 h (by simpa using hm)
  have hle : h.next ≤ nE := by rw [← D.nx0, ← hnE]; exact D.mono' hN (Nat.zero_le _) (Nat.le_refl _)
  have hget : ∀ b, ({ allH h L with next := nE } : AH).get b = (doneH m h 0 L).get b := fun b => by rw [e2]; rfl
  refine ⟨(L.flatMap fun d => d.eff.map (·.1)).reverse, ⟨⟨?_, ?_, hle, fun b hb => ?_, fun b hb => ?_⟩, ⟨fun b hb => ?_, I.size, I.same.os, I.same.tape, I.same.output, fun g hg hfr => ?_, fun b M h1 h2 hM => ?_, ?_⟩⟩, by rw [← e1]; exact I.tm⟩
  · exact allH_log L h
  · show (allH h L).ro = h.ro
    rw [← e2, doneH_ro]
  · rw [hget, doneH_get, lastEff_none L 0 (fun k d hk hmk => ?_)]
    · rfl
    · cases hs : effGet d.eff b with
      | none => rfl
      | some x => exact absurd ((wr_all hm).1 ⟨k, d, hk, by simpa using hmk, by rw [hs]; rfl⟩) hb
  · exact I.own2 b ((wr_all hm).2 hb)
  · refine I.dom b fun j hj hjl hr => hb ?_
    have hjs : j < ops.size := by rw [← D.len]; exact hjl
    have a1 : nx 0 ≤ nx j := D.mono' hN (Nat.zero_le _) (by omega)
    have a2 : nx (j + 1) ≤ nE := by rw [← hnE]; exact D.mono' hN (by omega) (Nat.le_refl _)
    rw [D.nx0] at a1
    exact ⟨by omega, by show b < nE; omega⟩
  · exact I.frame g hg (fun b hb => hfr b ((wr_all hm).1 hb))
  · -- in whose range it is
    have h2' : b < nE := h2
    have : ∀ k, k ≤ ops.size → b < nx k → ∃ j, j < k ∧ nx j ≤ b ∧ b < nx (j + 1) := by
      intro k
      induction k with
      | zero => intro _ hb; rw [D.nx0] at hb; omega
      | succ k ih =>
        intro hk hb
        by_cases hq : b < nx k
        · obtain ⟨j, h1, h2⟩ := ih (by omega) hq; exact ⟨j, by omega, h2⟩
        · exact ⟨k, by omega, by omega, hb⟩
    obtain ⟨j, hj, r1, r2⟩ := this ops.size (Nat.le_refl _) (by rw [hnE]; exact h2')
    have hjl : j < L.length := by rw [D.len]; exact hj
    rcases I.fresh j (hm j hjl) hjl b M r1 r2 hM with z | ⟨p, hw, hd, hs, M', hM', eg⟩
    · exact .inl z
    · exact .inr ⟨p, (wr_all hm).1 hw, by rw [hget]; exact hd, hs, M', hM', eg⟩
  · exact ⟨fun b o e => by
      rw [hget] at e
      have := I.hr.live b o e
      rw [doneH_ro] at this
      have er : ({ allH h L with next := nE } : AH).ro = h.ro := by show (allH h L).ro = h.ro; rw [← e2, doneH_ro]
      rw [er]; exact this,
      fun b c o o' M M' q1 q2 i1 i2 hb hn => by
      rw [hget] at q1 q2
      have er : ({ allH h L with next := nE } : AH).ro = h.ro := by show (allH h L).ro = h.ro; rw [← e2, doneH_ro]
      rw [er] at hb
      exact I.hr.inj b c o o' M M' q1 q2 i1 i2 (by rw [doneH_ro]; exact hb) hn⟩

/-- The same heap but for the log's order: the same has been done. -/
theorem Did.congr {ι ι' : Inj} {h h1 h2 : AH} {w w' : World} {δ δ' : List Nat} (d : Did ι h w ι' h1 w' δ) (hg : ∀ b, h2.get b = h1.get b) (hr : h2.ro = h1.ro) (hn : h2.next = h1.next) (hl : h2.log = δ' ++ h.log) (hm : ∀ b, b ∈ δ' ↔ b ∈ δ) : Did ι h w ι' h2 w' δ' := by
  obtain ⟨a, c⟩ := d
  refine ⟨⟨hl, hr.trans a.ro, by rw [hn]; exact a.next, fun b hb => by rw [hg]; exact a.old b (fun q => hb ((hm b).2 q)), fun b hb => by rw [hn]; exact a.own b ((hm b).1 hb)⟩,
    ⟨fun b hb => c.dom b (by rw [← hn]; exact hb), c.size, c.os, c.tape, c.output, fun g hg' hb => c.frame g hg' (fun b q => hb b ((hm b).2 q)), fun b L h1' h2' e => ?_, ?_⟩⟩
  · rw [hn] at h2'
    rcases c.fresh b L h1' h2' e with q | ⟨p, hp, hd, hs, r⟩
    · exact .inl q
    · exact .inr ⟨p, (hm p).2 hp, by rw [hg]; exact hd, hs, r⟩
  · exact c.rel.sub hr fun b o e => by rw [← hg]; exact e
end
end
end Go.Ags
