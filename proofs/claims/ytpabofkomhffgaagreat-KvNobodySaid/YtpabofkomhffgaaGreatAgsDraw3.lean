/- A region that draws its order: what holds behind each operation, in whatever order. -/
import Derived.Test.YtpabofkomhffgaaGreatAgsDraw2
set_option linter.unusedVariables false
set_option linter.unusedSimpArgs false
namespace Go.Ags
section
variable {P : Program} {R : Rec} {ops : Array Oper} {ts : Array Value} {h : AH} {L : List Done} {nx : Nat → Nat}

def Wr (L : List Done) (m b : Nat) : Prop := ∃ (j : Nat) (d : Done), L[j]? = some d ∧ m.testBit j = true ∧ (effGet d.eff b).isSome

structure Inv (ts : Array Value) (h : AH) (L : List Done) (nx : Nat → Nat) (nE : Nat) (ι0 : Inj) (w0 : World) (a0 : Act) (m : Nat) (ι : Inj) (a : Act) (w : World) : Prop where
  closed : Closed L m
  tm : ARel ι (doneT m ts 0 L) a.tmps
  df : a.defers = a0.defers
  hr : HRel ι (doneH m h 0 L) w
  dom : ∀ b, (∀ j, m.testBit j = true → j < L.length → ¬(nx j ≤ b ∧ b < nx (j + 1))) → ι b = ι0 b
  size : w0.heap.size ≤ w.heap.size
  same : Same w0 w
  frame : ∀ g, g < w0.heap.size → (∀ b, Wr L m b → ∀ M, ι0 b = some M → M.g ≠ g) → w.heap[g]? = w0.heap[g]?
  fresh : ∀ j, m.testBit j = true → j < L.length → ∀ b M, nx j ≤ b → b < nx (j + 1) → ι b = some M → w0.heap.size ≤ M.g ∨
    ∃ p, Wr L m p ∧ (doneH m h 0 L).get p = none ∧ (h.get p).isSome ∧ ∃ M', ι0 p = some M' ∧ M'.g = M.g
  own : ∀ (j : Nat) (d : Done), L[j]? = some d → m.testBit j = true → ∀ b, (effGet d.eff b).isSome → (nx j ≤ b ∧ b < nx (j + 1)) ∨ (d.foot.get b).isSome
  own2 : ∀ b, Wr L m b → (h.next ≤ b ∧ b < nE) ∨ (h.ro ≤ b ∧ (h.get b).isSome)
  src : ∀ b, ((doneH m h 0 L).get b).isSome → (h.get b).isSome ∨ ∃ j, m.testBit j = true ∧ j < L.length ∧ nx j ≤ b ∧ b < nx (j + 1)
  bits : ∀ j, m.testBit j = true → j < L.length

theorem Inv.step (D : DF P R ops ts h L nx) (hN : RecNext R) {nE : Nat} (hnE : nx ops.size = nE) {ι0 : Inj} {w0 : World} {a0 : Act} (hf : ∀ b, h.next ≤ b → b < nE → ι0 b = none) {m : Nat} {ι : Inj} {a : Act} {w : World}
    (I : Inv ts h L nx nE ι0 w0 a0 m ι a w) {j : Nat} {d : Done} (hd : L[j]? = some d) (hj : m.testBit j = false) (hb : ∀ k, d.bef.testBit k = true → m.testBit k = true) {h' : AH} {δ : List Nat}
    (heff : d.eff = δ.eraseDups.map fun b => (b, h'.get b)) (hfn : d.foot.next = nx j) (hro : d.foot.ro = h.ro) (hnx : h'.next = nx (j + 1)) {ι1 : Inj} {w1 : World} {v1 : Value} (hdid : Did ι d.foot w ι1 h' w1 δ) (rv : VRel ι1 d.v v1) :
    Inv ts h L nx nE ι0 w0 a0 (m ||| 2 ^ j) ι1 (a.put d.dst v1) w1 := by
  have hjl : j < L.length := (List.getElem?_eq_some_iff.1 hd).1
  have hjs : j < ops.size := by rw [← D.len]; exact hjl
  have m0j : h.next ≤ nx j := by rw [← D.nx0]; exact D.mono' hN (Nat.zero_le _) (by omega)
  have mjE : nx (j + 1) ≤ nE := by rw [← hnE]; exact D.mono' hN (by omega) (Nat.le_refl _)
  have hsub : ∀ b x, d.foot.get b = some x → (doneH m h 0 L).get b = some x := fun b x e => D.sub I.closed hd hj hb e
  -- the numbers of the new blocks are those of this operation alone
  have apart : ∀ i, m.testBit i = true → i < L.length → ∀ b, nx j ≤ b → b < nx (j + 1) → ¬(nx i ≤ b ∧ b < nx (i + 1)) := by
    intro i hi hil b h1 h2 ⟨h3, h4⟩
    have his : i < ops.size := by rw [← D.len]; exact hil
    rcases Nat.lt_trichotomy i j with q | q | q
    · have := D.mono' hN (show i + 1 ≤ j by omega) (by omega); omega
    · subst q; rw [hi] at hj; cases hj
    · have := D.mono' hN (show j + 1 ≤ i by omega) (by omega); omega
  have free : ∀ b, nx j ≤ b → b < nx (j + 1) → ι b = none := by
    intro b h1 h2
    rw [I.dom b (fun i hi hil => apart i hi hil b h1 h2)]
    exact hf b (by omega) (by omega)
  have hFree : Free ι d.foot h' := fun b h1 h2 => free b (by rw [hfn] at h1; exact h1) (by rw [hnx] at h2; exact h2)
  have hext := hdid.ext hFree
  have hdom1 : ∀ b, ¬(nx j ≤ b ∧ b < nx (j + 1)) → ι1 b = ι b := fun b hb => hdid.c.dom b (by rw [hfn, hnx]; exact hb)
  have heb : ∀ b, effGet d.eff b = if b ∈ δ then some (h'.get b) else none := by
    intro b
    rw [heff, effGet_map]
    simp [List.mem_eraseDups]
  have hm' : ∀ i, (m ||| 2 ^ j).testBit i = true ↔ m.testBit i = true ∨ i = j := by
    intro i
    rw [testBit_add, Bool.or_eq_true, decide_eq_true_eq]
    exact or_congr Iff.rfl eq_comm
  have ownj : ∀ b, (effGet d.eff b).isSome → (nx j ≤ b ∧ b < nx (j + 1)) ∨ (d.foot.get b).isSome := by
    intro b hb
    rw [heb] at hb
    split at hb
    · rename_i hl
      rcases hdid.a.own b hl with q | ⟨_, q⟩
      · exact .inl ⟨by rw [← hfn]; exact q.1, by rw [← hnx]; exact q.2⟩
      · exact .inr q
    · simp at hb
  have own' : ∀ (i : Nat) (x : Done), L[i]? = some x → (m ||| 2 ^ j).testBit i = true → ∀ b, (effGet x.eff b).isSome → (nx i ≤ b ∧ b < nx (i + 1)) ∨ (x.foot.get b).isSome := by
    intro i x hx hi b hs
    rcases (hm' i).1 hi with q | q
    · exact I.own i x hx q b hs
    · subst q; rw [hd] at hx; cases hx; exact ownj b hs
  have getH : ∀ b, (doneH (m ||| 2 ^ j) h 0 L).get b = if b ∈ δ then h'.get b else (doneH m h 0 L).get b := by
    intro b
    rw [D.getH hN I.closed hd hj own' b, heb]
    by_cases hl : b ∈ δ <;> simp only [hl, if_true, if_false]
  have logown : ∀ p, p ∈ δ → ∀ M, ι p = some M → h.ro ≤ p ∧ (d.foot.get p).isSome ∧ ((doneH m h 0 L).get p).isSome := by
    intro p hp M hM
    rcases hdid.a.own p hp with q | ⟨q1, q2⟩
    · rw [hFree p q.1 q.2] at hM; cases hM
    · refine ⟨by rw [← hro]; exact q1, q2, ?_⟩
      obtain ⟨x, hx⟩ := Option.isSome_iff_exists.1 q2
      rw [hsub p x hx]; rfl
  have wmono : ∀ b, Wr L m b → Wr L (m ||| 2 ^ j) b := fun b ⟨i, x, h1, h2, h3⟩ => ⟨i, x, h1, (hm' i).2 (.inl h2), h3⟩
  have wj : ∀ p, p ∈ δ → Wr L (m ||| 2 ^ j) p := fun p hp => ⟨j, d, hd, (hm' j).2 (.inr rfl), by rw [heb, if_pos hp]; rfl⟩
  -- a dead block stays dead
  have dead : ∀ p M, (doneH m h 0 L).get p = none → ι p = some M → (doneH (m ||| 2 ^ j) h 0 L).get p = none := by
    intro p M hp hM
    rw [getH]
    split
    · rename_i hl
      have := (logown p hl M hM).2.2
      rw [hp] at this; simp at this
    · exact hp
  have rng : ∀ b, (∃ i, m.testBit i = true ∧ i < L.length ∧ nx i ≤ b ∧ b < nx (i + 1)) ∨ ι b = ι0 b := by
    intro b
    by_cases hq : ∃ i, m.testBit i = true ∧ i < L.length ∧ nx i ≤ b ∧ b < nx (i + 1)
    · exact .inl hq
    · exact .inr (I.dom b fun i hi hil hr => hq ⟨i, hi, hil, hr.1, hr.2⟩)
  refine ⟨?_, ?_, by rw [put_defers]; exact I.df, ⟨?_, ?_⟩, ?_, Nat.le_trans I.size hdid.c.size, ⟨hdid.c.os.trans I.same.os, hdid.c.tape.trans I.same.tape, hdid.c.output.trans I.same.output⟩, ?_, ?_, own', ?_, ?_, ?_⟩
  · -- closed
    intro i x hx hi k hk
    rcases (hm' i).1 hi with q | q
    · exact (hm' k).2 (.inl (I.closed i x hx q k hk))
    · subst q; rw [hd] at hx; cases hx; exact (hm' k).2 (.inl (hb k hk))
  · -- the temporaries
    rw [D.putT I.closed hd hj hb, put_tmps]
    exact putT_rel (I.tm.mono hext) _ rv
  · -- live
    intro b o hbo
    rw [getH] at hbo
    rw [doneH_ro]
    split at hbo
    · have := hdid.c.rel.live b o hbo
      rw [hdid.a.ro, hro] at this; exact this
    · rename_i hnl
      obtain ⟨M, hM, ro⟩ := I.hr.live b o hbo
      rw [doneH_ro] at ro
      refine ⟨M, hext _ _ hM, ?_⟩
      have : w1.heap[M.g]? = w.heap[M.g]? := by
        refine hdid.c.frame M.g (I.hr.lt hbo hM) (fun p hp Mp hMp => ?_)
        obtain ⟨q1, _, q3⟩ := logown p hp Mp hMp
        obtain ⟨x, hx⟩ := Option.isSome_iff_exists.1 q3
        exact I.hr.inj p b x o Mp M hx hbo hMp hM (by rw [doneH_ro]; exact q1) (fun e => hnl (e ▸ hp))
      rw [this]; exact ro.mono hext
  · -- injective
    intro b c o o' M M' hbo hco hM hM' hrb hbc
    rw [doneH_ro] at hrb
    rw [getH] at hbo hco
    -- where a block of this operation lies
    have at1 : ∀ p Mp x, p ∈ δ → h'.get p = some x → ι1 p = some Mp → (∃ y, (doneH m h 0 L).get p = some y ∧ ι p = some Mp) ∨ (w.heap.size ≤ Mp.g ∨ ∃ q y Mq, q ∈ δ ∧ h.ro ≤ q ∧ (doneH m h 0 L).get q = some y ∧ ι q = some Mq ∧ Mq.g = Mp.g) := by
      intro p Mp x hp hx hMp
      by_cases hr : nx j ≤ p ∧ p < nx (j + 1)
      · rcases hdid.c.fresh p Mp (by rw [hfn]; exact hr.1) (by rw [hnx]; exact hr.2) hMp with q | ⟨q, hq, _, _, Mq, hMq, eg⟩
        · exact .inr (.inl q)
        · obtain ⟨q1, _, q3⟩ := logown q hq Mq hMq
          obtain ⟨y, hy⟩ := Option.isSome_iff_exists.1 q3
          exact .inr (.inr ⟨q, y, Mq, hq, q1, hy, hMq, eg⟩)
      · rw [hdom1 p hr] at hMp
        obtain ⟨_, _, q3⟩ := logown p hp Mp hMp
        obtain ⟨y, hy⟩ := Option.isSome_iff_exists.1 q3
        exact .inl ⟨y, hy, hMp⟩
    -- where another block lies
    have at0 : ∀ p Mp x, p ∉ δ → (doneH m h 0 L).get p = some x → ι1 p = some Mp → ι p = some Mp := by
      intro p Mp x hp hx hMp
      obtain ⟨M0, hM0, _⟩ := I.hr.live p x hx
      have := hext _ _ hM0
      rw [hMp] at this; cases this; exact hM0
    split at hbo <;> split at hco
    · rename_i b1 c1
      exact hdid.c.rel.inj b c o o' M M' hbo hco hM hM' (by rw [hdid.a.ro, hro]; exact hrb) hbc
    · rename_i b1 c1
      have hMc := at0 c M' o' c1 hco hM'
      rcases at1 b M o b1 hbo hM with ⟨y, hy, hMb⟩ | q | ⟨q, y, Mq, hq, q1, hy, hMq, eg⟩
      · exact I.hr.inj b c y o' M M' hy hco hMb hMc (by rw [doneH_ro]; exact hrb) hbc
      · have := I.hr.lt hco hMc; omega
      · rw [← eg]; exact I.hr.inj q c y o' Mq M' hy hco hMq hMc (by rw [doneH_ro]; exact q1) (fun e => c1 (e ▸ hq))
    · rename_i b1 c1
      have hMb := at0 b M o b1 hbo hM
      rcases at1 c M' o' c1 hco hM' with ⟨y, hy, hMc⟩ | q | ⟨q, y, Mq, hq, q1, hy, hMq, eg⟩
      · exact I.hr.inj b c o y M M' hbo hy hMb hMc (by rw [doneH_ro]; exact hrb) hbc
      · have := I.hr.lt hbo hMb; omega
      · rw [← eg]; exact I.hr.inj b q o y M Mq hbo hy hMb hMq (by rw [doneH_ro]; exact hrb) (fun e => b1 (e ▸ hq))
    · rename_i b1 c1
      exact I.hr.inj b c o o' M M' hbo hco (at0 b M o b1 hbo hM) (at0 c M' o' c1 hco hM') (by rw [doneH_ro]; exact hrb) hbc
  · -- dom
    intro b hbn
    have h1 : ¬(nx j ≤ b ∧ b < nx (j + 1)) := hbn j ((hm' j).2 (.inr rfl)) hjl
    rw [hdom1 b h1]
    exact I.dom b fun i hi hil => hbn i ((hm' i).2 (.inl hi)) hil
  · -- frame
    intro g hg hfr
    rw [← I.frame g hg (fun b hw => hfr b (wmono b hw))]
    refine hdid.c.frame g (Nat.lt_of_lt_of_le hg I.size) (fun p hp Mp hMp => ?_)
    rcases rng p with ⟨i, hi, hil, r1, r2⟩ | q
    · rcases I.fresh i hi hil p Mp r1 r2 hMp with z | ⟨p2, hw2, _, _, M2, hM2, eg⟩
      · omega
      · rw [← eg]; exact hfr p2 (wmono p2 hw2) M2 hM2
    · rw [q] at hMp; exact hfr p (wj p hp) Mp hMp
  · -- fresh
    intro i hi hil b M h1 h2 hM
    have carry : ∀ i, m.testBit i = true → i < L.length → ∀ b M0 g, nx i ≤ b → b < nx (i + 1) → ι b = some M0 → M0.g = g → w0.heap.size ≤ g ∨
        ∃ p, Wr L (m ||| 2 ^ j) p ∧ (doneH (m ||| 2 ^ j) h 0 L).get p = none ∧ (h.get p).isSome ∧ ∃ M', ι0 p = some M' ∧ M'.g = g := by
      intro i hi hil b M0 g r1 r2 hM0 eg0
      rcases I.fresh i hi hil b M0 r1 r2 hM0 with z | ⟨p, hw, hdd, hs, M', hM', eg⟩
      · exact .inl (eg0 ▸ z)
      · refine .inr ⟨p, wmono p hw, ?_, hs, M', hM', eg.trans eg0⟩
        -- p is not one of the new ones
        have hip : ι p = ι0 p ∨ ∃ i, m.testBit i = true ∧ i < L.length ∧ nx i ≤ p ∧ p < nx (i + 1) := (rng p).symm
        rcases hip with q | ⟨i2, hi2, hil2, r3, r4⟩
        · exact dead p M' hdd (by rw [q]; exact hM')
        · have his2 : i2 < ops.size := by rw [← D.len]; exact hil2
          have a1 : nx 0 ≤ nx i2 := D.mono' hN (Nat.zero_le _) (by omega)
          have a2 : nx (i2 + 1) ≤ nE := by rw [← hnE]; exact D.mono' hN (by omega) (Nat.le_refl _)
          rw [D.nx0] at a1
          rw [hf p (by omega) (by omega)] at hM'; cases hM'
    rcases (hm' i).1 hi with q | q
    · have hnj : ¬(nx j ≤ b ∧ b < nx (j + 1)) := fun hr => apart i q hil b hr.1 hr.2 ⟨h1, h2⟩
      rw [hdom1 b hnj] at hM
      exact carry i q hil b M M.g h1 h2 hM rfl
    · subst q
      rcases hdid.c.fresh b M (by rw [hfn]; exact h1) (by rw [hnx]; exact h2) hM with z | ⟨p, hp, hpd, hps, Mp, hMp, eg⟩
      · exact .inl (Nat.le_trans I.size z)
      · rcases rng p with ⟨i2, hi2, hil2, r1, r2⟩ | q
        · exact carry i2 hi2 hil2 p Mp M.g r1 r2 hMp eg
        · refine .inr ⟨p, wj p hp, by rw [getH, if_pos hp]; exact hpd, ?_, Mp, by rw [← q]; exact hMp, eg⟩
          have q3 := (logown p hp Mp hMp).2.2
          rcases I.src p q3 with z | ⟨i2, hi2, hil2, r1, r2⟩
          · exact z
          · have his2 : i2 < ops.size := by rw [← D.len]; exact hil2
            have a1 : nx 0 ≤ nx i2 := D.mono' hN (Nat.zero_le _) (by omega)
            have a2 : nx (i2 + 1) ≤ nE := by rw [← hnE]; exact D.mono' hN (by omega) (Nat.le_refl _)
            rw [D.nx0] at a1
            rw [q, hf p (by omega) (by omega)] at hMp; cases hMp
  · -- own2
    rintro b ⟨i, x, hx, hi, hs⟩
    rcases (hm' i).1 hi with q | q
    · exact I.own2 b ⟨i, x, hx, q, hs⟩
    · subst q; rw [hd] at hx; cases hx
      rw [heb] at hs
      split at hs
      case isFalse => simp at hs
      rename_i hl
      rcases hdid.a.own b hl with z | ⟨z1, z2⟩
      · rw [hfn, hnx] at z; exact .inl ⟨by omega, by omega⟩
      · obtain ⟨y, hy⟩ := Option.isSome_iff_exists.1 z2
        have hs2 : ((doneH m h 0 L).get b).isSome := by rw [hsub b y hy]; rfl
        rcases I.src b hs2 with q | ⟨i2, hi2, hil2, r1, r2⟩
        · exact .inr ⟨by rw [← hro]; exact z1, q⟩
        · have his2 : i2 < ops.size := by rw [← D.len]; exact hil2
          have a1 : nx 0 ≤ nx i2 := D.mono' hN (Nat.zero_le _) (by omega)
          have a2 : nx (i2 + 1) ≤ nE := by rw [← hnE]; exact D.mono' hN (by omega) (Nat.le_refl _)
          rw [D.nx0] at a1
          exact .inl ⟨by omega, by omega⟩
  · -- src
    intro b hs
    rw [getH] at hs
    split at hs
    · rename_i hl
      rcases hdid.a.own b hl with z | ⟨_, z2⟩
      · rw [hfn, hnx] at z; exact .inr ⟨j, (hm' j).2 (.inr rfl), hjl, z.1, z.2⟩
      · obtain ⟨y, hy⟩ := Option.isSome_iff_exists.1 z2
        rcases I.src b (by rw [hsub b y hy]; rfl) with q | ⟨i2, hi2, r⟩
        · exact .inl q
        · exact .inr ⟨i2, (hm' i2).2 (.inl hi2), r⟩
    · rcases I.src b hs with q | ⟨i2, hi2, r⟩
      · exact .inl q
      · exact .inr ⟨i2, (hm' i2).2 (.inl hi2), r⟩
  · intro i hi
    rcases (hm' i).1 hi with q | q
    · exact I.bits i q
    · subst q; exact hjl
end
end Go.Ags
