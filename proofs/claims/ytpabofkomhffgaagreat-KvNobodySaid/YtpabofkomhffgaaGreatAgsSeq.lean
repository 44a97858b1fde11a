/- A region that draws its order, done in the text's order: what interferes is looked at. -/
import Derived.Test.YtpabofkomhffgaaGreatAgsDraw4
set_option linter.unusedVariables false
set_option linter.unusedSimpArgs false
namespace Go.Ags
section
variable {P : Program} {R : Rec} {ops : Array Oper} {ts : Array Value} {h : AH}

theorem befOf_before {ms : List Nat} {L : List Done} (hm : ∀ i : Nat, ms[i]? = (L[i]?).map (fun d : Done => d.bef)) (o : Oper) : befOf ms o = before L o := by
  unfold befOf before
  rw [← Array.foldl_toList]
  congr 1
  funext s e
  rw [hm]

theorem trsOk_at {d : Tr} : ∀ (l : List Tr) (i : Nat), trsOk d i l = true → ∀ (k : Nat) (x : Tr), l[k]? = some x → d.bef.testBit (i + k) = true ∨ trOk x d = true
  | [], _, _, k, x, hx => by simp at hx
  | y :: r, i, ht, k, x, hx => by
    simp only [trsOk, Bool.and_eq_true, Bool.or_eq_true] at ht
    cases k with
    | zero => simp at hx; subst hx; exact ht.1
    | succ k =>
      have := trsOk_at r (i + 1) ht.2 k x (by simpa using hx)
      rw [show i + 1 + k = i + (k + 1) by omega] at this
      exact this

theorem tmpsOk_at {bef : Nat} {o : Oper} : ∀ (l : List Oper) (i : Nat), tmpsOk ops bef o i l = true → ∀ (k : Nat) (x : Oper), l[k]? = some x → bef.testBit (i + k) = true ∨ (tclash1 ops x o = false ∧ tclash1 ops o x = false)
  | [], _, _, k, x, hx => by simp at hx
  | y :: r, i, ht, k, x, hx => by
    simp only [tmpsOk, Bool.and_eq_true, Bool.or_eq_true, Bool.not_eq_true', Bool.or_eq_false_iff] at ht
    cases k with
    | zero => simp at hx; subst hx; exact ht.1
    | succ k =>
      have := tmpsOk_at r (i + 1) ht.2 k x (by simpa using hx)
      rw [show i + 1 + k = i + (k + 1) by omega] at this
      exact this

theorem trsOk_idle (m : Nat) (h0 : AH) : ∀ (l : List Tr) (i : Nat), trsOk ⟨m, some [], [], h0⟩ i l = true
  | [], _ => rfl
  | x :: r, i => by
    simp only [trsOk, trsOk_idle m h0 r (i + 1), Bool.and_true]
    have : trOk x ⟨m, some [], [], h0⟩ = true := by
      unfold trOk
      cases x.nd <;> simp
    simp [this]

/-- The heap and the temporaries behind the first operations, and what is known of each. -/
structure SeqInv (ops : Array Oper) (ts : Array Value) (h : AH) (es : List Oper) (L : List Done) (T : List Tr) (tj : Array Value) (hj : AH) : Prop where
  tm : tj = allT ts L
  get : ∀ b, (allH h L).get b = hj.get b
  ro : hj.ro = h.ro
  log : ∃ δ, hj.log = δ ++ h.log ∧ ∀ b, b ∈ δ ↔ b ∈ (L.flatMap fun d => d.eff.map (·.1)).reverse
  masks : ∀ i : Nat, (T.map (·.bef))[i]? = (L[i]?).map (·.bef)
  rel : ∀ (i : Nat) (d : Done), L[i]? = some d → ∃ t o, T[i]? = some t ∧ es[i]? = some o ∧ d.names = opTmps ops o ∧ d.dst = o.dst ∧ (∀ b, (effGet d.eff b).isSome → b ∈ t.wr) ∧
    (match t.nd with | some bs => ∀ b, (d.foot.get b).isSome → b ∈ bs | none => ∀ b, d.foot.get b = t.h0.get b)

theorem clash1_no {x d : Done} (h1 : ∀ t, x.dst = some t → d.names.contains t = false ∧ (d.dst == some t) = false) (h2 : ∀ b, (effGet x.eff b).isSome → (d.foot.get b).isSome = false) : clash1 x d = false := by
  unfold clash1
  rw [Bool.or_eq_false_iff]
  constructor
  · split
    · rename_i t ht
      rw [Bool.or_eq_false_iff]; exact h1 t ht
    · rfl
  · rw [← Bool.not_eq_true, List.any_eq_true]
    rintro ⟨e, he, hs⟩
    have := h2 e.1 (effGet_mem (List.mem_map.2 ⟨e, he, rfl⟩))
    rw [hs] at this; cases this

theorem tclash1_no {a b : Oper} {t : Tmp} (h : tclash1 ops a b = false) (ht : a.dst = some t) : (opTmps ops b).contains t = false ∧ (b.dst == some t) = false := by
  unfold tclash1 at h
  rw [ht] at h
  simpa [Bool.or_eq_false_iff] using h

/-- One operation more. -/
theorem SeqInv.push {es : List Oper} {L : List Done} {T : List Tr} {tj : Array Value} {hj h1 : AH} {j : Nat} {o : Oper} {d : Done} {tr : Tr} {δ : List Nat}
    (I : SeqInv ops ts h es L T tj hj) (hL : L.length = j) (hT : T.length = j) (hE : es.length = j)
    (hedge : ∀ e, e ∈ o.after → Region.binds .any e = true → e.on < j) (hguard : guardOk (befOf (T.map (·.bef)) o) o = true) (htm : tmpsOk ops (befOf (T.map (·.bef)) o) o 0 es = true)
    (ddst : d.dst = o.dst) (dnames : d.names = opTmps ops o) (dbef : d.bef = befOf (T.map (·.bef)) o) (trbef : tr.bef = befOf (T.map (·.bef)) o)
    (dfro : d.foot.ro = h.ro) (dfn : d.foot.next = hj.next)
    (hfoot : ∀ b x, d.foot.get b = some x → hj.get b = some x) (hnd : match tr.nd with | some bs => ∀ b, (d.foot.get b).isSome → b ∈ bs | none => ∀ b, d.foot.get b = tr.h0.get b)
    (htrs : trsOk tr 0 T = true) (hwr : tr.wr = δ) (heff : d.eff = δ.eraseDups.map fun b => (b, h1.get b)) (hlog : h1.log = δ ++ hj.log) (hold : ∀ b, b ∉ δ → h1.get b = hj.get b) (hro1 : h1.ro = hj.ro)
    (hrun : (Region.wanted o (yielded ops tj) = true ∧ okOp o = true ∧ ∃ h' , aOp P R (evalIn tj) o d.foot = some (d.v, h') ∧ h'.log = δ ++ d.foot.log ∧ (∀ b, b ∈ δ → h'.get b = h1.get b) ∧ h'.next = h1.next) ∨
      (Region.wanted o (yielded ops tj) = false ∧ d.v = undef ∧ δ = [] ∧ h1.next = hj.next)) :
    One P R ops ts h j o L hj.next d h1.next ∧ (∀ (i : Nat) (x : Done), i < j → L[i]? = some x → d.bef.testBit i = true ∨ (clash1 x d = false ∧ clash1 d x = false)) ∧ SeqInv ops ts h (es ++ [o]) (L ++ [d]) (T ++ [tr]) (putT tj o.dst d.v) h1 := by
  have hbef : befOf (T.map (·.bef)) o = before L o := befOf_before I.masks o
  have heb : ∀ b, effGet d.eff b = if b ∈ δ then some (h1.get b) else none := by
    intro b
    rw [heff, effGet_map]
    simp [List.mem_eraseDups]
  have pairs : ∀ (i : Nat) (x : Done), L[i]? = some x → d.bef.testBit i = true ∨ ((∀ t, x.dst = some t → d.names.contains t = false ∧ (d.dst == some t) = false) ∧ (∀ t, d.dst = some t → x.names.contains t = false ∧ (x.dst == some t) = false) ∧
      (∀ b, (effGet x.eff b).isSome → (d.foot.get b).isSome = false) ∧ (∀ b, (effGet d.eff b).isSome → (x.foot.get b).isSome = false)) := by
    intro i x hx
    obtain ⟨t, xo, ht, hxo, xn, xd, xw, xf⟩ := I.rel i x hx
    rcases tmpsOk_at es 0 htm i xo hxo with q | ⟨c1, c2⟩
    · left; rw [dbef]; simpa using q
    rcases trsOk_at T 0 htrs i t ht with q | q
    · left; rw [dbef, ← trbef]; simpa using q
    right
    unfold trOk at q
    rw [Bool.and_eq_true] at q
    obtain ⟨q1, q2⟩ := q
    refine ⟨fun u hu => by rw [dnames, ddst]; exact tclash1_no c1 (xd ▸ hu), fun u hu => by rw [xn, xd]; exact tclash1_no c2 (ddst ▸ hu), fun b hb => ?_, fun b hb => ?_⟩
    · have hw := xw b hb
      cases hnd' : tr.nd with
      | some bs =>
        rw [hnd'] at q1 hnd
        cases hq : (d.foot.get b).isSome with
        | false => rfl
        | true =>
          have := List.all_eq_true.1 q1 b hw
          simp at this
          exact absurd (hnd b hq) this
      | none =>
        rw [hnd'] at q1
        rw [List.isEmpty_iff] at q1
        rw [q1] at hw; simp at hw
    · have hw : b ∈ tr.wr := by
        rw [heb] at hb
        split at hb
        · rename_i hl; rw [hwr]; exact hl
        · simp at hb
      cases hnx : t.nd with
      | some bs =>
        rw [hnx] at q2 xf
        cases hq : (x.foot.get b).isSome with
        | false => rfl
        | true =>
          have := List.all_eq_true.1 q2 b hw
          simp at this
          exact absurd (xf b hq) this
      | none =>
        rw [hnx] at q2 xf
        have := List.all_eq_true.1 q2 b hw
        rw [xf b]
        cases hq : t.h0.get b <;> simp_all
  -- the temporaries that it names
  have hbits : ∀ k, d.bef.testBit k = true → True := fun _ _ => trivial
  have tmps : ∀ t, t ∈ d.names → tj[t]? = (doneT d.bef ts 0 L)[t]? := by
    intro t ht
    rw [I.tm, ← doneT_all L (2 ^ L.length - 1) 0 ts (fun k hk => by rw [Nat.zero_add, Nat.testBit_two_pow_sub_one]; simpa using hk), doneT_get, doneT_get]
    rw [lastT_congr (m := 2 ^ L.length - 1) (m' := d.bef) L 0 (fun k y hy hs => ?_)]
    have hk : k < L.length := (List.getElem?_eq_some_iff.1 hy).1
    simp only [Nat.zero_add, Nat.testBit_two_pow_sub_one, hk, decide_true]
    rcases pairs k y hy with q | ⟨q, _⟩
    · exact q.symm
    · have := (q t hs).1
      simp [ht] at this
  refine ⟨⟨hedge, by rw [← hbef]; exact hguard, ddst, by rw [dbef, hbef], dnames, ?_, dfro, dfn, tj, tmps, ?_⟩, fun i x hi hx => ?_, ?_⟩
  · intro b x hb
    have h2 := hfoot b x hb
    rw [← I.get, ← doneH_all L (2 ^ L.length - 1) 0 h (fun k hk => by rw [Nat.zero_add, Nat.testBit_two_pow_sub_one]; simpa using hk), doneH_get] at h2
    rw [doneH_get, lastEff_congr (m := d.bef) (m' := 2 ^ L.length - 1) L 0 (fun k y hy hs => ?_)]
    · exact h2
    have hk : k < L.length := (List.getElem?_eq_some_iff.1 hy).1
    simp only [Nat.zero_add, Nat.testBit_two_pow_sub_one, hk, decide_true]
    rcases pairs k y hy with q | ⟨_, _, q, _⟩
    · exact q
    · have := q b hs
      rw [hb] at this; simp at this
  · rcases hrun with ⟨hw, hok, h', hop, hl, hg, hn⟩ | ⟨hw, hv, hd, hn⟩
    · refine .inl ⟨hw, hok, h', δ, hop, hl, ?_, hn⟩
      rw [heff]
      apply List.map_congr_left
      intro b hb
      rw [hg b (by simpa [List.mem_eraseDups] using hb)]
    · exact .inr ⟨hw, hv, by rw [heff, hd]; rfl, hn⟩
  · rcases pairs i x hx with q | ⟨q1, q2, q3, q4⟩
    · exact .inl q
    · exact .inr ⟨clash1_no q1 q3, clash1_no q2 q4⟩
  · refine ⟨?_, ?_, hro1.trans I.ro, ?_, ?_, ?_⟩
    · rw [I.tm, ← ddst]; simp [allT]
    · intro b
      have : (allH h (L ++ [d])).get b = ((allH h L).effs d.eff).get b := by simp [allH]
      rw [this, effs_get, heb, I.get]
      split
      · rfl
      · rename_i hb; exact (hold b hb).symm
    · obtain ⟨ε, e1, e2⟩ := I.log
      refine ⟨δ ++ ε, by rw [hlog, e1, List.append_assoc], fun b => ?_⟩
      rw [List.mem_append, e2]
      simp only [List.flatMap_append, List.flatMap_cons, List.flatMap_nil, List.append_nil, List.reverse_append, List.mem_append, List.mem_reverse]
      have : b ∈ d.eff.map (·.1) ↔ b ∈ δ := by rw [heff]; simp [List.mem_eraseDups]
      rw [this]
    · intro i
      rw [List.map_append]
      rcases Nat.lt_trichotomy i j with q | q | q
      · rw [List.getElem?_append_left (by simpa [hT] using q), List.getElem?_append_left (by omega)]; exact I.masks i
      · subst q
        rw [List.getElem?_append_right (by simp [hT]), List.getElem?_append_right (by omega)]
        simp [hT, hL, trbef, dbef]
      · rw [List.getElem?_eq_none (by simp [hT]; omega), List.getElem?_eq_none (by simp; omega)]; rfl
    · intro i x hx
      rcases Nat.lt_trichotomy i j with q | q | q
      · rw [List.getElem?_append_left (by omega)] at hx
        obtain ⟨t, xo, ht, hxo, r⟩ := I.rel i x hx
        exact ⟨t, xo, by rw [List.getElem?_append_left (by omega)]; exact ht, by rw [List.getElem?_append_left (by omega)]; exact hxo, r⟩
      · subst q
        rw [List.getElem?_append_right (by omega)] at hx
        simp [hL] at hx
        subst hx
        refine ⟨tr, o, by rw [List.getElem?_append_right (by omega)]; simp [hT], by rw [List.getElem?_append_right (by omega)]; simp [hE], dnames, ddst, fun b hb => ?_, hnd⟩
        rw [heb] at hb
        split at hb
        · rename_i hl; rw [hwr]; exact hl
        · simp at hb
      · rw [List.getElem?_eq_none (by simp; omega)] at hx; cases hx

theorem since_eq {h h' : AH} {δ : List Nat} (e : h'.log = δ ++ h.log) : since h h' = δ := by
  unfold since
  rw [e]
  simp

theorem get_nil (n r : Nat) (b : Nat) : (AH.mk .leaf n r []).get b = none := by
  simp [AH.get, T.get]

theorem evSeq_facts (hR : RecSt R) : ∀ (l : List Oper) (j : Nat) (es : List Oper) (L : List Done) (T : List Tr) (tj : Array Value) (hj : AH) (ts' : Array Value) (h' : AH),
    L.length = j → T.length = j → es.length = j → SeqInv ops ts h es L T tj hj → drawOk ops j l (T.map (·.bef)) es = true → evSeq P R ops l tj hj T = some (ts', h') →
    ∃ (suf : List Done) (nx : Nat → Nat), suf.length = l.length ∧ nx j = hj.next ∧ nx (j + l.length) = h'.next ∧ (∃ es' T', SeqInv ops ts h es' (L ++ suf) T' ts' h') ∧
      ∀ (k : Nat) (o : Oper), l[k]? = some o → ∃ d, (L ++ suf)[j + k]? = some d ∧ One P R ops ts h (j + k) o ((L ++ suf).take (j + k)) (nx (j + k)) d (nx (j + k + 1)) ∧
        ∀ (i : Nat) (x : Done), i < j + k → (L ++ suf)[i]? = some x → d.bef.testBit i = true ∨ (clash1 x d = false ∧ clash1 d x = false)
  | [], j, es, L, T, tj, hj, ts', h', hL, hT, hE, I, hd, e => by
    simp only [evSeq] at e; cases e
    exact ⟨[], fun _ => hj.next, rfl, rfl, rfl, ⟨es, T, by simpa using I⟩, fun k o hk => by simp at hk⟩
  | o :: rest, j, es, L, T, tj, hj, ts', h', hL, hT, hE, I, hd, e => by
    simp only [drawOk, Bool.and_eq_true, List.all_eq_true, Bool.or_eq_true, decide_eq_true_eq, Bool.not_eq_true'] at hd
    obtain ⟨⟨⟨d1, d2⟩, d3⟩, d4⟩ := hd
    have edges : ∀ e, e ∈ o.after → Region.binds .any e = true → e.on < j := by
      intro e he hb
      rcases d1 e (by simpa using he) with q | q
      · exact q
      · rw [hb] at q; cases q
    -- what follows from one operation
    have go : ∀ (d : Done) (tr : Tr) (h1 : AH), tr.bef = befOf (T.map (·.bef)) o → evSeq P R ops rest (putT tj o.dst d.v) h1 (T ++ [tr]) = some (ts', h') →
        (One P R ops ts h j o L hj.next d h1.next ∧ (∀ (i : Nat) (x : Done), i < j → L[i]? = some x → d.bef.testBit i = true ∨ (clash1 x d = false ∧ clash1 d x = false)) ∧ SeqInv ops ts h (es ++ [o]) (L ++ [d]) (T ++ [tr]) (putT tj o.dst d.v) h1) →
        ∃ (suf : List Done) (nx : Nat → Nat), suf.length = (o :: rest).length ∧ nx j = hj.next ∧ nx (j + (o :: rest).length) = h'.next ∧ (∃ es' T', SeqInv ops ts h es' (L ++ suf) T' ts' h') ∧
          ∀ (k : Nat) (o' : Oper), (o :: rest)[k]? = some o' → ∃ d, (L ++ suf)[j + k]? = some d ∧ One P R ops ts h (j + k) o' ((L ++ suf).take (j + k)) (nx (j + k)) d (nx (j + k + 1)) ∧
            ∀ (i : Nat) (x : Done), i < j + k → (L ++ suf)[i]? = some x → d.bef.testBit i = true ∨ (clash1 x d = false ∧ clash1 d x = false) := by
      intro d tr h1 htr he ⟨O, N, I1⟩
      obtain ⟨suf, nx, q1, q2, q3, q4, q5⟩ := evSeq_facts hR rest (j + 1) (es ++ [o]) (L ++ [d]) (T ++ [tr]) _ _ _ _ (by simp [hL]) (by simp [hT]) (by simp [hE]) I1 (by simpa [htr] using d4) he
      have eL : L ++ [d] ++ suf = L ++ d :: suf := by simp
      rw [eL] at q4
      refine ⟨d :: suf, fun k => if k = j then hj.next else nx k, by simp [q1], by simp, ?_, q4, fun k o' hk => ?_⟩
      · have : ¬ j + (o :: rest).length = j := by simp
        simp only [this, if_false]
        rw [show j + (o :: rest).length = j + 1 + rest.length by simp; omega]; exact q3
      · cases k with
        | zero =>
          simp at hk; subst hk
          have htake : (L ++ d :: suf).take j = L := by rw [List.take_append_of_le_length (by omega), List.take_of_length_le (by omega)]
          refine ⟨d, ?_, ?_, fun i x hi hx => ?_⟩
          · rw [List.getElem?_append_right (by omega)]; simp [hL]
          · have n1 : ¬ j + 1 = j := by omega
            simp only [Nat.add_zero, htake, if_true, n1, if_false, q2]; exact O
          · rw [List.getElem?_append_left (by omega)] at hx
            exact N i x (by omega) hx
        | succ k =>
          obtain ⟨d', r1, r2, r3⟩ := q5 k o' (by simpa using hk)
          rw [eL] at r1 r2 r3
          have e1 : j + 1 + k = j + (k + 1) := by omega
          rw [e1] at r1 r2 r3
          have n1 : ¬ j + (k + 1) = j := by omega
          have n2 : ¬ j + (k + 1) + 1 = j := by omega
          exact ⟨d', r1, by simp only [n1, n2, if_false]; exact r2, r3⟩
    simp only [evSeq] at e
    split at e
    · rename_i hw
      split at e
      case isFalse => cases e
      rename_i hok
      split at e
      case h_2 => cases e
      rename_i v h1 hop
      split at e
      case isFalse => cases e
      rename_i htr
      obtain ⟨hro, δ, hlog, hold⟩ := aOp_st hR hop
      have hsince : since hj h1 = δ := since_eq hlog
      cases hnd : needs (evalIn tj) o with
      | some bs =>
        obtain ⟨h2, δ2, g1, g2, g3, g4, g5⟩ := aOp_loc (R := R) hnd (h := hj) (h1 := hj.only (some bs)) rfl rfl (fun b hb => by rw [only_get, if_pos hb]) v h1 hop
        have : δ2 = δ := List.append_cancel_right (g2.symm.trans hlog)
        subst this
        refine go { dst := o.dst, v, eff := δ2.eraseDups.map fun b => (b, h1.get b), bef := befOf (T.map (·.bef)) o, names := opTmps ops o, foot := hj.only (some bs) } (trOf T tj o hj h1) h1 rfl e
          (I.push hL hT hE edges d2 d3 rfl rfl rfl rfl I.ro rfl (fun b x hb => (only_sub hb).2) ?_ htr hsince rfl hlog hold hro (.inl ⟨hw, hok, h2, g1, g3, g5, g4⟩))
        show match needs (evalIn tj) o with | some bs' => _ | none => _
        rw [hnd]
        intro b hb
        obtain ⟨x, hx⟩ := Option.isSome_iff_exists.1 hb
        exact (only_sub hx).1
      | none =>
        refine go { dst := o.dst, v, eff := δ.eraseDups.map fun b => (b, h1.get b), bef := befOf (T.map (·.bef)) o, names := opTmps ops o, foot := hj } (trOf T tj o hj h1) h1 rfl e
          (I.push hL hT hE edges d2 d3 rfl rfl rfl rfl I.ro rfl (fun b x hb => hb) ?_ htr hsince rfl hlog hold hro (.inl ⟨hw, hok, h1, hop, hlog, fun _ _ => rfl, rfl⟩))
        show match needs (evalIn tj) o with | some bs' => _ | none => _
        rw [hnd]
        exact fun _ => rfl
    · rename_i hw
      refine go { dst := o.dst, v := undef, eff := [], bef := befOf (T.map (·.bef)) o, names := opTmps ops o, foot := { t := .leaf, next := hj.next, ro := hj.ro, log := [] } } ⟨befOf (T.map (·.bef)) o, some [], [], hj⟩ hj rfl e
        (I.push (δ := []) hL hT hE edges d2 d3 rfl rfl rfl rfl I.ro rfl (fun b x hb => ?_) (fun b hb => ?_) (trsOk_idle _ _ _ _) rfl rfl rfl (fun _ _ => rfl) rfl (.inr ⟨by simpa using hw, rfl, rfl, rfl⟩))
      · rw [get_nil] at hb; cases hb
      · rw [get_nil] at hb; cases hb

theorem evSeq_DF (hR : RecSt R) {ts' : Array Value} {h' : AH} (hd : drawOk ops 0 ops.toList [] [] = true) (e : evSeq P R ops ops.toList ts h [] = some (ts', h')) :
    ∃ (L : List Done) (nx : Nat → Nat), DF P R ops ts h L nx ∧ nx ops.size = h'.next ∧ ts' = allT ts L ∧ (∀ b, h'.get b = (allH h L).get b) ∧ h'.ro = h.ro ∧
      ∃ δ, h'.log = δ ++ h.log ∧ ∀ b, b ∈ δ ↔ b ∈ (L.flatMap fun d => d.eff.map (·.1)).reverse := by
  have I0 : SeqInv ops ts h [] [] [] ts h := ⟨rfl, fun _ => rfl, rfl, ⟨[], rfl, by simp⟩, fun i => by simp, fun i d hd => by simp at hd⟩
  obtain ⟨suf, nx, q1, q2, q3, ⟨es', T', I⟩, q5⟩ := evSeq_facts hR ops.toList 0 [] [] [] ts h ts' h' rfl rfl rfl I0 hd e
  simp only [List.nil_append, Nat.zero_add] at I q5 q3
  refine ⟨suf, nx, ⟨by simpa using q1, q2, fun j o ho => ?_⟩, by simpa using q3, I.tm, fun b => (I.get b).symm, I.ro, I.log⟩
  exact q5 j o (by simpa using ho)

section
variable {F : Fence} {n : Nat} {Q : Exit → Act → World → Prop}
theorem evRegion_sound (G : ∀ (f : FuncId) (fn : Func), P.funcs[f]? = some fn → (fn.name == "runtime.NumGoroutine") = false) (hR : RecSound P R) (hN : RecNext R) (hF : FOk F) {id : Nat} {draw : Bool} {ts' : Array Value} {h' : AH} {ι : Inj} {w : World} {a : Act}
    (e : evRegion P R ops draw ts h = some (ts', h')) (r : ARel ι ts a.tmps) (k : HRel ι h w) (hf : Free ι h h')
    (hq : ∀ ι' a' w' δ, Did ι h w ι' h' w' δ → ARel ι' ts' a'.tmps → a'.defers = a.defers → Q .normal a' w') : (Code.region id ops draw).wpIn F n P Q a w := by
  unfold evRegion at e
  cases draw with
  | false =>
    simp only [Bool.false_eq_true, if_false] at e
    rw [evOpsL_all] at e
    exact wpIn_region (evOps_sound G hR hN hF e r k hf hq)
  | true =>
    simp only [if_true] at e
    cases hor : (orderly ops && drawOk ops 0 ops.toList [] []) with
    | false => rw [hor] at e; cases e
    | true =>
    rw [hor] at e
    rw [Bool.and_eq_true] at hor
    obtain ⟨L, nx, D, hnE, rfl, hget, hro, δ', hlog, hmem⟩ := evSeq_DF hN.st hor.2 e
    have hlt : ∀ (i : Nat) (o : Oper), ops[i]? = some o → ∀ e, e ∈ o.after → Region.binds .any e = true → e.on < i := by
      intro i o ho
      obtain ⟨d, _, h2, _⟩ := D.at_ i o ho
      exact h2.edges
    refine wpIn_region_draw fun t => ?_
    refine draw_run (ι0 := ι) (w0 := w) (a0 := a) G hR hN hF D hnE (fun b h1 h2 => hf b h1 h2) ?_ _ 0 ι a _ ((schedule_legal hlt hor.1 _ t).congr fun k => by simp) (.start r k rfl ⟨rfl, rfl, rfl⟩)
    intro m ι' a' w' hm I
    obtain ⟨δ, hdid, rt⟩ := I.finish D hN hnE hm
    have hlog2 := hdid.a.log
    have hδ : δ = (L.flatMap fun d => d.eff.map (·.1)).reverse := by
      have : (allH h L).log = δ ++ h.log := hlog2
      rw [allH_log] at this
      exact (List.append_cancel_right this).symm
    exact hq ι' a' w' δ' (hdid.congr hget (by rw [hro]; exact hdid.a.ro.symm) rfl hlog (fun b => by rw [hmem, hδ])) rt I.df
end
end
end Go.Ags
