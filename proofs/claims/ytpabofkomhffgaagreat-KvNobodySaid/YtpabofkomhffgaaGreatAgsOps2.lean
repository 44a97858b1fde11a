/- Each operation of the evaluator is what the machine does: append, copy, maps, slices. -/
import Derived.Test.YtpabofkomhffgaaGreatAgsOps
set_option linter.unusedVariables false
set_option linter.unusedSimpArgs false
namespace Go.Ags
section
variable {P : Program} {ι : Inj} {h : AH} {w : World}

theorem nextslicecap_le (need c : Nat) (hn : c < need) : Builtin.nextslicecap need c ≤ 4 * need := by
  unfold Builtin.nextslicecap
  split
  · omega
  · split
    · omega
    · have grow : ∀ r c, c < 2 * need → 256 ≤ c → Builtin.growBy need r c ≤ 4 * need := by
        intro r
        induction r with
        | zero => intro c h1 _; simp only [Builtin.growBy]; omega
        | succ r ih =>
          intro c h1 h2
          simp only [Builtin.growBy]
          split
          · omega
          · exact ih _ (by omega) (by omega)
      exact grow 4 c (by omega) (by omega)

theorem nextslicecap_zero (need : Nat) (hn : 0 < need) : Builtin.nextslicecap need 0 = need := by
  unfold Builtin.nextslicecap
  rw [if_pos (by omega)]

theorem VRel.len {v v' : Value} {n : Nat} (r : VRel ι v v') (e : aLen v = some n) (w : World) : (Builtin.lenOf v').run P w = .ok n w := by
  cases r <;> simp [aLen] at e <;> subst e <;> simp [Builtin.lenOf]

theorem zeroCells_size (z : Array Value) (n : Nat) : (Builtin.zeroCells z n).size = n * z.size := by simp [Builtin.zeroCells]

/-- What an append comes to where there is room. -/
theorem run_append_room {sType xType elem : TypeId} {xt : TypeDesc} {ats : Array TypeId} {ty : TypeId} {args : Array Value} {base : Option Addr} {sLen sCap n size : Nat} {x : Value} {cells : Array Value} {w' : World}
    (a0 : (ats[0]? : Option TypeId) = some sType) (a1 : (ats[1]? : Option TypeId) = some xType) (b0 : (args[0]? : Option Value) = some (.slice base sLen sCap)) (b1 : (args[1]? : Option Value) = some x)
    (hu : P.underlying sType = some (.slice elem)) (hx : P.underlying xType = some xt) (hxt : ∀ k, xt ≠ .int k) (hs : tsize P elem = some size)
    (hl : ∀ w, (Builtin.lenOf x).run P w = .ok n w) (hroom : sLen + n ≤ sCap) (hc : (Builtin.firstCells size n x).run P w = .ok cells w)
    (hst : match base with | some a => (storeCells (a.add (sLen * size)) cells.toList).run P w = .ok () w' | none => w' = w) :
    (Builtin.append_ ats ty args).run P w = .ok (.slice base (sLen + n) sCap) w' := by
  have hz : (match (generalizing := false) xt with | .int _ => true | _ => false) = false := by cases xt <;> first | rfl | exact absurd rfl (hxt _)
  unfold Builtin.append_
  simp only [a0, a1, b0, b1, Sem.run_bind, run_und hu, run_size hs, run_und hx, Result.andThen_ok, Sem.run_pure]
  cases base with
  | none =>
    subst hst
    simp [hz, hl, hroom, hc]
  | some a =>
    simp [hz, hl, hroom, hc, hst]

theorem run_append_grows {sType xType elem : TypeId} {xt : TypeDesc} {ats : Array TypeId} {ty : TypeId} {args : Array Value} {base : Option Addr} {sLen sCap n size bytes : Nat} {x z : Value} {cells old : Array Value}
    (a0 : (ats[0]? : Option TypeId) = some sType) (a1 : (ats[1]? : Option TypeId) = some xType) (b0 : (args[0]? : Option Value) = some (.slice base sLen sCap)) (b1 : (args[1]? : Option Value) = some x)
    (hu : P.underlying sType = some (.slice elem)) (hx : P.underlying xType = some xt) (hxt : ∀ k, xt ≠ .int k) (hs : tsize P elem = some size) (hb : tbytes P elem = some bytes) (hz : tzero P elem = some z) (hb0 : bytes ≠ 0)
    (hl : ∀ w, (Builtin.lenOf x).run P w = .ok n w) (hroom : sCap < sLen + n) (hcap : Builtin.nextslicecap (sLen + n) sCap * bytes ≤ 281474976710656)
    (hc : ∀ w', w'.heap = w.heap → (Builtin.firstCells size n x).run P w' = .ok cells w') (ho : ∀ w', w'.heap = w.heap → (Builtin.firstCells size sLen (.slice base sLen sCap)).run P w' = .ok old w')
    (hneed : sLen + n < 4611686018427387904) :
    ∃ cap w', sLen + n ≤ cap ∧ (Builtin.append_ ats ty args).run P w = .ok (.slice (some ⟨w.heap.size, 0, none⟩) (sLen + n) cap) w' ∧
      w'.heap = w.heap.push (.cells (old ++ cells ++ Builtin.zeroCells z.cells (cap - (sLen + n))) elem) ∧ Same w w' := by
  have hzz : (match (generalizing := false) xt with | .int _ => true | _ => false) = false := by cases xt <;> first | rfl | exact absurd rfl (hxt _)
  obtain ⟨i, hi, hib⟩ := tbytes_info hb
  have hbig : ¬ ((sLen + n : Nat) : Int) > IntKind.i64.max := by
    have : IntKind.i64.max = 9223372036854775807 := by decide
    omega
  have hcap' : ¬ Builtin.nextslicecap (sLen + n) sCap * i.bytes > 2 ^ 48 := by
    rw [hib]; have : (2 : Nat) ^ 48 = 281474976710656 := by decide
    omega
  have hq : (Question.appendCap (sLen + n) sCap elem).forced = false := rfl
  obtain ⟨cap, hcapd⟩ : ∃ cap, cap = (Question.appendCap (sLen + n) sCap elem).cut (w.tape w.drawn (.appendCap (sLen + n) sCap elem)) := ⟨_, rfl⟩
  have hcapge : sLen + n ≤ cap := by
    rw [hcapd]
    show sLen + n ≤ (sLen + n) + _ % _
    omega
  have hask : ∀ b w, (askRoom b).run P w = .ok () w := by
    intro b w; unfold askRoom; split <;> rfl
  refine ⟨cap, w.drew.alloc (.cells (old ++ cells ++ Builtin.zeroCells z.cells (cap - (sLen + n))) elem), hcapge, ?_, rfl, ⟨rfl, rfl, rfl⟩⟩
  unfold Builtin.append_
  simp only [a0, a1, b0, b1, Sem.run_bind, run_und hu, run_size hs, run_und hx, Result.andThen_ok, Sem.run_pure]
  have hr : ¬ sLen + n ≤ sCap := by omega
  have hbn : ¬ i.bytes = 0 := by rw [hib]; exact hb0
  simp [hzz, hl, hr, hbig, run_info hi, hbn, hcap', hq, hask, ho w.drew rfl, hc w.drew rfl, run_zero hz, newRow, ← hcapd]

theorem ARel.len_app {ι : Inj} {x x' y y' : Array Value} (h : ARel ι x x') (k : ARel ι y y') : ARel ι (x ++ y) (x' ++ y') := h.append k

theorem CRel.of_arel {cs cs' : Array Value} {ι : Inj} (r : ARel ι cs cs') (g : Nat) : CRel ι ⟨g, 0, cs'.size⟩ cs cs' :=
  ⟨rfl, by simp [r.size], fun i v e => by simpa using r.get e⟩

/-- A new block whose cells are known but for what stands behind them. -/
theorem CRel.behind {cs cs' z : Array Value} {ι : Inj} (r : ARel ι cs cs') (g lim : Nat) (hl : lim = (cs' ++ z).size) : CRel ι ⟨g, 0, lim⟩ cs (cs' ++ z) :=
  ⟨hl, by simp [r.size], fun i v e => by
    obtain ⟨v', e', q⟩ := r.get e
    obtain ⟨hi, _⟩ := Array.getElem?_eq_some_iff.1 e'
    refine ⟨v', ?_, q⟩
    simp only [Nat.zero_add]
    rw [Array.getElem?_append_left hi]; exact e'⟩

theorem aCells_old {size n m : Nat} {b o c : Nat} {cells : Array Value} (e : aCells h size n (.slice (some ⟨b, o, none⟩) m c) = some cells) : cells.size = n * size := by
  unfold aCells at e
  simp only at e
  by_cases h0 : n * size = 0
  · rw [if_pos h0] at e; cases e; simp [h0]
  · rw [if_neg h0] at e
    split at e
    · split at e
      · cases e; simp; omega
      · cases e
    · cases e


theorem VRel.loose_inv {ι : Inj} {b o n size : Nat} {v' : Value} (r : VRel ι (.slice (some ⟨b, o, none⟩) n (loose + size)) v') :
    ∃ L, ι b = some L ∧ ((∃ c, v' = .slice (some ⟨L.g, L.base + o, none⟩) n c ∧ n ≤ c ∧ L.base + o + c * size = L.lim) ∨ (∃ a, v' = .slice (some a) 0 0 ∧ n = 0 ∧ L.base + o = L.lim)) := by
  generalize hq : loose + size = q at r
  cases r with
  | slX o n c h1 hc => omega
  | slL o n sz c h1 hn hl =>
    have : sz = size := by omega
    subst this
    exact ⟨_, h1, .inl ⟨c, rfl, hn, hl⟩⟩
  | slD o sz a h1 hl => exact ⟨_, h1, .inr ⟨a, rfl, rfl, hl⟩⟩
  | slE o a h1 => unfold loose at hq; omega

theorem loose_bound {n : Nat} (hn : 4 * n * 1 ≤ 281474976710656) : n < 4611686018427387904 := by omega

theorem aAppend_sound {ats : Array TypeId} {args args' : Array Value} {v : Value} {h' : AH} (e : aAppend P h ats args = some (v, h')) (r : ARel ι args args') (k : HRel ι h w) (hf : Free ι h h') (ty : TypeId) :
    ∃ v' w' ι' δ, (Builtin.append_ ats ty args').run P w = .ok v' w' ∧ Did ι h w ι' h' w' δ ∧ VRel ι' v v' := by
  unfold aAppend at e
  split at e
  case h_2 => cases e
  rename_i sType base sLen sCap x a0 b0 b1
  split at e
  case h_2 => cases e
  rename_i elem xt hu hx0
  obtain ⟨xType, a1, hx⟩ : ∃ xType, (ats[1]? : Option TypeId) = some xType ∧ P.underlying xType = some xt := by
    cases q : (ats[1]? : Option TypeId) with
    | none => simp [q] at hx0
    | some y => simp [q] at hx0; exact ⟨y, rfl, hx0⟩
  split at e
  case h_1 => cases e
  case h_3 => cases e
  rename_i size bytes z n hxt hs hb hz hn
  split at e
  case isTrue => cases e
  rename_i hc
  have hs0 : 0 < size := by omega
  have hb0 : bytes ≠ 0 := by omega
  have hzs : z.cells.size = size := by omega
  split at e
  case h_1 => cases e
  rename_i new hnew
  split at e
  case isTrue => cases e
  rename_i hpl
  simp only [Bool.not_eq_true, Bool.not_eq_false', Bool.and_eq_true, beq_iff_eq] at hpl
  obtain ⟨hplain, hnsz⟩ := hpl
  obtain ⟨x', b1', rx⟩ := r.get b1
  obtain ⟨s', b0', rs⟩ := r.get b0
  have hl := fun w => rx.len hn (P := P) w
  obtain ⟨new', hnr, rn⟩ := aCells_sound (P := P) hnew rx k
  have hnsz' : new'.size = n * size := by rw [← rn.size]; exact hnsz
  -- what a growing append comes to
  have grows : ∀ (base' : Option Addr) (sCap' : Nat) (old old' : Array Value), s' = .slice base' sLen sCap' → sCap' < sLen + n → Builtin.nextslicecap (sLen + n) sCap' * bytes ≤ 281474976710656 → sLen + n < 4611686018427387904 →
      (∀ w', w'.heap = w.heap → (Builtin.firstCells size sLen (.slice base' sLen sCap')).run P w' = .ok old' w') → ARel ι old old' → old.size = sLen * size → ι h.next = none →
      ∃ cap w', (Builtin.append_ ats ty args').run P w = .ok (.slice (some ⟨w.heap.size, 0, none⟩) (sLen + n) cap) w' ∧ sLen + n ≤ cap ∧ w'.heap = w.heap.push (.cells (old' ++ new' ++ Builtin.zeroCells z.cells (cap - (sLen + n))) elem) ∧ Same w w' ∧
        ORel (upd ι h.next ⟨w.heap.size, 0, cap * size⟩) True ⟨w.heap.size, 0, cap * size⟩ (.cells (old ++ new) elem) (some (.cells (old' ++ new' ++ Builtin.zeroCells z.cells (cap - (sLen + n))) elem)) := by
    intro base' sCap' old old' hs' hroom hcap hneed hold ro hosz hfr
    subst hs'
    obtain ⟨cap, w', h1, h2, h3, h4⟩ := run_append_grows (P := P) (w := w) (ty := ty) a0 a1 b0' b1' hu hx (fun k e => hxt k e) hs hb hz hb0 hl hroom hcap hnr hold hneed
    refine ⟨cap, w', h2, h1, h3, h4, ?_, fun _ => rfl⟩
    have hx2 := upd_ext ⟨w.heap.size, 0, cap * size⟩ hfr
    have hro : old'.size = sLen * size := by rw [← ro.size]; exact hosz
    refine CRel.behind ((ro.append rn).mono hx2) _ _ ?_
    have e1 : cap * size = (sLen + n) * size + (cap - (sLen + n)) * size := by rw [← Nat.add_mul]; congr 1; omega
    simp [zeroCells_size, hzs, hro, hnsz', e1, Nat.add_mul]
    try omega
  split at e
  · -- nil
    cases rs
    split at e
    · rename_i h0
      cases e
      refine ⟨.slice none 0 0, w, ι, [], ?_, .refl k rfl (.refl w), .sl0⟩
      have hn0 : n = 0 := by omega
      subst hn0
      have := run_append_room (P := P) (w := w) (w' := w) (ty := ty) (base := none) a0 a1 b0' b1' hu hx (fun k e => hxt k e) hs hl (by omega) (hnr w rfl) rfl
      simpa using this
    · rename_i h0
      split at e
      case isTrue => cases e
      rename_i hq
      cases e
      have hfr : ι h.next = none := hf _ (Nat.le_refl _) (by simp)
      have hbig : n * bytes ≤ 281474976710656 := by simpa using (show (0 + n) * bytes ≤ 281474976710656 by omega)
      have hnb : n ≤ n * bytes := Nat.le_mul_of_pos_right _ (by omega)
      obtain ⟨cap, w', h1, h2, h3, h4, h5⟩ := grows none 0 #[] #[] rfl (by omega) (by rw [Nat.zero_add, nextslicecap_zero n (by omega)]; exact hbig) (by omega) (fun w' _ => by simp [Builtin.firstCells]) (.empty _) (by simp) hfr
      simp only [Array.empty_append] at h5
      refine ⟨_, w', _, _, h1, Did.new (cap * size) k hfr h3 h4 (by simpa using h5), ?_⟩
      have := VRel.slL (ι := upd ι h.next ⟨w.heap.size, 0, cap * size⟩) (b := h.next) 0 (0 + n) size cap (upd_same _ _ _) h2 (by simp)
      simpa using this
  · -- a block
    rename_i b o
    split at e
    · -- a known capacity
      rename_i hlo
      have hsl : (∃ L, ι b = some L ∧ s' = .slice (some ⟨L.g, L.base + o, none⟩) sLen sCap) ∨ (∃ L a, ι b = some L ∧ s' = .slice (some a) 0 0 ∧ sLen = 0 ∧ sCap = 0) := by
        cases rs with
        | slX o n c h1 hc => exact .inl ⟨_, h1, rfl⟩
        | slL o n sz c h1 hn hl2 => unfold loose at hlo; omega
        | slD o sz a h1 hl2 => unfold loose at hlo; omega
        | slE o a h1 => exact .inr ⟨_, a, h1, rfl, rfl, rfl⟩
      rcases hsl with ⟨L, hL, rfl⟩ | ⟨L, a, hL, rfl, rfl, rfl⟩
      case inr =>
        split at e
        · rename_i hroom
          have hn0 : n = 0 := by omega
          subst hn0
          rw [if_pos rfl] at e
          cases e
          have hz0 : new'.toList = [] := by
            have : new'.size = 0 := by simpa using hnsz'
            simpa using this
          have := run_append_room (P := P) (w := w) (w' := w) (ty := ty) (base := some a) a0 a1 b0' b1' hu hx (fun k e => hxt k e) hs hl (by omega) (hnr w rfl) (by simp [hz0, storeCells])
          exact ⟨_, w, ι, [], this, .refl k rfl (.refl w), .slE o _ hL⟩
        · rename_i hroom
          split at e
          case isTrue => cases e
          rename_i hcap
          split at e
          · rename_i old hold
            cases e
            have hfr : ι h.next = none := hf _ (Nat.le_refl _) (by simp)
            have hos : old = #[] := by
              have := aCells_old hold
              exact Array.eq_empty_of_size_eq_zero (by simpa using this)
            subst hos
            obtain ⟨cap, w', h1, h2, h3, h4, h5⟩ := grows (some a) 0 #[] #[] rfl (by omega) (by omega) (by omega) (fun w' _ => by simp [Builtin.firstCells, loadCells, loadCellsFrom]) (.empty _) (by simp) hfr
            refine ⟨_, w', _, _, h1, Did.new (cap * size) k hfr h3 h4 h5, ?_⟩
            have := VRel.slL (ι := upd ι h.next ⟨w.heap.size, 0, cap * size⟩) (b := h.next) 0 (0 + n) size cap (upd_same _ _ _) h2 (by simp)
            simpa using this
          · cases e
      split at e
      · rename_i hroom
        split at e
        · rename_i hn0
          cases e
          subst hn0
          have hz0 : new'.toList = [] := by
            have : new'.size = 0 := by simpa using hnsz'
            simpa using this
          have := run_append_room (P := P) (w := w) (w' := w) (ty := ty) (base := some ⟨L.g, L.base + o, none⟩) a0 a1 b0' b1' hu hx (fun k e => hxt k e) hs hl (by omega) (hnr w rfl) (by simp [hz0, storeCells])
          exact ⟨_, w, ι, [], this, .refl k rfl (.refl w), .slX o _ _ hL hlo⟩
        · rename_i hn0
          split at e
          · rename_i h2 hw
            cases e
            obtain ⟨w', hr, hd, _⟩ := aWrite_sound (P := P) hw k rn.list hL
            have := run_append_room (P := P) (w := w) (w' := w') (ty := ty) (base := some ⟨L.g, L.base + o, none⟩) a0 a1 b0' b1' hu hx (fun k e => hxt k e) hs hl hroom (hnr w rfl) (by simpa [addr_add, Nat.add_assoc] using hr)
            exact ⟨_, w', ι, _, this, hd, .slX o _ _ hL hlo⟩
          · cases e
      · rename_i hroom
        split at e
        case isTrue => cases e
        rename_i hcap
        split at e
        · rename_i old hold
          cases e
          have hfr : ι h.next = none := hf _ (Nat.le_refl _) (by simp)
          obtain ⟨old', hor, ro⟩ := aCells_sound (P := P) hold (VRel.slX (ι := ι) o sLen sCap hL hlo) k
          obtain ⟨cap, w', h1, h2, h3, h4, h5⟩ := grows _ sCap old old' rfl (by omega) (by omega) (by omega) hor ro (aCells_old hold) hfr
          refine ⟨_, w', _, _, h1, Did.new (cap * size) k hfr h3 h4 h5, ?_⟩
          have := VRel.slL (ι := upd ι h.next ⟨w.heap.size, 0, cap * size⟩) (b := h.next) 0 (sLen + n) size cap (upd_same _ _ _) h2 (by simp)
          simpa using this
        · cases e
    · -- a capacity that is not known
      rename_i hlo
      split at e
      case isTrue => cases e
      rename_i hq
      have hsc : sCap = loose + size := by omega
      subst hsc
      have hnb : 4 * (sLen + n) ≤ 4 * (sLen + n) * bytes := Nat.le_mul_of_pos_right _ (by omega)
      split at e
      · -- nothing is appended
        rename_i hn0
        cases e
        subst hn0
        have hz0 : new'.toList = [] := by
          have : new'.size = 0 := by simpa using hnsz'
          simpa using this
        obtain ⟨L, h1, ⟨c, rfl, hn, hl2⟩ | ⟨a, rfl, rfl, hl2⟩⟩ := rs.loose_inv
        · have := run_append_room (P := P) (w := w) (w' := w) (ty := ty) (base := some ⟨L.g, L.base + o, none⟩) a0 a1 b0' b1' hu hx (fun k e => hxt k e) hs hl (by omega) (hnr w rfl) (by simp [hz0, storeCells])
          exact ⟨_, w, ι, [], this, .refl k rfl (.refl w), .slL o _ _ _ h1 hn hl2⟩
        · have := run_append_room (P := P) (w := w) (w' := w) (ty := ty) (base := some a) a0 a1 b0' b1' hu hx (fun k e => hxt k e) hs hl (by omega) (hnr w rfl) (by simp [hz0, storeCells])
          exact ⟨_, w, ι, [], this, .refl k rfl (.refl w), .slD o _ _ h1 hl2⟩
      · rename_i hn0
        split at e
        · rename_i cs el hb2
          split at e
          · rename_i hro
            obtain ⟨L, cs', e', fr', hL, hg, rc, hfr'⟩ := k.cells hb2
            have hf0 := hfr' hro.1; subst hf0
            have hle := rc.size
            have hlim := rc.lim
            have hnp : 0 < n := by omega
            have hmul : (sLen + n) * size = sLen * size + n * size := Nat.add_mul _ _ _
            have hn2 : 0 < n * size := Nat.mul_pos hnp hs0
            split at e
            · -- room for sure
              rename_i hrm
              cases e
              obtain ⟨L0, h1, ⟨c, rfl, hn, hl2⟩ | ⟨a, rfl, rfl, hl2⟩⟩ := rs.loose_inv
              case inr => rw [hL] at h1; cases h1; omega
              · rw [hL] at h1; cases h1
                have hroom : sLen + n ≤ c := by
                  refine Nat.le_of_mul_le_mul_right ?_ hs0
                  omega
                have hst := run_storeCells_w (P := P) L.g (L.base + o + sLen * size) e' new'.toList 0 cs' w hg (by simp [hnsz']; omega) (rn.list.plain hplain)
                have hap := run_append_room (P := P) (w := w) (ty := ty) (base := some ⟨L.g, L.base + o, none⟩) a0 a1 b0' b1' hu hx (fun k e => hxt k e) hs hl hroom (hnr w rfl) (by simpa [addr_add] using hst)
                refine ⟨_, _, ι, _, hap, Did.put (o := .cells (writeL cs (o + sLen * size) new.toList) el (0, 0)) (o' := .cells (writeL cs' (L.base + o + sLen * size) new'.toList) e' (0, 0)) k hb2 hro.1 hL rfl ⟨rfl, rfl, rfl⟩ ⟨?_, fun _ => rfl⟩, .slL o _ _ _ hL hroom hl2⟩
                have := rc.write rn.list (o := o + sLen * size) (by simp [hnsz]; omega)
                simpa [Nat.add_assoc] using this
            · -- it may be in place, it may not
              rename_i hrm
              cases e
              have hfr : ι h.next = none := hf _ (Nat.le_refl _) (by simp)
              have oldr : ARel ι (cs.extract o (o + sLen * size)) ((List.range (sLen * size)).map fun j => cs'.getD (L.base + o + j) undef).toArray := range_arel rc o _ hro.2
              have gr : ∀ (a : Addr) (c : Nat), s' = .slice (some a) sLen c → c < sLen + n → (sLen = 0 ∨ a = ⟨L.g, L.base + o, none⟩) → _ := fun a c hs' hc ha =>
                grows (some a) c (cs.extract o (o + sLen * size)) ((List.range (sLen * size)).map fun j => cs'.getD (L.base + o + j) undef).toArray hs' hc (Nat.le_trans (Nat.mul_le_mul_right _ (nextslicecap_le _ _ hc)) (by omega)) (by omega)
                  (fun w' hw => by
                    rcases ha with ha | ha
                    · subst ha; simp [Builtin.firstCells, loadCells, loadCellsFrom]
                    · subst ha
                      simp only [Builtin.firstCells]
                      exact run_cells (P := P) (by rw [hw]; exact hg) (L.base + o) (sLen * size) (by omega)) oldr (by simp; omega) hfr
              obtain ⟨L0, i1, ⟨c, rfl, hn, hl2⟩ | ⟨a, rfl, rfl, hl2⟩⟩ := rs.loose_inv
              case inr =>
                obtain ⟨cap, w', h1, h2, h3, h4, h5⟩ := gr a 0 rfl (by omega) (.inl rfl)
                refine ⟨_, w', _, _, h1, Did.fresh (cap * size) k hb2 hro.1 hfr h3 h4 h5, ?_⟩
                have := VRel.slL (ι := upd ι h.next ⟨w.heap.size, 0, cap * size⟩) (b := h.next) 0 (0 + n) size cap (upd_same _ _ _) h2 (by simp)
                simpa using this
              · rw [hL] at i1; cases i1
                by_cases hroom : sLen + n ≤ c
                · -- in place
                  have hmm : (sLen + n) * size ≤ c * size := Nat.mul_le_mul_right _ hroom
                  have hst := run_storeCells_w (P := P) L.g (L.base + o + sLen * size) e' new'.toList 0 cs' w hg (by simp [hnsz']; omega) (rn.list.plain hplain)
                  have hap := run_append_room (P := P) (w := w) (ty := ty) (base := some ⟨L.g, L.base + o, none⟩) a0 a1 b0' b1' hu hx (fun k e => hxt k e) hs hl hroom (hnr w rfl) (by simpa [addr_add] using hst)
                  refine ⟨_, _, upd ι h.next ⟨L.g, L.base + o, L.lim⟩, _, hap, Did.move (L2 := ⟨L.g, L.base + o, L.lim⟩) (o := .cells (cs.extract o (o + sLen * size) ++ new) elem) (o' := .cells (writeL cs' (L.base + o + sLen * size) new'.toList) e' (0, 0)) k hb2 hro.1 hL hfr rfl rfl ⟨rfl, rfl, rfl⟩ ⟨?_, fun _ => rfl⟩, ?_⟩
                  · have hx2 := upd_ext ⟨L.g, L.base + o, L.lim⟩ hfr
                    refine ⟨by rw [writeL_size]; exact hlim, by rw [writeL_size]; simp [hnsz]; omega, fun i v ev => ?_⟩
                    dsimp only
                    rw [writeL_get _ _ _ _ (by simp [hnsz']; omega)]
                    by_cases hi : i < sLen * size
                    · rw [Array.getElem?_append_left (by simp; omega)] at ev
                      rw [if_neg (by simp; omega)]
                      rw [Array.getElem?_extract, if_pos (by omega)] at ev
                      obtain ⟨v', a1, a2⟩ := rc.at_ _ _ ev
                      exact ⟨v', by rw [← a1]; congr 1; omega, a2.mono hx2⟩
                    · have hsz : (cs.extract o (o + sLen * size)).size = sLen * size := by simp; omega
                      rw [Array.getElem?_append_right (by omega), hsz] at ev
                      obtain ⟨hi3, _⟩ := Array.getElem?_eq_some_iff.1 ev
                      rw [if_pos (by simp [hnsz']; omega)]
                      obtain ⟨v', a1, a2⟩ := rn.get ev
                      refine ⟨v', ?_, a2.mono hx2⟩
                      rw [Array.getElem?_toList, ← a1]; congr 1; omega
                  · have := VRel.slL (ι := upd ι h.next ⟨L.g, L.base + o, L.lim⟩) (b := h.next) 0 (sLen + n) size c (upd_same _ _ _) hroom (by simpa using hl2)
                    simpa using this
                · obtain ⟨cap, w', h1, h2, h3, h4, h5⟩ := gr _ c rfl (by omega) (.inr rfl)
                  refine ⟨_, w', _, _, h1, Did.fresh (cap * size) k hb2 hro.1 hfr h3 h4 h5, ?_⟩
                  have := VRel.slL (ι := upd ι h.next ⟨w.heap.size, 0, cap * size⟩) (b := h.next) 0 (sLen + n) size cap (upd_same _ _ _) h2 (by simp)
                  simpa using this
          · cases e
        · cases e
  · cases e
end
end Go.Ags
