/- Each operation of the evaluator is what the machine does: a slice up to beyond its length, a capacity, an append of made zeros. -/
import Derived.Test.YtpabofkomhffgaaGreatAgsOps6
set_option linter.unusedVariables false
set_option linter.unusedSimpArgs false
namespace Go.Ags
section
variable {P : Program} {ι : Inj} {h : AH} {w : World}

theorem aCap_sound {ats : Array TypeId} {args args' : Array Value} {v : Value} (e : aCap P ats args = some v) (r : ARel ι args args') (ty : TypeId) :
    ∃ v', (Builtin.cap_ ats ty args').run P w = .ok v' w ∧ VRel ι v v' := by
  unfold aCap at e
  split at e
  case h_2 => cases e
  rename_i t a n c a0 b0
  split at e
  case h_2 => cases e
  rename_i el hu
  split at e
  case isFalse => cases e
  rename_i hc
  cases e
  obtain ⟨x', b0', rx⟩ := r.get b0
  have : ∃ a' n', x' = .slice a' n' c := by
    cases rx with
    | sl0 => exact ⟨_, _, rfl⟩
    | slX o n c h1 hc => exact ⟨_, _, rfl⟩
    | slL o n sz c h1 hn hl => unfold loose at hc; omega
    | slD o sz a h1 hl => unfold loose at hc; omega
    | slE o a h1 => exact ⟨_, _, rfl⟩
  obtain ⟨a', n', rfl⟩ := this
  refine ⟨goInt c, ?_, .goInt _⟩
  unfold Builtin.cap_
  simp only [a0, b0', Sem.run_bind, run_und hu, Result.andThen_ok, Sem.run_pure]

theorem aSliceB_sound {t : TypeId} {x x' : Value} {lo hi mx lo' hi' mx' : Option Value} {v : Value} (e : aSliceB P h t x lo hi mx = some v) (rx : VRel ι x x') (rlo : ORelV ι lo lo') (rhi : ORelV ι hi hi') (rmx : ORelV ι mx mx') (k : HRel ι h w) :
    ∃ v', (Instr.sliceAt t x' lo' hi' mx').run P w = .ok v' w ∧ VRel ι v v' := by
  unfold aSliceB at e
  split at e
  case h_2 => cases e
  rename_i elem b o n c hu
  split at e
  case h_2 => cases e
  rename_i size l m hs hl hh
  split at e
  case h_2 => cases e
  rename_i cs el fr hb
  split at e
  case isFalse => cases e
  rename_i hc
  obtain ⟨h1, rfl, h3, h4⟩ := hc
  cases e
  have hmx : mx' = none := by
    cases mx' with
    | none => rfl
    | some y => exact rmx.elim
  subst hmx
  obtain ⟨L, hL, ro⟩ := k.live b _ hb
  have hlim : L.base + cs.size ≤ L.lim := by
    revert ro
    generalize w.heap[L.g]? = q
    intro ro
    rcases q with _ | q
    · exact ro.elim
    · cases q <;> first | exact (ro : False).elim | skip
      rw [ro.1.lim]; exact ro.1.size
  have sl : lo' = none ∧ l = 0 ∨ ∃ k i, lo' = some (.int k i) ∧ 0 ≤ i ∧ l = i.toNat := by
    rcases aBound_spec hl rlo with ⟨_, b, c⟩ | ⟨k, i, _, b, c, d⟩
    · exact .inl ⟨b, c⟩
    · exact .inr ⟨k, i, b, c, d⟩
  have sh : hi' = none ∧ m = n ∨ ∃ k i, hi' = some (.int k i) ∧ 0 ≤ i ∧ m = i.toNat := by
    rcases aBound_spec hh rhi with ⟨_, b, c⟩ | ⟨k, i, _, b, c, d⟩
    · exact .inl ⟨b, c⟩
    · exact .inr ⟨k, i, b, c, d⟩
  obtain ⟨L2, hL2, r2⟩ := rx.loose_inv
  rw [hL] at hL2; cases hL2
  rcases r2 with ⟨c, rfl, hn, hlm⟩ | ⟨a, rfl, rfl, hlm⟩
  · have hmc : m ≤ c := by
      have : m * size ≤ c * size := by omega
      exact Nat.le_of_mul_le_mul_right this h3
    refine ⟨_, run_sliceAt hu hs (run_bounds sl sh (.inl ⟨rfl, rfl⟩) h1 hmc (Nat.le_refl _) (by simp)) w, ?_⟩
    have e1 : L.base + (o + l * size) + (c - l) * size = L.lim := by
      rw [Nat.sub_mul]
      have : l * size ≤ c * size := Nat.mul_le_mul_right _ (by omega)
      omega
    by_cases q : c = l
    · subst q
      obtain rfl : m = c := by omega
      simp only [if_true, Nat.sub_self]
      exact .slD _ size _ hL (by omega)
    · simp only [q, if_false, Option.map_some, addr_add]
      have := VRel.slL (ι := ι) (b := b) (L := L) (o + l * size) (m - l) size (c - l) hL (by omega) e1
      simpa [Nat.add_assoc] using this
  · have hm0 : m = 0 := by
      have : m * size = 0 := by omega
      rcases Nat.mul_eq_zero.1 this with q | q <;> omega
    subst hm0
    obtain rfl : l = 0 := by omega
    refine ⟨_, run_sliceAt hu hs (run_bounds sl sh (.inl ⟨rfl, rfl⟩) h1 (Nat.le_refl _) (Nat.le_refl _) (by simp)) w, ?_⟩
    simpa using VRel.slD (ι := ι) (b := b) (L := L) o size a hL hlm

theorem run_append_zeros {sType xType elem : TypeId} {kx : IntKind} {k : IntKind} {l : Int} {ats : Array TypeId} {ty : TypeId} {args : Array Value} {size bytes : Nat} {z : Value}
    (a0 : (ats[0]? : Option TypeId) = some sType) (a1 : (ats[1]? : Option TypeId) = some xType) (b0 : (args[0]? : Option Value) = some (.slice none 0 0)) (b1 : (args[1]? : Option Value) = some (.int k l))
    (hu : P.underlying sType = some (.slice elem)) (hx : P.underlying xType = some (.int kx)) (hs : tsize P elem = some size) (hb : tbytes P elem = some bytes) (hz : tzero P elem = some z) (hb0 : 0 < bytes) (hs0 : 0 < size) (hzs : z.cells.size = size)
    (hl0 : 0 ≤ l) (hw : IntKind.i64.wrap l = l) (hlb : l * bytes ≤ 281474976710656) :
    (l = 0 → (Builtin.append_ ats ty args).run P w = .ok (.slice none 0 0) w) ∧
    (l ≠ 0 → ∃ cap w', l.toNat ≤ cap ∧ (Builtin.append_ ats ty args).run P w = .ok (.slice (some ⟨w.heap.size, 0, none⟩) l.toNat cap) w' ∧
      w'.heap = w.heap.push (.cells (Builtin.zeroCells z.cells l.toNat ++ Builtin.zeroCells z.cells (cap - l.toNat)) elem) ∧ Same w w') := by
  obtain ⟨i, hi, hib⟩ := tbytes_info hb
  have hn0 : ¬ l < 0 := by omega
  have hlb' : ¬ (l * (i.bytes : Int) > 2 ^ 48) := by
    rw [hib]; have : (2 : Int) ^ 48 = 281474976710656 := by decide
    omega
  constructor
  · intro h0
    subst h0
    unfold Builtin.append_
    simp [a0, a1, b0, b1, run_und hu, run_und hx, run_size hs, asInt, asIntOf, hw, run_info hi]
  · intro h0
    have hq : (Question.appendCap (0 + l.toNat) 0 elem).forced = false := rfl
    obtain ⟨cap, hcapd⟩ : ∃ cap, cap = (Question.appendCap (0 + l.toNat) 0 elem).cut (w.tape w.drawn (.appendCap (0 + l.toNat) 0 elem)) := ⟨_, rfl⟩
    have hcapge : l.toNat ≤ cap := by
      rw [hcapd]
      show l.toNat ≤ (0 + l.toNat) + _ % _
      omega
    have hask : ∀ b w, (askRoom b).run P w = .ok () w := by
      intro b w; unfold askRoom; split <;> rfl
    have hlt : l ≤ l * (bytes : Int) := by
      have : l * 1 ≤ l * (bytes : Int) := Int.mul_le_mul_of_nonneg_left (by omega) hl0
      omega
    have hbig : ¬ (((0 + l.toNat : Nat) : Int) > IntKind.i64.max) := by
      have : IntKind.i64.max = 9223372036854775807 := by decide
      omega
    have hcapn : ¬ 281474976710656 < Builtin.nextslicecap (0 + l.toNat) 0 * i.bytes := by
      rw [hib, Nat.zero_add, nextslicecap_zero _ (by omega)]
      have : ((l.toNat * bytes : Nat) : Int) = l * bytes := by rw [Int.natCast_mul, Int.toNat_of_nonneg hl0]
      omega
    have hroom : ¬ (0 + l.toNat ≤ 0) := by omega
    have hnz : ¬ (l.toNat * size = 0) := by
      intro q
      rcases Nat.mul_eq_zero.1 q with q | q <;> omega
    refine ⟨cap, w.drew.alloc (.cells (Builtin.zeroCells z.cells l.toNat ++ Builtin.zeroCells z.cells (cap - l.toNat)) elem), hcapge, ?_, rfl, ⟨rfl, rfl, rfl⟩⟩
    unfold Builtin.append_
    simp only [a0, a1, b0, b1, Sem.run_bind, run_und hu, run_size hs, run_und hx, Result.andThen_ok, Sem.run_pure]
    have hbn : ¬ i.bytes = 0 := by omega
    have hb1 : ¬ ((281474976710656 : Int) < l * (i.bytes : Int)) := by rw [hib]; omega
    have hmx : ¬ ((9223372036854775807 : Int) < max l 0) := by omega
    have hl1 : ¬ (l ≤ 0) := by omega
    have hn1 : ¬ (l = 0) := h0
    have hn2 : ¬ (l.toNat = 0) := by omega
    have hs1 : ¬ (size = 0) := by omega
    simp only [Nat.zero_add] at hbig hcapn hcapd hq
    simp [hmx, asInt, asIntOf, hw, hn0, run_info hi, hb1, hl1, hn1, hn2, hs1, hbig, hcapn, hbn, hq, hask, Builtin.firstCells, loadCells, loadCellsFrom, run_zero hz, newRow, ← hcapd]
    exact fun q => absurd q hnz

theorem aAppendZ_sound {ats : Array TypeId} {args args' : Array Value} {v : Value} {h' : AH} (e : aAppendZ P h ats args = some (v, h')) (r : ARel ι args args') (k : HRel ι h w) (hf : Free ι h h') (ty : TypeId) :
    ∃ v' w' ι' δ, (Builtin.append_ ats ty args').run P w = .ok v' w' ∧ Did ι h w ι' h' w' δ ∧ VRel ι' v v' := by
  unfold aAppendZ at e
  split at e
  case h_2 => cases e
  rename_i sType kl l a0 b0 b1
  split at e
  case h_2 => cases e
  rename_i elem kx hu hx0
  obtain ⟨xType, a1, hx⟩ : ∃ xType, (ats[1]? : Option TypeId) = some xType ∧ P.underlying xType = some (.int kx) := by
    cases q : (ats[1]? : Option TypeId) with
    | none => simp [q] at hx0
    | some y => simp [q] at hx0; exact ⟨y, rfl, hx0⟩
  split at e
  case h_2 => cases e
  rename_i size bytes z hs hb hz
  split at e
  case isFalse => cases e
  rename_i hc
  obtain ⟨h1, h2, h3, h4, h5, h6⟩ := hc
  obtain ⟨x', b1', rx⟩ := r.get b1
  obtain ⟨s', b0', rs⟩ := r.get b0
  cases rx
  cases rs
  obtain ⟨q0, q1⟩ := run_append_zeros (P := P) (w := w) (ty := ty) a0 a1 b0' b1' hu hx hs hb hz h5 h4 h6 h1 h2 h3
  split at e
  · rename_i h0
    cases e
    exact ⟨_, w, ι, [], q0 h0, .refl k rfl (.refl w), .sl0⟩
  · rename_i h0
    cases e
    have hfr : ι h.next = none := hf _ (Nat.le_refl _) (by simp)
    obtain ⟨cap, w', c1, c2, c3, c4⟩ := q1 h0
    have hzr : ARel ι (Builtin.zeroCells z.cells l.toNat) (Builtin.zeroCells z.cells l.toNat) := range_rel (tzero_cells hz ι) (fun hn => by
      intro q; rw [q] at h6; omega)
    have e1 : cap * size = l.toNat * size + (cap - l.toNat) * size := by rw [← Nat.add_mul]; congr 1; omega
    refine ⟨_, w', _, _, c2, Did.new (cap * size) k hfr c3 c4 ⟨CRel.behind (hzr.mono (upd_ext _ hfr)) _ _ (by simp [zeroCells_size, h6, e1]), fun _ => rfl⟩, ?_⟩
    have := VRel.slL (ι := upd ι h.next ⟨w.heap.size, 0, cap * size⟩) (b := h.next) 0 l.toNat size cap (upd_same _ _ _) c1 (by simp)
    simpa using this
end
end Go.Ags
