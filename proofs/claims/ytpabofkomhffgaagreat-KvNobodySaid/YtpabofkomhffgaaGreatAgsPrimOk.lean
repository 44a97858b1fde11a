/- The single steps, in other words: lists and the heap. -/
import Derived.Test.YtpabofkomhffgaaGreatAgsNum
set_option linter.unusedVariables false
set_option linter.unusedSimpArgs false
namespace Go.Ags

theorem beq_no {a b : Nat} (h : ¬ a = b) : Nat.beq a b = false := by
  cases e : Nat.beq a b with
  | false => rfl
  | true => exact absurd (Nat.eq_of_beq_eq_true e) h
theorem beq_yes {a b : Nat} (h : a = b) : Nat.beq a b = true := by
  subst h; exact Nat.beq_refl a

theorem lget_eq : ∀ (l : List Value) (i : Nat), lget l i = l[i]?
  | [], i => by simp [lget]
  | v :: r, 0 => rfl
  | v :: r, i + 1 => by
    have := lget_eq r i
    show lget r i = _
    rw [this]; simp
theorem lset_eq (x : Value) : ∀ (l : List Value) (i : Nat), lset x l i = l.set i x
  | [], i => by simp [lset]
  | v :: r, 0 => rfl
  | v :: r, i + 1 => by
    show v :: lset x r i = _
    rw [lset_eq x r i]; rfl
theorem ldrop_eq : ∀ (n : Nat) (l : List Value), ldrop n l = l.drop n
  | 0, l => rfl
  | n + 1, [] => by simp [ldrop]
  | n + 1, v :: r => by
    show ldrop n r = _
    rw [ldrop_eq n r]; rfl
theorem lcut_eq : ∀ (n : Nat) (l : List Value), lcut n l = if n ≤ l.length then some (l.take n) else none
  | 0, l => by show some [] = _; simp
  | n + 1, [] => by simp [lcut]
  | n + 1, v :: r => by
    show (Option.rec none (fun r => some (v :: r)) (lcut n r) : Option (List Value)) = _
    rw [lcut_eq n r]
    by_cases h : n ≤ r.length <;> simp [h]

theorem tget_eq : ∀ (t : T) (k : Nat), tget t k = t.get k
  | .leaf, k => rfl
  | .node v l r, k => by
    show (Bool.rec (Bool.rec (tget r (Nat.sub (Nat.div k 2) 1)) (tget l (Nat.div k 2)) (Nat.beq (Nat.mod k 2) 1)) v (Nat.beq k 0) : Option Obj) = _
    unfold T.get
    by_cases h0 : k = 0
    · subst h0; rfl
    · have e0 : Nat.beq k 0 = false := beq_no h0
      rw [e0, if_neg h0]
      by_cases h1 : k % 2 = 1
      · have e1 : Nat.beq (Nat.mod k 2) 1 = true := beq_yes h1
        rw [if_pos h1, e1]; exact tget_eq l _
      · have e1 : Nat.beq (Nat.mod k 2) 1 = false := beq_no h1
        rw [if_neg h1, e1]; exact tget_eq r _

theorem tset_eq (v : Option Obj) : ∀ (f : Nat) (t : T) (k : Nat), tset v f t k = T.setF f t k v
  | 0, t, k => by show t = _; simp [T.setF]
  | f + 1, .leaf, k => by
    show (Bool.rec (Bool.rec (.node none .leaf (tset v f .leaf (Nat.sub (Nat.div k 2) 1))) (.node none (tset v f .leaf (Nat.div k 2)) .leaf) (Nat.beq (Nat.mod k 2) 1)) (.node v .leaf .leaf) (Nat.beq k 0) : T) = _
    unfold T.setF
    by_cases h0 : k = 0
    · subst h0; rfl
    · have e0 : Nat.beq k 0 = false := beq_no h0
      rw [e0, if_neg h0]
      by_cases h1 : k % 2 = 1
      · have e1 : Nat.beq (Nat.mod k 2) 1 = true := beq_yes h1
        rw [if_pos h1, e1]
        show T.node none (tset v f .leaf (k / 2)) .leaf = _
        rw [tset_eq v f]
      · have e1 : Nat.beq (Nat.mod k 2) 1 = false := beq_no h1
        rw [if_neg h1, e1]
        show T.node none .leaf (tset v f .leaf (k / 2 - 1)) = _
        rw [tset_eq v f]
  | f + 1, .node u l r, k => by
    show (Bool.rec (Bool.rec (.node u l (tset v f r (Nat.sub (Nat.div k 2) 1))) (.node u (tset v f l (Nat.div k 2)) r) (Nat.beq (Nat.mod k 2) 1)) (.node v l r) (Nat.beq k 0) : T) = _
    unfold T.setF
    by_cases h0 : k = 0
    · subst h0; rfl
    · have e0 : Nat.beq k 0 = false := beq_no h0
      rw [e0, if_neg h0]
      by_cases h1 : k % 2 = 1
      · have e1 : Nat.beq (Nat.mod k 2) 1 = true := beq_yes h1
        rw [if_pos h1, e1]
        show T.node u (tset v f l (k / 2)) r = _
        rw [tset_eq v f]
      · have e1 : Nat.beq (Nat.mod k 2) 1 = false := beq_no h1
        rw [if_neg h1, e1]
        show T.node u l (tset v f r (k / 2 - 1)) = _
        rw [tset_eq v f]

@[simp] theorem hget_eq (h : AH) (b : Nat) : hget h b = h.get b := tget_eq _ _
@[simp] theorem hput_eq (h : AH) (b : Nat) (o : Option Obj) : hput h b o = h.put b o := by
  unfold hput AH.put T.set
  rw [tset_eq]
@[simp] theorem hnew_eq (h : AH) (o : Obj) : hnew h o = h.new o := by
  unfold hnew AH.new T.set
  rw [tset_eq]

/-! ### What a step came to -/
section
variable {c : Value → M} {r : Value × AH}

theorem pI2_some {f : IntKind → Int → Int → Value} {x y : Value} (e : pI2 f x y c = some r) : ∃ k a b, x = .int k a ∧ y = .int k b ∧ c (f k a b) = some r := by
  unfold pI2 at e
  split at e
  · rename_i j a j' b
    cases hk : kEq j j' with
    | false => rw [hk] at e; cases e
    | true => rw [hk] at e; have := kEq_eq hk; subst this; exact ⟨j, a, b, rfl, rfl, e⟩
  · cases e

theorem pLd_some {x : Value} {h : AH} (e : pLd x h c = some r) : ∃ b o cs t fr v, x = .pointer (some ⟨b, o, none⟩) ∧ h.get b = some (.cells ⟨cs⟩ t fr) ∧ cs[o]? = some v ∧ c v = some r := by
  unfold pLd at e
  split at e
  · rename_i b o
    split at e
    · rename_i cs t fr hb
      split at e
      · rename_i v hv
        exact ⟨b, o, cs, t, fr, v, rfl, by rw [← hget_eq]; exact hb, by rw [← lget_eq]; exact hv, e⟩
      · cases e
    · cases e
  · cases e

theorem pLdN_some {n : Nat} {x : Value} {h : AH} (e : pLdN n x h c = some r) : ∃ b o cs t fr, x = .pointer (some ⟨b, o, none⟩) ∧ h.get b = some (.cells ⟨cs⟩ t fr) ∧ n ≤ cs.length - o ∧ c (.agg ⟨(cs.drop o).take n⟩) = some r := by
  unfold pLdN at e
  split at e
  · rename_i b o
    split at e
    · rename_i cs t fr hb
      split at e
      · rename_i v hv
        rw [lcut_eq, ldrop_eq] at hv
        split at hv
        · rename_i hn
          cases hv
          exact ⟨b, o, cs, t, fr, rfl, by rw [← hget_eq]; exact hb, by simpa using hn, e⟩
        · cases hv
      · cases e
    · cases e
  · cases e

theorem pSt_some {a x : Value} {h : AH} {c : AH → M} (e : pSt a x h c = some r) : ∃ b o cs t, a = .pointer (some ⟨b, o, none⟩) ∧ h.get b = some (.cells ⟨cs⟩ t (0, 0)) ∧ plainCell x = true ∧ h.ro ≤ b ∧ o < cs.length ∧ c (h.put b (some (.cells ⟨cs.set o x⟩ t (0, 0)))) = some r := by
  unfold pSt at e
  split at e
  · rename_i b o
    split at e
    · rename_i cs t hb
      cases hq : (plainCell x && Nat.ble h.ro b && Nat.blt o cs.length) with
      | false => rw [hq] at e; cases e
      | true =>
        rw [hq] at e
        simp only [Bool.and_eq_true, Nat.ble_eq, Nat.blt_eq] at hq
        rw [cond_true, hput_eq, lset_eq] at e
        exact ⟨b, o, cs, t, rfl, by rw [← hget_eq]; exact hb, hq.1.1, hq.1.2, hq.2, e⟩
    · cases e
  · cases e

theorem pR_some {o : M} {c : Value → AH → M} (e : pR o c = some r) : ∃ v h, o = some (v, h) ∧ c v h = some r := by
  unfold pR at e
  split at e
  · exact ⟨_, _, rfl, e⟩
  · cases e
theorem pV_some {o : Option Value} (e : pV o c = some r) : ∃ v, o = some v ∧ c v = some r := by
  unfold pV at e
  split at e
  · exact ⟨_, rfl, e⟩
  · cases e
end
end Go.Ags
