/- Numbers: the quick ways come to what the machine's do. -/
import Derived.Test.YtpabofkomhffgaaGreatAgsCongr
set_option linter.unusedVariables false
set_option linter.unusedSimpArgs false
namespace Go.Ags

theorem wrap_in (k : IntKind) (x : Int) (hs : sgn k = true) (h1 : -(lim k : Int) ≤ x) (h2 : x < lim k) : k.wrap x = x := by
  cases k with
  | i8 => rw [show lim .i8 = 128 from rfl] at *; unfold IntKind.wrap IntKind.bits IntKind.signed; simp; omega
  | i16 => rw [show lim .i16 = 32768 from rfl] at *; unfold IntKind.wrap IntKind.bits IntKind.signed; simp; omega
  | i32 => rw [show lim .i32 = 2147483648 from rfl] at *; unfold IntKind.wrap IntKind.bits IntKind.signed; simp; omega
  | i64 => rw [show lim .i64 = 9223372036854775808 from rfl] at *; unfold IntKind.wrap IntKind.bits IntKind.signed; simp; omega
  | _ => cases hs
theorem wrap_neg (k : IntKind) (n : Nat) (hs : sgn k = true) (hn : n < lim k) : k.wrap (.negSucc n) = .negSucc n :=
  wrap_in k _ hs (by omega) (by omega)
theorem fw_eq (k : IntKind) (a : Int) : fw k a = k.wrap a := by
  cases a with
  | ofNat n =>
    unfold fw
    cases hb : Nat.blt n (lim k) with
    | true =>
      have hn : n < lim k := by simpa [Nat.blt_eq] using hb
      simp only [hb, cond_true]
      cases k <;> simp [lim] at hn <;> simp [IntKind.wrap, IntKind.bits, IntKind.signed] <;> omega
    | false =>
      simp only [hb, cond_false]
      cases hs : sgn k with
      | true => rfl
      | false =>
        simp only [cond_false]
        cases k <;> simp [sgn] at hs <;> simp [lim, IntKind.wrap, IntKind.bits, IntKind.signed] <;> rfl
  | negSucc n =>
    unfold fw
    cases hs : sgn k with
    | false => rfl
    | true =>
      simp only [cond_true]
      cases hb : Nat.blt n (lim k) with
      | false => rfl
      | true =>
        have hn : n < lim k := by simpa [Nat.blt_eq] using hb
        simp only [cond_true]
        exact (wrap_neg k n hs hn).symm

theorem ilt_eq (a b : Int) : ilt a b = decide (a < b) := by
  cases a <;> cases b <;> simp only [ilt] <;> (rw [Bool.eq_iff_iff]; simp [Nat.blt_eq]; try omega)
theorem ieq_eq (a b : Int) : ieq a b = (a == b) := by
  cases a <;> cases b <;> simp only [ieq] <;> (rw [Bool.eq_iff_iff]; simp; try omega)
theorem kEq_eq {j k : IntKind} (h : kEq j k = true) : j = k := by
  cases j <;> cases k <;> first | rfl | (simp [kEq, kNo] at h)
@[simp] theorem kEq_self (k : IntKind) : kEq k k = true := by simp [kEq]

theorem bitF_eq {f : (w : Nat) → BitVec w → BitVec w → BitVec w} {g : Nat → Nat → Nat} (hf : ∀ (w m n : Nat), m < 2 ^ w → n < 2 ^ w → (f w (BitVec.ofNat w m) (BitVec.ofNat w n)).toNat = g m n)
    (hg : ∀ (j m n : Nat), m < 2 ^ j → n < 2 ^ j → g m n < 2 ^ j) (k : IntKind) (a b : Int) : bitF f g k a b = bitS f k a b := by
  cases a with
  | negSucc m => rfl
  | ofNat m =>
    cases b with
    | negSucc n => rfl
    | ofNat n =>
      unfold bitF
      cases hb : (Nat.blt m (lim k) && Nat.blt n (lim k)) with
      | false => simp only [hb, cond_false]
      | true =>
        simp only [hb, cond_true]
        rw [Bool.and_eq_true] at hb
        have h1 : m < lim k := by simpa [Nat.blt_eq] using hb.1
        have h2 : n < lim k := by simpa [Nat.blt_eq] using hb.2
        unfold bitS
        have hl : lim k ≤ 2 ^ k.bits := by cases k <;> simp [lim, IntKind.bits]
        have e1 : BitVec.ofInt k.bits (Int.ofNat m) = BitVec.ofNat k.bits m := by simp
        have e2 : BitVec.ofInt k.bits (Int.ofNat n) = BitVec.ofNat k.bits n := by simp
        rw [e1, e2, hf _ _ _ (by omega) (by omega), ← fw_eq]
        have h3 : g m n < lim k := by
          have : ∃ j, lim k = 2 ^ j := by cases k <;> first | exact ⟨7, rfl⟩ | exact ⟨15, rfl⟩ | exact ⟨31, rfl⟩ | exact ⟨63, rfl⟩ | exact ⟨8, rfl⟩ | exact ⟨16, rfl⟩ | exact ⟨32, rfl⟩ | exact ⟨64, rfl⟩
          obtain ⟨j, hj⟩ := this
          rw [hj] at h1 h2 ⊢
          exact hg j m n h1 h2
        have h4 : Nat.blt (g m n) (lim k) = true := by simpa [Nat.blt_eq] using h3
        show _ = fw k (Int.ofNat (g m n))
        unfold fw
        simp [h4]

theorem band_eq (k : IntKind) (a b : Int) : bitF (fun _ a b => a &&& b) Nat.land k a b = bitS (fun _ a b => a &&& b) k a b :=
  bitF_eq (fun w m n hm hn => by simp [Nat.mod_eq_of_lt hm, Nat.mod_eq_of_lt hn]) (fun j m n hm hn => Nat.and_lt_two_pow _ hn) k a b
theorem bor_eq (k : IntKind) (a b : Int) : bitF (fun _ a b => a ||| b) Nat.lor k a b = bitS (fun _ a b => a ||| b) k a b :=
  bitF_eq (fun w m n hm hn => by simp [Nat.mod_eq_of_lt hm, Nat.mod_eq_of_lt hn]) (fun j m n hm hn => Nat.or_lt_two_pow hm hn) k a b
theorem bxor_eq (k : IntKind) (a b : Int) : bitF (fun _ a b => a ^^^ b) Nat.xor k a b = bitS (fun _ a b => a ^^^ b) k a b :=
  bitF_eq (fun w m n hm hn => by simp [Nat.mod_eq_of_lt hm, Nat.mod_eq_of_lt hn]) (fun j m n hm hn => Nat.xor_lt_two_pow hm hn) k a b

theorem shlF_eq (k : IntKind) (a : Int) (n : Nat) : shlF k a n = k.wrap (a * 2 ^ n) := by
  cases a with
  | ofNat m =>
    show fw k (.ofNat (m * 2 ^ n)) = _
    rw [fw_eq]
    simp
  | negSucc m => rfl
theorem shrF_eq (a : Int) (n : Nat) : shrF a n = a.fdiv (2 ^ n) := by
  cases a with
  | ofNat m =>
    unfold shrF
    show ((m / 2 ^ n : Nat) : Int) = (m : Int).fdiv (2 ^ n)
    have : ((2 : Int) ^ n) = ((2 ^ n : Nat) : Int) := by simp
    rw [this, Int.fdiv_eq_ediv_of_nonneg _ (Int.natCast_nonneg _)]
    simp
  | negSucc m => rfl

section
variable {P : Program} {R : Rec} {ρ : Operand → Value} {h : AH}

theorem eqGuard_int (op : BinOp) (t : TypeId) (x y : Operand) (k k' : IntKind) (a b : Int) : eqGuard op t x y (.int k a) (.int k' b) = Sem.pure () := by
  cases op <;> rfl

theorem aOp_int {dst : Option Tmp} {pos : String} {after : Array Edge} {guard : Option (Nat × Bool)} {op : BinOp} {t yt ty : TypeId} {x y : Operand} {k k' : IntKind} {a b : Int} {r : Value} (hx : ρ x = .int k a) (hy : ρ y = .int k' b) (hr : pureVal P (Go.binOp op t (.int k a) (.int k' b)) = some r) (hv : af r = true) :
    aOp P R ρ ⟨dst, .binOp op t x y yt, ty, pos, after, guard⟩ h = some (r, h) := by
  have hb : pureVal P (execOp ρ ⟨dst, .binOp op t x y yt, ty, pos, after, guard⟩) = some (.value r) := by
    simp only [execOp, hx, hy, eqGuard_int]
    have key : ∀ (s : Sem Value), pureVal P s = some r → pureVal P (s.bind fun v => Sem.pure (Next.value v)) = some (.value r) := by
      intro s
      induction s with
      | pure a => intro q; simp [pureVal] at q; subst q; rfl
      | program k ih => intro q; exact ih P q
      | _ => intro q; simp [pureVal] at q
    exact key _ hr
  simp only [aOp, hx, hy, af, Bool.and_self, if_true, aPure, Op.operands, List.all_cons, List.all_nil, hb, hv]

theorem bin_arith {op : BinOp} {t : TypeId} {k : IntKind} {a b : Int} {n : Int} (h : (op = .add ∧ n = a + b) ∨ (op = .sub ∧ n = a - b) ∨ (op = .mul ∧ n = a * b)) :
    pureVal P (Go.binOp op t (.int k a) (.int k b)) = some (.int k (k.wrap n)) := by
  rcases h with ⟨rfl, rfl⟩ | ⟨rfl, rfl⟩ | ⟨rfl, rfl⟩ <;> simp [Go.binOp, Op.intArith] <;> rfl
theorem bin_bits {op : BinOp} {t : TypeId} {k : IntKind} {a b : Int} {n : Int}
    (h : (op = .and ∧ n = bitS (fun _ a b => a &&& b) k a b) ∨ (op = .or ∧ n = bitS (fun _ a b => a ||| b) k a b) ∨ (op = .xor ∧ n = bitS (fun _ a b => a ^^^ b) k a b) ∨ (op = .andNot ∧ n = bitS (fun _ a b => a &&& ~~~b) k a b)) :
    pureVal P (Go.binOp op t (.int k a) (.int k b)) = some (.int k n) := by
  rcases h with ⟨rfl, rfl⟩ | ⟨rfl, rfl⟩ | ⟨rfl, rfl⟩ | ⟨rfl, rfl⟩ <;> simp [Go.binOp, Op.intBits, bitS] <;> rfl
theorem bin_cmp {op : BinOp} {t : TypeId} {k : IntKind} {a b : Int} {c : Bool}
    (h : (op = .lss ∧ c = decide (a < b)) ∨ (op = .leq ∧ c = decide (a ≤ b)) ∨ (op = .gtr ∧ c = decide (a > b)) ∨ (op = .geq ∧ c = decide (a ≥ b)) ∨ (op = .eql ∧ c = (a == b)) ∨ (op = .neq ∧ c = (a != b))) :
    pureVal P (Go.binOp op t (.int k a) (.int k b)) = some (.bool c) := by
  rcases h with ⟨rfl, rfl⟩ | ⟨rfl, rfl⟩ | ⟨rfl, rfl⟩ | ⟨rfl, rfl⟩ | ⟨rfl, rfl⟩ | ⟨rfl, rfl⟩ <;> simp [Go.binOp, Op.intCmp] <;> rfl
theorem bin_div {op : BinOp} {t : TypeId} {k : IntKind} {a b : Int} {n : Int} (hb : b ≠ 0) (h : (op = .quo ∧ n = k.wrap (a.tdiv b)) ∨ (op = .rem ∧ n = a.tmod b)) :
    pureVal P (Go.binOp op t (.int k a) (.int k b)) = some (.int k n) := by
  rcases h with ⟨rfl, rfl⟩ | ⟨rfl, rfl⟩ <;> simp [Go.binOp, Op.intDiv, hb] <;> rfl
theorem bin_shift {op : BinOp} {t : TypeId} {k k' : IntKind} {a : Int} {b : Nat} {n : Int} (h : (op = .shl ∧ n = k.wrap (a * 2 ^ (min b k.bits))) ∨ (op = .shr ∧ n = a.fdiv (2 ^ (min b k.bits)))) :
    pureVal P (Go.binOp op t (.int k a) (.int k' (.ofNat b))) = some (.int k n) := by
  have hb : ¬ ((b : Int) < 0) := by omega
  rcases h with ⟨rfl, rfl⟩ | ⟨rfl, rfl⟩ <;> simp [Go.binOp, Op.shift, hb] <;> rfl
end
end Go.Ags
