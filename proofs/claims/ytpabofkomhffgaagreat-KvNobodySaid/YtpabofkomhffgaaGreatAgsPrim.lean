/- Single steps that a function's code is made of, each followed by what comes behind it. -/
import Derived.Test.YtpabofkomhffgaaGreatAgsDefs
set_option linter.unusedVariables false
namespace Go.Ags

abbrev M := Option (Value × AH)

/-! ### Numbers -/
def lim : IntKind → Nat
  | .i8 => 128 | .i16 => 32768 | .i32 => 2147483648 | .i64 => 9223372036854775808
  | .u8 => 256 | .u16 => 65536 | .u32 => 4294967296 | .u64 => 18446744073709551616
def sgn : IntKind → Bool
  | .i8 | .i16 | .i32 | .i64 => true
  | _ => false
def kNo : IntKind → Nat
  | .i8 => 0 | .i16 => 1 | .i32 => 2 | .i64 => 3 | .u8 => 4 | .u16 => 5 | .u32 => 6 | .u64 => 7
def kEq (j k : IntKind) : Bool := Nat.beq (kNo j) (kNo k)

/-- A number as its kind keeps it: quick where nothing is to be done. -/
def fw (k : IntKind) (a : Int) : Int :=
  match a with
  | .ofNat n => bif Nat.blt n (lim k) then .ofNat n else bif sgn k then k.wrap (.ofNat n) else .ofNat (Nat.mod n (lim k))
  | .negSucc n => bif sgn k then (bif Nat.blt n (lim k) then .negSucc n else k.wrap (.negSucc n)) else k.wrap (.negSucc n)

def ilt (a b : Int) : Bool :=
  match a, b with
  | .ofNat m, .ofNat n => Nat.blt m n
  | .negSucc _, .ofNat _ => true
  | .ofNat _, .negSucc _ => false
  | .negSucc m, .negSucc n => Nat.blt n m
def ieq (a b : Int) : Bool :=
  match a, b with
  | .ofNat m, .ofNat n => Nat.beq m n
  | .negSucc m, .negSucc n => Nat.beq m n
  | _, _ => false

def bitS (f : (w : Nat) → BitVec w → BitVec w → BitVec w) (k : IntKind) (a b : Int) : Int := k.wrap (f k.bits (BitVec.ofInt k.bits a) (BitVec.ofInt k.bits b)).toNat
def bitF (f : (w : Nat) → BitVec w → BitVec w → BitVec w) (g : Nat → Nat → Nat) (k : IntKind) (a b : Int) : Int :=
  match a, b with
  | .ofNat m, .ofNat n => bif Nat.blt m (lim k) && Nat.blt n (lim k) then .ofNat (g m n) else bitS f k a b
  | _, _ => bitS f k a b

def shlF (k : IntKind) (a : Int) (n : Nat) : Int :=
  match a with
  | .ofNat m => fw k (.ofNat (Nat.mul m (Nat.pow 2 n)))
  | .negSucc m => k.wrap (.negSucc m * 2 ^ n)
def shrF (a : Int) (n : Nat) : Int :=
  match a with
  | .ofNat m => .ofNat (Nat.div m (Nat.pow 2 n))
  | .negSucc m => (Int.negSucc m).fdiv (2 ^ n)

def pI2 (f : IntKind → Int → Int → Value) (x y : Value) (c : Value → M) : M :=
  match x, y with
  | .int j a, .int j' b => bif kEq j j' then c (f j a b) else none
  | _, _ => none

def pAdd (x y : Value) (c : Value → M) : M := pI2 (fun k a b => .int k (fw k (Int.add a b))) x y c
def pSub (x y : Value) (c : Value → M) : M := pI2 (fun k a b => .int k (fw k (Int.sub a b))) x y c
def pMul (x y : Value) (c : Value → M) : M := pI2 (fun k a b => .int k (fw k (Int.mul a b))) x y c
def pAnd (x y : Value) (c : Value → M) : M := pI2 (fun k a b => .int k (bitF (fun _ a b => a &&& b) Nat.land k a b)) x y c
def pOr (x y : Value) (c : Value → M) : M := pI2 (fun k a b => .int k (bitF (fun _ a b => a ||| b) Nat.lor k a b)) x y c
def pXor (x y : Value) (c : Value → M) : M := pI2 (fun k a b => .int k (bitF (fun _ a b => a ^^^ b) Nat.xor k a b)) x y c
def pAnn (x y : Value) (c : Value → M) : M := pI2 (fun k a b => .int k (bitS (fun _ a b => a &&& ~~~b) k a b)) x y c
def pLt (x y : Value) (c : Value → M) : M := pI2 (fun _ a b => .bool (ilt a b)) x y c
def pLe (x y : Value) (c : Value → M) : M := pI2 (fun _ a b => .bool (!ilt b a)) x y c
def pGt (x y : Value) (c : Value → M) : M := pI2 (fun _ a b => .bool (ilt b a)) x y c
def pGe (x y : Value) (c : Value → M) : M := pI2 (fun _ a b => .bool (!ilt a b)) x y c
def pEq (x y : Value) (c : Value → M) : M := pI2 (fun _ a b => .bool (ieq a b)) x y c
def pNe (x y : Value) (c : Value → M) : M := pI2 (fun _ a b => .bool (!ieq a b)) x y c
def pQuo (x y : Value) (c : Value → M) : M :=
  match x, y with
  | .int j a, .int j' b => bif kEq j j' && !ieq b (.ofNat 0) then c (.int j (fw j (Int.tdiv a b))) else none
  | _, _ => none
def pRem (x y : Value) (c : Value → M) : M :=
  match x, y with
  | .int j a, .int j' b => bif kEq j j' && !ieq b (.ofNat 0) then c (.int j (Int.tmod a b)) else none
  | _, _ => none
def pShl (x y : Value) (c : Value → M) : M :=
  match x, y with
  | .int j a, .int _ (.ofNat n) => c (.int j (shlF j a (Nat.min n j.bits)))
  | _, _ => none
def pShr (x y : Value) (c : Value → M) : M :=
  match x, y with
  | .int j a, .int _ (.ofNat n) => c (.int j (shrF a (Nat.min n j.bits)))
  | _, _ => none
def pNot (x : Value) (c : Value → M) : M :=
  match x with
  | .bool b => c (.bool (!b))
  | _ => none
def pNeg (x : Value) (c : Value → M) : M :=
  match x with
  | .int k a => c (.int k (fw k (Int.neg a)))
  | _ => none
def pCv (k : IntKind) (x : Value) (c : Value → M) : M :=
  match x with
  | .int _ a => c (.int k (fw k a))
  | _ => none
def pMin (x y : Value) (c : Value → M) : M := pI2 (fun k a b => .int k (bif ilt b a then b else a)) x y c
def pMax (x y : Value) (c : Value → M) : M := pI2 (fun k a b => .int k (bif ilt a b then b else a)) x y c

/-! ### Ways -/
def pIf (c : Value) (a b : M) : M :=
  match c with
  | .bool t => bif t then a else b
  | _ => none
/-- A guard: done only if the value is this one. -/
def pG (c : Value) (want : Bool) (a b : M) : M :=
  match c with
  | .bool t => bif (bif t then want else !want) then a else b
  | _ => b
def pPick (x a b : Value) (c : Value → M) : M :=
  match x with
  | .bool t => c (bif t then a else b)
  | _ => none

/-! ### Lists -/
noncomputable def lget (l : List Value) : Nat → Option Value :=
  List.rec (motive := fun _ => Nat → Option Value) (fun _ => none) (fun v _ ih k => Nat.rec (motive := fun _ => Option Value) (some v) (fun m _ => ih m) k) l
noncomputable def lset (x : Value) (l : List Value) : Nat → List Value :=
  List.rec (motive := fun _ => Nat → List Value) (fun _ => []) (fun v l ih k => Nat.rec (motive := fun _ => List Value) (x :: l) (fun m _ => v :: ih m) k) l
noncomputable def ldrop : Nat → List Value → List Value :=
  fun n => Nat.rec (motive := fun _ => List Value → List Value) (fun l => l) (fun _ ih l => List.rec (motive := fun _ => List Value) [] (fun _ t _ => ih t) l) n
/-- Just so many; none: there are fewer. -/
noncomputable def lcut : Nat → List Value → Option (List Value) :=
  fun n => Nat.rec (motive := fun _ => List Value → Option (List Value)) (fun _ => some []) (fun _ ih l => List.rec (motive := fun _ => Option (List Value)) none (fun v t _ => Option.rec (motive := fun _ => Option (List Value)) none (fun r => some (v :: r)) (ih t)) l) n

/-! ### The heap -/
noncomputable def tget (t : T) : Nat → Option Obj :=
  T.rec (motive := fun _ => Nat → Option Obj) (fun _ => none)
    (fun v _ _ l r k => Bool.rec (Bool.rec (r (Nat.sub (Nat.div k 2) 1)) (l (Nat.div k 2)) (Nat.beq (Nat.mod k 2) 1)) v (Nat.beq k 0)) t
noncomputable def tset (v : Option Obj) (f : Nat) : T → Nat → T :=
  Nat.rec (motive := fun _ => T → Nat → T) (fun t _ => t)
    (fun _ ih t k => T.rec (motive := fun _ => T)
      (Bool.rec (Bool.rec (.node none .leaf (ih .leaf (Nat.sub (Nat.div k 2) 1))) (.node none (ih .leaf (Nat.div k 2)) .leaf) (Nat.beq (Nat.mod k 2) 1)) (.node v .leaf .leaf) (Nat.beq k 0))
      (fun u l r _ _ => Bool.rec (Bool.rec (.node u l (ih r (Nat.sub (Nat.div k 2) 1))) (.node u (ih l (Nat.div k 2)) r) (Nat.beq (Nat.mod k 2) 1)) (.node v l r) (Nat.beq k 0)) t) f
noncomputable def hget (h : AH) (b : Nat) : Option Obj := tget h.t b
noncomputable def hput (h : AH) (b : Nat) (o : Option Obj) : AH := ⟨tset o (Nat.succ b) h.t b, h.next, h.ro, b :: h.log⟩
noncomputable def hnew (h : AH) (o : Obj) : AH := ⟨tset (some o) (Nat.succ h.next) h.t h.next, Nat.succ h.next, h.ro, h.next :: h.log⟩

noncomputable def pNew (t : TypeId) (cs : List Value) (h : AH) (c : Value → AH → M) : M := c (.pointer (some ⟨h.next, 0, none⟩)) (hnew h (.cells ⟨cs⟩ t))
noncomputable def pBox (t : TypeId) (x : Value) (h : AH) (c : Value → AH → M) : M := c (.pointer (some ⟨h.next, 0, none⟩)) (hnew h (.cells x.cells t))
noncomputable def pMkMap (h : AH) (c : Value → AH → M) : M := c (.map (some h.next)) (hnew h (.map #[] 0))

noncomputable def pLd (x : Value) (h : AH) (c : Value → M) : M :=
  match x with
  | .pointer (some ⟨b, o, none⟩) => match hget h b with
    | some (.cells ⟨cs⟩ _ _) => match lget cs o with
      | some v => c v
      | none => none
    | _ => none
  | _ => none
noncomputable def pLdN (n : Nat) (x : Value) (h : AH) (c : Value → M) : M :=
  match x with
  | .pointer (some ⟨b, o, none⟩) => match hget h b with
    | some (.cells ⟨cs⟩ _ _) => match lcut n (ldrop o cs) with
      | some l => c (.agg ⟨l⟩)
      | none => none
    | _ => none
  | _ => none
/-- A cell is stored. -/
noncomputable def pSt (a x : Value) (h : AH) (c : AH → M) : M :=
  match a with
  | .pointer (some ⟨b, o, none⟩) => match hget h b with
    | some (.cells ⟨cs⟩ e (0, 0)) => bif plainCell x && Nat.ble h.ro b && Nat.blt o cs.length then c (hput h b (some (.cells ⟨lset x cs o⟩ e (0, 0)))) else none
    | _ => none
  | _ => none
def pStN (n : Nat) (a x : Value) (h : AH) (c : AH → M) : M :=
  match a with
  | .pointer (some ⟨b, o, none⟩) => bif Nat.beq x.cells.size n then (match aWrite h b o x.cells.toList with | some h' => c h' | none => none) else none
  | _ => none

def pNil (x : Value) (c : Value → M) : M :=
  match x with
  | .pointer (some a) => c (.pointer (some a))
  | .iface t v => c (.iface t v)
  | .func (.func f) first captured => c (.func (.func f) first captured)
  | .func (.yield f) first captured => c (.func (.yield f) first captured)
  | .map r => c (.map r)
  | .slice a n k => c (.slice a n k)
  | _ => none
def pFad (off : Nat) (x : Value) (c : Value → M) : M :=
  match x with
  | .pointer (some ⟨b, o, none⟩) => c (.pointer (some ⟨b, Nat.add o off, none⟩))
  | _ => none
noncomputable def pFl (off : Nat) (x : Value) (c : Value → M) : M :=
  match x with
  | .agg ⟨cs⟩ => match lget cs off with
    | some v => c v
    | none => none
  | _ => none
noncomputable def pFlN (off n : Nat) (x : Value) (c : Value → M) : M :=
  match x with
  | .agg ⟨cs⟩ => match lcut n (ldrop off cs) with
    | some l => c (.agg ⟨l⟩)
    | none => none
  | _ => none
def pIx (size : Nat) (x i : Value) (c : Value → M) : M :=
  match x, i with
  | .slice (some ⟨b, o, none⟩) n _, .int _ (.ofNat m) => bif Nat.blt m n then c (.pointer (some ⟨b, Nat.add o (Nat.mul m size), none⟩)) else none
  | _, _ => none
def pIxA (n size : Nat) (x i : Value) (c : Value → M) : M :=
  match x, i with
  | .pointer (some ⟨b, o, none⟩), .int _ (.ofNat m) => bif Nat.blt m n then c (.pointer (some ⟨b, Nat.add o (Nat.mul m size), none⟩)) else none
  | _, _ => none
def pLen (x : Value) (c : Value → M) : M :=
  match x with
  | .slice _ n _ => c (.int .i64 (.ofNat n))
  | _ => none
noncomputable def pExt (i : Nat) (x : Value) (c : Value → M) : M :=
  match x with
  | .tuple ⟨l⟩ => match lget l i with
    | some v => c v
    | none => none
  | _ => none

/-! ### What comes out of elsewhere -/
def pV (o : Option Value) (c : Value → M) : M :=
  match o with
  | some v => c v
  | none => none
def pR (o : M) (c : Value → AH → M) : M :=
  match o with
  | some (v, h) => c v h
  | none => none

/-- A slice of a slice whose elements have so many cells. -/
def sliceC (size : Nat) (x : Value) (lo hi mx : Option Value) : Option Value :=
  match x with
  | .slice base n c =>
    match aBound lo 0, aBound hi n with
    | some l, some h =>
      if h < l then none else
      match mx, hi with
      | some _, none => none
      | some m, some _ => match aBound (some m) 0 with
        | some m => if h ≤ m ∧ m < loose ∧ m ≤ (if c < loose then c else n) then some (.slice (if m = l then base else base.map (·.add (l * size))) (h - l) (m - l)) else none
        | none => none
      | none, _ =>
        if c < loose then
          if h ≤ c then some (.slice (if c = l then base else base.map (·.add (l * size))) (h - l) (c - l)) else none
        else
          if h ≤ n ∧ c = loose + size ∧ 0 < size then some (.slice (base.map (·.add (l * size))) (h - l) c) else none
    | _, _ => none
  | _ => none
def sliceD (size : Nat) (h : AH) (x : Value) (lo hi mx : Option Value) : Option Value :=
  match x, mx with
  | .slice (some ⟨b, o, none⟩) n c, none =>
    match aBound lo 0, aBound hi n with
    | some l, some m =>
      match h.get b with
      | some (.cells cs _ _) => if l ≤ m ∧ c = loose + size ∧ 0 < size ∧ o + m * size ≤ cs.size then some (.slice (some ⟨b, o + l * size, none⟩) (m - l) c) else none
      | _ => none
    | _, _ => none
  | _, _ => none
def pSl (size : Nat) (x : Value) (lo hi mx : Option Value) (h : AH) (c : Value → M) : M :=
  match sliceC size x lo hi mx with
  | some v => c v
  | none => pV (sliceD size h x lo hi mx) c

/-- Of two operations without an order. -/
def pChk (l : List Tr) (d : Tr) (c : M) : M := bif l.all (fun x => trOk x d) then c else none

def look : List (Nat × Value) → Nat → Value
  | [], _ => undef
  | (k, v) :: r, t => bif Nat.beq k t then v else look r t
def rho (l : List (Nat × Value)) : Operand → Value
  | .tmp t => look l t
  | .const v => v
  | .global _ => .pointer none
  | .func f => .func (.func f) #[] #[]
/-- Any other operation, as the evaluator does it. -/
def pGen (P : Program) (R : Rec) (op : Op) (ty : TypeId) (l : List (Nat × Value)) (h : AH) (c : Value → AH → M) : M :=
  match aOp P R (rho l) ⟨none, op, ty, "", #[], none⟩ h with
  | some (v, h') => c v h'
  | none => none

/-- What follows is done from several places. -/
def jn {β : Type} (rest : β) (body : β → M) : M := body rest

/-- A function of n values and a heap. -/
def Cur : Nat → Type
  | 0 => AH → M
  | n + 1 => Value → Cur n
def cur : (n : Nat) → (List Value → AH → M) → Cur n
  | 0, f => f []
  | n + 1, f => fun v => cur n fun l => f (v :: l)
abbrev app : (n : Nat) → Cur n → List Value → AH → M
  | 0, c, _ => c
  | n + 1, c, v :: l => app n (c v) l
  | n + 1, c, [] => app n (c undef) []
/-- A loop over n values. -/
noncomputable def lp (n : Nat) (f : Cur n → Cur n) (k : Nat) : Cur n := Nat.rec (motive := fun _ => Cur n) (cur n fun _ _ => none) (fun _ ih => f ih) k
end Go.Ags
