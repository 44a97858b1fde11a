/- A deterministic abstract evaluator of the model's code over an abstract heap: no order draws, no capacities, no streams. -/
import Derived.CallsIn
import Derived.RangeFuncIn
set_option linter.unusedVariables false
namespace Go.Ags

/-! ### The abstract heap -/
inductive T where
  | leaf
  | node (v : Option Obj) (l r : T)

def T.get : T → Nat → Option Obj
  | .leaf, _ => none
  | .node v l r, k => if k = 0 then v else if k % 2 = 1 then l.get (k / 2) else r.get (k / 2 - 1)

def T.setF : Nat → T → Nat → Option Obj → T
  | 0, t, _, _ => t
  | f + 1, .leaf, k, v =>
    if k = 0 then .node v .leaf .leaf
    else if k % 2 = 1 then .node none (T.setF f .leaf (k / 2) v) .leaf
    else .node none .leaf (T.setF f .leaf (k / 2 - 1) v)
  | f + 1, .node u l r, k, v =>
    if k = 0 then .node v l r
    else if k % 2 = 1 then .node u (T.setF f l (k / 2) v) r
    else .node u l (T.setF f r (k / 2 - 1) v)

def T.set (t : T) (k : Nat) (v : Option Obj) : T := T.setF (k + 1) t k v

theorem T.get_setF_same (v : Option Obj) : ∀ (f : Nat) (t : T) (k : Nat), k < f → (T.setF f t k v).get k = v
  | 0, _, _, h => absurd h (by omega)
  | f + 1, .leaf, k, h => by
    unfold T.setF
    by_cases h0 : k = 0
    · simp [h0, T.get]
    · by_cases h1 : k % 2 = 1
      · simp only [h0, h1, if_true, if_false, T.get]; exact T.get_setF_same v f _ _ (by omega)
      · simp only [h0, h1, if_false, T.get]; exact T.get_setF_same v f _ _ (by omega)
  | f + 1, .node u l r, k, h => by
    unfold T.setF
    by_cases h0 : k = 0
    · simp [h0, T.get]
    · by_cases h1 : k % 2 = 1
      · simp only [h0, h1, if_true, if_false, T.get]; exact T.get_setF_same v f _ _ (by omega)
      · simp only [h0, h1, if_false, T.get]; exact T.get_setF_same v f _ _ (by omega)

theorem T.get_setF_ne (v : Option Obj) : ∀ (f : Nat) (t : T) (k j : Nat), k ≠ j → (T.setF f t k v).get j = t.get j
  | 0, _, _, _, _ => rfl
  | f + 1, .leaf, k, j, h => by
    unfold T.setF
    by_cases h0 : k = 0
    · subst h0
      have hj : ¬ j = 0 := fun e => h e.symm
      by_cases j1 : j % 2 = 1 <;> simp [hj, j1, T.get]
    · by_cases h1 : k % 2 = 1
      · by_cases hj : j = 0
        · simp [h0, h1, hj, T.get]
        · by_cases j1 : j % 2 = 1
          · simp only [h0, h1, hj, j1, if_true, if_false, T.get]
            rw [T.get_setF_ne v f .leaf (k / 2) (j / 2) (by omega)]; rfl
          · simp [h0, h1, hj, j1, T.get]
      · by_cases hj : j = 0
        · simp [h0, h1, hj, T.get]
        · by_cases j1 : j % 2 = 1
          · simp [h0, h1, hj, j1, T.get]
          · simp only [h0, h1, hj, j1, if_false, T.get]
            rw [T.get_setF_ne v f .leaf (k / 2 - 1) (j / 2 - 1) (by omega)]; rfl
  | f + 1, .node u l r, k, j, h => by
    unfold T.setF
    by_cases h0 : k = 0
    · subst h0
      have hj : ¬ j = 0 := fun e => h e.symm
      by_cases j1 : j % 2 = 1 <;> simp [hj, j1, T.get]
    · by_cases h1 : k % 2 = 1
      · by_cases hj : j = 0
        · simp [h0, h1, hj, T.get]
        · by_cases j1 : j % 2 = 1
          · simp only [h0, h1, hj, j1, if_true, if_false, T.get]
            exact T.get_setF_ne v f l (k / 2) (j / 2) (by omega)
          · simp [h0, h1, hj, j1, T.get]
      · by_cases hj : j = 0
        · simp [h0, h1, hj, T.get]
        · by_cases j1 : j % 2 = 1
          · simp [h0, h1, hj, j1, T.get]
          · simp only [h0, h1, hj, j1, if_false, T.get]
            exact T.get_setF_ne v f r (k / 2 - 1) (j / 2 - 1) (by omega)

theorem T.get_set (t : T) (k j : Nat) (v : Option Obj) : (t.set k v).get j = if j = k then v else t.get j := by
  by_cases h : j = k
  · subst h; simp only [if_true]; exact T.get_setF_same v _ _ _ (by omega)
  · simp only [h, if_false]; exact T.get_setF_ne v _ _ _ _ (fun e => h e.symm)

/-- Blocks below 'ro' are only read. 'log': what has been written or made. -/
structure AH where
  t : T
  next : Nat
  ro : Nat
  log : List Nat

def AH.get (h : AH) (b : Nat) : Option Obj := h.t.get b
def AH.put (h : AH) (b : Nat) (o : Option Obj) : AH := { h with t := h.t.set b o, log := b :: h.log }
def AH.new (h : AH) (o : Obj) : AH := { h with t := h.t.set h.next (some o), next := h.next + 1, log := h.next :: h.log }

@[simp] theorem AH.get_put (h : AH) (b c : Nat) (o : Option Obj) : (h.put b o).get c = if c = b then o else h.get c := T.get_set _ _ _ _
@[simp] theorem AH.get_new (h : AH) (c : Nat) (o : Obj) : (h.new o).get c = if c = h.next then some o else h.get c := T.get_set _ _ _ _
@[simp] theorem AH.next_put (h : AH) (b : Nat) (o : Option Obj) : (h.put b o).next = h.next := rfl
@[simp] theorem AH.next_new (h : AH) (o : Obj) : (h.new o).next = h.next + 1 := rfl
@[simp] theorem AH.ro_put (h : AH) (b : Nat) (o : Option Obj) : (h.put b o).ro = h.ro := rfl
@[simp] theorem AH.ro_new (h : AH) (o : Obj) : (h.new o).ro = h.ro := rfl
@[simp] theorem AH.log_put (h : AH) (b : Nat) (o : Option Obj) : (h.put b o).log = b :: h.log := rfl
@[simp] theorem AH.log_new (h : AH) (o : Obj) : (h.new o).log = h.next :: h.log := rfl

/-- From this number on a capacity is not known; what is above it is the size of an element. -/
def loose : Nat := 4611686018427387904

/-! ### Values without addresses -/
mutual
def af : Value → Bool
  | .bool _ | .int _ _ | .float _ _ | .complex _ _ _ | .string _ | .nilFunc | .nilIface => true
  | .pointer a => a.isNone
  | .slice a n c => a.isNone && n == 0 && c == 0
  | .map r => r.isNone
  | .chan r => r.isNone
  | .func fn first captured => (match fn with | .func _ => true | _ => false) && afA first && afA captured
  | .iface _ v => af v
  | .agg cs => afA cs
  | .tuple vs => afA vs
def afA : Array Value → Bool
  | ⟨l⟩ => afL l
def afL : List Value → Bool
  | [] => true
  | v :: r => af v && afL r
end

/-- A value out of a computation that reads no memory and draws nothing. -/
def pureVal (P : Program) {α : Type} : Sem α → Option α
  | .pure a => some a
  | .program k => pureVal P (k P)
  | _ => none

theorem pureVal_run {P : Program} {α : Type} : ∀ (s : Sem α) (v : α), pureVal P s = some v → ∀ w, s.run P w = .ok v w
  | .pure a, v, h, w => by simp [pureVal] at h; subst h; rfl
  | .program k, v, h, w => by
    simp only [pureVal] at h
    show (k P).run P w = _
    exact pureVal_run (k P) v h w
  | .load .., _, h, _ | .store .., _, h, _ | .new .., _, h, _ | .shape .., _, h, _ | .freeze .., _, h, _ | .frozen .., _, h, _ | .getObj .., _, h, _
  | .setObj .., _, h, _ | .choose .., _, h, _ | .sys .., _, h, _ | .mark .., _, h, _ | .halt .., _, h, _ => by simp [pureVal] at h

/-! ### Types -/
section
variable (P : Program)
def tsize (t : TypeId) : Option Nat := (P.info? t).map (·.size)
def tbytes (t : TypeId) : Option Nat := (P.info? t).map (·.bytes)
def isAggT (t : TypeId) : Option Bool := (P.underlying t).map fun | .struct _ | .array .. => true | _ => false
def tzero (t : TypeId) : Option Value := (P.info? t).bind fun i => i.zero.bind fun z => if af z then some z else none

/-! ### Memory -/
def aPart (t : TypeId) (cs : Array Value) (o : Nat) : Option Value :=
  match isAggT P t, tsize P t with
  | some true, some n => if o + n ≤ cs.size then some (.agg (cs.extract o (o + n))) else none
  | some false, some _ => cs[o]?
  | _, _ => none

def aLoad (h : AH) (t : TypeId) : Value → Option Value
  | .pointer (some ⟨b, o, none⟩) =>
    match h.get b with
    | some (.cells cs _ _) => aPart P t cs o
    | _ => none
  | _ => none

def plainCell : Value → Bool
  | .agg _ | .tuple _ => false
  | _ => true

def writeL : Array Value → Nat → List Value → Array Value
  | cs, _, [] => cs
  | cs, o, y :: r => writeL (cs.setIfInBounds o y) (o + 1) r

/-- Cells stored into a block that may be written. -/
def aWrite (h : AH) (b o : Nat) (ys : List Value) : Option AH :=
  match h.get b with
  | some (.cells cs e (0, 0)) => if h.ro ≤ b ∧ o + ys.length ≤ cs.size ∧ ys.all plainCell then some (h.put b (some (.cells (writeL cs o ys) e (0, 0)))) else none
  | _ => none

def aStore (h : AH) (t : TypeId) (a x : Value) : Option AH :=
  match a, tsize P t with
  | .pointer (some ⟨b, o, none⟩), some n => if x.cells.size = n then aWrite h b o x.cells.toList else none
  | _, _ => none

def aRow (h : AH) (t : TypeId) (cells : Array Value) : Value × AH := (.pointer (some ⟨h.next, 0, none⟩), h.new (.cells cells t))

/-- The first n elements of a slice, or the bytes of a string, as cells. -/
def aCells (h : AH) (size n : Nat) : Value → Option (Array Value)
  | .slice (some ⟨b, o, none⟩) m _ =>
    if n * size = 0 then some #[] else
    match h.get b with
    | some (.cells cs _ _) => if n ≤ m ∧ o + n * size ≤ cs.size then some (cs.extract o (o + n * size)) else none
    | _ => none
  | .slice none _ _ => some #[]
  | .string s => some ((s.extract 0 n).data.map fun b => .int .u8 b.toNat)
  | _ => none

def aLen : Value → Option Nat
  | .slice _ n _ => some n
  | .string s => some s.size
  | _ => none

def aAppend (h : AH) (argTypes : Array TypeId) (args : Array Value) : Option (Value × AH) :=
  match (argTypes[0]? : Option TypeId), (args[0]? : Option Value), (args[1]? : Option Value) with
  | some sType, some (.slice base sLen sCap), some x =>
    match P.underlying sType, (argTypes[1]?).map P.underlying with
    | some (.slice elem), some (some xt) =>
      match xt, tsize P elem, tbytes P elem, tzero P elem, aLen x with
      | .int _, _, _, _, _ => none
      | _, some size, some bytes, some z, some n =>
        if size = 0 ∨ bytes = 0 ∨ z.cells.size ≠ size then none else
        match aCells h size n x with
        | none => none
        | some new =>
          if !(new.toList.all plainCell && new.size == n * size) then none else
          match base with
          | none =>
            if (sLen + n) = 0 then some (.slice none 0 0, h) else
            if sLen ≠ 0 ∨ sCap ≠ 0 ∨ (sLen + n) * bytes > 281474976710656 then none else
            some (.slice (some ⟨h.next, 0, none⟩) (sLen + n) (loose + size), h.new (.cells new elem))
          | some ⟨b, o, none⟩ =>
            if sCap < loose then
              if (sLen + n) ≤ sCap then
                if n = 0 then some (.slice (some ⟨b, o, none⟩) (sLen + n) sCap, h) else
                match aWrite h b (o + sLen * size) new.toList with
                | some h' => some (.slice (some ⟨b, o, none⟩) (sLen + n) sCap, h')
                | none => none
              else
                if Builtin.nextslicecap (sLen + n) sCap * bytes > 281474976710656 ∨ sLen + n > 1152921504606846976 then none else
                match aCells h size sLen (.slice (some ⟨b, o, none⟩) sLen sCap) with
                | some old => some (.slice (some ⟨h.next, 0, none⟩) (sLen + n) (loose + size), h.new (.cells (old ++ new) elem))
                | none => none
            else
              if sCap ≠ loose + size ∨ 4 * (sLen + n) * bytes > 281474976710656 then none else
              if n = 0 then some (.slice (some ⟨b, o, none⟩) (sLen + n) sCap, h) else
              match h.get b with
              | some (.cells cs e (0, 0)) =>
                if h.ro ≤ b ∧ o + sLen * size ≤ cs.size then
                  if o + (sLen + n) * size ≤ cs.size then some (.slice (some ⟨b, o, none⟩) (sLen + n) sCap, h.put b (some (.cells (writeL cs (o + sLen * size) new.toList) e (0, 0))))
                  else some (.slice (some ⟨h.next, 0, none⟩) (sLen + n) (loose + size), (h.put b none).new (.cells (cs.extract o (o + sLen * size) ++ new) elem))
                else none
              | _ => none
          | _ => none
      | _, _, _, _, _ => none
    | _, _ => none
  | _, _, _ => none

/-- 'append(nil, make([]T, n)...)'. -/
def aAppendZ (h : AH) (argTypes : Array TypeId) (args : Array Value) : Option (Value × AH) :=
  match (argTypes[0]? : Option TypeId), (args[0]? : Option Value), (args[1]? : Option Value) with
  | some sType, some (.slice none 0 0), some (.int _ l) =>
    match P.underlying sType, (argTypes[1]?).map P.underlying with
    | some (.slice elem), some (some (.int _)) =>
      match tsize P elem, tbytes P elem, tzero P elem with
      | some size, some bytes, some z =>
        if 0 ≤ l ∧ IntKind.i64.wrap l = l ∧ l * bytes ≤ 281474976710656 ∧ 0 < size ∧ 0 < bytes ∧ z.cells.size = size then
          if l = 0 then some (.slice none 0 0, h)
          else some (.slice (some ⟨h.next, 0, none⟩) l.toNat (loose + size), h.new (.cells (Builtin.zeroCells z.cells l.toNat) elem))
        else none
      | _, _, _ => none
    | _, _ => none
  | _, _, _ => none

def aCap (argTypes : Array TypeId) (args : Array Value) : Option Value :=
  match (argTypes[0]? : Option TypeId), (args[0]? : Option Value) with
  | some t, some (.slice _ _ c) => match P.underlying t with
    | some (.slice _) => if c < loose then some (goInt c) else none
    | _ => none
  | _, _ => none

def aCopy (h : AH) (argTypes : Array TypeId) (args : Array Value) : Option (Value × AH) :=
  match (argTypes[0]? : Option TypeId), (args[0]? : Option Value), (args[1]? : Option Value) with
  | some dType, some (.slice base dLen _), some src =>
    match P.underlying dType with
    | some (.slice elem) =>
      match aLen src, tsize P elem with
      | some m, some size =>
        match aCells h size (Nat.min m dLen) src, base with
        | some cells, some ⟨b, o, none⟩ =>
          if cells.size = 0 then some (goInt (Nat.min m dLen : Nat), h) else
          match aWrite h b o cells.toList with
          | some h' => some (goInt (Nat.min m dLen : Nat), h')
          | none => none
        | some cells, none => some (goInt (Nat.min m dLen : Nat), h)
        | _, _ => none
      | _, _ => none
    | _ => none
  | _, _, _ => none

/-- Where a key stands; the entries' values play no part. -/
def aFind (kt : TypeId) (k : Value) (es : Array MapEntry) : Option (Option Nat) :=
  if af k && es.all (fun e => af e.key) then
    match pureVal P (Instr.checkKey es.isEmpty 10000 kt k), pureVal P (Instr.checkKey false 10000 kt k), pureVal P (Instr.findKey kt k (es.toList.map fun e => { e with val := .nilFunc })) with
    | some _, some _, some r => some (r.map (·.1))
    | _, _, _ => none
  else none

def aMap (h : AH) : Value → Option (Array MapEntry)
  | .map none => some #[]
  | .map (some r) => match h.get r with
    | some (.map es _) => some es
    | _ => none
  | _ => none

def aLookup (h : AH) (t : TypeId) (m k : Value) (ok : Bool) : Option Value :=
  match P.underlying t, aMap h m with
  | some (.map kt elem), some es =>
    match aFind P kt k es with
    | some (some i) => (es[i]?).map fun e => if ok then .tuple #[e.val, .bool true] else e.val
    | some none => (tzero P elem).map fun z => if ok then .tuple #[z, .bool false] else z
    | none => none
  | _, _ => none

def aMapUpdate (h : AH) (t : TypeId) (m k x : Value) : Option AH :=
  match P.underlying t, m with
  | some (.map kt _), .map (some r) =>
    match h.get r with
    | some (.map es clock) =>
      if h.ro ≤ r then
        match aFind P kt k es with
        | some (some i) => match es[i]? with
          | some e => if Instr.sameBits 10000 e.key k then some (h.put r (some (.map (es.modify i fun e => { e with key := k, val := x }) clock))) else none
          | none => none
        | some none => some (h.put r (some (.map (es.push { key := k, val := x, born := clock }) (clock + 1))))
        | none => none
      else none
    | _ => none
  | _, _ => none

def aDelete (h : AH) (argTypes : Array TypeId) (args : Array Value) : Option (Value × AH) :=
  match (argTypes[0]? : Option TypeId), (args[0]? : Option Value), (args[1]? : Option Value) with
  | some t, some (.map (some r)), some k =>
    match P.underlying t, h.get r with
    | some (.map kt _), some (.map es clock) =>
      if h.ro ≤ r then
        match aFind P kt k es with
        | some (some i) => some (.tuple #[], h.put r (some (.map (es.eraseIdxIfInBounds i) clock)))
        | some none => some (.tuple #[], h)
        | none => none
      else none
    | _, _ => none
  | _, _, _ => none

def aClear (h : AH) (argTypes : Array TypeId) (args : Array Value) : Option (Value × AH) :=
  match (argTypes[0]? : Option TypeId), (args[0]? : Option Value) with
  | some t, some (.slice base n _) =>
    match P.underlying t with
    | some (.slice elem) =>
      match tzero P elem, tsize P elem with
      | some z, some size =>
        if z.cells.size ≠ size then none else
        if n = 0 then some (.tuple #[], h) else
        match base with
        | some ⟨b, o, none⟩ => match aWrite h b o (Builtin.zeroCells z.cells n).toList with
          | some h' => some (.tuple #[], h')
          | none => none
        | _ => none
      | _, _ => none
    | _ => none
  | some t, some (.map (some r)) =>
    match h.get r, P.underlying t with
    | some (.map _ clock), some (.map _ _) => if h.ro ≤ r then some (.tuple #[], h.put r (some (.map #[] clock))) else none
    | _, _ => none
  | some t, some (.map none) => if (P.underlying t).isSome then some (.tuple #[], h) else none
  | _, _ => none

def aLenOf (h : AH) (argTypes : Array TypeId) (args : Array Value) : Option Value :=
  match (argTypes[0]? : Option TypeId), (args[0]? : Option Value) with
  | some t, some x => match P.underlying t, x with
    | some .string, .string s => some (goInt s.size)
    | some (.slice _), .slice _ n _ => some (goInt n)
    | some (.array n _), _ => some (goInt n)
    | some (.map _ _), .map none => some (goInt 0)
    | some (.map _ _), .map (some r) => match h.get r with
      | some (.map es _) => some (goInt es.size)
      | _ => none
    | _, _ => none
  | _, _ => none

def aEq (t : TypeId) (x y : Value) : Option Bool :=
  match P.underlying t, x, y with
  | some (.pointer _), .pointer none, .pointer b => some b.isNone
  | some (.pointer _), .pointer (some _), .pointer none => some false
  | some (.pointer e), .pointer (some ⟨b, o, none⟩), .pointer (some ⟨b', o', none⟩) =>
    match tsize P e with
    | some n => if n ≠ 0 ∧ b = b' then some (o == o') else none
    | none => none
  | some (.interface _), .nilIface, .iface _ _ | some (.interface _), .iface _ _, .nilIface => some false
  | some (.slice _), .slice none _ _, .slice b _ _ => some b.isNone
  | some (.slice _), .slice (some _) _ _, .slice none _ _ => some false
  | some (.map _ _), .map none, .map b => some b.isNone
  | some (.map _ _), .map (some _), .map none => some false
  | some (.func ..), .nilFunc, .func .. | some (.func ..), .func .., .nilFunc => some false
  | _, _, _ => none

def aPlaces (fields : Array Field) : Option (Array (Nat × Nat)) := fields.mapM fun f => (tsize P f.type).map fun n => (f.offset, n)

def aBuild (t : TypeId) (parts : Array (Nat × Value)) : Option Value :=
  match P.underlying t, tzero P t with
  | some (.struct fields), some z => match aPlaces P fields with
    | some places => (Instr.fill (places[·]?) z.cells parts.toList).map .agg
    | none => none
  | some (.array _ elem), some z => match tsize P elem with
    | some size => (Instr.fill (fun i => some (i * size, size)) z.cells parts.toList).map .agg
    | none => none
  | _, _ => none

def aBuildSlice (h : AH) (t : TypeId) (len : Nat) (parts : Array (Nat × Value)) : Option (Value × AH) :=
  match P.underlying t with
  | some (.slice elem) => match tsize P elem, tzero P elem with
    | some size, some z =>
      if len * size > 16777216 ∨ size = 0 ∨ z.cells.size ≠ size then none else
      match Instr.fill (fun i => some (i * size, size)) ((Array.range (len * size)).map (z.cells[· % z.cells.size]!)) parts.toList with
      | some cells => some (.slice (some ⟨h.next, 0, none⟩) len len, h.new (.cells cells elem))
      | none => none
    | _, _ => none
  | _ => none

def aMakeSlice (h : AH) (t : TypeId) (len cap : Value) : Option (Value × AH) :=
  match P.underlying t, len, cap with
  | some (.slice elem), .int _ l, .int _ c => match tsize P elem, tbytes P elem, tzero P elem with
    | some size, some bytes, some z =>
      if 0 ≤ l ∧ l ≤ c ∧ (bytes : Int) * c ≤ 281474976710656 ∧ 0 < bytes ∧ z.cells.size = size then
        some (.slice (some ⟨h.next, 0, none⟩) l.toNat c.toNat, h.new (.cells ((Array.range (c.toNat * size)).map (z.cells[· % z.cells.size]!)) elem))
      else none
    | _, _, _ => none
  | _, _, _ => none

def aBound (x : Option Value) (d : Nat) : Option Nat :=
  match x with
  | none => some d
  | some (.int _ i) => if 0 ≤ i then some i.toNat else none
  | _ => none

def aAdd (a : Addr) (n : Nat) : Addr := a.add n

def aSlice (t : TypeId) (x : Value) (lo hi mx : Option Value) : Option Value :=
  match P.underlying t, x with
  | some (.slice elem), .slice base n c =>
    match tsize P elem with
    | none => none
    | some size =>
      match aBound lo 0, aBound hi n with
      | some l, some h =>
        if h < l then none else
        match mx, hi with
        | some _, none => none
        | some m, some _ => match aBound (some m) 0 with
          | some m => if h ≤ m ∧ m < loose ∧ m ≤ (if c < loose then c else n) then some (.slice (if m = l then base else base.map (·.add (l * size))) (h - l) (m - l)) else none
          | none => none
        | none, _ =>
          if c < loose then
            if h ≤ c then some (.slice (if c = l then base else base.map (·.add (l * size))) (h - l) (c - l)) else none
          else
            if h ≤ n ∧ c = loose + size ∧ 0 < size then some (.slice (base.map (·.add (l * size))) (h - l) c) else none
      | _, _ => none
  | some (.array n elem), .pointer (some a) =>
    match tsize P elem, aBound lo 0, aBound hi n, aBound mx n with
    | some size, some l, some h, some m => if l ≤ h ∧ h ≤ m ∧ m ≤ n ∧ n < loose ∧ (mx.isSome → hi.isSome) then some (.slice (some (if m = l then a else a.add (l * size))) (h - l) (m - l)) else none
    | _, _, _, _ => none
  | _, _ => none

/-- A slice up to beyond its length, as far as its block is known to reach. -/
def aSliceB (h : AH) (t : TypeId) (x : Value) (lo hi mx : Option Value) : Option Value :=
  match P.underlying t, x, mx with
  | some (.slice elem), .slice (some ⟨b, o, none⟩) n c, none =>
    match tsize P elem, aBound lo 0, aBound hi n with
    | some size, some l, some m =>
      match h.get b with
      | some (.cells cs _ _) => if l ≤ m ∧ c = loose + size ∧ 0 < size ∧ o + m * size ≤ cs.size then some (.slice (some ⟨b, o + l * size, none⟩) (m - l) c) else none
      | _ => none
    | _, _, _ => none
  | _, _, _ => none

def aFieldAddr (t : TypeId) (x : Value) (f : Nat) : Option Value :=
  match P.underlying t, x with
  | some (.struct fields), .pointer (some a) => match fields[f]? with
    | some fl => match tsize P fl.type with
      | some n => if n = 0 then none else some (.pointer (some (a.add fl.offset)))
      | none => none
    | none => none
  | _, _ => none

def aField (t : TypeId) (x : Value) (f : Nat) : Option Value :=
  match P.underlying t, x with
  | some (.struct fields), .agg cs => match fields[f]? with
    | some fl => aPart P fl.type cs fl.offset
    | none => none
  | _, _ => none

def aIndexAddr (t : TypeId) (x ix : Value) : Option Value :=
  match P.underlying t, x, ix with
  | some (.slice elem), .slice (some a) n _, .int _ i => match tsize P elem with
    | some size => if 0 ≤ i ∧ i < n then some (.pointer (some (a.add (i.toNat * size)))) else none
    | none => none
  | some (.array n elem), .pointer (some a), .int _ i => match tsize P elem with
    | some size => if 0 ≤ i ∧ i < n then some (.pointer (some (a.add (i.toNat * size)))) else none
    | none => none
  | _, _, _ => none

def aIndex (t : TypeId) (x ix : Value) : Option Value :=
  match P.underlying t, x, ix with
  | some (.array n elem), .agg cs, .int _ i => match tsize P elem with
    | some size => if 0 ≤ i ∧ i < n then aPart P elem cs (i.toNat * size) else none
    | none => none
  | _, _, _ => none

def aRange (h : AH) (t : TypeId) (x : Value) : Option (Value × AH) :=
  match P.underlying t, x with
  | some .string, .string s => some (.pointer (some ⟨h.next, 0, none⟩), h.new (.stringIter s 0))
  | some (.map _ _), .map none => some (.pointer (some ⟨h.next, 0, none⟩), h.new (.mapIter none 0 #[] 0))
  | some (.map _ _), .map (some m) => match h.get m with
    | some (.map _ clock) => some (.pointer (some ⟨h.next, 0, none⟩), h.new (.mapIter (some m) clock #[] clock))
    | _ => none
  | _, _ => none

def aNext (h : AH) (it : Value) (isString : Bool) : Option (Value × AH) :=
  match it with
  | .pointer (some ⟨r, 0, none⟩) =>
    if h.ro ≤ r then
      match h.get r, isString with
      | some (.stringIter s pos), true =>
        if pos < s.size then some (.tuple #[.bool true, goInt pos, .int .i32 (Utf8.decode s pos).1], h.put r (some (.stringIter s (pos + (Utf8.decode s pos).2))))
        else some (.tuple #[.bool false], h)
      | some (.mapIter none _ _ _), false => some (.tuple #[.bool false], h)
      | some (.mapIter (some m) since seen last), false =>
        match h.get m with
        | some (.map es clock) =>
          if !seen.isEmpty && !es.isEmpty && es.all (·.born ≥ last) then none else
          let left := es.filter fun e => !seen.contains e.born
          let old := left.filter (·.born < since)
          let new := left.filter (·.born ≥ since)
          if old.isEmpty then (if new.isEmpty then some (.tuple #[.bool false], h) else none)
          else if old.size = 1 ∧ new.isEmpty then
            match old[0]? with
            | some e => some (.tuple #[.bool true, e.key, e.val], h.put r (some (.mapIter (some m) since (seen.push e.born) clock)))
            | none => none
          else none
        | _ => none
      | _, _ => none
    else none
  | _ => none

def aEntry (h : AH) (it : Value) : Option Value :=
  match it with
  | .pointer (some ⟨r, 0, none⟩) => match h.get r with
    | some (.mapIter (some m) _ seen stepped) => match seen.back? with
      | some stamp => match h.get m with
        | some (.map es clock) => if clock = stepped then match es.find? (·.born == stamp) with
            | some e => some (.tuple #[e.key, e.val])
            | none => none
          else none
        | _ => none
      | none => none
    | _ => none
  | _ => none

def aAssert (x : Value) (asserted : TypeId) (ok : Bool) : Option Value :=
  match P.underlying asserted, x with
  | some (.interface want), .iface t _ => match P.info? t with
    | some i => match Instr.missingMethod want i.methods with
      | none => some (if ok then .tuple #[x, .bool true] else x)
      | some _ => none
    | none => none
  | some (.interface _), _ => none
  | some _, .iface t v =>
    if t = asserted then some (if ok then .tuple #[v, .bool true] else v)
    else if ok then (tzero P asserted).map fun z => .tuple #[z, .bool false] else none
  | _, _ => none

def aMethod (recv : Value) (name : String) : Option (FuncId × Value) :=
  match recv with
  | .iface t v => match P.info? t with
    | some i => match i.methods.find? (·.name == name) with
      | some m => if m.path.isEmpty then
          match m.func, P.underlying t with
          | some (f, true), some (.pointer _) => some (f, v)
          | some (_, false), some (.pointer _) => none
          | some (f, false), some _ => some (f, v)
          | _, _ => none
        else none
      | none => none
    | none => none
  | _ => none

/-! ### Operations -/
structure Rec where
  call : FuncId → Array Value → AH → Option (Value × AH)
  rnd : Nat → Array Value → AH → Option (Value × AH)

def aPure (ρ : Operand → Value) (o : Oper) (h : AH) : Option (Value × AH) :=
  if o.op.operands.toList.all (fun x => af (ρ x)) then
    match pureVal P (execOp ρ o) with
    | some (.value v) => if af v then some (v, h) else none
    | _ => none
  else none

def aCallV (R : Rec) (f : Value) (args : Array Value) (h : AH) : Option (Value × AH) :=
  match f with
  | .func (.func g) first captured => R.call g (first ++ args ++ captured) h
  | .func (.yield l) first _ => R.rnd l (first ++ args) h
  | _ => none

def withH {α : Type} (h : AH) (v : Option α) : Option (α × AH) := v.map fun v => (v, h)
def noV (r : Option AH) : Option (Value × AH) := r.map fun h => (undef, h)

def aOp (R : Rec) (ρ : Operand → Value) (o : Oper) (h : AH) : Option (Value × AH) :=
  match o.op with
  | .move x | .assign x => some (ρ x, h)
  | .pick c a b => match ρ c with
    | .bool t => some (if t then ρ a else ρ b, h)
    | _ => none
  | .alloc t => (tzero P t).map fun z => aRow h t z.cells
  | .box t x => some (aRow h t (ρ x).cells)
  | .build t parts => withH h (aBuild P t (parts.map fun (i, x) => (i, ρ x)))
  | .buildSlice t len parts => aBuildSlice P h t len (parts.map fun (i, x) => (i, ρ x))
  | .load t a => withH h (aLoad P h t (ρ a))
  | .store t a x => noV (aStore P h t (ρ a) (ρ x))
  | .nilCheck x => match ρ x with
    | .pointer (some a) => some (.pointer (some a), h)
    | .iface t v => some (.iface t v, h)
    | .func (.func f) first captured => some (.func (.func f) first captured, h)
    | .func (.yield f) first captured => some (.func (.yield f) first captured, h)
    | .map r => some (.map r, h)
    | .slice a n c => some (.slice a n c, h)
    | _ => none
  | .binOp op t x y _ =>
    if af (ρ x) && af (ρ y) then aPure P ρ o h else
    match op with
    | .eql => withH h ((aEq P t (ρ x) (ρ y)).map .bool)
    | .neq => withH h ((aEq P t (ρ x) (ρ y)).map fun b => .bool !b)
    | _ => none
  | .makeInterface t x => match P.underlying t with
    | some (.interface _) | none => none
    | _ => some (.iface t (ρ x), h)
  | .makeFunc (.func f) first captured => some (.func (.func f) (first.map ρ) (captured.map ρ), h)
  | .makeMap t none => some (.map (some h.next), h.new (.map #[] 0))
  | .makeSlice t l c => aMakeSlice P h t (ρ l) (ρ c)
  | .slice t x lo hi mx => match ρ x with
    | .string _ => aPure P ρ o h
    | v => withH h (match aSlice P t v (lo.map ρ) (hi.map ρ) (mx.map ρ) with
      | some u => some u
      | none => aSliceB P h t v (lo.map ρ) (hi.map ρ) (mx.map ρ))
  | .fieldAddr t x f => withH h (aFieldAddr P t (ρ x) f)
  | .field t x f => withH h (aField P t (ρ x) f)
  | .indexAddr t x ix => withH h (aIndexAddr P t (ρ x) (ρ ix))
  | .index t x ix => match ρ x with
    | .string _ => aPure P ρ o h
    | v => withH h (aIndex P t v (ρ ix))
  | .lookup t m k ok => withH h (aLookup P h t (ρ m) (ρ k) ok)
  | .mapUpdate t m k x | .insert t m k x => noV (aMapUpdate P h t (ρ m) (ρ k) (ρ x))
  | .range t x => aRange P h t (ρ x)
  | .next it isString => aNext h (ρ it) isString
  | .entry x => withH h (aEntry h (ρ x))
  | .typeAssert x _ asserted ok => withH h (aAssert P (ρ x) asserted ok)
  | .extract t ix => match ρ t with
    | .tuple vs => withH h vs[ix]?
    | _ => none
  | .call c => match c.callee with
    | .builtin .append => match aAppendZ P h c.argTypes (c.args.map ρ) with
      | some r => some r
      | none => aAppend P h c.argTypes (c.args.map ρ)
    | .builtin .cap => withH h (aCap P c.argTypes (c.args.map ρ))
    | .builtin .copy => aCopy P h c.argTypes (c.args.map ρ)
    | .builtin .len => withH h (aLenOf P h c.argTypes (c.args.map ρ))
    | .builtin .delete => aDelete P h c.argTypes (c.args.map ρ)
    | .builtin .clear => aClear P h c.argTypes (c.args.map ρ)
    | .builtin .min | .builtin .max => aPure P ρ o h
    | .builtin _ => none
    | .value f => aCallV R (ρ f) (c.args.map ρ) h
    | .invoke recv name => match aMethod P (ρ recv) name with
      | some (f, v) => R.call f (#[v] ++ c.args.map ρ) h
      | none => none
  | .unOp .. | .convert .. => aPure P ρ o h
  | _ => none

/-! ### Code -/
inductive Ex where
  | normal
  | exit (id : Nat)
  | ret

structure ES where
  tmps : Array Value
  marks : List Nat
  h : AH

def evalIn (tmps : Array Value) : Operand → Value
  | .tmp t => tmps.getD t undef
  | .const v => v
  | .global g => .pointer none
  | .func f => .func (.func f) #[] #[]

def putT (tmps : Array Value) (dst : Option Tmp) (v : Value) : Array Value :=
  match dst with
  | some d => tmps.setIfInBounds d v
  | none => tmps

def okOpnd : Operand → Bool
  | .tmp _ => true
  | .const v => af v
  | .global _ => false
  | .func _ => true

def okOp (o : Oper) : Bool := o.op.operands.all okOpnd

def evOps (R : Rec) (ops : Array Oper) : List Nat → Array Value → AH → Option (Array Value × AH)
  | [], ts, h => some (ts, h)
  | i :: rest, ts, h =>
    match ops[i]? with
    | none => none
    | some o =>
      if Region.wanted o (yielded ops ts) then
        if okOp o then
          match aOp P R (evalIn ts) o h with
          | some (v, h') => evOps R ops rest (putT ts o.dst v) h'
          | none => none
        else none
      else evOps R ops rest (putT ts o.dst undef) h

/-- The same, down the list of the operations themselves. -/
def evOpsL (R : Rec) (ops : Array Oper) : List Oper → Array Value → AH → Option (Array Value × AH)
  | [], ts, h => some (ts, h)
  | o :: rest, ts, h =>
    if Region.wanted o (yielded ops ts) then
      if okOp o then
        match aOp P R (evalIn ts) o h with
        | some (v, h') => evOpsL R ops rest (putT ts o.dst v) h'
        | none => none
      else none
    else evOpsL R ops rest (putT ts o.dst undef) h

theorem evOpsL_from (R : Rec) (ops : Array Oper) : ∀ (l : List Oper) (k : Nat) (ts : Array Value) (h : AH), (∀ i, i < l.length → ops[k + i]? = l[i]?) → evOps P R ops (List.range' k l.length) ts h = evOpsL P R ops l ts h
  | [], k, ts, h, _ => rfl
  | o :: rest, k, ts, h, hl => by
    have h0 : ops[k]? = some o := by simpa using hl 0 (by simp)
    have hr := fun ts h => evOpsL_from R ops rest (k + 1) ts h fun i hi => by
      have := hl (i + 1) (by simp; omega)
      rw [show k + 1 + i = k + (i + 1) by omega]
      simpa using this
    simp only [List.length_cons, List.range'_succ, evOps, evOpsL, h0, hr]

theorem evOpsL_all (R : Rec) (ops : Array Oper) (ts : Array Value) (h : AH) : evOpsL P R ops ops.toList ts h = evOps P R ops (List.range ops.size) ts h := by
  rw [← evOpsL_from P R ops ops.toList 0 ts h (fun i hi => by simp), List.range_eq_range']
  simp

/-! ### A region that draws its order -/
structure Done where
  dst : Option Tmp
  v : Value
  eff : List (Nat × Option Obj)
  bef : Nat
  names : List Tmp
  foot : AH

def opTmps (ops : Array Oper) (o : Oper) : List Tmp :=
  (o.op.operands.toList.filterMap fun | .tmp t => some t | _ => none) ++
  (match o.guard with | some (g, _) => (match (ops[g]?).bind (·.dst) with | some d => [d] | none => []) | none => [])

def blkOf (v : Value) : List Nat := match v with | .pointer (some a) => [a.block] | .map (some r) => [r] | _ => []
def blkS (v : Value) : List Nat := match v with | .slice (some a) _ _ => [a.block] | _ => []

def needsLen (ρ : Operand → Value) : List Operand → Option (List Nat)
  | [x] => some (blkOf (ρ x))
  | l => some (l.flatMap fun x => blkOf (ρ x))
theorem needsLen_eq (ρ : Operand → Value) (l : List Operand) : needsLen ρ l = some (l.flatMap fun x => blkOf (ρ x)) := by
  unfold needsLen
  split <;> simp

/-- Which blocks an operation looks into: 'none': whichever. -/
def needs (ρ : Operand → Value) (o : Oper) : Option (List Nat) :=
  match o.op with
  | .load _ a => some (blkOf (ρ a))
  | .store _ a _ => some (blkOf (ρ a))
  | .lookup _ m _ _ => some (blkOf (ρ m))
  | .mapUpdate _ m _ _ | .insert _ m _ _ => some (blkOf (ρ m))
  | .range _ m => some (blkOf (ρ m))
  | .slice _ x _ _ _ => some (blkS (ρ x))
  | .next .. | .entry _ => none
  | .call c => match c.callee with
    | .builtin .cap => some []
    | .builtin .len => needsLen ρ c.args.toList
    | .builtin .min | .builtin .max => some []
    | _ => none
  | _ => some []

def AH.only (h : AH) (l : Option (List Nat)) : AH :=
  match l with
  | none => { h with log := [] }
  | some bs => { t := bs.foldl (fun t b => t.set b (h.get b)) .leaf, next := h.next, ro := h.ro, log := [] }

def AH.effs (h : AH) (l : List (Nat × Option Obj)) : AH := l.foldl (fun h e => h.put e.1 e.2) h

def before (acc : List Done) (o : Oper) : Nat := o.after.foldl (fun s e => bif Region.binds .any e then s ||| 2 ^ e.on ||| ((acc[e.on]?).map (·.bef)).getD 0 else s) 0

/-- The temporaries and the heap as they are once those of a mask have been done. -/
def doneT (m : Nat) (ts : Array Value) : Nat → List Done → Array Value
  | _, [] => ts
  | i, d :: r => doneT m (if m.testBit i then putT ts d.dst d.v else ts) (i + 1) r
def doneH (m : Nat) (h : AH) : Nat → List Done → AH
  | _, [] => h
  | i, d :: r => doneH m (if m.testBit i then h.effs d.eff else h) (i + 1) r

def clash1 (a b : Done) : Bool :=
  (match a.dst with | some t => b.names.contains t || b.dst == some t | none => false) || a.eff.any fun e => (b.foot.get e.1).isSome
def clash (a b : Done) : Bool := clash1 a b || clash1 b a

def noClash (bef : Nat) (d : Done) : Nat → List Done → Bool
  | _, [] => true
  | i, x :: r => (bef.testBit i || !clash x d) && noClash bef d (i + 1) r

def guardOk (bef : Nat) (o : Oper) : Bool :=
  match o.guard with
  | some (g, _) => bef.testBit g
  | none => true

/-! ### In the text's order, what interferes looked at -/
/-- Which blocks have been written or made between two heaps. -/
def since (h h' : AH) : List Nat := h'.log.take (h'.log.length - h.log.length)

def befOf (ms : List Nat) (o : Oper) : Nat := o.after.toList.foldl (fun s e => bif Region.binds .any e then s ||| 2 ^ e.on ||| (ms[e.on]?).getD 0 else s) 0

def tclash1 (ops : Array Oper) (a b : Oper) : Bool :=
  match a.dst with
  | some t => (opTmps ops b).contains t || b.dst == some t
  | none => false

def tmpsOk (ops : Array Oper) (bef : Nat) (o : Oper) : Nat → List Oper → Bool
  | _, [] => true
  | i, x :: r => (bef.testBit i || !(tclash1 ops x o || tclash1 ops o x)) && tmpsOk ops bef o (i + 1) r

/-- What is said of a region that draws its order by its text alone. -/
def drawOk (ops : Array Oper) : Nat → List Oper → List Nat → List Oper → Bool
  | _, [], _, _ => true
  | j, o :: rest, ms, es =>
    (o.after.toList.all fun e => decide (e.on < j) || !Region.binds .any e) && guardOk (befOf ms o) o && tmpsOk ops (befOf ms o) o 0 es
      && drawOk ops (j + 1) rest (ms ++ [befOf ms o]) (es ++ [o])

structure Tr where
  bef : Nat
  nd : Option (List Nat)
  wr : List Nat
  h0 : AH

/-- Two operations without an order: the elder one first. -/
def trOk (x d : Tr) : Bool :=
  (match d.nd with | some bs => x.wr.all fun b => !bs.contains b | none => x.wr.isEmpty) &&
  (match x.nd with | some bs => d.wr.all fun b => !bs.contains b | none => d.wr.all fun b => (x.h0.get b).isNone)

def trsOk (d : Tr) : Nat → List Tr → Bool
  | _, [] => true
  | i, x :: r => (d.bef.testBit i || trOk x d) && trsOk d (i + 1) r

def trOf (acc : List Tr) (ts : Array Value) (o : Oper) (h h' : AH) : Tr := ⟨befOf (acc.map (·.bef)) o, needs (evalIn ts) o, since h h', h⟩

def evSeq (R : Rec) (ops : Array Oper) : List Oper → Array Value → AH → List Tr → Option (Array Value × AH)
  | [], ts, h, _ => some (ts, h)
  | o :: rest, ts, h, acc =>
    if Region.wanted o (yielded ops ts) then
      if okOp o then
        match aOp P R (evalIn ts) o h with
        | some (v, h') => if trsOk (trOf acc ts o h h') 0 acc then evSeq R ops rest (putT ts o.dst v) h' (acc ++ [trOf acc ts o h h']) else none
        | none => none
      else none
    else evSeq R ops rest (putT ts o.dst undef) h (acc ++ [⟨befOf (acc.map (·.bef)) o, some [], [], h⟩])

def allT (ts : Array Value) (l : List Done) : Array Value := l.foldl (fun ts d => putT ts d.dst d.v) ts
def allH (h : AH) (l : List Done) : AH := l.foldl (fun h d => h.effs d.eff) h

/-- Where an operation may stand, if some hang on later ones. -/
def rankOf (m : Region.Mode) (ops : Array Oper) (i : Nat) : Nat :=
  match ops[i]? with
  | some o => (o.after.foldl (fun s e => bif Region.binds m e && decide (i < e.on) then max s (2 * e.on + 1) else s) (2 * i)) * (ops.size + 1) + i
  | none => 0
def ranked (m : Region.Mode) (ops : Array Oper) : Bool :=
  (List.range ops.size).all fun i => match ops[i]? with
    | some o => o.after.all fun e => !Region.binds m e || (decide (e.on < ops.size) && decide (rankOf m ops e.on < rankOf m ops i))
    | none => true
def orderly (ops : Array Oper) : Bool := !Region.departs ops || (ranked .text ops && ranked .gc ops)

def evRegion (R : Rec) (ops : Array Oper) (draw : Bool) (ts : Array Value) (h : AH) : Option (Array Value × AH) :=
  if draw then
    bif orderly ops && drawOk ops 0 ops.toList [] [] then evSeq P R ops ops.toList ts h [] else none
  else evOpsL P R ops ops.toList ts h

def iter (f : ES → Option (Ex × ES)) : Nat → ES → Option (Ex × ES)
  | 0, _ => none
  | k + 1, s => match f s with
    | some (.normal, s') => iter f k s'
    | r => r

def aLoop (h : AH) (l : Nat) : Option Loop :=
  match h.get l with
  | some (.loop r) => some r
  | _ => none

def loopHeap (s : ES) (params : Array Tmp) (assign body : Code) : AH :=
  (s.h.new (.deferred (some []))).new (.loop { state := .ready, pending := none, fn := 0, tmps := s.tmps, params, assign, body, defers := s.h.next })

def afterLoop (s : ES) (h2 : AH) (r : Loop) : ES := { tmps := s.tmps, marks := s.h.next :: s.marks, h := h2.put (s.h.next + 1) (some (.loop { r with state := .exhausted })) }

def evCode (R : Rec) (fuel : Nat) (inRound : Bool) : Code → ES → Option (Ex × ES)
  | .skip, s => some (.normal, s)
  | .label _, s => some (.normal, s)
  | .ret, s => some (.ret, s)
  | .exit id, s => some (.exit id, s)
  | .region _ ops draw, s => match evRegion P R ops draw s.tmps s.h with
    | some (ts, h) => some (.normal, { s with tmps := ts, h := h })
    | none => none
  | .seq a b, s => match evCode R fuel inRound a s with
    | some (.normal, s') => evCode R fuel inRound b s'
    | r => r
  | .cond c a b, s => match c with
    | .global _ => none
    | c => match evalIn s.tmps c with
      | .bool true => evCode R fuel inRound a s
      | .bool false => evCode R fuel inRound b s
      | _ => none
  | .block id c, s => match evCode R fuel inRound c s with
    | some (.exit i, s') => if i = id then some (.normal, s') else some (.exit i, s')
    | r => r
  | .loop c, s => iter (evCode R fuel inRound c) fuel s
  | .rangeFunc (.tmp g) params assign body, s =>
    if inRound then none else
    match s.tmps.getD g undef with
    | .func (.func gf) first captured =>
      match R.call gf (first ++ #[.func (.yield (s.h.next + 1)) #[] #[]] ++ captured) (loopHeap s params assign body) with
      | some (_, h2) => match aLoop h2 (s.h.next + 1) with
        | some r =>
          if h2.ro ≤ s.h.next + 1 ∧ r.state ≠ .busy then
            match r.pending with
            | none => some (.normal, afterLoop s h2 r)
            | some .ret => some (.ret, afterLoop s h2 r)
            | some (.exit id) => some (.exit id, afterLoop s h2 r)
            | _ => none
          else none
        | none => none
      | none => none
    | _ => none
  | _, _ => none

def aMarks : List Nat → AH → Option AH
  | [], h => some h
  | m :: r, h => match h.get m with
    | some (.deferred (some [])) => if h.ro ≤ m then aMarks r (h.put m (some (.deferred none))) else none
    | _ => none

def aResult (ts : Array Value) (h : AH) : ResultVar → Option Value
  | .tmp t => some (ts.getD t undef)
  | .cell a t => aLoad P h t (ts.getD a undef)

def evFn (R : Rec) (fuel : Nat) (f : FuncId) (args : Array Value) (h : AH) : Option (Value × AH) :=
  match P.funcs[f]? with
  | some fn => match fn.body with
    | some c => match evCode P R fuel false c { tmps := args ++ Array.replicate (fn.ntmps - args.size) undef, marks := [], h } with
      | some (.normal, s) | some (.ret, s) => match aMarks s.marks s.h with
        | some h' => match fn.results.mapM (aResult P s.tmps h') with
          | some vs => some (if hs : vs.size = 1 then vs[0] else .tuple vs, h')
          | none => none
        | none => none
      | _ => none
    | none => none
  | none => none

def evRnd (R : Rec) (fuel : Nat) (l : Nat) (args : Array Value) (h : AH) : Option (Value × AH) :=
  match aLoop h l with
  | some r =>
    if args.size = r.params.size ∧ h.ro ≤ l then
      match evCode P R fuel true r.assign { tmps := (r.params.zip args).foldl (fun tmps (t, a) => tmps.setIfInBounds t a) r.tmps, marks := [], h } with
      | some (.normal, s1) => match aLoop s1.h l with
        | some r1 => if r1.state == .ready then
            match evCode P R fuel true r.body { s1 with h := s1.h.put l (some (.loop { r1 with state := .busy })) } with
            | some (e, s2) => match aLoop s2.h l with
              | some r2 => match e with
                | .normal => some (.bool true, s2.h.put l (some (.loop { r2 with state := .ready, pending := none })))
                | .ret => some (.bool false, s2.h.put l (some (.loop { r2 with state := .done, pending := some .ret })))
                | .exit id => some (.bool false, s2.h.put l (some (.loop { r2 with state := .done, pending := some (.exit id) })))
              | none => none
            | none => none
          else none
        | none => none
      | _ => none
    else none
  | none => none

def ev : Nat → Rec
  | 0 => { call := fun _ _ _ => none, rnd := fun _ _ _ => none }
  | n + 1 => { call := evFn P (ev n) n, rnd := evRnd P (ev n) n }
end
end Go.Ags
