/- A function's code turned into single steps, one behind the other: what is known of the text is done away with. -/
import Derived.Test.YtpabofkomhffgaaGreatAgsPrim
set_option linter.unusedVariables false
namespace Go.Ags

abbrev Env := Nat → Value
def evE (env : Env) : Operand → Value
  | .tmp t => env t
  | .const v => v
  | .global _ => .pointer none
  | .func f => .func (.func f) #[] #[]
def envPut (env : Env) (d : Option Tmp) (v : Value) : Env :=
  match d with
  | some d => fun t => bif Nat.beq t d then v else env t
  | none => env
def envSets (env : Env) : List Nat → List Value → Env
  | d :: ds, v :: vs => fun t => bif Nat.beq t d then v else envSets env ds vs t
  | _, _ => env

/-! ### What the text names: sets of temporaries as numbers -/
def bit (t : Nat) : Nat := Nat.pow 2 t
def mOpnd : Operand → Nat
  | .tmp t => bit t
  | _ => 0
def mOpnds (l : List Operand) : Nat := l.foldr (fun x s => Nat.lor (mOpnd x) s) 0
def mGuard (ops : Array Oper) (o : Oper) : Nat :=
  match o.guard with
  | some (g, _) => match (ops[g]?).bind (·.dst) with
    | some d => bit d
    | none => 0
  | none => 0
def mOper (ops : Array Oper) (o : Oper) : Nat := Nat.lor (mOpnds o.op.operands.toList) (mGuard ops o)
def mOpers (ops : Array Oper) (l : List Oper) : Nat := l.foldr (fun o s => Nat.lor (mOper ops o) s) 0
def wOper (o : Oper) : Nat :=
  match o.dst with
  | some d => bit d
  | none => 0
def wOpers (l : List Oper) : Nat := l.foldr (fun o s => Nat.lor (wOper o) s) 0
def mDiff (a b : Nat) : Nat := Nat.xor a (Nat.land a b)
/-- What is looked at, ahead of some operations, if this is looked at behind them. -/
def lvOps (ops : Array Oper) : List Oper → Nat → Nat
  | [], L => L
  | o :: r, L => Nat.lor (mOper ops o) (mDiff (lvOps ops r L) (wOper o))
def wCode : Code → Nat
  | .region _ ops _ => wOpers ops.toList
  | .seq a b => Nat.lor (wCode a) (wCode b)
  | .cond _ a b => Nat.lor (wCode a) (wCode b)
  | .block _ c => wCode c
  | .loop c => wCode c
  | _ => 0
/-- What is looked at ahead of some code: 'n' behind its end, 'x' at its ways out. -/
def lv : Code → Nat → Nat → Nat
  | .skip, n, _ => n
  | .label _, n, _ => n
  | .region _ ops _, n, _ => lvOps ops ops.toList n
  | .seq a b, n, x => lv a (lv b n x) x
  | .cond c a b, n, x => Nat.lor (mOpnd c) (Nat.lor (lv a n x) (lv b n x))
  | .block _ c, n, x => lv c n (Nat.lor x n)
  | .loop c, _, x => lv c 0 x
  | _, _, x => x
def bitsFrom : Nat → Nat → Nat → List Nat
  | 0, _, _ => []
  | n + 1, t, m => bif Nat.beq (Nat.mod m 2) 1 then t :: bitsFrom n (Nat.succ t) (Nat.div m 2) else bitsFrom n (Nat.succ t) (Nat.div m 2)
/-- The members of a set of temporaries. -/
def bitsOf (m : Nat) : List Nat := bitsFrom (Nat.succ (Nat.log2 m)) 0 m

/-- Done at once where the kernel looks. -/
noncomputable abbrev ifB {α : Type} (b : Bool) (x y : α) : α := Bool.rec (motive := fun _ => α) y x b
theorem ifB_eq {α : Type} (b : Bool) (x y : α) : ifB b x y = cond b x y := by cases b <;> rfl

/-! ### One operation -/
section
variable (P : Program) (R : Rec)

def opndOk : Operand → Bool
  | .tmp _ => true
  | .const v => af v
  | .global _ => false
  | .func _ => true

def assoc (env : Env) : List Operand → List (Nat × Value)
  | [] => []
  | .tmp t :: r => (t, env t) :: assoc env r
  | _ :: r => assoc env r

def gen (op : Op) (ty : TypeId) (env : Env) (h : AH) (c : Value → AH → M) : M := pGen P R op ty (assoc env op.operands.toList) h c

def arrE (env : Env) (a : Array Operand) : Array Value := ⟨a.toList.map (evE env)⟩

noncomputable def cBin (op : BinOp) (t : TypeId) (x y : Operand) (yt ty : TypeId) (env : Env) (h : AH) (c : Value → AH → M) : M :=
  match P.underlying t with
  | some (.int _) =>
    match op with
    | .add => pAdd (evE env x) (evE env y) fun v => c v h
    | .sub => pSub (evE env x) (evE env y) fun v => c v h
    | .mul => pMul (evE env x) (evE env y) fun v => c v h
    | .quo => pQuo (evE env x) (evE env y) fun v => c v h
    | .rem => pRem (evE env x) (evE env y) fun v => c v h
    | .and => pAnd (evE env x) (evE env y) fun v => c v h
    | .or => pOr (evE env x) (evE env y) fun v => c v h
    | .xor => pXor (evE env x) (evE env y) fun v => c v h
    | .andNot => pAnn (evE env x) (evE env y) fun v => c v h
    | .shl => pShl (evE env x) (evE env y) fun v => c v h
    | .shr => pShr (evE env x) (evE env y) fun v => c v h
    | .eql => pEq (evE env x) (evE env y) fun v => c v h
    | .neq => pNe (evE env x) (evE env y) fun v => c v h
    | .lss => pLt (evE env x) (evE env y) fun v => c v h
    | .leq => pLe (evE env x) (evE env y) fun v => c v h
    | .gtr => pGt (evE env x) (evE env y) fun v => c v h
    | .geq => pGe (evE env x) (evE env y) fun v => c v h
  | _ => gen P R (.binOp op t x y yt) ty env h c

noncomputable def cCall (cl : Call) (ty : TypeId) (env : Env) (h : AH) (c : Value → AH → M) : M :=
  match cl.callee with
  | .value (.func f) => pR (R.call f (arrE env cl.args) h) c
  | .value f => pR (aCallV R (evE env f) (arrE env cl.args) h) c
  | .builtin .len => match (cl.argTypes[0]?).bind P.underlying, cl.args.toList with
    | some (.slice _), [x] => pLen (evE env x) fun v => c v h
    | _, _ => gen P R (.call cl) ty env h c
  | .builtin .min => match (cl.argTypes[0]?).bind P.underlying, cl.args.toList with
    | some (.int _), [x, y] => pMin (evE env x) (evE env y) fun v => c v h
    | _, _ => gen P R (.call cl) ty env h c
  | .builtin .max => match (cl.argTypes[0]?).bind P.underlying, cl.args.toList with
    | some (.int _), [x, y] => pMax (evE env x) (evE env y) fun v => c v h
    | _, _ => gen P R (.call cl) ty env h c
  | _ => gen P R (.call cl) ty env h c

noncomputable def cOp (op : Op) (ty : TypeId) (env : Env) (h : AH) (c : Value → AH → M) : M :=
  match op with
  | .move x | .assign x => c (evE env x) h
  | .pick x a b => pPick (evE env x) (evE env a) (evE env b) fun v => c v h
  | .alloc t => match tzero P t with
    | some z => pNew t z.cells.toList h c
    | none => none
  | .box t x => pBox t (evE env x) h c
  | .load t a => match isAggT P t, tsize P t with
    | some true, some (n + 1) => pLdN (n + 1) (evE env a) h fun v => c v h
    | some false, some _ => pLd (evE env a) h fun v => c v h
    | _, _ => none
  | .store t a x => match isAggT P t, tsize P t with
    | some false, some 1 => pSt (evE env a) (evE env x) h fun h' => c undef h'
    | _, some n => pStN n (evE env a) (evE env x) h fun h' => c undef h'
    | _, none => none
  | .nilCheck x => pNil (evE env x) fun v => c v h
  | .binOp op t x y yt => cBin P R op t x y yt ty env h c
  | .unOp .not t x => pNot (evE env x) fun v => c v h
  | .convert s d x => match P.underlying s, P.underlying d with
    | some (.int _), some (.int k) => pCv k (evE env x) fun v => c v h
    | _, _ => gen P R op ty env h c
  | .makeInterface t x => match P.underlying t with
    | some (.interface _) | none => none
    | _ => c (.iface t (evE env x)) h
  | .makeFunc (.func f) first captured => c (.func (.func f) (arrE env first) (arrE env captured)) h
  | .makeMap _ none => pMkMap h c
  | .fieldAddr t x f => match P.underlying t with
    | some (.struct fields) => match fields[f]? with
      | some fl => match tsize P fl.type with
        | some (_ + 1) => pFad fl.offset (evE env x) fun v => c v h
        | _ => none
      | none => none
    | _ => none
  | .field t x f => match P.underlying t with
    | some (.struct fields) => match fields[f]? with
      | some fl => match isAggT P fl.type, tsize P fl.type with
        | some true, some (n + 1) => pFlN fl.offset (n + 1) (evE env x) fun v => c v h
        | some false, some _ => pFl fl.offset (evE env x) fun v => c v h
        | _, _ => none
      | none => none
    | _ => none
  | .indexAddr t x i => match P.underlying t with
    | some (.slice e) => match tsize P e with
      | some n => pIx n (evE env x) (evE env i) fun v => c v h
      | none => none
    | some (.array k e) => match tsize P e with
      | some n => pIxA k n (evE env x) (evE env i) fun v => c v h
      | none => none
    | _ => none
  | .slice t x lo hi mx => match P.underlying t with
    | some (.slice e) => match tsize P e with
      | some n => pSl n (evE env x) (lo.map (evE env)) (hi.map (evE env)) (mx.map (evE env)) h fun v => c v h
      | none => none
    | _ => gen P R op ty env h c
  | .extract t i => pExt i (evE env t) fun v => c v h
  | .call cl => cCall P R cl ty env h c
  | _ => gen P R op ty env h c

noncomputable def cOne (o : Oper) (env : Env) (h : AH) (c : Env → AH → M) : M :=
  ifB (o.op.operands.toList.all opndOk) (cOp P R o.op o.type env h fun v h' => c (envPut env o.dst v) h') none

/-! ### A region -/
def gEq (a b : Option (Nat × Bool)) : Bool :=
  match a, b with
  | some (g, x), some (g', y) => Nat.beq g g' && (bif x then y else !y)
  | none, none => true
  | _, _ => false
/-- The operations behind one guard, and the rest. -/
def gSpan (g : Option (Nat × Bool)) : List Oper → List Oper × List Oper
  | [] => ([], [])
  | o :: r => bif gEq o.guard g then (o :: (gSpan g r).1, (gSpan g r).2) else ([], o :: r)

noncomputable def cRun : List Oper → Env → AH → (Env → AH → M) → M
  | [], env, h, c => c env h
  | o :: r, env, h, c => cOne P R o env h fun env' h' => cRun r env' h' c

def guardTmp (ops : Array Oper) (g : Nat) : Option Tmp := (ops[g]?).bind (·.dst)

/-- A guarded run: it is done, or its temporaries are without a value. -/
noncomputable def cGuard (want : Bool) (d : Tmp) (W : List Nat) (a : List Oper) (env : Env) (h : AH) (c : Env → AH → M) : M :=
  jn (cur W.length fun vs h' => c (envSets env W vs) h') fun j =>
    pG (env d) want (cRun P R a env h fun env' h' => app W.length j (W.map env') h') (app W.length j (W.map fun _ => undef) h)

noncomputable def cOps (ops : Array Oper) : Nat → List Oper → Nat → Env → AH → (Env → AH → M) → M
  | _, [], _, env, h, c => c env h
  | 0, _ :: _, _, _, _, _ => none
  | n + 1, o :: r, L, env, h, c =>
    match o.guard with
    | none => cOne P R o env h fun env' h' => cOps ops n r L env' h' c
    | some (g, want) => match guardTmp ops g with
      | some d =>
        ifB (Nat.testBit (wOpers (gSpan o.guard (o :: r)).1) d) none <|
        cGuard P R want d (bitsOf (Nat.land (wOpers (gSpan o.guard (o :: r)).1) (lvOps ops (gSpan o.guard (o :: r)).2 L))) (gSpan o.guard (o :: r)).1 env h fun env' h' => cOps ops n (gSpan o.guard (o :: r)).2 L env' h' c
      | none => none

/-! ### A region that draws its order -/
/-- An operation that leaves the heap alone. -/
def quiet (o : Op) : Bool :=
  match o with
  | .move _ | .assign _ | .pick .. | .build .. | .load .. | .nilCheck _ | .binOp .. | .unOp .. | .convert .. | .makeInterface .. | .makeFunc .. | .slice .. | .fieldAddr .. | .field .. | .indexAddr .. | .index .. | .lookup .. | .entry _
  | .typeAssert .. | .extract .. => true
  | .call c => match c.callee with
    | .builtin .len | .builtin .cap | .builtin .min | .builtin .max => true
    | _ => false
  | _ => false
/-- .. and does not look into it. -/
def idle (o : Op) : Bool :=
  match o with
  | .move _ | .assign _ | .pick .. | .build .. | .nilCheck _ | .binOp .. | .unOp .. | .convert .. | .makeInterface .. | .makeFunc .. | .fieldAddr .. | .field .. | .indexAddr .. | .index .. | .typeAssert .. | .extract .. => true
  | .call c => match c.callee with
    | .builtin .cap | .builtin .min | .builtin .max => true
    | _ => false
  | _ => false
def pairFree (x d : Op) : Bool := (quiet x && quiet d) || idle x || idle d

/-- With which elder operations an operation is to be compared. -/
def toChk (bef : Nat) (d : Op) : Nat → List (Op × Option Tr) → Option (List Tr)
  | _, [] => some []
  | i, (x, t) :: r => bif Nat.testBit bef i || pairFree x d then toChk bef d (Nat.succ i) r else
    match t with
    | some t => match toChk bef d (Nat.succ i) r with
      | some l => some (t :: l)
      | none => none
    | none => none

def cChk (l : List Tr) (d : Tr) (c : M) : M :=
  match l with
  | [] => c
  | l => pChk l d c

def runMs (ms : List Nat) : List Oper → List Nat
  | [] => ms
  | o :: r => runMs (ms ++ [befOf ms o]) r

def trE (ms : List Nat) (env : Env) (o : Oper) (h h' : AH) : Tr := ⟨befOf ms o, needs (evE env) o, bif quiet o.op then [] else since h h', h⟩

/-- A run of operations that is looked at. -/
noncomputable def cRunD : List Oper → List Nat → List (Op × Option Tr) → Env → AH → (Env → AH → M) → M
  | [], _, _, env, h, c => c env h
  | o :: r, ms, acc, env, h, c =>
    match toChk (befOf ms o) o.op 0 acc with
    | some l => cOne P R o env h fun env' h' => cChk l (trE ms env o h h') (cRunD r (ms ++ [befOf ms o]) (acc ++ [(o.op, some (trE ms env o h h'))]) env' h' c)
    | none => none
noncomputable def cGuardD (want : Bool) (d : Tmp) (W : List Nat) (a : List Oper) (ms : List Nat) (acc : List (Op × Option Tr)) (env : Env) (h : AH) (c : Env → AH → M) : M :=
  jn (cur W.length fun vs h' => c (envSets env W vs) h') fun j =>
    pG (env d) want (cRunD P R a ms acc env h fun env' h' => app W.length j (W.map env') h') (app W.length j (W.map fun _ => undef) h)

noncomputable def cSeq (ops : Array Oper) : Nat → List Oper → Nat → List Nat → List (Op × Option Tr) → Env → AH → (Env → AH → M) → M
  | _, [], _, _, _, env, h, c => c env h
  | 0, _ :: _, _, _, _, _, _, _ => none
  | n + 1, o :: r, L, ms, acc, env, h, c =>
    match o.guard with
    | none => match toChk (befOf ms o) o.op 0 acc with
      | some l => cOne P R o env h fun env' h' => cChk l (trE ms env o h h') (cSeq ops n r L (ms ++ [befOf ms o]) (acc ++ [(o.op, some (trE ms env o h h'))]) env' h' c)
      | none => none
    | some (g, want) => match guardTmp ops g with
      | some d =>
        ifB (Nat.testBit (wOpers (gSpan o.guard (o :: r)).1) d) none <|
        cGuardD P R want d (bitsOf (Nat.land (wOpers (gSpan o.guard (o :: r)).1) (lvOps ops (gSpan o.guard (o :: r)).2 L))) (gSpan o.guard (o :: r)).1 ms acc env h
          fun env' h' => cSeq ops n (gSpan o.guard (o :: r)).2 L (runMs ms (gSpan o.guard (o :: r)).1) (acc ++ (gSpan o.guard (o :: r)).1.map fun o => (o.op, none)) env' h' c
      | none => none

noncomputable def cRegion (ops : Array Oper) (draw : Bool) (L : Nat) (env : Env) (h : AH) (c : Env → AH → M) : M :=
  ifB draw (ifB (orderly ops && drawOk ops 0 ops.toList [] []) (cSeq P R ops ops.toList.length ops.toList L [] [] env h c) none)
    (cOps P R ops ops.toList.length ops.toList L env h c)

/-! ### Code -/
abbrev Kont := Ex → Env → AH → M

def plain : Code → Bool
  | .region .. | .skip | .label _ => true
  | _ => false

noncomputable def cCode (fuel : Nat) : Code → Nat → Nat → Kont → Env → AH → M
  | .skip, _, _, k, env, h => k .normal env h
  | .label _, _, _, k, env, h => k .normal env h
  | .ret, _, _, k, env, h => k .ret env h
  | .exit id, _, _, k, env, h => k (.exit id) env h
  | .region _ ops draw, n, _, k, env, h => cRegion P R ops draw n env h fun env' h' => k .normal env' h'
  | .seq a b, n, x, k, env, h =>
    ifB (plain a) (cCode fuel a (lv b n x) x (fun e env' h' => match e with | .normal => cCode fuel b n x k env' h' | e => k e env' h') env h) <|
      jn (cur (bitsOf (Nat.land (wCode a) (lv b n x))).length fun vs h' => cCode fuel b n x k (envSets env (bitsOf (Nat.land (wCode a) (lv b n x))) vs) h') fun j =>
        cCode fuel a (lv b n x) x (fun e env' h' => match e with | .normal => app (bitsOf (Nat.land (wCode a) (lv b n x))).length j ((bitsOf (Nat.land (wCode a) (lv b n x))).map env') h' | e => k e env' h') env h
  | .cond c a b, n, x, k, env, h => match c with
    | .global _ => none
    | c => pIf (evE env c) (cCode fuel a n x k env h) (cCode fuel b n x k env h)
  | .block id c, n, x, k, env, h => cCode fuel c n (Nat.lor x n) (fun e env' h' => match e with | .exit i => ifB (Nat.beq i id) (k .normal env' h') (k (.exit i) env' h') | e => k e env' h') env h
  | .loop c, n, x, k, env, h =>
    ifB (Nat.beq (Nat.lor (lv c (lv c 0 x) x) (lv c 0 x)) (lv c 0 x))
      (app (bitsOf (Nat.land (wCode c) (lv c 0 x))).length
        (lp (bitsOf (Nat.land (wCode c) (lv c 0 x))).length (fun again => cur (bitsOf (Nat.land (wCode c) (lv c 0 x))).length fun vs h' =>
          cCode fuel c (lv c 0 x) x (fun e env' h'' => match e with | .normal => app (bitsOf (Nat.land (wCode c) (lv c 0 x))).length again ((bitsOf (Nat.land (wCode c) (lv c 0 x))).map env') h'' | e => k e env' h'')
            (envSets env (bitsOf (Nat.land (wCode c) (lv c 0 x))) vs) h') fuel)
        ((bitsOf (Nat.land (wCode c) (lv c 0 x))).map env) h)
      none
  | _, _, _, _, _, _ => none

/-! ### A function -/
def mRes : List ResultVar → Nat
  | [] => 0
  | .tmp t :: r => Nat.lor (bit t) (mRes r)
  | .cell a _ :: r => Nat.lor (bit a) (mRes r)

noncomputable def cRes (env : Env) (h : AH) : List ResultVar → (List Value → M) → M
  | [], c => c []
  | .tmp t :: r, c => cRes env h r fun l => c (env t :: l)
  | .cell a t :: r, c => match isAggT P t, tsize P t with
    | some true, some (n + 1) => pLdN (n + 1) (env a) h fun v => cRes env h r fun l => c (v :: l)
    | some false, some _ => pLd (env a) h fun v => cRes env h r fun l => c (v :: l)
    | _, _ => none

def retV (l : List Value) (h : AH) : M :=
  match l with
  | [v] => some (v, h)
  | l => some (.tuple ⟨l⟩, h)

def getL : List Value → Nat → Value
  | [], _ => undef
  | v :: r, n => Nat.rec (motive := fun _ => Value) v (fun m _ => getL r m) n

noncomputable def cFn (fuel : Nat) (f : FuncId) (args : List Value) (h : AH) : M :=
  match P.funcs[f]? with
  | some fn => match fn.body with
    | some c => ifB (Nat.ble args.length fn.ntmps && Nat.blt (wCode c) (Nat.pow 2 fn.ntmps)) (cCode P R fuel c (mRes fn.results.toList) (mRes fn.results.toList) (fun e env h => match e with | .exit _ => none | _ => cRes P env h fn.results.toList fun l => retV l h) (fun t => getL args t) h) none
    | none => none
  | none => none
end
end Go.Ags
