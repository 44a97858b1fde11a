/- The relation between the abstract heap and the world, and what keeps it. -/
import Derived.Test.YtpabofkomhffgaaGreatAgsDefs
import Derived.RangeFuncLeaves
import Derived.RangeFuncRecord
set_option linter.unusedVariables false
namespace Go.Ags

/-- Where an abstract block lies: the block, the cell at which it begins, and how many cells the block has. -/
structure Loc where
  g : Nat
  base : Nat
  lim : Nat

abbrev Inj := Nat → Option Loc

inductive FRel (ι : Inj) : Fn → Fn → Prop where
  | func (f : FuncId) : FRel ι (.func f) (.func f)
  | yield {l : Nat} {L : Loc} (h : ι l = some L) : FRel ι (.yield l) (.yield L.g)

inductive VRel (ι : Inj) : Value → Value → Prop where
  | bool (b : Bool) : VRel ι (.bool b) (.bool b)
  | int (k : IntKind) (n : Int) : VRel ι (.int k n) (.int k n)
  | float (k : FloatKind) (b : Nat) : VRel ι (.float k b) (.float k b)
  | complex (k : FloatKind) (a b : Nat) : VRel ι (.complex k a b) (.complex k a b)
  | string (s : ByteArray) : VRel ι (.string s) (.string s)
  | ptr0 : VRel ι (.pointer none) (.pointer none)
  | ptr {b : Nat} {L : Loc} (o : Nat) (h : ι b = some L) : VRel ι (.pointer (some ⟨b, o, none⟩)) (.pointer (some ⟨L.g, L.base + o, none⟩))
  | sl0 : VRel ι (.slice none 0 0) (.slice none 0 0)
  | slX {b : Nat} {L : Loc} (o n c : Nat) (h : ι b = some L) (hc : c < loose) : VRel ι (.slice (some ⟨b, o, none⟩) n c) (.slice (some ⟨L.g, L.base + o, none⟩) n c)
  | slL {b : Nat} {L : Loc} (o n sz c : Nat) (h : ι b = some L) (hn : n ≤ c) (hl : L.base + o + c * sz = L.lim) :
      VRel ι (.slice (some ⟨b, o, none⟩) n (loose + sz)) (.slice (some ⟨L.g, L.base + o, none⟩) n c)
  | slD {b : Nat} {L : Loc} (o sz : Nat) (a : Addr) (h : ι b = some L) (hl : L.base + o = L.lim) :
      VRel ι (.slice (some ⟨b, o, none⟩) 0 (loose + sz)) (.slice (some a) 0 0)
  | slE {b : Nat} {L : Loc} (o : Nat) (a : Addr) (h : ι b = some L) : VRel ι (.slice (some ⟨b, o, none⟩) 0 0) (.slice (some a) 0 0)
  | map0 : VRel ι (.map none) (.map none)
  | map {b : Nat} {L : Loc} (h : ι b = some L) : VRel ι (.map (some b)) (.map (some L.g))
  | chan0 : VRel ι (.chan none) (.chan none)
  | func {fn fn' : Fn} {x x' c c' : Array Value} (hf : FRel ι fn fn')
      (hx : x.size = x'.size) (hxs : ∀ (i : Nat) (v v' : Value), x[i]? = some v → x'[i]? = some v' → VRel ι v v')
      (hc : c.size = c'.size) (hcs : ∀ (i : Nat) (v v' : Value), c[i]? = some v → c'[i]? = some v' → VRel ι v v') : VRel ι (.func fn x c) (.func fn' x' c')
  | nilFunc : VRel ι .nilFunc .nilFunc
  | iface (t : TypeId) {v v' : Value} (h : VRel ι v v') : VRel ι (.iface t v) (.iface t v')
  | nilIface : VRel ι .nilIface .nilIface
  | agg {c c' : Array Value} (hc : c.size = c'.size) (hcs : ∀ (i : Nat) (v v' : Value), c[i]? = some v → c'[i]? = some v' → VRel ι v v') : VRel ι (.agg c) (.agg c')
  | tuple {c c' : Array Value} (hc : c.size = c'.size) (hcs : ∀ (i : Nat) (v v' : Value), c[i]? = some v → c'[i]? = some v' → VRel ι v v') : VRel ι (.tuple c) (.tuple c')

structure ARel (ι : Inj) (x x' : Array Value) : Prop where
  size : x.size = x'.size
  at_ : ∀ (i : Nat) (v v' : Value), x[i]? = some v → x'[i]? = some v' → VRel ι v v'

theorem ARel.get {ι : Inj} {x x' : Array Value} (h : ARel ι x x') {i : Nat} {v : Value} (hv : x[i]? = some v) : ∃ v', x'[i]? = some v' ∧ VRel ι v v' := by
  obtain ⟨hi, _⟩ := Array.getElem?_eq_some_iff.1 hv
  have hi' : i < x'.size := h.size ▸ hi
  exact ⟨x'[i], Array.getElem?_eq_getElem hi', h.at_ i _ _ hv (Array.getElem?_eq_getElem hi')⟩

theorem ARel.none {ι : Inj} {x x' : Array Value} (h : ARel ι x x') {i : Nat} (hv : x[i]? = none) : x'[i]? = none := by
  rw [Array.getElem?_eq_none_iff] at *; rw [← h.size]; exact hv

theorem ARel.getD {ι : Inj} {x x' : Array Value} (h : ARel ι x x') (i : Nat) {d d' : Value} (hd : VRel ι d d') : VRel ι (x.getD i d) (x'.getD i d') := by
  rw [Array.getD_eq_getD_getElem?, Array.getD_eq_getD_getElem?]
  cases hv : x[i]? with
  | none => rw [h.none hv]; exact hd
  | some v => obtain ⟨v', hv', r⟩ := h.get hv; rw [hv']; exact r

theorem ARel.empty (ι : Inj) : ARel ι #[] #[] := ⟨rfl, fun i v v' h => by simp at h⟩

theorem ARel.push {ι : Inj} {x x' : Array Value} (h : ARel ι x x') {v v' : Value} (hv : VRel ι v v') : ARel ι (x.push v) (x'.push v') := by
  refine ⟨by simp [h.size], fun i u u' hu hu' => ?_⟩
  rw [Array.getElem?_push] at hu hu'
  rw [← h.size] at hu'
  split at hu
  · rename_i e; simp only [e, if_true] at hu'; cases hu; cases hu'; exact hv
  · rename_i e; simp only [e, if_false] at hu'; exact h.at_ i _ _ hu hu'

theorem ARel.append {ι : Inj} {x x' y y' : Array Value} (h : ARel ι x x') (k : ARel ι y y') : ARel ι (x ++ y) (x' ++ y') := by
  refine ⟨by simp [h.size, k.size], fun i u u' hu hu' => ?_⟩
  by_cases hi : i < x.size
  · rw [Array.getElem?_append_left hi] at hu
    rw [Array.getElem?_append_left (h.size ▸ hi)] at hu'
    exact h.at_ _ _ _ hu hu'
  · rw [Array.getElem?_append_right (by omega)] at hu
    rw [Array.getElem?_append_right (by have := h.size; omega)] at hu'
    rw [← h.size] at hu'
    exact k.at_ _ _ _ hu hu'

theorem ARel.extract {ι : Inj} {x x' : Array Value} (h : ARel ι x x') (a b : Nat) : ARel ι (x.extract a b) (x'.extract a b) := by
  refine ⟨by simp [h.size], fun i u u' hu hu' => ?_⟩
  rw [Array.getElem?_extract] at hu hu'
  rw [← h.size] at hu'
  split at hu
  · rename_i e; simp only [e, if_true] at hu'; exact h.at_ _ _ _ hu hu'
  · simp at hu

theorem ARel.set {ι : Inj} {x x' : Array Value} (h : ARel ι x x') (i : Nat) {v v' : Value} (hv : VRel ι v v') : ARel ι (x.setIfInBounds i v) (x'.setIfInBounds i v') := by
  refine ⟨by simp [h.size], fun j u u' hu hu' => ?_⟩
  rw [Array.getElem?_setIfInBounds] at hu hu'
  rw [← h.size] at hu'
  split at hu
  · rename_i e; simp only [e, if_true] at hu'
    split at hu
    · rename_i e2; rw [if_pos (by omega)] at hu'; cases hu; cases hu'; exact hv
    · cases hu
  · rename_i e; simp only [e, if_false] at hu'; exact h.at_ _ _ _ hu hu'

theorem ARel.map {ι : Inj} {α : Type} (l : Array α) (f f' : α → Value) (h : ∀ x, x ∈ l → VRel ι (f x) (f' x)) : ARel ι (l.map f) (l.map f') := by
  refine ⟨by simp, fun i u u' hu hu' => ?_⟩
  rw [Array.getElem?_map] at hu hu'
  cases hx : l[i]? with
  | none => simp [hx] at hu
  | some x =>
    simp [hx] at hu hu'; subst hu; subst hu'
    exact h x (Array.mem_of_getElem? hx)

theorem VRel.agg' {ι : Inj} {x x' : Array Value} (h : ARel ι x x') : VRel ι (.agg x) (.agg x') := .agg h.size h.at_
theorem VRel.tuple' {ι : Inj} {x x' : Array Value} (h : ARel ι x x') : VRel ι (.tuple x) (.tuple x') := .tuple h.size h.at_
theorem VRel.func' {ι : Inj} {fn fn' : Fn} {x x' c c' : Array Value} (hf : FRel ι fn fn') (h : ARel ι x x') (k : ARel ι c c') : VRel ι (.func fn x c) (.func fn' x' c') := .func hf h.size h.at_ k.size k.at_
theorem VRel.undef {ι : Inj} : VRel ι undef undef := .tuple' (.empty ι)
theorem VRel.goInt {ι : Inj} (n : Int) : VRel ι (goInt n) (goInt n) := .int _ _

def Ext (ι ι' : Inj) : Prop := ∀ b L, ι b = some L → ι' b = some L
theorem Ext.refl (ι : Inj) : Ext ι ι := fun _ _ h => h
theorem Ext.trans {a b c : Inj} (h : Ext a b) (k : Ext b c) : Ext a c := fun _ _ e => k _ _ (h _ _ e)

theorem VRel.mono {ι ι' : Inj} (he : Ext ι ι') {v v' : Value} (h : VRel ι v v') : VRel ι' v v' := by
  induction h with
  | bool b => exact .bool b
  | int k n => exact .int k n
  | float k b => exact .float k b
  | complex k a b => exact .complex k a b
  | string s => exact .string s
  | ptr0 => exact .ptr0
  | ptr o h => exact .ptr o (he _ _ h)
  | sl0 => exact .sl0
  | slX o n c h hc => exact .slX o n c (he _ _ h) hc
  | slL o n sz c h hn hl => exact .slL o n sz c (he _ _ h) hn hl
  | slD o sz a h hl => exact .slD o sz a (he _ _ h) hl
  | slE o a h => exact .slE o a (he _ _ h)
  | map0 => exact .map0
  | map h => exact .map (he _ _ h)
  | chan0 => exact .chan0
  | func hf hx _ hc _ ihx ihc =>
    refine .func ?_ hx (fun i v v' h h' => ihx i v v' h h') hc (fun i v v' h h' => ihc i v v' h h')
    cases hf with
    | func f => exact .func f
    | yield h => exact .yield (he _ _ h)
  | nilFunc => exact .nilFunc
  | iface t _ ih => exact .iface t ih
  | nilIface => exact .nilIface
  | agg hc _ ih => exact .agg hc (fun i v v' h h' => ih i v v' h h')
  | tuple hc _ ih => exact .tuple hc (fun i v v' h h' => ih i v v' h h')

theorem ARel.mono {ι ι' : Inj} (he : Ext ι ι') {x x' : Array Value} (h : ARel ι x x') : ARel ι' x x' := ⟨h.size, fun i v v' a b => (h.at_ i v v' a b).mono he⟩

theorem afL_get : ∀ (l : List Value) (i : Nat) (v : Value), afL l = true → l[i]? = some v → af v = true
  | [], _, _, _, h => by simp at h
  | a :: r, 0, v, h, e => by simp at e; subst e; simp [afL] at h; exact h.1
  | a :: r, i + 1, v, h, e => by simp at e; simp [afL] at h; exact afL_get r i v h.2 e
theorem afA_get (x : Array Value) (i : Nat) (v : Value) (h : afA x = true) (e : x[i]? = some v) : af v = true := by
  obtain ⟨l⟩ := x
  exact afL_get l i v (by simpa [afA] using h) (by simpa using e)

theorem VRel.af_eq {ι : Inj} {v v' : Value} (h : VRel ι v v') : af v = true → v' = v := by
  have arr : ∀ {x x' : Array Value}, x.size = x'.size → (∀ (i : Nat) (v v' : Value), x[i]? = some v → x'[i]? = some v' → af v = true → v' = v) → afA x = true → x' = x := by
    intro x x' hs hp ha
    refine Array.ext hs.symm (fun i h1 h2 => ?_)
    have e1 := Array.getElem?_eq_getElem h1
    have e2 := Array.getElem?_eq_getElem h2
    exact hp i _ _ e2 e1 (afA_get x i _ ha e2)
  induction h with
  | bool | int | float | complex | string | ptr0 | sl0 | map0 | chan0 | nilFunc | nilIface => intro _; rfl
  | ptr o h => intro ha; simp [af] at ha
  | slX o n c h hc => intro ha; simp [af] at ha
  | slL o n sz c h hn hl => intro ha; simp [af] at ha
  | slD o sz a h hl => intro ha; simp [af] at ha
  | slE o a h => intro ha; simp [af] at ha
  | map h => intro ha; simp [af] at ha
  | func hf hx _ hc _ ihx ihc =>
    intro ha
    cases hf with
    | func f =>
      simp only [af, Bool.and_eq_true] at ha
      rw [arr hx (fun i v v' a b c => ihx i v v' a b c) ha.1.2, arr hc (fun i v v' a b c => ihc i v v' a b c) ha.2]
    | yield h => simp [af] at ha
  | iface t _ ih => intro ha; rw [ih (by simpa [af] using ha)]
  | agg hc _ ih => intro ha; rw [arr hc (fun i v v' a b c => ih i v v' a b c) (by simpa [af] using ha)]
  | tuple hc _ ih => intro ha; rw [arr hc (fun i v v' a b c => ih i v v' a b c) (by simpa [af] using ha)]

mutual
theorem VRel.af_refl (ι : Inj) : ∀ (v : Value), af v = true → VRel ι v v
  | .bool b, _ => .bool b
  | .int k n, _ => .int k n
  | .float k n, _ => .float k n
  | .complex k a b, _ => .complex k a b
  | .string s, _ => .string s
  | .pointer none, _ => .ptr0
  | .pointer (some _), h => by simp [af] at h
  | .slice none n c, h => by
    simp only [af, Option.isNone_none, Bool.true_and, Bool.and_eq_true, beq_iff_eq] at h
    rw [h.1, h.2]; exact .sl0
  | .slice (some _) n c, h => by simp [af] at h
  | .map none, _ => .map0
  | .map (some _), h => by simp [af] at h
  | .chan none, _ => .chan0
  | .chan (some _), h => by simp [af] at h
  | .func (.func f) x c, h => by
    simp only [af, Bool.true_and, Bool.and_eq_true] at h
    exact .func' (.func f) (ARel.af_refl ι x h.1) (ARel.af_refl ι c h.2)
  | .func (.method _) x c, h => by simp [af] at h
  | .func (.methodOf _ _) x c, h => by simp [af] at h
  | .func (.via _ _ _ _) x c, h => by simp [af] at h
  | .func (.yield _) x c, h => by simp [af] at h
  | .nilFunc, _ => .nilFunc
  | .iface t v, h => .iface t (VRel.af_refl ι v (by simpa [af] using h))
  | .nilIface, _ => .nilIface
  | .agg x, h => .agg' (ARel.af_refl ι x (by simpa [af] using h))
  | .tuple x, h => .tuple' (ARel.af_refl ι x (by simpa [af] using h))
theorem ARel.af_refl (ι : Inj) : ∀ (x : Array Value), afA x = true → ARel ι x x
  | ⟨l⟩, h => ⟨rfl, fun i v v' e e' => by
      have := ARel.afL_refl ι l (by simpa [afA] using h) i v (by simpa using e)
      rw [e] at e'; cases e'; exact this⟩
theorem ARel.afL_refl (ι : Inj) : ∀ (l : List Value), afL l = true → ∀ (i : Nat) (v : Value), l[i]? = some v → VRel ι v v
  | [], _, _, _, e => by simp at e
  | a :: r, h, 0, v, e => by
    simp at e; subst e; simp only [afL, Bool.and_eq_true] at h; exact VRel.af_refl ι a h.1
  | a :: r, h, i + 1, v, e => by
    simp at e; simp only [afL, Bool.and_eq_true] at h; exact ARel.afL_refl ι r h.2 i v e
end

theorem VRel.cells {ι : Inj} {v v' : Value} (h : VRel ι v v') : ARel ι v.cells v'.cells := by
  have one : ∀ {v v' : Value}, VRel ι v v' → ARel ι #[v] #[v'] := fun h => by simpa using (ARel.empty ι).push h
  have hh := h
  cases h with
  | agg hc hcs => exact ⟨hc, hcs⟩
  | _ => exact one hh

theorem VRel.plain {ι : Inj} {v v' : Value} (h : VRel ι v v') : plainCell v' = plainCell v := by cases h <;> rfl

/-! ### Blocks -/
def OptRel (ι : Inj) : Option Nat → Option Nat → Prop
  | none, none => True
  | some b, some g => ∃ L, ι b = some L ∧ L.g = g
  | _, _ => False

structure LoopRel (ι : Inj) (r r' : Loop) : Prop where
  state : r'.state = r.state
  pending : r'.pending = r.pending
  params : r'.params = r.params
  assign : r'.assign = r.assign
  body : r'.body = r.body
  tmps : ARel ι r.tmps r'.tmps

structure CRel (ι : Inj) (L : Loc) (cs cs' : Array Value) : Prop where
  lim : L.lim = cs'.size
  size : L.base + cs.size ≤ cs'.size
  at_ : ∀ (i : Nat) (v : Value), cs[i]? = some v → ∃ v', cs'[L.base + i]? = some v' ∧ VRel ι v v'

structure ERel (ι : Inj) (es es' : Array MapEntry) : Prop where
  size : es.size = es'.size
  at_ : ∀ (i : Nat) (e e' : MapEntry), es[i]? = some e → es'[i]? = some e' → VRel ι e.key e'.key ∧ VRel ι e.val e'.val ∧ e'.born = e.born

def ORel (ι : Inj) (rw : Prop) (L : Loc) : Obj → Option Obj → Prop
  | .cells cs _ fr, some (.cells cs' _ fr') => CRel ι L cs cs' ∧ (rw → fr' = (0, 0))
  | .map es k, some (.map es' k') => k' = k ∧ ERel ι es es'
  | .stringIter s p, some (.stringIter s' p') => L.base = 0 ∧ s' = s ∧ p' = p
  | .mapIter m a b c, some (.mapIter m' a' b' c') => L.base = 0 ∧ OptRel ι m m' ∧ a' = a ∧ b' = b ∧ c' = c
  | .loop r, some (.loop r') => LoopRel ι r r'
  | .deferred (some []), some (.deferred (some [])) => True
  | .deferred none, some (.deferred none) => True
  | _, _ => False

theorem OptRel.mono {ι ι' : Inj} (he : Ext ι ι') {m m' : Option Nat} (h : OptRel ι m m') : OptRel ι' m m' := by
  cases m <;> cases m' <;> simp_all [OptRel]
  obtain ⟨L, h1, h2⟩ := h; exact ⟨L, he _ _ h1, h2⟩
theorem CRel.mono {ι ι' : Inj} (he : Ext ι ι') {L : Loc} {cs cs' : Array Value} (h : CRel ι L cs cs') : CRel ι' L cs cs' :=
  ⟨h.lim, h.size, fun i v e => let ⟨v', a, b⟩ := h.at_ i v e; ⟨v', a, b.mono he⟩⟩
theorem ERel.mono {ι ι' : Inj} (he : Ext ι ι') {es es' : Array MapEntry} (h : ERel ι es es') : ERel ι' es es' :=
  ⟨h.size, fun i e e' a b => let ⟨x, y, z⟩ := h.at_ i e e' a b; ⟨x.mono he, y.mono he, z⟩⟩
theorem LoopRel.mono {ι ι' : Inj} (he : Ext ι ι') {r r' : Loop} (h : LoopRel ι r r') : LoopRel ι' r r' := { h with tmps := h.tmps.mono he }

theorem ORel.mono {ι ι' : Inj} (he : Ext ι ι') {rw : Prop} {L : Loc} {o : Obj} {o' : Option Obj} (h : ORel ι rw L o o') : ORel ι' rw L o o' := by
  unfold ORel at *
  split at h <;> first
    | exact h.elim
    | trivial
    | exact ⟨h.1.mono he, h.2⟩
    | exact ⟨h.1, h.2.mono he⟩
    | exact h
    | exact ⟨h.1, h.2.1.mono he, h.2.2⟩
    | exact LoopRel.mono he h

structure HRel (ι : Inj) (h : AH) (w : World) : Prop where
  live : ∀ b o, h.get b = some o → ∃ L, ι b = some L ∧ ORel ι (h.ro ≤ b) L o w.heap[L.g]?
  inj : ∀ b c o o' L L', h.get b = some o → h.get c = some o' → ι b = some L → ι c = some L' → h.ro ≤ b → b ≠ c → L.g ≠ L'.g

theorem HRel.sub {ι : Inj} {h h2 : AH} {w : World} (k : HRel ι h w) (hr : h2.ro = h.ro) (hs : ∀ b o, h2.get b = some o → h.get b = some o) : HRel ι h2 w :=
  ⟨fun b o e => by rw [hr]; exact k.live b o (hs b o e), fun b c o o' L L' e1 e2 i1 i2 hb hn => k.inj b c o o' L L' (hs _ _ e1) (hs _ _ e2) i1 i2 (hr ▸ hb) hn⟩

theorem HRel.world {ι : Inj} {h : AH} {w w' : World} (k : HRel ι h w) (hw : w'.heap = w.heap) : HRel ι h w' := ⟨fun b o e => by rw [hw]; exact k.live b o e, k.inj⟩

/-- What is said of the abstract heap alone. -/
structure AStep (h h' : AH) (δ : List Nat) : Prop where
  log : h'.log = δ ++ h.log
  ro : h'.ro = h.ro
  next : h.next ≤ h'.next
  old : ∀ b, b ∉ δ → h'.get b = h.get b
  own : ∀ b, b ∈ δ → (h.next ≤ b ∧ b < h'.next) ∨ (h.ro ≤ b ∧ (h.get b).isSome)

theorem AStep.refl (h : AH) : AStep h h [] := ⟨rfl, rfl, Nat.le_refl _, fun _ _ => rfl, fun b hb => by simp at hb⟩

structure CStep (ι : Inj) (h : AH) (w : World) (ι' : Inj) (h' : AH) (w' : World) (δ : List Nat) : Prop where
  dom : ∀ b, ¬(h.next ≤ b ∧ b < h'.next) → ι' b = ι b
  size : w.heap.size ≤ w'.heap.size
  os : w'.os = w.os
  tape : w'.tape = w.tape
  output : w'.output = w.output
  frame : ∀ g, g < w.heap.size → (∀ b, b ∈ δ → ∀ L, ι b = some L → L.g ≠ g) → w'.heap[g]? = w.heap[g]?
  fresh : ∀ b L, h.next ≤ b → b < h'.next → ι' b = some L → w.heap.size ≤ L.g ∨ ∃ p, p ∈ δ ∧ h'.get p = none ∧ (h.get p).isSome ∧ ∃ L', ι p = some L' ∧ L'.g = L.g
  rel : HRel ι' h' w'

def Free (ι : Inj) (h h' : AH) : Prop := ∀ b, h.next ≤ b → b < h'.next → ι b = none

theorem CStep.ext {ι ι' : Inj} {h h' : AH} {w w' : World} {δ : List Nat} (k : CStep ι h w ι' h' w' δ) (hf : Free ι h h') : Ext ι ι' := by
  intro b L e
  rw [k.dom b (fun hb => by rw [hf b hb.1 hb.2] at e; cases e)]; exact e

theorem CStep.refl {ι : Inj} {h : AH} {w w' : World} (k : HRel ι h w) (hw : w'.heap = w.heap) (ho : w'.os = w.os) (ht : w'.tape = w.tape) (hu : w'.output = w.output) : CStep ι h w ι h w' [] :=
  ⟨fun _ _ => rfl, by rw [hw]; exact Nat.le_refl _, ho, ht, hu, fun g _ _ => by rw [hw], fun b L h1 h2 _ => absurd h2 (by omega), k.world hw⟩

theorem AStep.trans {a b c : AH} {δ ε : List Nat} (h : AStep a b δ) (k : AStep b c ε) : AStep a c (ε ++ δ) := by
  refine ⟨by rw [k.log, h.log, List.append_assoc], k.ro.trans h.ro, Nat.le_trans h.next k.next, fun x hx => ?_, fun x hx => ?_⟩
  · simp at hx; rw [k.old x hx.1, h.old x hx.2]
  · have n1 := h.next; have n2 := k.next
    have hd : x ∈ δ → (a.next ≤ x ∧ x < c.next) ∨ (a.ro ≤ x ∧ (a.get x).isSome) := fun hd => (h.own x hd).imp (fun e => ⟨e.1, by omega⟩) id
    simp at hx
    rcases hx with hx | hx
    · rcases k.own x hx with e | ⟨e1, e2⟩
      · exact .inl ⟨by omega, e.2⟩
      · by_cases hxd : x ∈ δ
        · exact hd hxd
        · rw [h.old x hxd] at e2; exact .inr ⟨h.ro ▸ e1, e2⟩
    · exact hd hx

theorem CStep.trans {ι ι1 ι2 : Inj} {h h1 h2 : AH} {w w1 w2 : World} {δ ε : List Nat} (a1 : AStep h h1 δ) (a2 : AStep h1 h2 ε) (hf : Free ι h h2)
    (k1 : CStep ι h w ι1 h1 w1 δ) (k2 : CStep ι1 h1 w1 ι2 h2 w2 ε) : CStep ι h w ι2 h2 w2 (ε ++ δ) := by
  have hf1 : Free ι h h1 := fun b p q => hf b p (Nat.lt_of_lt_of_le q a2.next)
  have he := k1.ext hf1
  have dead : ∀ p L, h1.get p = none → ι p = some L → h2.get p = none := by
    intro p L hd hL
    by_cases h3 : p ∈ ε
    · rcases a2.own p h3 with q | ⟨_, q⟩
      · rw [hf p (Nat.le_trans a1.next q.1) q.2] at hL; cases hL
      · rw [hd] at q; simp at q
    · rw [a2.old p h3]; exact hd
  refine ⟨fun b hb => ?_, Nat.le_trans k1.size k2.size, k2.os.trans k1.os, k2.tape.trans k1.tape, k2.output.trans k1.output, fun g hg hb => ?_, fun b L hb1 hb2 e => ?_, k2.rel⟩
  · have n1 := a1.next; have n2 := a2.next
    rw [k2.dom b (by omega), k1.dom b (by omega)]
  · have e1 : w1.heap[g]? = w.heap[g]? := k1.frame g hg (fun b hb' L hL => hb b (by simp [hb']) L hL)
    rw [← e1]
    refine k2.frame g (Nat.lt_of_lt_of_le hg k1.size) (fun b hb' L hL => ?_)
    by_cases hr : h.next ≤ b ∧ b < h1.next
    · rcases k1.fresh b L hr.1 hr.2 hL with q | ⟨p, hp, _, _, L', hL', e⟩
      · omega
      · rw [← e]; exact hb p (by simp [hp]) L' hL'
    · rw [k1.dom b hr] at hL; exact hb b (by simp [hb']) L hL
  · by_cases hr : h1.next ≤ b
    · rcases k2.fresh b L hr hb2 e with q | ⟨p, hp, hd, hs, L', hL', eg⟩
      · exact .inl (Nat.le_trans k1.size q)
      · by_cases hp1 : h.next ≤ p ∧ p < h1.next
        · rcases k1.fresh p L' hp1.1 hp1.2 hL' with q | ⟨p2, hp2, hd2, hs2, L2, hL2, eg2⟩
          · exact .inl (eg ▸ q)
          · exact .inr ⟨p2, by simp [hp2], dead p2 L2 hd2 hL2, hs2, L2, hL2, eg2.trans eg⟩
        · rw [k1.dom p hp1] at hL'
          refine .inr ⟨p, by simp [hp], hd, ?_, L', hL', eg⟩
          by_cases hd1 : p ∈ δ
          · rcases a1.own p hd1 with q | ⟨_, q⟩
            · exact absurd q hp1
            · exact q
          · rw [a1.old p hd1] at hs; exact hs
    · have hb3 : b < h1.next := by omega
      rw [k2.dom b (by omega)] at e
      rcases k1.fresh b L hb1 hb3 e with q | ⟨p, hp, hd, hs, L', hL', eg⟩
      · exact .inl q
      · exact .inr ⟨p, by simp [hp], dead p L' hd hL', hs, L', hL', eg⟩
end Go.Ags

namespace Go.Ags

structure Did (ι : Inj) (h : AH) (w : World) (ι' : Inj) (h' : AH) (w' : World) (δ : List Nat) : Prop where
  a : AStep h h' δ
  c : CStep ι h w ι' h' w' δ

structure Same (w w' : World) : Prop where
  os : w'.os = w.os
  tape : w'.tape = w.tape
  output : w'.output = w.output

theorem Same.refl (w : World) : Same w w := ⟨rfl, rfl, rfl⟩

theorem Did.refl {ι : Inj} {h : AH} {w w' : World} (k : HRel ι h w) (hw : w'.heap = w.heap) (hs : Same w w') : Did ι h w ι h w' [] :=
  ⟨.refl h, .refl k hw hs.os hs.tape hs.output⟩

theorem Did.trans {ι ι1 ι2 : Inj} {h h1 h2 : AH} {w w1 w2 : World} {δ ε : List Nat} (hf : Free ι h h2)
    (k1 : Did ι h w ι1 h1 w1 δ) (k2 : Did ι1 h1 w1 ι2 h2 w2 ε) : Did ι h w ι2 h2 w2 (ε ++ δ) :=
  ⟨k1.a.trans k2.a, .trans k1.a k2.a hf k1.c k2.c⟩

theorem Did.ext {ι ι' : Inj} {h h' : AH} {w w' : World} {δ : List Nat} (k : Did ι h w ι' h' w' δ) (hf : Free ι h h') : Ext ι ι' := k.c.ext hf

theorem Did.free2 {ι ι1 : Inj} {h h1 h2 : AH} {w w1 : World} {δ : List Nat} (k : Did ι h w ι1 h1 w1 δ) (hf : Free ι h h2) : Free ι1 h1 h2 := fun b p q => by
  rw [k.c.dom b (by omega)]; exact hf b (Nat.le_trans k.a.next p) q

def upd (ι : Inj) (b : Nat) (L : Loc) : Inj := fun c => if c = b then some L else ι c
@[simp] theorem upd_same (ι : Inj) (b : Nat) (L : Loc) : upd ι b L b = some L := by simp [upd]
theorem upd_ne (ι : Inj) {b c : Nat} (L : Loc) (h : c ≠ b) : upd ι b L c = ι c := by simp [upd, h]
theorem upd_ext {ι : Inj} {b : Nat} (L : Loc) (h : ι b = none) : Ext ι (upd ι b L) := fun c M e => by
  rw [upd_ne]; exact e
  intro e2; subst e2; rw [h] at e; cases e

theorem ORel.some {ι : Inj} {p : Prop} {L : Loc} {o : Obj} {x : Option Obj} (h : ORel ι p L o x) : x.isSome := by
  unfold ORel at h; split at h <;> first | rfl | exact h.elim

theorem HRel.lt {ι : Inj} {h : AH} {w : World} (k : HRel ι h w) {b : Nat} {o : Obj} {L : Loc} (e : h.get b = some o) (i : ι b = some L) : L.g < w.heap.size := by
  obtain ⟨L', i', r⟩ := k.live b o e
  rw [i] at i'; cases i'
  have := r.some
  cases hx : w.heap[L.g]? with
  | none => rw [hx] at this; simp at this
  | some x => exact (Array.getElem?_eq_some_iff.1 hx).1

/-- A new block. -/
theorem Did.new {ι : Inj} {h : AH} {w w' : World} {o o' : Obj} (lim : Nat) (k : HRel ι h w) (hf : ι h.next = none) (hw : w'.heap = w.heap.push o') (hs : Same w w')
    (hro : ORel (upd ι h.next ⟨w.heap.size, 0, lim⟩) True ⟨w.heap.size, 0, lim⟩ o (some o')) :
    Did ι h w (upd ι h.next ⟨w.heap.size, 0, lim⟩) (h.new o) w' [h.next] := by
  have hdead : h.get h.next = none := by
    cases e : h.get h.next with
    | none => rfl
    | some x => obtain ⟨L, i, _⟩ := k.live _ _ e; rw [hf] at i; cases i
  have hx := upd_ext ⟨w.heap.size, 0, lim⟩ hf
  refine ⟨⟨rfl, rfl, by simp, fun b hb => ?_, fun b hb => ?_⟩, ⟨fun b hb => ?_, ?_, hs.os, hs.tape, hs.output, fun g hg _ => ?_, fun b L h1 h2 e => ?_, ⟨fun b x e => ?_, fun b c x x' L L' e1 e2 i1 i2 hb hn => ?_⟩⟩⟩
  · simp at hb; simp [hb]
  · simp at hb; subst hb; exact .inl ⟨Nat.le_refl _, by simp⟩
  · simp at hb; exact upd_ne _ _ (by omega)
  · rw [hw]; simp
  · rw [hw, Array.getElem?_push, if_neg (by omega)]
  · simp at h2; obtain rfl : b = h.next := by omega
    simp at e; subst e; exact .inl (Nat.le_refl _)
  · simp at e
    split at e
    · rename_i eb; subst eb; cases e
      refine ⟨_, upd_same _ _ _, ?_⟩
      rw [hw]; simp
      unfold ORel at hro ⊢
      split at hro <;> first
        | exact hro.elim
        | trivial
        | exact ⟨hro.1, fun _ => hro.2 trivial⟩
        | exact hro
    · rename_i eb
      obtain ⟨L, i, r⟩ := k.live b x e
      refine ⟨L, hx _ _ i, ?_⟩
      have hl := k.lt e i
      rw [hw, Array.getElem?_push, if_neg (by omega)]
      exact r.mono hx
  · simp at e1 e2
    split at e1 <;> split at e2
    · omega
    · rename_i eb ec
      subst eb; rw [upd_same] at i1; rw [upd_ne _ _ ec] at i2; cases i1
      have := k.lt e2 i2; simp; omega
    · rename_i eb ec
      subst ec; rw [upd_same] at i2; rw [upd_ne _ _ eb] at i1; cases i2
      have := k.lt e1 i1; simp; omega
    · rename_i eb ec
      rw [upd_ne _ _ eb] at i1; rw [upd_ne _ _ ec] at i2
      exact k.inj b c x x' L L' e1 e2 i1 i2 hb hn

/-- A block of one's own is written. -/
theorem Did.put {ι : Inj} {h : AH} {w w' : World} {b : Nat} {L : Loc} {o0 o o' : Obj} (k : HRel ι h w) (hb : h.get b = some o0) (hro : h.ro ≤ b) (hL : ι b = some L)
    (hw : w'.heap = w.heap.setIfInBounds L.g o') (hs : Same w w') (hr : ORel ι (h.ro ≤ b) L o (some o')) :
    Did ι h w ι (h.put b (some o)) w' [b] := by
  have hlt := k.lt hb hL
  refine ⟨⟨rfl, rfl, by simp, fun c hc => ?_, fun c hc => ?_⟩, ⟨fun _ _ => rfl, by rw [hw]; simp, hs.os, hs.tape, hs.output, fun g hg hd => ?_, fun c M h1 h2 _ => ?_, ⟨fun c x e => ?_, fun c d x x' M M' e1 e2 i1 i2 hc hn => ?_⟩⟩⟩
  · simp at hc; simp [hc]
  · simp at hc; subst hc; exact .inr ⟨hro, by simp [hb]⟩
  · have := hd b (by simp) L hL
    rw [hw, Array.getElem?_setIfInBounds_ne this]
  · simp at h2; omega
  · simp at e
    split at e
    · rename_i ec; subst ec; cases e
      exact ⟨L, hL, by rw [hw]; simpa [hlt] using hr⟩
    · rename_i ec
      obtain ⟨M, i, r⟩ := k.live c x e
      have hne := k.inj b c o0 x L M hb e hL i hro (fun q => ec q.symm)
      exact ⟨M, i, by rw [hw, Array.getElem?_setIfInBounds_ne hne]; exact r⟩
  · have old : ∀ q y, (h.put b (some o)).get q = some y → ∃ y', h.get q = some y' := by
      intro q y e; simp at e; split at e
      · rename_i eq; subst eq; exact ⟨_, hb⟩
      · exact ⟨_, e⟩
    obtain ⟨y1, q1⟩ := old _ _ e1
    obtain ⟨y2, q2⟩ := old _ _ e2
    exact k.inj c d y1 y2 M M' q1 q2 i1 i2 hc hn

/-- A block dies, and another one takes its place (or a fresh one). -/
theorem Did.move {ι : Inj} {h : AH} {w w' : World} {b : Nat} {L L2 : Loc} {o0 o o' : Obj} (k : HRel ι h w) (hb : h.get b = some o0) (hro : h.ro ≤ b) (hL : ι b = some L) (hf : ι h.next = none)
    (hg : L2.g = L.g) (hw : w'.heap = w.heap.setIfInBounds L.g o') (hs : Same w w') (hr : ORel (upd ι h.next L2) True L2 o (some o')) :
    Did ι h w (upd ι h.next L2) ((h.put b none).new o) w' [h.next, b] := by
  have hlt := k.lt hb hL
  have hbn : b ≠ h.next := fun e => by rw [e] at hL; rw [hf] at hL; cases hL
  have hx := upd_ext L2 hf
  refine ⟨⟨rfl, rfl, by simp, fun c hc => ?_, fun c hc => ?_⟩, ⟨fun c hc => ?_, by rw [hw]; simp, hs.os, hs.tape, hs.output, fun g hg2 hd => ?_, fun c M h1 h2 e => ?_, ⟨fun c x e => ?_, fun c d x x' M M' e1 e2 i1 i2 hc hn => ?_⟩⟩⟩
  · simp at hc; simp [hc]
  · simp at hc; rcases hc with rfl | rfl
    · exact .inl ⟨Nat.le_refl _, by simp⟩
    · exact .inr ⟨hro, by simp [hb]⟩
  · simp at hc; exact upd_ne _ _ (by omega)
  · have := hd b (by simp) L hL
    rw [hw, Array.getElem?_setIfInBounds_ne this]
  · simp at h2; obtain rfl : c = h.next := by omega
    simp at e; subst e
    exact .inr ⟨b, by simp, by simp [hbn], by simp [hb], L, hL, hg.symm⟩
  · simp at e
    split at e
    · rename_i ec; subst ec; cases e
      refine ⟨L2, upd_same _ _ _, ?_⟩
      rw [hw, hg]; simp only [Array.getElem?_setIfInBounds, hlt, if_true]
      unfold ORel at hr ⊢
      split at hr <;> first
        | exact hr.elim
        | trivial
        | exact ⟨hr.1, fun _ => hr.2 trivial⟩
        | exact hr
    · rename_i ec
      split at e
      · cases e
      · rename_i eb
        obtain ⟨M, i, r⟩ := k.live c x e
        have hne := k.inj b c o0 x L M hb e hL i hro (fun q => eb q.symm)
        exact ⟨M, hx _ _ i, by rw [hw, Array.getElem?_setIfInBounds_ne hne]; exact r.mono hx⟩
  · simp at e1 e2
    by_cases c1 : c = h.next
    · subst c1
      have dn : ¬ d = h.next := fun q => hn q.symm
      rw [if_neg dn] at e2
      rw [upd_same] at i1; rw [upd_ne _ _ dn] at i2; cases i1
      split at e2
      · cases e2
      · rename_i db
        rw [hg]; exact k.inj b d o0 x' L M' hb e2 hL i2 hro (fun q => db q.symm)
    · rw [if_neg c1] at e1
      rw [upd_ne _ _ c1] at i1
      split at e1
      · cases e1
      · rename_i cb
        by_cases d1 : d = h.next
        · subst d1
          rw [upd_same] at i2; cases i2
          rw [hg]; exact k.inj c b x o0 M L e1 hb i1 hL hc cb
        · rw [if_neg d1] at e2; rw [upd_ne _ _ d1] at i2
          split at e2
          · cases e2
          · exact k.inj c d x x' M M' e1 e2 i1 i2 hc hn

/-- A block dies; a new one comes. -/
theorem Did.fresh {ι : Inj} {h : AH} {w w' : World} {b : Nat} {o0 o o' : Obj} (lim : Nat) (k : HRel ι h w) (hb : h.get b = some o0) (hro : h.ro ≤ b) (hf : ι h.next = none)
    (hw : w'.heap = w.heap.push o') (hs : Same w w') (hr : ORel (upd ι h.next ⟨w.heap.size, 0, lim⟩) True ⟨w.heap.size, 0, lim⟩ o (some o')) :
    Did ι h w (upd ι h.next ⟨w.heap.size, 0, lim⟩) ((h.put b none).new o) w' [h.next, b] := by
  have hk : HRel ι (h.put b none) w := k.sub rfl (fun c x e => by simp at e; exact e.2)
  have hd : Did ι h w ι (h.put b none) w [b] := by
    refine ⟨⟨rfl, rfl, by simp, fun c hc => ?_, fun c hc => ?_⟩, ⟨fun _ _ => rfl, Nat.le_refl _, rfl, rfl, rfl, fun g _ _ => rfl, fun c M h1 h2 _ => ?_, hk⟩⟩
    · simp at hc; simp [hc]
    · simp at hc; subst hc; exact .inr ⟨hro, by simp [hb]⟩
    · simp at h2; omega
  exact Did.trans (fun c p q => by simp at q; obtain rfl : c = h.next := by omega
                                   exact hf) hd (Did.new (h := h.put b none) lim hk hf hw hs hr)
end Go.Ags
