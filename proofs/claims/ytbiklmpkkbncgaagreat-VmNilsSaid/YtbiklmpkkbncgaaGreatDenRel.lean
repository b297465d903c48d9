/- What an abstract value says of a value in a world; what stays. -/
import Derived.Test.YtbiklmpkkbncgaaGreatDenDen
import Derived.Below
set_option linter.unusedSimpArgs false
set_option linter.unusedVariables false
set_option linter.unnecessarySimpa false
namespace Go.Den
open Go

inductive Gh where
  | none
  | blk (b : Nat)
  | tk (a : Option Addr) (cap z : Nat)

/-- A context: cells that must not be touched, the heap of objects, where each lies, the world. -/
structure Cx where
  Fr : Nat → Nat → Prop
  h : List Den.Obj
  g : List Gh
  w : World

def mapO : Den.Obj → Bool
  | .map .. => true
  | _ => false

def ownI : Den.Obj → Gh → Nat → Nat → Prop
  | .var _, .blk b', b, _ => b = b'
  | .arr .., .blk b', b, _ => b = b'
  | .map .., .blk b', b, _ => b = b'
  | .sit .., .blk b', b, _ => b = b'
  | .tok n, .tk (some a) cap z, b, off => b = a.block ∧ a.off + n * z ≤ off ∧ off < a.off + cap * z
  | _, _, _, _ => False

def Cx.own (c : Cx) (b off : Nat) : Prop := ∃ (i : Nat) (o : Den.Obj) (gh : Gh), c.h[i]? = some o ∧ c.g[i]? = some gh ∧ ownI o gh b off
def Cx.stable (c : Cx) (b off : Nat) : Prop := ¬ c.Fr b off ∧ ¬ c.own b off

/-- the object is there -/
def bornO : Den.Obj → Prop
  | .unborn => False
  | _ => True
def Cx.born (c : Cx) (i : Nat) : Prop := ∃ o, c.h[i]? = some o ∧ bornO o

/-- no later than the object stands -/
def Cx.oldg (c : Cx) (i gen : Nat) : Prop := ∀ z g n f, c.h[i]? = some (.arr z g n f) → gen ≤ g
def Cx.okr (c : Cx) (i gen : Nat) : Prop := c.born i ∧ c.oldg i gen

/-- where a place of an object lies -/
def Cx.adr (c : Cx) (i gen row off : Nat) : Option (Nat × Nat) :=
  match c.h[i]?, c.g[i]? with
  | some (.var _), some (.blk b) => if gen = 0 ∧ row = 0 then some (b, off) else none
  | some (.arr z gen' _ _), some (.blk b) => if gen = gen' then some (b, row * z + off) else none
  | _, _ => none

/-- how large a row is, and how large the block that has the rows -/
def Cx.siz (c : Cx) (i gen : Nat) : Option (Nat × Nat) :=
  match c.h[i]?, c.g[i]? with
  | some (.arr z gen' _ _), some (.blk b) => if gen = gen' then (match c.w.heap[b]? with
    | some (.cells arr _ _) => some (z, arr.size)
    | _ => none) else none
  | _, _ => none

def Atom : Value → Prop
  | .agg _ | .tuple _ => False
  | _ => True

/-- may it be the value of one cell? -/
def AtomA : AV → Prop
  | .agg _ | .tup _ | .top | .gd _ _ => False
  | _ => True

/-- It does not lead into the heap of objects. -/
inductive PureA : AV → Prop
  | int (k : IntKind) (n : Int) : PureA (.int k n)
  | bool (b : Bool) : PureA (.bool b)
  | str (s : List UInt8) : PureA (.str s)
  | flt (b : Nat) : PureA (.flt b)
  | nil : PureA .nil
  | nils : PureA .nils
  | nilfn : PureA .nilfn
  | nilifc : PureA .nilifc
  | nilmap : PureA .nilmap
  | dk : PureA .dk
  | fn (f : FuncId) : PureA (.fn f [])
  | ifc (t : Nat) (v : AV) : plainA v = true → PureA (.ifc t v)
  | sl (z : Nat) (t : Tok) (n : Nat) (f : Fin n → List AV) : (∀ i, t ≠ .id i) → (∀ i, ∀ u, u ∈ f i → PureA u) → (∀ i, ∀ u, u ∈ f i → AtomA u) → PureA (.sl z t n f)

inductive VR (c : Cx) : AV → Value → Prop
  | top (x : Value) : VR c .top x
  | dk (x : Value) : Atom x → VR c .dk x
  | int (k : IntKind) (n : Int) : VR c (.int k n) (.int k n)
  | bool (b : Bool) : VR c (.bool b) (.bool b)
  | str (l : List UInt8) (s : ByteArray) : s.data.toList = l → VR c (.str l) (.string s)
  | flt (b : Nat) : VR c (.flt b) (.float .f64 b)
  | nil : VR c .nil (.pointer none)
  | ptr (i gen row off : Nat) (x : Value) : c.okr i gen → Atom x → (∀ b o, c.adr i gen row off = some (b, o) → x = .pointer (some ⟨b, o, none⟩)) → VR c (.ptr i gen row off) x
  | pp (row : List AV) (off b o : Nat) (val : Nat → Value) : (∀ u ∈ row, PureA u ∧ AtomA u) →
      (∀ j, j < row.length → c.stable b (o + j) ∧ c.w.cell? ⟨b, o + j, none⟩ = some (val j)) →
      (∀ (j : Nat) (u : AV), row[j]? = some u → VR c u (val j)) → VR c (.pp row off) (.pointer (some ⟨b, o + off, none⟩))
  | nils : VR c .nils (.slice none 0 0)
  | sl (z : Nat) (t : Tok) (n : Nat) (f : Fin n → List AV) (a : Option Addr) (cap : Nat) (val : Nat → Nat → Value) :
      n ≤ cap → (t = .tight → cap = n) → (∀ i, (f i).length = z) → (∀ i, ∀ u ∈ f i, PureA u ∧ AtomA u) →
      (a = none → n = 0 ∧ cap = 0) → (∀ ad, a = some ad → 0 < cap → ad.spot = none) →
      (∀ (i : Fin n) (j : Nat), j < z → ∀ ad, a = some ad → c.stable ad.block (ad.off + i.1 * z + j) ∧ c.w.cell? ⟨ad.block, ad.off + i.1 * z + j, none⟩ = some (val i.1 j)) →
      (∀ (i : Fin n) (j : Nat) (u : AV), (f i)[j]? = some u → VR c u (val i.1 j)) →
      (∀ (i : Nat), t = .id i → c.born i ∧ ∀ N a' cap' z', c.h[i]? = some (.tok N) → c.g[i]? = some (.tk a' cap' z') → n ≤ N ∧ (n = N → a' = a ∧ cap' = cap ∧ z' = z)) →
      VR c (.sl z t n f) (.slice a n cap)
  | sr (i gen off len : Nat) (a : Option Addr) (cap : Nat) : c.okr i gen → len ≤ cap → ((a = none → cap = 0) ∧ ∀ ad, a = some ad → ad.spot = none) →
      (∀ b o, c.adr i gen off 0 = some (b, o) → 0 < cap → a = some ⟨b, o, none⟩) → (∀ z s, c.siz i gen = some (z, s) → (off + cap) * z ≤ s) → VR c (.sr i gen off len) (.slice a len cap)
  | fn (f : FuncId) (cap : List AV) (arr : Array Value) : arr.size = cap.length → (∀ (j : Nat) (u : AV) (v : Value), cap[j]? = some u → arr[j]? = some v → VR c u v) →
      VR c (.fn f cap) (.func (.func f) #[] arr)
  | nilfn : VR c .nilfn .nilFunc
  | ifc (t : Nat) (v : AV) (x : Value) : VR c v x → VR c (.ifc t v) (.iface t x)
  | nilifc : VR c .nilifc .nilIface
  | agg (cs : List AV) (arr : Array Value) : arr.size = cs.length → (∀ u ∈ cs, AtomA u) → (∀ (j : Nat) (u : AV) (v : Value), cs[j]? = some u → arr[j]? = some v → VR c u v) → VR c (.agg cs) (.agg arr)
  | tup (vs : List AV) (arr : Array Value) : arr.size = vs.length → (∀ (j : Nat) (u : AV) (v : Value), vs[j]? = some u → arr[j]? = some v → VR c u v) → VR c (.tup vs) (.tuple arr)
  | map (i : Nat) (x : Value) : c.born i → Atom x → (∀ o b, c.h[i]? = some o → mapO o = true → c.g[i]? = some (.blk b) → x = .map (some b)) → VR c (.map i) x
  | nilmap : VR c .nilmap (.map none)

/-- from one context to a later one -/
structure Ext (c c' : Cx) : Prop where
  cell : ∀ b off, c.stable b off → ∀ v, c.w.cell? ⟨b, off, none⟩ = some v → c'.stable b off ∧ c'.w.cell? ⟨b, off, none⟩ = some v
  len : c.h.length ≤ c'.h.length
  born : ∀ i, c.born i → c'.born i
  old : ∀ i gen, c.okr i gen → c'.okr i gen
  adr : ∀ (i gen row off : Nat) p, c.okr i gen → c'.adr i gen row off = some p → c.adr i gen row off = some p
  tok : ∀ (i N : Nat) a cap z, c.born i → c'.h[i]? = some (.tok N) → c'.g[i]? = some (.tk a cap z) →
    ∃ N₀ a₀ cap₀ z₀, c.h[i]? = some (.tok N₀) ∧ c.g[i]? = some (.tk a₀ cap₀ z₀) ∧ N₀ ≤ N ∧ (N₀ = N → a = a₀ ∧ cap = cap₀ ∧ z = z₀)
  map : ∀ (i : Nat) o b, c.born i → c'.h[i]? = some o → mapO o = true → c'.g[i]? = some (.blk b) → ∃ o₀, c.h[i]? = some o₀ ∧ mapO o₀ = true ∧ c.g[i]? = some (.blk b)
  siz : ∀ (i gen : Nat) p, c.okr i gen → c'.siz i gen = some p → c.siz i gen = some p

theorem Ext.refl (c : Cx) : Ext c c :=
  ⟨fun _ _ h _ hv => ⟨h, hv⟩, Nat.le_refl _, fun _ h => h, fun _ _ h => h, fun _ _ _ _ _ _ h => h, fun _ N a cap z _ h h' => ⟨N, a, cap, z, h, h', Nat.le_refl _, fun _ => ⟨rfl, rfl, rfl⟩⟩,
    fun _ o _ _ h hm h' => ⟨o, h, hm, h'⟩, fun _ _ _ _ h => h⟩

theorem Ext.trans {a b c : Cx} (h : Ext a b) (k : Ext b c) : Ext a c where
  cell := fun p q hs v hv => let ⟨h1, h2⟩ := h.cell p q hs v hv; k.cell p q h1 v h2
  len := Nat.le_trans h.len k.len
  born := fun i hi => k.born i (h.born i hi)
  old := fun i gen hi => k.old i gen (h.old i gen hi)
  adr := fun i gen row off p hi hp => h.adr i gen row off p hi (k.adr i gen row off p (h.old i gen hi) hp)
  tok := fun i N a cap z hi h1 h2 => by
    obtain ⟨N₁, a₁, cap₁, z₁, e1, e2, hle, heq⟩ := k.tok i N a cap z (h.born i hi) h1 h2
    obtain ⟨N₀, a₀, cap₀, z₀, f1, f2, hle', heq'⟩ := h.tok i N₁ a₁ cap₁ z₁ hi e1 e2
    refine ⟨N₀, a₀, cap₀, z₀, f1, f2, Nat.le_trans hle' hle, fun e => ?_⟩
    have e1 : N₁ = N := by omega
    have e0 : N₀ = N₁ := by omega
    obtain ⟨x, y, u⟩ := heq e1
    obtain ⟨x', y', u'⟩ := heq' e0
    exact ⟨x.trans x', y.trans y', u.trans u'⟩
  map := fun i o b hi h1 hm h2 => by
    obtain ⟨o₁, e1, em, e2⟩ := k.map i o b (h.born i hi) h1 hm h2
    exact h.map i o₁ b hi e1 em e2
  siz := fun i gen p hi e => h.siz i gen p hi (k.siz i gen p (h.old i gen hi) e)

theorem VR.ext {c c' : Cx} (hx : Ext c c') {u : AV} {x : Value} (h : VR c u x) : VR c' u x := by
  induction h with
  | top x => exact .top x
  | dk x h => exact .dk x h
  | int k n => exact .int k n
  | bool b => exact .bool b
  | str l s h => exact .str l s h
  | flt b => exact .flt b
  | nil => exact .nil
  | ptr i gen row off x hi ha h => exact .ptr i gen row off x (hx.old _ _ hi) ha fun b o e => h b o (hx.adr _ _ _ _ _ hi e)
  | pp row off b o val hp hc _ ih => exact .pp row off b o val hp (fun j hj => hx.cell _ _ (hc j hj).1 _ (hc j hj).2) ih
  | nils => exact .nils
  | sl z t n f a cap val h1 h2 h3 h4 h5 h6 h7 _ h9 ih =>
    refine .sl z t n f a cap val h1 h2 h3 h4 h5 h6 (fun i j hj ad e => hx.cell _ _ (h7 i j hj ad e).1 _ (h7 i j hj ad e).2) ih fun i e => ?_
    obtain ⟨hi, hk⟩ := h9 i e
    refine ⟨hx.born _ hi, fun N a' cap' z' e1 e2 => ?_⟩
    obtain ⟨N₀, a₀, cap₀, z₀, f1, f2, hle, heq⟩ := hx.tok i N a' cap' z' hi e1 e2
    obtain ⟨hn, hN⟩ := hk _ _ _ _ f1 f2
    refine ⟨Nat.le_trans hn hle, fun e => ?_⟩
    have e0 : N₀ = N := by omega
    obtain ⟨p, q, r⟩ := heq e0
    obtain ⟨p', q', r'⟩ := hN (by omega)
    exact ⟨p.trans p', q.trans q', r.trans r'⟩
  | sr i gen off len a cap hi hl hn h hz => exact .sr i gen off len a cap (hx.old _ _ hi) hl hn (fun b o e => h b o (hx.adr _ _ _ _ _ hi e)) fun z s e => hz z s (hx.siz _ _ _ hi e)
  | fn f cap arr hs _ ih => exact .fn f cap arr hs ih
  | nilfn => exact .nilfn
  | ifc t v x _ ih => exact .ifc t v x ih
  | nilifc => exact .nilifc
  | agg cs arr hs ha _ ih => exact .agg cs arr hs ha ih
  | tup vs arr hs _ ih => exact .tup vs arr hs ih
  | map i x hi ha h =>
    refine .map i x (hx.born _ hi) ha fun o b e1 em e2 => ?_
    obtain ⟨o₀, f1, fm, f2⟩ := hx.map i o b hi e1 em e2
    exact h _ _ f1 fm f2
  | nilmap => exact .nilmap

/-- What does not lead into the heap stays wherever stable cells stay. -/
theorem VR.pure {c c' : Cx} (hx : ∀ b off, c.stable b off → ∀ v, c.w.cell? ⟨b, off, none⟩ = some v → c'.stable b off ∧ c'.w.cell? ⟨b, off, none⟩ = some v)
    {u : AV} {x : Value} (h : VR c u x) (hp : PureA u) : VR c' u x := by
  induction h with
  | sl z t n f a cap val h1 h2 h3 h4 h5 h6 h7 _ h9 ih =>
    cases hp with
    | sl _ _ _ _ ht hf ha =>
      exact .sl z t n f a cap val h1 h2 h3 h4 h5 h6 (fun i j hj ad e => hx _ _ (h7 i j hj ad e).1 _ (h7 i j hj ad e).2)
        (fun i j u e => ih i j u e (h4 i u (List.mem_of_getElem? e)).1) fun i e => absurd e (ht i)
  | ifc t v x h ih =>
    cases hp with
    | ifc _ _ hv =>
      cases h <;> simp [plainA] at hv
      · exact .ifc _ _ _ (.int _ _)
      · exact .ifc _ _ _ (.bool _)
      · rename_i l s hs; exact .ifc _ _ _ (.str l s hs)
      · exact .ifc _ _ _ (.flt _)
  | fn f cap arr hs _ _ =>
    cases hp
    exact .fn f [] arr hs fun j u v e => by simp at e
  | int k n => exact .int k n
  | bool b => exact .bool b
  | str l s h => exact .str l s h
  | flt b => exact .flt b
  | nil => exact .nil
  | nils => exact .nils
  | nilfn => exact .nilfn
  | nilifc => exact .nilifc
  | nilmap => exact .nilmap
  | dk x h => exact .dk x h
  | top => cases hp
  | ptr => cases hp
  | pp => cases hp
  | sr => cases hp
  | agg => cases hp
  | tup => cases hp
  | map => cases hp

/-- keys do not lead into the heap -/
theorem VR.kd {c c' : Cx} {k : Kd} {u : AV} {x : Value} (h : VR c u x) (hk : kdOK k u = true) : VR c' u x := by
  cases h <;> cases k <;> simp only [kdOK, Bool.false_eq_true] at hk
  · exact .int _ _
  · exact .bool _
  · rename_i hs; exact .str _ _ hs
theorem VR.kds {c c' : Cx} : ∀ {ks : List Kd} {cs : List AV} {arr : List Value}, kdsOK ks cs = true → (∀ (j : Nat) (u : AV) (v : Value), cs[j]? = some u → arr[j]? = some v → VR c u v) →
    ∀ (j : Nat) (u : AV) (v : Value), cs[j]? = some u → arr[j]? = some v → VR c' u v
  | [], [], _, _, _, j, u, v, e, _ => by simp at e
  | k :: ks, w :: ws, [], _, _, j, u, v, _, e => by simp at e
  | k :: ks, w :: ws, y :: ys, hk, h, 0, u, v, e1, e2 => by
    simp only [kdsOK, Bool.and_eq_true] at hk
    have := h 0 u v e1 e2
    simp only [List.getElem?_cons_zero, Option.some.injEq] at e1
    subst e1
    exact this.kd hk.1
  | k :: ks, w :: ws, y :: ys, hk, h, j + 1, u, v, e1, e2 => by
    simp only [kdsOK, Bool.and_eq_true] at hk
    exact VR.kds hk.2 (fun i u v e1 e2 => h (i + 1) u v e1 e2) j u v e1 e2
  | [], _ :: _, _, hk, _, _, _, _, _, _ => by simp [kdsOK] at hk
  | _ :: _, [], _, hk, _, _, _, _, _, _ => by simp [kdsOK] at hk
theorem VR.key {c c' : Cx} {a : Bool} {ks : List Kd} {u : AV} {x : Value} (h : VR c u x) (hk : keyKd a ks u = true) : VR c' u x := by
  cases u
  case agg cs =>
    simp only [keyKd, Bool.and_eq_true] at hk
    cases h with
    | agg _ arr hs ha hv => exact .agg cs arr hs ha fun j u v e1 e2 => VR.kds hk.2 (arr := arr.toList) (fun j u v e1 e2 => hv j u v e1 (by simpa using e2)) j u v e1 (by simpa using e2)
  all_goals
    simp only [keyKd, Bool.and_eq_true] at hk
    have hk := hk.2
    cases ks with
    | nil => simp [kdsOK] at hk
    | cons k ks =>
      simp only [kdsOK, Bool.and_eq_true] at hk
      exact h.kd hk.1

theorem VR.atom {c : Cx} {u : AV} {x : Value} (h : VR c u x) (ha : AtomA u) : Atom x := by
  cases h <;> first | exact trivial | assumption | exact ha.elim

end Go.Den
