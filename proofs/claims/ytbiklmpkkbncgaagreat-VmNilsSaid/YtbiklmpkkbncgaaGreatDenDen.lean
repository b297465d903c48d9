/- A second reading of a translated Go program: 'den', a function of plain data (no world, no tape): definitions alone. -/
import GoSem.Dispatch
set_option linter.unusedSimpArgs false
set_option linter.unusedVariables false
set_option linter.unnecessarySimpa false
namespace Go.Den
open Go

inductive Tok where
  | no | tight | id (i : Nat)

inductive AV where
  | top
  | dk
  | int (k : IntKind) (n : Int)
  | bool (b : Bool)
  | str (s : List UInt8)
  | flt (b : Nat)
  | nil
  | ptr (i gen row off : Nat)
  | pp (row : List AV) (off : Nat)
  | nils
  | sl (z : Nat) (t : Tok) (n : Nat) (f : Fin n → List AV)
  | sr (i gen off len : Nat)
  | fn (f : FuncId) (cap : List AV)
  | nilfn
  | ifc (t : Nat) (v : AV)
  | nilifc
  | agg (cs : List AV)
  | tup (vs : List AV)
  | map (i : Nat)
  | nilmap
  | gd (js : List (Nat × Bool)) (v : AV)

abbrev Row := List AV

/-- what a cell looks like -/
inductive Kd where
  | int (k : IntKind) | bool | str | flt | sl (z : Nat) | other
  deriving DecidableEq

inductive Obj where
  | dead
  | unborn
  | var (cs : List AV)
  | arr (z gen n : Nat) (f : Fin n → Row)
  | tok (n : Nat)
  | map (a : Bool) (ks : List Kd) (n : Nat) (f : Fin n → AV × AV)
  | sit (s : List UInt8) (pos : Nat)

inductive Exit where
  | normal | exit (i : Nat) | ret | pan (v : AV)

/-- how a frame was called: plainly; deferred over a frame that returns, that panics with v, that panicked with what has been recovered -/
inductive PS where
  | plain | over | pan (v : AV) | met

/-- what a frame has besides its slots: the heap, its deferred calls, how it was called -/
structure Hs where
  h : List Obj
  ds : List AV
  ps : PS

structure St where
  T : List AV
  s : Hs

inductive Out where
  | ret (v : AV) (h : List Obj) (ps : PS)
  | pan (v : AV) (h : List Obj) (ps : PS)

abbrev R := Option Out
abbrev CallO := FuncId → List AV → List Obj → PS → R
/-- calls, with what is done with what comes of them -/
abbrev CallK := FuncId → List AV → List Obj → PS → (Out → R) → R

def bindK (c : CallO) : CallK := fun f args h ps K => match c f args h ps with
  | some o => K o
  | none => none
abbrev Js := List (Nat × Bool)

/-- what is chosen for a proof: no choice can make it say what is not so -/
structure Pol where
  full : FuncId → Bool         -- its result may lead into the heap
  grow : FuncId → Nat → Bool   -- appends (function, the slot written) that make arrays which are written later
  keep : FuncId → Bool         -- its loops keep what their rounds make
  prom : FuncId → Nat → List Nat   -- at a loop (function, how manyth slot..): slots whose slices get a right to grow
  dead : FuncId → Nat → Nat        -- slots that are forgotten behind a region (function, the region's number), by bits
  hold : FuncId → Bool := fun _ => false   -- with 'full': what it makes stays, whatever it returns

def undefA : AV := .tup []

def St.put (st : St) (dst : Option Nat) (v : AV) : St :=
  match dst with
  | some d => { st with T := st.T.set d v }
  | none => st

def getT (T : List AV) (t : Nat) : AV := (T[t]?).getD undefA

def ofConst : Value → AV
  | .bool b => .bool b
  | .int k n => .int k n
  | .string s => .str s.data.toList
  | .float .f64 b => .flt b
  | .pointer none => .nil
  | .slice none 0 0 => .nils
  | .map none => .nilmap
  | .nilFunc => .nilfn
  | .nilIface => .nilifc
  | .tuple vs => cond (vs.size == 0) undefA .top
  | _ => .top

def eval (T : List AV) : Operand → AV
  | .tmp t => getT T t
  | .const v => ofConst v
  | .global _ => .top
  | .func f => .fn f []

/-- are the guards js' among js? -/
def subJ (js js' : Js) : Bool := js'.all fun p => js.any fun q => q.1 == p.1 && q.2 == p.2

def under (js : Js) : AV → AV
  | .gd js' v => cond (subJ js js') v .top
  | v => v

def evalG (T : List AV) (js : Js) (x : Operand) : AV := under js (eval T x)

def gdOf (js : Js) (v : AV) : AV :=
  match js with
  | [] => v
  | js => .gd js v

def ungd : AV → AV
  | .gd _ _ => .top
  | v => v

/-- what holds of a slot's value once slot d is known to hold w -/
def resolve1 (d : Nat) (w : Bool) : AV → AV
  | .gd js v => cond (js.any fun p => p.1 == d && p.2 != w) undefA (gdOf (js.filter fun p => !(p.1 == d)) (ungd v))
  | v => v

def resolve (T : List AV) (d : Nat) (w : Bool) : List AV := (T.map (resolve1 d w)).set d (.bool w)

def splitJ : Js → List AV → (List AV → R) → (List AV → R) → R
  | [], T, yes, _ => yes T
  | (d, w) :: js, T, yes, no => match getT T d with
    | .bool c => cond (c == w) (splitJ js (resolve T d w) yes no) (no (resolve T d (!w)))
    | _ => none

def elemOf? (P : Program) (t : TypeId) : Option TypeId :=
  match P.underlying t with
  | some (.slice e) => some e
  | _ => none

def nilSl (z : Nat) : AV := .sl z .tight 0 (fun i => i.elim0)

def coerce (P : Program) (t : TypeId) (v : AV) : AV :=
  match v with
  | .nils => match elemOf? P t with
    | some e => nilSl (P.cellsOf e)
    | none => .nils
  | v => v

def zeroD (P : Program) : Nat → TypeId → Option (List AV)
  | 0, _ => none
  | d + 1, t =>
    match P.underlying t with
    | some .bool => some [.bool false]
    | some (.int k) => some [.int k 0]
    | some (.float .f64) => some [.flt 0]
    | some .string => some [.str []]
    | some (.pointer _) => some [.nil]
    | some (.slice e) => some [nilSl (P.cellsOf e)]
    | some (.map _ _) => some [.nilmap]
    | some (.func _ _ _) => some [.nilfn]
    | some (.interface _) => some [.nilifc]
    | some (.struct fs) => fs.toList.foldr (fun f acc => match acc, zeroD P d f.type with | some l, some z => some (z ++ l) | _, _ => none) (some [])
    | some (.array n e) => match zeroD P d e with
      | some z => some ((List.replicate n z).flatten)
      | none => none
    | _ => none

/-- is a cell the zero that the program's own row lays? -/
def agree1 : AV → Value → Bool
  | .bool b, .bool b' => b == b'
  | .int k n, .int k' n' => decide (k = k') && n == n'
  | .str l, .string s => l == s.data.toList
  | .flt b, .float .f64 b' => b == b'
  | .nil, .pointer none => true
  | .sl _ .tight 0 _, .slice none 0 0 => true
  | .nilmap, .map none => true
  | .nilfn, .nilFunc => true
  | .nilifc, .nilIface => true
  | _, _ => false

def agreeZ : List AV → List Value → Bool
  | [], [] => true
  | a :: l, v :: m => agree1 a v && agreeZ l m
  | _, _ => false

/-- the zero of a type, held against the program's own row -/
def zeroT (P : Program) (t : TypeId) : Option (List AV) :=
  match zeroD P 12 t, (P.info? t).bind (·.zero) with
  | some z, some v => cond (agreeZ z v.cells.toList && z.length == P.cellsOf t) (some z) none
  | _, _ => none

def aggDesc : TypeDesc → Bool
  | .struct _ | .array _ _ => true
  | _ => false

def isAggD (P : Program) (t : TypeId) : Bool :=
  match P.underlying t with
  | some d => aggDesc d
  | none => false

/-- the cells of a value -/
def cellsO : AV → Option (List AV)
  | .agg cs => some cs
  | .top | .tup _ | .gd _ _ => none
  | v => some [v]

/-- the cells of a value that goes into a place of a type -/
def cellsT (P : Program) (t : TypeId) (v : AV) : Option (List AV) :=
  match cellsO (coerce P t v) with
  | some vs => cond ((P.info? t).isSome && vs.length == P.cellsOf t) (some vs) none
  | none => none

def mkVal (P : Program) (t : TypeId) (cs : List AV) : Option AV :=
  match P.underlying t with
  | some d => cond (aggDesc d) (some (.agg cs)) (match cs with
    | [v] => some v
    | _ => none)
  | none => none

/-! what a value of a type looks like: so that a result of a call stands open -/

def kindsOf (P : Program) : Nat → TypeId → List Kd
  | 0, _ => [.other]
  | d + 1, t =>
    match P.underlying t with
    | some .bool => [.bool]
    | some (.int k) => [.int k]
    | some (.float .f64) => [.flt]
    | some .string => [.str]
    | some (.slice e) => [.sl (P.cellsOf e)]
    | some (.struct fs) => (fs.toList.map fun f => kindsOf P d f.type).flatten
    | some (.array n e) => (List.replicate n (kindsOf P d e)).flatten
    | _ => [.other]

def castC (kd : Kd) (v : AV) (K : AV → R) : R :=
  match kd with
  | .int k => match v with
    | .int k' n => if k' = k then K (.int k n) else none
    | _ => none
  | .bool => match v with
    | .bool b => K (.bool b)
    | _ => none
  | .str => match v with
    | .str s => K (.str s)
    | _ => none
  | .flt => match v with
    | .flt b => K (.flt b)
    | _ => none
  | .sl z => match v with
    | .sl z' t n f => if z' = z then K (.sl z t n f) else none
    | .sr i gen off len => K (.sr i gen off len)
    | _ => none
  | .other => K v

def castCs : List Kd → List AV → (List AV → R) → R
  | [], [], K => K []
  | kd :: kds, v :: vs, K => castC kd v fun v' => castCs kds vs fun vs' => K (v' :: vs')
  | _, _, _ => none

def castV (P : Program) (t : TypeId) (v : AV) (K : AV → R) : R :=
  cond (isAggD P t) (match v with
    | .agg cs => castCs (kindsOf P 12 t) cs fun cs' => K (.agg cs')
    | _ => none) (castC ((kindsOf P 12 t).headD .other) v K)

def castVs (P : Program) : List TypeId → List AV → (List AV → R) → R
  | [], [], K => K []
  | t :: ts, v :: vs, K => castV P t v fun v' => castVs P ts vs fun vs' => K (v' :: vs')
  | _, _, _ => none

def castR (P : Program) (ts : List TypeId) (v : AV) (K : AV → R) : R :=
  match ts with
  | [t] => castV P t v K
  | ts => match v with
    | .tup vs => castVs P ts vs fun vs' => K (.tup vs')
    | _ => none

def plainA : AV → Bool
  | .int _ _ | .bool _ | .str _ | .flt _ => true
  | _ => false

/-! what may lie in a slice that is not written -/
def purify : AV → AV
  | .sl z (.id _) n f => .sl z .no n f
  | .ifc t v => cond (plainA v) (.ifc t v) .dk
  | .ptr .. | .sr .. | .map _ | .fn _ (_ :: _) | .pp _ _ => .dk
  | .agg _ | .tup _ | .gd _ _ | .top => .top
  | v => v

/-- handed to a call that has a heap of its own -/
def exportA : AV → Option AV
  | .agg cs => cond (cs.any fun c => match c with | .ptr .. | .sr .. | .map _ | .fn _ (_ :: _) => true | _ => false) none (some (.agg (cs.map purify)))
  | .ptr .. | .sr .. | .map _ | .fn _ (_ :: _) | .tup _ => none
  | v => some (purify v)

def freezeC (m : Nat) (h : List Obj) : Nat → AV → AV
  | 0, v => purify v
  | d + 1, .sr i gen off len =>
    match h[i]? with
    | some (.arr z gen' n f) =>
      if hr : off + len ≤ n then cond (gen == gen' && decide (m ≤ i)) (.sl z .no len fun j => (f ⟨off + j.1, by omega⟩).map (freezeC m h d)) .dk else .dk
    | _ => .dk
  | _, v => purify v

/-- no right to grow in place (but where there is nothing) -/
def looseT (z : Nat) : (n : Nat) → (Fin n → List AV) → AV
  | 0, f => .sl z .tight 0 f
  | n + 1, f => .sl z .no (n + 1) f

def loose : AV → AV
  | .sl z .tight n f => looseT z n f
  | .sl z _ n f => .sl z .no n f
  | v => v

def frzA (m : Nat) (h : List Obj) (cs : List AV) : AV := .agg ((cs.map (freezeC m h 4)).map loose)

/-- made fast: the arrays from number m on are written no more -/
def freeze (m : Nat) (h : List Obj) : AV → AV
  | .agg cs => frzA m h cs
  | .tup vs => .tup (vs.map fun v => match v with
    | .agg cs => frzA m h cs
    | v => freezeC m h 4 v)
  | v => freezeC m h 4 v

/-! arithmetic -/
def binInt (op : BinOp) (k : IntKind) (a b : Int) : Option AV :=
  match op with
  | .add => some (.int k (k.wrap (a + b)))
  | .sub => some (.int k (k.wrap (a - b)))
  | .mul => some (.int k (k.wrap (a * b)))
  | .and => some (.int k (k.wrap (BitVec.ofInt k.bits a &&& BitVec.ofInt k.bits b).toNat))
  | .or => some (.int k (k.wrap (BitVec.ofInt k.bits a ||| BitVec.ofInt k.bits b).toNat))
  | .xor => some (.int k (k.wrap (BitVec.ofInt k.bits a ^^^ BitVec.ofInt k.bits b).toNat))
  | .andNot => some (.int k (k.wrap (BitVec.ofInt k.bits a &&& ~~~BitVec.ofInt k.bits b).toNat))
  | .eql => some (.bool (a == b))
  | .neq => some (.bool (a != b))
  | .lss => some (.bool (decide (a < b)))
  | .leq => some (.bool (decide (a ≤ b)))
  | .gtr => some (.bool (decide (a > b)))
  | .geq => some (.bool (decide (a ≥ b)))
  | _ => none

def bytesLess : List UInt8 → List UInt8 → Bool
  | _, [] => false
  | [], _ :: _ => true
  | a :: x, b :: y => a < b || (a == b && bytesLess x y)

def binStr (op : BinOp) (x y : List UInt8) : Option AV :=
  match op with
  | .eql => some (.bool (x == y))
  | .neq => some (.bool (!(x == y)))
  | .lss => some (.bool (bytesLess x y))
  | .leq => some (.bool (bytesLess x y || x == y))
  | .gtr => some (.bool (!(bytesLess x y || x == y)))
  | .geq => some (.bool (!bytesLess x y))
  | _ => none

/-- a part of an aggregate, as a value -/
def partD (P : Program) (t : TypeId) (cs : List AV) (off : Nat) : Option AV :=
  cond (decide (off + P.cellsOf t ≤ cs.length)) (mkVal P t ((cs.drop off).take (P.cellsOf t))) none

def eqFs (P : Program) (eq : TypeId → AV → AV → Option Bool) (xs ys : List AV) : List Field → Option Bool
  | [] => some true
  | f :: fs => if f.name ≠ "_" then
      match partD P f.type xs f.offset, partD P f.type ys f.offset with
      | some a, some b => match eq f.type a b, eqFs P eq xs ys fs with
        | some p, some q => some (p && q)
        | _, _ => none
      | _, _ => none
    else eqFs P eq xs ys fs

/-- '==' of values of a type -/
def eqT (P : Program) : Nat → TypeId → AV → AV → Option Bool
  | 0, _, _, _ => none
  | d + 1, t, x, y =>
    match P.underlying t, x, y with
    | some .bool, .bool a, .bool b => some (a == b)
    | some (.int _), .int k a, .int k' b => if k = k' then some (a == b) else none
    | some .string, .str a, .str b => some (a == b)
    | some (.struct fs), .agg xs, .agg ys => cond (P.stoodInHeld t) none (eqFs P (eqT P d) xs ys fs.toList)
    | _, _, _ => none

def isConstO : Operand → Bool
  | .const _ => true
  | _ => false

/-- a pointer whose object stands -/
def standing (h : List Obj) : AV → Bool
  | .ptr i gen row _ => match h[i]? with
    | some (.var _) => gen == 0 && row == 0
    | some (.arr _ gen' _ _) => gen == gen'
    | _ => false
  | .pp _ _ => true
  | _ => false

def eqTop (P : Program) (h : List Obj) (t : TypeId) (x y : AV) (consts : Bool) : Option Bool :=
  match P.underlying t with
  | some (.pointer _) => match x, y with
    | .nil, .nil => some true
    | .nil, y => cond (standing h y) (some false) none
    | x, .nil => cond (standing h x) (some false) none
    | _, _ => none
  | some (.interface _) => match x, y with
    | .nilifc, .nilifc => cond consts (some true) none
    | .nilifc, .ifc .. | .ifc .., .nilifc => some false
    | _, _ => none
  | some (.func _ _ _) => match x, y with
    | .nilfn, .nilfn => some true
    | .nilfn, .fn .. | .fn .., .nilfn => some false
    | _, _ => none
  | some .bool => eqT P 12 t x y
  | some (.struct _) => cond (P.eqGuardType P.depth t) none (eqT P 12 t x y)
  | _ => none

def binD (P : Program) (h : List Obj) (op : BinOp) (t : TypeId) (x y : AV) (consts : Bool) : Option AV :=
  match x, y with
  | .int k a, .int k' b => if k = k' then binInt op k a b else none
  | .str a, .str b => binStr op a b
  | x, y => match op with
    | .eql => (eqTop P h t x y consts).map .bool
    | .neq => (eqTop P h t x y consts).map fun b => .bool (!b)
    | _ => none

def unD (op : UnOp) (x : AV) : Option AV :=
  match op, x with
  | .neg, .int k n => binInt .sub k 0 n
  | .xor, .int k n => binInt .xor k (cond k.signed (-1) k.max) n
  | .not, .bool b => some (.bool (!b))
  | _, _ => none

def fieldOf (P : Program) (t : TypeId) (i : Nat) : Option (Nat × TypeId) :=
  match P.underlying t with
  | some (.struct fs) => match fs[i]? with
    | some f => cond (P.cellsOf f.type == 0) none (some (f.offset, f.type))
    | none => none
  | _ => none

/-! memory -/
def loadD (h : List Obj) (a : AV) (z : Nat) : Option (List AV) :=
  match a with
  | .ptr i gen row off =>
    match h[i]? with
    | some (.var cs) => cond (gen == 0 && row == 0 && decide (off + z ≤ cs.length)) (some ((cs.drop off).take z)) none
    | some (.arr _ gen' n f) => if hr : row < n then cond (gen == gen' && decide (off + z ≤ (f ⟨row, hr⟩).length)) (some (((f ⟨row, hr⟩).drop off).take z)) none else none
    | _ => none
  | .pp row off => cond (decide (off + z ≤ row.length)) (some ((row.drop off).take z)) none
  | _ => none

/-- a load that does not hang on the number of a row -/
def loadP (h : List Obj) (a : AV) (z : Nat) : Option (List AV) :=
  match a with
  | .ptr i gen row off =>
    match h[i]? with
    | some (.var cs) => cond (gen == 0 && row == 0 && decide (off + z ≤ cs.length)) (some ((cs.drop off).take z)) none
    | _ => none
  | .pp row off => cond (decide (off + z ≤ row.length)) (some ((row.drop off).take z)) none
  | _ => none

/-- a load out of an array, and what follows -/
def loadK (P : Program) (h : List Obj) (a : AV) (t : TypeId) (k : AV → R) : R :=
  match a with
  | .ptr i gen row off =>
    match h[i]? with
    | some (.arr z gen' n f) => if hr : row < n then cond (gen == gen' && decide (off + P.cellsOf t ≤ z)) (match mkVal P t (((f ⟨row, hr⟩).drop off).take (P.cellsOf t)) with
      | some v => k v
      | none => none) none else none
    | _ => none
  | _ => none

def setRow (cs : List AV) (off : Nat) (vs : List AV) : List AV := cs.take off ++ vs ++ cs.drop (off + vs.length)

def storeD (h : List Obj) (a : AV) (vs : List AV) : Option (List Obj) :=
  match a with
  | .ptr i gen row off =>
    match h[i]? with
    | some (.var cs) => cond (gen == 0 && row == 0 && decide (off + vs.length ≤ cs.length)) (some (h.set i (.var (setRow cs off vs)))) none
    | some (.arr z gen' n f) => cond (gen == gen' && decide (row < n) && decide (off + vs.length ≤ z))
        (some (h.set i (.arr z gen' n fun j => if j.1 = row then setRow (f j) off vs else f j))) none
    | _ => none
  | _ => none

/-- a store, and what follows -/
def storeK (h : List Obj) (a : AV) (vs : List AV) (k : List Obj → R) : R :=
  match a with
  | .ptr i gen row off =>
    match h[i]? with
    | some (.var cs) => cond (gen == 0 && row == 0 && decide (off + vs.length ≤ cs.length)) (k (h.set i (.var (setRow cs off vs)))) none
    | some (.arr z gen' n f) => cond (gen == gen' && decide (row < n) && decide (off + vs.length ≤ z))
        (k (h.set i (.arr z gen' n fun j => if j.1 = row then setRow (f j) off vs else f j))) none
    | _ => none
  | _ => none

def fillD (z : List AV) : List (Nat × List AV) → Option (List AV)
  | [] => some z
  | (off, vs) :: rest => cond (decide (off + vs.length ≤ z.length)) (fillD (setRow z off vs) rest) none

def goN (n : Nat) : AV := .int .i64 n

def lenD (P : Program) (t : TypeId) (v : AV) : Option AV :=
  match P.underlying t with
  | some .string => match v with
    | .str s => some (goN s.length)
    | _ => none
  | some (.slice _) => match v with
    | .sl _ _ n _ => some (goN n)
    | .nils => some (goN 0)
    | .sr _ _ _ len => some (goN len)
    | _ => none
  | some (.map _ _) => match v with
    | .nilmap => some (goN 0)
    | _ => none
  | _ => none

def idxOf (v : AV) : Option Int :=
  match v with
  | .int _ n => some n
  | _ => none

structure Rows where
  n : Nat
  f : Fin n → Row

/-- has the type cells in this number? -/
def sized (P : Program) (t : TypeId) (z : Nat) : Bool :=
  match P.info? t with
  | some i => i.size == z
  | none => false

def rowsOf (P : Program) (raw : Bool) (el : TypeId) (h : List Obj) (v : AV) : Option Rows :=
  match v with
  | .sl z _ n f => cond (sized P el z) (some ⟨n, f⟩) none
  | .nils => some ⟨0, fun i => i.elim0⟩
  | .sr i gen off len =>
    match h[i]? with
    | some (.arr z gen' n f) => if hr : off + len ≤ n then cond (gen == gen' && sized P el z) (some ⟨len, fun j => cond raw (f ⟨off + j.1, by omega⟩) ((f ⟨off + j.1, by omega⟩).map purify)⟩) none else none
    | _ => none
  | _ => none

/-- may what is appended lead into the heap? -/
def rawT (g : Bool) : AV → Bool
  | .sr .. => true
  | .sl _ .tight _ _ => g
  | _ => false

def appRows {n m : Nat} (f : Fin n → Row) (g : Fin m → Row) : Fin (n + m) → Row :=
  fun j => if hj : j.1 < n then f ⟨j.1, hj⟩ else g ⟨j.1 - n, by omega⟩

def roomy (n bytes : Nat) : Bool := decide (n ≤ 70368744177664) && decide (n * bytes ≤ 70368744177664)

/-- a new object: at the end, or in the place that is kept for it -/
def newD (nw : Option Nat) (h : List Obj) (o : Obj) (k : Nat → List Obj → R) : R :=
  match nw with
  | none => k h.length (h ++ [o])
  | some n => match h[n]? with
    | some .unborn => k n (h.set n o)
    | _ => none

def appendD (nw : Option Nat) (h : List Obj) (mutable : Bool) (z bytes : Nat) (s : AV) (m : Nat) (g : Fin m → Row) (k : AV → List Obj → R) : R :=
  match s with
  | .sl z' t n f => cond (z' == z && roomy (n + m) bytes)
    (match t with
      | .no => none
      | .tight => cond mutable
        (cond (m == 0) (k (.sl z .tight n f) h) (newD nw h (.arr z 0 (n + m) (appRows f g)) fun i h => k (.sr i 0 0 (n + m)) h))
        (newD nw h (.tok (n + m)) fun i h => k (.sl z (.id i) (n + m) (appRows f g)) h)
      | .id i =>
        match h[i]? with
        | some (.tok n') => cond (n' == n) (k (.sl z (.id i) (n + m) (appRows f g)) (h.set i (.tok (n + m)))) none
        | _ => none) none
  | .sr i gen off len =>
    match h[i]? with
    | some (.arr z' gen' n f) => if hl : len ≤ n then cond (z' == z && gen == gen' && off == 0 && roomy (len + m) bytes)
        (k (.sr i (gen + 1) 0 (len + m)) (h.set i (.arr z (gen + 1) (len + m) (appRows (fun j : Fin len => f ⟨j.1, by omega⟩) g)))) none else none
    | _ => none
  | _ => none

/-- a copy in new memory -/
def cloneD (nw : Option Nat) (h : List Obj) (mutable : Bool) (z bytes m : Nat) (g : Fin m → Row) (k : AV → List Obj → R) : R :=
  cond (roomy m bytes) (cond mutable (cond (m == 0) (k (.sl z .tight m g) h) (newD nw h (.arr z 0 m g) fun i h => k (.sr i 0 0 m) h)) (newD nw h (.tok m) fun i h => k (.sl z (.id i) m g) h)) none

/-- operations that leave the world alone -/
def opPure (P : Program) (e et ef : Operand → AV) (h : List Obj) (o : Oper) : Option AV :=
  match o.op with
  | .move x | .assign x => some (coerce P o.type (e x))
  | .pick c a b => match e c with
    | .bool t => match et a, ef b with
      | .bool x, .bool y => some (.bool (cond t x y))
      | _, _ => none
    | _ => none
  | .build t parts =>
    match P.underlying t with
    | some (.struct fs) => match zeroT P t, parts.toList.mapM (fun (i, x) => match fs[i]? with
          | some f => (cellsT P f.type (e x)).map fun vs => (f.offset, vs)
          | none => none) with
      | some z, some ps => (fillD z ps).map .agg
      | _, _ => none
    | some (.array _ el) => match zeroT P t, parts.toList.mapM (fun (i, x) => (cellsT P el (e x)).map fun vs => (i * P.cellsOf el, vs)) with
      | some z, some ps => (fillD z ps).map .agg
      | _, _ => none
    | _ => none
  | .load t a => (loadP h (e a) (P.cellsOf t)).bind (mkVal P t)
  | .nilCheck x => match e x with
    | .fn f cap => some (.fn f cap)
    | .ifc t v => some (.ifc t v)
    | v => cond (standing h v) (some v) none
  | .binOp op t x y _ => binD P h op t (e x) (e y) (isConstO x || isConstO y)
  | .unOp op _ x => unD op (e x)
  | .convert s d x => match P.underlying s, P.underlying d, e x with
    | some (.int _), some (.int kk), .int _ n => some (.int kk (kk.wrap n))
    | some .string, some .string, .str s => some (.str s)
    | _, _, _ => none
  | .makeInterface t x => match P.underlying t with
    | some (.interface _) | none => none
    | some _ => some (.ifc t (e x))
  | .makeFunc (.func f) first cap => cond (first.size == 0) (some (.fn f (cap.toList.map e))) none
  | .fieldAddr t x i => match fieldOf P t i, e x with
    | some (off, _), .ptr id gen row o => cond (standing h (.ptr id gen row o)) (some (.ptr id gen row (o + off))) none
    | some (off, _), .pp row o => some (.pp row (o + off))
    | _, _ => none
  | .field t x i => match fieldOf P t i, e x with
    | some (off, ft), .agg cs => partD P ft cs off
    | _, _ => none
  | .extract t i => match e t with
    | .tup vs => vs[i]?
    | _ => none
  | .call c =>
    match c.callee with
    | .builtin .len => match c.args[0]?, c.argTypes[0]? with
      | some x, some t => lenD P t (e x)
      | _, _ => none
    | .builtin .max => match c.args.toList.map e with
      | [.int k a, .int k' b] => if k = k' then some (.int k (cond (decide (b > a)) b a)) else none
      | _ => none
    | .builtin .min => match c.args.toList.map e with
      | [.int k a, .int k' b] => if k = k' then some (.int k (cond (decide (b < a)) b a)) else none
      | _ => none
    | _ => none
  | _ => none

def sameO : Operand → Operand → Bool
  | .tmp a, .tmp b => a == b
  | .const (.int k a), .const (.int k' b) => decide (k = k') && a == b
  | _, _ => false

def aggV : Value → Bool
  | .agg _ => true
  | _ => false

def zeroVal (P : Program) (t : TypeId) : Option AV :=
  match zeroT P t, (P.info? t).bind (·.zero) with
  | some z, some v => cond (aggV v == isAggD P t) (mkVal P t z) none
  | _, _ => none

/-- element i of a slice that is written out -/
def rowIn (z : List AV) (i : Nat) : List (Nat × List AV) → List AV
  | [] => z
  | (j, vs) :: ps => cond (j == i) (rowIn vs i ps) (rowIn z i ps)

/-! Go's slices.Clone, known by its text -/
def isO (d : Nat) (p : Op → Bool) (o : Oper) : Bool := o.guard.isNone && o.dst == some d && p o.op
def pNil : Op → Bool
  | .assign (.const (.slice none 0 0)) => true
  | _ => false
def pMove : Op → Bool
  | .move (.tmp 0) => true
  | _ => false
def pEq (t : TypeId) : Op → Bool
  | .binOp .eql t' (.tmp 3) (.const (.slice none 0 0)) _ => t' == t
  | _ => false
def pBuild (t : TypeId) : Op → Bool
  | .buildSlice t' 0 ps => t' == t && ps.size == 0
  | _ => false
def pApp (t : TypeId) : Op → Bool
  | .call ⟨.builtin .append, as, ts⟩ => match as.toList, ts.toList with
    | [.tmp 5, .tmp 6], [a, b] => a == t && b == t
    | _, _ => false
  | _ => false
def pLast : Op → Bool
  | .assign (.tmp 7) => true
  | _ => false

def cloneCode (t : TypeId) : Code → Bool
  | .seq (.region _ ra false) (.seq (.seq (.region _ rb false) (.cond (.tmp 4) (.seq (.region _ rc false) .ret) .skip)) (.seq (.region _ rd false) .ret)) =>
    match ra.toList, rb.toList, rc.toList, rd.toList with
    | [o1], [o2, o3], [o4], [o5, o6, o7, o8] => isO 2 pNil o1 && isO 3 pMove o2 && isO 4 (pEq t) o3 && isO 2 pNil o4 && isO 5 (pBuild t) o5 && isO 6 pMove o6 && isO 7 (pApp t) o7 && isO 2 pLast o8
    | _, _, _, _ => false
  | _ => false

def isClone (P : Program) (g : FuncId) : Option TypeId :=
  match P.funcs[g]? with
  | some f => match f.body, f.params.toList, f.results.toList with
    | some c, [t], [.tmp 2] => cond (f.ntmps == 8 && cloneCode t c) (elemOf? P t) none
    | _, _, _ => none
  | none => none

/-! maps -/
/-- the first number for which something holds -/
def firstB : (n : Nat) → (Fin n → Bool) → Option (Fin n)
  | 0, _ => none
  | n + 1, p => cond (p ⟨0, Nat.succ_pos n⟩) (some ⟨0, Nat.succ_pos n⟩) ((firstB n fun i => p i.succ).map Fin.succ)

def atomEq : AV → AV → Bool
  | .int _ a, .int _ b => a == b
  | .str a, .str b => a == b
  | .bool a, .bool b => a == b
  | _, _ => false

def rowEq : List AV → List AV → Bool
  | [], [] => true
  | a :: l, b :: m => atomEq a b && rowEq l m
  | _, _ => false

/-- '==' of keys that look alike -/
def keyEq : AV → AV → Bool
  | .agg l, .agg m => rowEq l m
  | a, b => atomEq a b

def kdOK : Kd → AV → Bool
  | .int k, .int k' _ => decide (k = k')
  | .str, .str _ => true
  | .bool, .bool _ => true
  | _, _ => false

def kdsOK : List Kd → List AV → Bool
  | [], [] => true
  | k :: ks, v :: vs => kdOK k v && kdsOK ks vs
  | _, _ => false

/-- does a key look as its type says? -/
def keyKd (a : Bool) (ks : List Kd) : AV → Bool
  | .agg cs => a && kdsOK ks cs
  | v => !a && kdsOK ks [v]

def flatKd : Kd → Bool
  | .int _ | .str | .bool => true
  | _ => false

/-- a type of keys that are compared cell by cell -/
def keyTy (P : Program) (t : TypeId) : Bool :=
  match P.underlying t with
  | some (.int _) | some .string | some .bool => true
  | some (.struct fs) => !P.stoodInHeld t && fs.toList.map (·.offset) == List.range fs.size && fs.toList.all fun f => decide (f.name ≠ "_") &&
      (match P.underlying f.type with | some (.int _) | some .string | some .bool => true | _ => false) && P.cellsOf f.type == 1
  | _ => false

def keyAs (P : Program) (t : TypeId) (a : Bool) (ks : List Kd) : Bool := keyTy P t && isAggD P t == a && decide (kindsOf P 12 t = ks)

/-- a look-up, and what follows: the entry's number, if there is one -/
def findD (P : Program) (h : List Obj) (kt : TypeId) (m k : AV) (yes : AV → R) (no : R) : R :=
  match m with
  | .nilmap => cond (keyTy P kt && keyKd (isAggD P kt) (kindsOf P 12 kt) k) no none
  | .map i => match h[i]? with
    | some (.map a ks n f) => cond (keyAs P kt a ks && keyKd a ks k) (match firstB n (fun j => keyEq k (f j).1) with
      | some j => yes (f j).2
      | none => no) none
    | _ => none
  | _ => none

/-- an entry is laid, or turned -/
def layD (P : Program) (h : List Obj) (kt : TypeId) (m k v : AV) (K : List Obj → R) : R :=
  match m with
  | .map i => match h[i]? with
    | some (.map a ks n f) => cond (keyAs P kt a ks && keyKd a ks k) (match firstB n (fun j => keyEq k (f j).1) with
      | some j => K (h.set i (.map a ks n fun q => cond (decide (q.1 = j.1)) ((f q).1, v) (f q)))
      | none => K (h.set i (.map a ks (n + 1) fun q => if hq : q.1 < n then f ⟨q.1, hq⟩ else (k, v)))) none
    | _ => none
  | _ => none

/-- what is done with the result of a call -/
def onOut (K : AV → List Obj → R) (Kp : AV → List Obj → R) : Out → R
  | .ret v h _ => K v h
  | .pan v h _ => Kp v h

/-- a bound of a slice expression -/
def bnd (e : Operand → AV) (v : Option Operand) (d : Int) : Option Int :=
  match v with
  | some y => idxOf (e y)
  | none => some d

/-- a function that is called by name, and is Go's slices.Clone -/
def cloneOf (P : Program) : Operand → Option TypeId
  | .func g => isClone P g
  | _ => none

/-- may it make an object? -/
def mkO (P : Program) (pol : Pol) (fn : FuncId) (o : Oper) : Bool :=
  match o.op with
  | .alloc _ | .box .. | .makeSlice .. | .makeMap .. => true
  | .buildSlice .. => pol.grow fn (o.dst.getD 0)
  | .call { callee := .builtin .append, .. } => true
  | .call { callee := .value f, .. } => (cloneOf P f).isSome
  | _ => false

/-- operations that may do more, or may fail -/
def opD (P : Program) (pol : Pol) (call : CallK) (fn : FuncId) (nw : Option Nat) (e : Operand → AV) (o : Oper) (st : Hs) (k : AV → Hs → R) (kp : AV → Hs → R) : R :=
  let ov (v : Option AV) : R := match v with
    | some v => k v st
    | none => none
  match o.op with
  | .pick c a b => match e c with
    | .bool t => cond t (k (e a) st) (k (e b) st)
    | _ => none
  | .alloc t => match zeroT P t with
    | some cs => newD nw st.h (.var cs) fun i h => k (.ptr i 0 0 0) { st with h := h }
    | none => none
  | .box t x => match cellsT P t (e x) with
    | some cs => newD nw st.h (.var cs) fun i h => k (.ptr i 0 0 0) { st with h := h }
    | none => none
  | .buildSlice t len parts =>
    match elemOf? P t with
    | some el => match zeroT P el, parts.toList.mapM (fun (i, x) => (cellsT P el (e x)).map fun vs => (i, vs)) with
      | some z, some ps => cond (ps.all (fun p => decide (p.1 < len)) && decide (len * P.cellsOf el ≤ 16777216))
        (cond (pol.grow fn (o.dst.getD 0)) (newD nw st.h (.arr (P.cellsOf el) 0 len fun j => rowIn z j.1 ps) fun i h => k (.sr i 0 0 len) { st with h := h })
          (k (.sl (P.cellsOf el) .tight len fun j => (rowIn z j.1 ps).map purify) st)) none
      | _, _ => none
    | none => none
  | .load t a => loadK P st.h (e a) t fun v => k v st
  | .store t a x => match cellsT P t (e x) with
    | some cs => storeK st.h (e a) cs fun h => k undefA { st with h := h }
    | none => none
  | .binOp op _ x y _ => match op, e x, e y with
    | .quo, .int kk a, .int kk' b => if kk = kk' then cond (b == 0) none (k (.int kk (kk.wrap (a.tdiv b))) st) else none
    | .rem, .int kk a, .int kk' b => if kk = kk' then cond (b == 0) none (k (.int kk (a.tmod b)) st) else none
    | .shl, .int kk a, .int _ b => cond (decide (b < 0)) none (k (.int kk (kk.wrap (a * 2 ^ (min b.toNat kk.bits)))) st)
    | .shr, .int kk a, .int _ b => cond (decide (b < 0)) none (k (.int kk (a.fdiv (2 ^ (min b.toNat kk.bits)))) st)
    | .add, .str a, .str b => cond (decide (a.length + b.length < 1099511627776)) (k (.str (a ++ b)) st) none
    | _, _, _ => none
  | .indexAddr t x ix => match P.underlying t, e x, idxOf (e ix) with
    | some (.slice el), .sl z _ n f, some i => if hi : 0 ≤ i ∧ i.toNat < n then
        cond (sized P el z) (castCs (kindsOf P 12 el) (f ⟨i.toNat, hi.2⟩) fun row => k (.pp row 0) st) none else none
    | some (.slice el), .sr id gen off len, some i => match st.h[id]? with
      | some (.arr z gen' _ _) => cond (gen == gen' && sized P el z) (cond (decide (0 ≤ i) && decide (i.toNat < len)) (k (.ptr id gen (off + i.toNat) 0) st) none) none
      | _ => none
    | some (.array n el), .ptr id gen row o, some i => cond (standing st.h (.ptr id gen row o) && sized P el (P.cellsOf el)) (cond (decide (0 ≤ i) && decide (i.toNat < n)) (k (.ptr id gen row (o + i.toNat * P.cellsOf el)) st) none) none
    | some (.array n el), .pp row o, some i => cond (decide (0 ≤ i) && decide (i.toNat < n) && sized P el (P.cellsOf el)) (k (.pp row (o + i.toNat * P.cellsOf el)) st) none
    | _, _, _ => none
  | .index t x ix => match P.underlying t, e x, idxOf (e ix) with
    | some .string, .str s, some i => if hi : 0 ≤ i ∧ i.toNat < s.length then k (.int .u8 (s[i.toNat]'hi.2).toNat) st else none
    | some (.array n el), .agg cs, some i => cond (decide (0 ≤ i) && decide (i.toNat < n) && sized P el (P.cellsOf el))
        (ov (partD P el cs (i.toNat * P.cellsOf el))) none
    | _, _, _ => none
  | .slice t x lo hi mx =>
    match P.underlying t, e x with
    | some .string, .str s =>
      match bnd e lo 0, bnd e hi (s.length : Int), mx with
      | some l, some u, none => cond (decide (0 ≤ l) && decide (l ≤ u) && decide (u ≤ s.length)) (k (.str ((s.take u.toNat).drop l.toNat)) st) none
      | _, _, _ => none
    | some (.slice el), .sl z _ n f =>
      match bnd e lo 0, bnd e hi (n : Int), bnd e mx (-1) with
      | some l, some u, some m => if hb : 0 ≤ l ∧ l ≤ u ∧ u ≤ n then cond (sized P el z)
          (match mx with
            | some _ => cond (hi.isSome && m == u) (k (.sl z .tight (u.toNat - l.toNat) fun j => f ⟨l.toNat + j.1, by omega⟩) st) none
            | none => k (.sl z .no (u.toNat - l.toNat) fun j => f ⟨l.toNat + j.1, by omega⟩) st) none else none
      | _, _, _ => none
    | some (.slice el), .sr id gen off len =>
      match bnd e lo 0, bnd e hi (len : Int), mx, st.h[id]? with
      | some l, some u, none, some (.arr z gen' _ _) => cond (gen == gen' && sized P el z)
        (cond (decide (0 ≤ l) && decide (l ≤ u) && decide (u ≤ len)) (k (.sr id gen (off + l.toNat) (u.toNat - l.toNat)) st) none) none
      | _, _, _, _ => none
    | _, _ => none
  | .typeAssert x _ asserted ok =>
    match P.underlying asserted, e x with
    | some (.interface _), _ => none
    | some _, .nilifc => cond ok (match zeroVal P asserted with | some z => k (.tup [z, .bool false]) st | none => none) none
    | some _, .ifc t v => cond (t == asserted) (cond ok (k (.tup [v, .bool true]) st) (k v st))
        (cond ok (match zeroVal P asserted with | some z => k (.tup [z, .bool false]) st | none => none) none)
    | _, _ => none
  | .panic x => match e x with
    | .ifc t v => kp (.ifc t v) st
    | _ => none
  | .makeSlice t l cp => match elemOf? P t, idxOf (e l) with
    | some el, some n => match zeroT P el with
      | some z => cond (sameO l cp && decide (0 ≤ n) && roomy n.toNat (P.bytesOf el)) (newD nw st.h (.arr (P.cellsOf el) 0 n.toNat fun _ => z) fun i h => k (.sr i 0 0 n.toNat) { st with h := h }) none
      | none => none
    | _, _ => none
  | .makeMap t r => match P.underlying t with
    | some (.map kt _) => cond (keyTy P kt && (match r with | some x => (idxOf (e x)).isSome | none => true))
        (newD nw st.h (.map (isAggD P kt) (kindsOf P 12 kt) 0 fun i => i.elim0) fun i h => k (.map i) { st with h := h }) none
    | _ => none
  | .lookup t m x ok => match P.underlying t with
    | some (.map kt el) => match zeroVal P el with
      | some z => findD P st.h kt (e m) (e x) (fun v => cond ok (k (.tup [v, .bool true]) st) (k v st)) (cond ok (k (.tup [z, .bool false]) st) (k z st))
      | none => none
    | _ => none
  | .mapUpdate t m x y | .insert t m x y => match P.underlying t with
    | some (.map kt el) => layD P st.h kt (e m) (e x) (coerce P el (e y)) fun h => k undefA { st with h := h }
    | _ => none
  | .defer c => match c.callee with
    | .value f => match e f with
      | .fn g cap => cond (c.args.size == 0 && nw.isNone) (k undefA { st with ds := .fn g cap :: st.ds }) none
      | _ => none
    | _ => none
  | .call c =>
    match c.callee with
    | .builtin .append => match c.args.toList, c.argTypes.toList with
      | [s, x], [ts, tx] => match elemOf? P ts, elemOf? P tx with
        | some el, some _ => cond (sized P el (P.cellsOf el) && (zeroT P el).isSome) (match rowsOf P (rawT (pol.grow fn (o.dst.getD 0)) (coerce P ts (e s))) el st.h (e x) with
          | some ⟨m, g⟩ => appendD nw st.h (pol.grow fn (o.dst.getD 0)) (P.cellsOf el) (P.bytesOf el) (coerce P ts (e s)) m g fun v h => k v { st with h := h }
          | none => none) none
        | _, _ => none
      | _, _ => none
    | .builtin .recover => cond nw.isSome none <|
      match st.ps with
      | .pan v => k v { st with ps := .met }
      | _ => k .nilifc st
    | .value f =>
      match cloneOf P f with
      | some el => match c.args.toList with
        | [x] => cond (sized P el (P.cellsOf el) && (zeroT P el).isSome) (match rowsOf P false el st.h (e x) with
          | some ⟨m, g⟩ => cloneD nw st.h (pol.grow fn (o.dst.getD 0)) (P.cellsOf el) (P.bytesOf el) m g fun v h => k v { st with h := h }
          | none => none) none
        | _ => none
      | none => match e f with
      | .fn g cap =>
        match P.funcs[g]? with
        | some gf =>
          let args := (c.args.toList.map e) ++ cap
          cond gf.body.isNone none <|
          match (cond (pol.full g) none (args.mapM exportA)) with
          | some args => call g args [] .plain (onOut (fun v _ => castR P gf.resultTypes.toList v fun v => k (freeze 0 [] v) st) (fun v _ => kp (purify v) st))
          | none => call g args st.h .plain (onOut (fun v h => castR P gf.resultTypes.toList v fun v => k v { st with h := h }) (fun v h => kp v { st with h := h }))
        | none => none
      | _ => none
    | _ => none
  | _ => none

inductive Gd where
  | skip | bad | run (js : Js)

def guardOf (ops : Array Oper) (T : List AV) (o : Oper) : Gd :=
  match o.guard with
  | none => .run []
  | some (j, want) =>
    match (ops[j]?).bind (·.dst) with
    | some d => match getT T d with
      | .bool _ => .run [(d, want)]
      | .gd js (.bool _) => .run (js ++ [(d, want)])
      | .tup [] => .skip
      | _ => .bad
    | none => .bad

/-- a value of an operation that may be taken ahead of its guard -/
def solid (js : Js) (v : Option AV) : Option AV :=
  match js with
  | [] => v
  | _ => match v with
    | some (.tup []) | some .top | some (.gd _ _) => none
    | v => v

/-- the operand of a 'pick' that is taken where slot c holds w -/
def pickJ (o : Oper) (w : Bool) : Js :=
  match o.op with
  | .pick (.tmp d) _ _ => [(d, w)]
  | _ => []

def pureG (P : Program) (T : List AV) (js : Js) (h : List Obj) (o : Oper) : Option AV :=
  solid js (opPure P (evalG T js) (evalG T (js ++ pickJ o true)) (evalG T (js ++ pickJ o false)) h o)

/-- do guards hold? (acc: those of which that has been seen) -/
def holdsJ (T : List AV) (acc : Js) : Js → Option Bool
  | [] => some true
  | (d, w) :: js => match getT T d with
    | .bool c => match holdsJ T ((d, w) :: acc) js with
      | some r => some ((c == w) && r)
      | none => none
    | .gd js' (.bool c) => cond (subJ acc js') (match holdsJ T ((d, w) :: acc) js with
      | some r => some ((c == w) && r)
      | none => none) none
    | _ => none

def opsD (P : Program) (pol : Pol) (call : CallK) (fn : FuncId) (all : Array Oper) : List Oper → St → (St → R) → (AV → St → R) → R
  | [], st, k, _ => k st
  | o :: rest, st, k, kp =>
    match guardOf all st.T o with
    | .skip => opsD P pol call fn all rest (st.put o.dst undefA) k kp
    | .bad => none
    | .run js =>
      match pureG P st.T js st.s.h o with
      | some v => opsD P pol call fn all rest (st.put o.dst (gdOf js v)) k kp
      | none => splitJ js st.T
          (fun T => opD P pol call fn none (evalG T []) o st.s (fun v s => opsD P pol call fn all rest (St.put ⟨T, s⟩ o.dst v) k kp) (fun v s => kp v ⟨T, s⟩))
          (fun T => opsD P pol call fn all rest (St.put ⟨T, st.s⟩ o.dst undefA) k kp)

/-! regions whose order is open -/
inductive Cls where
  | reg | load | eff
  deriving DecidableEq

/-- what an operation has to do with the heap -/
def clsOf (o : Oper) : Cls :=
  match o.op with
  | .move _ | .assign _ | .pick .. | .build .. | .nilCheck _ | .binOp .. | .unOp .. | .convert .. | .makeInterface .. | .makeFunc .. | .fieldAddr .. | .field ..
  | .extract .. | .indexAddr .. | .index .. | .slice .. | .buildSlice .. | .typeAssert .. => .reg
  | .load .. | .lookup .. => .load
  | .call { callee := .builtin .len, .. } | .call { callee := .builtin .max, .. } | .call { callee := .builtin .min, .. } => .reg
  | _ => .eff

/-- the operations that one waits for, itself or through others (by bits) -/
def aheadStep (acc : List Nat) (o : Oper) : Nat := (o.after.toList.filter (Region.binds .any)).foldl (fun m e => m ||| (2 ^ e.on ||| (acc[e.on]?).getD 0)) 0
def aheadOf (ops : Array Oper) : List Nat := ops.toList.foldl (fun acc o => acc ++ [aheadStep acc o]) []
/-- is j among what i waits for? -/
def isAhead (ah : List Nat) (i j : Nat) : Bool := ((ah[i]?).getD 0).testBit j

def slotsOf (o : Oper) : List Nat := o.op.operands.toList.filterMap fun x => match x with
  | .tmp t => some t
  | _ => none

def dstAt (ops : Array Oper) (i : Nat) : Option Nat := (ops[i]?).bind (·.dst)

def effAt (P : Program) (pol : Pol) (fn : FuncId) (ops : Array Oper) (i : Nat) : Bool := match ops[i]? with
  | some o => clsOf o == .eff || mkO P pol fn o
  | none => false

def drawPair (ops : Array Oper) (ah : List Nat) (i j : Nat) (o : Oper) : Bool :=
  (j == i || !(o.dst.isSome && o.dst == dstAt ops j)) &&
  (match dstAt ops j with
    | some d => !((slotsOf o).contains d) || (isAhead ah i j && decide (j < i)) || (isAhead ah j i && decide (i < j))
    | none => true)

def drawOK (ops : Array Oper) : Bool :=
  let ah := aheadOf ops
  (List.range ops.size).all fun i => match ops[i]? with
    | some o => (o.after.toList.all fun e => !(Region.binds .any e) || decide (e.on < i)) &&
      (match o.guard with | some (j, _) => isAhead ah i j && decide (j < i) | none => true) &&
      ((List.range ops.size).all fun j => drawPair ops ah i j o)
    | none => false

/-- what an operation has to do with objects: those that it looks at, those that it turns, one that may be born -/
structure Foot where
  ix : Nat
  rs : List Nat
  ws : List Nat
  nw : Option Nat
  ks : List Nat

def ids : AV → List Nat
  | .ptr i _ _ _ => [i]
  | .sr i _ _ _ => [i]
  | .sl _ (.id i) _ _ => [i]
  | .map i => [i]
  | _ => []

def footOf (P : Program) (pol : Pol) (fn : FuncId) (i n : Nat) (e : Operand → AV) (o : Oper) : Foot :=
  { ix := i
    rs := o.op.operands.toList.flatMap fun x => ids (e x)
    ws := match o.op with
      | .store _ a _ => ids (e a)
      | .mapUpdate _ m _ _ | .insert _ m _ _ => ids (e m)
      | .call { callee := .builtin .append, args := args, .. } => match args[0]? with
        | some x => ids (e x)
        | none => []
      | _ => []
    nw := cond (mkO P pol fn o) (some n) none
    ks := match o.op with
      | .call { callee := .builtin .append, args := args, .. } => match args[0]? with
        | some x => (match e x with | .sr i _ _ _ => [i] | _ => [])
        | none => []
      | _ => [] }

def meets (l m : List Nat) : Bool := l.any fun x => m.contains x
/-- is the content of what one turns looked at by the other one? -/
def rsOf (P : Program) (o : Oper) (f : Foot) : List Nat :=
  match o.op with
  | .call { callee := .value g, .. } => cond (cloneOf P g).isSome f.rs []
  | .load .. | .lookup .. | .call { callee := .builtin .append, .. } => f.rs
  | _ => []
def nwL (f : Foot) : List Nat := (match f.nw with
  | some n => [n]
  | none => []) ++ f.ks

/-- a footprint, with what is looked at but for being there -/
structure Fp where
  f : Foot
  full : List Nat
  bar : Option (List (Nat × Bool))

/-- a call that has the heap; hid: what is looked at by operations that it is not in order with (true: at its content) -/
def barOf (P : Program) (pol : Pol) (hid : List (Nat × Bool)) (e : Operand → AV) (o : Oper) : Option (List (Nat × Bool)) :=
  match o.op with
  | .call { callee := .value f, args := args, .. } =>
    match cloneOf P f with
    | some _ => none
    | none => match e f with
      | .fn g cap => match (cond (pol.full g) none (((args.toList.map e) ++ cap).mapM exportA)) with
        | none => some hid
        | some _ => none
      | _ => none
  | _ => none

def fpOf (P : Program) (pol : Pol) (fn : FuncId) (i n : Nat) (hid : List (Nat × Bool)) (e : Operand → AV) (o : Oper) : Fp :=
  ⟨footOf P pol fn i n e o, rsOf P o (footOf P pol fn i n e o), barOf P pol hid e o⟩

def inKd (M : List (Nat × Bool)) (m : Nat) : Bool := M.any fun p => p.1 == m
def inFull (M : List (Nat × Bool)) (m : Nat) : Bool := M.any fun p => p.1 == m && p.2

/-- does a call that has the heap meet what another operation has to do with? It looks at all, and turns all but what is told. -/
def barred (a b : Fp) : Bool :=
  match a.bar with
  | none => false
  | some M => b.bar.isSome || !(b.f.ws ++ nwL b.f).isEmpty || b.full.any (fun m => !inFull M m) || b.f.rs.any (fun m => !inKd M m)

def clash (a b : Fp) : Bool :=
  (meets (a.f.ws ++ nwL a.f) (b.full ++ b.f.ws ++ nwL b.f) || meets a.full (b.f.ws ++ nwL b.f) || meets (nwL a.f) b.f.rs || meets a.f.rs (nwL b.f)) || (barred a b || barred b a)

def freeOf (ah : List Nat) (ps : List Fp) (b : Fp) : Bool := ps.all fun a => !clash a b || isAhead ah b.f.ix a.f.ix

/-- surely the same -/
def sameRows (eq : AV → AV → Bool) : List (List AV) → List (List AV) → Bool
  | [], [] => true
  | a :: l, b :: m => (a.length == b.length && (a.zip b).all fun p => eq p.1 p.2) && sameRows eq l m
  | _, _ => false
def sameTok : Tok → Tok → Bool
  | .no, .no => true
  | .tight, .tight => true
  | .id i, .id j => i == j
  | _, _ => false
def sameA : Nat → AV → AV → Bool
  | 0, _, _ => false
  | d + 1, a, b => match a, b with
    | .top, .top | .dk, .dk | .nil, .nil | .nils, .nils | .nilfn, .nilfn | .nilifc, .nilifc | .nilmap, .nilmap => true
    | .int k m, .int k' n => decide (k = k') && m == n
    | .bool x, .bool y => x == y
    | .str x, .str y => x == y
    | .flt x, .flt y => x == y
    | .ptr i g r o, .ptr i' g' r' o' => i == i' && g == g' && r == r' && o == o'
    | .sr i g o l, .sr i' g' o' l' => i == i' && g == g' && o == o' && l == l'
    | .map i, .map j => i == j
    | .fn f c, .fn f' c' => f == f' && sameRows (sameA d) [c] [c']
    | .ifc t v, .ifc t' v' => t == t' && sameA d v v'
    | .sl z t n f, .sl z' t' n' f' => z == z' && sameTok t t' && sameRows (sameA d) (List.ofFn f) (List.ofFn f')
    | _, _ => false
def sameOb : Obj → Obj → Bool
  | .var l, .var m => sameRows (sameA 6) [l] [m]
  | .arr z g _ f, .arr z' g' _ f' => z == z' && g == g' && sameRows (sameA 6) (List.ofFn f) (List.ofFn f')
  | .tok m, .tok n => m == n
  | _, _ => false
/-- the kind of an object: it stays -/
def kindO : Obj → Nat × Nat × Nat
  | .var _ => (0, 0, 0)
  | .arr z g _ _ => (1, z, g)
  | .tok _ => (2, 0, 0)
  | .map .. => (3, 0, 0)
  | .dead => (4, 0, 0)
  | .unborn => (5, 0, 0)
  | .sit .. => (6, 0, 0)
def kindEq (o o' : Obj) : Bool := (kindO o).1 == (kindO o').1 && (kindO o).2.1 == (kindO o').2.1 && (kindO o).2.2 == (kindO o').2.2
/-- has a call left alone what others look at? -/
def keptB (p : Fp) (h h' : List Obj) : Bool :=
  match p.bar with
  | none => true
  | some M => M.all fun q => match h[q.1]?, h'[q.1]? with
    | some o, some o' => cond q.2 (sameOb o o') (kindEq o o')
    | _, _ => false

/-- does it look at what is in an object? -/
def looksIn (P : Program) (o : Oper) : Bool :=
  match o.op with
  | .load .. | .lookup .. | .call { callee := .builtin .append, .. } => true
  | .call { callee := .value f, .. } => (cloneOf P f).isSome
  | _ => false

/-- what an operation would come to -/
def peekV (P : Program) (pol : Pol) (fn : FuncId) (T : List AV) (h : List Obj) (o : Oper) : AV :=
  match opPure P (evalG T []) (evalG T []) (evalG T []) h o with
  | some v => v
  | none => match opD P pol (fun _ _ _ _ _ => none) fn none (evalG T []) o ⟨h, [], .plain⟩ (fun v _ => some (.ret v [] .plain)) (fun _ _ => none) with
    | some (.ret v _ _) => v
    | _ => .top

/-- what the operations look at that neither wait for a call nor are waited for (any list would do) -/
def hidGo (P : Program) (pol : Pol) (fn : FuncId) (ah : List Nat) (i : Nat) (h : List Obj) : List Oper → Nat → List AV → List (Nat × Bool)
  | [], _, _ => []
  | o :: rest, j, T => cond (j == i || isAhead ah i j || isAhead ah j i) (hidGo P pol fn ah i h rest (j + 1) T)
    ((o.op.operands.toList.flatMap fun x => (ids (evalG T [] x)).map fun m => (m, looksIn P o)) ++
      hidGo P pol fn ah i h rest (j + 1) (cond (decide (i < j)) (match o.dst with | some d => T.set d (peekV P pol fn T h o) | none => T) T))

/-- operations whose order is open, in the order of the text -/
def opsW (P : Program) (pol : Pol) (call : CallK) (fn : FuncId) (all : Array Oper) (ah : List Nat) : List Oper → Nat → Nat → List Fp → St → (St → R) → (AV → St → R) → R
  | [], _, _, _, st, k, _ => k st
  | o :: rest, i, n, ps, st, k, kp =>
    match guardOf all st.T o with
    | .skip => opsW P pol call fn all ah rest (i + 1) (cond (mkO P pol fn o) (n + 1) n) ps (st.put o.dst undefA) k kp
    | .bad => none
    | .run js => cond (freeOf ah ps (fpOf P pol fn i n (hidGo P pol fn ah i st.s.h all.toList 0 st.T) (evalG st.T js) o))
      (match pureG P st.T js st.s.h o with
        | some v => opsW P pol call fn all ah rest (i + 1) (cond (mkO P pol fn o) (n + 1) n) (fpOf P pol fn i n (hidGo P pol fn ah i st.s.h all.toList 0 st.T) (evalG st.T js) o :: ps) (st.put o.dst (gdOf js v)) k kp
        | none => match holdsJ st.T [] js with
          | some b => cond b
            (opD P pol call fn (some n) (evalG st.T js) o st.s
              (fun v s => cond (keptB (fpOf P pol fn i n (hidGo P pol fn ah i st.s.h all.toList 0 st.T) (evalG st.T js) o) st.s.h s.h) (opsW P pol call fn all ah rest (i + 1) (cond (mkO P pol fn o) (n + 1) n) (fpOf P pol fn i n (hidGo P pol fn ah i st.s.h all.toList 0 st.T) (evalG st.T js) o :: ps) (St.put ⟨st.T, s⟩ o.dst (gdOf js v)) k kp) none) (fun v s => kp v ⟨st.T, s⟩))
            (opsW P pol call fn all ah rest (i + 1) (cond (mkO P pol fn o) (n + 1) n) ps (st.put o.dst undefA) k kp)
          | none => none)
      none

/-- how many objects may be born -/
def births (P : Program) (pol : Pol) (fn : FuncId) (ops : List Oper) : Nat := (ops.filter (mkO P pol fn)).length
def withUnborn (m : Nat) (st : St) : St := ⟨st.T, { st.s with h := st.s.h ++ List.replicate m .unborn }⟩

/-- may it panic? -/
def mayPan (o : Oper) : Bool :=
  match o.op with
  | .panic _ => true
  | .call { callee := .value _, .. } => true
  | _ => false

/-- all that stands behind an operation that may panic waits for it; it waits for what turns the heap ahead of it -/
def panOK (P : Program) (pol : Pol) (fn : FuncId) (ops : Array Oper) : Bool :=
  let ah := aheadOf ops
  (List.range ops.size).all fun i => match ops[i]? with
    | some o => !mayPan o || (List.range ops.size).all fun j => cond (decide (j ≤ i)) (j == i || !effAt P pol fn ops j || isAhead ah i j) (isAhead ah j i)
    | none => true

/-- nothing is known of what a region has written -/
def wipeT : List Oper → List AV → List AV
  | [], T => T
  | o :: l, T => wipeT l (match o.dst with
    | some d => T.set d .top
    | none => T)
def wipe (ops : Array Oper) (st : St) : St := { st with T := wipeT ops.toList st.T }

def anyGuard (ops : List Oper) : Bool := ops.any fun o => o.guard.isSome

/-- each slot is written once, and guards look back -/
def backOK : Nat → List Oper → Bool
  | _, [] => true
  | i, o :: rest => (match o.guard with | some (j, _) => decide (j < i) | none => true) && backOK (i + 1) rest

def uniqOK : List Oper → Bool
  | [] => true
  | o :: rest => (match o.dst with | some d => !(rest.any fun o' => o'.dst == some d) | none => true) && uniqOK rest

def regOK (ops : Array Oper) : Bool := !anyGuard ops.toList || (uniqOK ops.toList && backOK 0 ops.toList)

def clearG (g : Bool) (st : St) : St := cond g { st with T := st.T.map ungd } st

def maskT : Nat → List AV → List AV
  | _, [] => []
  | m, v :: T => cond (m == 0) (v :: T) (cond (m % 2 == 1) .top v :: maskT (m / 2) T)

def killSt (m : Nat) (st : St) : St := cond (m == 0) st { st with T := maskT m st.T }

/-! loops -/
def sweepC (n : Nat) : AV → AV
  | .ptr i gen row off => cond (decide (i < n)) (.ptr i gen row off) .dk
  | .sr i gen off len => cond (decide (i < n)) (.sr i gen off len) .dk
  | .map i => cond (decide (i < n)) (.map i) .dk
  | .sl z (.id i) m f => .sl z (cond (decide (i < n)) (.id i) .no) m f
  | .ifc t v => cond (plainA v) (.ifc t v) .dk
  | .fn _ (_ :: _) => .dk
  | .agg _ | .tup _ | .gd _ _ => .top
  | v => v

def sweep (n : Nat) : AV → AV
  | .agg cs => .agg (cs.map (sweepC n))
  | .tup vs => .tup (vs.map (sweepC n))
  | .fn f cap => .fn f (cap.map (sweepC n))
  | v => sweepC n v

def sweepO (n : Nat) : Obj → Obj
  | .var cs => .var (cs.map (sweepC n))
  | .arr z g m f => .arr z g m fun j => (f j).map (sweepC n)
  | .map a ks m f => .map a ks m fun j => ((f j).1, sweep n (f j).2)
  | o => o

def PS.cut (n : Nat) : PS → PS
  | .pan v => .pan (sweep n v)
  | p => p

def Hs.cut (s : Hs) (n : Nat) : Hs := { h := (s.h.take n).map (sweepO n), ds := s.ds.map (sweep n), ps := s.ps.cut n }
def St.cut (st : St) (n : Nat) : St := ⟨st.T.map (sweep n), st.s.cut n⟩

/-- a slice without room behind it gets a right to grow -/
def promote1 (st : St) (d : Nat) : St :=
  match getT st.T d with
  | .sl z .tight n f => ⟨st.T.set d (.sl z (.id st.s.h.length) n f), { st.s with h := st.s.h ++ [.tok n] }⟩
  | _ => st

/-- the same for a slice that a variable has in a cell -/
def promoteC (st : St) (d j : Nat) : St :=
  match getT st.T d with
  | .ptr i _ _ _ =>
    match st.s.h[i]? with
    | some (.var cs) =>
      match cs[j]? with
      | some (.sl z .tight n f) => ⟨st.T, { st.s with h := (st.s.h ++ [Obj.tok n]).set i (.var (cs.set j (.sl z (.id st.s.h.length) n f))) }⟩
      | _ => st
    | _ => st
  | _ => st
/-- a slot's number; from 1024 on: a cell (the slot's number, 1024 times the cell's number and one) -/
def promoteN (st : St) (d : Nat) : St := cond (decide (d < 1024)) (promote1 st d) (promoteC st (d % 1024) (d / 1024 - 1))

def promote (l : List Nat) (st : St) : St := l.foldl promoteN st

def loopD (keep : Bool) (h0 : Nat) (B : St → (Exit → St → R) → R) : Nat → St → (Exit → St → R) → R
  | 0, _, _ => none
  | n + 1, st, k => B st fun e st' => match e with
    | .normal => loopD keep h0 B n (cond keep st' (st'.cut h0)) k
    | e => k e st'

/-- the number of the first region of a text: it names a loop -/
def regOf : Code → Nat
  | .region id _ _ => id
  | .seq a _ => regOf a
  | .block _ c => regOf c
  | .scope c => regOf c
  | _ => 0

def codeD (P : Program) (pol : Pol) (call : CallK) (fuel : Nat) (fn : FuncId) : Code → St → (Exit → St → R) → R
  | .skip, st, k => k .normal st
  | .label _, st, k => k .normal st
  | .region id ops draw, st, k => cond (draw && !drawOK ops || !regOK ops) none
      (cond draw
        (opsW P pol call fn ops (aheadOf ops) ops.toList 0 st.s.h.length [] (withUnborn (births P pol fn ops.toList) st) (fun st' => k .normal (killSt (pol.dead fn id) (clearG (anyGuard ops.toList) st'))) (fun v st' => cond (panOK P pol fn ops) (k (.pan v) (wipe ops st')) none))
        (opsD P pol call fn ops ops.toList st (fun st' => k .normal (killSt (pol.dead fn id) (clearG (anyGuard ops.toList) st'))) (fun v st' => k (.pan v) (clearG true st'))))
  | .seq a b, st, k => codeD P pol call fuel fn a st fun e st' => match e with
    | .normal => codeD P pol call fuel fn b st' k
    | e => k e st'
  | .cond c x y, st, k => match eval st.T c with
    | .bool b => cond b (codeD P pol call fuel fn x st k) (codeD P pol call fuel fn y st k)
    | _ => none
  | .block i c, st, k => codeD P pol call fuel fn c st fun e st' => match e with
    | .exit j => cond (j == i) (k .normal st') (k (.exit j) st')
    | e => k e st'
  | .loop c, st, k => loopD (pol.keep fn) (promote (pol.prom fn (regOf c)) st).s.h.length (codeD P pol call fuel fn c) fuel (promote (pol.prom fn (regOf c)) st) k
  | .scope c, st, k => codeD P pol call fuel fn c st k
  | .exit i, st, k => k (.exit i) st
  | .ret, st, k => k .ret st
  | _, _, _ => none

def resultsD (P : Program) (f : Func) (st : St) : Option AV :=
  match f.results.toList.mapM (fun (r : ResultVar) => match r with
    | .tmp t => some (getT st.T t)
    | .cell a t => (loadD st.s.h (getT st.T a) (P.cellsOf t)).bind (mkVal P t)) with
  | some [v] => some v
  | some vs => some (.tup vs)
  | none => none

def PS.back : PS → Option AV
  | .pan v => some v
  | _ => none

def psOf : Option AV → PS
  | some v => .pan v
  | none => .over

def leaveD (P : Program) (call : CallK) (f : Func) : List AV → St → Option AV → R
  | [], st, none => match resultsD P f st with
    | some v => some (.ret v st.s.h st.s.ps)
    | none => none
  | [], st, some v => some (.pan v st.s.h st.s.ps)
  | d :: ds, st, pan => match d with
    | .fn g cap => call g cap st.s.h (psOf pan) fun
      | .ret _ h ps => leaveD P call f ds ⟨st.T, { st.s with h := h }⟩ ps.back
      | .pan _ _ _ => none
    | _ => none

/-- does it lead into the heap? -/
def idsIn : AV → Bool
  | .ptr .. | .sr .. | .map _ | .fn _ (_ :: _) => true
  | .sl _ (.id _) _ _ => true
  | _ => false

def leadsIn : AV → Bool
  | .agg cs => cs.any idsIn
  | .tup vs => vs.any fun v => match v with
    | .agg cs => cs.any idsIn
    | v => idsIn v
  | v => idsIn v

def shut (full hold : Bool) (n : Nat) : R → R
  | some (.ret v h ps) => cond (full && (hold || leadsIn v)) (some (.ret v h ps)) (some (.ret (freeze n h v) ((h.take n).map (sweepO n)) (ps.cut n)))
  | some (.pan v h ps) => some (.pan (sweep n v) ((h.take n).map (sweepO n)) (ps.cut n))
  | none => none

def startT (P : Program) (f : Func) (args : List AV) : List AV :=
  (List.range args.length).map (fun i => match f.params[i]?, args[i]? with
        | some t, some v => coerce P t v
        | _, some v => v
        | _, none => undefA) ++ List.replicate (f.ntmps - args.length) undefA

def bodyD (P : Program) (pol : Pol) (call : CallK) (fuel : Nat) (fn : FuncId) (args : List AV) (h : List Obj) (ps : PS) : R :=
  match P.funcs[fn]? with
  | some f => match f.body with
    | some c => codeD P pol call fuel fn c ⟨startT P f args, ⟨h, [], ps⟩⟩ fun e st => shut (pol.full fn) (pol.hold fn) h.length <|
        match e, ps, st.s.ds with
        | .normal, .plain, ds | .ret, .plain, ds => leaveD P call f ds st none
        | .pan v, .plain, ds => leaveD P call f ds st (some v)
        | .normal, _, [] | .ret, _, [] => leaveD P call f [] st none
        | _, _, _ => none
    | none => none
  | none => none

def den (P : Program) (pol : Pol) (ext : FuncId → Option CallO) : Nat → CallO
  | 0 => fun _ _ _ _ => none
  | k + 1 => fun f args h ps => match ext f with
    | some g => g f args h ps
    | none => bodyD P pol (bindK (den P pol ext k)) k f args h ps

end Go.Den
