/- Floats: what the package's functions come to, as plain numbers; facts of the model's floats. -/
import Derived.Test.YtndanoiaheknaaaGreatDenOps20
import Derived.WalkKit
import Derived.ProofKit
import Derived.OpenShut
import Derived.Laws.Externs
set_option linter.unusedSimpArgs false
set_option linter.unusedVariables false
namespace Go.Den
open Go Go.ChangeShapes Go.WideShapes Go.ChangeAt Go.RowKit

/-- nothing of the world has turned but how many draws were made -/
def Same (w w' : World) : Prop := w'.heap = w.heap ∧ w'.os = w.os ∧ w'.tape = w.tape ∧ w'.output = w.output
theorem Same.refl (w : World) : Same w w := ⟨rfl, rfl, rfl, rfl⟩
theorem Same.drew (w : World) : Same w w.drew := ⟨rfl, rfl, rfl, rfl⟩

def ok1 (v : AV) (h : List Den.Obj) : R := some (.ret v h .plain)

/-- a function that leaves the world as it is, by its calls -/
theorem ext_one {P : Program} {f : FuncId} {fn : Func} (hfn : P.funcs[f]? = some fn) (hb : fn.body.isSome = true) {args : List AV} {h : List Den.Obj} {v : AV}
    (hcalls : ∀ (c : Cx) (xs : Array Value), ArgsR c args xs → ∃ x, VR c v x ∧ Calls P f xs c.w fun e w' => e = .returned x ∧ Same c.w w') :
    (∃ fn, P.funcs[f]? = some fn ∧ fn.body.isSome = true) ∧
    ∀ (c : Cx) (xs : Array Value), RelH c → c.h = h → ArgsR c args xs →
      (PS.plain = .plain → Calls P f xs c.w fun e w' => ∃ c', c'.w = w' ∧ Evol c c' ∧ RelH c' ∧ OutR c' (.ret v h .plain) e) ∧
      ∀ u v₁ h' ps', ModeR c .plain u → Out.ret v h .plain = .ret v₁ h' ps' → CallsD P f xs u c.w fun e u' w' => ∃ c', c'.w = w' ∧ Evol c c' ∧ RelH c' ∧ c'.h = h' ∧ ModeR c' ps' u' ∧ ∃ x, e = .returned x := by
  refine ⟨⟨fn, hfn, hb⟩, fun c xs hr hh ha => ⟨fun _ => ?_, fun u v₁ h' ps' hm => hm.elim⟩⟩
  obtain ⟨x, hv, hc⟩ := hcalls c xs ha
  refine Calls.mono hc fun e w' ⟨he, h1, h2, h3, h4⟩ => ?_
  subst he
  obtain ⟨hE, hR⟩ := evol_world hr (w' := w') h2 h3 h4 (by rw [h1]; exact Nat.le_refl _) (fun b _ => by rw [h1])
  exact ⟨_, rfl, hE, hR, hh, hv.ext hE.ext⟩

/-! what the functions come to -/
def nanC : Int := 9221120237041090561
def cnI (r : Int) : Int := if 9218868437227405312 < bits .andNot .u64 r 9223372036854775808 then nanC else r
def arF (op : BinOp) (a b : Nat) : Option Nat := match op with
  | .add => Ieee.double.add a b
  | .sub => Ieee.double.sub a b
  | .mul => Ieee.double.mul a b
  | _ => Ieee.double.div a b
def arI (op : BinOp) (a b : Int) : Int := match arF op a.toNat b.toNat with
  | some r => cnI r
  | none => nanC
def eqF (a b : Int) : Bool := Ieee.double.order a.toNat b.toNat == some .eq
def ltF (a b : Int) : Bool := Ieee.double.order a.toNat b.toNat == some .lt
def fromI (n : Int) : Int := cnI (FloatKind.f64.nearest n)

def nanW (t : Nat) : Nat := (t % 2) * 2 ^ 63 + 0x7ff0000000000000 + 1 + (t / 2) % (2 ^ 52 - 1)
theorem low63 (x : Nat) (h : x < 2 ^ 64) : bits .andNot .u64 (x : Int) 9223372036854775808 = ((x % 2 ^ 63 : Nat) : Int) := by
  have e : (BitVec.ofInt 64 (x : Int) &&& ~~~BitVec.ofInt 64 9223372036854775808).toNat = x % 2 ^ 63 := by
    have h1 : (~~~BitVec.ofInt 64 9223372036854775808) = BitVec.ofNat 64 (2 ^ 63 - 1) := by decide
    rw [h1, BitVec.toNat_and, BitVec.toNat_ofNat, Nat.mod_eq_of_lt (by decide : 2 ^ 63 - 1 < 2 ^ 64)]
    have h2 : (BitVec.ofInt 64 (x : Int)).toNat = x := by
      simp only [BitVec.toNat_ofInt]
      omega
    rw [h2, Nat.and_two_pow_sub_one_eq_mod]
  have e2 : bits .andNot .u64 (x : Int) 9223372036854775808 = IntKind.u64.wrap ((x % 2 ^ 63 : Nat) : Int) := by
    rw [← e]
    rfl
  rw [e2]
  simp only [IntKind.wrap, IntKind.bits, IntKind.signed]
  have : x % 2 ^ 63 < 2 ^ 63 := Nat.mod_lt _ (by decide)
  simp
  omega
theorem cn_nan (t : Nat) : cnI (nanW t) = nanC := by
  unfold cnI
  have h1 : (t / 2) % (2 ^ 52 - 1) < 2 ^ 52 - 1 := Nat.mod_lt _ (by decide)
  have h2 : t % 2 < 2 := Nat.mod_lt _ (by decide)
  have hlt : nanW t < 2 ^ 64 := by unfold nanW; omega
  rw [low63 _ hlt, if_pos]
  unfold nanW
  generalize (t / 2) % (2 ^ 52 - 1) = f at *
  generalize t % 2 = g at *
  have : (g * 2 ^ 63 + 0x7ff0000000000000 + 1 + f) % 2 ^ 63 = 0x7ff0000000000000 + 1 + f := by omega
  rw [this]
  omega

section
variable {P : Program} {ft : TypeId}
theorem run_arS {op : BinOp} (hop : op = .add ∨ op = .sub ∨ op = .mul ∨ op = .quo) {x y r : Nat} (h : arF op x y = some r) (w : World) : Sem.run P (binOp op ft (.float .f64 x) (.float .f64 y)) w = .ok (.float .f64 r) w := by
  rcases hop with rfl | rfl | rfl | rfl <;> simp only [arF] at h <;> simp [binOp, Op.floatArith, FloatKind.format, h]
theorem run_arN {op : BinOp} (hop : op = .add ∨ op = .sub ∨ op = .mul ∨ op = .quo) {x y : Nat} (h : arF op x y = none) (w : World) : ∃ t : Nat, Sem.run P (binOp op ft (.float .f64 x) (.float .f64 y)) w = .ok (.float .f64 (nanW t)) w.drew := by
  refine ⟨w.tape w.drawn (.nanBits .f64 x y), ?_⟩
  rcases hop with rfl | rfl | rfl | rfl <;> simp only [arF] at h <;> simp [binOp, Op.floatArith, FloatKind.format, h, Sem.run, choose, Question.cut, Question.forced, nanW]
theorem run_cmp {op : BinOp} {x y : Nat} {b : Bool} (h : (Op.floatCmp op .f64 x y) = (pure (.bool b) : Sem Value)) (hop : op = .eql ∨ op = .lss ∨ op = .geq) (w : World) : Sem.run P (binOp op ft (.float .f64 x) (.float .f64 y)) w = .ok (.bool b) w := by
  rcases hop with rfl | rfl | rfl <;> simp [binOp, h]
end
end Go.Den

/- A float made whole: within the bounds of 64 bits, or not. -/
namespace Go.Den
open Go

theorem cut_le (s : Bool) (n d : Nat) : Ieee.Toward.cut .zero s n d ≤ n := by
  unfold Ieee.Toward.cut
  simp
  exact Nat.div_le_self _ _
theorem cut_zero (s : Bool) (n d B : Nat) (h : n < B * 2 ^ d) : Ieee.Toward.cut .zero s n d < B ∨ Ieee.Toward.cut .zero s n d = 0 := by
  unfold Ieee.Toward.cut
  simp only [Bool.toNat_false, Nat.add_zero, Nat.shiftLeft_eq, Nat.one_mul]
  by_cases hd : d ≤ n.log2 + 2
  · rw [Nat.min_eq_left hd]
    left
    exact Nat.div_lt_of_lt_mul (by rw [Nat.mul_comm]; exact h)
  · rw [Nat.min_eq_right (by omega)]
    right
    apply Nat.div_eq_of_lt
    by_cases hn : n = 0
    · subst hn; simp
    · have := Nat.lt_log2_self (n := n)
      exact Nat.lt_trans this (Nat.pow_lt_pow_right (by decide) (by omega))
theorem cut_zero_le (s : Bool) (n d B : Nat) (h : n ≤ B * 2 ^ d) : Ieee.Toward.cut .zero s n d ≤ B := by
  unfold Ieee.Toward.cut
  simp only [Bool.toNat_false, Nat.add_zero, Nat.shiftLeft_eq, Nat.one_mul]
  by_cases hd : d ≤ n.log2 + 2
  · rw [Nat.min_eq_left hd]
    exact Nat.div_le_of_le_mul (by rw [Nat.mul_comm]; exact h)
  · rw [Nat.min_eq_right (by omega)]
    have : n / 2 ^ (n.log2 + 2) = 0 := by
      apply Nat.div_eq_of_lt
      by_cases hn : n = 0
      · subst hn; simp
      · have := Nat.lt_log2_self (n := n)
        exact Nat.lt_trans this (Nat.pow_lt_pow_right (by decide) (by omega))
    omega

theorem icmp_gt {a b : Int} : compare a b = .gt ↔ b < a := by
  simp only [compare, compareOfLessAndEq]
  split
  · simp; omega
  · split
    · simp; omega
    · simp; omega
theorem icmp_lt {a b : Int} : compare a b = .lt ↔ a < b := by
  simp only [compare, compareOfLessAndEq]
  split
  · simp; omega
  · split
    · simp; omega
    · simp; omega
theorem icmp_eq {a b : Int} : compare a b = .eq ↔ a = b := by
  simp only [compare, compareOfLessAndEq]
  split
  · simp; omega
  · split
    · simp; omega
    · simp; omega
def c63 : Nat := 4890909195324358656
def m63 : Nat := 14114281232179134464
theorem read_c63 : Ieee.double.read c63 = .number false 4503599627370496 11 := by decide +kernel
theorem read_m63 : Ieee.double.read m63 = .number true 4503599627370496 11 := by decide +kernel
/-- is a float within the bounds? -/
def inR (y : Nat) : Bool := (Ieee.double.order y m63 == some .gt || Ieee.double.order y m63 == some .eq) && Ieee.double.order y c63 == some .lt

theorem inR_int {y : Nat} (h : inR y = true) : ∃ n : Int, (Ieee.double.read y).toInt .zero = some n ∧ -9223372036854775808 ≤ n ∧ n ≤ 9223372036854775807 := by
  unfold inR Ieee.Format.order at h
  rw [read_c63, read_m63] at h
  cases hy : Ieee.double.read y with
  | nan s t => rw [hy] at h; simp [Ieee.Datum.order] at h
  | infinity s => rw [hy] at h; cases s <;> simp [Ieee.Datum.order] at h
  | number s m i =>
    rw [hy] at h
    simp only [Ieee.Datum.order, Ieee.signed, Bool.and_eq_true, Bool.or_eq_true, beq_iff_eq, Option.some.injEq, Nat.shiftLeft_eq, icmp_gt, icmp_lt, icmp_eq, if_true, Bool.false_eq_true, if_false] at h
    simp only [Ieee.Datum.toInt, Ieee.Datum.integral, Ieee.signed, Nat.shiftLeft_eq, Nat.pow_zero, Nat.mul_one]
    refine ⟨_, rfl, ?_⟩
    obtain ⟨h1, h2⟩ := h
    have h1 : -((4503599627370496 * 2 ^ (11 - min i 11).toNat : Nat) : Int) ≤ if s = true then -((m * 2 ^ (i - min i 11).toNat : Nat) : Int) else ((m * 2 ^ (i - min i 11).toNat : Nat) : Int) := by
      rcases h1 with h | h
      · exact Int.le_of_lt h
      · exact Int.le_of_eq h.symm
    -- what is left behind the point is let go
    have key : ∀ (q : Nat), Ieee.Toward.cut .zero s (m * 2 ^ i.toNat) (-i).toNat = q → (s = false → q < 9223372036854775808) ∧ (s = true → q ≤ 9223372036854775808) := by
      intro q hq
      by_cases hi : 0 ≤ i
      · have hd : (-i).toNat = 0 := by omega
        have hle : q ≤ m * 2 ^ i.toNat := by rw [← hq]; exact cut_le _ _ _
        have e1 : m * 2 ^ i.toNat = (m * 2 ^ (i - min i 11).toNat) * 2 ^ (min i 11).toNat := by
          rw [Nat.mul_assoc, ← Nat.pow_add]; congr 2; omega
        have e2 : 9223372036854775808 = (4503599627370496 * 2 ^ (11 - min i 11).toNat) * 2 ^ (min i 11).toNat := by
          rw [Nat.mul_assoc, ← Nat.pow_add, show (11 - min i 11).toNat + (min i 11).toNat = 11 from by omega]
        have hp : 0 < 2 ^ (min i 11).toNat := Nat.pos_of_ne_zero (by simp)
        rw [e1] at hle
        generalize m * 2 ^ (i - min i 11).toNat = M at *
        generalize 4503599627370496 * 2 ^ (11 - min i 11).toNat = C at *
        generalize 2 ^ (min i 11).toNat = T at *
        refine ⟨fun hs => ?_, fun hs => ?_⟩
        · subst hs
          simp only [Bool.false_eq_true, if_false] at h2
          have : M < C := by omega
          have := Nat.mul_lt_mul_of_pos_right this hp
          omega
        · subst hs
          simp only [if_true] at h1
          have : M ≤ C := by omega
          have := Nat.mul_le_mul_right T this
          omega
      · have hm : min i 11 = i := by omega
        have ht : i.toNat = 0 := by omega
        rw [hm, Int.sub_self] at h1 h2
        have e : 4503599627370496 * 2 ^ (11 - i).toNat = 9223372036854775808 * 2 ^ (-i).toNat := by
          rw [show (11 - i).toNat = 11 + (-i).toNat from by omega, Nat.pow_add, ← Nat.mul_assoc]
        rw [e] at h1 h2
        simp only [Int.toNat_zero, Nat.pow_zero, Nat.mul_one] at h1 h2
        rw [ht, Nat.pow_zero, Nat.mul_one] at hq
        refine ⟨fun hs => ?_, fun hs => ?_⟩
        · subst hs
          simp only [Bool.false_eq_true, if_false] at h2
          rcases cut_zero false m (-i).toNat 9223372036854775808 (by omega) with h | h
          · omega
          · omega
        · subst hs
          simp only [if_true] at h1
          have := cut_zero_le true m (-i).toNat 9223372036854775808 (by omega)
          omega
    obtain ⟨k1, k2⟩ := key _ rfl
    cases s with
    | false =>
      have := k1 rfl
      simp only [Int.toNat_zero, Nat.pow_zero, Nat.mul_one, Bool.false_eq_true, if_false]
      omega
    | true =>
      have := k2 rfl
      simp only [Int.toNat_zero, Nat.pow_zero, Nat.mul_one, if_true]
      omega

theorem or_high (t : Nat) : (t ||| 2 ^ 51) % 2 ^ 52 ≠ 0 := by
  intro h
  have h1 : ((t ||| 2 ^ 51) % 2 ^ 52).testBit 51 = true := by
    rw [Nat.testBit_mod_two_pow, Nat.testBit_or, Nat.testBit_two_pow_self]
    simp
  rw [h] at h1
  simp at h1
theorem read_nan {w : Nat} (h : w % 2 ^ 63 > 2047 * 2 ^ 52) : ∃ s t, Ieee.double.read w = .nan s t := by
  unfold Ieee.Format.read
  have e1 : Ieee.double.signWeight = 2 ^ 63 := by decide
  have e2 : Ieee.double.binade = 2 ^ 52 := by decide
  have e3 : Ieee.double.infRung = 2047 * 2 ^ 52 := by decide
  simp only [e1, e2, e3]
  rw [if_neg (by omega), if_neg (by omega), if_neg (by omega)]
  exact ⟨_, _, rfl⟩
theorem write_nan (s : Bool) (t : Nat) : ∃ s' t', Ieee.double.read (Ieee.double.write (.nan s (Ieee.double.quiet t))) = .nan s' t' := by
  apply read_nan
  have e1 : Ieee.double.signWeight = 2 ^ 63 := by decide
  have e2 : Ieee.double.binade = 2 ^ 52 := by decide
  have e3 : Ieee.double.infRung = 2047 * 2 ^ 52 := by decide
  have e4 : Ieee.double.quiet t = t ||| 2 ^ 51 := rfl
  have h0 := or_high t
  have h1 : (t ||| 2 ^ 51) % 2 ^ 52 < 2 ^ 52 := Nat.mod_lt _ (by decide)
  simp only [Ieee.Format.write, Ieee.Format.word, e1, e2, e3, e4]
  generalize (t ||| 2 ^ 51) % 2 ^ 52 = u at *
  cases s <;> simp <;> omega
theorem nan_out {y : Nat} (h : ∃ s t, Ieee.double.read y = .nan s t) : inR y = false := by
  obtain ⟨s, t, h⟩ := h
  unfold inR Ieee.Format.order
  rw [h]
  cases Ieee.double.read m63 <;> cases Ieee.double.read c63 <;> rfl

/-- what a float made whole is; none: it was no number -/
def truncF (x : Nat) : Option Nat := match Ieee.double.read x with
  | .nan _ _ => none
  | d => some (Ieee.double.write (d.integral .zero))
def toI (a : Int) : Option Int := match truncF a.toNat with
  | none => none
  | some y => if inR y then (Ieee.double.read y).toInt .zero else none
theorem trunc_num {name : String} {x : Nat} {d : Ieee.Datum} (h : Ieee.double.read x = d) (hd : ∀ s t, d ≠ .nan s t) : Extern.MathFloor.toIntegral name .zero #[Value.float .f64 x] = pure (Value.float .f64 (Ieee.double.write (d.integral .zero))) := by
  have e : FloatKind.f64.decode x = d := h
  show ((match FloatKind.f64.decode x with
    | .nan s t =>
      if FloatKind.f64.format.quiet t = t then pure (Value.float .f64 x) else do
      let kept ← choose (.extern "math.Floor,Ceil,Trunc,RoundToEven.signallingNaN kept" 2)
      pure (Value.float .f64 (if kept == 1 then x else FloatKind.f64.encode (.nan s (FloatKind.f64.format.quiet t))))
    | d => pure (Value.float .f64 (FloatKind.f64.encode (d.integral .zero)))) : Sem Value) = _
  rw [e]
  cases d with
  | nan s t => exact absurd rfl (hd s t)
  | number => rfl
  | infinity => rfl
theorem trunc_run {name : String} {x : Nat} {s : Bool} {t : Nat} (h : Ieee.double.read x = .nan s t) : Extern.MathFloor.toIntegral name .zero #[Value.float .f64 x] =
      (if Ieee.double.quiet t = t then pure (Value.float .f64 x) else do
      let kept ← choose (.extern "math.Floor,Ceil,Trunc,RoundToEven.signallingNaN kept" 2)
      pure (Value.float .f64 (if kept == 1 then x else Ieee.double.write (.nan s (Ieee.double.quiet t))))) := by
  have e : FloatKind.f64.decode x = .nan s t := h
  show ((match FloatKind.f64.decode x with
    | .nan s t =>
      if FloatKind.f64.format.quiet t = t then pure (Value.float .f64 x) else do
      let kept ← choose (.extern "math.Floor,Ceil,Trunc,RoundToEven.signallingNaN kept" 2)
      pure (Value.float .f64 (if kept == 1 then x else FloatKind.f64.encode (.nan s (FloatKind.f64.format.quiet t))))
    | d => pure (Value.float .f64 (FloatKind.f64.encode (d.integral .zero)))) : Sem Value) = _
  rw [e]
  rfl
end Go.Den

/- Floats as plain numbers: what a word reads as, how two stand to each other, what is written is read. -/
namespace Go.Den
open Go Ieee

theorem sw : double.signWeight = 2 ^ 63 := by decide
theorem bn : double.binade = 2 ^ 52 := by decide
theorem ir : double.infRung = 2047 * 2 ^ 52 := by decide
theorem lp : double.leastPlace = -1074 := by decide
/-- the size of the number of a rung, in units of the least one -/
def mag (R : Nat) : Nat := if R < 2 ^ 52 then R else (2 ^ 52 + R % 2 ^ 52) * 2 ^ (R / 2 ^ 52 - 1)
theorem read_eq (r : Nat) (h : r < 2 ^ 64) : double.read r =
    if r % 2 ^ 63 < 2 ^ 52 then .number (r / 2 ^ 63 == 1) (r % 2 ^ 63) (-1074)
    else if r % 2 ^ 63 < 2047 * 2 ^ 52 then .number (r / 2 ^ 63 == 1) (2 ^ 52 + r % 2 ^ 63 % 2 ^ 52) (-1074 + (r % 2 ^ 63 / 2 ^ 52 - 1 : Nat))
    else if r % 2 ^ 63 = 2047 * 2 ^ 52 then .infinity (r / 2 ^ 63 == 1) else .nan (r / 2 ^ 63 == 1) (r % 2 ^ 63 - 2047 * 2 ^ 52) := by
  unfold Format.read
  simp only [sw, bn, ir, lp]
  have : r / 2 ^ 63 % 2 = r / 2 ^ 63 := by omega
  rw [this]
theorem mag_lt {R R' : Nat} (h : R < R') : mag R < mag R' := by
  unfold mag
  by_cases h' : R' < 2 ^ 52
  · rw [if_pos (by omega), if_pos h']; exact h
  · rw [if_neg h']
    have hp' : 0 < 2 ^ (R' / 2 ^ 52 - 1) := Nat.pow_pos (by decide)
    by_cases h0 : R < 2 ^ 52
    · rw [if_pos h0]
      have : 2 ^ 52 * 1 ≤ (2 ^ 52 + R' % 2 ^ 52) * 2 ^ (R' / 2 ^ 52 - 1) := Nat.mul_le_mul (by omega) hp'
      omega
    · rw [if_neg h0]
      by_cases hq : R / 2 ^ 52 = R' / 2 ^ 52
      · rw [hq]
        exact Nat.mul_lt_mul_of_pos_right (by omega) hp'
      · have hlt : R / 2 ^ 52 < R' / 2 ^ 52 := by
          have := Nat.div_le_div_right (c := 2 ^ 52) (Nat.le_of_lt h)
          omega
        have e : R' / 2 ^ 52 - 1 = (R / 2 ^ 52 - 1) + 1 + (R' / 2 ^ 52 - R / 2 ^ 52 - 1) := by omega
        have h2 : 2 ^ (R / 2 ^ 52 - 1) * 2 ≤ 2 ^ (R' / 2 ^ 52 - 1) := by
          rw [e, Nat.pow_add, Nat.pow_add]
          have : 0 < 2 ^ (R' / 2 ^ 52 - R / 2 ^ 52 - 1) := Nat.pow_pos (by decide)
          calc 2 ^ (R / 2 ^ 52 - 1) * 2 = 2 ^ (R / 2 ^ 52 - 1) * 2 ^ 1 * 1 := by simp
            _ ≤ _ := Nat.mul_le_mul_left _ this
        have hp : 0 < 2 ^ (R / 2 ^ 52 - 1) := Nat.pow_pos (by decide)
        calc (2 ^ 52 + R % 2 ^ 52) * 2 ^ (R / 2 ^ 52 - 1) < (2 ^ 52 * 2) * 2 ^ (R / 2 ^ 52 - 1) := Nat.mul_lt_mul_of_pos_right (by omega) hp
          _ = 2 ^ 52 * (2 ^ (R / 2 ^ 52 - 1) * 2) := by rw [Nat.mul_assoc, Nat.mul_comm 2]
          _ ≤ 2 ^ 52 * 2 ^ (R' / 2 ^ 52 - 1) := Nat.mul_le_mul_left _ h2
          _ ≤ _ := Nat.mul_le_mul_right _ (by omega)
theorem mag_zero : mag 0 = 0 := by simp [mag]
/-- the datum of a rung that is finite -/
theorem read_num (r : Nat) (h : r < 2 ^ 64) (hf : r % 2 ^ 63 < 2047 * 2 ^ 52) : ∃ m i, double.read r = .number (r / 2 ^ 63 == 1) m i ∧ -1074 ≤ i ∧ mag (r % 2 ^ 63) = m * 2 ^ (i + 1074).toNat := by
  rw [read_eq r h]
  unfold mag
  by_cases h0 : r % 2 ^ 63 < 2 ^ 52
  · rw [if_pos h0, if_pos h0]
    exact ⟨_, _, rfl, Int.le_refl _, by simp⟩
  · rw [if_neg h0, if_pos hf, if_neg h0]
    refine ⟨_, _, rfl, by omega, ?_⟩
    congr 2
    omega
theorem order_num {s t : Bool} {m n : Nat} {i j : Int} (hi : -1074 ≤ i) (hj : -1074 ≤ j) : (Datum.number s m i).order (.number t n j) =
    some (compare (if s then -((m * 2 ^ (i + 1074).toNat : Nat) : Int) else ((m * 2 ^ (i + 1074).toNat : Nat) : Int)) (if t then -((n * 2 ^ (j + 1074).toNat : Nat) : Int) else ((n * 2 ^ (j + 1074).toNat : Nat) : Int))) := by
  simp only [Datum.order, signed, Nat.shiftLeft_eq]
  have e1 : (i + 1074).toNat = (i - min i j).toNat + (min i j + 1074).toNat := by omega
  have e2 : (j + 1074).toNat = (j - min i j).toNat + (min i j + 1074).toNat := by omega
  rw [e1, e2, Nat.pow_add, Nat.pow_add, ← Nat.mul_assoc, ← Nat.mul_assoc]
  generalize m * 2 ^ (i - min i j).toNat = A
  generalize n * 2 ^ (j - min i j).toNat = B
  have hp : 0 < 2 ^ (min i j + 1074).toNat := Nat.pow_pos (by decide)
  generalize 2 ^ (min i j + 1074).toNat = T at *
  have hT : (0 : Int) < T := by omega
  congr 1
  have key : ∀ x y : Int, compare x y = compare (x * T) (y * T) := by
    intro x y
    simp only [compare, compareOfLessAndEq]
    have h1 : x * T < y * T ↔ x < y := Int.mul_lt_mul_right hT
    have h2 : x * T = y * T ↔ x = y := ⟨fun h => Int.eq_of_mul_eq_mul_right (by omega) h, fun h => by rw [h]⟩
    simp only [h1, h2]
  rw [key]
  cases s <;> cases t <;> simp [Int.natCast_mul, Int.neg_mul]
def nanW? (r : Nat) : Bool := decide (2047 * 2 ^ 52 < r % 2 ^ 63)
/-- a word's place among all -/
def rankF (r : Nat) : Int := if r / 2 ^ 63 = 1 then -((r % 2 ^ 63 : Nat) : Int) else ((r % 2 ^ 63 : Nat) : Int)
theorem cmp_mag {s t : Bool} {R R' : Nat} : compare (if s then -((mag R : Nat) : Int) else ((mag R : Nat) : Int)) (if t then -((mag R' : Nat) : Int) else ((mag R' : Nat) : Int)) =
    compare (if s then -(R : Int) else (R : Int)) (if t then -(R' : Int) else (R' : Int)) := by
  have m0 : ∀ R, mag R = 0 ↔ R = 0 := fun R => ⟨fun h => by
    rcases Nat.eq_zero_or_pos R with h' | h'
    · exact h'
    · have := mag_lt h'; rw [mag_zero] at this; omega, fun h => by rw [h, mag_zero]⟩
  have h1 := m0 R
  have h2 := m0 R'
  have hl : mag R < mag R' ↔ R < R' := by
    refine ⟨fun h => ?_, mag_lt⟩
    rcases Nat.lt_trichotomy R R' with h' | h' | h'
    · exact h'
    · subst h'; omega
    · have := mag_lt h'; omega
  have he : mag R = mag R' ↔ R = R' := by
    refine ⟨fun h => ?_, fun h => by rw [h]⟩
    rcases Nat.lt_trichotomy R R' with h' | h' | h'
    · have := mag_lt h'; omega
    · exact h'
    · have := mag_lt h'; omega
  generalize mag R = A at *
  generalize mag R' = B at *
  simp only [compare, compareOfLessAndEq]
  have hl1 : (if s = true then -(A : Int) else (A : Int)) < (if t = true then -(B : Int) else (B : Int)) ↔ (if s = true then -(R : Int) else (R : Int)) < (if t = true then -(R' : Int) else (R' : Int)) := by
    cases s <;> cases t <;> simp <;> omega
  have he1 : (if s = true then -(A : Int) else (A : Int)) = (if t = true then -(B : Int) else (B : Int)) ↔ (if s = true then -(R : Int) else (R : Int)) = (if t = true then -(R' : Int) else (R' : Int)) := by
    cases s <;> cases t <;> simp <;> omega
  simp only [hl1, he1]
theorem order_eq (r q : Nat) (hr : r < 2 ^ 64) (hq : q < 2 ^ 64) : double.order r q = if nanW? r || nanW? q then none else some (compare (rankF r) (rankF q)) := by
  have sgn : ∀ r : Nat, r < 2 ^ 64 → (r / 2 ^ 63 == 1) = decide (r / 2 ^ 63 = 1) := fun r _ => rfl
  unfold Format.order
  by_cases hn : nanW? r = true
  · have : ∃ s t, double.read r = .nan s t := read_nan (by unfold nanW? at hn; simpa using hn)
    obtain ⟨s, t, e⟩ := this
    rw [e, hn]
    rfl
  have hn : nanW? r = false := by simpa using hn
  by_cases hm : nanW? q = true
  · have : ∃ s t, double.read q = .nan s t := read_nan (by unfold nanW? at hm; simpa using hm)
    obtain ⟨s, t, e⟩ := this
    rw [e, hm]
    cases double.read r <;> simp [Datum.order]
  have hm : nanW? q = false := by simpa using hm
  rw [hn, hm]
  simp only [Bool.or_self, Bool.false_eq_true, if_false]
  unfold nanW? at hn hm
  simp only [decide_eq_false_iff_not, Nat.not_lt] at hn hm
  unfold rankF
  by_cases h1 : r % 2 ^ 63 < 2047 * 2 ^ 52
  · obtain ⟨m, i, e1, hi, em⟩ := read_num r hr h1
    by_cases h2 : q % 2 ^ 63 < 2047 * 2 ^ 52
    · obtain ⟨n, j, e2, hj, en⟩ := read_num q hq h2
      rw [e1, e2, order_num hi hj, ← em, ← en, cmp_mag]
      simp only [beq_iff_eq]
    · have e2 : double.read q = .infinity (q / 2 ^ 63 == 1) := by rw [read_eq q hq, if_neg (by omega), if_neg h2, if_pos (by omega)]
      rw [e1, e2]
      have : q % 2 ^ 63 = 2047 * 2 ^ 52 := by omega
      rw [this]
      simp only [Datum.order, compare, compareOfLessAndEq, beq_iff_eq]
      by_cases hs : q / 2 ^ 63 = 1
      · simp only [hs, if_true]
        rw [if_neg, if_neg] <;> split <;> omega
      · simp only [hs, if_false]
        rw [if_pos]; split <;> omega
  · have e1 : double.read r = .infinity (r / 2 ^ 63 == 1) := by rw [read_eq r hr, if_neg (by omega), if_neg h1, if_pos (by omega)]
    have hR : r % 2 ^ 63 = 2047 * 2 ^ 52 := by omega
    by_cases h2 : q % 2 ^ 63 < 2047 * 2 ^ 52
    · obtain ⟨n, j, e2, hj, en⟩ := read_num q hq h2
      rw [e1, e2, hR]
      simp only [Datum.order, compare, compareOfLessAndEq, beq_iff_eq]
      by_cases hs : r / 2 ^ 63 = 1
      · simp only [hs, if_true]
        rw [if_pos]; split <;> omega
      · simp only [hs, if_false]
        rw [if_neg, if_neg] <;> split <;> omega
    · have e2 : double.read q = .infinity (q / 2 ^ 63 == 1) := by rw [read_eq q hq, if_neg (by omega), if_neg h2, if_pos (by omega)]
      have hQ : q % 2 ^ 63 = 2047 * 2 ^ 52 := by omega
      rw [e1, e2, hR, hQ, sgn r hr, sgn q hq]
      simp only [Datum.order, compare, compareOfLessAndEq]
      by_cases hs : r / 2 ^ 63 = 1 <;> by_cases ht : q / 2 ^ 63 = 1 <;> simp only [hs, ht, decide_true, decide_false] <;> rfl
end Go.Den

/- A whole number that a float has is written and read again as itself; a float made a whole number. -/
namespace Go.Den
open Go Ieee
/-- a datum is the whole number ±q -/
def IsWhole (s : Bool) (q : Nat) (k : Nat) (j : Int) : Prop := (j < 0 ∧ k = q * 2 ^ (-j).toNat) ∨ (0 ≤ j ∧ k * 2 ^ j.toNat = q)
theorem cut_exact {w : Toward} {s : Bool} {n d c : Nat} (h : n = c * 2 ^ d) : w.cut s n d = c := by
  unfold Toward.cut
  simp only [Nat.shiftLeft_eq, Nat.one_mul]
  by_cases hc : c = 0
  · subst hc
    have : n = 0 := by omega
    subst this
    cases w <;> simp
  · have hl : d ≤ n.log2 := by
      rw [Nat.le_log2 (by rw [h]; exact Nat.mul_ne_zero hc (by simp))]
      rw [h]
      exact Nat.le_mul_of_pos_left _ (by omega)
    rw [Nat.min_eq_left (by omega)]
    have hp : 0 < 2 ^ d := Nat.pow_pos (by decide)
    have e1 : n / 2 ^ d = c := by rw [h]; exact Nat.mul_div_cancel _ hp
    have e2 : n % 2 ^ d = 0 := by rw [h]; exact Nat.mul_mod_left ..
    simp only [e1, e2]
    cases w <;> simp
theorem toInt_of {s : Bool} {q k : Nat} {j : Int} (h : IsWhole s q k j) {w : Toward} : (Datum.number s k j).toInt w = some (if s then -(q : Int) else (q : Int)) := by
  simp only [Datum.toInt, Datum.integral, signed, Nat.shiftLeft_eq, Nat.pow_zero, Nat.mul_one]
  have : w.cut s (k * 2 ^ j.toNat) (-j).toNat = q := by
    rcases h with ⟨h1, h2⟩ | ⟨h1, h2⟩
    · have : j.toNat = 0 := by omega
      rw [this, Nat.pow_zero, Nat.mul_one]
      exact cut_exact h2
    · have : (-j).toNat = 0 := by omega
      rw [this, h2]
      exact cut_exact (by simp)
  rw [this]
theorem order_c63 {s : Bool} {q k : Nat} {j : Int} (h : IsWhole s q k j) (t : Bool) : (Datum.number s k j).order (.number t 4503599627370496 11) =
    some (compare (if s then -(q : Int) else (q : Int)) (if t then -9223372036854775808 else 9223372036854775808)) := by
  simp only [Datum.order, signed, Nat.shiftLeft_eq]
  congr 1
  have key : ∀ (T : Nat) (x y X Y : Int), 0 < T → X = x * T → Y = y * T → compare X Y = compare x y := by
    intro T x y X Y hT hX hY
    have hT : (0 : Int) < T := by omega
    subst hX; subst hY
    simp only [compare, compareOfLessAndEq]
    have h1 : x * T < y * T ↔ x < y := Int.mul_lt_mul_right hT
    have h2 : x * T = y * T ↔ x = y := ⟨fun h => Int.eq_of_mul_eq_mul_right (by omega) h, fun h => by rw [h]⟩
    simp only [h1, h2]
  rcases h with ⟨h1, h2⟩ | ⟨h1, h2⟩
  · have hm : min j 11 = j := by omega
    have e1 : (j - min j 11).toNat = 0 := by omega
    have e2 : (11 - min j 11).toNat = 11 + (-j).toNat := by omega
    rw [e1, e2, Nat.pow_zero, Nat.mul_one, h2]
    have hp : 0 < 2 ^ (-j).toNat := Nat.pow_pos (by decide)
    have e3 : 4503599627370496 * 2 ^ (11 + (-j).toNat) = 9223372036854775808 * 2 ^ (-j).toNat := by rw [Nat.pow_add, ← Nat.mul_assoc]
    rw [e3]
    refine key (2 ^ (-j).toNat) _ _ _ _ hp ?_ ?_
    · generalize 2 ^ (-j).toNat = T
      cases s <;> simp [Int.natCast_mul, Int.neg_mul]
    · generalize 2 ^ (-j).toNat = T
      cases t <;> simp only [if_true, Bool.false_eq_true, if_false, Int.natCast_mul] <;> omega
  · by_cases hj : j ≤ 11
    · have hm : min j 11 = j := by omega
      have e1 : (j - min j 11).toNat = 0 := by omega
      rw [e1, hm, Nat.pow_zero, Nat.mul_one]
      have hp : 0 < 2 ^ j.toNat := Nat.pow_pos (by decide)
      have e3 : 4503599627370496 * 2 ^ (11 - j).toNat * 2 ^ j.toNat = 9223372036854775808 := by
        rw [Nat.mul_assoc, ← Nat.pow_add, show (11 - j).toNat + j.toNat = 11 from by omega]
      refine (key (2 ^ j.toNat) _ _ _ _ hp ?_ ?_).symm
      · rw [← h2]
        generalize 2 ^ j.toNat = T
        cases s <;> simp [Int.natCast_mul, Int.neg_mul]
      · generalize 2 ^ j.toNat = T at *
        generalize 4503599627370496 * 2 ^ (11 - j).toNat = C at *
        have : (C : Int) * T = 9223372036854775808 := by rw [← Int.natCast_mul, e3]; rfl
        cases t <;> simp only [if_true, Bool.false_eq_true, if_false, Int.neg_mul] <;> omega
    · have hm : min j 11 = 11 := by omega
      have e2 : (11 - min j 11).toNat = 0 := by omega
      rw [e2, hm, Nat.pow_zero, Nat.mul_one]
      have e3 : q = k * 2 ^ (j - 11).toNat * 2048 := by
        rw [← h2, Nat.mul_assoc, show (2048 : Nat) = 2 ^ 11 from rfl, ← Nat.pow_add, show (j - 11).toNat + 11 = j.toNat from by omega]
      refine (key 2048 _ _ _ _ (by decide) ?_ ?_).symm
      · rw [e3]
        generalize k * 2 ^ (j - 11).toNat = A
        cases s <;> simp [Int.natCast_mul, Int.neg_mul]
      · cases t <;> simp
set_option maxRecDepth 10000 in
theorem write_read {s : Bool} {q m p : Nat} (hq : q = m * 2 ^ p) (hm : m < 2 ^ 53) (hp : p ≤ 971) : ∃ k j, double.read (double.write (.number s q 0)) = .number s k j ∧ IsWhole s q k j := by
  have hfb : double.fractionBits = 52 := rfl
  have hw : double.write (.number s q 0) = double.nearest s q 0 := rfl
  rw [hw]
  unfold Format.nearest
  by_cases h0 : q = 0
  · rw [if_pos h0]
    subst h0
    have hlt : double.word s 0 < 2 ^ 64 := by unfold Format.word; rw [sw]; cases s <;> simp
    have h1 : double.word s 0 % 2 ^ 63 = 0 := by unfold Format.word; rw [sw]; cases s <;> simp
    have h2 : (double.word s 0 / 2 ^ 63 == 1) = s := by unfold Format.word; rw [sw]; cases s <;> simp
    refine ⟨0, -1074, ?_, .inl ⟨by decide, (Nat.zero_mul _).symm⟩⟩
    rw [read_eq _ hlt, h1, h2, if_pos (by decide)]
  · rw [if_neg h0]
    have hL1 : 2 ^ q.log2 ≤ q := Nat.log2_self_le h0
    have hL2 : q < 2 ^ (q.log2 + 1) := Nat.lt_log2_self
    have hlog : q.log2 ≤ 52 + p := by
      have h1 : q < 2 ^ (53 + p) := by rw [hq, Nat.pow_add]; exact Nat.mul_lt_mul_of_pos_right hm (Nat.pow_pos (by decide))
      have h2 : 2 ^ q.log2 < 2 ^ (53 + p) := Nat.lt_of_le_of_lt hL1 h1
      have := (Nat.pow_lt_pow_iff_right (by decide : 1 < 2)).1 h2
      omega
    simp only [hfb, lp, bn, ir]
    have hlast : max (0 + (q.log2 : Int) - (52 : Nat)) (-1074) = (q.log2 : Int) - 52 := by omega
    rw [hlast]
    -- what is kept
    obtain ⟨k, hk, hkI, hk1, hk2⟩ : ∃ k, Toward.even.cut s (q <<< (0 - ((q.log2 : Int) - 52)).toNat) (((q.log2 : Int) - 52) - 0).toNat = k ∧ IsWhole s q k ((q.log2 : Int) - 52) ∧ 2 ^ 52 ≤ k ∧ k < 2 ^ 53 := by
      by_cases hl : q.log2 ≤ 52
      · have e1 : (0 - ((q.log2 : Int) - 52)).toNat = 52 - q.log2 := by omega
        have e2 : (((q.log2 : Int) - 52) - 0).toNat = 0 := by omega
        rw [e1, e2, Nat.shiftLeft_eq]
        refine ⟨q * 2 ^ (52 - q.log2), cut_exact (by simp), ?_, ?_, ?_⟩
        · rcases Nat.lt_or_ge q.log2 52 with h | h
          · refine .inl ⟨by omega, ?_⟩
            rw [show (-((q.log2 : Int) - 52)).toNat = 52 - q.log2 from by omega]
          · refine .inr ⟨by omega, ?_⟩
            have h1 : 52 - q.log2 = 0 := by omega
            have h2 : ((q.log2 : Int) - 52).toNat = 0 := by omega
            rw [h1, h2]; simp
        · calc 2 ^ 52 = 2 ^ q.log2 * 2 ^ (52 - q.log2) := by rw [← Nat.pow_add, show q.log2 + (52 - q.log2) = 52 from by omega]
            _ ≤ _ := Nat.mul_le_mul_right _ hL1
        · calc q * 2 ^ (52 - q.log2) < 2 ^ (q.log2 + 1) * 2 ^ (52 - q.log2) := Nat.mul_lt_mul_of_pos_right hL2 (Nat.pow_pos (by decide))
            _ = 2 ^ 53 := by rw [← Nat.pow_add, show q.log2 + 1 + (52 - q.log2) = 53 from by omega]
      · have e1 : (0 - ((q.log2 : Int) - 52)).toNat = 0 := by omega
        have e2 : (((q.log2 : Int) - 52) - 0).toNat = q.log2 - 52 := by omega
        have e3 : ((q.log2 : Int) - 52).toNat = q.log2 - 52 := by omega
        rw [e1, e2, Nat.shiftLeft_eq, Nat.pow_zero, Nat.mul_one]
        have hd : q = m * 2 ^ (p - (q.log2 - 52)) * 2 ^ (q.log2 - 52) := by
          rw [Nat.mul_assoc, ← Nat.pow_add, show p - (q.log2 - 52) + (q.log2 - 52) = p from by omega]; exact hq
        generalize hc : m * 2 ^ (p - (q.log2 - 52)) = c at hd
        have hT : 0 < 2 ^ (q.log2 - 52) := Nat.pow_pos (by decide)
        refine ⟨c, cut_exact hd, .inr ⟨by omega, by rw [e3]; exact hd.symm⟩, ?_, ?_⟩
        · have : 2 ^ 52 * 2 ^ (q.log2 - 52) ≤ c * 2 ^ (q.log2 - 52) := by
            rw [← hd, ← Nat.pow_add, show 52 + (q.log2 - 52) = q.log2 from by omega]; exact hL1
          exact Nat.le_of_mul_le_mul_right this hT
        · have : c * 2 ^ (q.log2 - 52) < 2 ^ 53 * 2 ^ (q.log2 - 52) := by
            rw [← hd, ← Nat.pow_add, show 53 + (q.log2 - 52) = q.log2 + 1 from by omega]; exact hL2
          exact Nat.lt_of_mul_lt_mul_right this
    rw [hk]
    have e4 : (((q.log2 : Int) - 52) - -1074).toNat = q.log2 + 1022 := by omega
    rw [e4, Nat.min_eq_left (by omega)]
    generalize hr : (q.log2 + 1022) * 2 ^ 52 + k = rung
    have hrl : rung < 2047 * 2 ^ 52 := by omega
    have hlt : double.word s rung < 2 ^ 64 := by unfold Format.word; rw [sw]; cases s <;> simp <;> omega
    have h1 : double.word s rung % 2 ^ 63 = rung := by unfold Format.word; rw [sw]; cases s <;> simp <;> omega
    have h2 : (double.word s rung / 2 ^ 63 == 1) = s := by unfold Format.word; rw [sw]; cases s <;> simp <;> omega
    refine ⟨k, (q.log2 : Int) - 52, ?_, hkI⟩
    have hn : ¬ rung < 2 ^ 52 := by omega
    rw [read_eq _ hlt, h1, h2, if_neg hn, if_pos hrl]
    have a1 : 2 ^ 52 + rung % 2 ^ 52 = k := by omega
    have a2 : (-1074 : Int) + ((rung / 2 ^ 52 - 1 : Nat) : Int) = (q.log2 : Int) - 52 := by omega
    rw [a1, a2]
/-- a number made whole -/
def wholeF (s : Bool) (m : Nat) (i : Int) : Nat := Toward.zero.cut s (m * 2 ^ i.toNat) (-i).toNat
theorem toI_num {r : Nat} {s : Bool} {m : Nat} {i : Int} (hr : double.read r = .number s m i) (hm : m < 2 ^ 53) (hi : i ≤ 971) :
    toI r = if -9223372036854775808 ≤ (if s then -(wholeF s m i : Int) else (wholeF s m i : Int)) ∧ (if s then -(wholeF s m i : Int) else (wholeF s m i : Int)) < 9223372036854775808
      then some (if s then -(wholeF s m i : Int) else (wholeF s m i : Int)) else none := by
  have hform : ∃ m' p, wholeF s m i = m' * 2 ^ p ∧ m' < 2 ^ 53 ∧ p ≤ 971 := by
    by_cases h : 0 ≤ i
    · refine ⟨m, i.toNat, ?_, hm, by omega⟩
      unfold wholeF
      have : (-i).toNat = 0 := by omega
      rw [this]
      exact cut_exact (by simp)
    · refine ⟨wholeF s m i, 0, by simp, ?_, by decide⟩
      unfold wholeF
      have : i.toNat = 0 := by omega
      rw [this, Nat.pow_zero, Nat.mul_one]
      exact Nat.lt_of_le_of_lt (cut_le _ _ _) hm
  obtain ⟨m', p, e1, e2, e3⟩ := hform
  obtain ⟨k, j, hrd, hI⟩ := write_read (s := s) e1 e2 e3
  have ht : truncF r = some (double.write (.number s (wholeF s m i) 0)) := by
    unfold truncF
    rw [hr]
    simp only [Datum.integral, Nat.shiftLeft_eq]
    rfl
  unfold toI
  rw [Int.toNat_natCast, ht]
  simp only
  have hin : inR (double.write (.number s (wholeF s m i) 0)) = decide (-9223372036854775808 ≤ (if s then -(wholeF s m i : Int) else (wholeF s m i : Int)) ∧ (if s then -(wholeF s m i : Int) else (wholeF s m i : Int)) < 9223372036854775808) := by
    unfold inR Format.order
    rw [hrd, read_m63, read_c63, order_c63 hI true, order_c63 hI false]
    simp only [if_true, Bool.false_eq_true, if_false]
    generalize (if s = true then -(wholeF s m i : Int) else (wholeF s m i : Int)) = v
    have h1 : (some (compare v (-9223372036854775808)) == some Ordering.gt || some (compare v (-9223372036854775808)) == some Ordering.eq) = decide (-9223372036854775808 ≤ v) := by
      rw [Bool.eq_iff_iff]
      simp only [Bool.or_eq_true, beq_iff_eq, Option.some.injEq, icmp_gt, icmp_eq, decide_eq_true_eq]
      omega
    have h2 : (some (compare v 9223372036854775808) == some Ordering.lt) = decide (v < 9223372036854775808) := by
      rw [Bool.eq_iff_iff]
      simp only [beq_iff_eq, Option.some.injEq, icmp_lt, decide_eq_true_eq]
    rw [h1, h2]
    simp [Bool.decide_and]
  rw [hin, hrd, toInt_of hI]
  by_cases hc : -9223372036854775808 ≤ (if s then -(wholeF s m i : Int) else (wholeF s m i : Int)) ∧ (if s then -(wholeF s m i : Int) else (wholeF s m i : Int)) < 9223372036854775808
  · rw [if_pos hc, if_pos (by simpa using hc)]
  · rw [if_neg hc, if_neg (by simpa using hc)]
theorem toI_nan {r : Nat} {s : Bool} {t : Nat} (hr : double.read r = .nan s t) : toI r = none := by
  unfold toI truncF
  rw [Int.toNat_natCast, hr]
theorem toI_inf {r : Nat} {s : Bool} (hr : double.read r = .infinity s) : toI r = none := by
  have ht : truncF r = some (double.write (.infinity s)) := by unfold truncF; rw [hr]; rfl
  unfold toI
  rw [Int.toNat_natCast, ht]
  have : inR (double.write (.infinity s)) = false := by cases s <;> decide +kernel
  simp only [this, Bool.false_eq_true, if_false]
end Go.Den
