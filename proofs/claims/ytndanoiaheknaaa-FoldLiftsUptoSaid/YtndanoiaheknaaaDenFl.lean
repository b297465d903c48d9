/- Floats: what the package's functions come to, as plain numbers; facts of the model's floats. -/
import Derived.Test.YtndanoiaheknaaaDenOps20
import Derived.WalkKit
import Derived.ProofKit
import Derived.OpenShut
import Derived.Laws.Externs
import Derived.Test.YtndanoiaheknaaaDenT1
set_option linter.unusedSimpArgs false
set_option linter.unusedVariables false
namespace Go.Den
open Go Go.ChangeShapes Go.WideShapes Go.ChangeAt Go.RowKit

/-- nothing of the world has turned but how many draws were made -/
def Same (w w' : World) : Prop := w'.heap = w.heap ∧ w'.os = w.os ∧ w'.tape = w.tape ∧ w'.output = w.output
theorem Same.refl (w : World) : Same w w := ⟨rfl, rfl, rfl, rfl⟩
theorem Same.drew (w : World) : Same w w.drew := ⟨rfl, rfl, rfl, rfl⟩

def ok1 (v : AV) (h : List Den.Obj) : R := some (.ret v h .plain)

/-- a function that leaves the world as it is, by its calls -/
theorem ext_one {P : Program} {f : FuncId} {fn : Func} (hfn : P.funcs[f]? = some fn) (hb : fn.body.isSome = true) {args : List AV} {h : List Den.Obj} {v : AV}
    (hcalls : ∀ (c : Cx) (xs : Array Value), ArgsR c args xs → ∃ x, VR c v x ∧ Calls P f xs c.w fun e w' => e = .returned x ∧ Same c.w w') :
    (∃ fn, P.funcs[f]? = some fn ∧ fn.body.isSome = true) ∧
    ∀ (c : Cx) (xs : Array Value), RelH c → c.h = h → ArgsR c args xs →
      (PS.plain = .plain → Calls P f xs c.w fun e w' => ∃ c', c'.w = w' ∧ Evol c c' ∧ RelH c' ∧ OutR c' (.ret v h .plain) e) ∧
      ∀ u v₁ h' ps', ModeR c .plain u → Out.ret v h .plain = .ret v₁ h' ps' → CallsD P f xs u c.w fun e u' w' => ∃ c', c'.w = w' ∧ Evol c c' ∧ RelH c' ∧ c'.h = h' ∧ ModeR c' ps' u' ∧ ∃ x, e = .returned x := by
  refine ⟨⟨fn, hfn, hb⟩, fun c xs hr hh ha => ⟨fun _ => ?_, fun u v₁ h' ps' hm => hm.elim⟩⟩
  obtain ⟨x, hv, hc⟩ := hcalls c xs ha
  refine Calls.mono hc fun e w' ⟨he, h1, h2, h3, h4⟩ => ?_
  subst he
  obtain ⟨hE, hR⟩ := evol_world hr (w' := w') h2 h3 h4 (by rw [h1]; exact Nat.le_refl _) (fun b _ => by rw [h1])
  exact ⟨_, rfl, hE, hR, hh, hv.ext hE.ext⟩

/-! what the functions come to -/
def nanC : Int := 9221120237041090561
def cnI (r : Int) : Int := if 9218868437227405312 < bits .andNot .u64 r 9223372036854775808 then nanC else r
def arF (op : BinOp) (a b : Nat) : Option Nat := match op with
  | .add => Ieee.double.add a b
  | .sub => Ieee.double.sub a b
  | .mul => Ieee.double.mul a b
  | _ => Ieee.double.div a b
def arI (op : BinOp) (a b : Int) : Int := match arF op a.toNat b.toNat with
  | some r => cnI r
  | none => nanC
def eqF (a b : Int) : Bool := Ieee.double.order a.toNat b.toNat == some .eq
def ltF (a b : Int) : Bool := Ieee.double.order a.toNat b.toNat == some .lt
def fromI (n : Int) : Int := cnI (FloatKind.f64.nearest n)

def nanW (t : Nat) : Nat := (t % 2) * 2 ^ 63 + 0x7ff0000000000000 + 1 + (t / 2) % (2 ^ 52 - 1)
theorem low63 (x : Nat) (h : x < 2 ^ 64) : bits .andNot .u64 (x : Int) 9223372036854775808 = ((x % 2 ^ 63 : Nat) : Int) := by
  have e : (BitVec.ofInt 64 (x : Int) &&& ~~~BitVec.ofInt 64 9223372036854775808).toNat = x % 2 ^ 63 := by
    have h1 : (~~~BitVec.ofInt 64 9223372036854775808) = BitVec.ofNat 64 (2 ^ 63 - 1) := by decide
    rw [h1, BitVec.toNat_and, BitVec.toNat_ofNat, Nat.mod_eq_of_lt (by decide : 2 ^ 63 - 1 < 2 ^ 64)]
    have h2 : (BitVec.ofInt 64 (x : Int)).toNat = x := by
      simp only [BitVec.toNat_ofInt]
      omega
    rw [h2, Nat.and_two_pow_sub_one_eq_mod]
  have e2 : bits .andNot .u64 (x : Int) 9223372036854775808 = IntKind.u64.wrap ((x % 2 ^ 63 : Nat) : Int) := by
    rw [← e]
    rfl
  rw [e2]
  simp only [IntKind.wrap, IntKind.bits, IntKind.signed]
  have : x % 2 ^ 63 < 2 ^ 63 := Nat.mod_lt _ (by decide)
  simp
  omega
theorem cn_nan (t : Nat) : cnI (nanW t) = nanC := by
  unfold cnI
  have h1 : (t / 2) % (2 ^ 52 - 1) < 2 ^ 52 - 1 := Nat.mod_lt _ (by decide)
  have h2 : t % 2 < 2 := Nat.mod_lt _ (by decide)
  have hlt : nanW t < 2 ^ 64 := by unfold nanW; omega
  rw [low63 _ hlt, if_pos]
  unfold nanW
  generalize (t / 2) % (2 ^ 52 - 1) = f at *
  generalize t % 2 = g at *
  have : (g * 2 ^ 63 + 0x7ff0000000000000 + 1 + f) % 2 ^ 63 = 0x7ff0000000000000 + 1 + f := by omega
  rw [this]
  omega

section
variable {P : Program} {ft : TypeId}
theorem run_arS {op : BinOp} (hop : op = .add ∨ op = .sub ∨ op = .mul ∨ op = .quo) {x y r : Nat} (h : arF op x y = some r) (w : World) : Sem.run P (binOp op ft (.float .f64 x) (.float .f64 y)) w = .ok (.float .f64 r) w := by
  rcases hop with rfl | rfl | rfl | rfl <;> simp only [arF] at h <;> simp [binOp, Op.floatArith, FloatKind.format, h]
theorem run_arN {op : BinOp} (hop : op = .add ∨ op = .sub ∨ op = .mul ∨ op = .quo) {x y : Nat} (h : arF op x y = none) (w : World) : ∃ t : Nat, Sem.run P (binOp op ft (.float .f64 x) (.float .f64 y)) w = .ok (.float .f64 (nanW t)) w.drew := by
  refine ⟨w.tape w.drawn (.nanBits .f64 x y), ?_⟩
  rcases hop with rfl | rfl | rfl | rfl <;> simp only [arF] at h <;> simp [binOp, Op.floatArith, FloatKind.format, h, Sem.run, choose, Question.cut, Question.forced, nanW]
theorem run_cmp {op : BinOp} {x y : Nat} {b : Bool} (h : (Op.floatCmp op .f64 x y) = (pure (.bool b) : Sem Value)) (hop : op = .eql ∨ op = .lss ∨ op = .geq) (w : World) : Sem.run P (binOp op ft (.float .f64 x) (.float .f64 y)) w = .ok (.bool b) w := by
  rcases hop with rfl | rfl | rfl <;> simp [binOp, h]
end
end Go.Den

/- A float made whole: within the bounds of 64 bits, or not. -/
namespace Go.Den
open Go

theorem cut_le (s : Bool) (n d : Nat) : Ieee.Toward.cut .zero s n d ≤ n := by
  unfold Ieee.Toward.cut
  simp
  exact Nat.div_le_self _ _
theorem cut_zero (s : Bool) (n d B : Nat) (h : n < B * 2 ^ d) : Ieee.Toward.cut .zero s n d < B ∨ Ieee.Toward.cut .zero s n d = 0 := by
  unfold Ieee.Toward.cut
  simp only [Bool.toNat_false, Nat.add_zero, Nat.shiftLeft_eq, Nat.one_mul]
  by_cases hd : d ≤ n.log2 + 2
  · rw [Nat.min_eq_left hd]
    left
    exact Nat.div_lt_of_lt_mul (by rw [Nat.mul_comm]; exact h)
  · rw [Nat.min_eq_right (by omega)]
    right
    apply Nat.div_eq_of_lt
    by_cases hn : n = 0
    · subst hn; simp
    · have := Nat.lt_log2_self (n := n)
      exact Nat.lt_trans this (Nat.pow_lt_pow_right (by decide) (by omega))
theorem cut_zero_le (s : Bool) (n d B : Nat) (h : n ≤ B * 2 ^ d) : Ieee.Toward.cut .zero s n d ≤ B := by
  unfold Ieee.Toward.cut
  simp only [Bool.toNat_false, Nat.add_zero, Nat.shiftLeft_eq, Nat.one_mul]
  by_cases hd : d ≤ n.log2 + 2
  · rw [Nat.min_eq_left hd]
    exact Nat.div_le_of_le_mul (by rw [Nat.mul_comm]; exact h)
  · rw [Nat.min_eq_right (by omega)]
    have : n / 2 ^ (n.log2 + 2) = 0 := by
      apply Nat.div_eq_of_lt
      by_cases hn : n = 0
      · subst hn; simp
      · have := Nat.lt_log2_self (n := n)
        exact Nat.lt_trans this (Nat.pow_lt_pow_right (by decide) (by omega))
    omega

theorem icmp_gt {a b : Int} : compare a b = .gt ↔ b < a := by
  simp only [compare, compareOfLessAndEq]
  split
  · simp; omega
  · split
    · simp; omega
    · simp; omega
theorem icmp_lt {a b : Int} : compare a b = .lt ↔ a < b := by
  simp only [compare, compareOfLessAndEq]
  split
  · simp; omega
  · split
    · simp; omega
    · simp; omega
theorem icmp_eq {a b : Int} : compare a b = .eq ↔ a = b := by
  simp only [compare, compareOfLessAndEq]
  split
  · simp; omega
  · split
    · simp; omega
    · simp; omega
def c63 : Nat := 4890909195324358656
def m63 : Nat := 14114281232179134464
theorem read_c63 : Ieee.double.read c63 = .number false 4503599627370496 11 := by decide +kernel
theorem read_m63 : Ieee.double.read m63 = .number true 4503599627370496 11 := by decide +kernel
/-- is a float within the bounds? -/
def inR (y : Nat) : Bool := (Ieee.double.order y m63 == some .gt || Ieee.double.order y m63 == some .eq) && Ieee.double.order y c63 == some .lt

theorem inR_int {y : Nat} (h : inR y = true) : ∃ n : Int, (Ieee.double.read y).toInt .zero = some n ∧ -9223372036854775808 ≤ n ∧ n ≤ 9223372036854775807 := by
  unfold inR Ieee.Format.order at h
  rw [read_c63, read_m63] at h
  cases hy : Ieee.double.read y with
  | nan s t => rw [hy] at h; simp [Ieee.Datum.order] at h
  | infinity s => rw [hy] at h; cases s <;> simp [Ieee.Datum.order] at h
  | number s m i =>
    rw [hy] at h
    simp only [Ieee.Datum.order, Ieee.signed, Bool.and_eq_true, Bool.or_eq_true, beq_iff_eq, Option.some.injEq, Nat.shiftLeft_eq, icmp_gt, icmp_lt, icmp_eq, if_true, Bool.false_eq_true, if_false] at h
    simp only [Ieee.Datum.toInt, Ieee.Datum.integral, Ieee.signed, Nat.shiftLeft_eq, Nat.pow_zero, Nat.mul_one]
    refine ⟨_, rfl, ?_⟩
    obtain ⟨h1, h2⟩ := h
    have h1 : -((4503599627370496 * 2 ^ (11 - min i 11).toNat : Nat) : Int) ≤ if s = true then -((m * 2 ^ (i - min i 11).toNat : Nat) : Int) else ((m * 2 ^ (i - min i 11).toNat : Nat) : Int) := by
      rcases h1 with h | h
      · exact Int.le_of_lt h
      · exact Int.le_of_eq h.symm
    -- what is left behind the point is let go
    have key : ∀ (q : Nat), Ieee.Toward.cut .zero s (m * 2 ^ i.toNat) (-i).toNat = q → (s = false → q < 9223372036854775808) ∧ (s = true → q ≤ 9223372036854775808) := by
      intro q hq
      by_cases hi : 0 ≤ i
      · have hd : (-i).toNat = 0 := by omega
        have hle : q ≤ m * 2 ^ i.toNat := by rw [← hq]; exact cut_le _ _ _
        have e1 : m * 2 ^ i.toNat = (m * 2 ^ (i - min i 11).toNat) * 2 ^ (min i 11).toNat := by
          rw [Nat.mul_assoc, ← Nat.pow_add]; congr 2; omega
        have e2 : 9223372036854775808 = (4503599627370496 * 2 ^ (11 - min i 11).toNat) * 2 ^ (min i 11).toNat := by
          rw [Nat.mul_assoc, ← Nat.pow_add, show (11 - min i 11).toNat + (min i 11).toNat = 11 from by omega]
        have hp : 0 < 2 ^ (min i 11).toNat := Nat.pos_of_ne_zero (by simp)
        rw [e1] at hle
        generalize m * 2 ^ (i - min i 11).toNat = M at *
        generalize 4503599627370496 * 2 ^ (11 - min i 11).toNat = C at *
        generalize 2 ^ (min i 11).toNat = T at *
        refine ⟨fun hs => ?_, fun hs => ?_⟩
        · subst hs
          simp only [Bool.false_eq_true, if_false] at h2
          have : M < C := by omega
          have := Nat.mul_lt_mul_of_pos_right this hp
          omega
        · subst hs
          simp only [if_true] at h1
          have : M ≤ C := by omega
          have := Nat.mul_le_mul_right T this
          omega
      · have hm : min i 11 = i := by omega
        have ht : i.toNat = 0 := by omega
        rw [hm, Int.sub_self] at h1 h2
        have e : 4503599627370496 * 2 ^ (11 - i).toNat = 9223372036854775808 * 2 ^ (-i).toNat := by
          rw [show (11 - i).toNat = 11 + (-i).toNat from by omega, Nat.pow_add, ← Nat.mul_assoc]
        rw [e] at h1 h2
        simp only [Int.toNat_zero, Nat.pow_zero, Nat.mul_one] at h1 h2
        rw [ht, Nat.pow_zero, Nat.mul_one] at hq
        refine ⟨fun hs => ?_, fun hs => ?_⟩
        · subst hs
          simp only [Bool.false_eq_true, if_false] at h2
          rcases cut_zero false m (-i).toNat 9223372036854775808 (by omega) with h | h
          · omega
          · omega
        · subst hs
          simp only [if_true] at h1
          have := cut_zero_le true m (-i).toNat 9223372036854775808 (by omega)
          omega
    obtain ⟨k1, k2⟩ := key _ rfl
    cases s with
    | false =>
      have := k1 rfl
      simp only [Int.toNat_zero, Nat.pow_zero, Nat.mul_one, Bool.false_eq_true, if_false]
      omega
    | true =>
      have := k2 rfl
      simp only [Int.toNat_zero, Nat.pow_zero, Nat.mul_one, if_true]
      omega

theorem or_high (t : Nat) : (t ||| 2 ^ 51) % 2 ^ 52 ≠ 0 := by
  intro h
  have h1 : ((t ||| 2 ^ 51) % 2 ^ 52).testBit 51 = true := by
    rw [Nat.testBit_mod_two_pow, Nat.testBit_or, Nat.testBit_two_pow_self]
    simp
  rw [h] at h1
  simp at h1
theorem read_nan {w : Nat} (h : w % 2 ^ 63 > 2047 * 2 ^ 52) : ∃ s t, Ieee.double.read w = .nan s t := by
  unfold Ieee.Format.read
  have e1 : Ieee.double.signWeight = 2 ^ 63 := by decide
  have e2 : Ieee.double.binade = 2 ^ 52 := by decide
  have e3 : Ieee.double.infRung = 2047 * 2 ^ 52 := by decide
  simp only [e1, e2, e3]
  rw [if_neg (by omega), if_neg (by omega), if_neg (by omega)]
  exact ⟨_, _, rfl⟩
theorem write_nan (s : Bool) (t : Nat) : ∃ s' t', Ieee.double.read (Ieee.double.write (.nan s (Ieee.double.quiet t))) = .nan s' t' := by
  apply read_nan
  have e1 : Ieee.double.signWeight = 2 ^ 63 := by decide
  have e2 : Ieee.double.binade = 2 ^ 52 := by decide
  have e3 : Ieee.double.infRung = 2047 * 2 ^ 52 := by decide
  have e4 : Ieee.double.quiet t = t ||| 2 ^ 51 := rfl
  have h0 := or_high t
  have h1 : (t ||| 2 ^ 51) % 2 ^ 52 < 2 ^ 52 := Nat.mod_lt _ (by decide)
  simp only [Ieee.Format.write, Ieee.Format.word, e1, e2, e3, e4]
  generalize (t ||| 2 ^ 51) % 2 ^ 52 = u at *
  cases s <;> simp <;> omega
theorem nan_out {y : Nat} (h : ∃ s t, Ieee.double.read y = .nan s t) : inR y = false := by
  obtain ⟨s, t, h⟩ := h
  unfold inR Ieee.Format.order
  rw [h]
  cases Ieee.double.read m63 <;> cases Ieee.double.read c63 <;> rfl

/-- what a float made whole is; none: it was no number -/
def truncF (x : Nat) : Option Nat := match Ieee.double.read x with
  | .nan _ _ => none
  | d => some (Ieee.double.write (d.integral .zero))
def toI (a : Int) : Option Int := match truncF a.toNat with
  | none => none
  | some y => if inR y then (Ieee.double.read y).toInt .zero else none
theorem trunc_num {name : String} {x : Nat} {d : Ieee.Datum} (h : Ieee.double.read x = d) (hd : ∀ s t, d ≠ .nan s t) : Extern.MathFloor.toIntegral name .zero #[Value.float .f64 x] = pure (Value.float .f64 (Ieee.double.write (d.integral .zero))) := by
  have e : FloatKind.f64.decode x = d := h
  show ((match FloatKind.f64.decode x with
    | .nan s t =>
      if FloatKind.f64.format.quiet t = t then pure (Value.float .f64 x) else do
      let kept ← choose (.extern "math.Floor,Ceil,Trunc,RoundToEven.signallingNaN kept" 2)
      pure (Value.float .f64 (if kept == 1 then x else FloatKind.f64.encode (.nan s (FloatKind.f64.format.quiet t))))
    | d => pure (Value.float .f64 (FloatKind.f64.encode (d.integral .zero)))) : Sem Value) = _
  rw [e]
  cases d with
  | nan s t => exact absurd rfl (hd s t)
  | number => rfl
  | infinity => rfl
theorem trunc_run {name : String} {x : Nat} {s : Bool} {t : Nat} (h : Ieee.double.read x = .nan s t) : Extern.MathFloor.toIntegral name .zero #[Value.float .f64 x] =
      (if Ieee.double.quiet t = t then pure (Value.float .f64 x) else do
      let kept ← choose (.extern "math.Floor,Ceil,Trunc,RoundToEven.signallingNaN kept" 2)
      pure (Value.float .f64 (if kept == 1 then x else Ieee.double.write (.nan s (Ieee.double.quiet t))))) := by
  have e : FloatKind.f64.decode x = .nan s t := h
  show ((match FloatKind.f64.decode x with
    | .nan s t =>
      if FloatKind.f64.format.quiet t = t then pure (Value.float .f64 x) else do
      let kept ← choose (.extern "math.Floor,Ceil,Trunc,RoundToEven.signallingNaN kept" 2)
      pure (Value.float .f64 (if kept == 1 then x else FloatKind.f64.encode (.nan s (FloatKind.f64.format.quiet t))))
    | d => pure (Value.float .f64 (FloatKind.f64.encode (d.integral .zero)))) : Sem Value) = _
  rw [e]
  rfl
end Go.Den

/- Floats of the first seat: walks. -/
namespace Go.Proofs
open Go.Den Go.ChangeShapes Go.WideShapes Go.ChangeAt Go.RowKit
set_option maxRecDepth 100000
theorem h68 (a : Int) (w : World) : Sem.run Try.prog (callFunc 68 #[Value.int .u64 a]) w = .ok (.value (.float .f64 a.toNat)) w := by
  rw [run_callFunc_extern (P := Try.prog) (e := Extern.MathFloatBits.float64frombits) Try.func68 (by kernel_rfl) rfl (by kernel_rfl) (by kernel_rfl)]
  rfl
theorem h67 (b : Nat) (w : World) : Sem.run Try.prog (callFunc 67 #[Value.float .f64 b]) w = .ok (.value (.int .u64 b)) w := by
  rw [run_callFunc_extern (P := Try.prog) (e := Extern.MathFloatBits.float64bits) Try.func67 (by kernel_rfl) rfl (by kernel_rfl) (by kernel_rfl)]
  rfl
theorem w54 (r : Nat) (w : World) : Calls Try.prog 54 #[.float .f64 r] w fun e w' => e = .returned (.int .u64 (cnI r)) ∧ Same w w' := by
  have he := h67
  go_enter Try.func54, Try.ntmps54
  go_wp2
  all_goals go_ret
  all_goals refine ⟨?_, Same.refl _⟩
  all_goals simp_all [cnI, nanC]
  all_goals omega
theorem w_add (a b : Int) (w : World) : Calls Try.prog 36 #[.int .u64 a, .int .u64 b] w fun e w' => e = .returned (.int .u64 (arI .add a b)) ∧ Same w w' := by
  have hd := h68
  cases hr : arF .add a.toNat b.toNat with
  | some r =>
    have hs := fun w => run_arS (P := Try.prog) (ft := 91) (.inl rfl) hr w
    have hc := w54 r
    go_enter Try.func36, Try.ntmps36
    go_wp2_with (first | (go_at_call 54; refine (hc _).mono ?_; rintro e w' ⟨rfl, h⟩) | go_in)
    all_goals go_ret
    exact ⟨by simp [arI, hr], h⟩
  | none =>
    obtain ⟨t, hs⟩ := run_arN (P := Try.prog) (ft := 91) (.inl rfl) hr w
    have hc := w54 (nanW t)
    go_enter Try.func36, Try.ntmps36
    go_wp2_with (first | (go_at_call 54; refine (hc _).mono ?_; rintro e w' ⟨rfl, h⟩) | go_in)
    all_goals go_ret
    exact ⟨by simp [arI, hr, cn_nan], h⟩
theorem w_sub (a b : Int) (w : World) : Calls Try.prog 37 #[.int .u64 a, .int .u64 b] w fun e w' => e = .returned (.int .u64 (arI .sub a b)) ∧ Same w w' := by
  have hd := h68
  cases hr : arF .sub a.toNat b.toNat with
  | some r =>
    have hs := fun w => run_arS (P := Try.prog) (ft := 91) (.inr (.inl rfl)) hr w
    have hc := w54 r
    go_enter Try.func37, Try.ntmps37
    go_wp2_with (first | (go_at_call 54; refine (hc _).mono ?_; rintro e w' ⟨rfl, h⟩) | go_in)
    all_goals go_ret
    exact ⟨by simp [arI, hr], h⟩
  | none =>
    obtain ⟨t, hs⟩ := run_arN (P := Try.prog) (ft := 91) (.inr (.inl rfl)) hr w
    have hc := w54 (nanW t)
    go_enter Try.func37, Try.ntmps37
    go_wp2_with (first | (go_at_call 54; refine (hc _).mono ?_; rintro e w' ⟨rfl, h⟩) | go_in)
    all_goals go_ret
    exact ⟨by simp [arI, hr, cn_nan], h⟩
theorem w_mul (a b : Int) (w : World) : Calls Try.prog 38 #[.int .u64 a, .int .u64 b] w fun e w' => e = .returned (.int .u64 (arI .mul a b)) ∧ Same w w' := by
  have hd := h68
  cases hr : arF .mul a.toNat b.toNat with
  | some r =>
    have hs := fun w => run_arS (P := Try.prog) (ft := 91) (.inr (.inr (.inl rfl))) hr w
    have hc := w54 r
    go_enter Try.func38, Try.ntmps38
    go_wp2_with (first | (go_at_call 54; refine (hc _).mono ?_; rintro e w' ⟨rfl, h⟩) | go_in)
    all_goals go_ret
    exact ⟨by simp [arI, hr], h⟩
  | none =>
    obtain ⟨t, hs⟩ := run_arN (P := Try.prog) (ft := 91) (.inr (.inr (.inl rfl))) hr w
    have hc := w54 (nanW t)
    go_enter Try.func38, Try.ntmps38
    go_wp2_with (first | (go_at_call 54; refine (hc _).mono ?_; rintro e w' ⟨rfl, h⟩) | go_in)
    all_goals go_ret
    exact ⟨by simp [arI, hr, cn_nan], h⟩
theorem w_quo (a b : Int) (w : World) : Calls Try.prog 39 #[.int .u64 a, .int .u64 b] w fun e w' => e = .returned (.int .u64 (arI .quo a b)) ∧ Same w w' := by
  have hd := h68
  cases hr : arF .quo a.toNat b.toNat with
  | some r =>
    have hs := fun w => run_arS (P := Try.prog) (ft := 91) (.inr (.inr (.inr rfl))) hr w
    have hc := w54 r
    go_enter Try.func39, Try.ntmps39
    go_wp2_with (first | (go_at_call 54; refine (hc _).mono ?_; rintro e w' ⟨rfl, h⟩) | go_in)
    all_goals go_ret
    exact ⟨by simp [arI, hr], h⟩
  | none =>
    obtain ⟨t, hs⟩ := run_arN (P := Try.prog) (ft := 91) (.inr (.inr (.inr rfl))) hr w
    have hc := w54 (nanW t)
    go_enter Try.func39, Try.ntmps39
    go_wp2_with (first | (go_at_call 54; refine (hc _).mono ?_; rintro e w' ⟨rfl, h⟩) | go_in)
    all_goals go_ret
    exact ⟨by simp [arI, hr, cn_nan], h⟩
theorem w_eq (a b : Int) (w : World) : Calls Try.prog 40 #[.int .u64 a, .int .u64 b] w fun e w' => e = .returned (.bool (eqF a b)) ∧ Same w w' := by
  have hd := h68
  have hs := fun w => run_cmp (P := Try.prog) (ft := 91) (op := .eql) (x := a.toNat) (y := b.toNat) (b := eqF a b) rfl (.inl rfl) w
  go_enter Try.func40, Try.ntmps40
  go_wp2
  all_goals go_ret
  exact ⟨by simp, Same.refl _⟩
theorem w_lt (a b : Int) (w : World) : Calls Try.prog 41 #[.int .u64 a, .int .u64 b] w fun e w' => e = .returned (.bool (ltF a b)) ∧ Same w w' := by
  have hd := h68
  have hs := fun w => run_cmp (P := Try.prog) (ft := 91) (op := .lss) (x := a.toNat) (y := b.toNat) (b := ltF a b) rfl (.inr (.inl rfl)) w
  go_enter Try.func41, Try.ntmps41
  go_wp2
  all_goals go_ret
  exact ⟨by simp, Same.refl _⟩
theorem w_from (n : Int) (w : World) : Calls Try.prog 65 #[.int .i64 n] w fun e w' => e = .returned (.int .u64 (fromI n)) ∧ Same w w' := by
  have hc := w54 (FloatKind.f64.nearest n)
  have hs : ∀ w, Sem.run Try.prog (convert 2 91 (.int .i64 n)) w = .ok (.float .f64 (FloatKind.f64.nearest n)) w := fun w => by
    simp [convert, Try.underlying2, Try.underlying91, Conv.intToFloat]
  go_enter Try.func65, Try.ntmps65
  go_wp2_with (first | (go_at_call 54; refine (hc _).mono ?_; rintro e w' ⟨rfl, h⟩) | go_in)
  all_goals go_ret
  exact ⟨by simp [fromI], h⟩
theorem h73 {x y : Nat} (h : truncF x = some y) (w : World) : Sem.run Try.prog (callFunc 73 #[Value.float .f64 x]) w = .ok (.value (.float .f64 y)) w := by
  rw [run_callFunc_extern (P := Try.prog) (e := Extern.MathFloor.toIntegral "math.archTrunc" .zero) Try.func73 (by kernel_rfl) rfl (by kernel_rfl) (by kernel_rfl)]
  unfold truncF at h
  cases hd : Ieee.double.read x with
  | nan s t => rw [hd] at h; cases h
  | number s m i => rw [hd] at h; cases h; rw [trunc_num hd (fun _ _ => by simp)]; rfl
  | infinity s => rw [hd] at h; cases h; rw [trunc_num hd (fun _ _ => by simp)]; rfl
theorem h73n {x : Nat} (h : truncF x = none) (w : World) : ∃ y w', Sem.run Try.prog (callFunc 73 #[Value.float .f64 x]) w = .ok (.value (.float .f64 y)) w' ∧ inR y = false ∧ Same w w' := by
  rw [run_callFunc_extern (P := Try.prog) (e := Extern.MathFloor.toIntegral "math.archTrunc" .zero) Try.func73 (by kernel_rfl) rfl (by kernel_rfl) (by kernel_rfl)]
  unfold truncF at h
  cases hd : Ieee.double.read x with
  | number s m i => rw [hd] at h; cases h
  | infinity s => rw [hd] at h; cases h
  | nan s t =>
    rw [trunc_run hd]
    by_cases hq : Ieee.double.quiet t = t
    · rw [if_pos hq]
      exact ⟨x, w, rfl, nan_out ⟨s, t, hd⟩, Same.refl w⟩
    · rw [if_neg hq]
      refine ⟨if ((Question.extern "math.Floor,Ceil,Trunc,RoundToEven.signallingNaN kept" 2).cut (w.tape w.drawn (Question.extern "math.Floor,Ceil,Trunc,RoundToEven.signallingNaN kept" 2)) == 1) then x else Ieee.double.write (.nan s (Ieee.double.quiet t)), w.drew, ?_, ?_, Same.drew w⟩
      · simp [Sem.run, choose, Question.forced]
      · split
        · exact nan_out ⟨s, t, hd⟩
        · exact nan_out (write_nan s t)
set_option maxHeartbeats 2000000 in
theorem w_to (a : Int) (w : World) : Calls Try.prog 64 #[.int .u64 a] w fun e w' => e = .returned (.tuple #[.int .i64 ((toI a).getD 0), .int .i64 (if (toI a).isSome then 0 else 82)]) ∧ Same w w' := by
  have hd := h68
  have core : ∀ (y : Nat) (w' : World), Sem.run Try.prog (callFunc 73 #[Value.float .f64 a.toNat]) w = .ok (.value (.float .f64 y)) w' → Same w w' → toI a = (if inR y then (Ieee.double.read y).toInt .zero else none) →
      Calls Try.prog 64 #[.int .u64 a] w fun e w' => e = .returned (.tuple #[.int .i64 ((toI a).getD 0), .int .i64 (if (toI a).isSome then 0 else 82)]) ∧ Same w w' := by
    intro y w' ht hs hto
    have hg := fun w => run_cmp (P := Try.prog) (ft := 91) (op := .geq) (x := y) (y := m63) (b := Ieee.double.order y m63 == some .gt || Ieee.double.order y m63 == some .eq) rfl (.inr (.inr rfl)) w
    have hl := fun w => run_cmp (P := Try.prog) (ft := 91) (op := .lss) (x := y) (y := c63) (b := Ieee.double.order y c63 == some .lt) rfl (.inr (.inl rfl)) w
    unfold m63 at hg
    unfold c63 at hl
    cases hi : inR y with
    | true =>
      obtain ⟨n, hn, hb1, hb2⟩ := inR_int hi
      rw [hi, if_pos rfl, hn] at hto
      rw [hto]
      unfold inR m63 c63 at hi
      have hcv : ∀ w, Sem.run Try.prog (convert 91 2 (.float .f64 y)) w = .ok (.int .i64 n) w := fun w => by
        have h1 : IntKind.i64.min ≤ n ∧ n ≤ IntKind.i64.max := ⟨hb1, hb2⟩
        have h2 : Conv.floatToInt .f64 y .i64 = pure (.int .i64 n) := by
          unfold Conv.floatToInt
          have : (FloatKind.f64.decode y).toInt .zero = some n := hn
          rw [this]
          simp only [if_pos h1]
        simp [convert, Try.underlying2, Try.underlying91, h2]
      generalize (Ieee.double.order y 14114281232179134464 == some .gt || Ieee.double.order y 14114281232179134464 == some .eq) = b1 at *
      generalize (Ieee.double.order y 4890909195324358656 == some .lt) = b2 at *
      simp only [Bool.and_eq_true] at hi
      obtain ⟨rfl, rfl⟩ := hi
      go_enter Try.func64, Try.ntmps64
      go_wp2
      all_goals go_ret2
      exact ⟨by simp, hs⟩
    | false =>
      rw [hi] at hto
      simp only [Bool.false_eq_true, if_false] at hto
      rw [hto]
      unfold inR m63 c63 at hi
      generalize (Ieee.double.order y 14114281232179134464 == some .gt || Ieee.double.order y 14114281232179134464 == some .eq) = b1 at *
      generalize (Ieee.double.order y 4890909195324358656 == some .lt) = b2 at *
      cases b1 <;> cases b2 <;> simp at hi
      all_goals go_enter Try.func64, Try.ntmps64
      all_goals go_wp2
      all_goals go_ret2
      all_goals exact ⟨by simp, hs⟩
  cases ht : truncF a.toNat with
  | some y => exact core y w (h73 ht w) (Same.refl w) (by simp [toI, ht])
  | none =>
    obtain ⟨y, w', h1, h2, h3⟩ := h73n ht w
    exact core y w' h1 h3 (by simp [toI, ht, h2])
end Go.Proofs

/- Floats of the first seat: what the second reading is told of them. -/
namespace Go.Proofs
open Go.Den
theorem args2 {c : Cx} {k k' : IntKind} {a b : Int} {xs : Array Value} (h : ArgsR c [.int k a, .int k' b] xs) : xs = #[.int k a, .int k' b] := by
  obtain ⟨hs, hr⟩ := h
  match xs, hs with
  | ⟨[x, y]⟩, _ =>
    have h0 := hr 0 _ x rfl rfl
    have h1 := hr 1 _ y rfl rfl
    cases h0; cases h1
    rfl
theorem args1 {c : Cx} {k : IntKind} {a : Int} {xs : Array Value} (h : ArgsR c [.int k a] xs) : xs = #[.int k a] := by
  obtain ⟨hs, hr⟩ := h
  match xs, hs with
  | ⟨[x]⟩, _ =>
    have h0 := hr 0 _ x rfl rfl
    cases h0
    rfl
def arE (op : BinOp) : CallO := fun _ args h ps => match args, ps with
  | [.int .u64 a, .int .u64 b], .plain => ok1 (.int .u64 (arI op a b)) h
  | _, _ => none
def cmE (g : Int → Int → Bool) : CallO := fun _ args h ps => match args, ps with
  | [.int .u64 a, .int .u64 b], .plain => ok1 (.bool (g a b)) h
  | _, _ => none
def toE : CallO := fun _ args h ps => match args, ps with
  | [.int .u64 a], .plain => ok1 (.tup [.int .i64 ((toI a).getD 0), .int .i64 (if (toI a).isSome then 0 else 82)]) h
  | _, _ => none
def frE : CallO := fun _ args h ps => match args, ps with
  | [.int .i64 n], .plain => ok1 (.int .u64 (fromI n)) h
  | _, _ => none
def extT : FuncId → Option CallO := fun f => match f with
  | 36 => some (arE .add)
  | 37 => some (arE .sub)
  | 38 => some (arE .mul)
  | 39 => some (arE .quo)
  | 40 => some (cmE eqF)
  | 41 => some (cmE ltF)
  | 64 => some toE
  | 65 => some frE
  | _ => none
section
variable {P : Program} {f : FuncId} {fn : Func}
theorem arE_sound {op : BinOp} (hfn : P.funcs[f]? = some fn) (hb : fn.body.isSome = true) (hw : ∀ a b w, Calls P f #[.int .u64 a, .int .u64 b] w fun e w' => e = .returned (.int .u64 (arI op a b)) ∧ Same w w') :
    ∀ {args h ps out}, arE op f args h ps = some out → (∃ fn, P.funcs[f]? = some fn ∧ fn.body.isSome = true) ∧
      ∀ (c : Cx) (xs : Array Value), RelH c → c.h = h → ArgsR c args xs →
      (ps = .plain → Calls P f xs c.w fun e w' => ∃ c', c'.w = w' ∧ Evol c c' ∧ RelH c' ∧ OutR c' out e) ∧
      ∀ u v h' ps', ModeR c ps u → out = .ret v h' ps' → CallsD P f xs u c.w fun e u' w' => ∃ c', c'.w = w' ∧ Evol c c' ∧ RelH c' ∧ c'.h = h' ∧ ModeR c' ps' u' ∧ ∃ x, e = .returned x := by
  intro args h ps out e
  unfold arE at e
  split at e
  · cases e
    exact ext_one hfn hb fun c xs ha => by rw [args2 ha]; exact ⟨_, .int _ _, hw _ _ _⟩
  · cases e
theorem cmE_sound {g : Int → Int → Bool} (hfn : P.funcs[f]? = some fn) (hb : fn.body.isSome = true) (hw : ∀ a b w, Calls P f #[.int .u64 a, .int .u64 b] w fun e w' => e = .returned (.bool (g a b)) ∧ Same w w') :
    ∀ {args h ps out}, cmE g f args h ps = some out → (∃ fn, P.funcs[f]? = some fn ∧ fn.body.isSome = true) ∧
      ∀ (c : Cx) (xs : Array Value), RelH c → c.h = h → ArgsR c args xs →
      (ps = .plain → Calls P f xs c.w fun e w' => ∃ c', c'.w = w' ∧ Evol c c' ∧ RelH c' ∧ OutR c' out e) ∧
      ∀ u v h' ps', ModeR c ps u → out = .ret v h' ps' → CallsD P f xs u c.w fun e u' w' => ∃ c', c'.w = w' ∧ Evol c c' ∧ RelH c' ∧ c'.h = h' ∧ ModeR c' ps' u' ∧ ∃ x, e = .returned x := by
  intro args h ps out e
  unfold cmE at e
  split at e
  · cases e
    exact ext_one hfn hb fun c xs ha => by rw [args2 ha]; exact ⟨_, .bool _, hw _ _ _⟩
  · cases e
theorem toE_sound (hfn : P.funcs[f]? = some fn) (hb : fn.body.isSome = true) (hw : ∀ a w, Calls P f #[.int .u64 a] w fun e w' => e = .returned (.tuple #[.int .i64 ((toI a).getD 0), .int .i64 (if (toI a).isSome then 0 else 82)]) ∧ Same w w') :
    ∀ {args h ps out}, toE f args h ps = some out → (∃ fn, P.funcs[f]? = some fn ∧ fn.body.isSome = true) ∧
      ∀ (c : Cx) (xs : Array Value), RelH c → c.h = h → ArgsR c args xs →
      (ps = .plain → Calls P f xs c.w fun e w' => ∃ c', c'.w = w' ∧ Evol c c' ∧ RelH c' ∧ OutR c' out e) ∧
      ∀ u v h' ps', ModeR c ps u → out = .ret v h' ps' → CallsD P f xs u c.w fun e u' w' => ∃ c', c'.w = w' ∧ Evol c c' ∧ RelH c' ∧ c'.h = h' ∧ ModeR c' ps' u' ∧ ∃ x, e = .returned x := by
  intro args h ps out e
  unfold toE at e
  split at e
  · cases e
    refine ext_one hfn hb fun c xs ha => ?_
    rw [args1 ha]
    refine ⟨_, ?_, hw _ _⟩
    refine .tup _ _ rfl fun j u v e1 e2 => ?_
    match j, e1, e2 with
    | 0, e1, e2 => cases e1; cases e2; exact .int _ _
    | 1, e1, e2 => cases e1; cases e2; exact .int _ _
  · cases e
theorem frE_sound (hfn : P.funcs[f]? = some fn) (hb : fn.body.isSome = true) (hw : ∀ n w, Calls P f #[.int .i64 n] w fun e w' => e = .returned (.int .u64 (fromI n)) ∧ Same w w') :
    ∀ {args h ps out}, frE f args h ps = some out → (∃ fn, P.funcs[f]? = some fn ∧ fn.body.isSome = true) ∧
      ∀ (c : Cx) (xs : Array Value), RelH c → c.h = h → ArgsR c args xs →
      (ps = .plain → Calls P f xs c.w fun e w' => ∃ c', c'.w = w' ∧ Evol c c' ∧ RelH c' ∧ OutR c' out e) ∧
      ∀ u v h' ps', ModeR c ps u → out = .ret v h' ps' → CallsD P f xs u c.w fun e u' w' => ∃ c', c'.w = w' ∧ Evol c c' ∧ RelH c' ∧ c'.h = h' ∧ ModeR c' ps' u' ∧ ∃ x, e = .returned x := by
  intro args h ps out e
  unfold frE at e
  split at e
  · cases e
    exact ext_one hfn hb fun c xs ha => by rw [args1 ha]; exact ⟨_, .int _ _, hw _ _⟩
  · cases e
end
theorem extT_sound : CallSound Try.prog (extCall extT) := by
  intro f args h ps out e
  unfold extCall at e
  split at e
  · rename_i g hg
    unfold extT at hg
    split at hg <;> cases hg
    · exact arE_sound Try.func36 rfl w_add e
    · exact arE_sound Try.func37 rfl w_sub e
    · exact arE_sound Try.func38 rfl w_mul e
    · exact arE_sound Try.func39 rfl w_quo e
    · exact cmE_sound Try.func40 rfl w_eq e
    · exact cmE_sound Try.func41 rfl w_lt e
    · exact toE_sound Try.func64 rfl w_to e
    · exact frE_sound Try.func65 rfl w_from e
  · cases e
end Go.Proofs
