/- FoldOperators: what is left of the operators, case by case. -/
import Derived.Test.YtndanoiaheknaaaGreatDenPiece
import Derived.Test.YtndanoiaheknaaaGreatDenInl
import Derived.Test.YtndanoiaheknaaaGreatDenFlZ
import Derived.Lib.Mul64
set_option linter.unusedSimpArgs false
set_option linter.unusedVariables false
namespace Go.Proofs
open Go.Den
set_option maxRecDepth 100000

def polZ : Pol where
  full := fun _ => false
  grow := fun _ _ => false
  keep := fun _ => false
  prom := fun _ _ => []
  dead := fun _ _ => 0
noncomputable abbrev dZ : CallO := denA Tryz.prog polZ extZ
def vl (t b : Int) : AV := .agg [.int .i64 t, .int .u64 b]
noncomputable def u0 : CallK := fun f args h ps K => match f, args, h, ps with
  | 56, [.int .u64 a, .int .u64 b], [], .plain => K (.ret (.int .u64 (arI .add a b)) [] .plain)
  | 57, [.int .u64 a, .int .u64 b], [], .plain => K (.ret (.int .u64 (arI .sub a b)) [] .plain)
  | 58, [.int .u64 a, .int .u64 b], [], .plain => K (.ret (.int .u64 (arI .mul a b)) [] .plain)
  | 59, [.int .u64 a, .int .u64 b], [], .plain => K (.ret (.int .u64 (arI .quo a b)) [] .plain)
  | 65, [.int .u64 a, .int .u64 b], [], .plain => K (.ret (.int .u64 (arI .add a b)) [] .plain)
  | 66, [.int .u64 a, .int .u64 b], [], .plain => K (.ret (.int .u64 (arI .sub a b)) [] .plain)
  | 67, [.int .u64 a, .int .u64 b], [], .plain => K (.ret (.int .u64 (arI .mul a b)) [] .plain)
  | 68, [.int .u64 a, .int .u64 b], [], .plain => K (.ret (.int .u64 (arI .quo a b)) [] .plain)
  | 60, [.int .u64 a, .int .u64 b], [], .plain => K (.ret (.bool (eqF a b)) [] .plain)
  | 61, [.int .u64 a, .int .u64 b], [], .plain => K (.ret (.bool (ltF a b)) [] .plain)
  | 15, [.int .u64 a], [], .plain => K (.ret (.tup [.int .i64 ((toI a).getD 0), .int .i64 (if (toI a).isSome then 0 else 82)]) [] .plain)
  | 17, [.int .i64 n], [], .plain => K (.ret (.int .u64 (fromI n)) [] .plain)
  | 29, [.int .i64 n], [], .plain => K (.ret (.int .u64 (fromI n)) [] .plain)
  | _, _, _, _ => none
theorem of_ext {f : FuncId} {g : CallO} (hf : extZ f = some g) {args : List AV} {o : Out} (h : g f args [] .plain = some o) : dZ f args [] .plain = some o :=
  denA_of (k := 1) (by simp only [den, hf]; exact h)
theorem u0_le : CallLeK u0 dZ := by
  intro f args h ps kk o e
  unfold u0 at e
  split at e
  all_goals first | exact ⟨_, e, of_ext rfl rfl⟩ | cases e
/-- functions that are gone into -/
def fsZ (f : FuncId) : Bool := !(f == 56 || f == 57 || f == 58 || f == 59 || f == 65 || f == 66 || f == 67 || f == 68 || f == 60 || f == 61 || f == 15 || f == 17 || f == 29)
theorem fsZ_ext (f : FuncId) (h : fsZ f = true) : extZ f = none := by
  unfold fsZ at h
  simp only [Bool.not_eq_true', Bool.or_eq_false_iff, beq_eq_false_iff_ne] at h
  unfold extZ
  split <;> first | rfl | (exfalso; simp_all)
noncomputable abbrev uZ : CallK := inlK Tryz.prog polZ fsZ u0 6
def noCall : CallK := fun _ _ _ _ _ => none
theorem noCall_le {c : CallO} : CallLeK noCall c := fun _ _ _ _ _ _ h => by cases h
def U64 (a : Int) : Prop := 0 ≤ a ∧ a < 18446744073709551616
def I64 (a : Int) : Prop := -9223372036854775808 ≤ a ∧ a ≤ 9223372036854775807
def clsF (a : Int) : Int := match Ieee.double.read a.toNat with
  | .nan _ _ => 1
  | .infinity _ => 2
  | .number _ m _ => cond (m == 0) 3 (cond (decide (m < 4503599627370496)) 4 5)
def sgF (a : Int) : Bool := match Ieee.double.read a.toNat with
  | .nan _ _ => false
  | .infinity s => s
  | .number s _ _ => s
def mtF (a : Int) : Int := match Ieee.double.read a.toNat with
  | .number _ m _ => m
  | _ => 0
def exF (a : Int) : Int := match Ieee.double.read a.toNat with
  | .number _ _ i => i
  | _ => 0
noncomputable def u79 : CallK := fun f args h ps K => match f, args, h, ps with
  | 79, [.int .u64 a, .int .u64 b], [], .plain => chk (U64 a ∧ U64 b) (K (.ret (.tup [.int .u64 (a * b / 18446744073709551616), .int .u64 (a * b % 18446744073709551616)]) [] .plain))
  | _, _, _, _ => none
noncomputable def u48 : CallK := fun f args h ps K => match f, args, h, ps with
  | 48, [.int .u64 a], [], .plain => chk (U64 a) (K (.ret (.int .i64 (clsF a)) [] .plain))
  | _, _, _, _ => none
noncomputable def uP : CallK := fun f args h ps K => match f, args, h, ps with
  | 48, [.int .u64 a], [], .plain => chk (U64 a) (K (.ret (.int .i64 (clsF a)) [] .plain))
  | 49, [.int .u64 a], [], .plain => chk (U64 a) (K (.ret (.tup [.bool (sgF a), .int .u64 (mtF a), .int .i64 (exF a)]) [] .plain))
  | _, _, _, _ => none
noncomputable abbrev uM : CallK := inlK Tryz.prog polZ (fun f => f == 80) u79 1
noncomputable abbrev uB : CallK := inlK Tryz.prog polZ (fun f => f == 81 || f == 82) u48 1
theorem b_add (loops : LoopK) (a b : Int) : bodyL Tryz.prog polZ noCall loops 51 [.int .i64 a, .int .i64 b] [] .plain =
  (cond (cond (!(((decide (IntKind.i64.wrap (a + b) > a)) == (decide (b > (0 : Int)))))) (b != (0 : Int)) (false)) (some (.ret (.tup [(.int .i64 0), (.int .i64 80)]) [] .plain)) (some (.ret (.tup [(.int .i64 (IntKind.i64.wrap (a + b))), (.int .i64 0)]) [] .plain))) := by kernel_rfl
theorem b_sub (loops : LoopK) (a b : Int) : bodyL Tryz.prog polZ noCall loops 44 [.int .i64 a, .int .i64 b] [] .plain =
  (cond (cond (!(((decide (IntKind.i64.wrap (a - b) < a)) == (decide (b > (0 : Int)))))) (b != (0 : Int)) (false)) (some (.ret (.tup [(.int .i64 0), (.int .i64 80)]) [] .plain)) (some (.ret (.tup [(.int .i64 (IntKind.i64.wrap (a - b))), (.int .i64 0)]) [] .plain))) := by kernel_rfl
theorem b_quo (loops : LoopK) (a b : Int) : bodyL Tryz.prog polZ (inlK Tryz.prog polZ (fun f => f == 19 || f == 44) noCall 2) loops 53 [.int .i64 a, .int .i64 b] [] .plain =
  (cond (b == (0 : Int)) (some (.ret (.tup [(.int .i64 0), (.int .i64 81)]) [] .plain)) (cond (b == (-1 : Int)) (cond (cond (!(((decide (IntKind.i64.wrap ((0 : Int) - a) < (0 : Int))) == (decide (a > (0 : Int)))))) (a != (0 : Int)) (false)) (some (.ret (.tup [(.int .i64 0), (.int .i64 80)]) [] .plain)) (some (.ret (.tup [(.int .i64 (IntKind.i64.wrap ((0 : Int) - a))), (.int .i64 0)]) [] .plain))) (cond (b == (0 : Int)) none (some (.ret (.tup [(.int .i64 (IntKind.i64.wrap (a.tdiv b))), (.int .i64 0)]) [] .plain))))) := by kernel_rfl
theorem b_rem (loops : LoopK) (a b : Int) : bodyL Tryz.prog polZ noCall loops 54 [.int .i64 a, .int .i64 b] [] .plain =
  (cond (b == (0 : Int)) (some (.ret (.tup [(.int .i64 0), (.int .i64 81)]) [] .plain)) (cond (b == (-1 : Int)) (some (.ret (.tup [(.int .i64 0), (.int .i64 0)]) [] .plain)) (cond (b == (0 : Int)) none (some (.ret (.tup [(.int .i64 (a.tmod b)), (.int .i64 0)]) [] .plain))))) := by kernel_rfl
theorem b_rAdd (loops : LoopK) (a b : Int) : bodyL Tryz.prog polZ noCall loops 69 [.int .i64 a, .int .i64 b] [] .plain =
  (cond (cond (cond (decide (b > (0 : Int))) (decide (a > IntKind.i64.wrap ((9223372036854775807 : Int) - b))) (false)) (true) (cond (decide (b < (0 : Int))) (decide (a < IntKind.i64.wrap ((-9223372036854775808 : Int) - b))) (false))) (some (.ret (.tup [(.int .i64 0), (.int .i64 80)]) [] .plain)) (some (.ret (.tup [(.int .i64 (IntKind.i64.wrap (a + b))), (.int .i64 0)]) [] .plain))) := by kernel_rfl
theorem b_rSub (loops : LoopK) (a b : Int) : bodyL Tryz.prog polZ noCall loops 46 [.int .i64 a, .int .i64 b] [] .plain =
  (cond (cond (cond (decide (b < (0 : Int))) (decide (a > IntKind.i64.wrap ((9223372036854775807 : Int) + b))) (false)) (true) (cond (decide (b > (0 : Int))) (decide (a < IntKind.i64.wrap ((-9223372036854775808 : Int) + b))) (false))) (some (.ret (.tup [(.int .i64 0), (.int .i64 80)]) [] .plain)) (some (.ret (.tup [(.int .i64 (IntKind.i64.wrap (a - b))), (.int .i64 0)]) [] .plain))) := by kernel_rfl
theorem b_rMul (loops : LoopK) (a b : Int) : bodyL Tryz.prog polZ noCall loops 70 [.int .i64 a, .int .i64 b] [] .plain =
  (cond (cond (a == (0 : Int)) (true) (b == (0 : Int))) (some (.ret (.tup [(.int .i64 0), (.int .i64 0)]) [] .plain)) (cond (cond (cond (a == (-1 : Int)) (b == (-9223372036854775808 : Int)) (false)) (true) (cond (b == (-1 : Int)) (a == (-9223372036854775808 : Int)) (false))) (some (.ret (.tup [(.int .i64 0), (.int .i64 80)]) [] .plain)) (cond (b == (0 : Int)) none (cond (IntKind.i64.wrap ((IntKind.i64.wrap (a * b)).tdiv b) != a) (some (.ret (.tup [(.int .i64 0), (.int .i64 80)]) [] .plain)) (some (.ret (.tup [(.int .i64 (IntKind.i64.wrap (a * b))), (.int .i64 0)]) [] .plain)))))) := by kernel_rfl
theorem b_rQuo (loops : LoopK) (a b : Int) : bodyL Tryz.prog polZ noCall loops 71 [.int .i64 a, .int .i64 b] [] .plain =
  (cond (b == (0 : Int)) (some (.ret (.tup [(.int .i64 0), (.int .i64 81)]) [] .plain)) (cond (cond (a == (-9223372036854775808 : Int)) (b == (-1 : Int)) (false)) (some (.ret (.tup [(.int .i64 0), (.int .i64 80)]) [] .plain)) (cond (b == (0 : Int)) none (some (.ret (.tup [(.int .i64 (IntKind.i64.wrap (a.tdiv b))), (.int .i64 0)]) [] .plain))))) := by kernel_rfl
theorem b_rRem (loops : LoopK) (a b : Int) : bodyL Tryz.prog polZ noCall loops 72 [.int .i64 a, .int .i64 b] [] .plain =
  (cond (b == (0 : Int)) (some (.ret (.tup [(.int .i64 0), (.int .i64 81)]) [] .plain)) (cond (b == (-1 : Int)) (some (.ret (.tup [(.int .i64 0), (.int .i64 0)]) [] .plain)) (cond (b == (0 : Int)) none (some (.ret (.tup [(.int .i64 (a.tmod b)), (.int .i64 0)]) [] .plain))))) := by kernel_rfl
theorem b_mul (loops : LoopK) (a b : Int) : bodyL Tryz.prog polZ uM loops 52 [.int .i64 a, .int .i64 b] [] .plain =
  (cond (decide (a < (0 : Int))) (cond (decide (b < (0 : Int))) (chk ((U64 (IntKind.u64.wrap ((0 : Int) - IntKind.u64.wrap a))) ∧ (U64 (IntKind.u64.wrap ((0 : Int) - IntKind.u64.wrap b)))) (cond (IntKind.u64.wrap ((0 : Int) - IntKind.u64.wrap a) * IntKind.u64.wrap ((0 : Int) - IntKind.u64.wrap b) / (18446744073709551616 : Int) != (0 : Int)) (some (.ret (.tup [(.int .i64 0), (.int .i64 80)]) [] .plain)) (cond (cond (!(((decide (a < (0 : Int))) == (decide (b < (0 : Int)))))) (decide (IntKind.u64.wrap ((0 : Int) - IntKind.u64.wrap a) * IntKind.u64.wrap ((0 : Int) - IntKind.u64.wrap b) % (18446744073709551616 : Int) ≤ (9223372036854775808 : Int))) (false)) (some (.ret (.tup [(.int .i64 (IntKind.i64.wrap ((0 : Int) - IntKind.i64.wrap (IntKind.u64.wrap ((0 : Int) - IntKind.u64.wrap a) * IntKind.u64.wrap ((0 : Int) - IntKind.u64.wrap b) % (18446744073709551616 : Int))))), (.int .i64 0)]) [] .plain)) (cond (cond (!(!(((decide (a < (0 : Int))) == (decide (b < (0 : Int))))))) (decide (IntKind.u64.wrap ((0 : Int) - IntKind.u64.wrap a) * IntKind.u64.wrap ((0 : Int) - IntKind.u64.wrap b) % (18446744073709551616 : Int) < (9223372036854775808 : Int))) (false)) (some (.ret (.tup [(.int .i64 (IntKind.i64.wrap (IntKind.u64.wrap ((0 : Int) - IntKind.u64.wrap a) * IntKind.u64.wrap ((0 : Int) - IntKind.u64.wrap b) % (18446744073709551616 : Int)))), (.int .i64 0)]) [] .plain)) (some (.ret (.tup [(.int .i64 0), (.int .i64 80)]) [] .plain)))))) (chk ((U64 (IntKind.u64.wrap ((0 : Int) - IntKind.u64.wrap a))) ∧ (U64 (IntKind.u64.wrap b))) (cond (IntKind.u64.wrap ((0 : Int) - IntKind.u64.wrap a) * IntKind.u64.wrap b / (18446744073709551616 : Int) != (0 : Int)) (some (.ret (.tup [(.int .i64 0), (.int .i64 80)]) [] .plain)) (cond (cond (!(((decide (a < (0 : Int))) == (decide (b < (0 : Int)))))) (decide (IntKind.u64.wrap ((0 : Int) - IntKind.u64.wrap a) * IntKind.u64.wrap b % (18446744073709551616 : Int) ≤ (9223372036854775808 : Int))) (false)) (some (.ret (.tup [(.int .i64 (IntKind.i64.wrap ((0 : Int) - IntKind.i64.wrap (IntKind.u64.wrap ((0 : Int) - IntKind.u64.wrap a) * IntKind.u64.wrap b % (18446744073709551616 : Int))))), (.int .i64 0)]) [] .plain)) (cond (cond (!(!(((decide (a < (0 : Int))) == (decide (b < (0 : Int))))))) (decide (IntKind.u64.wrap ((0 : Int) - IntKind.u64.wrap a) * IntKind.u64.wrap b % (18446744073709551616 : Int) < (9223372036854775808 : Int))) (false)) (some (.ret (.tup [(.int .i64 (IntKind.i64.wrap (IntKind.u64.wrap ((0 : Int) - IntKind.u64.wrap a) * IntKind.u64.wrap b % (18446744073709551616 : Int)))), (.int .i64 0)]) [] .plain)) (some (.ret (.tup [(.int .i64 0), (.int .i64 80)]) [] .plain))))))) (cond (decide (b < (0 : Int))) (chk ((U64 (IntKind.u64.wrap a)) ∧ (U64 (IntKind.u64.wrap ((0 : Int) - IntKind.u64.wrap b)))) (cond (IntKind.u64.wrap a * IntKind.u64.wrap ((0 : Int) - IntKind.u64.wrap b) / (18446744073709551616 : Int) != (0 : Int)) (some (.ret (.tup [(.int .i64 0), (.int .i64 80)]) [] .plain)) (cond (cond (!(((decide (a < (0 : Int))) == (decide (b < (0 : Int)))))) (decide (IntKind.u64.wrap a * IntKind.u64.wrap ((0 : Int) - IntKind.u64.wrap b) % (18446744073709551616 : Int) ≤ (9223372036854775808 : Int))) (false)) (some (.ret (.tup [(.int .i64 (IntKind.i64.wrap ((0 : Int) - IntKind.i64.wrap (IntKind.u64.wrap a * IntKind.u64.wrap ((0 : Int) - IntKind.u64.wrap b) % (18446744073709551616 : Int))))), (.int .i64 0)]) [] .plain)) (cond (cond (!(!(((decide (a < (0 : Int))) == (decide (b < (0 : Int))))))) (decide (IntKind.u64.wrap a * IntKind.u64.wrap ((0 : Int) - IntKind.u64.wrap b) % (18446744073709551616 : Int) < (9223372036854775808 : Int))) (false)) (some (.ret (.tup [(.int .i64 (IntKind.i64.wrap (IntKind.u64.wrap a * IntKind.u64.wrap ((0 : Int) - IntKind.u64.wrap b) % (18446744073709551616 : Int)))), (.int .i64 0)]) [] .plain)) (some (.ret (.tup [(.int .i64 0), (.int .i64 80)]) [] .plain)))))) (chk ((U64 (IntKind.u64.wrap a)) ∧ (U64 (IntKind.u64.wrap b))) (cond (IntKind.u64.wrap a * IntKind.u64.wrap b / (18446744073709551616 : Int) != (0 : Int)) (some (.ret (.tup [(.int .i64 0), (.int .i64 80)]) [] .plain)) (cond (cond (!(((decide (a < (0 : Int))) == (decide (b < (0 : Int)))))) (decide (IntKind.u64.wrap a * IntKind.u64.wrap b % (18446744073709551616 : Int) ≤ (9223372036854775808 : Int))) (false)) (some (.ret (.tup [(.int .i64 (IntKind.i64.wrap ((0 : Int) - IntKind.i64.wrap (IntKind.u64.wrap a * IntKind.u64.wrap b % (18446744073709551616 : Int))))), (.int .i64 0)]) [] .plain)) (cond (cond (!(!(((decide (a < (0 : Int))) == (decide (b < (0 : Int))))))) (decide (IntKind.u64.wrap a * IntKind.u64.wrap b % (18446744073709551616 : Int) < (9223372036854775808 : Int))) (false)) (some (.ret (.tup [(.int .i64 (IntKind.i64.wrap (IntKind.u64.wrap a * IntKind.u64.wrap b % (18446744073709551616 : Int)))), (.int .i64 0)]) [] .plain)) (some (.ret (.tup [(.int .i64 0), (.int .i64 80)]) [] .plain)))))))) := by kernel_rfl
theorem b_neg (loops : LoopK) (a : Int) : bodyL Tryz.prog polZ (inlK Tryz.prog polZ (fun f => f == 44) noCall 1) loops 19 [.int .i64 a] [] .plain =
  (cond (cond (!(((decide (IntKind.i64.wrap ((0 : Int) - a) < (0 : Int))) == (decide (a > (0 : Int)))))) (a != (0 : Int)) (false)) (some (.ret (.tup [(.int .i64 0), (.int .i64 80)]) [] .plain)) (some (.ret (.tup [(.int .i64 (IntKind.i64.wrap ((0 : Int) - a))), (.int .i64 0)]) [] .plain))) := by kernel_rfl
theorem b_rNeg (loops : LoopK) (a : Int) : bodyL Tryz.prog polZ (inlK Tryz.prog polZ (fun f => f == 46) noCall 1) loops 22 [.int .i64 a] [] .plain =
  (cond (cond (cond (decide (a < (0 : Int))) (decide ((0 : Int) > IntKind.i64.wrap ((9223372036854775807 : Int) + a))) (false)) (true) (cond (decide (a > (0 : Int))) (decide ((0 : Int) < IntKind.i64.wrap ((-9223372036854775808 : Int) + a))) (false))) (some (.ret (.tup [(.int .i64 0), (.int .i64 80)]) [] .plain)) (some (.ret (.tup [(.int .i64 (IntKind.i64.wrap ((0 : Int) - a))), (.int .i64 0)]) [] .plain))) := by kernel_rfl
theorem b_m64 (loops : LoopK) (a b : Int) : bodyL Tryz.prog polZ noCall loops 79 [.int .u64 a, .int .u64 b] [] .plain =
  (some (.ret (.tup [(.int .u64 (IntKind.u64.wrap (IntKind.u64.wrap (IntKind.u64.wrap (a.fdiv ((2 : Int) ^ min (Int.toNat (32 : Int)) IntKind.u64.bits) * b.fdiv ((2 : Int) ^ min (Int.toNat (32 : Int)) IntKind.u64.bits)) + (IntKind.u64.wrap (IntKind.u64.wrap (a.fdiv ((2 : Int) ^ min (Int.toNat (32 : Int)) IntKind.u64.bits) * IntKind.u64.wrap (↑(BitVec.ofInt IntKind.u64.bits b &&& BitVec.ofInt IntKind.u64.bits (4294967295 : Int)).toNat : Int)) + (IntKind.u64.wrap (IntKind.u64.wrap (↑(BitVec.ofInt IntKind.u64.bits a &&& BitVec.ofInt IntKind.u64.bits (4294967295 : Int)).toNat : Int) * IntKind.u64.wrap (↑(BitVec.ofInt IntKind.u64.bits b &&& BitVec.ofInt IntKind.u64.bits (4294967295 : Int)).toNat : Int))).fdiv ((2 : Int) ^ min (Int.toNat (32 : Int)) IntKind.u64.bits))).fdiv ((2 : Int) ^ min (Int.toNat (32 : Int)) IntKind.u64.bits)) + (IntKind.u64.wrap (IntKind.u64.wrap (↑(BitVec.ofInt IntKind.u64.bits (IntKind.u64.wrap (IntKind.u64.wrap (a.fdiv ((2 : Int) ^ min (Int.toNat (32 : Int)) IntKind.u64.bits) * IntKind.u64.wrap (↑(BitVec.ofInt IntKind.u64.bits b &&& BitVec.ofInt IntKind.u64.bits (4294967295 : Int)).toNat : Int)) + (IntKind.u64.wrap (IntKind.u64.wrap (↑(BitVec.ofInt IntKind.u64.bits a &&& BitVec.ofInt IntKind.u64.bits (4294967295 : Int)).toNat : Int) * IntKind.u64.wrap (↑(BitVec.ofInt IntKind.u64.bits b &&& BitVec.ofInt IntKind.u64.bits (4294967295 : Int)).toNat : Int))).fdiv ((2 : Int) ^ min (Int.toNat (32 : Int)) IntKind.u64.bits))) &&& BitVec.ofInt IntKind.u64.bits (4294967295 : Int)).toNat : Int) + IntKind.u64.wrap (IntKind.u64.wrap (↑(BitVec.ofInt IntKind.u64.bits a &&& BitVec.ofInt IntKind.u64.bits (4294967295 : Int)).toNat : Int) * b.fdiv ((2 : Int) ^ min (Int.toNat (32 : Int)) IntKind.u64.bits)))).fdiv ((2 : Int) ^ min (Int.toNat (32 : Int)) IntKind.u64.bits)))), (.int .u64 (IntKind.u64.wrap (a * b)))]) [] .plain)) := by kernel_rfl
theorem b_can (loops : LoopK) (a : Int) : bodyL Tryz.prog polZ noCall loops 40 [.int .u64 a] [] .plain =
  (cond (decide (IntKind.u64.wrap (↑(BitVec.ofInt IntKind.u64.bits a &&& ~~~BitVec.ofInt IntKind.u64.bits (9223372036854775808 : Int)).toNat : Int) > (9218868437227405312 : Int))) (some (.ret (.int .u64 9221120237041090561) [] .plain)) (some (.ret (.int .u64 a) [] .plain))) := by kernel_rfl
theorem b_rCan (loops : LoopK) (a : Int) : bodyL Tryz.prog polZ noCall loops 45 [.int .u64 a] [] .plain =
  (cond (((IntKind.u64.wrap (↑(BitVec.ofInt IntKind.u64.bits (a.fdiv ((2 : Int) ^ min (Int.toNat (52 : Int)) IntKind.u64.bits)) &&& BitVec.ofInt IntKind.u64.bits (2047 : Int)).toNat : Int) == (2047 : Int)) == (true))) (cond (cond (true) (IntKind.u64.wrap (a * (2 : Int) ^ min (Int.toNat (12 : Int)) IntKind.u64.bits) != (0 : Int)) (false)) (some (.ret (.int .u64 9221120237041090561) [] .plain)) (some (.ret (.int .u64 a) [] .plain))) (some (.ret (.int .u64 a) [] .plain))) := by kernel_rfl
theorem b_cls (loops : LoopK) (a : Int) : bodyL Tryz.prog polZ noCall loops 48 [.int .u64 a] [] .plain =
  (cond (cond (IntKind.u64.wrap (↑(BitVec.ofInt IntKind.u64.bits (a.fdiv ((2 : Int) ^ min (Int.toNat (52 : Int)) IntKind.u64.bits)) &&& BitVec.ofInt IntKind.u64.bits (2047 : Int)).toNat : Int) == (2047 : Int)) (IntKind.u64.wrap (a * (2 : Int) ^ min (Int.toNat (12 : Int)) IntKind.u64.bits) != (0 : Int)) (false)) (some (.ret (.int .i64 1) [] .plain)) (cond (IntKind.u64.wrap (↑(BitVec.ofInt IntKind.u64.bits (a.fdiv ((2 : Int) ^ min (Int.toNat (52 : Int)) IntKind.u64.bits)) &&& BitVec.ofInt IntKind.u64.bits (2047 : Int)).toNat : Int) == (2047 : Int)) (some (.ret (.int .i64 2) [] .plain)) (cond (cond (IntKind.u64.wrap (↑(BitVec.ofInt IntKind.u64.bits (a.fdiv ((2 : Int) ^ min (Int.toNat (52 : Int)) IntKind.u64.bits)) &&& BitVec.ofInt IntKind.u64.bits (2047 : Int)).toNat : Int) == (0 : Int)) (IntKind.u64.wrap (a * (2 : Int) ^ min (Int.toNat (12 : Int)) IntKind.u64.bits) == (0 : Int)) (false)) (some (.ret (.int .i64 3) [] .plain)) (cond (IntKind.u64.wrap (↑(BitVec.ofInt IntKind.u64.bits (a.fdiv ((2 : Int) ^ min (Int.toNat (52 : Int)) IntKind.u64.bits)) &&& BitVec.ofInt IntKind.u64.bits (2047 : Int)).toNat : Int) == (0 : Int)) (some (.ret (.int .i64 4) [] .plain)) (some (.ret (.int .i64 5) [] .plain)))))) := by kernel_rfl
theorem b_rEq (loops : LoopK) (a b : Int) : bodyL Tryz.prog polZ uB loops 63 [.int .u64 a, .int .u64 b] [] .plain =
  (chk ((U64 a)) (cond (((clsF a == (1 : Int)) == (false))) (chk ((U64 b)) (cond (cond (false) (true) (clsF b == (1 : Int))) (some (.ret (.bool false) [] .plain)) (cond (((a == b) == (false))) (cond (((IntKind.u64.wrap (a * (2 : Int) ^ min (Int.toNat (1 : Int)) IntKind.u64.bits) == (0 : Int)) == (true))) (some (.ret (.bool (cond (false) (true) (cond (true) (IntKind.u64.wrap (b * (2 : Int) ^ min (Int.toNat (1 : Int)) IntKind.u64.bits) == (0 : Int)) (false)))) [] .plain)) (some (.ret (.bool false) [] .plain))) (some (.ret (.bool true) [] .plain))))) (some (.ret (.bool false) [] .plain)))) := by kernel_rfl
theorem b_rLt (loops : LoopK) (a b : Int) : bodyL Tryz.prog polZ uB loops 64 [.int .u64 a, .int .u64 b] [] .plain =
  (chk ((U64 a)) (cond (((clsF a == (1 : Int)) == (false))) (chk ((U64 b)) (cond (((cond (false) (true) (clsF b == (1 : Int))) == (false))) (cond (((IntKind.u64.wrap (a * (2 : Int) ^ min (Int.toNat (1 : Int)) IntKind.u64.bits) == (0 : Int)) == (true))) (cond (cond (false) (true) (cond (true) (IntKind.u64.wrap (b * (2 : Int) ^ min (Int.toNat (1 : Int)) IntKind.u64.bits) == (0 : Int)) (false))) (some (.ret (.bool false) [] .plain)) (cond (a.fdiv ((2 : Int) ^ min (Int.toNat (63 : Int)) IntKind.u64.bits) == (1 : Int)) (cond (b.fdiv ((2 : Int) ^ min (Int.toNat (63 : Int)) IntKind.u64.bits) == (1 : Int)) (some (.ret (.bool (decide (IntKind.i64.wrap ((-1 : Int) - IntKind.i64.wrap ((IntKind.u64.wrap (a * (2 : Int) ^ min (Int.toNat (1 : Int)) IntKind.u64.bits)).fdiv ((2 : Int) ^ min (Int.toNat (1 : Int)) IntKind.u64.bits))) < IntKind.i64.wrap ((-1 : Int) - IntKind.i64.wrap ((IntKind.u64.wrap (b * (2 : Int) ^ min (Int.toNat (1 : Int)) IntKind.u64.bits)).fdiv ((2 : Int) ^ min (Int.toNat (1 : Int)) IntKind.u64.bits)))))) [] .plain)) (some (.ret (.bool (decide (IntKind.i64.wrap ((-1 : Int) - IntKind.i64.wrap ((IntKind.u64.wrap (a * (2 : Int) ^ min (Int.toNat (1 : Int)) IntKind.u64.bits)).fdiv ((2 : Int) ^ min (Int.toNat (1 : Int)) IntKind.u64.bits))) < IntKind.i64.wrap b))) [] .plain))) (cond (b.fdiv ((2 : Int) ^ min (Int.toNat (63 : Int)) IntKind.u64.bits) == (1 : Int)) (some (.ret (.bool (decide (IntKind.i64.wrap a < IntKind.i64.wrap ((-1 : Int) - IntKind.i64.wrap ((IntKind.u64.wrap (b * (2 : Int) ^ min (Int.toNat (1 : Int)) IntKind.u64.bits)).fdiv ((2 : Int) ^ min (Int.toNat (1 : Int)) IntKind.u64.bits)))))) [] .plain)) (some (.ret (.bool (decide (IntKind.i64.wrap a < IntKind.i64.wrap b))) [] .plain))))) (cond (a.fdiv ((2 : Int) ^ min (Int.toNat (63 : Int)) IntKind.u64.bits) == (1 : Int)) (cond (b.fdiv ((2 : Int) ^ min (Int.toNat (63 : Int)) IntKind.u64.bits) == (1 : Int)) (some (.ret (.bool (decide (IntKind.i64.wrap ((-1 : Int) - IntKind.i64.wrap ((IntKind.u64.wrap (a * (2 : Int) ^ min (Int.toNat (1 : Int)) IntKind.u64.bits)).fdiv ((2 : Int) ^ min (Int.toNat (1 : Int)) IntKind.u64.bits))) < IntKind.i64.wrap ((-1 : Int) - IntKind.i64.wrap ((IntKind.u64.wrap (b * (2 : Int) ^ min (Int.toNat (1 : Int)) IntKind.u64.bits)).fdiv ((2 : Int) ^ min (Int.toNat (1 : Int)) IntKind.u64.bits)))))) [] .plain)) (some (.ret (.bool (decide (IntKind.i64.wrap ((-1 : Int) - IntKind.i64.wrap ((IntKind.u64.wrap (a * (2 : Int) ^ min (Int.toNat (1 : Int)) IntKind.u64.bits)).fdiv ((2 : Int) ^ min (Int.toNat (1 : Int)) IntKind.u64.bits))) < IntKind.i64.wrap b))) [] .plain))) (cond (b.fdiv ((2 : Int) ^ min (Int.toNat (63 : Int)) IntKind.u64.bits) == (1 : Int)) (some (.ret (.bool (decide (IntKind.i64.wrap a < IntKind.i64.wrap ((-1 : Int) - IntKind.i64.wrap ((IntKind.u64.wrap (b * (2 : Int) ^ min (Int.toNat (1 : Int)) IntKind.u64.bits)).fdiv ((2 : Int) ^ min (Int.toNat (1 : Int)) IntKind.u64.bits)))))) [] .plain)) (some (.ret (.bool (decide (IntKind.i64.wrap a < IntKind.i64.wrap b))) [] .plain))))) (some (.ret (.bool false) [] .plain)))) (some (.ret (.bool false) [] .plain)))) := by kernel_rfl
theorem b_par (loops : LoopK) (a : Int) : bodyL Tryz.prog polZ u48 loops 49 [.int .u64 a] [] .plain =
  (chk ((U64 a)) (cond (clsF a == (1 : Int)) (some (.ret (.tup [(.bool false), (.int .u64 0), (.int .i64 0)]) [] .plain)) (cond (clsF a == (2 : Int)) (some (.ret (.tup [(.bool (a.fdiv ((2 : Int) ^ min (Int.toNat (63 : Int)) IntKind.u64.bits) == (1 : Int))), (.int .u64 0), (.int .i64 0)]) [] .plain)) (cond (clsF a == (5 : Int)) (some (.ret (.tup [(.bool (a.fdiv ((2 : Int) ^ min (Int.toNat (63 : Int)) IntKind.u64.bits) == (1 : Int))), (.int .u64 (IntKind.u64.wrap (↑(BitVec.ofInt IntKind.u64.bits (IntKind.u64.wrap (↑(BitVec.ofInt IntKind.u64.bits a &&& BitVec.ofInt IntKind.u64.bits (4503599627370495 : Int)).toNat : Int)) ||| BitVec.ofInt IntKind.u64.bits (4503599627370496 : Int)).toNat : Int))), (.int .i64 (IntKind.i64.wrap (IntKind.i64.wrap (IntKind.u64.wrap (↑(BitVec.ofInt IntKind.u64.bits (a.fdiv ((2 : Int) ^ min (Int.toNat (52 : Int)) IntKind.u64.bits)) &&& BitVec.ofInt IntKind.u64.bits (2047 : Int)).toNat : Int)) - (1075 : Int))))]) [] .plain)) (some (.ret (.tup [(.bool (a.fdiv ((2 : Int) ^ min (Int.toNat (63 : Int)) IntKind.u64.bits) == (1 : Int))), (.int .u64 (IntKind.u64.wrap (↑(BitVec.ofInt IntKind.u64.bits a &&& BitVec.ofInt IntKind.u64.bits (4503599627370495 : Int)).toNat : Int))), (.int .i64 (-1074))]) [] .plain)))))) := by kernel_rfl
theorem b_rTo (loops : LoopK) (a : Int) : bodyL Tryz.prog polZ uP loops 28 [.int .u64 a] [] .plain =
  (chk ((U64 a)) (cond (decide (clsF a < (3 : Int))) (some (.ret (.tup [(.int .i64 0), (.int .i64 82)]) [] .plain)) (chk ((U64 a)) (cond (cond (mtF a == (0 : Int)) (true) (decide (exF a < (-1000 : Int)))) (some (.ret (.tup [(.int .i64 0), (.int .i64 0)]) [] .plain)) (cond (decide (exF a > (11 : Int))) (some (.ret (.tup [(.int .i64 0), (.int .i64 82)]) [] .plain)) (cond (cond (cond (sgF a) (mtF a == (4503599627370496 : Int)) (false)) (exF a == (11 : Int)) (false)) (some (.ret (.tup [(.int .i64 (-9223372036854775808)), (.int .i64 0)]) [] .plain)) (cond (exF a == (11 : Int)) (some (.ret (.tup [(.int .i64 0), (.int .i64 82)]) [] .plain)) (cond (decide (exF a > (0 : Int))) (cond (decide (IntKind.u64.wrap (exF a) < (0 : Int))) none (cond (decide (exF a < (0 : Int))) (cond (decide (exF a < (-60 : Int))) (some (.ret (.tup [(.int .i64 0), (.int .i64 0)]) [] .plain)) (cond (decide (IntKind.u64.wrap (IntKind.i64.wrap ((0 : Int) - exF a)) < (0 : Int))) none (cond (sgF a) (some (.ret (.tup [(.int .i64 (IntKind.i64.wrap ((0 : Int) - IntKind.i64.wrap ((IntKind.u64.wrap (mtF a * (2 : Int) ^ min (IntKind.u64.wrap (exF a)).toNat IntKind.u64.bits)).fdiv ((2 : Int) ^ min (IntKind.u64.wrap (IntKind.i64.wrap ((0 : Int) - exF a))).toNat IntKind.u64.bits))))), (.int .i64 0)]) [] .plain)) (some (.ret (.tup [(.int .i64 (IntKind.i64.wrap ((IntKind.u64.wrap (mtF a * (2 : Int) ^ min (IntKind.u64.wrap (exF a)).toNat IntKind.u64.bits)).fdiv ((2 : Int) ^ min (IntKind.u64.wrap (IntKind.i64.wrap ((0 : Int) - exF a))).toNat IntKind.u64.bits)))), (.int .i64 0)]) [] .plain))))) (cond (sgF a) (some (.ret (.tup [(.int .i64 (IntKind.i64.wrap ((0 : Int) - IntKind.i64.wrap (IntKind.u64.wrap (mtF a * (2 : Int) ^ min (IntKind.u64.wrap (exF a)).toNat IntKind.u64.bits))))), (.int .i64 0)]) [] .plain)) (some (.ret (.tup [(.int .i64 (IntKind.i64.wrap (IntKind.u64.wrap (mtF a * (2 : Int) ^ min (IntKind.u64.wrap (exF a)).toNat IntKind.u64.bits)))), (.int .i64 0)]) [] .plain))))) (cond (decide (exF a < (0 : Int))) (cond (decide (exF a < (-60 : Int))) (some (.ret (.tup [(.int .i64 0), (.int .i64 0)]) [] .plain)) (cond (decide (IntKind.u64.wrap (IntKind.i64.wrap ((0 : Int) - exF a)) < (0 : Int))) none (cond (sgF a) (some (.ret (.tup [(.int .i64 (IntKind.i64.wrap ((0 : Int) - IntKind.i64.wrap ((mtF a).fdiv ((2 : Int) ^ min (IntKind.u64.wrap (IntKind.i64.wrap ((0 : Int) - exF a))).toNat IntKind.u64.bits))))), (.int .i64 0)]) [] .plain)) (some (.ret (.tup [(.int .i64 (IntKind.i64.wrap ((mtF a).fdiv ((2 : Int) ^ min (IntKind.u64.wrap (IntKind.i64.wrap ((0 : Int) - exF a))).toNat IntKind.u64.bits)))), (.int .i64 0)]) [] .plain))))) (cond (sgF a) (some (.ret (.tup [(.int .i64 (IntKind.i64.wrap ((0 : Int) - IntKind.i64.wrap (mtF a)))), (.int .i64 0)]) [] .plain)) (some (.ret (.tup [(.int .i64 (IntKind.i64.wrap (mtF a))), (.int .i64 0)]) [] .plain)))))))))))) := by kernel_rfl
end Go.Proofs

/- FoldOperators: what the functions of whole numbers come to. -/
namespace Go.Proofs
open Go Go.Den
set_option maxRecDepth 100000
theorem valZ {f : FuncId} {call : CallK} (hle : CallLeK call dZ) (hf : extZ f = none) (hk : keysOK (loopsOf (bodyOf Tryz.prog f)) = true) {args : List AV} {o : Out}
    (h : ∀ loops, Tot (bodyL Tryz.prog polZ call loops f args [] .plain) (· = o)) : dZ f args [] .plain = some o :=
  Tot.of_eq (denA_tot 0 hle hf hk (h _))
theorem wi_eq (n : Int) : IntKind.i64.wrap n = if n % 18446744073709551616 ≥ 9223372036854775808 then n % 18446744073709551616 - 18446744073709551616 else n % 18446744073709551616 := by
  simp [IntKind.wrap, IntKind.bits, IntKind.signed]
theorem wu_eq (n : Int) : IntKind.u64.wrap n = n % 18446744073709551616 := by
  simp [IntKind.wrap, IntKind.bits, IntKind.signed]
theorem wi_of {n : Int} (h : I64 n) : IntKind.i64.wrap n = n := by
  rw [wi_eq]; unfold I64 at h; split <;> omega
theorem wu_of {n : Int} (h : U64 n) : IntKind.u64.wrap n = n := by
  rw [wu_eq]; unfold U64 at h; omega
theorem i64_wrap (n : Int) : I64 (IntKind.i64.wrap n) := by
  rw [wi_eq]; unfold I64; split <;> omega
theorem u64_wrap (n : Int) : U64 (IntKind.u64.wrap n) := by
  rw [wu_eq]; unfold U64; omega
instance (n : Int) : Decidable (I64 n) := by unfold I64; exact inferInstance
/-- a number, if it has its place; else an error -/
def rsI (n : Int) : AV := .tup [.int .i64 (cond (decide (I64 n)) n 0), .int .i64 (cond (decide (I64 n)) 0 80)]
theorem rs_ok {n : Int} (h : I64 n) : rsI n = .tup [.int .i64 n, .int .i64 0] := by unfold rsI; rw [decide_eq_true h]; rfl
theorem rs_no {n : Int} (h : ¬ I64 n) : rsI n = .tup [.int .i64 0, .int .i64 80] := by unfold rsI; rw [decide_eq_false h]; rfl
theorem pick_rs {n w : Int} {c : Bool} (h1 : c = true → ¬ I64 n) (h2 : c = false → I64 n ∧ w = n) :
    Tot (cond c (some (.ret (.tup [.int .i64 0, .int .i64 80]) [] .plain)) (some (.ret (.tup [.int .i64 w, .int .i64 0]) [] .plain))) (· = .ret (rsI n) [] .plain) := by
  cases c with
  | true => exact Tot.some (by rw [rs_no (h1 rfl)])
  | false => obtain ⟨h, rfl⟩ := h2 rfl; exact Tot.some (by rw [rs_ok h])
theorem v51 {a b : Int} (ha : I64 a) (hb : I64 b) : dZ 51 [.int .i64 a, .int .i64 b] [] .plain = some (.ret (rsI (a + b)) [] .plain) :=
  valZ noCall_le rfl (by kernel_rfl) fun loops => by
    rw [b_add]
    have hw := wi_eq (a + b)
    generalize IntKind.i64.wrap (a + b) = w at *
    unfold I64 at ha hb
    refine pick_rs (fun h => ?_) fun h => ?_
    · unfold I64
      by_cases h1 : w > a <;> by_cases h2 : b > 0 <;> by_cases h3 : b = 0 <;> simp [h1, h2, h3] at h <;> split at hw <;> omega
    · unfold I64
      by_cases h1 : w > a <;> by_cases h2 : b > 0 <;> by_cases h3 : b = 0 <;> simp [h1, h2, h3] at h <;> split at hw <;> omega
theorem v44 {a b : Int} (ha : I64 a) (hb : I64 b) : dZ 44 [.int .i64 a, .int .i64 b] [] .plain = some (.ret (rsI (a - b)) [] .plain) :=
  valZ noCall_le rfl (by kernel_rfl) fun loops => by
    rw [b_sub]
    have hw := wi_eq (a - b)
    generalize IntKind.i64.wrap (a - b) = w at *
    unfold I64 at ha hb
    refine pick_rs (fun h => ?_) fun h => ?_
    · unfold I64
      by_cases h1 : w < a <;> by_cases h2 : b > 0 <;> by_cases h3 : b = 0 <;> simp [h1, h2, h3] at h <;> split at hw <;> omega
    · unfold I64
      by_cases h1 : w < a <;> by_cases h2 : b > 0 <;> by_cases h3 : b = 0 <;> simp [h1, h2, h3] at h <;> split at hw <;> omega
theorem in44_le : CallLeK (inlK Tryz.prog polZ (fun f => f == 44) noCall 1) dZ := inlK_le noCall_le (fun f hf => by have hf : (f == 44) = true := hf; simp only [beq_iff_eq] at hf; subst hf; rfl) 1
theorem in46_le : CallLeK (inlK Tryz.prog polZ (fun f => f == 46) noCall 1) dZ := inlK_le noCall_le (fun f hf => by have hf : (f == 46) = true := hf; simp only [beq_iff_eq] at hf; subst hf; rfl) 1
theorem v19 {a : Int} (ha : I64 a) : dZ 19 [.int .i64 a] [] .plain = some (.ret (rsI (-a)) [] .plain) :=
  valZ in44_le rfl (by kernel_rfl) fun loops => by
    rw [b_neg]
    have hw := wi_eq (0 - a)
    generalize IntKind.i64.wrap (0 - a) = w at *
    unfold I64 at ha
    refine pick_rs (fun h => ?_) fun h => ?_
    · unfold I64
      by_cases h1 : w < 0 <;> by_cases h2 : a > 0 <;> by_cases h3 : a = 0 <;> simp [h1, h2, h3] at h <;> split at hw <;> omega
    · unfold I64
      by_cases h1 : w < 0 <;> by_cases h2 : a > 0 <;> by_cases h3 : a = 0 <;> simp [h1, h2, h3] at h <;> split at hw <;> omega
theorem v69 {a b : Int} (ha : I64 a) (hb : I64 b) : dZ 69 [.int .i64 a, .int .i64 b] [] .plain = some (.ret (rsI (a + b)) [] .plain) :=
  valZ noCall_le rfl (by kernel_rfl) fun loops => by
    rw [b_rAdd]
    have hw := wi_eq (a + b)
    have hw1 := wi_eq (9223372036854775807 - b)
    have hw2 := wi_eq (-9223372036854775808 - b)
    generalize IntKind.i64.wrap (a + b) = w at *
    generalize IntKind.i64.wrap (9223372036854775807 - b) = w1 at *
    generalize IntKind.i64.wrap (-9223372036854775808 - b) = w2 at *
    unfold I64 at ha hb
    refine pick_rs (fun h => ?_) fun h => ?_
    · unfold I64
      by_cases h1 : b > 0 <;> by_cases h2 : b < 0 <;> by_cases h3 : a > w1 <;> by_cases h4 : a < w2 <;> simp [h1, h2, h3, h4] at h <;> split at hw <;> split at hw1 <;> split at hw2 <;> omega
    · unfold I64
      by_cases h1 : b > 0 <;> by_cases h2 : b < 0 <;> by_cases h3 : a > w1 <;> by_cases h4 : a < w2 <;> simp [h1, h2, h3, h4] at h <;> split at hw <;> split at hw1 <;> split at hw2 <;> omega
theorem v46 {a b : Int} (ha : I64 a) (hb : I64 b) : dZ 46 [.int .i64 a, .int .i64 b] [] .plain = some (.ret (rsI (a - b)) [] .plain) :=
  valZ noCall_le rfl (by kernel_rfl) fun loops => by
    rw [b_rSub]
    have hw := wi_eq (a - b)
    have hw1 := wi_eq (9223372036854775807 + b)
    have hw2 := wi_eq (-9223372036854775808 + b)
    generalize IntKind.i64.wrap (a - b) = w at *
    generalize IntKind.i64.wrap (9223372036854775807 + b) = w1 at *
    generalize IntKind.i64.wrap (-9223372036854775808 + b) = w2 at *
    unfold I64 at ha hb
    refine pick_rs (fun h => ?_) fun h => ?_
    · unfold I64
      by_cases h1 : b > 0 <;> by_cases h2 : b < 0 <;> by_cases h3 : a > w1 <;> by_cases h4 : a < w2 <;> simp [h1, h2, h3, h4] at h <;> split at hw <;> split at hw1 <;> split at hw2 <;> omega
    · unfold I64
      by_cases h1 : b > 0 <;> by_cases h2 : b < 0 <;> by_cases h3 : a > w1 <;> by_cases h4 : a < w2 <;> simp [h1, h2, h3, h4] at h <;> split at hw <;> split at hw1 <;> split at hw2 <;> omega
theorem v22 {a : Int} (ha : I64 a) : dZ 22 [.int .i64 a] [] .plain = some (.ret (rsI (-a)) [] .plain) :=
  valZ in46_le rfl (by kernel_rfl) fun loops => by
    rw [b_rNeg]
    have hw := wi_eq (0 - a)
    have hw1 := wi_eq (9223372036854775807 + a)
    have hw2 := wi_eq (-9223372036854775808 + a)
    generalize IntKind.i64.wrap (0 - a) = w at *
    generalize IntKind.i64.wrap (9223372036854775807 + a) = w1 at *
    generalize IntKind.i64.wrap (-9223372036854775808 + a) = w2 at *
    unfold I64 at ha
    refine pick_rs (fun h => ?_) fun h => ?_
    · unfold I64
      by_cases h1 : a > 0 <;> by_cases h2 : a < 0 <;> by_cases h3 : 0 > w1 <;> by_cases h4 : 0 < w2 <;> simp [h1, h2, h3, h4] at h <;> split at hw <;> split at hw1 <;> split at hw2 <;> omega
    · unfold I64
      by_cases h1 : a > 0 <;> by_cases h2 : a < 0 <;> by_cases h3 : 0 > w1 <;> by_cases h4 : 0 < w2 <;> simp [h1, h2, h3, h4] at h <;> split at hw <;> split at hw1 <;> split at hw2 <;> omega
/-! quotients, rests -/
def quI (a b : Int) : AV := cond (b == 0) (.tup [.int .i64 0, .int .i64 81]) (rsI (a.tdiv b))
def reI (a b : Int) : AV := cond (b == 0) (.tup [.int .i64 0, .int .i64 81]) (.tup [.int .i64 (a.tmod b), .int .i64 0])
theorem tdiv_in {a b : Int} (ha : I64 a) (h0 : b ≠ 0) (h : ¬ (a = -9223372036854775808 ∧ b = -1)) : I64 (a.tdiv b) := by
  unfold I64 at *
  by_cases h1 : b = -1
  · subst h1
    rw [Int.tdiv_neg, Int.tdiv_one]
    omega
  · by_cases h2 : b = 1
    · subst h2; rw [Int.tdiv_one]; exact ha
    · have hq : (a.tdiv b).natAbs ≤ a.natAbs / 2 := by
        rw [Int.natAbs_tdiv]
        exact Nat.div_le_div_left (by omega) (by omega)
      omega
theorem in53_le : CallLeK (inlK Tryz.prog polZ (fun f => f == 19 || f == 44) noCall 2) dZ :=
  inlK_le noCall_le (fun f hf => by have hf : (f == 19 || f == 44) = true := hf; simp only [Bool.or_eq_true, beq_iff_eq] at hf; rcases hf with rfl | rfl <;> rfl) 2
theorem v53 {a b : Int} (ha : I64 a) (hb : I64 b) : dZ 53 [.int .i64 a, .int .i64 b] [] .plain = some (.ret (quI a b) [] .plain) :=
  valZ in53_le rfl (by kernel_rfl) fun loops => by
    rw [b_quo]
    unfold quI
    refine Tot.cond (fun h => by rw [h]; exact Tot.some rfl) fun h => ?_
    rw [h]
    have h0 : b ≠ 0 := by simpa using h
    refine Tot.cond (fun h1 => ?_) fun h1 => ?_
    · have h1 : b = -1 := by simpa using h1
      subst h1
      rw [Int.tdiv_neg, Int.tdiv_one]
      have hw := wi_eq (0 - a)
      generalize IntKind.i64.wrap (0 - a) = w at *
      unfold I64 at ha
      refine pick_rs (fun h => ?_) fun h => ?_
      · unfold I64
        by_cases h1 : w < 0 <;> by_cases h2 : a > 0 <;> by_cases h3 : a = 0 <;> simp [h1, h2, h3] at h <;> split at hw <;> omega
      · unfold I64
        by_cases h1 : w < 0 <;> by_cases h2 : a > 0 <;> by_cases h3 : a = 0 <;> simp [h1, h2, h3] at h <;> split at hw <;> omega
    · have h1 : b ≠ -1 := by simpa using h1
      rw [cond_false]
      have hi := tdiv_in ha h0 (by omega)
      rw [wi_of hi]
      exact Tot.some (by rw [cond_false, rs_ok hi])
theorem v71 {a b : Int} (ha : I64 a) (hb : I64 b) : dZ 71 [.int .i64 a, .int .i64 b] [] .plain = some (.ret (quI a b) [] .plain) :=
  valZ noCall_le rfl (by kernel_rfl) fun loops => by
    rw [b_rQuo]
    unfold quI
    refine Tot.cond (fun h => by rw [h]; exact Tot.some rfl) fun h => ?_
    rw [h]
    have h0 : b ≠ 0 := by simpa using h
    refine Tot.cond (fun h1 => ?_) fun h1 => ?_
    · have h1 : a = -9223372036854775808 ∧ b = -1 := by
        by_cases h2 : a = -9223372036854775808 <;> simp [h2] at h1 ⊢
        exact h1
      obtain ⟨rfl, rfl⟩ := h1
      exact Tot.some (by rw [cond_false, rs_no (by decide)])
    · have h1 : ¬ (a = -9223372036854775808 ∧ b = -1) := by
        rintro ⟨rfl, rfl⟩
        simp at h1
      rw [cond_false]
      have hi := tdiv_in ha h0 h1
      rw [wi_of hi]
      exact Tot.some (by rw [cond_false, rs_ok hi])
theorem rem_both {a b : Int} : Tot (cond (b == (0 : Int)) (some (.ret (.tup [(.int .i64 0), (.int .i64 81)]) [] .plain)) (cond (b == (-1 : Int)) (some (.ret (.tup [(.int .i64 0), (.int .i64 0)]) [] .plain)) (cond (b == (0 : Int)) none (some (.ret (.tup [(.int .i64 (a.tmod b)), (.int .i64 0)]) [] .plain))))) (· = .ret (reI a b) [] .plain) := by
  unfold reI
  refine Tot.cond (fun h => by rw [h]; exact Tot.some rfl) fun h => ?_
  rw [h]
  refine Tot.cond (fun h1 => ?_) fun h1 => Tot.some rfl
  have h1 : b = -1 := by simpa using h1
  subst h1
  have : a.tmod (-1) = 0 := by rw [Int.tmod_neg, Int.tmod_one]
  exact Tot.some (by rw [this]; rfl)
theorem v54 {a b : Int} : dZ 54 [.int .i64 a, .int .i64 b] [] .plain = some (.ret (reI a b) [] .plain) :=
  valZ noCall_le rfl (by kernel_rfl) fun loops => by rw [b_rem]; exact rem_both
theorem v72 {a b : Int} : dZ 72 [.int .i64 a, .int .i64 b] [] .plain = some (.ret (reI a b) [] .plain) :=
  valZ noCall_le rfl (by kernel_rfl) fun loops => by rw [b_rRem]; exact rem_both
/-! products -/
theorem v70 {a b : Int} (ha : I64 a) (hb : I64 b) : dZ 70 [.int .i64 a, .int .i64 b] [] .plain = some (.ret (rsI (a * b)) [] .plain) :=
  valZ noCall_le rfl (by kernel_rfl) fun loops => by
    rw [b_rMul]
    refine Tot.cond (fun h => ?_) fun h => ?_
    · have : a * b = 0 := by
        by_cases h1 : a = 0
        · subst h1; simp
        · have : b = 0 := by simpa [h1] using h
          subst this; simp
      rw [this, rs_ok (by decide)]
      exact Tot.some rfl
    · have h0 : a ≠ 0 ∧ b ≠ 0 := by
        by_cases h1 : a = 0
        · simp [h1] at h
        · by_cases h2 : b = 0
          · simp [h2] at h
          · exact ⟨h1, h2⟩
      refine Tot.cond (fun h => ?_) fun h => ?_
      · have : ¬ I64 (a * b) := by
          have : (a = -1 ∧ b = -9223372036854775808) ∨ (b = -1 ∧ a = -9223372036854775808) := by
            by_cases h1 : a = -1 <;> by_cases h2 : b = -1 <;> by_cases h3 : a = -9223372036854775808 <;> by_cases h4 : b = -9223372036854775808 <;> simp_all
          rcases this with ⟨rfl, rfl⟩ | ⟨rfl, rfl⟩ <;> decide
        rw [rs_no this]
        exact Tot.some rfl
      · have hb0 : (b == 0) = false := by simpa using h0.2
        rw [hb0, cond_false]
        have hx : ¬ (a = -1 ∧ b = -9223372036854775808) ∧ ¬ (b = -1 ∧ a = -9223372036854775808) := by
          constructor <;> rintro ⟨rfl, rfl⟩ <;> simp at h
        refine pick_rs (fun hc => ?_) fun hc => ?_
        · intro hi
          have : IntKind.i64.wrap ((IntKind.i64.wrap (a * b)).tdiv b) = a := by
            rw [wi_of hi, Int.mul_tdiv_cancel _ h0.2, wi_of ha]
          simp [this] at hc
        · have hc : IntKind.i64.wrap ((IntKind.i64.wrap (a * b)).tdiv b) = a := by simpa using hc
          have hp := i64_wrap (a * b)
          have hpe := wi_eq (a * b)
          generalize IntKind.i64.wrap (a * b) = p at *
          -- p / b = a, and p and a * b are alike but for a whole number of turns
          have hpb : ¬ (p = -9223372036854775808 ∧ b = -1) := by
            rintro ⟨rfl, rfl⟩
            have : IntKind.i64.wrap ((-9223372036854775808 : Int).tdiv (-1)) = -9223372036854775808 := by decide +kernel
            rw [this] at hc
            exact hx.2 ⟨rfl, hc.symm⟩
          rw [wi_of (tdiv_in hp h0.2 hpb)] at hc
          have hpm := Int.mul_tdiv_add_tmod p b
          rw [hc] at hpm
          have hr := Int.natAbs_tmod p b
          have hrl : p.natAbs % b.natAbs < b.natAbs := Nat.mod_lt _ (by omega)
          have hcomm : b * a = a * b := Int.mul_comm _ _
          unfold I64 at ha hb hp ⊢
          generalize a * b = m at *
          have e : p = m := by split at hpe <;> omega
          exact ⟨by omega, e⟩
theorem shr32_eq {a : Int} : a.fdiv ((2 : Int) ^ min (Int.toNat (32 : Int)) IntKind.u64.bits) = a / 4294967296 := by
  have : (2 : Int) ^ (min (32 : Int).toNat IntKind.u64.bits) = 4294967296 := by decide
  rw [this, Int.fdiv_eq_ediv_of_nonneg _ (by decide)]
theorem andN {n : Nat} (h : n < 18446744073709551616) : IntKind.u64.wrap (↑(BitVec.ofInt IntKind.u64.bits (n : Int) &&& BitVec.ofInt IntKind.u64.bits (4294967295 : Int)).toNat : Int) = ((n % 4294967296 : Nat) : Int) := by
  have e : (BitVec.ofInt 64 (n : Int) &&& BitVec.ofInt 64 4294967295).toNat = n % 4294967296 := by
    have h1 : (BitVec.ofInt 64 (n : Int)).toNat = n := by simp [BitVec.toNat_ofInt]; omega
    have h2 : (BitVec.ofInt 64 4294967295).toNat = 2 ^ 32 - 1 := by decide
    rw [BitVec.toNat_and, h1, h2, Nat.and_two_pow_sub_one_eq_mod]
  show IntKind.u64.wrap (↑(BitVec.ofInt 64 (n : Int) &&& BitVec.ofInt 64 (4294967295 : Int)).toNat : Int) = _
  rw [e, wu_eq]
  omega
theorem wuN {n : Nat} (h : n < 18446744073709551616) : IntKind.u64.wrap (n : Int) = n := by rw [wu_eq]; omega
theorem shrN (n : Nat) : (n : Int).fdiv ((2 : Int) ^ min (Int.toNat (32 : Int)) IntKind.u64.bits) = ((n / 4294967296 : Nat) : Int) := by rw [shr32_eq]; omega
theorem v79 {a b : Int} (ha : U64 a) (hb : U64 b) : dZ 79 [.int .u64 a, .int .u64 b] [] .plain = some (.ret (.tup [.int .u64 (a * b / 18446744073709551616), .int .u64 (a * b % 18446744073709551616)]) [] .plain) :=
  valZ noCall_le rfl (by kernel_rfl) fun loops => by
    rw [b_m64]
    obtain ⟨x, rfl⟩ := Int.eq_ofNat_of_zero_le ha.1
    obtain ⟨y, rfl⟩ := Int.eq_ofNat_of_zero_le hb.1
    have hx : x < 18446744073709551616 := by have := ha.2; omega
    have hy : y < 18446744073709551616 := by have := hb.2; omega
    obtain ⟨h1, h2, h3, h4⟩ := Go.Lib.mul64_hi x y hx hy
    have hA := Go.Lib.half_mul_le (a := x / 4294967296) (b := y / 4294967296) (by omega) (by omega)
    have hB := Go.Lib.half_mul_le (a := x / 4294967296) (b := y % 4294967296) (by omega) (by omega)
    have hC := Go.Lib.half_mul_le (a := x % 4294967296) (b := y / 4294967296) (by omega) (by omega)
    have hT : IntKind.u64.wrap (IntKind.u64.wrap (((x / 4294967296 : Nat) : Int) * ((y % 4294967296 : Nat) : Int)) + (IntKind.u64.wrap (((x % 4294967296 : Nat) : Int) * ((y % 4294967296 : Nat) : Int))).fdiv ((2 : Int) ^ min (Int.toNat (32 : Int)) IntKind.u64.bits)) =
        (((x / 4294967296) * (y % 4294967296) + (x % 4294967296) * (y % 4294967296) / 4294967296 : Nat) : Int) := by
      rw [← Int.natCast_mul, ← Int.natCast_mul, wuN (by omega), wuN h1, shrN, ← Int.natCast_add, wuN h2]
    rw [shrN x, shrN y, andN hx, andN hy, hT, shrN, andN h2, ← Int.natCast_mul, ← Int.natCast_mul, wuN (by omega), wuN (n := x % 4294967296 * (y / 4294967296)) (by omega), ← Int.natCast_add, ← Int.natCast_add, wuN (by omega), wuN h3, shrN, ← Int.natCast_add, h4]
    have hxy : x * y < 18446744073709551616 * 18446744073709551616 := Nat.mul_lt_mul'' hx hy
    rw [wuN (by omega), wu_eq, ← Int.natCast_mul]
    exact Tot.some rfl
theorem u79_le : CallLeK u79 dZ := by
  intro f args h ps kk o e
  unfold u79 at e
  split at e
  · obtain ⟨⟨h1, h2⟩, e⟩ := chk_some e
    exact ⟨_, e, v79 h1 h2⟩
  · cases e
theorem uM_le : CallLeK uM dZ := inlK_le u79_le (fun f hf => by have hf : (f == 80) = true := hf; simp only [beq_iff_eq] at hf; subst hf; rfl) 1
theorem wneg {m : Int} (h1 : m ≤ 0) (h2 : (m.natAbs : Int) ≤ 9223372036854775808) : IntKind.i64.wrap (0 - IntKind.i64.wrap (m.natAbs : Int)) = m := by
  have e : (m.natAbs : Int) = -m := by omega
  rw [e] at h2 ⊢
  clear e
  have h3 := wi_eq (-m)
  have h4 := wi_eq (0 - IntKind.i64.wrap (-m))
  generalize IntKind.i64.wrap (0 - IntKind.i64.wrap (-m)) = w at *
  generalize IntKind.i64.wrap (-m) = w2 at *
  split at h3 <;> split at h4 <;> omega
theorem mul_one {a b A B : Int} {c : Bool} (ha : I64 a) (hb : I64 b) (hA : A = a.natAbs) (hB : B = b.natAbs) (hc : c = (decide (a < 0) == decide (b < 0))) :
    Tot (cond (A * B / 18446744073709551616 != 0) (some (.ret (.tup [.int .i64 0, .int .i64 80]) [] .plain))
      (cond (cond (!c) (decide (A * B % 18446744073709551616 ≤ 9223372036854775808)) false) (some (.ret (.tup [.int .i64 (IntKind.i64.wrap (0 - IntKind.i64.wrap (A * B % 18446744073709551616))), .int .i64 0]) [] .plain))
        (cond (cond (!(!c)) (decide (A * B % 18446744073709551616 < 9223372036854775808)) false) (some (.ret (.tup [.int .i64 (IntKind.i64.wrap (A * B % 18446744073709551616)), .int .i64 0]) [] .plain))
          (some (.ret (.tup [.int .i64 0, .int .i64 80]) [] .plain))))) (· = .ret (rsI (a * b)) [] .plain) := by
  have hn : A * B = ((a * b).natAbs : Int) := by rw [hA, hB, Int.natAbs_mul, Int.natCast_mul]
  have hneg : c = true → 0 ≤ a * b := by
    intro h
    rw [hc] at h
    by_cases h1 : a < 0
    · have h2 : b < 0 := by simpa [h1] using h
      exact Int.mul_nonneg_of_nonpos_of_nonpos (by omega) (by omega)
    · have h2 : ¬ b < 0 := by simpa [h1] using h
      exact Int.mul_nonneg (by omega) (by omega)
  have hpos : c = false → a * b ≤ 0 := by
    intro h
    rw [hc] at h
    by_cases h1 : a < 0
    · have h2 : ¬ b < 0 := by simpa [h1] using h
      exact Int.mul_nonpos_of_nonpos_of_nonneg (by omega) (by omega)
    · have h2 : b < 0 := by simpa [h1] using h
      exact Int.mul_nonpos_of_nonneg_of_nonpos (by omega) (by omega)
  rw [hn]
  generalize a * b = m at *
  refine Tot.cond (fun h => ?_) fun h => ?_
  · have h : ((m.natAbs : Nat) : Int) / 18446744073709551616 ≠ 0 := bne_iff_ne.1 h
    rw [rs_no (by unfold I64; omega)]
    exact Tot.some rfl
  · have h : ((m.natAbs : Nat) : Int) / 18446744073709551616 = 0 := by simpa only [bne_eq_false_iff_eq] using h
    have e : ((m.natAbs : Nat) : Int) % 18446744073709551616 = m.natAbs := by omega
    rw [e]
    have d1 : decide ((m.natAbs : Int) ≤ 9223372036854775808) = true ↔ (m.natAbs : Int) ≤ 9223372036854775808 := decide_eq_true_iff
    have d2 : decide ((m.natAbs : Int) < 9223372036854775808) = true ↔ (m.natAbs : Int) < 9223372036854775808 := decide_eq_true_iff
    generalize decide ((m.natAbs : Int) ≤ 9223372036854775808) = p1 at *
    generalize decide ((m.natAbs : Int) < 9223372036854775808) = p2 at *
    cases c with
    | true =>
      have h0 := hneg rfl
      have e2 : (m.natAbs : Int) = m := by omega
      rw [e2] at d2 ⊢
      refine Tot.cond (fun h => by cases h) fun _ => ?_
      cases p2 with
      | true =>
        have hi : I64 m := by have := d2.1 rfl; unfold I64; omega
        rw [wi_of hi, rs_ok hi]
        exact Tot.some rfl
      | false =>
        have hi : ¬ I64 m := by
          have : ¬ m < 9223372036854775808 := fun h => by cases d2.2 h
          unfold I64
          omega
        rw [rs_no hi]
        exact Tot.some rfl
    | false =>
      have h0 := hpos rfl
      cases p1 with
      | true =>
        have h5 := d1.1 rfl
        have hi : I64 m := by unfold I64; omega
        rw [wneg h0 h5, rs_ok hi]
        exact Tot.some rfl
      | false =>
        have hi : ¬ I64 m := by
          have : ¬ (m.natAbs : Int) ≤ 9223372036854775808 := fun h => by cases d1.2 h
          unfold I64
          omega
        rw [rs_no hi]
        exact Tot.some rfl
theorem v52 {a b : Int} (ha : I64 a) (hb : I64 b) : dZ 52 [.int .i64 a, .int .i64 b] [] .plain = some (.ret (rsI (a * b)) [] .plain) :=
  valZ uM_le rfl (by kernel_rfl) fun loops => by
    rw [b_mul]
    have am : ∀ {x : Int}, I64 x → x < 0 → IntKind.u64.wrap (0 - IntKind.u64.wrap x) = x.natAbs := fun {x} h h0 => by
      rw [wu_eq, wu_eq]; unfold I64 at h; omega
    have ap : ∀ {x : Int}, I64 x → ¬ x < 0 → IntKind.u64.wrap x = x.natAbs := fun {x} h h0 => by
      rw [wu_eq]; unfold I64 at h; omega
    refine Tot.cond (fun h1 => ?_) fun h1 => ?_
    · have h1 : a < 0 := by simpa using h1
      refine Tot.cond (fun h2 => ?_) fun h2 => ?_
      · have h2 : b < 0 := by simpa using h2
        exact Tot.chk ⟨u64_wrap _, u64_wrap _⟩ (mul_one ha hb (am ha h1) (am hb h2) rfl)
      · have h2 : ¬ b < 0 := by simpa using h2
        exact Tot.chk ⟨u64_wrap _, u64_wrap _⟩ (mul_one ha hb (am ha h1) (ap hb h2) rfl)
    · have h1 : ¬ a < 0 := by simpa using h1
      refine Tot.cond (fun h2 => ?_) fun h2 => ?_
      · have h2 : b < 0 := by simpa using h2
        exact Tot.chk ⟨u64_wrap _, u64_wrap _⟩ (mul_one ha hb (ap ha h1) (am hb h2) rfl)
      · have h2 : ¬ b < 0 := by simpa using h2
        exact Tot.chk ⟨u64_wrap _, u64_wrap _⟩ (mul_one ha hb (ap ha h1) (ap hb h2) rfl)
end Go.Proofs
