/- A part of the second reading: contracts of functions. -/
import Derived.Test.YtndanoiaheknaaaDenT1
import Derived.Test.YtndanoiaheknaaaDenMono
set_option linter.unusedSimpArgs false
set_option linter.unusedVariables false
namespace Go.Proofs
open Go.Den
set_option maxRecDepth 100000
abbrev wi (n : Int) : Int := IntKind.i64.wrap n
abbrev wu (n : Int) : Int := IntKind.u64.wrap n
def oI (a e : Int) : Out := .ret (.tup [.int .i64 a, .int .i64 e]) [] .plain
def rI (a e : Int) : R := some (oI a e)
def oU (a b : Int) : Out := .ret (.tup [.int .u64 a, .int .u64 b]) [] .plain
def rU (a b : Int) : R := some (oU a b)
def o1 (k : IntKind) (a : Int) : Out := .ret (.int k a) [] .plain
def r1 (k : IntKind) (a : Int) : R := some (o1 k a)
def oB (b : Bool) : Out := .ret (.bool b) [] .plain
def rB (b : Bool) : R := some (oB b)
def val (t b : Int) : AV := .agg [.int .i64 t, .int .u64 b]
def oV (t b : Int) : Out := .ret (val t b) [] .plain
def rV (t b : Int) : R := some (oV t b)
def oT (t b c : Int) : Out := .ret (.tup [val t b, .int .i64 c]) [] .plain
def rT (t b c : Int) : R := some (oT t b c)
noncomputable abbrev dn (k : Nat) : CallO := den Try.prog pol0 ext0 k

def addC (a b : Int) : Bool := cond (!(decide (wi (a + b) > a) == decide (b > 0))) (b != 0) false
def subC (a b : Int) : Bool := cond (!(decide (wi (a - b) < a) == decide (b > 0))) (b != 0) false
theorem ints_add (K : Nat) (a b : Int) : dn (K + 1) 29 [.int .i64 a, .int .i64 b] [] .plain = rI (cond (addC a b) 0 (wi (a + b))) (cond (addC a b) 80 0) := by
  have h : dn (K + 1) 29 [.int .i64 a, .int .i64 b] [] .plain = cond (addC a b) (rI 0 80) (rI (wi (a + b)) 0) := by kernel_rfl
  rw [h]; cases addC a b <;> rfl
theorem ints_sub (K : Nat) (a b : Int) : dn (K + 1) 30 [.int .i64 a, .int .i64 b] [] .plain = rI (cond (subC a b) 0 (wi (a - b))) (cond (subC a b) 80 0) := by
  have h : dn (K + 1) 30 [.int .i64 a, .int .i64 b] [] .plain = cond (subC a b) (rI 0 80) (rI (wi (a - b)) 0) := by kernel_rfl
  rw [h]; cases subC a b <;> rfl
def amt (a : Int) : Int := cond (decide (a < 0)) (wu (0 - wu a)) (wu a)
theorem ints_amount (K : Nat) (a : Int) : dn (K + 1) 52 [.int .i64 a] [] .plain = r1 .u64 (amt a) := by
  have h : dn (K + 1) 52 [.int .i64 a] [] .plain = cond (decide (a < 0)) (r1 .u64 (wu (0 - wu a))) (r1 .u64 (wu a)) := by kernel_rfl
  rw [h, amt]; cases decide (a < 0) <;> rfl
def remV (a b : Int) : Int := cond (b == 0) 0 (cond (b == -1) 0 (a.tmod b))
theorem ints_rem (K : Nat) (a b : Int) : dn (K + 1) 33 [.int .i64 a, .int .i64 b] [] .plain = rI (remV a b) (cond (b == 0) 81 0) := by
  have h : dn (K + 1) 33 [.int .i64 a, .int .i64 b] [] .plain = cond (b == 0) (rI 0 81) (cond (b == -1) (rI 0 0) (cond (b == 0) none (rI (a.tmod b) 0))) := by kernel_rfl
  rw [h, remV]; cases b == 0 <;> cases b == -1 <;> rfl
def and32 (a : Int) : Int := wu (BitVec.ofInt 64 a &&& BitVec.ofInt 64 4294967295).toNat
def shr32 (a : Int) : Int := a.fdiv (2 ^ (min (32 : Int).toNat 64))
def mulT (a b : Int) : Int := wu (wu (shr32 a * and32 b) + shr32 (wu (and32 a * and32 b)))
def mulHi (a b : Int) : Int := wu (wu (wu (shr32 a * shr32 b) + shr32 (mulT a b)) + shr32 (wu (and32 (mulT a b) + wu (and32 a * shr32 b))))
theorem mul64 (K : Nat) (a b : Int) : dn (K + 1) 51 [.int .u64 a, .int .u64 b] [] .plain = rU (mulHi a b) (wu (a * b)) := by kernel_rfl

def t1 : CallK := fun f args h ps K => match f, args, h, ps with
  | 29, [.int .i64 a, .int .i64 b], [], .plain => K (oI (cond (addC a b) 0 (wi (a + b))) (cond (addC a b) 80 0))
  | 30, [.int .i64 a, .int .i64 b], [], .plain => K (oI (cond (subC a b) 0 (wi (a - b))) (cond (subC a b) 80 0))
  | 33, [.int .i64 a, .int .i64 b], [], .plain => K (oI (remV a b) (cond (b == 0) 81 0))
  | 52, [.int .i64 a], [], .plain => K (o1 .u64 (amt a))
  | 51, [.int .u64 a, .int .u64 b], [], .plain => K (oU (mulHi a b) (wu (a * b)))
  | _, _, _, _ => none
theorem t1_le (K : Nat) : CallLeK t1 (dn (K + 1)) := by
  intro f args h ps kk o e
  unfold t1 at e
  split at e
  · exact ⟨_, e, ints_add K _ _⟩
  · exact ⟨_, e, ints_sub K _ _⟩
  · exact ⟨_, e, ints_rem K _ _⟩
  · exact ⟨_, e, ints_amount K _⟩
  · exact ⟨_, e, mul64 K _ _⟩
  · cases e

def mulC (a b : Int) : Int := cond (mulHi (amt a) (amt b) != 0) 2 (cond (cond (!(decide (a < 0) == decide (b < 0))) (decide (wu (amt a * amt b) ≤ 9223372036854775808)) false) 0
  (cond (cond (!(!(decide (a < 0) == decide (b < 0)))) (decide (wu (amt a * amt b) < 9223372036854775808)) false) 1 2))
theorem ints_mul_s (a b : Int) : bodyD Try.prog pol0 t1 0 31 [.int .i64 a, .int .i64 b] [] .plain =
  cond (mulHi (amt a) (amt b) != 0) (rI 0 80) (cond (cond (!(decide (a < 0) == decide (b < 0))) (decide (wu (amt a * amt b) ≤ 9223372036854775808)) false) (rI (wi (0 - wi (wu (amt a * amt b)))) 0)
    (cond (cond (!(!(decide (a < 0) == decide (b < 0)))) (decide (wu (amt a * amt b) < 9223372036854775808)) false) (rI (wi (wu (amt a * amt b))) 0) (rI 0 80))) := by kernel_rfl
theorem ints_neg_s (a : Int) : bodyD Try.prog pol0 t1 0 53 [.int .i64 a] [] .plain = rI (cond (subC 0 a) 0 (wi (0 - a))) (cond (subC 0 a) 80 0) := by kernel_rfl
end Go.Proofs
