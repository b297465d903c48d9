/- A part of the second reading: contracts of functions. -/
import Derived.Test.YtndanoiaheknaaaDenL1
set_option linter.unusedSimpArgs false
set_option linter.unusedVariables false
namespace Go.Proofs
open Go.Den
set_option maxRecDepth 100000
def mulP (a b : Int) : Bool := mulHi (amt a) (amt b) != 0
def mulQ (a b : Int) : Bool := cond (!(decide (a < 0) == decide (b < 0))) (decide (wu (amt a * amt b) ≤ 9223372036854775808)) false
def mulS (a b : Int) : Bool := cond (!(!(decide (a < 0) == decide (b < 0)))) (decide (wu (amt a * amt b) < 9223372036854775808)) false
def mulV (a b : Int) : Int := cond (mulP a b) 0 (cond (mulQ a b) (wi (0 - wi (wu (amt a * amt b)))) (cond (mulS a b) (wi (wu (amt a * amt b))) 0))
def mulE (a b : Int) : Int := cond (mulP a b) 80 (cond (mulQ a b) 0 (cond (mulS a b) 0 80))
theorem ints_mul (K : Nat) (a b : Int) : dn (K + 2) 31 [.int .i64 a, .int .i64 b] [] .plain = rI (mulV a b) (mulE a b) := by
  refine den_of_body (t1_le K) (Nat.zero_le _) rfl (out := .ret (.tup [.int .i64 (mulV a b), .int .i64 (mulE a b)]) [] .plain) ?_
  have h : bodyD Try.prog pol0 t1 0 31 [.int .i64 a, .int .i64 b] [] .plain = cond (mulP a b) (rI 0 80) (cond (mulQ a b) (rI (wi (0 - wi (wu (amt a * amt b)))) 0) (cond (mulS a b) (rI (wi (wu (amt a * amt b))) 0) (rI 0 80))) := ints_mul_s a b
  rw [h, mulV, mulE]; cases mulP a b <;> cases mulQ a b <;> cases mulS a b <;> rfl
def negV (a : Int) : Int := cond (subC 0 a) 0 (wi (0 - a))
def negE (a : Int) : Int := cond (subC 0 a) 80 0
theorem ints_neg (K : Nat) (a : Int) : dn (K + 2) 53 [.int .i64 a] [] .plain = rI (negV a) (negE a) :=
  den_of_body (t1_le K) (Nat.zero_le _) rfl (ints_neg_s a)
/- whole, truth, compared -/
def whT (e : Int) : Int := cond (e == 80) 0 (cond (e == 81) 0 (cond (e == 82) 0 1))
def whB (v e : Int) : Int := cond (e == 80) 0 (cond (e == 81) 0 (cond (e == 82) 0 (wu v)))
def whC (e : Int) : Int := cond (e == 80) 1 (cond (e == 81) 2 (cond (e == 82) 3 0))
theorem fold_whole (K : Nat) (v e : Int) : dn (K + 1) 28 [.int .i64 v, .int .i64 e] [] .plain = rT (whT e) (whB v e) (whC e) := by
  have h : dn (K + 1) 28 [.int .i64 v, .int .i64 e] [] .plain = cond (e == 80) (rT 0 0 1) (cond (e == 81) (rT 0 0 2) (cond (e == 82) (rT 0 0 3) (rT 1 (wu v) 0))) := by kernel_rfl
  rw [h, whT, whB, whC]; cases e == 80 <;> cases e == 81 <;> cases e == 82 <;> rfl
theorem law_whole (K : Nat) (a : Int) : dn (K + 1) 7 [.int .i64 a] [] .plain = rV 1 (wu a) := by kernel_rfl
theorem fold_truth (K : Nat) (b : Bool) : dn (K + 1) 21 [.bool b] [] .plain = rV 3 (cond b 1 0) := by
  have h : dn (K + 1) 21 [.bool b] [] .plain = cond b (rV 3 1) (rV 3 0) := by kernel_rfl
  rw [h]; cases b <;> rfl
def t2 : CallK := fun f args h ps K => match f, args, h, ps with
  | 29, [.int .i64 a, .int .i64 b], [], .plain => K (oI (cond (addC a b) 0 (wi (a + b))) (cond (addC a b) 80 0))
  | 31, [.int .i64 a, .int .i64 b], [], .plain => K (oI (mulV a b) (mulE a b))
  | 33, [.int .i64 a, .int .i64 b], [], .plain => K (oI (remV a b) (cond (b == 0) 81 0))
  | 53, [.int .i64 a], [], .plain => K (oI (negV a) (negE a))
  | 28, [.int .i64 v, .int .i64 e], [], .plain => K (oT (whT e) (whB v e) (whC e))
  | 21, [.bool b], [], .plain => K (oV 3 (cond b 1 0))
  | _, _, _, _ => none
theorem t2_le (K : Nat) : CallLeK t2 (dn (K + 2)) := by
  intro f args h ps kk o e
  unfold t2 at e
  split at e
  · exact ⟨_, e, ints_add (K + 1) _ _⟩
  · exact ⟨_, e, ints_mul K _ _⟩
  · exact ⟨_, e, ints_rem (K + 1) _ _⟩
  · exact ⟨_, e, ints_neg K _⟩
  · exact ⟨_, e, fold_whole (K + 1) _ _⟩
  · exact ⟨_, e, fold_truth (K + 1) _⟩
  · cases e
def divV (a b : Int) : Int := cond (b == 0) 0 (cond (b == -1) (negV a) (wi (a.tdiv b)))
def divE (a b : Int) : Int := cond (b == 0) 81 (cond (b == -1) (negE a) 0)
theorem ints_div (K : Nat) (a b : Int) : dn (K + 3) 32 [.int .i64 a, .int .i64 b] [] .plain = rI (divV a b) (divE a b) := by
  refine den_of_body (t2_le K) (Nat.zero_le _) rfl (out := .ret (.tup [.int .i64 (divV a b), .int .i64 (divE a b)]) [] .plain) ?_
  have h : bodyD Try.prog pol0 t2 0 32 [.int .i64 a, .int .i64 b] [] .plain = cond (b == 0) (rI 0 81) (cond (b == -1) (rI (negV a) (negE a)) (cond (b == 0) none (rI (wi (a.tdiv b)) 0))) := by kernel_rfl
  rw [h, divV, divE]; cases b == 0 <;> cases b == -1 <;> rfl
theorem ofInts_add (K : Nat) (a b : Int) : dn (K + 3) 19 [.int .i64 1, .int .i64 a, .int .i64 b] [] .plain =
    rT (whT (cond (addC a b) 80 0)) (whB (cond (addC a b) 0 (wi (a + b))) (cond (addC a b) 80 0)) (whC (cond (addC a b) 80 0)) :=
  den_of_body (t2_le K) (Nat.zero_le _) rfl (show bodyD Try.prog pol0 t2 0 19 [.int .i64 1, .int .i64 a, .int .i64 b] [] .plain = some (.ret _ _ _) by kernel_rfl)
theorem ofInts_mul (K : Nat) (a b : Int) : dn (K + 3) 19 [.int .i64 3, .int .i64 a, .int .i64 b] [] .plain = rT (whT (mulE a b)) (whB (mulV a b) (mulE a b)) (whC (mulE a b)) :=
  den_of_body (t2_le K) (Nat.zero_le _) rfl (show bodyD Try.prog pol0 t2 0 19 [.int .i64 3, .int .i64 a, .int .i64 b] [] .plain = some (.ret _ _ _) by kernel_rfl)
end Go.Proofs
