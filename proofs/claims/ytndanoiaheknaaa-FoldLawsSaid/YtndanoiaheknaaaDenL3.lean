/- A part of the second reading: contracts of functions. -/
import Derived.Test.YtndanoiaheknaaaDenL2
set_option linter.unusedSimpArgs false
set_option linter.unusedVariables false
namespace Go.Proofs
open Go.Den
set_option maxRecDepth 100000
theorem cmp_lt (K : Nat) (e l m : Bool) : dn (K + 3) 34 [.int .i64 8, .bool e, .bool l, .bool m] [] .plain = rT 3 (cond l 1 0) 0 :=
  den_of_body (t2_le K) (Nat.zero_le _) rfl (show bodyD Try.prog pol0 t2 0 34 [.int .i64 8, .bool e, .bool l, .bool m] [] .plain = some (.ret _ _ _) by kernel_rfl)
theorem cmp_ge (K : Nat) (e l m : Bool) : dn (K + 3) 34 [.int .i64 11, .bool e, .bool l, .bool m] [] .plain = rT 3 (cond (cond m true e) 1 0) 0 :=
  den_of_body (t2_le K) (Nat.zero_le _) rfl (show bodyD Try.prog pol0 t2 0 34 [.int .i64 11, .bool e, .bool l, .bool m] [] .plain = some (.ret _ _ _) by kernel_rfl)
def t3 : CallK := fun f args h ps K => match f, args, h, ps with
  | 32, [.int .i64 a, .int .i64 b], [], .plain => K (oI (divV a b) (divE a b))
  | 33, [.int .i64 a, .int .i64 b], [], .plain => K (oI (remV a b) (cond (b == 0) 81 0))
  | 28, [.int .i64 v, .int .i64 e], [], .plain => K (oT (whT e) (whB v e) (whC e))
  | 34, [.int .i64 8, .bool _, .bool l, .bool _], [], .plain => K (oT 3 (cond l 1 0) 0)
  | 34, [.int .i64 11, .bool e, .bool _, .bool m], [], .plain => K (oT 3 (cond (cond m true e) 1 0) 0)
  | _, _, _, _ => none
theorem t3_le (K : Nat) : CallLeK t3 (dn (K + 3)) := by
  intro f args h ps kk o e
  unfold t3 at e
  split at e
  · exact ⟨_, e, ints_div K _ _⟩
  · exact ⟨_, e, ints_rem (K + 2) _ _⟩
  · exact ⟨_, e, fold_whole (K + 2) _ _⟩
  · exact ⟨_, e, cmp_lt K _ _ _⟩
  · exact ⟨_, e, cmp_ge K _ _ _⟩
  · cases e
theorem ofInts_div (K : Nat) (a b : Int) : dn (K + 4) 19 [.int .i64 4, .int .i64 a, .int .i64 b] [] .plain = rT (whT (divE a b)) (whB (divV a b) (divE a b)) (whC (divE a b)) :=
  den_of_body (t3_le K) (Nat.zero_le _) rfl (show bodyD Try.prog pol0 t3 0 19 [.int .i64 4, .int .i64 a, .int .i64 b] [] .plain = some (.ret _ _ _) by kernel_rfl)
def remE (b : Int) : Int := cond (b == 0) 81 0
theorem ofInts_rem (K : Nat) (a b : Int) : dn (K + 4) 19 [.int .i64 5, .int .i64 a, .int .i64 b] [] .plain = rT (whT (remE b)) (whB (remV a b) (remE b)) (whC (remE b)) :=
  den_of_body (t3_le K) (Nat.zero_le _) rfl (show bodyD Try.prog pol0 t3 0 19 [.int .i64 5, .int .i64 a, .int .i64 b] [] .plain = some (.ret _ _ _) by kernel_rfl)
theorem ofInts_lt (K : Nat) (a b : Int) : dn (K + 4) 19 [.int .i64 8, .int .i64 a, .int .i64 b] [] .plain = rT 3 (cond (decide (a < b)) 1 0) 0 :=
  den_of_body (t3_le K) (Nat.zero_le _) rfl (show bodyD Try.prog pol0 t3 0 19 [.int .i64 8, .int .i64 a, .int .i64 b] [] .plain = some (.ret _ _ _) by kernel_rfl)
theorem ofInts_ge (K : Nat) (a b : Int) : dn (K + 4) 19 [.int .i64 11, .int .i64 a, .int .i64 b] [] .plain = rT 3 (cond (cond (decide (a > b)) true (a == b)) 1 0) 0 :=
  den_of_body (t3_le K) (Nat.zero_le _) rfl (show bodyD Try.prog pol0 t3 0 19 [.int .i64 11, .int .i64 a, .int .i64 b] [] .plain = some (.ret _ _ _) by kernel_rfl)
def addE (a b : Int) : Int := cond (addC a b) 80 0
def addV (a b : Int) : Int := cond (addC a b) 0 (wi (a + b))
def t4 : CallK := fun f args h ps K => match f, args, h, ps with
  | 19, [.int .i64 1, .int .i64 a, .int .i64 b], [], .plain => K (oT (whT (addE a b)) (whB (addV a b) (addE a b)) (whC (addE a b)))
  | 19, [.int .i64 3, .int .i64 a, .int .i64 b], [], .plain => K (oT (whT (mulE a b)) (whB (mulV a b) (mulE a b)) (whC (mulE a b)))
  | 19, [.int .i64 4, .int .i64 a, .int .i64 b], [], .plain => K (oT (whT (divE a b)) (whB (divV a b) (divE a b)) (whC (divE a b)))
  | 19, [.int .i64 5, .int .i64 a, .int .i64 b], [], .plain => K (oT (whT (remE b)) (whB (remV a b) (remE b)) (whC (remE b)))
  | 19, [.int .i64 8, .int .i64 a, .int .i64 b], [], .plain => K (oT 3 (cond (decide (a < b)) 1 0) 0)
  | 19, [.int .i64 11, .int .i64 a, .int .i64 b], [], .plain => K (oT 3 (cond (cond (decide (a > b)) true (a == b)) 1 0) 0)
  | 17, [.int .i64 op, .int .i64 1, .int .i64 1], [], .plain => cond (decide (1 ≤ op) && decide (op ≤ 5)) (K (oI 1 0)) (cond (decide (8 ≤ op) && decide (op ≤ 11)) (K (oI 3 0)) none)
  | 18, [.agg [.int .i64 1, .int .u64 _]], [], .plain => K (oB true)
  | _, _, _, _ => none
theorem right_int (K : Nat) (b : Int) : dn (K + 2) 18 [.agg [.int .i64 1, .int .u64 b]] [] .plain = rB true := by kernel_rfl
theorem binary_int (K : Nat) (op : Int) (h : (decide (1 ≤ op) && decide (op ≤ 5)) = true ∨ (decide (8 ≤ op) && decide (op ≤ 11)) = true) : dn (K + 2) 17 [.int .i64 op, .int .i64 1, .int .i64 1] [] .plain =
    cond (decide (1 ≤ op) && decide (op ≤ 5)) (rI 1 0) (rI 3 0) := by
  have : op = 1 ∨ op = 2 ∨ op = 3 ∨ op = 4 ∨ op = 5 ∨ op = 8 ∨ op = 9 ∨ op = 10 ∨ op = 11 := by
    simp only [Bool.and_eq_true, decide_eq_true_eq] at h; omega
  clear h
  rcases this with h | h | h | h | h | h | h | h | h <;> rw [h] <;> clear h <;> show _ = _ <;> kernel_rfl
theorem t4_le (K : Nat) : CallLeK t4 (dn (K + 4)) := by
  intro f args h ps kk o e
  unfold t4 at e
  split at e
  · exact ⟨_, e, ofInts_add (K + 1) _ _⟩
  · exact ⟨_, e, ofInts_mul (K + 1) _ _⟩
  · exact ⟨_, e, ofInts_div K _ _⟩
  · exact ⟨_, e, ofInts_rem K _ _⟩
  · exact ⟨_, e, ofInts_lt K _ _⟩
  · exact ⟨_, e, ofInts_ge K _ _⟩
  · rename_i op
    cases h1 : (decide (1 ≤ op) && decide (op ≤ 5)) with
    | true =>
      rw [h1] at e
      exact ⟨_, e, by rw [binary_int (K + 2) op (.inl h1), h1]; rfl⟩
    | false =>
      rw [h1] at e
      cases h2 : (decide (8 ≤ op) && decide (op ≤ 11)) with
      | true => rw [h2] at e; exact ⟨_, e, by rw [binary_int (K + 2) op (.inr h2), h1]; rfl⟩
      | false => rw [h2] at e; cases e
  · exact ⟨_, e, right_int (K + 2) _⟩
  · cases e
end Go.Proofs
