/- A part of the second reading: contracts of functions. -/
import Derived.Test.YtndanoiaheknaaaDenL3
set_option linter.unusedSimpArgs false
set_option linter.unusedVariables false
namespace Go.Proofs
open Go.Den
set_option maxRecDepth 100000
theorem bin_add (K : Nat) (x y : Int) : dn (K + 5) 8 [.int .i64 1, val 1 x, val 1 y] [] .plain = rT (whT (addE (wi x) (wi y))) (whB (addV (wi x) (wi y)) (addE (wi x) (wi y))) (whC (addE (wi x) (wi y))) :=
  den_of_body (t4_le K) (Nat.zero_le _) rfl (show bodyD Try.prog pol0 t4 0 8 [.int .i64 1, val 1 x, val 1 y] [] .plain = some (.ret _ _ _) by kernel_rfl)
theorem bin_mul (K : Nat) (x y : Int) : dn (K + 5) 8 [.int .i64 3, val 1 x, val 1 y] [] .plain = rT (whT (mulE (wi x) (wi y))) (whB (mulV (wi x) (wi y)) (mulE (wi x) (wi y))) (whC (mulE (wi x) (wi y))) :=
  den_of_body (t4_le K) (Nat.zero_le _) rfl (show bodyD Try.prog pol0 t4 0 8 [.int .i64 3, val 1 x, val 1 y] [] .plain = some (.ret _ _ _) by kernel_rfl)
theorem bin_div (K : Nat) (x y : Int) : dn (K + 5) 8 [.int .i64 4, val 1 x, val 1 y] [] .plain = rT (whT (divE (wi x) (wi y))) (whB (divV (wi x) (wi y)) (divE (wi x) (wi y))) (whC (divE (wi x) (wi y))) :=
  den_of_body (t4_le K) (Nat.zero_le _) rfl (show bodyD Try.prog pol0 t4 0 8 [.int .i64 4, val 1 x, val 1 y] [] .plain = some (.ret _ _ _) by kernel_rfl)
theorem bin_rem (K : Nat) (x y : Int) : dn (K + 5) 8 [.int .i64 5, val 1 x, val 1 y] [] .plain = rT (whT (remE (wi y))) (whB (remV (wi x) (wi y)) (remE (wi y))) (whC (remE (wi y))) :=
  den_of_body (t4_le K) (Nat.zero_le _) rfl (show bodyD Try.prog pol0 t4 0 8 [.int .i64 5, val 1 x, val 1 y] [] .plain = some (.ret _ _ _) by kernel_rfl)
theorem bin_lt (K : Nat) (x y : Int) : dn (K + 5) 8 [.int .i64 8, val 1 x, val 1 y] [] .plain = rT 3 (cond (decide (wi x < wi y)) 1 0) 0 :=
  den_of_body (t4_le K) (Nat.zero_le _) rfl (show bodyD Try.prog pol0 t4 0 8 [.int .i64 8, val 1 x, val 1 y] [] .plain = some (.ret _ _ _) by kernel_rfl)
theorem bin_ge (K : Nat) (x y : Int) : dn (K + 5) 8 [.int .i64 11, val 1 x, val 1 y] [] .plain = rT 3 (cond (cond (decide (wi x > wi y)) true (wi x == wi y)) 1 0) 0 :=
  den_of_body (t4_le K) (Nat.zero_le _) rfl (show bodyD Try.prog pol0 t4 0 8 [.int .i64 11, val 1 x, val 1 y] [] .plain = some (.ret _ _ _) by kernel_rfl)
theorem alive40 : dn 40 9 [] [] .plain = rB true := by kernel_rfl
end Go.Proofs
