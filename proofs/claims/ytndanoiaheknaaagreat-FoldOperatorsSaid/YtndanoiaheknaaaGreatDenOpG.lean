/- FoldOperators: operators of no meaning; the law: what is left. -/
import Derived.Test.YtndanoiaheknaaaGreatDenPiece
import Derived.Test.YtndanoiaheknaaaGreatDenOpE
set_option linter.unusedSimpArgs false
set_option linter.unusedVariables false
namespace Go.Proofs
open Go Go.Den
set_option maxRecDepth 100000

noncomputable def u39 : CallK := fun f args h ps K => match f, args, h, ps with
  | 39, [.int .i64 t], [], .plain => chk (¬ (1 ≤ t ∧ t ≤ 3)) (K (.ret (.bool false) [] .plain))
  | _, _, _, _ => none
noncomputable def uBad (f0 : FuncId) (xs : List AV) (n : Int) : CallK := fun f args h ps K => cond (f == f0) (chk (args = xs ∧ h = [] ∧ ps = .plain) (K (.ret (.tup [.int .i64 0, .int .i64 n]) [] .plain))) none
theorem b_11 (loops : LoopK) (op t : Int) : bodyL Tryz.prog polZ u39 loops 11 [.int .i64 op, .int .i64 t] [] .plain =
  (cond (cond (decide (op < (1 : Int))) (true) (decide (op > (4 : Int)))) (some (.ret (.tup [(.int .i64 0), (.int .i64 1)]) [] .plain)) (chk ((¬((1 : Int) ≤ t ∧ t ≤ (3 : Int)))) (some (.ret (.tup [(.int .i64 0), (.int .i64 22)]) [] .plain)))) := by kernel_rfl
theorem b_20 (loops : LoopK) (op t : Int) : bodyL Tryz.prog polZ noCall loops 20 [.int .i64 op, .int .i64 t] [] .plain =
  (cond (op == (1 : Int)) (cond (cond (t == (1 : Int)) (true) (t == (2 : Int))) (some (.ret (.tup [(.int .i64 t), (.int .i64 0)]) [] .plain)) (some (.ret (.tup [(.int .i64 0), (.int .i64 22)]) [] .plain))) (cond (op == (2 : Int)) (cond (t == (3 : Int)) (some (.ret (.tup [(.int .i64 t), (.int .i64 0)]) [] .plain)) (some (.ret (.tup [(.int .i64 0), (.int .i64 22)]) [] .plain))) (cond (op == (3 : Int)) (cond (t == (2 : Int)) (some (.ret (.tup [(.int .i64 1), (.int .i64 0)]) [] .plain)) (some (.ret (.tup [(.int .i64 0), (.int .i64 22)]) [] .plain))) (cond (op == (4 : Int)) (cond (t == (1 : Int)) (some (.ret (.tup [(.int .i64 2), (.int .i64 0)]) [] .plain)) (some (.ret (.tup [(.int .i64 0), (.int .i64 22)]) [] .plain))) (some (.ret (.tup [(.int .i64 0), (.int .i64 1)]) [] .plain)))))) := by kernel_rfl
theorem b_30 (loops : LoopK) (op t q : Int) : bodyL Tryz.prog polZ (inlK Tryz.prog polZ (fun f => f == 39) noCall 1) loops 30 [.int .i64 op, .int .i64 t, .int .i64 q] [] .plain =
  (cond (cond (decide (op < (1 : Int))) (true) (decide (op > (13 : Int)))) (some (.ret (.tup [(.int .i64 0), (.int .i64 1)]) [] .plain)) (cond (((t != q) == (false))) (cond (cond (false) (true) (!(cond (decide (t ≥ (1 : Int))) (decide (t ≤ (3 : Int))) (false)))) (some (.ret (.tup [(.int .i64 0), (.int .i64 22)]) [] .plain)) (cond (cond (decide (op ≤ (4 : Int))) (t != (3 : Int)) (false)) (cond (cond (decide (op ≤ (4 : Int))) (t != (3 : Int)) (false)) (some (.ret (.tup [(.int .i64 t), (.int .i64 0)]) [] .plain)) (cond (op == (6 : Int)) (cond (op == (6 : Int)) (some (.ret (.tup [(.int .i64 3), (.int .i64 0)]) [] .plain)) (some (.ret (.tup [(.int .i64 0), (.int .i64 22)]) [] .plain))) (cond (op == (7 : Int)) (cond (op == (7 : Int)) (some (.ret (.tup [(.int .i64 3), (.int .i64 0)]) [] .plain)) (some (.ret (.tup [(.int .i64 0), (.int .i64 22)]) [] .plain))) (cond (cond (cond (decide (op ≥ (8 : Int))) (decide (op ≤ (11 : Int))) (false)) (t != (3 : Int)) (false)) (some (.ret (.tup [(.int .i64 3), (.int .i64 0)]) [] .plain)) (some (.ret (.tup [(.int .i64 0), (.int .i64 22)]) [] .plain)))))) (cond (cond (op == (5 : Int)) (t == (1 : Int)) (false)) (cond (cond (op == (5 : Int)) (t == (1 : Int)) (false)) (some (.ret (.tup [(.int .i64 t), (.int .i64 0)]) [] .plain)) (cond (op == (6 : Int)) (cond (op == (6 : Int)) (some (.ret (.tup [(.int .i64 3), (.int .i64 0)]) [] .plain)) (some (.ret (.tup [(.int .i64 0), (.int .i64 22)]) [] .plain))) (cond (op == (7 : Int)) (cond (op == (7 : Int)) (some (.ret (.tup [(.int .i64 3), (.int .i64 0)]) [] .plain)) (some (.ret (.tup [(.int .i64 0), (.int .i64 22)]) [] .plain))) (cond (cond (cond (decide (op ≥ (8 : Int))) (decide (op ≤ (11 : Int))) (false)) (t != (3 : Int)) (false)) (some (.ret (.tup [(.int .i64 3), (.int .i64 0)]) [] .plain)) (some (.ret (.tup [(.int .i64 0), (.int .i64 22)]) [] .plain)))))) (cond (cond (decide (op ≥ (12 : Int))) (!(t != (3 : Int))) (false)) (some (.ret (.tup [(.int .i64 t), (.int .i64 0)]) [] .plain)) (cond (op == (6 : Int)) (cond (op == (6 : Int)) (some (.ret (.tup [(.int .i64 3), (.int .i64 0)]) [] .plain)) (some (.ret (.tup [(.int .i64 0), (.int .i64 22)]) [] .plain))) (cond (op == (7 : Int)) (cond (op == (7 : Int)) (some (.ret (.tup [(.int .i64 3), (.int .i64 0)]) [] .plain)) (some (.ret (.tup [(.int .i64 0), (.int .i64 22)]) [] .plain))) (cond (cond (cond (decide (op ≥ (8 : Int))) (decide (op ≤ (11 : Int))) (false)) (t != (3 : Int)) (false)) (some (.ret (.tup [(.int .i64 3), (.int .i64 0)]) [] .plain)) (some (.ret (.tup [(.int .i64 0), (.int .i64 22)]) [] .plain))))))))) (some (.ret (.tup [(.int .i64 0), (.int .i64 22)]) [] .plain)))) := by kernel_rfl
theorem b_33 (loops : LoopK) (op t q : Int) : bodyL Tryz.prog polZ (inlK Tryz.prog polZ (fun f => f == 62) noCall 1) loops 33 [.int .i64 op, .int .i64 t, .int .i64 q] [] .plain =
  (cond (cond (decide (op < (1 : Int))) (true) (decide (op > (13 : Int)))) (some (.ret (.tup [(.int .i64 0), (.int .i64 1)]) [] .plain)) (cond (((t != q) == (false))) (cond (cond (false) (true) (!(cond (cond (t == (1 : Int)) (true) (t == (2 : Int))) (true) (t == (3 : Int))))) (some (.ret (.tup [(.int .i64 0), (.int .i64 22)]) [] .plain)) (cond (op == (1 : Int)) (cond (op == (1 : Int)) (cond (t != (3 : Int)) (some (.ret (.tup [(.int .i64 t), (.int .i64 0)]) [] .plain)) (some (.ret (.tup [(.int .i64 0), (.int .i64 22)]) [] .plain))) (cond (op == (5 : Int)) (cond (t == (1 : Int)) (some (.ret (.tup [(.int .i64 t), (.int .i64 0)]) [] .plain)) (some (.ret (.tup [(.int .i64 0), (.int .i64 22)]) [] .plain))) (cond (op == (6 : Int)) (cond (op == (6 : Int)) (some (.ret (.tup [(.int .i64 3), (.int .i64 0)]) [] .plain)) (cond (op == (12 : Int)) (cond (op == (12 : Int)) (cond (t == (3 : Int)) (some (.ret (.tup [(.int .i64 t), (.int .i64 0)]) [] .plain)) (some (.ret (.tup [(.int .i64 0), (.int .i64 22)]) [] .plain))) (cond (t != (3 : Int)) (some (.ret (.tup [(.int .i64 3), (.int .i64 0)]) [] .plain)) (some (.ret (.tup [(.int .i64 0), (.int .i64 22)]) [] .plain)))) (cond (op == (13 : Int)) (cond (t == (3 : Int)) (some (.ret (.tup [(.int .i64 t), (.int .i64 0)]) [] .plain)) (some (.ret (.tup [(.int .i64 0), (.int .i64 22)]) [] .plain))) (cond (t != (3 : Int)) (some (.ret (.tup [(.int .i64 3), (.int .i64 0)]) [] .plain)) (some (.ret (.tup [(.int .i64 0), (.int .i64 22)]) [] .plain)))))) (cond (op == (7 : Int)) (some (.ret (.tup [(.int .i64 3), (.int .i64 0)]) [] .plain)) (cond (op == (12 : Int)) (cond (op == (12 : Int)) (cond (t == (3 : Int)) (some (.ret (.tup [(.int .i64 t), (.int .i64 0)]) [] .plain)) (some (.ret (.tup [(.int .i64 0), (.int .i64 22)]) [] .plain))) (cond (t != (3 : Int)) (some (.ret (.tup [(.int .i64 3), (.int .i64 0)]) [] .plain)) (some (.ret (.tup [(.int .i64 0), (.int .i64 22)]) [] .plain)))) (cond (op == (13 : Int)) (cond (t == (3 : Int)) (some (.ret (.tup [(.int .i64 t), (.int .i64 0)]) [] .plain)) (some (.ret (.tup [(.int .i64 0), (.int .i64 22)]) [] .plain))) (cond (t != (3 : Int)) (some (.ret (.tup [(.int .i64 3), (.int .i64 0)]) [] .plain)) (some (.ret (.tup [(.int .i64 0), (.int .i64 22)]) [] .plain))))))))) (cond (op == (2 : Int)) (cond (op == (2 : Int)) (cond (t != (3 : Int)) (some (.ret (.tup [(.int .i64 t), (.int .i64 0)]) [] .plain)) (some (.ret (.tup [(.int .i64 0), (.int .i64 22)]) [] .plain))) (cond (op == (5 : Int)) (cond (t == (1 : Int)) (some (.ret (.tup [(.int .i64 t), (.int .i64 0)]) [] .plain)) (some (.ret (.tup [(.int .i64 0), (.int .i64 22)]) [] .plain))) (cond (op == (6 : Int)) (cond (op == (6 : Int)) (some (.ret (.tup [(.int .i64 3), (.int .i64 0)]) [] .plain)) (cond (op == (12 : Int)) (cond (op == (12 : Int)) (cond (t == (3 : Int)) (some (.ret (.tup [(.int .i64 t), (.int .i64 0)]) [] .plain)) (some (.ret (.tup [(.int .i64 0), (.int .i64 22)]) [] .plain))) (cond (t != (3 : Int)) (some (.ret (.tup [(.int .i64 3), (.int .i64 0)]) [] .plain)) (some (.ret (.tup [(.int .i64 0), (.int .i64 22)]) [] .plain)))) (cond (op == (13 : Int)) (cond (t == (3 : Int)) (some (.ret (.tup [(.int .i64 t), (.int .i64 0)]) [] .plain)) (some (.ret (.tup [(.int .i64 0), (.int .i64 22)]) [] .plain))) (cond (t != (3 : Int)) (some (.ret (.tup [(.int .i64 3), (.int .i64 0)]) [] .plain)) (some (.ret (.tup [(.int .i64 0), (.int .i64 22)]) [] .plain)))))) (cond (op == (7 : Int)) (some (.ret (.tup [(.int .i64 3), (.int .i64 0)]) [] .plain)) (cond (op == (12 : Int)) (cond (op == (12 : Int)) (cond (t == (3 : Int)) (some (.ret (.tup [(.int .i64 t), (.int .i64 0)]) [] .plain)) (some (.ret (.tup [(.int .i64 0), (.int .i64 22)]) [] .plain))) (cond (t != (3 : Int)) (some (.ret (.tup [(.int .i64 3), (.int .i64 0)]) [] .plain)) (some (.ret (.tup [(.int .i64 0), (.int .i64 22)]) [] .plain)))) (cond (op == (13 : Int)) (cond (t == (3 : Int)) (some (.ret (.tup [(.int .i64 t), (.int .i64 0)]) [] .plain)) (some (.ret (.tup [(.int .i64 0), (.int .i64 22)]) [] .plain))) (cond (t != (3 : Int)) (some (.ret (.tup [(.int .i64 3), (.int .i64 0)]) [] .plain)) (some (.ret (.tup [(.int .i64 0), (.int .i64 22)]) [] .plain))))))))) (cond (op == (3 : Int)) (cond (op == (3 : Int)) (cond (t != (3 : Int)) (some (.ret (.tup [(.int .i64 t), (.int .i64 0)]) [] .plain)) (some (.ret (.tup [(.int .i64 0), (.int .i64 22)]) [] .plain))) (cond (op == (5 : Int)) (cond (t == (1 : Int)) (some (.ret (.tup [(.int .i64 t), (.int .i64 0)]) [] .plain)) (some (.ret (.tup [(.int .i64 0), (.int .i64 22)]) [] .plain))) (cond (op == (6 : Int)) (cond (op == (6 : Int)) (some (.ret (.tup [(.int .i64 3), (.int .i64 0)]) [] .plain)) (cond (op == (12 : Int)) (cond (op == (12 : Int)) (cond (t == (3 : Int)) (some (.ret (.tup [(.int .i64 t), (.int .i64 0)]) [] .plain)) (some (.ret (.tup [(.int .i64 0), (.int .i64 22)]) [] .plain))) (cond (t != (3 : Int)) (some (.ret (.tup [(.int .i64 3), (.int .i64 0)]) [] .plain)) (some (.ret (.tup [(.int .i64 0), (.int .i64 22)]) [] .plain)))) (cond (op == (13 : Int)) (cond (t == (3 : Int)) (some (.ret (.tup [(.int .i64 t), (.int .i64 0)]) [] .plain)) (some (.ret (.tup [(.int .i64 0), (.int .i64 22)]) [] .plain))) (cond (t != (3 : Int)) (some (.ret (.tup [(.int .i64 3), (.int .i64 0)]) [] .plain)) (some (.ret (.tup [(.int .i64 0), (.int .i64 22)]) [] .plain)))))) (cond (op == (7 : Int)) (some (.ret (.tup [(.int .i64 3), (.int .i64 0)]) [] .plain)) (cond (op == (12 : Int)) (cond (op == (12 : Int)) (cond (t == (3 : Int)) (some (.ret (.tup [(.int .i64 t), (.int .i64 0)]) [] .plain)) (some (.ret (.tup [(.int .i64 0), (.int .i64 22)]) [] .plain))) (cond (t != (3 : Int)) (some (.ret (.tup [(.int .i64 3), (.int .i64 0)]) [] .plain)) (some (.ret (.tup [(.int .i64 0), (.int .i64 22)]) [] .plain)))) (cond (op == (13 : Int)) (cond (t == (3 : Int)) (some (.ret (.tup [(.int .i64 t), (.int .i64 0)]) [] .plain)) (some (.ret (.tup [(.int .i64 0), (.int .i64 22)]) [] .plain))) (cond (t != (3 : Int)) (some (.ret (.tup [(.int .i64 3), (.int .i64 0)]) [] .plain)) (some (.ret (.tup [(.int .i64 0), (.int .i64 22)]) [] .plain))))))))) (cond (op == (4 : Int)) (cond (t != (3 : Int)) (some (.ret (.tup [(.int .i64 t), (.int .i64 0)]) [] .plain)) (some (.ret (.tup [(.int .i64 0), (.int .i64 22)]) [] .plain))) (cond (op == (5 : Int)) (cond (t == (1 : Int)) (some (.ret (.tup [(.int .i64 t), (.int .i64 0)]) [] .plain)) (some (.ret (.tup [(.int .i64 0), (.int .i64 22)]) [] .plain))) (cond (op == (6 : Int)) (cond (op == (6 : Int)) (some (.ret (.tup [(.int .i64 3), (.int .i64 0)]) [] .plain)) (cond (op == (12 : Int)) (cond (op == (12 : Int)) (cond (t == (3 : Int)) (some (.ret (.tup [(.int .i64 t), (.int .i64 0)]) [] .plain)) (some (.ret (.tup [(.int .i64 0), (.int .i64 22)]) [] .plain))) (cond (t != (3 : Int)) (some (.ret (.tup [(.int .i64 3), (.int .i64 0)]) [] .plain)) (some (.ret (.tup [(.int .i64 0), (.int .i64 22)]) [] .plain)))) (cond (op == (13 : Int)) (cond (t == (3 : Int)) (some (.ret (.tup [(.int .i64 t), (.int .i64 0)]) [] .plain)) (some (.ret (.tup [(.int .i64 0), (.int .i64 22)]) [] .plain))) (cond (t != (3 : Int)) (some (.ret (.tup [(.int .i64 3), (.int .i64 0)]) [] .plain)) (some (.ret (.tup [(.int .i64 0), (.int .i64 22)]) [] .plain)))))) (cond (op == (7 : Int)) (some (.ret (.tup [(.int .i64 3), (.int .i64 0)]) [] .plain)) (cond (op == (12 : Int)) (cond (op == (12 : Int)) (cond (t == (3 : Int)) (some (.ret (.tup [(.int .i64 t), (.int .i64 0)]) [] .plain)) (some (.ret (.tup [(.int .i64 0), (.int .i64 22)]) [] .plain))) (cond (t != (3 : Int)) (some (.ret (.tup [(.int .i64 3), (.int .i64 0)]) [] .plain)) (some (.ret (.tup [(.int .i64 0), (.int .i64 22)]) [] .plain)))) (cond (op == (13 : Int)) (cond (t == (3 : Int)) (some (.ret (.tup [(.int .i64 t), (.int .i64 0)]) [] .plain)) (some (.ret (.tup [(.int .i64 0), (.int .i64 22)]) [] .plain))) (cond (t != (3 : Int)) (some (.ret (.tup [(.int .i64 3), (.int .i64 0)]) [] .plain)) (some (.ret (.tup [(.int .i64 0), (.int .i64 22)]) [] .plain))))))))))))) (some (.ret (.tup [(.int .i64 0), (.int .i64 22)]) [] .plain)))) := by kernel_rfl
theorem z4 (loops : LoopK) (op t a n : Int) : bodyL Tryz.prog polZ (uBad 11 [.int .i64 op, .int .i64 t] n) loops 4 [.int .i64 op, .agg [.int .i64 t, .int .u64 a]] [] .plain =
  (chk (Eq (α := List AV) [(.int .i64 op), (.int .i64 t)] [(.int .i64 op), (.int .i64 t)] ∧ Eq (α := List Den.Obj) [] [] ∧ Eq (α := PS) .plain .plain) (cond (((n != (0 : Int)) == (false))) none (some (.ret (.tup [(.agg [(.int .i64 0), (.int .u64 0)]), (.int .i64 (-1))]) [] .plain)))) := by kernel_rfl
theorem z5 (loops : LoopK) (op t a n : Int) : bodyL Tryz.prog polZ (uBad 20 [.int .i64 op, .int .i64 t] n) loops 5 [.int .i64 op, .agg [.int .i64 t, .int .u64 a]] [] .plain =
  (chk (Eq (α := List AV) [(.int .i64 op), (.int .i64 t)] [(.int .i64 op), (.int .i64 t)] ∧ Eq (α := List Den.Obj) [] [] ∧ Eq (α := PS) .plain .plain) (cond (((n != (0 : Int)) == (false))) none (some (.ret (.tup [(.agg [(.int .i64 0), (.int .u64 0)]), (.int .i64 (-1))]) [] .plain)))) := by kernel_rfl
theorem z6 (loops : LoopK) (op t a q b n : Int) : bodyL Tryz.prog polZ (uBad 30 [.int .i64 op, .int .i64 t, .int .i64 q] n) loops 6 [.int .i64 op, .agg [.int .i64 t, .int .u64 a], .agg [.int .i64 q, .int .u64 b]] [] .plain =
  (chk (Eq (α := List AV) [(.int .i64 op), (.int .i64 t), (.int .i64 q)] [(.int .i64 op), (.int .i64 t), (.int .i64 q)] ∧ Eq (α := List Den.Obj) [] [] ∧ Eq (α := PS) .plain .plain) (cond (((n != (0 : Int)) == (false))) none (some (.ret (.tup [(.agg [(.int .i64 0), (.int .u64 0)]), (.int .i64 (-1))]) [] .plain)))) := by kernel_rfl
theorem z7 (loops : LoopK) (op t a q b n : Int) : bodyL Tryz.prog polZ (uBad 33 [.int .i64 op, .int .i64 t, .int .i64 q] n) loops 7 [.int .i64 op, .agg [.int .i64 t, .int .u64 a], .agg [.int .i64 q, .int .u64 b]] [] .plain =
  (chk (Eq (α := List AV) [(.int .i64 op), (.int .i64 t), (.int .i64 q)] [(.int .i64 op), (.int .i64 t), (.int .i64 q)] ∧ Eq (α := List Den.Obj) [] [] ∧ Eq (α := PS) .plain .plain) (cond (((n != (0 : Int)) == (false))) none (some (.ret (.tup [(.agg [(.int .i64 0), (.int .u64 0)]), (.int .i64 (-1))]) [] .plain)))) := by kernel_rfl
noncomputable def gF (f : FuncId) (args : List AV) : Int × Int × Int := match dZ f args [] .plain with
  | some (.ret (.tup [.agg [.int _ t, .int _ b], .int _ c]) _ _) => (t, b, c)
  | _ => (0, 0, 0)
def trA (v : Int × Int × Int) : AV := .tup [vl v.1 v.2.1, .int .i64 v.2.2]
noncomputable def eF (t : Int) : Int := cond (t == 0) 0 (cond (t == 1) 80 (cond (t == 2) 81 (cond (t == 3) 82 22)))
noncomputable def u3 (op t a q b tr : Int) : CallK := fun f args h ps K => match f with
  | 4 => chk (args = [.int .i64 op, vl t a] ∧ h = [] ∧ ps = .plain) (K (.ret (trA (gF 4 [.int .i64 op, vl t a])) [] .plain))
  | 5 => chk (args = [.int .i64 op, vl t a] ∧ h = [] ∧ ps = .plain) (K (.ret (trA (gF 4 [.int .i64 op, vl t a])) [] .plain))
  | 6 => chk (args = [.int .i64 op, vl t a, vl q b] ∧ h = [] ∧ ps = .plain) (K (.ret (trA (gF 6 [.int .i64 op, vl t a, vl q b])) [] .plain))
  | 7 => chk (args = [.int .i64 op, vl t a, vl q b] ∧ h = [] ∧ ps = .plain) (K (.ret (trA (gF 6 [.int .i64 op, vl t a, vl q b])) [] .plain))
  | 8 => chk (args = [.int .i64 tr] ∧ h = [] ∧ ps = .plain) (K (.ret (.int .i64 (eF tr)) [] .plain))
  | 9 => chk (args = [.int .i64 tr] ∧ h = [] ∧ ps = .plain) (K (.ret (.int .i64 (eF tr)) [] .plain))
  | 10 => chk (args = [] ∧ h = [] ∧ ps = .plain) (K (.ret (.bool true) [] .plain))
  | _ => none
theorem b_3 (loops : LoopK) (op t a q b tr : Int) : bodyL Tryz.prog polZ (u3 op t a q b tr) loops 3 [.int .i64 op, vl t a, vl q b, .int .i64 tr] [] .plain =
  (chk (Eq (α := List AV) [(.int .i64 op), (.agg [(.int .i64 t), (.int .u64 a)])] [(.int .i64 op), (.agg [(.int .i64 t), (.int .u64 a)])] ∧ Eq (α := List Den.Obj) [] [] ∧ Eq (α := PS) .plain .plain) (chk (Eq (α := List AV) [(.int .i64 op), (.agg [(.int .i64 t), (.int .u64 a)])] [(.int .i64 op), (.agg [(.int .i64 t), (.int .u64 a)])] ∧ Eq (α := List Den.Obj) [] [] ∧ Eq (α := PS) .plain .plain) (chk (Eq (α := List AV) [(.int .i64 op), (.agg [(.int .i64 t), (.int .u64 a)]), (.agg [(.int .i64 q), (.int .u64 b)])] [(.int .i64 op), (.agg [(.int .i64 t), (.int .u64 a)]), (.agg [(.int .i64 q), (.int .u64 b)])] ∧ Eq (α := List Den.Obj) [] [] ∧ Eq (α := PS) .plain .plain) (chk (Eq (α := List AV) [(.int .i64 op), (.agg [(.int .i64 t), (.int .u64 a)]), (.agg [(.int .i64 q), (.int .u64 b)])] [(.int .i64 op), (.agg [(.int .i64 t), (.int .u64 a)]), (.agg [(.int .i64 q), (.int .u64 b)])] ∧ Eq (α := List Den.Obj) [] [] ∧ Eq (α := PS) .plain .plain) (cond (((cond (cond (cond ((((gF (4 : FuncId) [AV.int IntKind.i64 op, vl t a]).fst == (gF (4 : FuncId) [AV.int IntKind.i64 op, vl t a]).fst) && ((((gF (4 : FuncId) [AV.int IntKind.i64 op, vl t a]).snd.fst == (gF (4 : FuncId) [AV.int IntKind.i64 op, vl t a]).snd.fst) && (true))))) ((gF (4 : FuncId) [AV.int IntKind.i64 op, vl t a]).snd.snd == (gF (4 : FuncId) [AV.int IntKind.i64 op, vl t a]).snd.snd) (false)) ((((gF (6 : FuncId) [AV.int IntKind.i64 op, vl t a, vl q b]).fst == (gF (6 : FuncId) [AV.int IntKind.i64 op, vl t a, vl q b]).fst) && ((((gF (6 : FuncId) [AV.int IntKind.i64 op, vl t a, vl q b]).snd.fst == (gF (6 : FuncId) [AV.int IntKind.i64 op, vl t a, vl q b]).snd.fst) && (true))))) (false)) ((gF (6 : FuncId) [AV.int IntKind.i64 op, vl t a, vl q b]).snd.snd == (gF (6 : FuncId) [AV.int IntKind.i64 op, vl t a, vl q b]).snd.snd) (false)) == (true))) (chk (Eq (α := List AV) [(.int .i64 tr)] [(.int .i64 tr)] ∧ Eq (α := List Den.Obj) [] [] ∧ Eq (α := PS) .plain .plain) (chk (Eq (α := List AV) [(.int .i64 tr)] [(.int .i64 tr)] ∧ Eq (α := List Den.Obj) [] [] ∧ Eq (α := PS) .plain .plain) (cond (((cond (true) (eF tr == eF tr) (false)) == (true))) (chk (Eq (α := List AV) [] [] ∧ Eq (α := List Den.Obj) [] [] ∧ Eq (α := PS) .plain .plain) (some (.ret (.bool true) [] .plain))) (some (.ret (.bool false) [] .plain))))) (some (.ret (.bool false) [] .plain))))))) := by kernel_rfl
end Go.Proofs

/- FoldOperators: the program's operators and the document's. -/
namespace Go.Proofs
open Go Go.Den
set_option maxRecDepth 100000
/-- two answers that are one, and a value with a trap -/
def Alike (x y : R) : Prop := ∃ t b c, x = some (.ret (.tup [vl t b, .int .i64 c]) [] .plain) ∧ y = some (.ret (.tup [vl t b, .int .i64 c]) [] .plain)
theorem Alike.cond {b : Bool} {x1 x2 y1 y2 : R} (h1 : b = true → Alike x1 y1) (h2 : b = false → Alike x2 y2) : Alike (_root_.cond b x1 x2) (_root_.cond b y1 y2) := by
  cases b with
  | true => exact h1 rfl
  | false => exact h2 rfl
theorem Alike.chk {p : Prop} {x y : R} (hp : p) (h : Alike x y) : Alike x (chk p y) := by rw [chk_pos hp]; exact h
theorem Alike.some (t b c : Int) : Alike (Option.some (.ret (.tup [vl t b, .int .i64 c]) [] .plain)) (Option.some (.ret (.tup [vl t b, .int .i64 c]) [] .plain)) := ⟨t, b, c, rfl, rfl⟩
theorem alikeZ {f g : FuncId} {args : List AV} (hf : extZ f = none) (hg : extZ g = none) (kf : keysOK (loopsOf (bodyOf Tryz.prog f)) = true) (kg : keysOK (loopsOf (bodyOf Tryz.prog g)) = true)
    (h : ∀ loops loops', Alike (bodyL Tryz.prog polZ uT loops f args [] .plain) (bodyL Tryz.prog polZ uT loops' g args [] .plain)) : Alike (dZ f args [] .plain) (dZ g args [] .plain) := by
  obtain ⟨t, b, c, h1, h2⟩ := h (lpR Tryz.prog polZ dZ 0 f (loopsOf (bodyOf Tryz.prog f))) (lpR Tryz.prog polZ dZ 0 g (loopsOf (bodyOf Tryz.prog g)))
  exact ⟨t, b, c, denA_of_loops 0 uT_le hf kf h1, denA_of_loops 0 uT_le hg kg h2⟩
theorem wi_u {a : Int} (ha : U64 a) : IntKind.i64.wrap a = if a ≥ 9223372036854775808 then a - 18446744073709551616 else a := by
  rw [wi_eq]; unfold U64 at ha; split <;> split <;> omega
theorem weq {a b : Int} (ha : U64 a) (hb : U64 b) : (IntKind.i64.wrap a == IntKind.i64.wrap b) = (a == b) := by
  have h1 := wi_u ha
  have h2 := wi_u hb
  rw [Bool.eq_iff_iff]
  simp only [beq_iff_eq]
  unfold U64 at ha hb
  generalize IntKind.i64.wrap a = x at *
  generalize IntKind.i64.wrap b = y at *
  split at h1 <;> split at h2 <;> omega
theorem lt2 (a : Int) : decide (a < 2) = decide (a ≤ 1) := by rw [decide_eq_decide]; omega
theorem two {a : Int} (ha : U64 a) (h : decide (a ≤ 1) = true) : a = 0 ∨ a = 1 := by
  have := of_decide_eq_true h
  unfold U64 at ha
  omega
theorem u4_le (f : FuncId) (xs : List AV) (n : Int) (h : dZ f xs [] .plain = some (.ret (.tup [.int .i64 0, .int .i64 n]) [] .plain)) : CallLeK (uBad f xs n) dZ := by
  intro g args hh ps kk o e
  unfold uBad at e
  cases hg : g == f with
  | true =>
    rw [hg] at e
    have : g = f := by simpa using hg
    subst this
    obtain ⟨⟨rfl, rfl, rfl⟩, e'⟩ := chk_some e
    exact ⟨_, e', h⟩
  | false => rw [hg] at e; cases e
theorem u39_le : CallLeK u39 dZ := by
  intro f args h ps kk o e
  unfold u39 at e
  split at e
  · rename_i t
    obtain ⟨h1, e⟩ := chk_some e
    refine ⟨_, e, valZ noCall_le rfl (by kernel_rfl) fun loops => ?_⟩
    have : bodyL Tryz.prog polZ noCall loops 39 [.int .i64 t] [] .plain = some (.ret (.bool (cond (decide (t ≥ 1)) (decide (t ≤ 3)) false)) [] .plain) := by kernel_rfl
    rw [this]
    have : cond (decide (t ≥ 1)) (decide (t ≤ 3)) false = false := by
      by_cases h2 : t ≥ 1
      · rw [decide_eq_true h2, cond_true]; exact decide_eq_false (by omega)
      · rw [decide_eq_false h2]; rfl
    rw [this]
    exact Tot.some rfl
  · cases e
theorem i30_le : CallLeK (inlK Tryz.prog polZ (fun f => f == 39) noCall 1) dZ := inlK_le noCall_le (fun f hf => by have hf : (f == 39) = true := hf; simp only [beq_iff_eq] at hf; subst hf; rfl) 1
theorem i33_le : CallLeK (inlK Tryz.prog polZ (fun f => f == 62) noCall 1) dZ := inlK_le noCall_le (fun f hf => by have hf : (f == 62) = true := hf; simp only [beq_iff_eq] at hf; subst hf; rfl) 1
theorem rng {op m : Int} (h : 1 ≤ op ∧ op ≤ m) : cond (decide (op < 1)) true (decide (op > m)) = false := by
  rw [decide_eq_false (by omega), cond_false]; exact decide_eq_false (by omega)
theorem rngN {op m : Int} (h : ¬ (1 ≤ op ∧ op ≤ m)) : cond (decide (op < 1)) true (decide (op > m)) = true := by
  by_cases h1 : op < 1
  · rw [decide_eq_true h1]; rfl
  · rw [decide_eq_false h1, cond_false]; exact decide_eq_true (by omega)
theorem val3 {t : Int} (h : ¬ (1 ≤ t ∧ t ≤ 3)) : cond (decide (t ≥ 1)) (decide (t ≤ 3)) false = false := by
  by_cases h2 : t ≥ 1
  · rw [decide_eq_true h2, cond_true]; exact decide_eq_false (by omega)
  · rw [decide_eq_false h2]; rfl
theorem bad11 {op t : Int} (h : ¬ (1 ≤ op ∧ op ≤ 4) ∨ ¬ (1 ≤ t ∧ t ≤ 3)) : ∃ n, n ≠ 0 ∧ dZ 11 [.int .i64 op, .int .i64 t] [] .plain = some (.ret (.tup [.int .i64 0, .int .i64 n]) [] .plain) := by
  by_cases h1 : 1 ≤ op ∧ op ≤ 4
  · refine ⟨22, by decide, valZ u39_le rfl (by kernel_rfl) fun loops => ?_⟩
    rw [b_11, rng h1, cond_false]
    exact Tot.chk (by rcases h with h | h <;> first | exact absurd h1 h | exact h) (Tot.some rfl)
  · refine ⟨1, by decide, valZ u39_le rfl (by kernel_rfl) fun loops => ?_⟩
    rw [b_11, rngN h1]
    exact Tot.some rfl
theorem ne_b {a n : Int} (h : a ≠ n) : (a == n) = false := by rw [beq_eq_false_iff_ne]; exact h
theorem bad20 {op t : Int} (h : ¬ (1 ≤ op ∧ op ≤ 4) ∨ ¬ (1 ≤ t ∧ t ≤ 3)) : ∃ n, n ≠ 0 ∧ dZ 20 [.int .i64 op, .int .i64 t] [] .plain = some (.ret (.tup [.int .i64 0, .int .i64 n]) [] .plain) := by
  by_cases h1 : 1 ≤ op ∧ op ≤ 4
  · have ht : ¬ (1 ≤ t ∧ t ≤ 3) := by rcases h with h | h <;> first | exact absurd h1 h | exact h
    refine ⟨22, by decide, valZ noCall_le rfl (by kernel_rfl) fun loops => ?_⟩
    rw [b_20, ne_b (a := t) (n := 1) (by omega), ne_b (a := t) (n := 2) (by omega), ne_b (a := t) (n := 3) (by omega)]
    have : op = 1 ∨ op = 2 ∨ op = 3 ∨ op = 4 := by omega
    rcases this with rfl | rfl | rfl | rfl <;> exact Tot.some rfl
  · refine ⟨1, by decide, valZ noCall_le rfl (by kernel_rfl) fun loops => ?_⟩
    rw [b_20, ne_b (a := op) (n := 1) (by omega), ne_b (a := op) (n := 2) (by omega), ne_b (a := op) (n := 3) (by omega), ne_b (a := op) (n := 4) (by omega)]
    exact Tot.some rfl
theorem bad30 {op t q : Int} (h : ¬ (1 ≤ op ∧ op ≤ 13) ∨ t ≠ q ∨ ¬ (1 ≤ t ∧ t ≤ 3)) : ∃ n, n ≠ 0 ∧ dZ 30 [.int .i64 op, .int .i64 t, .int .i64 q] [] .plain = some (.ret (.tup [.int .i64 0, .int .i64 n]) [] .plain) := by
  by_cases h1 : 1 ≤ op ∧ op ≤ 13
  · refine ⟨22, by decide, valZ i30_le rfl (by kernel_rfl) fun loops => ?_⟩
    rw [b_30, rng h1, cond_false]
    by_cases h2 : t = q
    · have ht : ¬ (1 ≤ t ∧ t ≤ 3) := by rcases h with h | h | h <;> first | exact absurd h1 h | exact absurd h2 h | exact h
      have e : ((t != q) == false) = true := by rw [h2]; simp
      rw [e, cond_true, val3 ht]
      exact Tot.some rfl
    · have e : ((t != q) == false) = false := by rw [bne, ne_b h2]; rfl
      rw [e]
      exact Tot.some rfl
  · refine ⟨1, by decide, valZ i30_le rfl (by kernel_rfl) fun loops => ?_⟩
    rw [b_30, rngN h1]
    exact Tot.some rfl
theorem bad33 {op t q : Int} (h : ¬ (1 ≤ op ∧ op ≤ 13) ∨ t ≠ q ∨ ¬ (1 ≤ t ∧ t ≤ 3)) : ∃ n, n ≠ 0 ∧ dZ 33 [.int .i64 op, .int .i64 t, .int .i64 q] [] .plain = some (.ret (.tup [.int .i64 0, .int .i64 n]) [] .plain) := by
  by_cases h1 : 1 ≤ op ∧ op ≤ 13
  · refine ⟨22, by decide, valZ i33_le rfl (by kernel_rfl) fun loops => ?_⟩
    rw [b_33, rng h1, cond_false]
    by_cases h2 : t = q
    · have ht : ¬ (1 ≤ t ∧ t ≤ 3) := by rcases h with h | h | h <;> first | exact absurd h1 h | exact absurd h2 h | exact h
      have e : ((t != q) == false) = true := by rw [h2]; simp
      rw [e, cond_true, ne_b (a := t) (n := 1) (by omega), ne_b (a := t) (n := 2) (by omega), ne_b (a := t) (n := 3) (by omega)]
      exact Tot.some rfl
    · have e : ((t != q) == false) = false := by rw [bne, ne_b h2]; rfl
      rw [e]
      exact Tot.some rfl
  · refine ⟨1, by decide, valZ i33_le rfl (by kernel_rfl) fun loops => ?_⟩
    rw [b_33, rngN h1]
    exact Tot.some rfl
theorem nz {n : Int} (h : n ≠ 0) : ((n != 0) == false) = false := by rw [bne, ne_b h]; rfl
theorem bad_un {op t a : Int} (h : ¬ (1 ≤ op ∧ op ≤ 4) ∨ ¬ (1 ≤ t ∧ t ≤ 3)) : Alike (dZ 4 [.int .i64 op, vl t a] [] .plain) (dZ 5 [.int .i64 op, vl t a] [] .plain) := by
  obtain ⟨n, hn, e1⟩ := bad11 h
  obtain ⟨m, hm, e2⟩ := bad20 h
  refine ⟨0, 0, -1, valZ (u4_le 11 _ n e1) rfl (by kernel_rfl) fun loops => ?_, valZ (u4_le 20 _ m e2) rfl (by kernel_rfl) fun loops => ?_⟩
  · rw [vl, z4, nz hn]
    exact Tot.chk ⟨rfl, rfl, rfl⟩ (Tot.some rfl)
  · rw [vl, z5, nz hm]
    exact Tot.chk ⟨rfl, rfl, rfl⟩ (Tot.some rfl)
theorem bad_bin {op t a q b : Int} (h : ¬ (1 ≤ op ∧ op ≤ 13) ∨ t ≠ q ∨ ¬ (1 ≤ t ∧ t ≤ 3)) : Alike (dZ 6 [.int .i64 op, vl t a, vl q b] [] .plain) (dZ 7 [.int .i64 op, vl t a, vl q b] [] .plain) := by
  obtain ⟨n, hn, e1⟩ := bad30 h
  obtain ⟨m, hm, e2⟩ := bad33 h
  refine ⟨0, 0, -1, valZ (u4_le 30 _ n e1) rfl (by kernel_rfl) fun loops => ?_, valZ (u4_le 33 _ m e2) rfl (by kernel_rfl) fun loops => ?_⟩
  · rw [vl, vl, z6, nz hn]
    exact Tot.chk ⟨rfl, rfl, rfl⟩ (Tot.some rfl)
  · rw [vl, vl, z7, nz hm]
    exact Tot.chk ⟨rfl, rfl, rfl⟩ (Tot.some rfl)
theorem un11 {a : Int} (ha : U64 a) : Alike (dZ 4 [.int .i64 1, vl 1 a] [] .plain) (dZ 5 [.int .i64 1, vl 1 a] [] .plain) :=
  alikeZ rfl rfl (by kernel_rfl) (by kernel_rfl) fun loops loops' => by
    rw [u11, w11]
    rw [chk_pos (i64_wrap _), chk_pos (i64_wrap _)]
    generalize decide (I64 (-IntKind.i64.wrap a)) = d
    cases d <;> exact ⟨_, _, _, rfl, rfl⟩
theorem un12 {a : Int} (ha : U64 a) : Alike (dZ 4 [.int .i64 1, vl 2 a] [] .plain) (dZ 5 [.int .i64 1, vl 2 a] [] .plain) :=
  alikeZ rfl rfl (by kernel_rfl) (by kernel_rfl) fun loops loops' => by
    rw [u12, w12]
    try rw [chk_pos ha]
    repeat' first
      | exact Alike.some _ _ _
      | (with_reducible refine Alike.chk (by first | exact ha | exact u64_wrap _) ?_)
      | (with_reducible refine Alike.cond (fun _ => ?_) fun _ => ?_)
theorem un13 {a : Int} (ha : U64 a) : Alike (dZ 4 [.int .i64 1, vl 3 a] [] .plain) (dZ 5 [.int .i64 1, vl 3 a] [] .plain) :=
  alikeZ rfl rfl (by kernel_rfl) (by kernel_rfl) fun loops loops' => by
    rw [u13, w13]
    try rw [lt2]
    repeat' first
      | exact Alike.some _ _ _
      | (with_reducible refine Alike.chk (by first | exact ha | exact u64_wrap _) ?_)
      | (with_reducible refine Alike.cond (fun _ => ?_) fun _ => ?_)
theorem un21 {a : Int} (ha : U64 a) : Alike (dZ 4 [.int .i64 2, vl 1 a] [] .plain) (dZ 5 [.int .i64 2, vl 1 a] [] .plain) :=
  alikeZ rfl rfl (by kernel_rfl) (by kernel_rfl) fun loops loops' => by
    rw [u21, w21]
    repeat' first
      | exact Alike.some _ _ _
      | (with_reducible refine Alike.chk (by first | exact ha | exact u64_wrap _) ?_)
      | (with_reducible refine Alike.cond (fun _ => ?_) fun _ => ?_)
theorem un22 {a : Int} (ha : U64 a) : Alike (dZ 4 [.int .i64 2, vl 2 a] [] .plain) (dZ 5 [.int .i64 2, vl 2 a] [] .plain) :=
  alikeZ rfl rfl (by kernel_rfl) (by kernel_rfl) fun loops loops' => by
    rw [u22, w22]
    try rw [chk_pos ha]
    repeat' first
      | exact Alike.some _ _ _
      | (with_reducible refine Alike.chk (by first | exact ha | exact u64_wrap _) ?_)
      | (with_reducible refine Alike.cond (fun _ => ?_) fun _ => ?_)
theorem un23 {a : Int} (ha : U64 a) : Alike (dZ 4 [.int .i64 2, vl 3 a] [] .plain) (dZ 5 [.int .i64 2, vl 3 a] [] .plain) :=
  alikeZ rfl rfl (by kernel_rfl) (by kernel_rfl) fun loops loops' => by
    rw [u23, w23]
    try rw [lt2]
    repeat' first
      | exact Alike.some _ _ _
      | (with_reducible refine Alike.chk (by first | exact ha | exact u64_wrap _) ?_)
      | (with_reducible refine Alike.cond (fun _ => ?_) fun _ => ?_)
theorem un31 {a : Int} (ha : U64 a) : Alike (dZ 4 [.int .i64 3, vl 1 a] [] .plain) (dZ 5 [.int .i64 3, vl 1 a] [] .plain) :=
  alikeZ rfl rfl (by kernel_rfl) (by kernel_rfl) fun loops loops' => by
    rw [u31, w31]
    repeat' first
      | exact Alike.some _ _ _
      | (with_reducible refine Alike.chk (by first | exact ha | exact u64_wrap _) ?_)
      | (with_reducible refine Alike.cond (fun _ => ?_) fun _ => ?_)
theorem un32 {a : Int} (ha : U64 a) : Alike (dZ 4 [.int .i64 3, vl 2 a] [] .plain) (dZ 5 [.int .i64 3, vl 2 a] [] .plain) :=
  alikeZ rfl rfl (by kernel_rfl) (by kernel_rfl) fun loops loops' => by
    rw [u32, w32]
    rw [chk_pos ha, chk_pos ha]
    refine Alike.cond (fun _ => Alike.some _ _ _) fun _ => ?_
    cases toI a <;> exact ⟨_, _, _, rfl, rfl⟩
theorem un33 {a : Int} (ha : U64 a) : Alike (dZ 4 [.int .i64 3, vl 3 a] [] .plain) (dZ 5 [.int .i64 3, vl 3 a] [] .plain) :=
  alikeZ rfl rfl (by kernel_rfl) (by kernel_rfl) fun loops loops' => by
    rw [u33, w33]
    try rw [lt2]
    repeat' first
      | exact Alike.some _ _ _
      | (with_reducible refine Alike.chk (by first | exact ha | exact u64_wrap _) ?_)
      | (with_reducible refine Alike.cond (fun _ => ?_) fun _ => ?_)
theorem un41 {a : Int} (ha : U64 a) : Alike (dZ 4 [.int .i64 4, vl 1 a] [] .plain) (dZ 5 [.int .i64 4, vl 1 a] [] .plain) :=
  alikeZ rfl rfl (by kernel_rfl) (by kernel_rfl) fun loops loops' => by
    rw [u41, w41]
    repeat' first
      | exact Alike.some _ _ _
      | (with_reducible refine Alike.chk (by first | exact ha | exact u64_wrap _) ?_)
      | (with_reducible refine Alike.cond (fun _ => ?_) fun _ => ?_)
theorem un42 {a : Int} (ha : U64 a) : Alike (dZ 4 [.int .i64 4, vl 2 a] [] .plain) (dZ 5 [.int .i64 4, vl 2 a] [] .plain) :=
  alikeZ rfl rfl (by kernel_rfl) (by kernel_rfl) fun loops loops' => by
    rw [u42, w42]
    try rw [chk_pos ha]
    repeat' first
      | exact Alike.some _ _ _
      | (with_reducible refine Alike.chk (by first | exact ha | exact u64_wrap _) ?_)
      | (with_reducible refine Alike.cond (fun _ => ?_) fun _ => ?_)
theorem un43 {a : Int} (ha : U64 a) : Alike (dZ 4 [.int .i64 4, vl 3 a] [] .plain) (dZ 5 [.int .i64 4, vl 3 a] [] .plain) :=
  alikeZ rfl rfl (by kernel_rfl) (by kernel_rfl) fun loops loops' => by
    rw [u43, w43]
    try rw [lt2]
    repeat' first
      | exact Alike.some _ _ _
      | (with_reducible refine Alike.chk (by first | exact ha | exact u64_wrap _) ?_)
      | (with_reducible refine Alike.cond (fun _ => ?_) fun _ => ?_)
theorem bi1_1 {a b : Int} (ha : U64 a) (hb : U64 b) : Alike (dZ 6 [.int .i64 1, vl 1 a, vl 1 b] [] .plain) (dZ 7 [.int .i64 1, vl 1 a, vl 1 b] [] .plain) :=
  alikeZ rfl rfl (by kernel_rfl) (by kernel_rfl) fun loops loops' => by
    rw [x1_1, y1_1]
    rw [chk_pos ⟨i64_wrap _, i64_wrap _⟩, chk_pos ⟨i64_wrap _, i64_wrap _⟩]
    generalize decide (I64 (IntKind.i64.wrap a + IntKind.i64.wrap b)) = d
    cases d <;> exact ⟨_, _, _, rfl, rfl⟩
theorem bi1_2 {a b : Int} (ha : U64 a) (hb : U64 b) : Alike (dZ 6 [.int .i64 1, vl 2 a, vl 2 b] [] .plain) (dZ 7 [.int .i64 1, vl 2 a, vl 2 b] [] .plain) :=
  alikeZ rfl rfl (by kernel_rfl) (by kernel_rfl) fun loops loops' => by
    rw [x1_2, y1_2]
    repeat' first
      | exact Alike.some _ _ _
      | (with_reducible refine Alike.chk (by first | exact ha | exact hb | exact ⟨ha, hb⟩ | exact ⟨hb, ha⟩ | exact u64_wrap _) ?_)
      | (with_reducible refine Alike.cond (fun _ => ?_) fun _ => ?_)
theorem bi1_3 {a b : Int} (ha : U64 a) (hb : U64 b) : Alike (dZ 6 [.int .i64 1, vl 3 a, vl 3 b] [] .plain) (dZ 7 [.int .i64 1, vl 3 a, vl 3 b] [] .plain) :=
  alikeZ rfl rfl (by kernel_rfl) (by kernel_rfl) fun loops loops' => by
    rw [x1_3, y1_3]
    repeat' first
      | exact Alike.some _ _ _
      | (with_reducible refine Alike.chk (by first | exact ha | exact hb | exact ⟨ha, hb⟩ | exact ⟨hb, ha⟩ | exact u64_wrap _) ?_)
      | (with_reducible refine Alike.cond (fun _ => ?_) fun _ => ?_)
theorem bi2_1 {a b : Int} (ha : U64 a) (hb : U64 b) : Alike (dZ 6 [.int .i64 2, vl 1 a, vl 1 b] [] .plain) (dZ 7 [.int .i64 2, vl 1 a, vl 1 b] [] .plain) :=
  alikeZ rfl rfl (by kernel_rfl) (by kernel_rfl) fun loops loops' => by
    rw [x2_1, y2_1]
    rw [chk_pos ⟨i64_wrap _, i64_wrap _⟩, chk_pos ⟨i64_wrap _, i64_wrap _⟩]
    generalize decide (I64 (IntKind.i64.wrap a - IntKind.i64.wrap b)) = d
    cases d <;> exact ⟨_, _, _, rfl, rfl⟩
theorem bi2_2 {a b : Int} (ha : U64 a) (hb : U64 b) : Alike (dZ 6 [.int .i64 2, vl 2 a, vl 2 b] [] .plain) (dZ 7 [.int .i64 2, vl 2 a, vl 2 b] [] .plain) :=
  alikeZ rfl rfl (by kernel_rfl) (by kernel_rfl) fun loops loops' => by
    rw [x2_2, y2_2]
    repeat' first
      | exact Alike.some _ _ _
      | (with_reducible refine Alike.chk (by first | exact ha | exact hb | exact ⟨ha, hb⟩ | exact ⟨hb, ha⟩ | exact u64_wrap _) ?_)
      | (with_reducible refine Alike.cond (fun _ => ?_) fun _ => ?_)
theorem bi2_3 {a b : Int} (ha : U64 a) (hb : U64 b) : Alike (dZ 6 [.int .i64 2, vl 3 a, vl 3 b] [] .plain) (dZ 7 [.int .i64 2, vl 3 a, vl 3 b] [] .plain) :=
  alikeZ rfl rfl (by kernel_rfl) (by kernel_rfl) fun loops loops' => by
    rw [x2_3, y2_3]
    repeat' first
      | exact Alike.some _ _ _
      | (with_reducible refine Alike.chk (by first | exact ha | exact hb | exact ⟨ha, hb⟩ | exact ⟨hb, ha⟩ | exact u64_wrap _) ?_)
      | (with_reducible refine Alike.cond (fun _ => ?_) fun _ => ?_)
theorem bi3_1 {a b : Int} (ha : U64 a) (hb : U64 b) : Alike (dZ 6 [.int .i64 3, vl 1 a, vl 1 b] [] .plain) (dZ 7 [.int .i64 3, vl 1 a, vl 1 b] [] .plain) :=
  alikeZ rfl rfl (by kernel_rfl) (by kernel_rfl) fun loops loops' => by
    rw [x3_1, y3_1]
    rw [chk_pos ⟨i64_wrap _, i64_wrap _⟩, chk_pos ⟨i64_wrap _, i64_wrap _⟩]
    generalize decide (I64 (IntKind.i64.wrap a * IntKind.i64.wrap b)) = d
    cases d <;> exact ⟨_, _, _, rfl, rfl⟩
theorem bi3_2 {a b : Int} (ha : U64 a) (hb : U64 b) : Alike (dZ 6 [.int .i64 3, vl 2 a, vl 2 b] [] .plain) (dZ 7 [.int .i64 3, vl 2 a, vl 2 b] [] .plain) :=
  alikeZ rfl rfl (by kernel_rfl) (by kernel_rfl) fun loops loops' => by
    rw [x3_2, y3_2]
    repeat' first
      | exact Alike.some _ _ _
      | (with_reducible refine Alike.chk (by first | exact ha | exact hb | exact ⟨ha, hb⟩ | exact ⟨hb, ha⟩ | exact u64_wrap _) ?_)
      | (with_reducible refine Alike.cond (fun _ => ?_) fun _ => ?_)
theorem bi3_3 {a b : Int} (ha : U64 a) (hb : U64 b) : Alike (dZ 6 [.int .i64 3, vl 3 a, vl 3 b] [] .plain) (dZ 7 [.int .i64 3, vl 3 a, vl 3 b] [] .plain) :=
  alikeZ rfl rfl (by kernel_rfl) (by kernel_rfl) fun loops loops' => by
    rw [x3_3, y3_3]
    repeat' first
      | exact Alike.some _ _ _
      | (with_reducible refine Alike.chk (by first | exact ha | exact hb | exact ⟨ha, hb⟩ | exact ⟨hb, ha⟩ | exact u64_wrap _) ?_)
      | (with_reducible refine Alike.cond (fun _ => ?_) fun _ => ?_)
theorem bi4_1 {a b : Int} (ha : U64 a) (hb : U64 b) : Alike (dZ 6 [.int .i64 4, vl 1 a, vl 1 b] [] .plain) (dZ 7 [.int .i64 4, vl 1 a, vl 1 b] [] .plain) :=
  alikeZ rfl rfl (by kernel_rfl) (by kernel_rfl) fun loops loops' => by
    rw [x4_1, y4_1]
    rw [chk_pos ⟨i64_wrap _, i64_wrap _⟩, chk_pos ⟨i64_wrap _, i64_wrap _⟩]
    refine Alike.cond (fun _ => Alike.some _ _ _) fun _ => ?_
    generalize decide (I64 ((IntKind.i64.wrap a).tdiv (IntKind.i64.wrap b))) = d
    cases d <;> exact ⟨_, _, _, rfl, rfl⟩
theorem bi4_2 {a b : Int} (ha : U64 a) (hb : U64 b) : Alike (dZ 6 [.int .i64 4, vl 2 a, vl 2 b] [] .plain) (dZ 7 [.int .i64 4, vl 2 a, vl 2 b] [] .plain) :=
  alikeZ rfl rfl (by kernel_rfl) (by kernel_rfl) fun loops loops' => by
    rw [x4_2, y4_2]
    repeat' first
      | exact Alike.some _ _ _
      | (with_reducible refine Alike.chk (by first | exact ha | exact hb | exact ⟨ha, hb⟩ | exact ⟨hb, ha⟩ | exact u64_wrap _) ?_)
      | (with_reducible refine Alike.cond (fun _ => ?_) fun _ => ?_)
theorem bi4_3 {a b : Int} (ha : U64 a) (hb : U64 b) : Alike (dZ 6 [.int .i64 4, vl 3 a, vl 3 b] [] .plain) (dZ 7 [.int .i64 4, vl 3 a, vl 3 b] [] .plain) :=
  alikeZ rfl rfl (by kernel_rfl) (by kernel_rfl) fun loops loops' => by
    rw [x4_3, y4_3]
    repeat' first
      | exact Alike.some _ _ _
      | (with_reducible refine Alike.chk (by first | exact ha | exact hb | exact ⟨ha, hb⟩ | exact ⟨hb, ha⟩ | exact u64_wrap _) ?_)
      | (with_reducible refine Alike.cond (fun _ => ?_) fun _ => ?_)
theorem bi5_1 {a b : Int} (ha : U64 a) (hb : U64 b) : Alike (dZ 6 [.int .i64 5, vl 1 a, vl 1 b] [] .plain) (dZ 7 [.int .i64 5, vl 1 a, vl 1 b] [] .plain) :=
  alikeZ rfl rfl (by kernel_rfl) (by kernel_rfl) fun loops loops' => by
    rw [x5_1, y5_1]
    repeat' first
      | exact Alike.some _ _ _
      | (with_reducible refine Alike.chk (by first | exact ha | exact hb | exact ⟨ha, hb⟩ | exact ⟨hb, ha⟩ | exact u64_wrap _) ?_)
      | (with_reducible refine Alike.cond (fun _ => ?_) fun _ => ?_)
theorem bi5_2 {a b : Int} (ha : U64 a) (hb : U64 b) : Alike (dZ 6 [.int .i64 5, vl 2 a, vl 2 b] [] .plain) (dZ 7 [.int .i64 5, vl 2 a, vl 2 b] [] .plain) :=
  alikeZ rfl rfl (by kernel_rfl) (by kernel_rfl) fun loops loops' => by
    rw [x5_2, y5_2]
    repeat' first
      | exact Alike.some _ _ _
      | (with_reducible refine Alike.chk (by first | exact ha | exact hb | exact ⟨ha, hb⟩ | exact ⟨hb, ha⟩ | exact u64_wrap _) ?_)
      | (with_reducible refine Alike.cond (fun _ => ?_) fun _ => ?_)
theorem bi5_3 {a b : Int} (ha : U64 a) (hb : U64 b) : Alike (dZ 6 [.int .i64 5, vl 3 a, vl 3 b] [] .plain) (dZ 7 [.int .i64 5, vl 3 a, vl 3 b] [] .plain) :=
  alikeZ rfl rfl (by kernel_rfl) (by kernel_rfl) fun loops loops' => by
    rw [x5_3, y5_3]
    repeat' first
      | exact Alike.some _ _ _
      | (with_reducible refine Alike.chk (by first | exact ha | exact hb | exact ⟨ha, hb⟩ | exact ⟨hb, ha⟩ | exact u64_wrap _) ?_)
      | (with_reducible refine Alike.cond (fun _ => ?_) fun _ => ?_)
theorem bi6_1 {a b : Int} (ha : U64 a) (hb : U64 b) : Alike (dZ 6 [.int .i64 6, vl 1 a, vl 1 b] [] .plain) (dZ 7 [.int .i64 6, vl 1 a, vl 1 b] [] .plain) :=
  alikeZ rfl rfl (by kernel_rfl) (by kernel_rfl) fun loops loops' => by
    rw [x6_1, y6_1]
    try rw [weq ha hb]
    repeat' first
      | exact Alike.some _ _ _
      | (with_reducible refine Alike.chk (by first | exact ha | exact hb | exact ⟨ha, hb⟩ | exact ⟨hb, ha⟩ | exact u64_wrap _) ?_)
      | (with_reducible refine Alike.cond (fun _ => ?_) fun _ => ?_)
theorem bi6_2 {a b : Int} (ha : U64 a) (hb : U64 b) : Alike (dZ 6 [.int .i64 6, vl 2 a, vl 2 b] [] .plain) (dZ 7 [.int .i64 6, vl 2 a, vl 2 b] [] .plain) :=
  alikeZ rfl rfl (by kernel_rfl) (by kernel_rfl) fun loops loops' => by
    rw [x6_2, y6_2]
    repeat' first
      | exact Alike.some _ _ _
      | (with_reducible refine Alike.chk (by first | exact ha | exact hb | exact ⟨ha, hb⟩ | exact ⟨hb, ha⟩ | exact u64_wrap _) ?_)
      | (with_reducible refine Alike.cond (fun _ => ?_) fun _ => ?_)
theorem bi6_3 {a b : Int} (ha : U64 a) (hb : U64 b) : Alike (dZ 6 [.int .i64 6, vl 3 a, vl 3 b] [] .plain) (dZ 7 [.int .i64 6, vl 3 a, vl 3 b] [] .plain) :=
  alikeZ rfl rfl (by kernel_rfl) (by kernel_rfl) fun loops loops' => by
    rw [x6_3, y6_3]
    rw [lt2, lt2]
    by_cases h1 : decide (a ≤ 1) = true
    · by_cases h2 : decide (b ≤ 1) = true
      · rcases two ha h1 with rfl | rfl <;> rcases two hb h2 with rfl | rfl <;> exact ⟨_, _, _, rfl, rfl⟩
      · have h2 : decide (b ≤ 1) = false := by simpa using h2
        rw [h1, h2]; exact ⟨_, _, _, rfl, rfl⟩
    · have h1 : decide (a ≤ 1) = false := by simpa using h1
      rw [h1]; exact ⟨_, _, _, rfl, rfl⟩
theorem bi7_1 {a b : Int} (ha : U64 a) (hb : U64 b) : Alike (dZ 6 [.int .i64 7, vl 1 a, vl 1 b] [] .plain) (dZ 7 [.int .i64 7, vl 1 a, vl 1 b] [] .plain) :=
  alikeZ rfl rfl (by kernel_rfl) (by kernel_rfl) fun loops loops' => by
    rw [x7_1, y7_1]
    try rw [weq ha hb]
    repeat' first
      | exact Alike.some _ _ _
      | (with_reducible refine Alike.chk (by first | exact ha | exact hb | exact ⟨ha, hb⟩ | exact ⟨hb, ha⟩ | exact u64_wrap _) ?_)
      | (with_reducible refine Alike.cond (fun _ => ?_) fun _ => ?_)
theorem bi7_2 {a b : Int} (ha : U64 a) (hb : U64 b) : Alike (dZ 6 [.int .i64 7, vl 2 a, vl 2 b] [] .plain) (dZ 7 [.int .i64 7, vl 2 a, vl 2 b] [] .plain) :=
  alikeZ rfl rfl (by kernel_rfl) (by kernel_rfl) fun loops loops' => by
    rw [x7_2, y7_2]
    repeat' first
      | exact Alike.some _ _ _
      | (with_reducible refine Alike.chk (by first | exact ha | exact hb | exact ⟨ha, hb⟩ | exact ⟨hb, ha⟩ | exact u64_wrap _) ?_)
      | (with_reducible refine Alike.cond (fun _ => ?_) fun _ => ?_)
theorem bi7_3 {a b : Int} (ha : U64 a) (hb : U64 b) : Alike (dZ 6 [.int .i64 7, vl 3 a, vl 3 b] [] .plain) (dZ 7 [.int .i64 7, vl 3 a, vl 3 b] [] .plain) :=
  alikeZ rfl rfl (by kernel_rfl) (by kernel_rfl) fun loops loops' => by
    rw [x7_3, y7_3]
    rw [lt2, lt2]
    by_cases h1 : decide (a ≤ 1) = true
    · by_cases h2 : decide (b ≤ 1) = true
      · rcases two ha h1 with rfl | rfl <;> rcases two hb h2 with rfl | rfl <;> exact ⟨_, _, _, rfl, rfl⟩
      · have h2 : decide (b ≤ 1) = false := by simpa using h2
        rw [h1, h2]; exact ⟨_, _, _, rfl, rfl⟩
    · have h1 : decide (a ≤ 1) = false := by simpa using h1
      rw [h1]; exact ⟨_, _, _, rfl, rfl⟩
theorem bi8_1 {a b : Int} (ha : U64 a) (hb : U64 b) : Alike (dZ 6 [.int .i64 8, vl 1 a, vl 1 b] [] .plain) (dZ 7 [.int .i64 8, vl 1 a, vl 1 b] [] .plain) :=
  alikeZ rfl rfl (by kernel_rfl) (by kernel_rfl) fun loops loops' => by
    rw [x8_1, y8_1]
    try rw [weq ha hb]
    repeat' first
      | exact Alike.some _ _ _
      | (with_reducible refine Alike.chk (by first | exact ha | exact hb | exact ⟨ha, hb⟩ | exact ⟨hb, ha⟩ | exact u64_wrap _) ?_)
      | (with_reducible refine Alike.cond (fun _ => ?_) fun _ => ?_)
theorem bi8_2 {a b : Int} (ha : U64 a) (hb : U64 b) : Alike (dZ 6 [.int .i64 8, vl 2 a, vl 2 b] [] .plain) (dZ 7 [.int .i64 8, vl 2 a, vl 2 b] [] .plain) :=
  alikeZ rfl rfl (by kernel_rfl) (by kernel_rfl) fun loops loops' => by
    rw [x8_2, y8_2]
    repeat' first
      | exact Alike.some _ _ _
      | (with_reducible refine Alike.chk (by first | exact ha | exact hb | exact ⟨ha, hb⟩ | exact ⟨hb, ha⟩ | exact u64_wrap _) ?_)
      | (with_reducible refine Alike.cond (fun _ => ?_) fun _ => ?_)
theorem bi8_3 {a b : Int} (ha : U64 a) (hb : U64 b) : Alike (dZ 6 [.int .i64 8, vl 3 a, vl 3 b] [] .plain) (dZ 7 [.int .i64 8, vl 3 a, vl 3 b] [] .plain) :=
  alikeZ rfl rfl (by kernel_rfl) (by kernel_rfl) fun loops loops' => by
    rw [x8_3, y8_3]
    repeat' first
      | exact Alike.some _ _ _
      | (with_reducible refine Alike.chk (by first | exact ha | exact hb | exact ⟨ha, hb⟩ | exact ⟨hb, ha⟩ | exact u64_wrap _) ?_)
      | (with_reducible refine Alike.cond (fun _ => ?_) fun _ => ?_)
theorem bi9_1 {a b : Int} (ha : U64 a) (hb : U64 b) : Alike (dZ 6 [.int .i64 9, vl 1 a, vl 1 b] [] .plain) (dZ 7 [.int .i64 9, vl 1 a, vl 1 b] [] .plain) :=
  alikeZ rfl rfl (by kernel_rfl) (by kernel_rfl) fun loops loops' => by
    rw [x9_1, y9_1]
    try rw [weq ha hb]
    repeat' first
      | exact Alike.some _ _ _
      | (with_reducible refine Alike.chk (by first | exact ha | exact hb | exact ⟨ha, hb⟩ | exact ⟨hb, ha⟩ | exact u64_wrap _) ?_)
      | (with_reducible refine Alike.cond (fun _ => ?_) fun _ => ?_)
theorem bi9_2 {a b : Int} (ha : U64 a) (hb : U64 b) : Alike (dZ 6 [.int .i64 9, vl 2 a, vl 2 b] [] .plain) (dZ 7 [.int .i64 9, vl 2 a, vl 2 b] [] .plain) :=
  alikeZ rfl rfl (by kernel_rfl) (by kernel_rfl) fun loops loops' => by
    rw [x9_2, y9_2]
    repeat' first
      | exact Alike.some _ _ _
      | (with_reducible refine Alike.chk (by first | exact ha | exact hb | exact ⟨ha, hb⟩ | exact ⟨hb, ha⟩ | exact u64_wrap _) ?_)
      | (with_reducible refine Alike.cond (fun _ => ?_) fun _ => ?_)
theorem bi9_3 {a b : Int} (ha : U64 a) (hb : U64 b) : Alike (dZ 6 [.int .i64 9, vl 3 a, vl 3 b] [] .plain) (dZ 7 [.int .i64 9, vl 3 a, vl 3 b] [] .plain) :=
  alikeZ rfl rfl (by kernel_rfl) (by kernel_rfl) fun loops loops' => by
    rw [x9_3, y9_3]
    repeat' first
      | exact Alike.some _ _ _
      | (with_reducible refine Alike.chk (by first | exact ha | exact hb | exact ⟨ha, hb⟩ | exact ⟨hb, ha⟩ | exact u64_wrap _) ?_)
      | (with_reducible refine Alike.cond (fun _ => ?_) fun _ => ?_)
theorem bi10_1 {a b : Int} (ha : U64 a) (hb : U64 b) : Alike (dZ 6 [.int .i64 10, vl 1 a, vl 1 b] [] .plain) (dZ 7 [.int .i64 10, vl 1 a, vl 1 b] [] .plain) :=
  alikeZ rfl rfl (by kernel_rfl) (by kernel_rfl) fun loops loops' => by
    rw [x10_1, y10_1]
    try rw [weq ha hb]
    repeat' first
      | exact Alike.some _ _ _
      | (with_reducible refine Alike.chk (by first | exact ha | exact hb | exact ⟨ha, hb⟩ | exact ⟨hb, ha⟩ | exact u64_wrap _) ?_)
      | (with_reducible refine Alike.cond (fun _ => ?_) fun _ => ?_)
theorem bi10_2 {a b : Int} (ha : U64 a) (hb : U64 b) : Alike (dZ 6 [.int .i64 10, vl 2 a, vl 2 b] [] .plain) (dZ 7 [.int .i64 10, vl 2 a, vl 2 b] [] .plain) :=
  alikeZ rfl rfl (by kernel_rfl) (by kernel_rfl) fun loops loops' => by
    rw [x10_2, y10_2]
    repeat' first
      | exact Alike.some _ _ _
      | (with_reducible refine Alike.chk (by first | exact ha | exact hb | exact ⟨ha, hb⟩ | exact ⟨hb, ha⟩ | exact u64_wrap _) ?_)
      | (with_reducible refine Alike.cond (fun _ => ?_) fun _ => ?_)
theorem bi10_3 {a b : Int} (ha : U64 a) (hb : U64 b) : Alike (dZ 6 [.int .i64 10, vl 3 a, vl 3 b] [] .plain) (dZ 7 [.int .i64 10, vl 3 a, vl 3 b] [] .plain) :=
  alikeZ rfl rfl (by kernel_rfl) (by kernel_rfl) fun loops loops' => by
    rw [x10_3, y10_3]
    repeat' first
      | exact Alike.some _ _ _
      | (with_reducible refine Alike.chk (by first | exact ha | exact hb | exact ⟨ha, hb⟩ | exact ⟨hb, ha⟩ | exact u64_wrap _) ?_)
      | (with_reducible refine Alike.cond (fun _ => ?_) fun _ => ?_)
theorem bi11_1 {a b : Int} (ha : U64 a) (hb : U64 b) : Alike (dZ 6 [.int .i64 11, vl 1 a, vl 1 b] [] .plain) (dZ 7 [.int .i64 11, vl 1 a, vl 1 b] [] .plain) :=
  alikeZ rfl rfl (by kernel_rfl) (by kernel_rfl) fun loops loops' => by
    rw [x11_1, y11_1]
    try rw [weq ha hb]
    repeat' first
      | exact Alike.some _ _ _
      | (with_reducible refine Alike.chk (by first | exact ha | exact hb | exact ⟨ha, hb⟩ | exact ⟨hb, ha⟩ | exact u64_wrap _) ?_)
      | (with_reducible refine Alike.cond (fun _ => ?_) fun _ => ?_)
theorem bi11_2 {a b : Int} (ha : U64 a) (hb : U64 b) : Alike (dZ 6 [.int .i64 11, vl 2 a, vl 2 b] [] .plain) (dZ 7 [.int .i64 11, vl 2 a, vl 2 b] [] .plain) :=
  alikeZ rfl rfl (by kernel_rfl) (by kernel_rfl) fun loops loops' => by
    rw [x11_2, y11_2]
    repeat' first
      | exact Alike.some _ _ _
      | (with_reducible refine Alike.chk (by first | exact ha | exact hb | exact ⟨ha, hb⟩ | exact ⟨hb, ha⟩ | exact u64_wrap _) ?_)
      | (with_reducible refine Alike.cond (fun _ => ?_) fun _ => ?_)
theorem bi11_3 {a b : Int} (ha : U64 a) (hb : U64 b) : Alike (dZ 6 [.int .i64 11, vl 3 a, vl 3 b] [] .plain) (dZ 7 [.int .i64 11, vl 3 a, vl 3 b] [] .plain) :=
  alikeZ rfl rfl (by kernel_rfl) (by kernel_rfl) fun loops loops' => by
    rw [x11_3, y11_3]
    repeat' first
      | exact Alike.some _ _ _
      | (with_reducible refine Alike.chk (by first | exact ha | exact hb | exact ⟨ha, hb⟩ | exact ⟨hb, ha⟩ | exact u64_wrap _) ?_)
      | (with_reducible refine Alike.cond (fun _ => ?_) fun _ => ?_)
theorem bi12_1 {a b : Int} (ha : U64 a) (hb : U64 b) : Alike (dZ 6 [.int .i64 12, vl 1 a, vl 1 b] [] .plain) (dZ 7 [.int .i64 12, vl 1 a, vl 1 b] [] .plain) :=
  alikeZ rfl rfl (by kernel_rfl) (by kernel_rfl) fun loops loops' => by
    rw [x12_1, y12_1]
    repeat' first
      | exact Alike.some _ _ _
      | (with_reducible refine Alike.chk (by first | exact ha | exact hb | exact ⟨ha, hb⟩ | exact ⟨hb, ha⟩ | exact u64_wrap _) ?_)
      | (with_reducible refine Alike.cond (fun _ => ?_) fun _ => ?_)
theorem bi12_2 {a b : Int} (ha : U64 a) (hb : U64 b) : Alike (dZ 6 [.int .i64 12, vl 2 a, vl 2 b] [] .plain) (dZ 7 [.int .i64 12, vl 2 a, vl 2 b] [] .plain) :=
  alikeZ rfl rfl (by kernel_rfl) (by kernel_rfl) fun loops loops' => by
    rw [x12_2, y12_2]
    repeat' first
      | exact Alike.some _ _ _
      | (with_reducible refine Alike.chk (by first | exact ha | exact hb | exact ⟨ha, hb⟩ | exact ⟨hb, ha⟩ | exact u64_wrap _) ?_)
      | (with_reducible refine Alike.cond (fun _ => ?_) fun _ => ?_)
theorem bi12_3 {a b : Int} (ha : U64 a) (hb : U64 b) : Alike (dZ 6 [.int .i64 12, vl 3 a, vl 3 b] [] .plain) (dZ 7 [.int .i64 12, vl 3 a, vl 3 b] [] .plain) :=
  alikeZ rfl rfl (by kernel_rfl) (by kernel_rfl) fun loops loops' => by
    rw [x12_3, y12_3]
    rw [lt2, lt2]
    by_cases h1 : decide (a ≤ 1) = true
    · by_cases h2 : decide (b ≤ 1) = true
      · rcases two ha h1 with rfl | rfl <;> rcases two hb h2 with rfl | rfl <;> exact ⟨_, _, _, rfl, rfl⟩
      · have h2 : decide (b ≤ 1) = false := by simpa using h2
        rw [h1, h2]; exact ⟨_, _, _, rfl, rfl⟩
    · have h1 : decide (a ≤ 1) = false := by simpa using h1
      rw [h1]; exact ⟨_, _, _, rfl, rfl⟩
theorem bi13_1 {a b : Int} (ha : U64 a) (hb : U64 b) : Alike (dZ 6 [.int .i64 13, vl 1 a, vl 1 b] [] .plain) (dZ 7 [.int .i64 13, vl 1 a, vl 1 b] [] .plain) :=
  alikeZ rfl rfl (by kernel_rfl) (by kernel_rfl) fun loops loops' => by
    rw [x13_1, y13_1]
    repeat' first
      | exact Alike.some _ _ _
      | (with_reducible refine Alike.chk (by first | exact ha | exact hb | exact ⟨ha, hb⟩ | exact ⟨hb, ha⟩ | exact u64_wrap _) ?_)
      | (with_reducible refine Alike.cond (fun _ => ?_) fun _ => ?_)
theorem bi13_2 {a b : Int} (ha : U64 a) (hb : U64 b) : Alike (dZ 6 [.int .i64 13, vl 2 a, vl 2 b] [] .plain) (dZ 7 [.int .i64 13, vl 2 a, vl 2 b] [] .plain) :=
  alikeZ rfl rfl (by kernel_rfl) (by kernel_rfl) fun loops loops' => by
    rw [x13_2, y13_2]
    repeat' first
      | exact Alike.some _ _ _
      | (with_reducible refine Alike.chk (by first | exact ha | exact hb | exact ⟨ha, hb⟩ | exact ⟨hb, ha⟩ | exact u64_wrap _) ?_)
      | (with_reducible refine Alike.cond (fun _ => ?_) fun _ => ?_)
theorem bi13_3 {a b : Int} (ha : U64 a) (hb : U64 b) : Alike (dZ 6 [.int .i64 13, vl 3 a, vl 3 b] [] .plain) (dZ 7 [.int .i64 13, vl 3 a, vl 3 b] [] .plain) :=
  alikeZ rfl rfl (by kernel_rfl) (by kernel_rfl) fun loops loops' => by
    rw [x13_3, y13_3]
    rw [lt2, lt2]
    by_cases h1 : decide (a ≤ 1) = true
    · by_cases h2 : decide (b ≤ 1) = true
      · rcases two ha h1 with rfl | rfl <;> rcases two hb h2 with rfl | rfl <;> exact ⟨_, _, _, rfl, rfl⟩
      · have h2 : decide (b ≤ 1) = false := by simpa using h2
        rw [h1, h2]; exact ⟨_, _, _, rfl, rfl⟩
    · have h1 : decide (a ≤ 1) = false := by simpa using h1
      rw [h1]; exact ⟨_, _, _, rfl, rfl⟩
theorem un_all {op t a : Int} (ha : U64 a) : Alike (dZ 4 [.int .i64 op, vl t a] [] .plain) (dZ 5 [.int .i64 op, vl t a] [] .plain) := by
  by_cases h1 : 1 ≤ op ∧ op ≤ 4
  · by_cases h2 : 1 ≤ t ∧ t ≤ 3
    · have e1 : op = 1 ∨ op = 2 ∨ op = 3 ∨ op = 4 := by omega
      have e2 : t = 1 ∨ t = 2 ∨ t = 3 := by omega
      rcases e1 with rfl | rfl | rfl | rfl <;> rcases e2 with rfl | rfl | rfl
      · exact un11 ha
      · exact un12 ha
      · exact un13 ha
      · exact un21 ha
      · exact un22 ha
      · exact un23 ha
      · exact un31 ha
      · exact un32 ha
      · exact un33 ha
      · exact un41 ha
      · exact un42 ha
      · exact un43 ha
    · exact bad_un (.inr h2)
  · exact bad_un (.inl h1)
theorem bin_all {op t a q b : Int} (ha : U64 a) (hb : U64 b) : Alike (dZ 6 [.int .i64 op, vl t a, vl q b] [] .plain) (dZ 7 [.int .i64 op, vl t a, vl q b] [] .plain) := by
  by_cases h1 : 1 ≤ op ∧ op ≤ 13
  · by_cases h3 : t = q
    · subst h3
      by_cases h2 : 1 ≤ t ∧ t ≤ 3
      · have e1 : op = 1 ∨ op = 2 ∨ op = 3 ∨ op = 4 ∨ op = 5 ∨ op = 6 ∨ op = 7 ∨ op = 8 ∨ op = 9 ∨ op = 10 ∨ op = 11 ∨ op = 12 ∨ op = 13 := by omega
        have e2 : t = 1 ∨ t = 2 ∨ t = 3 := by omega
        rcases e1 with rfl | rfl | rfl | rfl | rfl | rfl | rfl | rfl | rfl | rfl | rfl | rfl | rfl <;> rcases e2 with rfl | rfl | rfl
        · exact bi1_1 ha hb
        · exact bi1_2 ha hb
        · exact bi1_3 ha hb
        · exact bi2_1 ha hb
        · exact bi2_2 ha hb
        · exact bi2_3 ha hb
        · exact bi3_1 ha hb
        · exact bi3_2 ha hb
        · exact bi3_3 ha hb
        · exact bi4_1 ha hb
        · exact bi4_2 ha hb
        · exact bi4_3 ha hb
        · exact bi5_1 ha hb
        · exact bi5_2 ha hb
        · exact bi5_3 ha hb
        · exact bi6_1 ha hb
        · exact bi6_2 ha hb
        · exact bi6_3 ha hb
        · exact bi7_1 ha hb
        · exact bi7_2 ha hb
        · exact bi7_3 ha hb
        · exact bi8_1 ha hb
        · exact bi8_2 ha hb
        · exact bi8_3 ha hb
        · exact bi9_1 ha hb
        · exact bi9_2 ha hb
        · exact bi9_3 ha hb
        · exact bi10_1 ha hb
        · exact bi10_2 ha hb
        · exact bi10_3 ha hb
        · exact bi11_1 ha hb
        · exact bi11_2 ha hb
        · exact bi11_3 ha hb
        · exact bi12_1 ha hb
        · exact bi12_2 ha hb
        · exact bi12_3 ha hb
        · exact bi13_1 ha hb
        · exact bi13_2 ha hb
        · exact bi13_3 ha hb
      · exact bad_bin (.inr (.inr h2))
    · exact bad_bin (.inr (.inl h3))
  · exact bad_bin (.inl h1)
theorem gF_of {f : FuncId} {args : List AV} {t b c : Int} (h : dZ f args [] .plain = some (.ret (.tup [vl t b, .int .i64 c]) [] .plain)) : dZ f args [] .plain = some (.ret (trA (gF f args)) [] .plain) := by
  have : gF f args = (t, b, c) := by unfold gF; rw [h]; rfl
  rw [this]; exact h
theorem err8 (t : Int) : dZ 8 [.int .i64 t] [] .plain = some (.ret (.int .i64 (eF t)) [] .plain) :=
  valZ uT_le rfl (by kernel_rfl) fun loops => by
    rw [e8]; unfold eF
    generalize (t == 0) = a0
    generalize (t == 1) = a1
    generalize (t == 2) = a2
    generalize (t == 3) = a3
    cases a0 <;> cases a1 <;> cases a2 <;> cases a3 <;> exact Tot.some rfl
theorem err9 (t : Int) : dZ 9 [.int .i64 t] [] .plain = some (.ret (.int .i64 (eF t)) [] .plain) :=
  valZ uT_le rfl (by kernel_rfl) fun loops => by
    rw [e9]; unfold eF
    generalize (t == 0) = a0
    generalize (t == 1) = a1
    generalize (t == 2) = a2
    generalize (t == 3) = a3
    cases a0 <;> cases a1 <;> cases a2 <;> cases a3 <;> exact Tot.some rfl
theorem alive10 : dZ 10 [] [] .plain = some (.ret (.bool true) [] .plain) := denA_of (k := 40) (by kernel_rfl)
theorem u3_le {op t a q b tr : Int} (ha : U64 a) (hb : U64 b) : CallLeK (u3 op t a q b tr) dZ := by
  obtain ⟨t1, b1, c1, u1, u2⟩ := un_all (op := op) (t := t) ha
  obtain ⟨t2, b2, c2, u3', u4⟩ := bin_all (op := op) (t := t) (q := q) ha hb
  intro f args h ps kk o e
  unfold u3 at e
  split at e
  · obtain ⟨⟨rfl, rfl, rfl⟩, e'⟩ := chk_some e; exact ⟨_, e', gF_of u1⟩
  · obtain ⟨⟨rfl, rfl, rfl⟩, e'⟩ := chk_some e; exact ⟨_, e', by rw [u2, ← u1]; exact gF_of u1⟩
  · obtain ⟨⟨rfl, rfl, rfl⟩, e'⟩ := chk_some e; exact ⟨_, e', gF_of u3'⟩
  · obtain ⟨⟨rfl, rfl, rfl⟩, e'⟩ := chk_some e; exact ⟨_, e', by rw [u4, ← u3']; exact gF_of u3'⟩
  · obtain ⟨⟨rfl, rfl, rfl⟩, e'⟩ := chk_some e; exact ⟨_, e', err8 _⟩
  · obtain ⟨⟨rfl, rfl, rfl⟩, e'⟩ := chk_some e; exact ⟨_, e', err9 _⟩
  · obtain ⟨⟨rfl, rfl, rfl⟩, e'⟩ := chk_some e; exact ⟨_, e', alive10⟩
  · cases e
theorem operators_true {op t a q b tr : Int} (ha : U64 a) (hb : U64 b) : dZ 3 [.int .i64 op, vl t a, vl q b, .int .i64 tr] [] .plain = some (.ret (.bool true) [] .plain) :=
  valZ (u3_le ha hb) rfl (by kernel_rfl) fun loops => by
    rw [b_3]
    repeat' first
      | exact Tot.some rfl
      | (with_reducible refine Tot.chk ⟨rfl, rfl, rfl⟩ ?_)
      | (refine Tot.cond (fun _ => ?_) fun h => absurd h (by simp))
      | (simp only [beq_self_eq_true, Bool.and_self, cond_true])
end Go.Proofs
