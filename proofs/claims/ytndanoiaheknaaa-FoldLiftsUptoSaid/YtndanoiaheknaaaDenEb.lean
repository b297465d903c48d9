/- Expressions must be right: what is left. -/
import Derived.Test.YtndanoiaheknaaaDenPiece
import Derived.Test.YtndanoiaheknaaaDenEa
import Derived.Test.YtndanoiaheknaaaDenInl
set_option linter.unusedSimpArgs false
set_option linter.unusedVariables false
namespace Go.Proofs
open Go.Den
set_option maxRecDepth 100000

def S46 (k : Int) (e : Ex) (i : Int) : St := ⟨[.top, .top, .top, .top, .top, .top, .top, .top, .top, .top, .top, .top, .top, .top, .top, .top, .top, .top, .top, .top, .top, .top, .top, .top, .top, .top, .top, .top, .top, .top, .top, .top, .top, .top, .top, .top, .top, .top, .top, .top, .top, .top, .top, .top, .top, .top, .top, .top, .top, .top, .top, .top, .top, .top, .top, .top, .top, .top, .top, .top, .top, .top, .top, .top, .top, .top, .top, .top, .top, .top, .top, .top, .top, .top, .top, .top, .top, .top, .top, .top, .top, .top, .top, .top, .top, .top, .top, .top, .top, .top, .top, .top, .top, .top, .top, .top, .top, .top, .top, .top, .top, .top, .top, .top, .top, .top, .top, .top, .top, .top, .top, kidsE e, .int .i64 e.kids.length, .int .i64 i, .top, .top, .top, .top, .top, .top], ⟨[.var [.int .i64 k, .int .i64 e.op, .str e.mod, .str e.name, .int .i64 e.vt, .int .u64 e.vb, kidsE e]], [], .plain⟩⟩
def S46e (k : Int) (e : Ex) (i : Int) : St := ⟨[.top, .top, .top, .top, .top, .top, .top, .top, .top, .top, .top, .top, .top, .top, .top, .top, .top, .top, .top, .top, .top, .top, .top, .top, .top, .top, .top, .top, .top, .top, .top, .top, .top, .top, .top, .top, .top, .top, .top, .top, .top, .top, .top, .top, .top, .top, .top, .top, .top, .top, .top, .top, .top, .top, .top, .top, .top, .top, .top, .top, .top, .top, .top, .top, .top, .top, .top, .top, .top, .top, .top, .top, .top, .top, .top, .top, .top, .top, .top, .top, .top, .top, .top, .top, .top, .top, .top, .top, .top, .top, .top, .top, .top, .top, .top, .top, .top, .top, .top, .top, .top, .top, .top, .top, .top, .top, .top, .top, .top, .top, .top, kidsE e, .int .i64 e.kids.length, .int .i64 i, .bool (decide (i < (e.kids.length : Int))), .top, .top, .top, .top, .top], ⟨[.var [.int .i64 k, .int .i64 e.op, .str e.mod, .str e.name, .int .i64 e.vt, .int .u64 e.vb, kidsE e]], [], .plain⟩⟩
theorem r46 (kid e : Ex) (q : Int) (i : Nat) (k : Den.Exit → St → R) : codeL Try.prog polX (u46 kid) noLoops 46 (Code.part (bodyOf Try.prog 46) [1, 1, 1, 1, 1, 1, 1, 1, 1, 1, 0, 0]) (S46 q e i) k =
  (cond (decide ((↑i : Int) < (↑e.kids.length : Int))) (dite ((0 : Int) ≤ (↑i : Int) ∧ (↑i : Int).toNat < e.kids.length) (fun hb59 => (chk (Eq (α := List AV) [(.agg [(.int .i64 ((e.kids.get ⟨(↑i : Int).toNat, hb59.right⟩).kind)), (.int .i64 ((e.kids.get ⟨(↑i : Int).toNat, hb59.right⟩).op)), (.str ((e.kids.get ⟨(↑i : Int).toNat, hb59.right⟩).mod)), (.str ((e.kids.get ⟨(↑i : Int).toNat, hb59.right⟩).name)), (.int .i64 ((e.kids.get ⟨(↑i : Int).toNat, hb59.right⟩).vt)), (.int .u64 ((e.kids.get ⟨(↑i : Int).toNat, hb59.right⟩).vb)), (.sl 7 .no ((e.kids.get ⟨(↑i : Int).toNat, hb59.right⟩).kids.length) (fun q6 => row ((e.kids.get ⟨(↑i : Int).toNat, hb59.right⟩).kids.get q6)))])] [(.agg [(.int .i64 (kid.kind)), (.int .i64 (kid.op)), (.str (kid.mod)), (.str (kid.name)), (.int .i64 (kid.vt)), (.int .u64 (kid.vb)), (.sl 7 .no (kid.kids.length) (fun q6 => row (kid.kids.get q6)))])] ∧ Eq (α := List Den.Obj) [] [] ∧ Eq (α := PS) .plain .plain) (cond (pF (46 : FuncId) [agE kid]) (k (.pan (.ifc 93 (.int .i64 (eF (46 : FuncId) [agE kid])))) (.mk [.top, .top, .top, .top, .top, .top, .top, .top, (.ptr 1 0 0 0), .top, .top, .top, .top, .top, .top, .top, .top, .top, .top, .top, .top, .top, .top, .top, .top, .top, .top, .top, .top, .top, .top, .top, .top, .top, .top, .top, .top, .top, .top, .top, .top, .top, .top, .top, .top, .top, .top, .top, .top, .top, .top, .top, .top, .top, .top, .top, .top, .top, .top, .top, .top, .top, .top, .top, .top, .top, .top, .top, .top, .top, .top, .top, .top, .top, .top, .top, .top, .top, .top, .top, .top, .top, .top, .top, .top, .top, .top, .top, .top, .top, .top, .top, .top, .top, .top, .top, .top, .top, .top, .top, .top, .top, .top, .top, .top, .top, .top, .top, .top, .top, .top, (.sl 7 .no (e.kids.length) (fun q7 => [(.int .i64 ((e.kids.get q7).kind)), (.int .i64 ((e.kids.get q7).op)), (.str ((e.kids.get q7).mod)), (.str ((e.kids.get q7).name)), (.int .i64 ((e.kids.get q7).vt)), (.int .u64 ((e.kids.get q7).vb)), (.sl 7 .no ((e.kids.get q7).kids.length) (fun q8 => row ((e.kids.get q7).kids.get q8)))])), (.int .i64 ((↑e.kids.length : Int))), (.int .i64 ((↑i : Int))), .top, .top, .top, (.agg [(.int .i64 ((e.kids.get ⟨(↑i : Int).toNat, hb59.right⟩).kind)), (.int .i64 ((e.kids.get ⟨(↑i : Int).toNat, hb59.right⟩).op)), (.str ((e.kids.get ⟨(↑i : Int).toNat, hb59.right⟩).mod)), (.str ((e.kids.get ⟨(↑i : Int).toNat, hb59.right⟩).name)), (.int .i64 ((e.kids.get ⟨(↑i : Int).toNat, hb59.right⟩).vt)), (.int .u64 ((e.kids.get ⟨(↑i : Int).toNat, hb59.right⟩).vb)), (.sl 7 .no ((e.kids.get ⟨(↑i : Int).toNat, hb59.right⟩).kids.length) (fun q7 => row ((e.kids.get ⟨(↑i : Int).toNat, hb59.right⟩).kids.get q7)))]), .top, .top] (.mk [(.var [(.int .i64 q), (.int .i64 (e.op)), (.str (e.mod)), (.str (e.name)), (.int .i64 (e.vt)), (.int .u64 (e.vb)), (.sl 7 .no (e.kids.length) (fun q7 => [(.int .i64 ((e.kids.get q7).kind)), (.int .i64 ((e.kids.get q7).op)), (.str ((e.kids.get q7).mod)), (.str ((e.kids.get q7).name)), (.int .i64 ((e.kids.get q7).vt)), (.int .u64 ((e.kids.get q7).vb)), (.sl 7 .no ((e.kids.get q7).kids.length) (fun q8 => row ((e.kids.get q7).kids.get q8)))]))]), (.var [(.int .i64 ((e.kids.get ⟨(↑i : Int).toNat, hb59.right⟩).kind)), (.int .i64 ((e.kids.get ⟨(↑i : Int).toNat, hb59.right⟩).op)), (.str ((e.kids.get ⟨(↑i : Int).toNat, hb59.right⟩).mod)), (.str ((e.kids.get ⟨(↑i : Int).toNat, hb59.right⟩).name)), (.int .i64 ((e.kids.get ⟨(↑i : Int).toNat, hb59.right⟩).vt)), (.int .u64 ((e.kids.get ⟨(↑i : Int).toNat, hb59.right⟩).vb)), (.sl 7 .no ((e.kids.get ⟨(↑i : Int).toNat, hb59.right⟩).kids.length) (fun q7 => row ((e.kids.get ⟨(↑i : Int).toNat, hb59.right⟩).kids.get q7)))])] [] .plain))) (k .normal (.mk [.top, .top, .top, .top, .top, .top, .top, .top, .top, .top, .top, .top, .top, .top, .top, .top, .top, .top, .top, .top, .top, .top, .top, .top, .top, .top, .top, .top, .top, .top, .top, .top, .top, .top, .top, .top, .top, .top, .top, .top, .top, .top, .top, .top, .top, .top, .top, .top, .top, .top, .top, .top, .top, .top, .top, .top, .top, .top, .top, .top, .top, .top, .top, .top, .top, .top, .top, .top, .top, .top, .top, .top, .top, .top, .top, .top, .top, .top, .top, .top, .top, .top, .top, .top, .top, .top, .top, .top, .top, .top, .top, .top, .top, .top, .top, .top, .top, .top, .top, .top, .top, .top, .top, .top, .top, .top, .top, .top, .top, .top, .top, (.sl 7 .no (e.kids.length) (fun q7 => [(.int .i64 ((e.kids.get q7).kind)), (.int .i64 ((e.kids.get q7).op)), (.str ((e.kids.get q7).mod)), (.str ((e.kids.get q7).name)), (.int .i64 ((e.kids.get q7).vt)), (.int .u64 ((e.kids.get q7).vb)), (.sl 7 .no ((e.kids.get q7).kids.length) (fun q8 => row ((e.kids.get q7).kids.get q8)))])), (.int .i64 ((↑e.kids.length : Int))), (.int .i64 (IntKind.i64.wrap ((↑i : Int) + (1 : Int)))), .top, .top, .top, .top, .top, .top] (.mk [(.var [(.int .i64 q), (.int .i64 (e.op)), (.str (e.mod)), (.str (e.name)), (.int .i64 (e.vt)), (.int .u64 (e.vb)), (.sl 7 .no (e.kids.length) (fun q7 => [(.int .i64 ((e.kids.get q7).kind)), (.int .i64 ((e.kids.get q7).op)), (.str ((e.kids.get q7).mod)), (.str ((e.kids.get q7).name)), (.int .i64 ((e.kids.get q7).vt)), (.int .u64 ((e.kids.get q7).vb)), (.sl 7 .no ((e.kids.get q7).kids.length) (fun q8 => row ((e.kids.get q7).kids.get q8)))]))]), (.var [(.int .i64 ((e.kids.get ⟨(↑i : Int).toNat, hb59.right⟩).kind)), (.int .i64 ((e.kids.get ⟨(↑i : Int).toNat, hb59.right⟩).op)), (.str ((e.kids.get ⟨(↑i : Int).toNat, hb59.right⟩).mod)), (.str ((e.kids.get ⟨(↑i : Int).toNat, hb59.right⟩).name)), (.int .i64 ((e.kids.get ⟨(↑i : Int).toNat, hb59.right⟩).vt)), (.int .u64 ((e.kids.get ⟨(↑i : Int).toNat, hb59.right⟩).vb)), (.sl 7 .no ((e.kids.get ⟨(↑i : Int).toNat, hb59.right⟩).kids.length) (fun q7 => row ((e.kids.get ⟨(↑i : Int).toNat, hb59.right⟩).kids.get q7)))])] [] .plain)))))) (fun hb59 => none)) (k (.exit 0) (.mk [.top, .top, .top, .top, .top, .top, .top, .top, .top, .top, .top, .top, .top, .top, .top, .top, .top, .top, .top, .top, .top, .top, .top, .top, .top, .top, .top, .top, .top, .top, .top, .top, .top, .top, .top, .top, .top, .top, .top, .top, .top, .top, .top, .top, .top, .top, .top, .top, .top, .top, .top, .top, .top, .top, .top, .top, .top, .top, .top, .top, .top, .top, .top, .top, .top, .top, .top, .top, .top, .top, .top, .top, .top, .top, .top, .top, .top, .top, .top, .top, .top, .top, .top, .top, .top, .top, .top, .top, .top, .top, .top, .top, .top, .top, .top, .top, .top, .top, .top, .top, .top, .top, .top, .top, .top, .top, .top, .top, .top, .top, .top, (.sl 7 .no (e.kids.length) (fun q5 => [(.int .i64 ((e.kids.get q5).kind)), (.int .i64 ((e.kids.get q5).op)), (.str ((e.kids.get q5).mod)), (.str ((e.kids.get q5).name)), (.int .i64 ((e.kids.get q5).vt)), (.int .u64 ((e.kids.get q5).vb)), (.sl 7 .no ((e.kids.get q5).kids.length) (fun q6 => row ((e.kids.get q5).kids.get q6)))])), (.int .i64 ((↑e.kids.length : Int))), (.int .i64 ((↑i : Int))), (.bool (decide ((↑i : Int) < (↑e.kids.length : Int)))), .top, .top, .top, .top, .top] (.mk [(.var [(.int .i64 q), (.int .i64 (e.op)), (.str (e.mod)), (.str (e.name)), (.int .i64 (e.vt)), (.int .u64 (e.vb)), (.sl 7 .no (e.kids.length) (fun q5 => [(.int .i64 ((e.kids.get q5).kind)), (.int .i64 ((e.kids.get q5).op)), (.str ((e.kids.get q5).mod)), (.str ((e.kids.get q5).name)), (.int .i64 ((e.kids.get q5).vt)), (.int .u64 ((e.kids.get q5).vb)), (.sl 7 .no ((e.kids.get q5).kids.length) (fun q6 => row ((e.kids.get q5).kids.get q6)))]))])] [] .plain)))) := by kernel_rfl
theorem r46n (e : Ex) (q : Int) (i : Nat) (k : Den.Exit → St → R) : codeL Try.prog polX noCall noLoops 46 (Code.part (bodyOf Try.prog 46) [1, 1, 1, 1, 1, 1, 1, 1, 1, 1, 0, 0]) (S46 q e i) k =
  (cond (decide ((↑i : Int) < (↑e.kids.length : Int))) (dite ((0 : Int) ≤ (↑i : Int) ∧ (↑i : Int).toNat < e.kids.length) (fun hb59 => none) (fun hb59 => none)) (k (.exit 0) (.mk [.top, .top, .top, .top, .top, .top, .top, .top, .top, .top, .top, .top, .top, .top, .top, .top, .top, .top, .top, .top, .top, .top, .top, .top, .top, .top, .top, .top, .top, .top, .top, .top, .top, .top, .top, .top, .top, .top, .top, .top, .top, .top, .top, .top, .top, .top, .top, .top, .top, .top, .top, .top, .top, .top, .top, .top, .top, .top, .top, .top, .top, .top, .top, .top, .top, .top, .top, .top, .top, .top, .top, .top, .top, .top, .top, .top, .top, .top, .top, .top, .top, .top, .top, .top, .top, .top, .top, .top, .top, .top, .top, .top, .top, .top, .top, .top, .top, .top, .top, .top, .top, .top, .top, .top, .top, .top, .top, .top, .top, .top, .top, (.sl 7 .no (e.kids.length) (fun q4 => [(.int .i64 ((e.kids.get q4).kind)), (.int .i64 ((e.kids.get q4).op)), (.str ((e.kids.get q4).mod)), (.str ((e.kids.get q4).name)), (.int .i64 ((e.kids.get q4).vt)), (.int .u64 ((e.kids.get q4).vb)), (.sl 7 .no ((e.kids.get q4).kids.length) (fun q5 => row ((e.kids.get q4).kids.get q5)))])), (.int .i64 ((↑e.kids.length : Int))), (.int .i64 ((↑i : Int))), (.bool (decide ((↑i : Int) < (↑e.kids.length : Int)))), .top, .top, .top, .top, .top] (.mk [(.var [(.int .i64 q), (.int .i64 (e.op)), (.str (e.mod)), (.str (e.name)), (.int .i64 (e.vt)), (.int .u64 (e.vb)), (.sl 7 .no (e.kids.length) (fun q4 => [(.int .i64 ((e.kids.get q4).kind)), (.int .i64 ((e.kids.get q4).op)), (.str ((e.kids.get q4).mod)), (.str ((e.kids.get q4).name)), (.int .i64 ((e.kids.get q4).vt)), (.int .u64 ((e.kids.get q4).vb)), (.sl 7 .no ((e.kids.get q4).kids.length) (fun q5 => row ((e.kids.get q4).kids.get q5)))]))])] [] .plain)))) := by kernel_rfl
theorem b46_1 (loops : LoopK) (e : Ex) : bodyL Try.prog polX u60 loops 46 [agK 1 e] [] .plain =
  (cond (((!(cond (cond (true) (e.op == (0 : Int)) (false)) (true) (false))) && (true))) (some (.pan (.ifc 93 (.int .i64 1)) [] .plain)) (cond (((!(cond (cond (cond (false) (true) (((e.mod) == []))) (cond (false) (true) (((e.name) == []))) (false)) (cond (false) (true) ((↑e.kids.length : Int) == bif (1 : Int) == (4 : Int) then (-1 : Int) else bif (1 : Int) == (5 : Int) then (-1 : Int) else bif (1 : Int) == (6 : Int) then (1 : Int) else bif (1 : Int) == (7 : Int) then (2 : Int) else (0 : Int))) (false))) && (true))) (some (.pan (.ifc 93 (.int .i64 1)) [] .plain)) (cond (((!(cond (cond (true) (bF (61 : FuncId) [AV.agg [AV.int IntKind.i64 e.vt, AV.int IntKind.u64 e.vb]]) (false)) (true) (false))) && (true))) (some (.pan (.ifc 93 (.int .i64 1)) [] .plain)) (cond (((!(decide ((↑e.kids.length : Int) ≤ bif decide ((bif (1 : Int) == (4 : Int) then (-1 : Int) else bif (1 : Int) == (5 : Int) then (-1 : Int) else bif (1 : Int) == (6 : Int) then (1 : Int) else bif (1 : Int) == (7 : Int) then (2 : Int) else (0 : Int)) > (8 : Int)) then bif (1 : Int) == (4 : Int) then (-1 : Int) else bif (1 : Int) == (5 : Int) then (-1 : Int) else bif (1 : Int) == (6 : Int) then (1 : Int) else bif (1 : Int) == (7 : Int) then (2 : Int) else (0 : Int) else (8 : Int)))) && (true))) (some (.pan (.ifc 93 (.int .i64 3)) [] .plain)) (loops 12 (.mk [.top, .top, .top, .top, .top, .top, .top, .top, .top, .top, .top, .top, .top, .top, .top, .top, .top, .top, .top, .top, .top, .top, .top, .top, .top, .top, .top, .top, .top, .top, .top, .top, .top, .top, .top, .top, .top, .top, .top, .top, .top, .top, .top, .top, .top, .top, .top, .top, .top, .top, .top, .top, .top, .top, .top, .top, .top, .top, .top, .top, .top, .top, .top, .top, .top, .top, .top, .top, .top, .top, .top, .top, .top, .top, .top, .top, .top, .top, .top, .top, .top, .top, .top, .top, .top, .top, .top, .top, .top, .top, .top, .top, .top, .top, .top, .top, .top, .top, .top, .top, .top, .top, .top, .top, .top, .top, .top, .top, .top, .top, .top, (.sl 7 .no (e.kids.length) (fun q2 => [(.int .i64 ((e.kids.get q2).kind)), (.int .i64 ((e.kids.get q2).op)), (.str ((e.kids.get q2).mod)), (.str ((e.kids.get q2).name)), (.int .i64 ((e.kids.get q2).vt)), (.int .u64 ((e.kids.get q2).vb)), (.sl 7 .no ((e.kids.get q2).kids.length) (fun q3 => row ((e.kids.get q2).kids.get q3)))])), (.int .i64 ((↑e.kids.length : Int))), (.int .i64 0), .top, .top, .top, .top, .top, .top] (.mk [(.var [(.int .i64 1), (.int .i64 (e.op)), (.str (e.mod)), (.str (e.name)), (.int .i64 (e.vt)), (.int .u64 (e.vb)), (.sl 7 .no (e.kids.length) (fun q2 => [(.int .i64 ((e.kids.get q2).kind)), (.int .i64 ((e.kids.get q2).op)), (.str ((e.kids.get q2).mod)), (.str ((e.kids.get q2).name)), (.int .i64 ((e.kids.get q2).vt)), (.int .u64 ((e.kids.get q2).vb)), (.sl 7 .no ((e.kids.get q2).kids.length) (fun q3 => row ((e.kids.get q2).kids.get q3)))]))])] [] .plain)) (kBody Try.prog polX u60 loops 46 [1, 1, 1, 1, 1, 1, 1, 1, 1, 1, 0] 0 .plain)))))) := by kernel_rfl
theorem e46_1 (loops : LoopK) (e : Ex) (i : Int) : (kBody Try.prog polX u60 loops 46 [1, 1, 1, 1, 1, 1, 1, 1, 1, 1, 0] 0 .plain) (.exit 0) (S46e 1 e i) =
  (some (.ret (.tup []) [] .plain)) := by kernel_rfl
theorem b46_2 (loops : LoopK) (e : Ex) : bodyL Try.prog polX u60 loops 46 [agK 2 e] [] .plain =
  (cond (((!(cond (cond (true) (e.op == (0 : Int)) (false)) (true) (false))) && (true))) (some (.pan (.ifc 93 (.int .i64 1)) [] .plain)) (cond (((!(cond (cond (cond (false) (true) (((e.mod) == []))) (true) (false)) (cond (false) (true) ((↑e.kids.length : Int) == bif (2 : Int) == (4 : Int) then (-1 : Int) else bif (2 : Int) == (5 : Int) then (-1 : Int) else bif (2 : Int) == (6 : Int) then (1 : Int) else bif (2 : Int) == (7 : Int) then (2 : Int) else (0 : Int))) (false))) && (true))) (some (.pan (.ifc 93 (.int .i64 1)) [] .plain)) (cond (((!(cond (false) (true) (cond (true) (((e.vt == (0 : Int)) && (((e.vb == (0 : Int)) && (true))))) (false)))) && (true))) (some (.pan (.ifc 93 (.int .i64 1)) [] .plain)) (chk (e.name.length < (1000000000 : Nat)) (cond (iF (62 : FuncId) [AV.str e.name] != (0 : Int)) (some (.pan (.ifc 93 (.int .i64 (iF (62 : FuncId) [AV.str e.name]))) [] .plain)) (cond (((!(decide ((↑e.kids.length : Int) ≤ bif decide ((bif (2 : Int) == (4 : Int) then (-1 : Int) else bif (2 : Int) == (5 : Int) then (-1 : Int) else bif (2 : Int) == (6 : Int) then (1 : Int) else bif (2 : Int) == (7 : Int) then (2 : Int) else (0 : Int)) > (8 : Int)) then bif (2 : Int) == (4 : Int) then (-1 : Int) else bif (2 : Int) == (5 : Int) then (-1 : Int) else bif (2 : Int) == (6 : Int) then (1 : Int) else bif (2 : Int) == (7 : Int) then (2 : Int) else (0 : Int) else (8 : Int)))) && (true))) (some (.pan (.ifc 93 (.int .i64 3)) [] .plain)) (loops 12 (.mk [.top, .top, .top, .top, .top, .top, .top, .top, .top, .top, .top, .top, .top, .top, .top, .top, .top, .top, .top, .top, .top, .top, .top, .top, .top, .top, .top, .top, .top, .top, .top, .top, .top, .top, .top, .top, .top, .top, .top, .top, .top, .top, .top, .top, .top, .top, .top, .top, .top, .top, .top, .top, .top, .top, .top, .top, .top, .top, .top, .top, .top, .top, .top, .top, .top, .top, .top, .top, .top, .top, .top, .top, .top, .top, .top, .top, .top, .top, .top, .top, .top, .top, .top, .top, .top, .top, .top, .top, .top, .top, .top, .top, .top, .top, .top, .top, .top, .top, .top, .top, .top, .top, .top, .top, .top, .top, .top, .top, .top, .top, .top, (.sl 7 .no (e.kids.length) (fun q3 => [(.int .i64 ((e.kids.get q3).kind)), (.int .i64 ((e.kids.get q3).op)), (.str ((e.kids.get q3).mod)), (.str ((e.kids.get q3).name)), (.int .i64 ((e.kids.get q3).vt)), (.int .u64 ((e.kids.get q3).vb)), (.sl 7 .no ((e.kids.get q3).kids.length) (fun q4 => row ((e.kids.get q3).kids.get q4)))])), (.int .i64 ((↑e.kids.length : Int))), (.int .i64 0), .top, .top, .top, .top, .top, .top] (.mk [(.var [(.int .i64 2), (.int .i64 (e.op)), (.str (e.mod)), (.str (e.name)), (.int .i64 (e.vt)), (.int .u64 (e.vb)), (.sl 7 .no (e.kids.length) (fun q3 => [(.int .i64 ((e.kids.get q3).kind)), (.int .i64 ((e.kids.get q3).op)), (.str ((e.kids.get q3).mod)), (.str ((e.kids.get q3).name)), (.int .i64 ((e.kids.get q3).vt)), (.int .u64 ((e.kids.get q3).vb)), (.sl 7 .no ((e.kids.get q3).kids.length) (fun q4 => row ((e.kids.get q3).kids.get q4)))]))])] [] .plain)) (kBody Try.prog polX u60 loops 46 [1, 1, 1, 1, 1, 1, 1, 1, 1, 1, 0] 0 .plain)))))))) := by kernel_rfl
theorem e46_2 (loops : LoopK) (e : Ex) (i : Int) : (kBody Try.prog polX u60 loops 46 [1, 1, 1, 1, 1, 1, 1, 1, 1, 1, 0] 0 .plain) (.exit 0) (S46e 2 e i) =
  (some (.ret (.tup []) [] .plain)) := by kernel_rfl
theorem b46_3 (loops : LoopK) (e : Ex) : bodyL Try.prog polX u60 loops 46 [agK 3 e] [] .plain =
  (cond (((!(cond (cond (true) (e.op == (0 : Int)) (false)) (true) (false))) && (true))) (some (.pan (.ifc 93 (.int .i64 1)) [] .plain)) (cond (((!(cond (true) (cond (false) (true) ((↑e.kids.length : Int) == bif (3 : Int) == (4 : Int) then (-1 : Int) else bif (3 : Int) == (5 : Int) then (-1 : Int) else bif (3 : Int) == (6 : Int) then (1 : Int) else bif (3 : Int) == (7 : Int) then (2 : Int) else (0 : Int))) (false))) && (true))) (some (.pan (.ifc 93 (.int .i64 1)) [] .plain)) (cond (((!(cond (false) (true) (cond (true) (((e.vt == (0 : Int)) && (((e.vb == (0 : Int)) && (true))))) (false)))) && (true))) (some (.pan (.ifc 93 (.int .i64 1)) [] .plain)) (chk (e.mod.length < (1000000000 : Nat)) (cond (iF (62 : FuncId) [AV.str e.mod] != (0 : Int)) (some (.pan (.ifc 93 (.int .i64 (iF (62 : FuncId) [AV.str e.mod]))) [] .plain)) (chk (e.name.length < (1000000000 : Nat)) (cond (iF (62 : FuncId) [AV.str e.name] != (0 : Int)) (some (.pan (.ifc 93 (.int .i64 (iF (62 : FuncId) [AV.str e.name]))) [] .plain)) (cond (((!(decide ((↑e.kids.length : Int) ≤ bif decide ((bif (3 : Int) == (4 : Int) then (-1 : Int) else bif (3 : Int) == (5 : Int) then (-1 : Int) else bif (3 : Int) == (6 : Int) then (1 : Int) else bif (3 : Int) == (7 : Int) then (2 : Int) else (0 : Int)) > (8 : Int)) then bif (3 : Int) == (4 : Int) then (-1 : Int) else bif (3 : Int) == (5 : Int) then (-1 : Int) else bif (3 : Int) == (6 : Int) then (1 : Int) else bif (3 : Int) == (7 : Int) then (2 : Int) else (0 : Int) else (8 : Int)))) && (true))) (some (.pan (.ifc 93 (.int .i64 3)) [] .plain)) (loops 12 (.mk [.top, .top, .top, .top, .top, .top, .top, .top, .top, .top, .top, .top, .top, .top, .top, .top, .top, .top, .top, .top, .top, .top, .top, .top, .top, .top, .top, .top, .top, .top, .top, .top, .top, .top, .top, .top, .top, .top, .top, .top, .top, .top, .top, .top, .top, .top, .top, .top, .top, .top, .top, .top, .top, .top, .top, .top, .top, .top, .top, .top, .top, .top, .top, .top, .top, .top, .top, .top, .top, .top, .top, .top, .top, .top, .top, .top, .top, .top, .top, .top, .top, .top, .top, .top, .top, .top, .top, .top, .top, .top, .top, .top, .top, .top, .top, .top, .top, .top, .top, .top, .top, .top, .top, .top, .top, .top, .top, .top, .top, .top, .top, (.sl 7 .no (e.kids.length) (fun q4 => [(.int .i64 ((e.kids.get q4).kind)), (.int .i64 ((e.kids.get q4).op)), (.str ((e.kids.get q4).mod)), (.str ((e.kids.get q4).name)), (.int .i64 ((e.kids.get q4).vt)), (.int .u64 ((e.kids.get q4).vb)), (.sl 7 .no ((e.kids.get q4).kids.length) (fun q5 => row ((e.kids.get q4).kids.get q5)))])), (.int .i64 ((↑e.kids.length : Int))), (.int .i64 0), .top, .top, .top, .top, .top, .top] (.mk [(.var [(.int .i64 3), (.int .i64 (e.op)), (.str (e.mod)), (.str (e.name)), (.int .i64 (e.vt)), (.int .u64 (e.vb)), (.sl 7 .no (e.kids.length) (fun q4 => [(.int .i64 ((e.kids.get q4).kind)), (.int .i64 ((e.kids.get q4).op)), (.str ((e.kids.get q4).mod)), (.str ((e.kids.get q4).name)), (.int .i64 ((e.kids.get q4).vt)), (.int .u64 ((e.kids.get q4).vb)), (.sl 7 .no ((e.kids.get q4).kids.length) (fun q5 => row ((e.kids.get q4).kids.get q5)))]))])] [] .plain)) (kBody Try.prog polX u60 loops 46 [1, 1, 1, 1, 1, 1, 1, 1, 1, 1, 0] 0 .plain)))))))))) := by kernel_rfl
theorem e46_3 (loops : LoopK) (e : Ex) (i : Int) : (kBody Try.prog polX u60 loops 46 [1, 1, 1, 1, 1, 1, 1, 1, 1, 1, 0] 0 .plain) (.exit 0) (S46e 3 e i) =
  (some (.ret (.tup []) [] .plain)) := by kernel_rfl
theorem b46_4 (loops : LoopK) (e : Ex) : bodyL Try.prog polX u60 loops 46 [agK 4 e] [] .plain =
  (cond (((!(cond (cond (true) (e.op == (0 : Int)) (false)) (true) (false))) && (true))) (some (.pan (.ifc 93 (.int .i64 1)) [] .plain)) (cond (((!(cond (cond (cond (false) (true) (((e.mod) == []))) (true) (false)) (true) (false))) && (true))) (some (.pan (.ifc 93 (.int .i64 1)) [] .plain)) (cond (((!(cond (false) (true) (cond (true) (((e.vt == (0 : Int)) && (((e.vb == (0 : Int)) && (true))))) (false)))) && (true))) (some (.pan (.ifc 93 (.int .i64 1)) [] .plain)) (chk (e.name.length < (1000000000 : Nat)) (cond (iF (62 : FuncId) [AV.str e.name] != (0 : Int)) (some (.pan (.ifc 93 (.int .i64 (iF (62 : FuncId) [AV.str e.name]))) [] .plain)) (cond (((!(decide ((↑e.kids.length : Int) ≤ bif decide ((bif (4 : Int) == (4 : Int) then (-1 : Int) else bif (4 : Int) == (5 : Int) then (-1 : Int) else bif (4 : Int) == (6 : Int) then (1 : Int) else bif (4 : Int) == (7 : Int) then (2 : Int) else (0 : Int)) > (8 : Int)) then bif (4 : Int) == (4 : Int) then (-1 : Int) else bif (4 : Int) == (5 : Int) then (-1 : Int) else bif (4 : Int) == (6 : Int) then (1 : Int) else bif (4 : Int) == (7 : Int) then (2 : Int) else (0 : Int) else (8 : Int)))) && (true))) (some (.pan (.ifc 93 (.int .i64 3)) [] .plain)) (loops 12 (.mk [.top, .top, .top, .top, .top, .top, .top, .top, .top, .top, .top, .top, .top, .top, .top, .top, .top, .top, .top, .top, .top, .top, .top, .top, .top, .top, .top, .top, .top, .top, .top, .top, .top, .top, .top, .top, .top, .top, .top, .top, .top, .top, .top, .top, .top, .top, .top, .top, .top, .top, .top, .top, .top, .top, .top, .top, .top, .top, .top, .top, .top, .top, .top, .top, .top, .top, .top, .top, .top, .top, .top, .top, .top, .top, .top, .top, .top, .top, .top, .top, .top, .top, .top, .top, .top, .top, .top, .top, .top, .top, .top, .top, .top, .top, .top, .top, .top, .top, .top, .top, .top, .top, .top, .top, .top, .top, .top, .top, .top, .top, .top, (.sl 7 .no (e.kids.length) (fun q3 => [(.int .i64 ((e.kids.get q3).kind)), (.int .i64 ((e.kids.get q3).op)), (.str ((e.kids.get q3).mod)), (.str ((e.kids.get q3).name)), (.int .i64 ((e.kids.get q3).vt)), (.int .u64 ((e.kids.get q3).vb)), (.sl 7 .no ((e.kids.get q3).kids.length) (fun q4 => row ((e.kids.get q3).kids.get q4)))])), (.int .i64 ((↑e.kids.length : Int))), (.int .i64 0), .top, .top, .top, .top, .top, .top] (.mk [(.var [(.int .i64 4), (.int .i64 (e.op)), (.str (e.mod)), (.str (e.name)), (.int .i64 (e.vt)), (.int .u64 (e.vb)), (.sl 7 .no (e.kids.length) (fun q3 => [(.int .i64 ((e.kids.get q3).kind)), (.int .i64 ((e.kids.get q3).op)), (.str ((e.kids.get q3).mod)), (.str ((e.kids.get q3).name)), (.int .i64 ((e.kids.get q3).vt)), (.int .u64 ((e.kids.get q3).vb)), (.sl 7 .no ((e.kids.get q3).kids.length) (fun q4 => row ((e.kids.get q3).kids.get q4)))]))])] [] .plain)) (kBody Try.prog polX u60 loops 46 [1, 1, 1, 1, 1, 1, 1, 1, 1, 1, 0] 0 .plain)))))))) := by kernel_rfl
theorem e46_4 (loops : LoopK) (e : Ex) (i : Int) : (kBody Try.prog polX u60 loops 46 [1, 1, 1, 1, 1, 1, 1, 1, 1, 1, 0] 0 .plain) (.exit 0) (S46e 4 e i) =
  (some (.ret (.tup []) [] .plain)) := by kernel_rfl
theorem b46_5 (loops : LoopK) (e : Ex) : bodyL Try.prog polX u60 loops 46 [agK 5 e] [] .plain =
  (cond (((!(cond (cond (true) (e.op == (0 : Int)) (false)) (true) (false))) && (true))) (some (.pan (.ifc 93 (.int .i64 1)) [] .plain)) (cond (((!(cond (false) (true) (cond (true) (((e.vt == (0 : Int)) && (((e.vb == (0 : Int)) && (true))))) (false)))) && (true))) (some (.pan (.ifc 93 (.int .i64 1)) [] .plain)) (chk (e.mod.length < (1000000000 : Nat)) (cond (iF (62 : FuncId) [AV.str e.mod] != (0 : Int)) (some (.pan (.ifc 93 (.int .i64 (iF (62 : FuncId) [AV.str e.mod]))) [] .plain)) (chk (e.name.length < (1000000000 : Nat)) (cond (iF (62 : FuncId) [AV.str e.name] != (0 : Int)) (some (.pan (.ifc 93 (.int .i64 (iF (62 : FuncId) [AV.str e.name]))) [] .plain)) (cond (((!(decide ((↑e.kids.length : Int) ≤ bif decide ((bif (5 : Int) == (4 : Int) then (-1 : Int) else bif (5 : Int) == (5 : Int) then (-1 : Int) else bif (5 : Int) == (6 : Int) then (1 : Int) else bif (5 : Int) == (7 : Int) then (2 : Int) else (0 : Int)) > (8 : Int)) then bif (5 : Int) == (4 : Int) then (-1 : Int) else bif (5 : Int) == (5 : Int) then (-1 : Int) else bif (5 : Int) == (6 : Int) then (1 : Int) else bif (5 : Int) == (7 : Int) then (2 : Int) else (0 : Int) else (8 : Int)))) && (true))) (some (.pan (.ifc 93 (.int .i64 3)) [] .plain)) (loops 12 (.mk [.top, .top, .top, .top, .top, .top, .top, .top, .top, .top, .top, .top, .top, .top, .top, .top, .top, .top, .top, .top, .top, .top, .top, .top, .top, .top, .top, .top, .top, .top, .top, .top, .top, .top, .top, .top, .top, .top, .top, .top, .top, .top, .top, .top, .top, .top, .top, .top, .top, .top, .top, .top, .top, .top, .top, .top, .top, .top, .top, .top, .top, .top, .top, .top, .top, .top, .top, .top, .top, .top, .top, .top, .top, .top, .top, .top, .top, .top, .top, .top, .top, .top, .top, .top, .top, .top, .top, .top, .top, .top, .top, .top, .top, .top, .top, .top, .top, .top, .top, .top, .top, .top, .top, .top, .top, .top, .top, .top, .top, .top, .top, (.sl 7 .no (e.kids.length) (fun q4 => [(.int .i64 ((e.kids.get q4).kind)), (.int .i64 ((e.kids.get q4).op)), (.str ((e.kids.get q4).mod)), (.str ((e.kids.get q4).name)), (.int .i64 ((e.kids.get q4).vt)), (.int .u64 ((e.kids.get q4).vb)), (.sl 7 .no ((e.kids.get q4).kids.length) (fun q5 => row ((e.kids.get q4).kids.get q5)))])), (.int .i64 ((↑e.kids.length : Int))), (.int .i64 0), .top, .top, .top, .top, .top, .top] (.mk [(.var [(.int .i64 5), (.int .i64 (e.op)), (.str (e.mod)), (.str (e.name)), (.int .i64 (e.vt)), (.int .u64 (e.vb)), (.sl 7 .no (e.kids.length) (fun q4 => [(.int .i64 ((e.kids.get q4).kind)), (.int .i64 ((e.kids.get q4).op)), (.str ((e.kids.get q4).mod)), (.str ((e.kids.get q4).name)), (.int .i64 ((e.kids.get q4).vt)), (.int .u64 ((e.kids.get q4).vb)), (.sl 7 .no ((e.kids.get q4).kids.length) (fun q5 => row ((e.kids.get q4).kids.get q5)))]))])] [] .plain)) (kBody Try.prog polX u60 loops 46 [1, 1, 1, 1, 1, 1, 1, 1, 1, 1, 0] 0 .plain))))))))) := by kernel_rfl
theorem e46_5 (loops : LoopK) (e : Ex) (i : Int) : (kBody Try.prog polX u60 loops 46 [1, 1, 1, 1, 1, 1, 1, 1, 1, 1, 0] 0 .plain) (.exit 0) (S46e 5 e i) =
  (some (.ret (.tup []) [] .plain)) := by kernel_rfl
theorem b46_6 (loops : LoopK) (e : Ex) : bodyL Try.prog polX u60 loops 46 [agK 6 e] [] .plain =
  (cond (((!(cond (false) (true) (cond (cond (true) (decide (e.op ≥ (1 : Int))) (false)) (decide (e.op ≤ bif (6 : Int) == (6 : Int) then (4 : Int) else bif (6 : Int) == (7 : Int) then (13 : Int) else (0 : Int))) (false)))) && (true))) (some (.pan (.ifc 93 (.int .i64 1)) [] .plain)) (cond (((!(cond (cond (cond (false) (true) (((e.mod) == []))) (cond (false) (true) (((e.name) == []))) (false)) (cond (false) (true) ((↑e.kids.length : Int) == bif (6 : Int) == (4 : Int) then (-1 : Int) else bif (6 : Int) == (5 : Int) then (-1 : Int) else bif (6 : Int) == (6 : Int) then (1 : Int) else bif (6 : Int) == (7 : Int) then (2 : Int) else (0 : Int))) (false))) && (true))) (some (.pan (.ifc 93 (.int .i64 1)) [] .plain)) (cond (((!(cond (false) (true) (cond (true) (((e.vt == (0 : Int)) && (((e.vb == (0 : Int)) && (true))))) (false)))) && (true))) (some (.pan (.ifc 93 (.int .i64 1)) [] .plain)) (cond (((!(decide ((↑e.kids.length : Int) ≤ bif decide ((bif (6 : Int) == (4 : Int) then (-1 : Int) else bif (6 : Int) == (5 : Int) then (-1 : Int) else bif (6 : Int) == (6 : Int) then (1 : Int) else bif (6 : Int) == (7 : Int) then (2 : Int) else (0 : Int)) > (8 : Int)) then bif (6 : Int) == (4 : Int) then (-1 : Int) else bif (6 : Int) == (5 : Int) then (-1 : Int) else bif (6 : Int) == (6 : Int) then (1 : Int) else bif (6 : Int) == (7 : Int) then (2 : Int) else (0 : Int) else (8 : Int)))) && (true))) (some (.pan (.ifc 93 (.int .i64 3)) [] .plain)) (loops 12 (.mk [.top, .top, .top, .top, .top, .top, .top, .top, .top, .top, .top, .top, .top, .top, .top, .top, .top, .top, .top, .top, .top, .top, .top, .top, .top, .top, .top, .top, .top, .top, .top, .top, .top, .top, .top, .top, .top, .top, .top, .top, .top, .top, .top, .top, .top, .top, .top, .top, .top, .top, .top, .top, .top, .top, .top, .top, .top, .top, .top, .top, .top, .top, .top, .top, .top, .top, .top, .top, .top, .top, .top, .top, .top, .top, .top, .top, .top, .top, .top, .top, .top, .top, .top, .top, .top, .top, .top, .top, .top, .top, .top, .top, .top, .top, .top, .top, .top, .top, .top, .top, .top, .top, .top, .top, .top, .top, .top, .top, .top, .top, .top, (.sl 7 .no (e.kids.length) (fun q2 => [(.int .i64 ((e.kids.get q2).kind)), (.int .i64 ((e.kids.get q2).op)), (.str ((e.kids.get q2).mod)), (.str ((e.kids.get q2).name)), (.int .i64 ((e.kids.get q2).vt)), (.int .u64 ((e.kids.get q2).vb)), (.sl 7 .no ((e.kids.get q2).kids.length) (fun q3 => row ((e.kids.get q2).kids.get q3)))])), (.int .i64 ((↑e.kids.length : Int))), (.int .i64 0), .top, .top, .top, .top, .top, .top] (.mk [(.var [(.int .i64 6), (.int .i64 (e.op)), (.str (e.mod)), (.str (e.name)), (.int .i64 (e.vt)), (.int .u64 (e.vb)), (.sl 7 .no (e.kids.length) (fun q2 => [(.int .i64 ((e.kids.get q2).kind)), (.int .i64 ((e.kids.get q2).op)), (.str ((e.kids.get q2).mod)), (.str ((e.kids.get q2).name)), (.int .i64 ((e.kids.get q2).vt)), (.int .u64 ((e.kids.get q2).vb)), (.sl 7 .no ((e.kids.get q2).kids.length) (fun q3 => row ((e.kids.get q2).kids.get q3)))]))])] [] .plain)) (kBody Try.prog polX u60 loops 46 [1, 1, 1, 1, 1, 1, 1, 1, 1, 1, 0] 0 .plain)))))) := by kernel_rfl
theorem e46_6 (loops : LoopK) (e : Ex) (i : Int) : (kBody Try.prog polX u60 loops 46 [1, 1, 1, 1, 1, 1, 1, 1, 1, 1, 0] 0 .plain) (.exit 0) (S46e 6 e i) =
  (some (.ret (.tup []) [] .plain)) := by kernel_rfl
theorem b46_7 (loops : LoopK) (e : Ex) : bodyL Try.prog polX u60 loops 46 [agK 7 e] [] .plain =
  (cond (((!(cond (false) (true) (cond (cond (true) (decide (e.op ≥ (1 : Int))) (false)) (decide (e.op ≤ bif (7 : Int) == (6 : Int) then (4 : Int) else bif (7 : Int) == (7 : Int) then (13 : Int) else (0 : Int))) (false)))) && (true))) (some (.pan (.ifc 93 (.int .i64 1)) [] .plain)) (cond (((!(cond (cond (cond (false) (true) (((e.mod) == []))) (cond (false) (true) (((e.name) == []))) (false)) (cond (false) (true) ((↑e.kids.length : Int) == bif (7 : Int) == (4 : Int) then (-1 : Int) else bif (7 : Int) == (5 : Int) then (-1 : Int) else bif (7 : Int) == (6 : Int) then (1 : Int) else bif (7 : Int) == (7 : Int) then (2 : Int) else (0 : Int))) (false))) && (true))) (some (.pan (.ifc 93 (.int .i64 1)) [] .plain)) (cond (((!(cond (false) (true) (cond (true) (((e.vt == (0 : Int)) && (((e.vb == (0 : Int)) && (true))))) (false)))) && (true))) (some (.pan (.ifc 93 (.int .i64 1)) [] .plain)) (cond (((!(decide ((↑e.kids.length : Int) ≤ bif decide ((bif (7 : Int) == (4 : Int) then (-1 : Int) else bif (7 : Int) == (5 : Int) then (-1 : Int) else bif (7 : Int) == (6 : Int) then (1 : Int) else bif (7 : Int) == (7 : Int) then (2 : Int) else (0 : Int)) > (8 : Int)) then bif (7 : Int) == (4 : Int) then (-1 : Int) else bif (7 : Int) == (5 : Int) then (-1 : Int) else bif (7 : Int) == (6 : Int) then (1 : Int) else bif (7 : Int) == (7 : Int) then (2 : Int) else (0 : Int) else (8 : Int)))) && (true))) (some (.pan (.ifc 93 (.int .i64 3)) [] .plain)) (loops 12 (.mk [.top, .top, .top, .top, .top, .top, .top, .top, .top, .top, .top, .top, .top, .top, .top, .top, .top, .top, .top, .top, .top, .top, .top, .top, .top, .top, .top, .top, .top, .top, .top, .top, .top, .top, .top, .top, .top, .top, .top, .top, .top, .top, .top, .top, .top, .top, .top, .top, .top, .top, .top, .top, .top, .top, .top, .top, .top, .top, .top, .top, .top, .top, .top, .top, .top, .top, .top, .top, .top, .top, .top, .top, .top, .top, .top, .top, .top, .top, .top, .top, .top, .top, .top, .top, .top, .top, .top, .top, .top, .top, .top, .top, .top, .top, .top, .top, .top, .top, .top, .top, .top, .top, .top, .top, .top, .top, .top, .top, .top, .top, .top, (.sl 7 .no (e.kids.length) (fun q2 => [(.int .i64 ((e.kids.get q2).kind)), (.int .i64 ((e.kids.get q2).op)), (.str ((e.kids.get q2).mod)), (.str ((e.kids.get q2).name)), (.int .i64 ((e.kids.get q2).vt)), (.int .u64 ((e.kids.get q2).vb)), (.sl 7 .no ((e.kids.get q2).kids.length) (fun q3 => row ((e.kids.get q2).kids.get q3)))])), (.int .i64 ((↑e.kids.length : Int))), (.int .i64 0), .top, .top, .top, .top, .top, .top] (.mk [(.var [(.int .i64 7), (.int .i64 (e.op)), (.str (e.mod)), (.str (e.name)), (.int .i64 (e.vt)), (.int .u64 (e.vb)), (.sl 7 .no (e.kids.length) (fun q2 => [(.int .i64 ((e.kids.get q2).kind)), (.int .i64 ((e.kids.get q2).op)), (.str ((e.kids.get q2).mod)), (.str ((e.kids.get q2).name)), (.int .i64 ((e.kids.get q2).vt)), (.int .u64 ((e.kids.get q2).vb)), (.sl 7 .no ((e.kids.get q2).kids.length) (fun q3 => row ((e.kids.get q2).kids.get q3)))]))])] [] .plain)) (kBody Try.prog polX u60 loops 46 [1, 1, 1, 1, 1, 1, 1, 1, 1, 1, 0] 0 .plain)))))) := by kernel_rfl
theorem e46_7 (loops : LoopK) (e : Ex) (i : Int) : (kBody Try.prog polX u60 loops 46 [1, 1, 1, 1, 1, 1, 1, 1, 1, 1, 0] 0 .plain) (.exit 0) (S46e 7 e i) =
  (some (.ret (.tup []) [] .plain)) := by kernel_rfl
theorem b46_8 (loops : LoopK) (e : Ex) : bodyL Try.prog polX u60 loops 46 [agK 8 e] [] .plain =
  (cond (((!(cond (cond (true) (e.op == (0 : Int)) (false)) (true) (false))) && (true))) (some (.pan (.ifc 93 (.int .i64 1)) [] .plain)) (cond (((!(cond (cond (cond (false) (true) (((e.mod) == []))) (cond (false) (true) (((e.name) == []))) (false)) (cond (false) (true) ((↑e.kids.length : Int) == bif (8 : Int) == (4 : Int) then (-1 : Int) else bif (8 : Int) == (5 : Int) then (-1 : Int) else bif (8 : Int) == (6 : Int) then (1 : Int) else bif (8 : Int) == (7 : Int) then (2 : Int) else (0 : Int))) (false))) && (true))) (some (.pan (.ifc 93 (.int .i64 1)) [] .plain)) (cond (((!(cond (false) (true) (cond (true) (((e.vt == (0 : Int)) && (((e.vb == (0 : Int)) && (true))))) (false)))) && (true))) (some (.pan (.ifc 93 (.int .i64 1)) [] .plain)) (cond (((!(decide ((↑e.kids.length : Int) ≤ bif decide ((bif (8 : Int) == (4 : Int) then (-1 : Int) else bif (8 : Int) == (5 : Int) then (-1 : Int) else bif (8 : Int) == (6 : Int) then (1 : Int) else bif (8 : Int) == (7 : Int) then (2 : Int) else (0 : Int)) > (8 : Int)) then bif (8 : Int) == (4 : Int) then (-1 : Int) else bif (8 : Int) == (5 : Int) then (-1 : Int) else bif (8 : Int) == (6 : Int) then (1 : Int) else bif (8 : Int) == (7 : Int) then (2 : Int) else (0 : Int) else (8 : Int)))) && (true))) (some (.pan (.ifc 93 (.int .i64 3)) [] .plain)) (loops 12 (.mk [.top, .top, .top, .top, .top, .top, .top, .top, .top, .top, .top, .top, .top, .top, .top, .top, .top, .top, .top, .top, .top, .top, .top, .top, .top, .top, .top, .top, .top, .top, .top, .top, .top, .top, .top, .top, .top, .top, .top, .top, .top, .top, .top, .top, .top, .top, .top, .top, .top, .top, .top, .top, .top, .top, .top, .top, .top, .top, .top, .top, .top, .top, .top, .top, .top, .top, .top, .top, .top, .top, .top, .top, .top, .top, .top, .top, .top, .top, .top, .top, .top, .top, .top, .top, .top, .top, .top, .top, .top, .top, .top, .top, .top, .top, .top, .top, .top, .top, .top, .top, .top, .top, .top, .top, .top, .top, .top, .top, .top, .top, .top, (.sl 7 .no (e.kids.length) (fun q2 => [(.int .i64 ((e.kids.get q2).kind)), (.int .i64 ((e.kids.get q2).op)), (.str ((e.kids.get q2).mod)), (.str ((e.kids.get q2).name)), (.int .i64 ((e.kids.get q2).vt)), (.int .u64 ((e.kids.get q2).vb)), (.sl 7 .no ((e.kids.get q2).kids.length) (fun q3 => row ((e.kids.get q2).kids.get q3)))])), (.int .i64 ((↑e.kids.length : Int))), (.int .i64 0), .top, .top, .top, .top, .top, .top] (.mk [(.var [(.int .i64 8), (.int .i64 (e.op)), (.str (e.mod)), (.str (e.name)), (.int .i64 (e.vt)), (.int .u64 (e.vb)), (.sl 7 .no (e.kids.length) (fun q2 => [(.int .i64 ((e.kids.get q2).kind)), (.int .i64 ((e.kids.get q2).op)), (.str ((e.kids.get q2).mod)), (.str ((e.kids.get q2).name)), (.int .i64 ((e.kids.get q2).vt)), (.int .u64 ((e.kids.get q2).vb)), (.sl 7 .no ((e.kids.get q2).kids.length) (fun q3 => row ((e.kids.get q2).kids.get q3)))]))])] [] .plain)) (kBody Try.prog polX u60 loops 46 [1, 1, 1, 1, 1, 1, 1, 1, 1, 1, 0] 0 .plain)))))) := by kernel_rfl
theorem e46_8 (loops : LoopK) (e : Ex) (i : Int) : (kBody Try.prog polX u60 loops 46 [1, 1, 1, 1, 1, 1, 1, 1, 1, 1, 0] 0 .plain) (.exit 0) (S46e 8 e i) =
  (some (.ret (.tup []) [] .plain)) := by kernel_rfl
theorem p46 (loops : LoopK) (T : List AV) (hh : List Den.Obj) (n : Int) : (kBody Try.prog polX u60 loops 46 [1, 1, 1, 1, 1, 1, 1, 1, 1, 1, 0] 0 .plain) (.pan (.ifc 93 (.int .i64 n))) ⟨T, ⟨hh, [], .plain⟩⟩ =
  (some (.pan (.ifc 93 (.int .i64 n)) [] .plain)) := by kernel_rfl
theorem b46o (loops : LoopK) (q : Int) (e : Ex) : bodyL Try.prog polX uAsk loops 46 [agK q e] [] .plain =
  (chk (Eq (α := Bool) (cond (decide (q ≥ (1 : Int))) (decide (q ≤ (8 : Int))) (false)) false ∧ (1 : Int) ≠ (0 : Int)) (some (.pan (.ifc 93 (.int .i64 1)) [] .plain))) := by kernel_rfl
end Go.Proofs

/- Expressions must be right: what it comes to. -/
namespace Go.Proofs
open Go.Den
set_option maxRecDepth 100000
/-- nothing in it is too great -/
inductive Small : Ex → Prop
  | mk (e : Ex) : e.mod.length < 1000000000 → e.name.length < 1000000000 → e.kids.length < 1000000000 → (∀ j, Small (e.kids.get j)) → Small e
/-- what is known of one that is right -/
inductive Good : Ex → Prop
  | mk (e : Ex) : (e.kind = 2 → e.mod = []) → (e.kind = 3 → Begins e.mod) → (e.kind = 6 → e.kids.length = 1) → (e.kind = 7 → e.kids.length = 2) → (∀ j, Good (e.kids.get j)) → Good e
def Q46 (e : Ex) (o : Out) : Prop := (o = .ret (.tup []) [] .plain ∧ Good e) ∨ ∃ n, n ≠ 0 ∧ o = .pan (.ifc 93 (.int .i64 n)) [] .plain
theorem q46_val {e : Ex} (h : Tot (dX 46 [agE e] [] .plain) (Q46 e)) : dX 46 [agE e] [] .plain = cond (pF 46 [agE e]) (some (.pan (.ifc 93 (.int .i64 (eF 46 [agE e]))) [] .plain)) (some (.ret (.tup []) [] .plain)) ∧
    (pF 46 [agE e] = false → Good e) ∧ (pF 46 [agE e] = true → eF 46 [agE e] ≠ 0) := by
  obtain ⟨o, h1, h2⟩ := h
  rcases h2 with ⟨rfl, hg⟩ | ⟨n, hn, rfl⟩
  · have : pF 46 [agE e] = false := by simp only [pF, h1]
    exact ⟨by rw [this]; exact h1, fun _ => hg, fun h => (by rw [this] at h; cases h)⟩
  · have : pF 46 [agE e] = true := by simp only [pF, h1]
    have h2 : eF 46 [agE e] = n := by simp only [eF, h1]
    exact ⟨by rw [this, h2]; exact h1, fun h => (by rw [this] at h; cases h), fun _ => (by rw [h2]; exact hn)⟩
theorem u46_le {kid : Ex} (h : Tot (dX 46 [agE kid] [] .plain) (Q46 kid)) : CallLeK (u46 kid) dX := by
  intro f args h' ps kk o e
  unfold u46 at e
  split at e
  · obtain ⟨⟨rfl, rfl, rfl⟩, e'⟩ := chk_some e
    clear e
    obtain ⟨hv, _⟩ := q46_val h
    rw [agS]
    cases hp : pF 46 [agE kid] with
    | true => rw [hp] at e' hv; exact ⟨_, e', hv⟩
    | false => rw [hp] at e' hv; exact ⟨_, e', hv⟩
  · cases e
abbrev P46 : List Nat := [1, 1, 1, 1, 1, 1, 1, 1, 1, 1, 0]
noncomputable abbrev K46 (n : Nat) : Den.Exit → St → R := kBody Try.prog polX u60 (lpR Try.prog polX dX n 46 (loopsOf (bodyOf Try.prog 46))) 46 P46 0 .plain
def Q46l (e : Ex) (o : Out) : Prop := (o = .ret (.tup []) [] .plain ∧ ∀ j, Good (e.kids.get j)) ∨ ∃ n, n ≠ 0 ∧ o = .pan (.ifc 93 (.int .i64 n)) [] .plain
theorem lp46 (q : Int) (e : Ex) (hl : e.kids.length < 1000000000) (ih : ∀ j, Tot (dX 46 [agE (e.kids.get j)] [] .plain) (Q46 (e.kids.get j)))
    (hend : ∀ i, K46 (e.kids.length + 1) (.exit 0) (S46e q e i) = some (.ret (.tup []) [] .plain)) :
    Tot (codeD Try.prog polX (bindK dX) (e.kids.length + 1) 46 (.loop (Code.part (bodyOf Try.prog 46) [1, 1, 1, 1, 1, 1, 1, 1, 1, 1, 0, 0])) (S46 q e 0) (K46 (e.kids.length + 1))) (Q46l e) := by
  refine loop_tot (α := Unit) (calls := fun i => if h : i < e.kids.length then u46 (e.kids.get ⟨i, h⟩) else noCall) (fun i => ?_) (keep := false) rfl (inner := noLoops) no_loops
    (fun i _ => S46 q e i) (fun i _ => ∀ j : Fin e.kids.length, j.1 < i → Good (e.kids.get j)) e.kids.length (Nat.lt_succ_self _) () (fun j h => by omega) ?_ (H := 1) rfl ?_
  · split
    · exact u46_le (ih _)
    · exact noCall_le
  · show _ = _
    kernel_rfl
  · intro i _ hi hI K hK hE
    by_cases hlt : i < e.kids.length
    · simp only [dif_pos hlt]
      rw [r46]
      have h1 : decide ((i : Int) < e.kids.length) = true := by simpa using hlt
      have h2 : (0 : Int) ≤ i ∧ (i : Int).toNat < e.kids.length := by omega
      rw [h1, cond_true]
      refine Tot.dite h2 (Tot.chk ⟨rfl, rfl, rfl⟩ ?_)
      obtain ⟨_, hg, hp⟩ := q46_val (ih ⟨i, hlt⟩)
      refine Tot.cond (fun hpf => ?_) fun hpf => ?_
      · rw [hE _ _ (by simp)]
        unfold K46
        rw [p46]
        exact Tot.some (.inr ⟨_, hp hpf, rfl⟩)
      · refine hK _ () hlt (fun j hj => ?_) ?_
        · by_cases hji : j.1 = i
          · have : j = ⟨i, hlt⟩ := Fin.ext hji
            rw [this]; exact hg hpf
          · exact hI j (by omega)
        · rw [wrap_succ (by omega)]
          show _ = _
          kernel_rfl
    · have : i = e.kids.length := by omega
      subst this
      simp only [Nat.lt_irrefl, dite_false]
      rw [r46n]
      have h1 : decide ((e.kids.length : Int) < e.kids.length) = false := by simp
      have hend' := hend e.kids.length
      unfold S46e at hend'
      rw [h1] at hend' ⊢
      rw [cond_false, hE _ _ (by simp)]
      exact ⟨_, hend', .inl ⟨rfl, fun j => hI j j.2⟩⟩
theorem b62F (s : List UInt8) (h : s.length < 1000000000) (h0 : (iF 62 [.str s] != 0) = false) : Begins s := by
  obtain ⟨o, h1, n, rfl, h2⟩ := f62_tot s h
  have : iF 62 [.str s] = n := by simp only [iF, h1]
  rw [this] at h0
  exact h2 (by simpa using h0)
theorem f46_tot (e : Ex) (hs : Small e) : Tot (dX 46 [agE e] [] .plain) (Q46 e) := by
  induction hs with
  | mk e hm hn hl _ ih =>
    by_cases hk : 1 ≤ e.kind ∧ e.kind ≤ 8
    · have lp : ∀ k : Int, (∀ i, K46 (e.kids.length + 1) (.exit 0) (S46e k e i) = some (.ret (.tup []) [] .plain)) →
          Tot (lpR Try.prog polX dX (e.kids.length + 1) 46 (loopsOf (bodyOf Try.prog 46)) 12 (S46 k e 0) (K46 (e.kids.length + 1))) (Q46l e) :=
        fun k h => lpR_tot (by kernel_rfl) (lp46 k e hl ih h)
      have pan : ∀ n : Int, n ≠ 0 → Tot (some (.pan (.ifc 93 (.int .i64 n)) [] .plain)) (Q46 e) := fun n hn => Tot.some (.inr ⟨n, hn, rfl⟩)
      have fin : ∀ {r : R}, Tot r (Q46l e) → (e.kind = 2 → e.mod = []) → (e.kind = 3 → Begins e.mod) → (e.kind = 6 → e.kids.length = 1) → (e.kind = 7 → e.kids.length = 2) → Tot r (Q46 e) := by
        intro r h g2 g3 g6 g7
        refine h.mono fun o ho => ?_
        rcases ho with ⟨h1, h2⟩ | h1
        · exact .inl ⟨h1, .mk e g2 g3 g6 g7 h2⟩
        · exact .inr h1
      have he : agE e = agK e.kind e := rfl
      rw [he]
      refine denA_tot (e.kids.length + 1) u60_le rfl (by kernel_rfl) ?_
      have hcases : e.kind = 1 ∨ e.kind = 2 ∨ e.kind = 3 ∨ e.kind = 4 ∨ e.kind = 5 ∨ e.kind = 6 ∨ e.kind = 7 ∨ e.kind = 8 := by omega
      rcases hcases with h | h | h | h | h | h | h | h <;> rw [h]
      · rw [b46_1]
        repeat' first
          | exact pan _ (by decide)
          | (with_reducible refine Tot.cond (fun hc => pan _ (by decide)) fun hc => ?_)
          | (with_reducible refine Tot.chk (by assumption) ?_)
          | (with_reducible refine Tot.cond (fun hc => pan _ (by simpa using hc)) fun hc => ?_)
        refine fin (lp 1 fun i => e46_1 _ _ _) ?_ ?_ ?_ ?_
        all_goals (intro hh; rw [h] at hh; first | (exfalso; revert hh; decide) | skip)
      · rw [b46_2]
        repeat' first
          | exact pan _ (by decide)
          | (with_reducible refine Tot.cond (fun hc => pan _ (by decide)) fun hc => ?_)
          | (with_reducible refine Tot.chk (by assumption) ?_)
          | (with_reducible refine Tot.cond (fun hc => pan _ (by simpa using hc)) fun hc => ?_)
        refine fin (lp 2 fun i => e46_2 _ _ _) ?_ ?_ ?_ ?_
        all_goals (intro hh; rw [h] at hh; first | (exfalso; revert hh; decide) | skip)
        simp_all
      · rw [b46_3]
        repeat' first
          | exact pan _ (by decide)
          | (with_reducible refine Tot.cond (fun hc => pan _ (by decide)) fun hc => ?_)
          | (with_reducible refine Tot.chk (by assumption) ?_)
          | (with_reducible refine Tot.cond (fun hc => pan _ (by simpa using hc)) fun hc => ?_)
        refine fin (lp 3 fun i => e46_3 _ _ _) ?_ ?_ ?_ ?_
        all_goals (intro hh; rw [h] at hh; first | (exfalso; revert hh; decide) | skip)
        exact b62F _ hm (by assumption)
      · rw [b46_4]
        repeat' first
          | exact pan _ (by decide)
          | (with_reducible refine Tot.cond (fun hc => pan _ (by decide)) fun hc => ?_)
          | (with_reducible refine Tot.chk (by assumption) ?_)
          | (with_reducible refine Tot.cond (fun hc => pan _ (by simpa using hc)) fun hc => ?_)
        refine fin (lp 4 fun i => e46_4 _ _ _) ?_ ?_ ?_ ?_
        all_goals (intro hh; rw [h] at hh; first | (exfalso; revert hh; decide) | skip)
      · rw [b46_5]
        repeat' first
          | exact pan _ (by decide)
          | (with_reducible refine Tot.cond (fun hc => pan _ (by decide)) fun hc => ?_)
          | (with_reducible refine Tot.chk (by assumption) ?_)
          | (with_reducible refine Tot.cond (fun hc => pan _ (by simpa using hc)) fun hc => ?_)
        refine fin (lp 5 fun i => e46_5 _ _ _) ?_ ?_ ?_ ?_
        all_goals (intro hh; rw [h] at hh; first | (exfalso; revert hh; decide) | skip)
      · rw [b46_6]
        repeat' first
          | exact pan _ (by decide)
          | (with_reducible refine Tot.cond (fun hc => pan _ (by decide)) fun hc => ?_)
          | (with_reducible refine Tot.chk (by assumption) ?_)
          | (with_reducible refine Tot.cond (fun hc => pan _ (by simpa using hc)) fun hc => ?_)
        refine fin (lp 6 fun i => e46_6 _ _ _) ?_ ?_ ?_ ?_
        all_goals (intro hh; rw [h] at hh; first | (exfalso; revert hh; decide) | skip)
        simp_all
        omega
      · rw [b46_7]
        repeat' first
          | exact pan _ (by decide)
          | (with_reducible refine Tot.cond (fun hc => pan _ (by decide)) fun hc => ?_)
          | (with_reducible refine Tot.chk (by assumption) ?_)
          | (with_reducible refine Tot.cond (fun hc => pan _ (by simpa using hc)) fun hc => ?_)
        refine fin (lp 7 fun i => e46_7 _ _ _) ?_ ?_ ?_ ?_
        all_goals (intro hh; rw [h] at hh; first | (exfalso; revert hh; decide) | skip)
        simp_all
        omega
      · rw [b46_8]
        repeat' first
          | exact pan _ (by decide)
          | (with_reducible refine Tot.cond (fun hc => pan _ (by decide)) fun hc => ?_)
          | (with_reducible refine Tot.chk (by assumption) ?_)
          | (with_reducible refine Tot.cond (fun hc => pan _ (by simpa using hc)) fun hc => ?_)
        refine fin (lp 8 fun i => e46_8 _ _ _) ?_ ?_ ?_ ?_
        all_goals (intro hh; rw [h] at hh; first | (exfalso; revert hh; decide) | skip)
    · have he : agE e = agK e.kind e := rfl
      rw [he]
      refine denA_tot 0 uAsk_le rfl (by kernel_rfl) ?_
      rw [b46o]
      refine Tot.chk ⟨?_, by decide⟩ (Tot.some (.inr ⟨1, by decide, rfl⟩))
      by_cases h1 : e.kind ≥ 1
      · simp [h1]; omega
      · simp [h1]
end Go.Proofs

/- How deep expressions are; are they right: what is left. -/
namespace Go.Proofs
open Go.Den
set_option maxRecDepth 100000

def S45 (e : Ex) (i d m : Int) : St := ⟨[.top, .top, .int .i64 d, .ptr 0 0 0 0, .top, .top, .int .i64 0, .int .i64 m, .top, .top, .top, .top, .top, .top, .top, .top, .top, .top, .top, .top, kidsE e, .int .i64 e.kids.length, .int .i64 i, .top, .top, .top, .top, .top, .top, .top, .top, .top, .top, .top, .top, .top, .top, .top, .top, .top, .top, .top, .top], ⟨[.var [.int .i64 e.kind, .int .i64 e.op, .str e.mod, .str e.name, .int .i64 e.vt, .int .u64 e.vb, kidsE e]], [], .plain⟩⟩
def S45e (e : Ex) (i d m : Int) : St := ⟨[.top, .top, .int .i64 d, .ptr 0 0 0 0, .top, .top, .int .i64 0, .int .i64 m, .top, .top, .top, .top, .top, .top, .top, .top, .top, .top, .top, .top, kidsE e, .int .i64 e.kids.length, .int .i64 i, .bool (decide (i < (e.kids.length : Int))), .top, .top, .top, .top, .top, .top, .top, .top, .top, .top, .top, .top, .top, .top, .top, .top, .top, .top, .top], ⟨[.var [.int .i64 e.kind, .int .i64 e.op, .str e.mod, .str e.name, .int .i64 e.vt, .int .u64 e.vb, kidsE e]], [], .plain⟩⟩
noncomputable def u45 (kid : Ex) : CallK := fun f args h ps K => match f with
  | 45 => match args, h, ps with
    | [a, .int .i64 q, .int .i64 d], [], .plain => chk (a = .agg (rowS kid)) (K (.ret (.int .i64 (iF 45 [agE kid, .int .i64 q, .int .i64 d])) [] .plain))
    | _, _, _ => none
  | _ => u7 f args h ps K
theorem r45 (kid e : Ex) (i : Nat) (d m : Int) (k : Den.Exit → St → R) : codeL Try.prog polX (u45 kid) noLoops 45 (Code.part (bodyOf Try.prog 45) [1, 1, 1, 0, 1, 0, 0]) (S45 e i d m) k =
  (cond (decide ((↑i : Int) < (↑e.kids.length : Int))) (dite ((0 : Int) ≤ (↑i : Int) ∧ (↑i : Int).toNat < e.kids.length) (fun hb59 => (chk (Eq (α := AV) (.agg [(.int .i64 ((e.kids.get ⟨(↑i : Int).toNat, hb59.right⟩).kind)), (.int .i64 ((e.kids.get ⟨(↑i : Int).toNat, hb59.right⟩).op)), (.str ((e.kids.get ⟨(↑i : Int).toNat, hb59.right⟩).mod)), (.str ((e.kids.get ⟨(↑i : Int).toNat, hb59.right⟩).name)), (.int .i64 ((e.kids.get ⟨(↑i : Int).toNat, hb59.right⟩).vt)), (.int .u64 ((e.kids.get ⟨(↑i : Int).toNat, hb59.right⟩).vb)), (.sl 7 .no ((e.kids.get ⟨(↑i : Int).toNat, hb59.right⟩).kids.length) (fun q7 => row ((e.kids.get ⟨(↑i : Int).toNat, hb59.right⟩).kids.get q7)))]) (.agg [(.int .i64 (kid.kind)), (.int .i64 (kid.op)), (.str (kid.mod)), (.str (kid.name)), (.int .i64 (kid.vt)), (.int .u64 (kid.vb)), (.sl 7 .no (kid.kids.length) (fun q7 => row (kid.kids.get q7)))])) (k .normal (.mk [.top, .top, (.int .i64 d), (.ptr 0 0 0 0), .top, .top, (.int .i64 0), (.int .i64 (bif decide (iF (45 : FuncId) [agE kid, AV.int IntKind.i64 (tF1 (59 : FuncId) [AV.agg [AV.int IntKind.i64 e.kind, AV.int IntKind.i64 e.op, AV.str e.mod, AV.str e.name, AV.int IntKind.i64 e.vt, AV.int IntKind.u64 e.vb, AV.sl (7 : Nat) Tok.no e.kids.length fun j => rowS (e.kids.get j)], AV.int IntKind.i64 (↑i : Int)]), AV.int IntKind.i64 (IntKind.i64.wrap (d + tF2 (59 : FuncId) [AV.agg [AV.int IntKind.i64 e.kind, AV.int IntKind.i64 e.op, AV.str e.mod, AV.str e.name, AV.int IntKind.i64 e.vt, AV.int IntKind.u64 e.vb, AV.sl (7 : Nat) Tok.no e.kids.length fun j => rowS (e.kids.get j)], AV.int IntKind.i64 (↑i : Int)]))] > m) then iF (45 : FuncId) [agE kid, AV.int IntKind.i64 (tF1 (59 : FuncId) [AV.agg [AV.int IntKind.i64 e.kind, AV.int IntKind.i64 e.op, AV.str e.mod, AV.str e.name, AV.int IntKind.i64 e.vt, AV.int IntKind.u64 e.vb, AV.sl (7 : Nat) Tok.no e.kids.length fun j => rowS (e.kids.get j)], AV.int IntKind.i64 (↑i : Int)]), AV.int IntKind.i64 (IntKind.i64.wrap (d + tF2 (59 : FuncId) [AV.agg [AV.int IntKind.i64 e.kind, AV.int IntKind.i64 e.op, AV.str e.mod, AV.str e.name, AV.int IntKind.i64 e.vt, AV.int IntKind.u64 e.vb, AV.sl (7 : Nat) Tok.no e.kids.length fun j => rowS (e.kids.get j)], AV.int IntKind.i64 (↑i : Int)]))] else m)), .top, .top, .top, .top, .top, .top, .top, .top, .top, .top, .top, .top, (.sl 7 .no (e.kids.length) (fun q8 => [(.int .i64 ((e.kids.get q8).kind)), (.int .i64 ((e.kids.get q8).op)), (.str ((e.kids.get q8).mod)), (.str ((e.kids.get q8).name)), (.int .i64 ((e.kids.get q8).vt)), (.int .u64 ((e.kids.get q8).vb)), (.sl 7 .no ((e.kids.get q8).kids.length) (fun q9 => row ((e.kids.get q8).kids.get q9)))])), (.int .i64 ((↑e.kids.length : Int))), (.int .i64 (IntKind.i64.wrap ((↑i : Int) + (1 : Int)))), .top, .top, .top, .top, .top, .top, .top, .top, .top, .top, .top, .top, .top, .top, .top, .top, .top, .top, .top, .top] (.mk [(.var [(.int .i64 (e.kind)), (.int .i64 (e.op)), (.str (e.mod)), (.str (e.name)), (.int .i64 (e.vt)), (.int .u64 (e.vb)), (.sl 7 .no (e.kids.length) (fun q8 => [(.int .i64 ((e.kids.get q8).kind)), (.int .i64 ((e.kids.get q8).op)), (.str ((e.kids.get q8).mod)), (.str ((e.kids.get q8).name)), (.int .i64 ((e.kids.get q8).vt)), (.int .u64 ((e.kids.get q8).vb)), (.sl 7 .no ((e.kids.get q8).kids.length) (fun q9 => row ((e.kids.get q8).kids.get q9)))]))]), (.var [(.int .i64 ((e.kids.get ⟨(↑i : Int).toNat, hb59.right⟩).kind)), (.int .i64 ((e.kids.get ⟨(↑i : Int).toNat, hb59.right⟩).op)), (.str ((e.kids.get ⟨(↑i : Int).toNat, hb59.right⟩).mod)), (.str ((e.kids.get ⟨(↑i : Int).toNat, hb59.right⟩).name)), (.int .i64 ((e.kids.get ⟨(↑i : Int).toNat, hb59.right⟩).vt)), (.int .u64 ((e.kids.get ⟨(↑i : Int).toNat, hb59.right⟩).vb)), (.sl 7 .no ((e.kids.get ⟨(↑i : Int).toNat, hb59.right⟩).kids.length) (fun q8 => row ((e.kids.get ⟨(↑i : Int).toNat, hb59.right⟩).kids.get q8)))])] [] .plain))))) (fun hb59 => none)) (k (.exit 0) (.mk [.top, .top, (.int .i64 d), (.ptr 0 0 0 0), .top, .top, (.int .i64 0), (.int .i64 m), .top, .top, .top, .top, .top, .top, .top, .top, .top, .top, .top, .top, (.sl 7 .no (e.kids.length) (fun q6 => [(.int .i64 ((e.kids.get q6).kind)), (.int .i64 ((e.kids.get q6).op)), (.str ((e.kids.get q6).mod)), (.str ((e.kids.get q6).name)), (.int .i64 ((e.kids.get q6).vt)), (.int .u64 ((e.kids.get q6).vb)), (.sl 7 .no ((e.kids.get q6).kids.length) (fun q7 => row ((e.kids.get q6).kids.get q7)))])), (.int .i64 ((↑e.kids.length : Int))), (.int .i64 ((↑i : Int))), (.bool (decide ((↑i : Int) < (↑e.kids.length : Int)))), .top, .top, .top, .top, .top, .top, .top, .top, .top, .top, .top, .top, .top, .top, .top, .top, .top, .top, .top] (.mk [(.var [(.int .i64 (e.kind)), (.int .i64 (e.op)), (.str (e.mod)), (.str (e.name)), (.int .i64 (e.vt)), (.int .u64 (e.vb)), (.sl 7 .no (e.kids.length) (fun q6 => [(.int .i64 ((e.kids.get q6).kind)), (.int .i64 ((e.kids.get q6).op)), (.str ((e.kids.get q6).mod)), (.str ((e.kids.get q6).name)), (.int .i64 ((e.kids.get q6).vt)), (.int .u64 ((e.kids.get q6).vb)), (.sl 7 .no ((e.kids.get q6).kids.length) (fun q7 => row ((e.kids.get q6).kids.get q7)))]))])] [] .plain)))) := by kernel_rfl
theorem r45n (e : Ex) (i : Nat) (d m : Int) (k : Den.Exit → St → R) : codeL Try.prog polX u7 noLoops 45 (Code.part (bodyOf Try.prog 45) [1, 1, 1, 0, 1, 0, 0]) (S45 e i d m) k =
  (cond (decide ((↑i : Int) < (↑e.kids.length : Int))) (dite ((0 : Int) ≤ (↑i : Int) ∧ (↑i : Int).toNat < e.kids.length) (fun hb59 => none) (fun hb59 => none)) (k (.exit 0) (.mk [.top, .top, (.int .i64 d), (.ptr 0 0 0 0), .top, .top, (.int .i64 0), (.int .i64 m), .top, .top, .top, .top, .top, .top, .top, .top, .top, .top, .top, .top, (.sl 7 .no (e.kids.length) (fun q5 => [(.int .i64 ((e.kids.get q5).kind)), (.int .i64 ((e.kids.get q5).op)), (.str ((e.kids.get q5).mod)), (.str ((e.kids.get q5).name)), (.int .i64 ((e.kids.get q5).vt)), (.int .u64 ((e.kids.get q5).vb)), (.sl 7 .no ((e.kids.get q5).kids.length) (fun q6 => row ((e.kids.get q5).kids.get q6)))])), (.int .i64 ((↑e.kids.length : Int))), (.int .i64 ((↑i : Int))), (.bool (decide ((↑i : Int) < (↑e.kids.length : Int)))), .top, .top, .top, .top, .top, .top, .top, .top, .top, .top, .top, .top, .top, .top, .top, .top, .top, .top, .top] (.mk [(.var [(.int .i64 (e.kind)), (.int .i64 (e.op)), (.str (e.mod)), (.str (e.name)), (.int .i64 (e.vt)), (.int .u64 (e.vb)), (.sl 7 .no (e.kids.length) (fun q5 => [(.int .i64 ((e.kids.get q5).kind)), (.int .i64 ((e.kids.get q5).op)), (.str ((e.kids.get q5).mod)), (.str ((e.kids.get q5).name)), (.int .i64 ((e.kids.get q5).vt)), (.int .u64 ((e.kids.get q5).vb)), (.sl 7 .no ((e.kids.get q5).kids.length) (fun q6 => row ((e.kids.get q5).kids.get q6)))]))])] [] .plain)))) := by kernel_rfl
theorem b45 (loops : LoopK) (e : Ex) (q d : Int) : bodyL Try.prog polX u7 loops 45 [agE e, .int .i64 q, .int .i64 d] [] .plain =
  (cond (decide (iF (58 : FuncId) [AV.agg [AV.int IntKind.i64 e.kind, AV.int IntKind.i64 e.op, AV.str e.mod, AV.str e.name, AV.int IntKind.i64 e.vt, AV.int IntKind.u64 e.vb, AV.sl (7 : Nat) Tok.no e.kids.length fun j => rowS (e.kids.get j)]] < q)) (loops 5 (.mk [.top, .top, (.int .i64 (IntKind.i64.wrap (d + (1 : Int)))), (.ptr 0 0 0 0), .top, .top, (.int .i64 0), (.int .i64 (IntKind.i64.wrap (d + (1 : Int)))), .top, .top, .top, .top, .top, .top, .top, .top, .top, .top, .top, .top, (.sl 7 .no (e.kids.length) (fun q4 => [(.int .i64 ((e.kids.get q4).kind)), (.int .i64 ((e.kids.get q4).op)), (.str ((e.kids.get q4).mod)), (.str ((e.kids.get q4).name)), (.int .i64 ((e.kids.get q4).vt)), (.int .u64 ((e.kids.get q4).vb)), (.sl 7 .no ((e.kids.get q4).kids.length) (fun q5 => row ((e.kids.get q4).kids.get q5)))])), (.int .i64 ((↑e.kids.length : Int))), (.int .i64 0), .top, .top, .top, .top, .top, .top, .top, .top, .top, .top, .top, .top, .top, .top, .top, .top, .top, .top, .top, .top] (.mk [(.var [(.int .i64 (e.kind)), (.int .i64 (e.op)), (.str (e.mod)), (.str (e.name)), (.int .i64 (e.vt)), (.int .u64 (e.vb)), (.sl 7 .no (e.kids.length) (fun q4 => [(.int .i64 ((e.kids.get q4).kind)), (.int .i64 ((e.kids.get q4).op)), (.str ((e.kids.get q4).mod)), (.str ((e.kids.get q4).name)), (.int .i64 ((e.kids.get q4).vt)), (.int .u64 ((e.kids.get q4).vb)), (.sl 7 .no ((e.kids.get q4).kids.length) (fun q5 => row ((e.kids.get q4).kids.get q5)))]))])] [] .plain)) (kBody Try.prog polX u7 loops 45 [1, 1, 1, 0, 1, 0] 0 .plain)) (loops 5 (.mk [.top, .top, (.int .i64 d), (.ptr 0 0 0 0), .top, .top, (.int .i64 0), (.int .i64 d), .top, .top, .top, .top, .top, .top, .top, .top, .top, .top, .top, .top, (.sl 7 .no (e.kids.length) (fun q4 => [(.int .i64 ((e.kids.get q4).kind)), (.int .i64 ((e.kids.get q4).op)), (.str ((e.kids.get q4).mod)), (.str ((e.kids.get q4).name)), (.int .i64 ((e.kids.get q4).vt)), (.int .u64 ((e.kids.get q4).vb)), (.sl 7 .no ((e.kids.get q4).kids.length) (fun q5 => row ((e.kids.get q4).kids.get q5)))])), (.int .i64 ((↑e.kids.length : Int))), (.int .i64 0), .top, .top, .top, .top, .top, .top, .top, .top, .top, .top, .top, .top, .top, .top, .top, .top, .top, .top, .top, .top] (.mk [(.var [(.int .i64 (e.kind)), (.int .i64 (e.op)), (.str (e.mod)), (.str (e.name)), (.int .i64 (e.vt)), (.int .u64 (e.vb)), (.sl 7 .no (e.kids.length) (fun q4 => [(.int .i64 ((e.kids.get q4).kind)), (.int .i64 ((e.kids.get q4).op)), (.str ((e.kids.get q4).mod)), (.str ((e.kids.get q4).name)), (.int .i64 ((e.kids.get q4).vt)), (.int .u64 ((e.kids.get q4).vb)), (.sl 7 .no ((e.kids.get q4).kids.length) (fun q5 => row ((e.kids.get q4).kids.get q5)))]))])] [] .plain)) (kBody Try.prog polX u7 loops 45 [1, 1, 1, 0, 1, 0] 0 .plain))) := by kernel_rfl
theorem e45 (loops : LoopK) (e : Ex) (i d m : Int) : (kBody Try.prog polX u7 loops 45 [1, 1, 1, 0, 1, 0] 0 .plain) (.exit 0) (S45e e i d m) =
  (some (.ret (.int .i64 m) [] .plain)) := by kernel_rfl
noncomputable def u23b (e : Ex) : CallK := fun f args h ps K => match f with
  | 45 => chk (args = [agE e, .int .i64 1, .int .i64 0] ∧ h = [] ∧ ps = .plain) (K (.ret (.int .i64 (iF 45 [agE e, .int .i64 1, .int .i64 0])) [] .plain))
  | 46 => chk (args = [agE e] ∧ h = [] ∧ ps = .plain) (cond (pF 46 [agE e]) (K (.pan (.ifc 93 (.int .i64 (eF 46 [agE e]))) [] .plain)) (K (.ret (.tup []) [] .plain)))
  | _ => u60 f args h ps K
noncomputable abbrev u23 (e : Ex) : CallK := inlK Try.prog polX (fun f => f == 42 || f == 43 || f == 56) (u23b e) 3
theorem b23 (loops : LoopK) (e : Ex) : bodyL Try.prog polX (u23 e) loops 23 [agE e] [] .plain =
  (chk (Eq (α := List AV) [(.agg [(.int .i64 (e.kind)), (.int .i64 (e.op)), (.str (e.mod)), (.str (e.name)), (.int .i64 (e.vt)), (.int .u64 (e.vb)), (.sl 7 .no (e.kids.length) (fun q2 => [(.int .i64 ((e.kids.get q2).kind)), (.int .i64 ((e.kids.get q2).op)), (.str ((e.kids.get q2).mod)), (.str ((e.kids.get q2).name)), (.int .i64 ((e.kids.get q2).vt)), (.int .u64 ((e.kids.get q2).vb)), (.sl 7 .no ((e.kids.get q2).kids.length) (fun q3 => row ((e.kids.get q2).kids.get q3)))]))]), (.int .i64 1), (.int .i64 0)] [(.agg [(.int .i64 (e.kind)), (.int .i64 (e.op)), (.str (e.mod)), (.str (e.name)), (.int .i64 (e.vt)), (.int .u64 (e.vb)), (.sl 7 .no (e.kids.length) (fun q2 => [(.int .i64 ((e.kids.get q2).kind)), (.int .i64 ((e.kids.get q2).op)), (.str ((e.kids.get q2).mod)), (.str ((e.kids.get q2).name)), (.int .i64 ((e.kids.get q2).vt)), (.int .u64 ((e.kids.get q2).vb)), (.sl 7 .no ((e.kids.get q2).kids.length) (fun q3 => row ((e.kids.get q2).kids.get q3)))]))]), (.int .i64 1), (.int .i64 0)] ∧ Eq (α := List Den.Obj) [] [] ∧ Eq (α := PS) .plain .plain) (cond (((!(decide (iF (45 : FuncId) [agE e, AV.int IntKind.i64 (1 : Int), AV.int IntKind.i64 (0 : Int)] ≤ (32 : Int)))) && (true))) (some (.ret (.int .i64 13) [] .plain)) (chk (Eq (α := List AV) [(.agg [(.int .i64 (e.kind)), (.int .i64 (e.op)), (.str (e.mod)), (.str (e.name)), (.int .i64 (e.vt)), (.int .u64 (e.vb)), (.sl 7 .no (e.kids.length) (fun q3 => [(.int .i64 ((e.kids.get q3).kind)), (.int .i64 ((e.kids.get q3).op)), (.str ((e.kids.get q3).mod)), (.str ((e.kids.get q3).name)), (.int .i64 ((e.kids.get q3).vt)), (.int .u64 ((e.kids.get q3).vb)), (.sl 7 .no ((e.kids.get q3).kids.length) (fun q4 => row ((e.kids.get q3).kids.get q4)))]))])] [(.agg [(.int .i64 (e.kind)), (.int .i64 (e.op)), (.str (e.mod)), (.str (e.name)), (.int .i64 (e.vt)), (.int .u64 (e.vb)), (.sl 7 .no (e.kids.length) (fun q3 => [(.int .i64 ((e.kids.get q3).kind)), (.int .i64 ((e.kids.get q3).op)), (.str ((e.kids.get q3).mod)), (.str ((e.kids.get q3).name)), (.int .i64 ((e.kids.get q3).vt)), (.int .u64 ((e.kids.get q3).vb)), (.sl 7 .no ((e.kids.get q3).kids.length) (fun q4 => row ((e.kids.get q3).kids.get q4)))]))])] ∧ Eq (α := List Den.Obj) [] [] ∧ Eq (α := PS) .plain .plain) (cond (pF (46 : FuncId) [agE e]) (some (.ret (.int .i64 (eF (46 : FuncId) [agE e])) [] .plain)) (some (.ret (.int .i64 0) [] .plain)))))) := by kernel_rfl
end Go.Proofs

/- Is an expression right: what it comes to. -/
namespace Go.Proofs
open Go.Den
set_option maxRecDepth 100000
theorem u45_le {kid : Ex} (h : ∀ q d, Tot (dX 45 [agE kid, .int .i64 q, .int .i64 d] [] .plain) fun o => ∃ n, o = .ret (.int .i64 n) [] .plain) : CallLeK (u45 kid) dX := by
  intro f args h' ps kk o e
  unfold u45 at e
  split at e
  · split at e
    · obtain ⟨rfl, e'⟩ := chk_some e
      rw [agS]
      exact ⟨_, e', iF_eq (h _ _)⟩
    · cases e
  · exact u7_le _ _ _ _ _ _ e
def slotI (n : Nat) (st : St) : Int := match getT st.T n with
  | .int _ n => n
  | _ => 0
theorem lp45 (e : Ex) (d m : Int) (hl : e.kids.length < 1000000000) (ih : ∀ j q d, Tot (dX 45 [agE (e.kids.get j), .int .i64 q, .int .i64 d] [] .plain) fun o => ∃ n, o = .ret (.int .i64 n) [] .plain) :
    Tot (codeD Try.prog polX (bindK dX) (e.kids.length + 1) 45 (.loop (Code.part (bodyOf Try.prog 45) [1, 1, 1, 0, 1, 0, 0])) (S45 e 0 d m) (kBody Try.prog polX u7 (lpR Try.prog polX dX (e.kids.length + 1) 45 (loopsOf (bodyOf Try.prog 45))) 45 [1, 1, 1, 0, 1, 0] 0 .plain))
      fun o => ∃ n, o = .ret (.int .i64 n) [] .plain := by
  refine loop_tot (α := Int) (calls := fun i => if h : i < e.kids.length then u45 (e.kids.get ⟨i, h⟩) else u7) (fun i => ?_) (keep := false) rfl (inner := noLoops) no_loops
    (fun i m => S45 e i d m) (fun _ _ => True) e.kids.length (Nat.lt_succ_self _) m trivial ?_ (H := 1) rfl ?_
  · split
    · exact u45_le (ih _)
    · exact u7_le
  · show _ = _
    kernel_rfl
  · intro i m hi _ K hK hE
    by_cases hlt : i < e.kids.length
    · simp only [dif_pos hlt]
      rw [r45]
      have h1 : decide ((i : Int) < e.kids.length) = true := by simpa using hlt
      have h2 : (0 : Int) ≤ i ∧ (i : Int).toNat < e.kids.length := by omega
      rw [h1, cond_true]
      refine Tot.dite h2 (Tot.chk ?_ ?_)
      · rfl
      · have hK' := fun st' => hK st' (slotI 7 st')
        refine hK' _ hlt trivial ?_
        rw [wrap_succ (by omega)]
        show _ = _
        kernel_rfl
    · have : i = e.kids.length := by omega
      subst this
      simp only [Nat.lt_irrefl, dite_false]
      rw [r45n]
      have h1 : decide ((e.kids.length : Int) < e.kids.length) = false := by simp
      rw [h1, cond_false, hE _ _ (by simp)]
      have := e45 (lpR Try.prog polX dX (e.kids.length + 1) 45 (loopsOf (bodyOf Try.prog 45))) e e.kids.length d m
      unfold S45e at this
      rw [h1] at this
      exact ⟨_, this, _, rfl⟩
theorem f45_tot (e : Ex) (hs : Small e) : ∀ q d, Tot (dX 45 [agE e, .int .i64 q, .int .i64 d] [] .plain) fun o => ∃ n, o = .ret (.int .i64 n) [] .plain := by
  induction hs with
  | mk e hm hn hl _ ih =>
    intro q d
    refine denA_tot (e.kids.length + 1) u7_le rfl (by kernel_rfl) ?_
    rw [b45]
    refine Tot.cond (fun _ => ?_) fun _ => ?_
    · exact lpR_tot (by kernel_rfl) (lp45 e _ _ hl ih)
    · exact lpR_tot (by kernel_rfl) (lp45 e _ _ hl ih)
theorem u23b_le {e : Ex} (hs : Small e) : CallLeK (u23b e) dX := by
  intro f args h' ps kk o x
  unfold u23b at x
  split at x
  · obtain ⟨⟨rfl, rfl, rfl⟩, e'⟩ := chk_some x
    exact ⟨_, e', iF_eq (f45_tot e hs 1 0)⟩
  · obtain ⟨⟨rfl, rfl, rfl⟩, e'⟩ := chk_some x
    obtain ⟨hv, _⟩ := q46_val (f46_tot e hs)
    cases hp : pF 46 [agE e] with
    | true => rw [hp] at e' hv; exact ⟨_, e', hv⟩
    | false => rw [hp] at e' hv; exact ⟨_, e', hv⟩
  · exact u60_le _ _ _ _ _ _ x
theorem f23_tot (e : Ex) (hs : Small e) : Tot (dX 23 [agE e] [] .plain) fun o => ∃ n, o = .ret (.int .i64 n) [] .plain ∧ (n = 0 → Good e) := by
  refine denA_tot 0 (inlK_le (u23b_le hs) (fun f hf => by have hf : (f == 42 || f == 43 || f == 56) = true := hf; simp only [Bool.or_eq_true, beq_iff_eq] at hf; rcases hf with (rfl | rfl) | rfl <;> rfl) 3) rfl (by kernel_rfl) ?_
  rw [b23]
  obtain ⟨_, hg, hp⟩ := q46_val (f46_tot e hs)
  refine Tot.chk ⟨rfl, rfl, rfl⟩ (Tot.cond (fun _ => Tot.some ⟨13, rfl, fun h => by cases h⟩) fun _ => Tot.chk ⟨rfl, rfl, rfl⟩ (Tot.cond (fun hc => Tot.some ⟨_, rfl, fun h => absurd h (hp hc)⟩) fun hc => Tot.some ⟨0, rfl, fun _ => hg hc⟩))
end Go.Proofs

/- What an expression is worth: what is left. -/
namespace Go.Proofs
open Go.Den
set_option maxRecDepth 100000

structure Con where
  (mod name : List UInt8)
  (t b : Int)
def conR (c : Con) : List AV := [.str c.mod, .str c.name, .int .i64 c.t, .int .u64 c.b]
def conL (l : List Con) : AV := .sl 4 .no l.length fun j => conR (l.get j)
def conG (i : Nat) (l : List Con) : AV := .sl 4 (.id i) l.length fun j => conR (l.get j)
def eC (e : Ex) : List AV := [.int .i64 e.kind, .int .i64 e.op, .str e.mod, .str e.name, .int .i64 e.vt, .int .u64 e.vb, kidsE e]
def hW (e : Ex) : List Den.Obj := [.var (eC e), .var [.int .i64 0, .int .u64 0]]
noncomputable abbrev i48 : CallK := inlK Try.prog polX (fun f => f == 48) noCall 1
def S47 (l : List Con) (e : Ex) (i : Int) : St := ⟨[conL l, .fn 48 [.ptr 0 0 0 0], .top, .top, .int .i64 0, .top, .top, .int .i64 l.length, .int .i64 i, .top, .top, .top, .top, .top, .top, .top, .top, .top, .top], ⟨hW e, [], .plain⟩⟩
def S47e (l : List Con) (e : Ex) (i : Int) : St := ⟨[conL l, .fn 48 [.ptr 0 0 0 0], .top, .top, .int .i64 0, .top, .top, .int .i64 l.length, .int .i64 i, .bool (decide (i < (l.length : Int))), .top, .top, .top, .top, .top, .top, .top, .top, .top], ⟨hW e, [], .plain⟩⟩
def S47r (e : Ex) (i : Int) : St := ⟨[.top, .top, .top, .top, .int .i64 i, .top, .top, .top, .top, .top, .top, .top, .top, .top, .top, .top, .top, .top, .top], ⟨hW e, [], .plain⟩⟩
theorem r47 (l : List Con) (e : Ex) (i : Nat) (k : Den.Exit → St → R) : codeL Try.prog polX i48 noLoops 47 (Code.part (bodyOf Try.prog 47) [1, 0, 1, 0, 0]) (S47 l e i) k =
  (cond (decide ((↑i : Int) < (↑l.length : Int))) (dite ((0 : Int) ≤ (↑i : Int) ∧ (↑i : Int).toNat < l.length) (fun hb59 => (cond (cond ((((l.get ⟨(↑i : Int).toNat, hb59.right⟩).mod) == (e.mod))) ((((l.get ⟨(↑i : Int).toNat, hb59.right⟩).name) == (e.name))) (false)) (k .ret (.mk [.top, .top, .top, .top, (.int .i64 ((↑i : Int))), .top, .top, .top, .top, .top, .top, .top, .top, .top, .top, .top, .top, .top, .top] (.mk [(.var [(.int .i64 (e.kind)), (.int .i64 (e.op)), (.str (e.mod)), (.str (e.name)), (.int .i64 (e.vt)), (.int .u64 (e.vb)), (.sl 7 .no (e.kids.length) (fun q5 => [(.int .i64 ((e.kids.get q5).kind)), (.int .i64 ((e.kids.get q5).op)), (.str ((e.kids.get q5).mod)), (.str ((e.kids.get q5).name)), (.int .i64 ((e.kids.get q5).vt)), (.int .u64 ((e.kids.get q5).vb)), (.sl 7 .no ((e.kids.get q5).kids.length) (fun q6 => row ((e.kids.get q5).kids.get q6)))]))]), (.var [(.int .i64 0), (.int .u64 0)])] [] .plain))) (k .normal (.mk [(.sl 4 .no (l.length) (fun q5 => [(.str ((l.get q5).mod)), (.str ((l.get q5).name)), (.int .i64 ((l.get q5).t)), (.int .u64 ((l.get q5).b))])), (.fn 48 [(.ptr 0 0 0 0)]), .top, .top, (.int .i64 0), .top, .top, (.int .i64 ((↑l.length : Int))), (.int .i64 (IntKind.i64.wrap ((↑i : Int) + (1 : Int)))), .top, .top, .top, .top, .top, .top, .top, .top, .top, .top] (.mk [(.var [(.int .i64 (e.kind)), (.int .i64 (e.op)), (.str (e.mod)), (.str (e.name)), (.int .i64 (e.vt)), (.int .u64 (e.vb)), (.sl 7 .no (e.kids.length) (fun q5 => [(.int .i64 ((e.kids.get q5).kind)), (.int .i64 ((e.kids.get q5).op)), (.str ((e.kids.get q5).mod)), (.str ((e.kids.get q5).name)), (.int .i64 ((e.kids.get q5).vt)), (.int .u64 ((e.kids.get q5).vb)), (.sl 7 .no ((e.kids.get q5).kids.length) (fun q6 => row ((e.kids.get q5).kids.get q6)))]))]), (.var [(.int .i64 0), (.int .u64 0)])] [] .plain))))) (fun hb59 => none)) (k (.exit 0) (.mk [(.sl 4 .no (l.length) (fun q4 => [(.str ((l.get q4).mod)), (.str ((l.get q4).name)), (.int .i64 ((l.get q4).t)), (.int .u64 ((l.get q4).b))])), (.fn 48 [(.ptr 0 0 0 0)]), .top, .top, (.int .i64 0), .top, .top, (.int .i64 ((↑l.length : Int))), (.int .i64 ((↑i : Int))), (.bool (decide ((↑i : Int) < (↑l.length : Int)))), .top, .top, .top, .top, .top, .top, .top, .top, .top] (.mk [(.var [(.int .i64 (e.kind)), (.int .i64 (e.op)), (.str (e.mod)), (.str (e.name)), (.int .i64 (e.vt)), (.int .u64 (e.vb)), (.sl 7 .no (e.kids.length) (fun q4 => [(.int .i64 ((e.kids.get q4).kind)), (.int .i64 ((e.kids.get q4).op)), (.str ((e.kids.get q4).mod)), (.str ((e.kids.get q4).name)), (.int .i64 ((e.kids.get q4).vt)), (.int .u64 ((e.kids.get q4).vb)), (.sl 7 .no ((e.kids.get q4).kids.length) (fun q5 => row ((e.kids.get q4).kids.get q5)))]))]), (.var [(.int .i64 0), (.int .u64 0)])] [] .plain)))) := by kernel_rfl
theorem b47 (loops : LoopK) (l : List Con) (e : Ex) : bodyL Try.prog polX i48 loops 47 [conL l, .fn 48 [.ptr 0 0 0 0]] (hW e) .plain =
  (loops 2 (.mk [(.sl 4 .no (l.length) (fun q3 => [(.str ((l.get q3).mod)), (.str ((l.get q3).name)), (.int .i64 ((l.get q3).t)), (.int .u64 ((l.get q3).b))])), (.fn 48 [(.ptr 0 0 0 0)]), .top, .top, (.int .i64 0), .top, .top, (.int .i64 ((↑l.length : Int))), (.int .i64 0), .top, .top, .top, .top, .top, .top, .top, .top, .top, .top] (.mk [(.var [(.int .i64 (e.kind)), (.int .i64 (e.op)), (.str (e.mod)), (.str (e.name)), (.int .i64 (e.vt)), (.int .u64 (e.vb)), (.sl 7 .no (e.kids.length) (fun q3 => [(.int .i64 ((e.kids.get q3).kind)), (.int .i64 ((e.kids.get q3).op)), (.str ((e.kids.get q3).mod)), (.str ((e.kids.get q3).name)), (.int .i64 ((e.kids.get q3).vt)), (.int .u64 ((e.kids.get q3).vb)), (.sl 7 .no ((e.kids.get q3).kids.length) (fun q4 => row ((e.kids.get q3).kids.get q4)))]))]), (.var [(.int .i64 0), (.int .u64 0)])] [] .plain)) (kBody Try.prog polX i48 loops 47 [1, 0, 1, 0] 2 .plain)) := by kernel_rfl
theorem e47 (loops : LoopK) (l : List Con) (e : Ex) (i : Int) : (kBody Try.prog polX i48 loops 47 [1, 0, 1, 0] 2 .plain) (.exit 0) (S47e l e i) =
  (some (.ret (.int .i64 (-1)) [(.var [(.int .i64 (e.kind)), (.int .i64 (e.op)), (.str (e.mod)), (.str (e.name)), (.int .i64 (e.vt)), (.int .u64 (e.vb)), (.sl 7 .no (e.kids.length) (fun q4 => [(.int .i64 ((e.kids.get q4).kind)), (.int .i64 ((e.kids.get q4).op)), (.str ((e.kids.get q4).mod)), (.str ((e.kids.get q4).name)), (.int .i64 ((e.kids.get q4).vt)), (.int .u64 ((e.kids.get q4).vb)), (.sl 7 .no ((e.kids.get q4).kids.length) (fun q5 => row ((e.kids.get q4).kids.get q5)))]))]), (.var [(.int .i64 0), (.int .u64 0)])] .plain)) := by kernel_rfl
theorem q47 (loops : LoopK) (e : Ex) (i : Int) : (kBody Try.prog polX i48 loops 47 [1, 0, 1, 0] 2 .plain) (.ret) (S47r e i) =
  (some (.ret (.int .i64 i) [(.var [(.int .i64 (e.kind)), (.int .i64 (e.op)), (.str (e.mod)), (.str (e.name)), (.int .i64 (e.vt)), (.int .u64 (e.vb)), (.sl 7 .no (e.kids.length) (fun q3 => [(.int .i64 ((e.kids.get q3).kind)), (.int .i64 ((e.kids.get q3).op)), (.str ((e.kids.get q3).mod)), (.str ((e.kids.get q3).name)), (.int .i64 ((e.kids.get q3).vt)), (.int .u64 ((e.kids.get q3).vb)), (.sl 7 .no ((e.kids.get q3).kids.length) (fun q4 => row ((e.kids.get q3).kids.get q4)))]))]), (.var [(.int .i64 0), (.int .u64 0)])] .plain)) := by kernel_rfl
def hit (e : Ex) (c : Con) : Bool := c.mod == e.mod && c.name == e.name
def ixC (l : List Con) (e : Ex) : Int := match l.findIdx? (hit e) with
  | some i => i
  | none => -1
def look (l : List Con) (e : Ex) : Option (Int × Int) := (l.find? (hit e)).map fun c => (c.t, c.b)
/-- what an expression is worth -/
inductive Wr where
  | err (n : Int)
  | val (t b : Int)
def Wr.isE : Wr → Bool | .err _ => true | .val _ _ => false
def Wr.er : Wr → Int | .err n => n | .val _ _ => 0
def Wr.ty : Wr → Int | .err _ => 0 | .val t _ => t
def Wr.bi : Wr → Int | .err _ => 0 | .val _ b => b
noncomputable def musW (t b c : Int) : Wr := cond (c != 0) (.err (iF 22 [.int .i64 c])) (.val t b)
noncomputable def unW (op : Int) : Wr → Wr
  | .err n => .err n
  | .val t b => musW (tF1 50 [.int .i64 op, vl t b]) (tF2 50 [.int .i64 op, vl t b]) (tF3 50 [.int .i64 op, vl t b])
noncomputable def binW (op : Int) (y : Wr) : Wr → Wr
  | .err n => .err n
  | .val t b => cond (op == 12 || op == 13) (cond (t != 3) (.err 22) (cond ((b == 1) == (op == 13)) (.val t b) (go t b))) (go t b)
  where go (t b : Int) : Wr := match y with
  | .err n => .err n
  | .val t' b' => musW (tF1 8 [.int .i64 op, vl t b, vl t' b']) (tF2 8 [.int .i64 op, vl t b, vl t' b']) (tF3 8 [.int .i64 op, vl t b, vl t' b'])
noncomputable def namW : Option (Int × Int) → Wr
  | none => .err 21
  | some (t, b) => cond (!bF 18 [vl t b]) (.err 22) (.val t b)
noncomputable def wor (lk : Ex → Option (Int × Int)) (e : Ex) : Wr :=
  cond (e.kind == 1) (.val e.vt e.vb) <|
  cond (e.kind == 2 || e.kind == 3) (namW (lk e)) <|
  cond (e.kind == 6) (if h : 0 < e.kids.length then unW e.op (wor lk (e.kids.get ⟨0, h⟩)) else .err 0) <|
  cond (e.kind == 7) (if h : 1 < e.kids.length then binW e.op (wor lk (e.kids.get ⟨1, h⟩)) (wor lk (e.kids.get ⟨0, by omega⟩)) else .err 0) (.err 25)
  termination_by SizeOf.sizeOf e
  decreasing_by all_goals exact kid_lt e _
noncomputable def u25b (e : Ex) (l : List Con) : CallK := fun f args h ps K => match f with
  | 25 => match args with
    | [a, b] => pickX (fun k => k ∈ e.kids ∧ a = agE k ∧ b = conL l ∧ h = [] ∧ ps = .plain) fun k => cond (wor (look l) k).isE (K (.pan (.ifc 61 (.int .i64 (wor (look l) k).er)) [] .plain)) (K (.ret (vl (wor (look l) k).ty (wor (look l) k).bi) [] .plain))
    | _ => none
  | 47 => chk (args = [conL l, .fn 48 [.ptr 0 0 0 0]] ∧ h = hW e ∧ ps = .plain) (K (.ret (.int .i64 (ixC l e)) (hW e) .plain))
  | _ => u7 f args h ps K
noncomputable abbrev u25 (e : Ex) (l : List Con) : CallK := inlK Try.prog polX (fun f => f == 49) (u25b e l) 1
theorem b25 (loops : LoopK) (e : Ex) (l : List Con) : bodyL Try.prog polX (u25 e l) loops 25 [agE e, conL l] [] .plain =
  (cond (e.kind == (1 : Int)) (some (.ret (.agg [(.int .i64 (e.vt)), (.int .u64 (e.vb))]) [] .plain)) (cond (e.kind == (2 : Int)) (cond (e.kind == (2 : Int)) (chk (Eq (α := List AV) [(.sl 4 .no (l.length) (fun q3 => [(.str ((l.get q3).mod)), (.str ((l.get q3).name)), (.int .i64 ((l.get q3).t)), (.int .u64 ((l.get q3).b))])), (.fn 48 [(.ptr 0 0 0 0)])] [(.sl 4 .no (l.length) (fun q3 => [(.str ((l.get q3).mod)), (.str ((l.get q3).name)), (.int .i64 ((l.get q3).t)), (.int .u64 ((l.get q3).b))])), (.fn 48 [(.ptr 0 0 0 0)])] ∧ Eq (α := List Den.Obj) [(.var [(.int .i64 (e.kind)), (.int .i64 (e.op)), (.str (e.mod)), (.str (e.name)), (.int .i64 (e.vt)), (.int .u64 (e.vb)), (.sl 7 .no (e.kids.length) (fun q3 => [(.int .i64 ((e.kids.get q3).kind)), (.int .i64 ((e.kids.get q3).op)), (.str ((e.kids.get q3).mod)), (.str ((e.kids.get q3).name)), (.int .i64 ((e.kids.get q3).vt)), (.int .u64 ((e.kids.get q3).vb)), (.sl 7 .no ((e.kids.get q3).kids.length) (fun q4 => row ((e.kids.get q3).kids.get q4)))]))]), (.var [(.int .i64 0), (.int .u64 0)])] [(.var [(.int .i64 (e.kind)), (.int .i64 (e.op)), (.str (e.mod)), (.str (e.name)), (.int .i64 (e.vt)), (.int .u64 (e.vb)), (.sl 7 .no (e.kids.length) (fun q3 => [(.int .i64 ((e.kids.get q3).kind)), (.int .i64 ((e.kids.get q3).op)), (.str ((e.kids.get q3).mod)), (.str ((e.kids.get q3).name)), (.int .i64 ((e.kids.get q3).vt)), (.int .u64 ((e.kids.get q3).vb)), (.sl 7 .no ((e.kids.get q3).kids.length) (fun q4 => row ((e.kids.get q3).kids.get q4)))]))]), (.var [(.int .i64 0), (.int .u64 0)])] ∧ Eq (α := PS) .plain .plain) (cond (decide (ixC l e < (0 : Int))) (some (.pan (.ifc 61 (.int .i64 21)) [] .plain)) (dite ((0 : Int) ≤ ixC l e ∧ (ixC l e).toNat < l.length) (fun hb55 => (cond (!(bF (18 : FuncId) [AV.agg [AV.int IntKind.i64 (l.get ⟨(ixC l e).toNat, hb55.right⟩).t, AV.int IntKind.u64 (l.get ⟨(ixC l e).toNat, hb55.right⟩).b]])) (some (.pan (.ifc 61 (.int .i64 22)) [] .plain)) (dite ((0 : Int) ≤ ixC l e ∧ (ixC l e).toNat < l.length) (fun hb53 => (some (.ret (.agg [(.int .i64 ((l.get ⟨(ixC l e).toNat, hb53.right⟩).t)), (.int .u64 ((l.get ⟨(ixC l e).toNat, hb53.right⟩).b))]) [] .plain))) (fun hb53 => none)))) (fun hb55 => none)))) (cond (e.kind == (6 : Int)) (dite ((0 : Int) ≤ (0 : Int) ∧ Int.toNat (0 : Int) < e.kids.length) (fun hb56 => (pickX (fun x55 : Ex => x55 ∈ e.kids ∧ Eq (α := AV) (.agg [(.int .i64 ((e.kids.get ⟨Int.toNat (0 : Int), hb56.right⟩).kind)), (.int .i64 ((e.kids.get ⟨Int.toNat (0 : Int), hb56.right⟩).op)), (.str ((e.kids.get ⟨Int.toNat (0 : Int), hb56.right⟩).mod)), (.str ((e.kids.get ⟨Int.toNat (0 : Int), hb56.right⟩).name)), (.int .i64 ((e.kids.get ⟨Int.toNat (0 : Int), hb56.right⟩).vt)), (.int .u64 ((e.kids.get ⟨Int.toNat (0 : Int), hb56.right⟩).vb)), (.sl 7 .no ((e.kids.get ⟨Int.toNat (0 : Int), hb56.right⟩).kids.length) (fun q5 => row ((e.kids.get ⟨Int.toNat (0 : Int), hb56.right⟩).kids.get q5)))]) (.agg [(.int .i64 (x55.kind)), (.int .i64 (x55.op)), (.str (x55.mod)), (.str (x55.name)), (.int .i64 (x55.vt)), (.int .u64 (x55.vb)), (.sl 7 .no (x55.kids.length) (fun q5 => [(.int .i64 ((x55.kids.get q5).kind)), (.int .i64 ((x55.kids.get q5).op)), (.str ((x55.kids.get q5).mod)), (.str ((x55.kids.get q5).name)), (.int .i64 ((x55.kids.get q5).vt)), (.int .u64 ((x55.kids.get q5).vb)), (.sl 7 .no ((x55.kids.get q5).kids.length) (fun q6 => row ((x55.kids.get q5).kids.get q6)))]))]) ∧ Eq (α := AV) (.sl 4 .no (l.length) (fun q5 => [(.str ((l.get q5).mod)), (.str ((l.get q5).name)), (.int .i64 ((l.get q5).t)), (.int .u64 ((l.get q5).b))])) (.sl 4 .no (l.length) (fun q5 => [(.str ((l.get q5).mod)), (.str ((l.get q5).name)), (.int .i64 ((l.get q5).t)), (.int .u64 ((l.get q5).b))])) ∧ Eq (α := List Den.Obj) [] [] ∧ Eq (α := PS) .plain .plain) (fun x55 => (cond ((wor (look l) x55).isE) (some (.pan (.ifc 61 (.int .i64 ((wor (look l) x55).er))) [] .plain)) (cond (tF3 (50 : FuncId) [AV.int IntKind.i64 e.op, AV.agg [AV.int IntKind.i64 (wor (look l) x55).ty, AV.int IntKind.u64 (wor (look l) x55).bi]] != (0 : Int)) (some (.pan (.ifc 61 (.int .i64 (iF (22 : FuncId) [AV.int IntKind.i64 (tF3 (50 : FuncId) [AV.int IntKind.i64 e.op, AV.agg [AV.int IntKind.i64 (wor (look l) x55).ty, AV.int IntKind.u64 (wor (look l) x55).bi]])]))) [] .plain)) (some (.ret (.agg [(.int .i64 (tF1 (50 : FuncId) [AV.int IntKind.i64 e.op, AV.agg [AV.int IntKind.i64 (wor (look l) x55).ty, AV.int IntKind.u64 (wor (look l) x55).bi]])), (.int .u64 (tF2 (50 : FuncId) [AV.int IntKind.i64 e.op, AV.agg [AV.int IntKind.i64 (wor (look l) x55).ty, AV.int IntKind.u64 (wor (look l) x55).bi]]))]) [] .plain))))))) (fun hb56 => none)) (cond (e.kind == (7 : Int)) (dite ((0 : Int) ≤ (0 : Int) ∧ Int.toNat (0 : Int) < e.kids.length) (fun hb55 => (pickX (fun x54 : Ex => x54 ∈ e.kids ∧ Eq (α := AV) (.agg [(.int .i64 ((e.kids.get ⟨Int.toNat (0 : Int), hb55.right⟩).kind)), (.int .i64 ((e.kids.get ⟨Int.toNat (0 : Int), hb55.right⟩).op)), (.str ((e.kids.get ⟨Int.toNat (0 : Int), hb55.right⟩).mod)), (.str ((e.kids.get ⟨Int.toNat (0 : Int), hb55.right⟩).name)), (.int .i64 ((e.kids.get ⟨Int.toNat (0 : Int), hb55.right⟩).vt)), (.int .u64 ((e.kids.get ⟨Int.toNat (0 : Int), hb55.right⟩).vb)), (.sl 7 .no ((e.kids.get ⟨Int.toNat (0 : Int), hb55.right⟩).kids.length) (fun q5 => row ((e.kids.get ⟨Int.toNat (0 : Int), hb55.right⟩).kids.get q5)))]) (.agg [(.int .i64 (x54.kind)), (.int .i64 (x54.op)), (.str (x54.mod)), (.str (x54.name)), (.int .i64 (x54.vt)), (.int .u64 (x54.vb)), (.sl 7 .no (x54.kids.length) (fun q5 => [(.int .i64 ((x54.kids.get q5).kind)), (.int .i64 ((x54.kids.get q5).op)), (.str ((x54.kids.get q5).mod)), (.str ((x54.kids.get q5).name)), (.int .i64 ((x54.kids.get q5).vt)), (.int .u64 ((x54.kids.get q5).vb)), (.sl 7 .no ((x54.kids.get q5).kids.length) (fun q6 => row ((x54.kids.get q5).kids.get q6)))]))]) ∧ Eq (α := AV) (.sl 4 .no (l.length) (fun q5 => [(.str ((l.get q5).mod)), (.str ((l.get q5).name)), (.int .i64 ((l.get q5).t)), (.int .u64 ((l.get q5).b))])) (.sl 4 .no (l.length) (fun q5 => [(.str ((l.get q5).mod)), (.str ((l.get q5).name)), (.int .i64 ((l.get q5).t)), (.int .u64 ((l.get q5).b))])) ∧ Eq (α := List Den.Obj) [] [] ∧ Eq (α := PS) .plain .plain) (fun x54 => (cond ((wor (look l) x54).isE) (some (.pan (.ifc 61 (.int .i64 ((wor (look l) x54).er))) [] .plain)) (cond (cond (e.op == (12 : Int)) (true) (e.op == (13 : Int))) (cond ((wor (look l) x54).ty != (3 : Int)) (some (.pan (.ifc 61 (.int .i64 22)) [] .plain)) (cond ((((wor (look l) x54).bi == (1 : Int)) == (e.op == (13 : Int)))) (some (.ret (.agg [(.int .i64 ((wor (look l) x54).ty)), (.int .u64 ((wor (look l) x54).bi))]) [] .plain)) (dite ((0 : Int) ≤ (1 : Int) ∧ Int.toNat (1 : Int) < e.kids.length) (fun hb49 => (pickX (fun x48 : Ex => x48 ∈ e.kids ∧ Eq (α := AV) (.agg [(.int .i64 ((e.kids.get ⟨Int.toNat (1 : Int), hb49.right⟩).kind)), (.int .i64 ((e.kids.get ⟨Int.toNat (1 : Int), hb49.right⟩).op)), (.str ((e.kids.get ⟨Int.toNat (1 : Int), hb49.right⟩).mod)), (.str ((e.kids.get ⟨Int.toNat (1 : Int), hb49.right⟩).name)), (.int .i64 ((e.kids.get ⟨Int.toNat (1 : Int), hb49.right⟩).vt)), (.int .u64 ((e.kids.get ⟨Int.toNat (1 : Int), hb49.right⟩).vb)), (.sl 7 .no ((e.kids.get ⟨Int.toNat (1 : Int), hb49.right⟩).kids.length) (fun q8 => row ((e.kids.get ⟨Int.toNat (1 : Int), hb49.right⟩).kids.get q8)))]) (.agg [(.int .i64 (x48.kind)), (.int .i64 (x48.op)), (.str (x48.mod)), (.str (x48.name)), (.int .i64 (x48.vt)), (.int .u64 (x48.vb)), (.sl 7 .no (x48.kids.length) (fun q8 => [(.int .i64 ((x48.kids.get q8).kind)), (.int .i64 ((x48.kids.get q8).op)), (.str ((x48.kids.get q8).mod)), (.str ((x48.kids.get q8).name)), (.int .i64 ((x48.kids.get q8).vt)), (.int .u64 ((x48.kids.get q8).vb)), (.sl 7 .no ((x48.kids.get q8).kids.length) (fun q9 => row ((x48.kids.get q8).kids.get q9)))]))]) ∧ Eq (α := AV) (.sl 4 .no (l.length) (fun q8 => [(.str ((l.get q8).mod)), (.str ((l.get q8).name)), (.int .i64 ((l.get q8).t)), (.int .u64 ((l.get q8).b))])) (.sl 4 .no (l.length) (fun q8 => [(.str ((l.get q8).mod)), (.str ((l.get q8).name)), (.int .i64 ((l.get q8).t)), (.int .u64 ((l.get q8).b))])) ∧ Eq (α := List Den.Obj) [] [] ∧ Eq (α := PS) .plain .plain) (fun x48 => (cond ((wor (look l) x48).isE) (some (.pan (.ifc 61 (.int .i64 ((wor (look l) x48).er))) [] .plain)) (cond (tF3 (8 : FuncId) [AV.int IntKind.i64 e.op, AV.agg [AV.int IntKind.i64 (wor (look l) x54).ty, AV.int IntKind.u64 (wor (look l) x54).bi], AV.agg [AV.int IntKind.i64 (wor (look l) x48).ty, AV.int IntKind.u64 (wor (look l) x48).bi]] != (0 : Int)) (some (.pan (.ifc 61 (.int .i64 (iF (22 : FuncId) [AV.int IntKind.i64 (tF3 (8 : FuncId) [AV.int IntKind.i64 e.op, AV.agg [AV.int IntKind.i64 (wor (look l) x54).ty, AV.int IntKind.u64 (wor (look l) x54).bi], AV.agg [AV.int IntKind.i64 (wor (look l) x48).ty, AV.int IntKind.u64 (wor (look l) x48).bi]])]))) [] .plain)) (some (.ret (.agg [(.int .i64 (tF1 (8 : FuncId) [AV.int IntKind.i64 e.op, AV.agg [AV.int IntKind.i64 (wor (look l) x54).ty, AV.int IntKind.u64 (wor (look l) x54).bi], AV.agg [AV.int IntKind.i64 (wor (look l) x48).ty, AV.int IntKind.u64 (wor (look l) x48).bi]])), (.int .u64 (tF2 (8 : FuncId) [AV.int IntKind.i64 e.op, AV.agg [AV.int IntKind.i64 (wor (look l) x54).ty, AV.int IntKind.u64 (wor (look l) x54).bi], AV.agg [AV.int IntKind.i64 (wor (look l) x48).ty, AV.int IntKind.u64 (wor (look l) x48).bi]]))]) [] .plain))))))) (fun hb49 => none)))) (dite ((0 : Int) ≤ (1 : Int) ∧ Int.toNat (1 : Int) < e.kids.length) (fun hb51 => (pickX (fun x50 : Ex => x50 ∈ e.kids ∧ Eq (α := AV) (.agg [(.int .i64 ((e.kids.get ⟨Int.toNat (1 : Int), hb51.right⟩).kind)), (.int .i64 ((e.kids.get ⟨Int.toNat (1 : Int), hb51.right⟩).op)), (.str ((e.kids.get ⟨Int.toNat (1 : Int), hb51.right⟩).mod)), (.str ((e.kids.get ⟨Int.toNat (1 : Int), hb51.right⟩).name)), (.int .i64 ((e.kids.get ⟨Int.toNat (1 : Int), hb51.right⟩).vt)), (.int .u64 ((e.kids.get ⟨Int.toNat (1 : Int), hb51.right⟩).vb)), (.sl 7 .no ((e.kids.get ⟨Int.toNat (1 : Int), hb51.right⟩).kids.length) (fun q8 => row ((e.kids.get ⟨Int.toNat (1 : Int), hb51.right⟩).kids.get q8)))]) (.agg [(.int .i64 (x50.kind)), (.int .i64 (x50.op)), (.str (x50.mod)), (.str (x50.name)), (.int .i64 (x50.vt)), (.int .u64 (x50.vb)), (.sl 7 .no (x50.kids.length) (fun q8 => [(.int .i64 ((x50.kids.get q8).kind)), (.int .i64 ((x50.kids.get q8).op)), (.str ((x50.kids.get q8).mod)), (.str ((x50.kids.get q8).name)), (.int .i64 ((x50.kids.get q8).vt)), (.int .u64 ((x50.kids.get q8).vb)), (.sl 7 .no ((x50.kids.get q8).kids.length) (fun q9 => row ((x50.kids.get q8).kids.get q9)))]))]) ∧ Eq (α := AV) (.sl 4 .no (l.length) (fun q8 => [(.str ((l.get q8).mod)), (.str ((l.get q8).name)), (.int .i64 ((l.get q8).t)), (.int .u64 ((l.get q8).b))])) (.sl 4 .no (l.length) (fun q8 => [(.str ((l.get q8).mod)), (.str ((l.get q8).name)), (.int .i64 ((l.get q8).t)), (.int .u64 ((l.get q8).b))])) ∧ Eq (α := List Den.Obj) [] [] ∧ Eq (α := PS) .plain .plain) (fun x50 => (cond ((wor (look l) x50).isE) (some (.pan (.ifc 61 (.int .i64 ((wor (look l) x50).er))) [] .plain)) (cond (tF3 (8 : FuncId) [AV.int IntKind.i64 e.op, AV.agg [AV.int IntKind.i64 (wor (look l) x54).ty, AV.int IntKind.u64 (wor (look l) x54).bi], AV.agg [AV.int IntKind.i64 (wor (look l) x50).ty, AV.int IntKind.u64 (wor (look l) x50).bi]] != (0 : Int)) (some (.pan (.ifc 61 (.int .i64 (iF (22 : FuncId) [AV.int IntKind.i64 (tF3 (8 : FuncId) [AV.int IntKind.i64 e.op, AV.agg [AV.int IntKind.i64 (wor (look l) x54).ty, AV.int IntKind.u64 (wor (look l) x54).bi], AV.agg [AV.int IntKind.i64 (wor (look l) x50).ty, AV.int IntKind.u64 (wor (look l) x50).bi]])]))) [] .plain)) (some (.ret (.agg [(.int .i64 (tF1 (8 : FuncId) [AV.int IntKind.i64 e.op, AV.agg [AV.int IntKind.i64 (wor (look l) x54).ty, AV.int IntKind.u64 (wor (look l) x54).bi], AV.agg [AV.int IntKind.i64 (wor (look l) x50).ty, AV.int IntKind.u64 (wor (look l) x50).bi]])), (.int .u64 (tF2 (8 : FuncId) [AV.int IntKind.i64 e.op, AV.agg [AV.int IntKind.i64 (wor (look l) x54).ty, AV.int IntKind.u64 (wor (look l) x54).bi], AV.agg [AV.int IntKind.i64 (wor (look l) x50).ty, AV.int IntKind.u64 (wor (look l) x50).bi]]))]) [] .plain))))))) (fun hb51 => none))))))) (fun hb55 => none)) (some (.pan (.ifc 61 (.int .i64 25)) [] .plain))))) (cond (e.kind == (3 : Int)) (chk (Eq (α := List AV) [(.sl 4 .no (l.length) (fun q3 => [(.str ((l.get q3).mod)), (.str ((l.get q3).name)), (.int .i64 ((l.get q3).t)), (.int .u64 ((l.get q3).b))])), (.fn 48 [(.ptr 0 0 0 0)])] [(.sl 4 .no (l.length) (fun q3 => [(.str ((l.get q3).mod)), (.str ((l.get q3).name)), (.int .i64 ((l.get q3).t)), (.int .u64 ((l.get q3).b))])), (.fn 48 [(.ptr 0 0 0 0)])] ∧ Eq (α := List Den.Obj) [(.var [(.int .i64 (e.kind)), (.int .i64 (e.op)), (.str (e.mod)), (.str (e.name)), (.int .i64 (e.vt)), (.int .u64 (e.vb)), (.sl 7 .no (e.kids.length) (fun q3 => [(.int .i64 ((e.kids.get q3).kind)), (.int .i64 ((e.kids.get q3).op)), (.str ((e.kids.get q3).mod)), (.str ((e.kids.get q3).name)), (.int .i64 ((e.kids.get q3).vt)), (.int .u64 ((e.kids.get q3).vb)), (.sl 7 .no ((e.kids.get q3).kids.length) (fun q4 => row ((e.kids.get q3).kids.get q4)))]))]), (.var [(.int .i64 0), (.int .u64 0)])] [(.var [(.int .i64 (e.kind)), (.int .i64 (e.op)), (.str (e.mod)), (.str (e.name)), (.int .i64 (e.vt)), (.int .u64 (e.vb)), (.sl 7 .no (e.kids.length) (fun q3 => [(.int .i64 ((e.kids.get q3).kind)), (.int .i64 ((e.kids.get q3).op)), (.str ((e.kids.get q3).mod)), (.str ((e.kids.get q3).name)), (.int .i64 ((e.kids.get q3).vt)), (.int .u64 ((e.kids.get q3).vb)), (.sl 7 .no ((e.kids.get q3).kids.length) (fun q4 => row ((e.kids.get q3).kids.get q4)))]))]), (.var [(.int .i64 0), (.int .u64 0)])] ∧ Eq (α := PS) .plain .plain) (cond (decide (ixC l e < (0 : Int))) (some (.pan (.ifc 61 (.int .i64 21)) [] .plain)) (dite ((0 : Int) ≤ ixC l e ∧ (ixC l e).toNat < l.length) (fun hb55 => (cond (!(bF (18 : FuncId) [AV.agg [AV.int IntKind.i64 (l.get ⟨(ixC l e).toNat, hb55.right⟩).t, AV.int IntKind.u64 (l.get ⟨(ixC l e).toNat, hb55.right⟩).b]])) (some (.pan (.ifc 61 (.int .i64 22)) [] .plain)) (dite ((0 : Int) ≤ ixC l e ∧ (ixC l e).toNat < l.length) (fun hb53 => (some (.ret (.agg [(.int .i64 ((l.get ⟨(ixC l e).toNat, hb53.right⟩).t)), (.int .u64 ((l.get ⟨(ixC l e).toNat, hb53.right⟩).b))]) [] .plain))) (fun hb53 => none)))) (fun hb55 => none)))) (cond (e.kind == (6 : Int)) (dite ((0 : Int) ≤ (0 : Int) ∧ Int.toNat (0 : Int) < e.kids.length) (fun hb56 => (pickX (fun x55 : Ex => x55 ∈ e.kids ∧ Eq (α := AV) (.agg [(.int .i64 ((e.kids.get ⟨Int.toNat (0 : Int), hb56.right⟩).kind)), (.int .i64 ((e.kids.get ⟨Int.toNat (0 : Int), hb56.right⟩).op)), (.str ((e.kids.get ⟨Int.toNat (0 : Int), hb56.right⟩).mod)), (.str ((e.kids.get ⟨Int.toNat (0 : Int), hb56.right⟩).name)), (.int .i64 ((e.kids.get ⟨Int.toNat (0 : Int), hb56.right⟩).vt)), (.int .u64 ((e.kids.get ⟨Int.toNat (0 : Int), hb56.right⟩).vb)), (.sl 7 .no ((e.kids.get ⟨Int.toNat (0 : Int), hb56.right⟩).kids.length) (fun q5 => row ((e.kids.get ⟨Int.toNat (0 : Int), hb56.right⟩).kids.get q5)))]) (.agg [(.int .i64 (x55.kind)), (.int .i64 (x55.op)), (.str (x55.mod)), (.str (x55.name)), (.int .i64 (x55.vt)), (.int .u64 (x55.vb)), (.sl 7 .no (x55.kids.length) (fun q5 => [(.int .i64 ((x55.kids.get q5).kind)), (.int .i64 ((x55.kids.get q5).op)), (.str ((x55.kids.get q5).mod)), (.str ((x55.kids.get q5).name)), (.int .i64 ((x55.kids.get q5).vt)), (.int .u64 ((x55.kids.get q5).vb)), (.sl 7 .no ((x55.kids.get q5).kids.length) (fun q6 => row ((x55.kids.get q5).kids.get q6)))]))]) ∧ Eq (α := AV) (.sl 4 .no (l.length) (fun q5 => [(.str ((l.get q5).mod)), (.str ((l.get q5).name)), (.int .i64 ((l.get q5).t)), (.int .u64 ((l.get q5).b))])) (.sl 4 .no (l.length) (fun q5 => [(.str ((l.get q5).mod)), (.str ((l.get q5).name)), (.int .i64 ((l.get q5).t)), (.int .u64 ((l.get q5).b))])) ∧ Eq (α := List Den.Obj) [] [] ∧ Eq (α := PS) .plain .plain) (fun x55 => (cond ((wor (look l) x55).isE) (some (.pan (.ifc 61 (.int .i64 ((wor (look l) x55).er))) [] .plain)) (cond (tF3 (50 : FuncId) [AV.int IntKind.i64 e.op, AV.agg [AV.int IntKind.i64 (wor (look l) x55).ty, AV.int IntKind.u64 (wor (look l) x55).bi]] != (0 : Int)) (some (.pan (.ifc 61 (.int .i64 (iF (22 : FuncId) [AV.int IntKind.i64 (tF3 (50 : FuncId) [AV.int IntKind.i64 e.op, AV.agg [AV.int IntKind.i64 (wor (look l) x55).ty, AV.int IntKind.u64 (wor (look l) x55).bi]])]))) [] .plain)) (some (.ret (.agg [(.int .i64 (tF1 (50 : FuncId) [AV.int IntKind.i64 e.op, AV.agg [AV.int IntKind.i64 (wor (look l) x55).ty, AV.int IntKind.u64 (wor (look l) x55).bi]])), (.int .u64 (tF2 (50 : FuncId) [AV.int IntKind.i64 e.op, AV.agg [AV.int IntKind.i64 (wor (look l) x55).ty, AV.int IntKind.u64 (wor (look l) x55).bi]]))]) [] .plain))))))) (fun hb56 => none)) (cond (e.kind == (7 : Int)) (dite ((0 : Int) ≤ (0 : Int) ∧ Int.toNat (0 : Int) < e.kids.length) (fun hb55 => (pickX (fun x54 : Ex => x54 ∈ e.kids ∧ Eq (α := AV) (.agg [(.int .i64 ((e.kids.get ⟨Int.toNat (0 : Int), hb55.right⟩).kind)), (.int .i64 ((e.kids.get ⟨Int.toNat (0 : Int), hb55.right⟩).op)), (.str ((e.kids.get ⟨Int.toNat (0 : Int), hb55.right⟩).mod)), (.str ((e.kids.get ⟨Int.toNat (0 : Int), hb55.right⟩).name)), (.int .i64 ((e.kids.get ⟨Int.toNat (0 : Int), hb55.right⟩).vt)), (.int .u64 ((e.kids.get ⟨Int.toNat (0 : Int), hb55.right⟩).vb)), (.sl 7 .no ((e.kids.get ⟨Int.toNat (0 : Int), hb55.right⟩).kids.length) (fun q5 => row ((e.kids.get ⟨Int.toNat (0 : Int), hb55.right⟩).kids.get q5)))]) (.agg [(.int .i64 (x54.kind)), (.int .i64 (x54.op)), (.str (x54.mod)), (.str (x54.name)), (.int .i64 (x54.vt)), (.int .u64 (x54.vb)), (.sl 7 .no (x54.kids.length) (fun q5 => [(.int .i64 ((x54.kids.get q5).kind)), (.int .i64 ((x54.kids.get q5).op)), (.str ((x54.kids.get q5).mod)), (.str ((x54.kids.get q5).name)), (.int .i64 ((x54.kids.get q5).vt)), (.int .u64 ((x54.kids.get q5).vb)), (.sl 7 .no ((x54.kids.get q5).kids.length) (fun q6 => row ((x54.kids.get q5).kids.get q6)))]))]) ∧ Eq (α := AV) (.sl 4 .no (l.length) (fun q5 => [(.str ((l.get q5).mod)), (.str ((l.get q5).name)), (.int .i64 ((l.get q5).t)), (.int .u64 ((l.get q5).b))])) (.sl 4 .no (l.length) (fun q5 => [(.str ((l.get q5).mod)), (.str ((l.get q5).name)), (.int .i64 ((l.get q5).t)), (.int .u64 ((l.get q5).b))])) ∧ Eq (α := List Den.Obj) [] [] ∧ Eq (α := PS) .plain .plain) (fun x54 => (cond ((wor (look l) x54).isE) (some (.pan (.ifc 61 (.int .i64 ((wor (look l) x54).er))) [] .plain)) (cond (cond (e.op == (12 : Int)) (true) (e.op == (13 : Int))) (cond ((wor (look l) x54).ty != (3 : Int)) (some (.pan (.ifc 61 (.int .i64 22)) [] .plain)) (cond ((((wor (look l) x54).bi == (1 : Int)) == (e.op == (13 : Int)))) (some (.ret (.agg [(.int .i64 ((wor (look l) x54).ty)), (.int .u64 ((wor (look l) x54).bi))]) [] .plain)) (dite ((0 : Int) ≤ (1 : Int) ∧ Int.toNat (1 : Int) < e.kids.length) (fun hb49 => (pickX (fun x48 : Ex => x48 ∈ e.kids ∧ Eq (α := AV) (.agg [(.int .i64 ((e.kids.get ⟨Int.toNat (1 : Int), hb49.right⟩).kind)), (.int .i64 ((e.kids.get ⟨Int.toNat (1 : Int), hb49.right⟩).op)), (.str ((e.kids.get ⟨Int.toNat (1 : Int), hb49.right⟩).mod)), (.str ((e.kids.get ⟨Int.toNat (1 : Int), hb49.right⟩).name)), (.int .i64 ((e.kids.get ⟨Int.toNat (1 : Int), hb49.right⟩).vt)), (.int .u64 ((e.kids.get ⟨Int.toNat (1 : Int), hb49.right⟩).vb)), (.sl 7 .no ((e.kids.get ⟨Int.toNat (1 : Int), hb49.right⟩).kids.length) (fun q8 => row ((e.kids.get ⟨Int.toNat (1 : Int), hb49.right⟩).kids.get q8)))]) (.agg [(.int .i64 (x48.kind)), (.int .i64 (x48.op)), (.str (x48.mod)), (.str (x48.name)), (.int .i64 (x48.vt)), (.int .u64 (x48.vb)), (.sl 7 .no (x48.kids.length) (fun q8 => [(.int .i64 ((x48.kids.get q8).kind)), (.int .i64 ((x48.kids.get q8).op)), (.str ((x48.kids.get q8).mod)), (.str ((x48.kids.get q8).name)), (.int .i64 ((x48.kids.get q8).vt)), (.int .u64 ((x48.kids.get q8).vb)), (.sl 7 .no ((x48.kids.get q8).kids.length) (fun q9 => row ((x48.kids.get q8).kids.get q9)))]))]) ∧ Eq (α := AV) (.sl 4 .no (l.length) (fun q8 => [(.str ((l.get q8).mod)), (.str ((l.get q8).name)), (.int .i64 ((l.get q8).t)), (.int .u64 ((l.get q8).b))])) (.sl 4 .no (l.length) (fun q8 => [(.str ((l.get q8).mod)), (.str ((l.get q8).name)), (.int .i64 ((l.get q8).t)), (.int .u64 ((l.get q8).b))])) ∧ Eq (α := List Den.Obj) [] [] ∧ Eq (α := PS) .plain .plain) (fun x48 => (cond ((wor (look l) x48).isE) (some (.pan (.ifc 61 (.int .i64 ((wor (look l) x48).er))) [] .plain)) (cond (tF3 (8 : FuncId) [AV.int IntKind.i64 e.op, AV.agg [AV.int IntKind.i64 (wor (look l) x54).ty, AV.int IntKind.u64 (wor (look l) x54).bi], AV.agg [AV.int IntKind.i64 (wor (look l) x48).ty, AV.int IntKind.u64 (wor (look l) x48).bi]] != (0 : Int)) (some (.pan (.ifc 61 (.int .i64 (iF (22 : FuncId) [AV.int IntKind.i64 (tF3 (8 : FuncId) [AV.int IntKind.i64 e.op, AV.agg [AV.int IntKind.i64 (wor (look l) x54).ty, AV.int IntKind.u64 (wor (look l) x54).bi], AV.agg [AV.int IntKind.i64 (wor (look l) x48).ty, AV.int IntKind.u64 (wor (look l) x48).bi]])]))) [] .plain)) (some (.ret (.agg [(.int .i64 (tF1 (8 : FuncId) [AV.int IntKind.i64 e.op, AV.agg [AV.int IntKind.i64 (wor (look l) x54).ty, AV.int IntKind.u64 (wor (look l) x54).bi], AV.agg [AV.int IntKind.i64 (wor (look l) x48).ty, AV.int IntKind.u64 (wor (look l) x48).bi]])), (.int .u64 (tF2 (8 : FuncId) [AV.int IntKind.i64 e.op, AV.agg [AV.int IntKind.i64 (wor (look l) x54).ty, AV.int IntKind.u64 (wor (look l) x54).bi], AV.agg [AV.int IntKind.i64 (wor (look l) x48).ty, AV.int IntKind.u64 (wor (look l) x48).bi]]))]) [] .plain))))))) (fun hb49 => none)))) (dite ((0 : Int) ≤ (1 : Int) ∧ Int.toNat (1 : Int) < e.kids.length) (fun hb51 => (pickX (fun x50 : Ex => x50 ∈ e.kids ∧ Eq (α := AV) (.agg [(.int .i64 ((e.kids.get ⟨Int.toNat (1 : Int), hb51.right⟩).kind)), (.int .i64 ((e.kids.get ⟨Int.toNat (1 : Int), hb51.right⟩).op)), (.str ((e.kids.get ⟨Int.toNat (1 : Int), hb51.right⟩).mod)), (.str ((e.kids.get ⟨Int.toNat (1 : Int), hb51.right⟩).name)), (.int .i64 ((e.kids.get ⟨Int.toNat (1 : Int), hb51.right⟩).vt)), (.int .u64 ((e.kids.get ⟨Int.toNat (1 : Int), hb51.right⟩).vb)), (.sl 7 .no ((e.kids.get ⟨Int.toNat (1 : Int), hb51.right⟩).kids.length) (fun q8 => row ((e.kids.get ⟨Int.toNat (1 : Int), hb51.right⟩).kids.get q8)))]) (.agg [(.int .i64 (x50.kind)), (.int .i64 (x50.op)), (.str (x50.mod)), (.str (x50.name)), (.int .i64 (x50.vt)), (.int .u64 (x50.vb)), (.sl 7 .no (x50.kids.length) (fun q8 => [(.int .i64 ((x50.kids.get q8).kind)), (.int .i64 ((x50.kids.get q8).op)), (.str ((x50.kids.get q8).mod)), (.str ((x50.kids.get q8).name)), (.int .i64 ((x50.kids.get q8).vt)), (.int .u64 ((x50.kids.get q8).vb)), (.sl 7 .no ((x50.kids.get q8).kids.length) (fun q9 => row ((x50.kids.get q8).kids.get q9)))]))]) ∧ Eq (α := AV) (.sl 4 .no (l.length) (fun q8 => [(.str ((l.get q8).mod)), (.str ((l.get q8).name)), (.int .i64 ((l.get q8).t)), (.int .u64 ((l.get q8).b))])) (.sl 4 .no (l.length) (fun q8 => [(.str ((l.get q8).mod)), (.str ((l.get q8).name)), (.int .i64 ((l.get q8).t)), (.int .u64 ((l.get q8).b))])) ∧ Eq (α := List Den.Obj) [] [] ∧ Eq (α := PS) .plain .plain) (fun x50 => (cond ((wor (look l) x50).isE) (some (.pan (.ifc 61 (.int .i64 ((wor (look l) x50).er))) [] .plain)) (cond (tF3 (8 : FuncId) [AV.int IntKind.i64 e.op, AV.agg [AV.int IntKind.i64 (wor (look l) x54).ty, AV.int IntKind.u64 (wor (look l) x54).bi], AV.agg [AV.int IntKind.i64 (wor (look l) x50).ty, AV.int IntKind.u64 (wor (look l) x50).bi]] != (0 : Int)) (some (.pan (.ifc 61 (.int .i64 (iF (22 : FuncId) [AV.int IntKind.i64 (tF3 (8 : FuncId) [AV.int IntKind.i64 e.op, AV.agg [AV.int IntKind.i64 (wor (look l) x54).ty, AV.int IntKind.u64 (wor (look l) x54).bi], AV.agg [AV.int IntKind.i64 (wor (look l) x50).ty, AV.int IntKind.u64 (wor (look l) x50).bi]])]))) [] .plain)) (some (.ret (.agg [(.int .i64 (tF1 (8 : FuncId) [AV.int IntKind.i64 e.op, AV.agg [AV.int IntKind.i64 (wor (look l) x54).ty, AV.int IntKind.u64 (wor (look l) x54).bi], AV.agg [AV.int IntKind.i64 (wor (look l) x50).ty, AV.int IntKind.u64 (wor (look l) x50).bi]])), (.int .u64 (tF2 (8 : FuncId) [AV.int IntKind.i64 e.op, AV.agg [AV.int IntKind.i64 (wor (look l) x54).ty, AV.int IntKind.u64 (wor (look l) x54).bi], AV.agg [AV.int IntKind.i64 (wor (look l) x50).ty, AV.int IntKind.u64 (wor (look l) x50).bi]]))]) [] .plain))))))) (fun hb51 => none))))))) (fun hb55 => none)) (some (.pan (.ifc 61 (.int .i64 25)) [] .plain))))))) := by kernel_rfl
end Go.Proofs

/- What an expression is worth: what it comes to. -/
namespace Go.Proofs
open Go.Den
set_option maxRecDepth 100000
theorem sl_inj {z z' : Nat} {t t' : Tok} {n n' : Nat} {f : Fin n → List AV} {f' : Fin n' → List AV} (h : AV.sl z t n f = AV.sl z' t' n' f') : ∃ h : n = n', ∀ j : Fin n, f j = f' ⟨j.1, h ▸ j.2⟩ := by
  injection h with _ _ h1 h2
  subst h1
  exact ⟨rfl, fun j => by rw [eq_of_heq h2]⟩
theorem row_inj (e : Ex) : ∀ e', row e = row e' → e = e' := by
  have key : ∀ (n : Nat) (e : Ex), SizeOf.sizeOf e ≤ n → ∀ e', row e = row e' → e = e' := by
    intro n
    induction n with
    | zero =>
      intro e h
      cases e
      simp at h
    | succ n ih =>
      intro e h e' hr
      rw [row_eq, row_eq] at hr
      unfold rowS at hr
      simp only [List.cons.injEq, and_true, AV.int.injEq, AV.str.injEq, true_and] at hr
      obtain ⟨h1, h2, h3, h4, h5, h6, h7⟩ := hr
      obtain ⟨hn, hf⟩ := sl_inj h7
      have hk : e.kids = e'.kids := by
        refine List.ext_get hn fun i hi hi' => ?_
        have := hf ⟨i, hi⟩
        exact ih _ (by have := kid_lt e ⟨i, hi⟩; omega) _ this
      cases e; cases e'
      simp only [Ex.kind, Ex.op, Ex.mod, Ex.name, Ex.vt, Ex.vb, Ex.kids] at *
      simp [*]
  exact key _ e (Nat.le_refl _)
theorem ag_inj {e e' : Ex} (h : agE e = agE e') : e = e' := by
  rw [← agS, ← agS] at h
  injection h with h
  exact row_inj e e' (by rw [row_eq, row_eq]; exact h)
/-! the first constant of a name -/
theorem lp47 (l : List Con) (e : Ex) (hl : l.length < 1000000000) :
    Tot (codeD Try.prog polX (bindK dX) (l.length + 1) 47 (.loop (Code.part (bodyOf Try.prog 47) [1, 0, 1, 0, 0])) (S47 l e 0) (kBody Try.prog polX i48 (lpR Try.prog polX dX (l.length + 1) 47 (loopsOf (bodyOf Try.prog 47))) 47 [1, 0, 1, 0] 2 .plain))
      (· = .ret (.int .i64 (ixC l e)) (hW e) .plain) := by
  refine loop_tot (α := Unit) (calls := fun _ => i48) (fun _ => inlK_le noCall_le (fun f hf => by have hf : (f == 48) = true := hf; simp only [beq_iff_eq] at hf; subst hf; rfl) 1) (keep := false) rfl (inner := noLoops) no_loops
    (fun i _ => S47 l e i) (fun i _ => ∀ j (h : j < l.length), j < i → hit e (l.get ⟨j, h⟩) = false) l.length (Nat.lt_succ_self _) () (fun j h h0 => by omega) ?_ (H := 2) rfl ?_
  · show _ = _
    kernel_rfl
  · intro i _ hi hI K hK hE
    rw [r47]
    by_cases hlt : i < l.length
    · have h1 : decide ((i : Int) < l.length) = true := by simpa using hlt
      have h2 : (0 : Int) ≤ i ∧ (i : Int).toNat < l.length := by omega
      rw [h1, cond_true]
      refine Tot.dite h2 (Tot.cond (fun hc => ?_) fun hc => ?_)
      · rw [hE _ _ (by simp)]
        refine ⟨_, q47 _ e i, ?_⟩
        have hh : hit e (l.get ⟨i, hlt⟩) = true := by
          unfold hit
          simp only [Int.toNat_natCast] at hc
          cases hm : (l.get ⟨i, hlt⟩).mod == e.mod <;> simp_all
        have : l.findIdx? (hit e) = some i := by
          rw [List.findIdx?_eq_some_iff_getElem]
          exact ⟨hlt, by simpa using hh, fun j hj => by have := hI j (by omega) hj; simpa using this⟩
        unfold ixC
        rw [this]
        rfl
      · refine hK _ () hlt (fun j h hj => ?_) ?_
        · by_cases hji : j = i
          · subst hji
            unfold hit
            simp only [Int.toNat_natCast] at hc
            cases hm : (l.get ⟨j, h⟩).mod == e.mod <;> simp_all
          · exact hI j h (by omega)
        · rw [wrap_succ (by omega)]
          show _ = _
          kernel_rfl
    · have : i = l.length := by omega
      subst this
      have h1 : decide ((l.length : Int) < l.length) = false := by simp
      rw [h1, cond_false, hE _ _ (by simp)]
      have := e47 (lpR Try.prog polX dX (l.length + 1) 47 (loopsOf (bodyOf Try.prog 47))) l e l.length
      unfold S47e at this
      rw [h1] at this
      refine ⟨_, this, ?_⟩
      have : l.findIdx? (hit e) = none := by
        rw [List.findIdx?_eq_none_iff]
        intro x hx
        obtain ⟨j, hj⟩ := List.get_of_mem hx
        rw [← hj]
        exact hI j.1 j.2 j.2
      unfold ixC
      rw [this]
      rfl
theorem v47 (l : List Con) (e : Ex) (hl : l.length < 1000000000) : dX 47 [conL l, .fn 48 [.ptr 0 0 0 0]] (hW e) .plain = some (.ret (.int .i64 (ixC l e)) (hW e) .plain) := by
  refine Tot.of_eq (denA_tot (l.length + 1) (inlK_le noCall_le (fun f hf => by have hf : (f == 48) = true := hf; simp only [beq_iff_eq] at hf; subst hf; rfl) 1) rfl (by kernel_rfl) ?_)
  show Tot (bodyL Try.prog polX i48 _ _ _ _ _) _
  rw [b47]
  exact lpR_tot (by kernel_rfl) (lp47 l e hl)
def Wr.out : Wr → Out
  | .err n => .pan (.ifc 61 (.int .i64 n)) [] .plain
  | .val t b => .ret (vl t b) [] .plain
theorem u25b_le {e : Ex} {l : List Con} (hl : l.length < 1000000000) (ih : ∀ k ∈ e.kids, dX 25 [agE k, conL l] [] .plain = some (wor (look l) k).out) : CallLeK (u25b e l) dX := by
  intro f args h ps kk o x
  unfold u25b at x
  split at x
  · split at x
    · obtain ⟨k, ⟨hk, rfl, rfl, rfl, rfl⟩, x'⟩ := pickX_some x
      have := ih k hk
      cases hw : wor (look l) k with
      | err n => rw [hw] at this x'; exact ⟨_, x', this⟩
      | val t b => rw [hw] at this x'; exact ⟨_, x', this⟩
    · cases x
  · obtain ⟨⟨rfl, rfl, rfl⟩, x'⟩ := chk_some x
    exact ⟨_, x', v47 l e hl⟩
  · exact u7_le _ _ _ _ _ _ x
theorem ix_look {l : List Con} {e : Ex} : (ixC l e < 0 ∧ look l e = none) ∨ ∃ (h : (ixC l e).toNat < l.length), 0 ≤ ixC l e ∧ look l e = some ((l.get ⟨(ixC l e).toNat, h⟩).t, (l.get ⟨(ixC l e).toNat, h⟩).b) := by
  unfold ixC look
  cases hf : l.findIdx? (hit e) with
  | none =>
    left
    refine ⟨by decide, ?_⟩
    rw [List.findIdx?_eq_none_iff] at hf
    rw [List.find?_eq_none.2 (fun x hx => by rw [hf x hx]; decide)]
    rfl
  | some i =>
    right
    rw [List.findIdx?_eq_some_iff_getElem] at hf
    obtain ⟨h, h1, h2⟩ := hf
    refine ⟨by simpa using h, by simp, ?_⟩
    have : l.find? (hit e) = some (l[i]) := by
      rw [List.find?_eq_some_iff_getElem]
      exact ⟨h1, i, h, rfl, fun j hj => by have := h2 j hj; simpa using this⟩
    rw [this]
    simp
end Go.Proofs

/- What an expression is worth is what its text says. -/
namespace Go.Proofs
open Go.Den
set_option maxRecDepth 100000
theorem kid_get {e x : Ex} {j : Nat} {h : j < e.kids.length} (ha : AV.agg (rowS (e.kids.get ⟨j, h⟩)) = agE x) : x = e.kids.get ⟨j, h⟩ := by
  rw [agS] at ha
  exact (ag_inj ha).symm
theorem binW_val (op : Int) (y : Wr) (t b : Int) : binW op y (.val t b) = cond (op == 12 || op == 13) (cond (t != 3) (.err 22) (cond ((b == 1) == (op == 13)) (.val t b) (binW.go op y t b))) (binW.go op y t b) := rfl
theorem v25 (l : List Con) (hl : l.length < 1000000000) (e : Ex) (hg : Good e) : dX 25 [agE e, conL l] [] .plain = some (wor (look l) e).out := by
  induction hg with
  | mk e g2 g3 g6 g7 _ ih =>
    have ihk : ∀ k ∈ e.kids, dX 25 [agE k, conL l] [] .plain = some (wor (look l) k).out := fun k hk => by
      obtain ⟨j, rfl⟩ := List.get_of_mem hk
      exact ih j
    refine Tot.of_eq (denA_tot 0 (inlK_le (u25b_le hl ihk) (fun f hf => by have hf : (f == 49) = true := hf; simp only [beq_iff_eq] at hf; subst hf; rfl) 1) rfl (by kernel_rfl) ?_)
    show Tot (bodyL Try.prog polX (u25 e l) _ _ _ _ _) _
    rw [b25, wor]
    by_cases k1 : e.kind = 1
    · have c1 : (e.kind == 1) = true := by simpa using k1
      rw [c1]; repeat rw [cond_true]
      exact Tot.some rfl
    have c1 : (e.kind == 1) = false := by simpa using k1
    rw [c1]; repeat rw [cond_false]
    have nam : ∀ {X : R}, (X = cond (decide (ixC l e < (0 : Int))) (some (.pan (.ifc 61 (.int .i64 21)) [] .plain)) (dite ((0 : Int) ≤ ixC l e ∧ (ixC l e).toNat < l.length)
        (fun hb55 => (cond (!(bF (18 : FuncId) [AV.agg [AV.int IntKind.i64 (l.get ⟨(ixC l e).toNat, hb55.right⟩).t, AV.int IntKind.u64 (l.get ⟨(ixC l e).toNat, hb55.right⟩).b]])) (some (.pan (.ifc 61 (.int .i64 22)) [] .plain))
          (dite ((0 : Int) ≤ ixC l e ∧ (ixC l e).toNat < l.length) (fun hb53 => (some (.ret (.agg [(.int .i64 ((l.get ⟨(ixC l e).toNat, hb53.right⟩).t)), (.int .u64 ((l.get ⟨(ixC l e).toNat, hb53.right⟩).b))]) [] .plain))) (fun hb53 => none)))) (fun hb55 => none))) →
        Tot X (· = (namW (look l e)).out) := by
      rintro X rfl
      rcases ix_look (l := l) (e := e) with ⟨h1, h2⟩ | ⟨h, h1, h2⟩
      · rw [decide_eq_true h1, cond_true, h2]
        exact Tot.some rfl
      · rw [decide_eq_false (by omega), cond_false, h2, dif_pos ⟨h1, h⟩]
        refine Tot.cond (fun hc => ?_) fun hc => ?_
        · refine Tot.some ?_
          unfold namW vl
          simp only [hc]
          rfl
        · rw [dif_pos ⟨h1, h⟩]
          refine Tot.some ?_
          unfold namW vl
          simp only [hc]
          rfl
    by_cases k2 : e.kind = 2
    · have c2 : (e.kind == 2) = true := by simpa using k2
      rw [c2, Bool.true_or]; repeat rw [cond_true]
      exact Tot.chk ⟨rfl, rfl, rfl⟩ (nam rfl)
    have c2 : (e.kind == 2) = false := by simpa using k2
    rw [c2, Bool.false_or]; repeat rw [cond_false]
    by_cases k3 : e.kind = 3
    · have c3 : (e.kind == 3) = true := by simpa using k3
      rw [c3]; repeat rw [cond_true]
      exact Tot.chk ⟨rfl, rfl, rfl⟩ (nam rfl)
    have c3 : (e.kind == 3) = false := by simpa using k3
    rw [c3]; repeat rw [cond_false]
    by_cases k6 : e.kind = 6
    · have c6 : (e.kind == 6) = true := by simpa using k6
      rw [c6]; repeat rw [cond_true]
      have hlen := g6 k6
      have h0 : 0 < e.kids.length := by omega
      rw [dif_pos h0]
      refine Tot.dite ⟨Int.le_refl 0, h0⟩ (Tot.pickX ⟨e.kids.get ⟨0, h0⟩, List.get_mem .., agS _, rfl, rfl, rfl⟩ ?_)
      rintro x ⟨_, ha, _⟩
      obtain rfl := kid_get (h := h0) ha
      generalize wor (look l) (e.kids.get ⟨0, h0⟩) = W
      cases W with
      | err n => exact Tot.some rfl
      | val t b =>
        refine Tot.cond (fun hc => by cases hc) fun _ => Tot.cond (fun hc => ?_) fun hc => ?_
        · refine Tot.some ?_
          show _ = (musW _ _ _).out
          unfold musW vl
          simp only [Wr.ty, Wr.bi] at hc ⊢
          rw [hc]
          rfl
        · refine Tot.some ?_
          show _ = (musW _ _ _).out
          unfold musW vl
          simp only [Wr.ty, Wr.bi] at hc ⊢
          rw [hc]
          rfl
    have c6 : (e.kind == 6) = false := by simpa using k6
    rw [c6]; repeat rw [cond_false]
    by_cases k7 : e.kind = 7
    · have c7 : (e.kind == 7) = true := by simpa using k7
      rw [c7]; repeat rw [cond_true]
      have hlen := g7 k7
      have h0 : 0 < e.kids.length := by omega
      have h1 : 1 < e.kids.length := by omega
      rw [dif_pos h1]
      refine Tot.dite ⟨Int.le_refl 0, h0⟩ (Tot.pickX ⟨e.kids.get ⟨0, h0⟩, List.get_mem .., agS _, rfl, rfl, rfl⟩ ?_)
      rintro x ⟨_, ha, _⟩
      obtain rfl := kid_get (h := h0) ha
      generalize wor (look l) (e.kids.get ⟨0, h0⟩) = W
      cases W with
      | err n => exact Tot.some rfl
      | val t b =>
        have second : ∀ {X : R}, X = (dite ((0 : Int) ≤ (1 : Int) ∧ Int.toNat (1 : Int) < e.kids.length) (fun hb49 => (pickX (fun x48 : Ex => x48 ∈ e.kids ∧ AV.agg (rowS (e.kids.get ⟨Int.toNat (1 : Int), hb49.right⟩)) = agE x48 ∧ conL l = conL l ∧ Eq (α := List Den.Obj) [] [] ∧ Eq (α := PS) .plain .plain) (fun x48 => (cond ((wor (look l) x48).isE) (some (.pan (.ifc 61 (.int .i64 ((wor (look l) x48).er))) [] .plain)) (cond (tF3 (8 : FuncId) [AV.int IntKind.i64 e.op, AV.agg [AV.int IntKind.i64 t, AV.int IntKind.u64 b], AV.agg [AV.int IntKind.i64 (wor (look l) x48).ty, AV.int IntKind.u64 (wor (look l) x48).bi]] != (0 : Int)) (some (.pan (.ifc 61 (.int .i64 (iF (22 : FuncId) [AV.int IntKind.i64 (tF3 (8 : FuncId) [AV.int IntKind.i64 e.op, AV.agg [AV.int IntKind.i64 t, AV.int IntKind.u64 b], AV.agg [AV.int IntKind.i64 (wor (look l) x48).ty, AV.int IntKind.u64 (wor (look l) x48).bi]])]))) [] .plain)) (some (.ret (.agg [(.int .i64 (tF1 (8 : FuncId) [AV.int IntKind.i64 e.op, AV.agg [AV.int IntKind.i64 t, AV.int IntKind.u64 b], AV.agg [AV.int IntKind.i64 (wor (look l) x48).ty, AV.int IntKind.u64 (wor (look l) x48).bi]])), (.int .u64 (tF2 (8 : FuncId) [AV.int IntKind.i64 e.op, AV.agg [AV.int IntKind.i64 t, AV.int IntKind.u64 b], AV.agg [AV.int IntKind.i64 (wor (look l) x48).ty, AV.int IntKind.u64 (wor (look l) x48).bi]]))]) [] .plain))))))) (fun hb49 => none)) →
            Tot X (· = (binW.go e.op (wor (look l) (e.kids.get ⟨1, h1⟩)) t b).out) := by
          rintro X rfl
          refine Tot.dite ⟨by decide, h1⟩ (Tot.pickX ⟨e.kids.get ⟨1, h1⟩, List.get_mem .., agS _, rfl, rfl, rfl⟩ ?_)
          rintro x ⟨_, ha, _⟩
          obtain rfl := kid_get (h := h1) ha
          generalize wor (look l) (e.kids.get ⟨1, h1⟩) = W
          cases W with
          | err n => exact Tot.some rfl
          | val t' b' =>
            refine Tot.cond (fun hc => by cases hc) fun _ => Tot.cond (fun hc => ?_) fun hc => ?_
            · refine Tot.some ?_
              show _ = (musW _ _ _).out
              unfold musW vl
              simp only [Wr.ty, Wr.bi] at hc ⊢
              rw [hc]
              rfl
            · refine Tot.some ?_
              show _ = (musW _ _ _).out
              unfold musW vl
              simp only [Wr.ty, Wr.bi] at hc ⊢
              rw [hc]
              rfl
        refine Tot.cond (fun hc => by cases hc) fun _ => Tot.cond (fun hc => ?_) fun hc => ?_
        · have ho : (e.op == 12 || e.op == 13) = true := by cases h : e.op == 12 <;> simp_all
          rw [binW_val, ho, cond_true]
          refine Tot.cond (fun hc => ?_) fun hc => ?_
          · have : (t != 3) = true := hc
            rw [this, cond_true]
            exact Tot.some rfl
          · have : (t != 3) = false := hc
            rw [this, cond_false]
            refine Tot.cond (fun hc => ?_) fun hc => ?_
            · have : ((b == 1) == (e.op == 13)) = true := hc
              rw [this, cond_true]
              exact Tot.some rfl
            · have : ((b == 1) == (e.op == 13)) = false := hc
              rw [this, cond_false]
              exact second rfl
        · have ho : (e.op == 12 || e.op == 13) = false := by cases h : e.op == 12 <;> simp_all
          rw [binW_val, ho, cond_false]
          exact second rfl
    have c7 : (e.kind == 7) = false := by simpa using k7
    rw [c7]; repeat rw [cond_false]
    exact Tot.some rfl
end Go.Proofs
