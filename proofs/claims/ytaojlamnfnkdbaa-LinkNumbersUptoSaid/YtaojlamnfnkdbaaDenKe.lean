/- Link: the stable sort: what is left. -/
import Derived.Test.YtaojlamnfnkdbaaDenPiece
import Derived.Test.YtaojlamnfnkdbaaDenKit
import Derived.Test.YtaojlamnfnkdbaaDenKd
set_option linter.unusedSimpArgs false
set_option linter.unusedVariables false
set_option linter.unnecessarySimpa false
namespace Go.Proofs
open Go.Den
set_option maxRecDepth 100000

structure Q3 where (p x s : List Rw)
def Q3.l (q : Q3) : List Rw := q.p ++ q.x ++ q.s
noncomputable def Q3.srt (q : Q3) : List Rw := q.p ++ isort q.x ++ q.s
def Q3.at_ (q : Q3) (a b : Int) : Prop := q.l.length < 1000000000 ∧ a = q.p.length ∧ b = (q.p.length + q.x.length : Nat)
def Q4.fit (q : Q4) (a m b : Int) : Prop := q.at_ a m b ∧ Srt q.x ∧ Srt q.y
noncomputable def u47 : CallK := fun f args h ps K => match f, args with
  | 58, [x, .int .i64 a, .int .i64 b, .fn 38 []] => pickX (fun q : Q3 => x = .sr 0 0 0 q.l.length ∧ h = [arL 4 0 rwR q.l] ∧ ps = .plain ∧ q.at_ a b) (fun q => K (.ret (.tup []) [arL 4 0 rwR q.srt] .plain))
  | 59, [x, .int .i64 a, .int .i64 m, .int .i64 b, .fn 38 []] => pickX (fun q : Q4 => x = .sr 0 0 0 q.l.length ∧ h = [arL 4 0 rwR q.l] ∧ ps = .plain ∧ q.fit a m b) (fun q => K (.ret (.tup []) [arL 4 0 rwR q.mrg] .plain))
  | _, _ => none
def S47a (l : List Rw) (n z a b : Int) : St := ⟨[.sr 0 0 0 l.length, .int .i64 n, .fn 38 [], .top, .top, .top, .int .i64 z, .int .i64 a, .int .i64 b, .top, .top, .top, .top, .top, .top, .top, .top, .top, .top, .top, .top, .top, .top, .top, .top, .top, .top, .top, .top, .top, .top, .top, .top, .top, .top, .top, .top, .top, .top, .top, .top, .top, .top, .top, .top, .top, .top, .top, .top, .top, .top, .top, .top, .top, .top, .top, .top, .top, .top, .top, .top, .top, .top], ⟨[arL 4 0 rwR l], [], .plain⟩⟩
def S47ae (l : List Rw) (n z a b : Int) : St := ⟨[.sr 0 0 0 l.length, .int .i64 n, .fn 38 [], .top, .top, .top, .int .i64 z, .int .i64 a, .int .i64 b, .top, .top, .top, .top, .bool (decide (b ≤ n)), .top, .top, .top, .top, .top, .top, .top, .top, .top, .top, .top, .top, .top, .top, .top, .top, .top, .top, .top, .top, .top, .top, .top, .top, .top, .top, .top, .top, .top, .top, .top, .top, .top, .top, .top, .top, .top, .top, .top, .top, .top, .top, .top, .top, .top, .top, .top, .top, .top], ⟨[arL 4 0 rwR l], [], .plain⟩⟩
def S47b (l : List Rw) (n z : Int) : St := ⟨[.sr 0 0 0 l.length, .int .i64 n, .fn 38 [], .top, .top, .top, .int .i64 z, .top, .top, .top, .top, .top, .top, .top, .top, .top, .top, .top, .top, .top, .top, .top, .top, .top, .top, .top, .top, .top, .top, .top, .top, .top, .top, .top, .top, .top, .top, .top, .top, .top, .top, .top, .top, .top, .top, .top, .top, .top, .top, .top, .top, .top, .top, .top, .top, .top, .top, .top, .top, .top, .top, .top, .top], ⟨[arL 4 0 rwR l], [], .plain⟩⟩
def S47be (l : List Rw) (n z : Int) : St := ⟨[.sr 0 0 0 l.length, .int .i64 n, .fn 38 [], .top, .top, .top, .int .i64 z, .top, .top, .top, .top, .top, .top, .top, .top, .top, .top, .top, .top, .top, .top, .top, .top, .top, .top, .top, .top, .top, .top, .top, .bool (decide (z < n)), .top, .top, .top, .top, .top, .top, .top, .top, .top, .top, .top, .top, .top, .top, .top, .top, .top, .top, .top, .top, .top, .top, .top, .top, .top, .top, .top, .top, .top, .top, .top, .top], ⟨[arL 4 0 rwR l], [], .plain⟩⟩
def S47c (l : List Rw) (n z a b : Int) : St := ⟨[.sr 0 0 0 l.length, .int .i64 n, .fn 38 [], .top, .top, .top, .int .i64 z, .int .i64 a, .int .i64 b, .top, .top, .top, .top, .top, .top, .top, .top, .top, .top, .top, .top, .top, .top, .top, .top, .top, .top, .top, .top, .top, .top, .top, .top, .top, .top, .top, .top, .top, .top, .top, .top, .top, .top, .top, .top, .top, .top, .top, .top, .top, .top, .top, .top, .top, .top, .top, .top, .top, .top, .top, .top, .top, .top], ⟨[arL 4 0 rwR l], [], .plain⟩⟩
def S47ce (l : List Rw) (n z a b : Int) : St := ⟨[.sr 0 0 0 l.length, .int .i64 n, .fn 38 [], .top, .top, .top, .int .i64 z, .int .i64 a, .int .i64 b, .top, .top, .top, .top, .top, .top, .top, .top, .top, .top, .top, .top, .top, .top, .top, .top, .top, .top, .top, .top, .top, .top, .top, .top, .top, .top, .bool (decide (b ≤ n)), .top, .top, .top, .top, .top, .top, .top, .top, .top, .top, .top, .top, .top, .top, .top, .top, .top, .top, .top, .top, .top, .top, .top, .top, .top, .top, .top], ⟨[arL 4 0 rwR l], [], .plain⟩⟩
theorem r47a (l : List Rw) (n z a b : Int) (k : Den.Exit → St → R) : codeL Try.prog polK u47 noLoops 47 (Code.part (bodyOf Try.prog 47) [1, 1, 0, 0, 0]) (S47a l n z a b) k =
  (cond (decide (b ≤ n)) (pickX (fun x59 : Q3 => Eq (α := AV) (.sr 0 0 0 (l.length)) (.sr 0 0 0 (x59.l.length)) ∧ Eq (α := List Den.Obj) [(.arr 4 0 (l.length) (fun q7 => [(.str ((l.get q7).key)), (.sl 3 .no ((l.get q7).n1) ((l.get q7).f1)), (.sl 5 .no ((l.get q7).n2) ((l.get q7).f2)), (.sl 5 .no ((l.get q7).n3) ((l.get q7).f3))]))] [(.arr 4 0 (x59.l.length) (fun q7 => [(.str ((x59.l.get q7).key)), (.sl 3 .no ((x59.l.get q7).n1) ((x59.l.get q7).f1)), (.sl 5 .no ((x59.l.get q7).n2) ((x59.l.get q7).f2)), (.sl 5 .no ((x59.l.get q7).n3) ((x59.l.get q7).f3))]))] ∧ Eq (α := PS) .plain .plain ∧ (x59.at_ a b)) (fun x59 => (k .normal (.mk [(.sr 0 0 0 (l.length)), (.int .i64 n), (.fn 38 []), .top, .top, .top, (.int .i64 z), (.int .i64 b), (.int .i64 (IntKind.i64.wrap (b + z))), .top, .top, .top, .top, .top, .top, .top, .top, .top, .top, .top, .top, .top, .top, .top, .top, .top, .top, .top, .top, .top, .top, .top, .top, .top, .top, .top, .top, .top, .top, .top, .top, .top, .top, .top, .top, .top, .top, .top, .top, .top, .top, .top, .top, .top, .top, .top, .top, .top, .top, .top, .top, .top, .top] (.mk [(.arr 4 0 (x59.srt.length) (fun q8 => [(.str ((x59.srt.get q8).key)), (.sl 3 .no ((x59.srt.get q8).n1) ((x59.srt.get q8).f1)), (.sl 5 .no ((x59.srt.get q8).n2) ((x59.srt.get q8).f2)), (.sl 5 .no ((x59.srt.get q8).n3) ((x59.srt.get q8).f3))]))] [] .plain))))) (k (.exit 0) (.mk [(.sr 0 0 0 (l.length)), (.int .i64 n), (.fn 38 []), .top, .top, .top, (.int .i64 z), (.int .i64 a), (.int .i64 b), .top, .top, .top, .top, (.bool (decide (b ≤ n))), .top, .top, .top, .top, .top, .top, .top, .top, .top, .top, .top, .top, .top, .top, .top, .top, .top, .top, .top, .top, .top, .top, .top, .top, .top, .top, .top, .top, .top, .top, .top, .top, .top, .top, .top, .top, .top, .top, .top, .top, .top, .top, .top, .top, .top, .top, .top, .top, .top] (.mk [(.arr 4 0 (l.length) (fun q6 => [(.str ((l.get q6).key)), (.sl 3 .no ((l.get q6).n1) ((l.get q6).f1)), (.sl 5 .no ((l.get q6).n2) ((l.get q6).f2)), (.sl 5 .no ((l.get q6).n3) ((l.get q6).f3))]))] [] .plain)))) := by kernel_rfl
theorem e47a (loops : LoopK) (l : List Rw) (n z a b : Int) : (kBody Try.prog polK u47 loops 47 [1, 1, 0, 0] 1 .plain) (.exit 0) (S47ae l n z a b) =
  (pickX (fun x60 : Q3 => Eq (α := AV) (.sr 0 0 0 (l.length)) (.sr 0 0 0 (x60.l.length)) ∧ Eq (α := List Den.Obj) [(.arr 4 0 (l.length) (fun q7 => [(.str ((l.get q7).key)), (.sl 3 .no ((l.get q7).n1) ((l.get q7).f1)), (.sl 5 .no ((l.get q7).n2) ((l.get q7).f2)), (.sl 5 .no ((l.get q7).n3) ((l.get q7).f3))]))] [(.arr 4 0 (x60.l.length) (fun q7 => [(.str ((x60.l.get q7).key)), (.sl 3 .no ((x60.l.get q7).n1) ((x60.l.get q7).f1)), (.sl 5 .no ((x60.l.get q7).n2) ((x60.l.get q7).f2)), (.sl 5 .no ((x60.l.get q7).n3) ((x60.l.get q7).f3))]))] ∧ Eq (α := PS) .plain .plain ∧ (x60.at_ a n)) (fun x60 => (loops 7 (.mk [(.sr 0 0 0 (l.length)), (.int .i64 n), (.fn 38 []), .top, .top, .top, (.int .i64 z), .top, .top, .top, .top, .top, .top, .top, .top, .top, .top, .top, .top, .top, .top, .top, .top, .top, .top, .top, .top, .top, .top, .top, .top, .top, .top, .top, .top, .top, .top, .top, .top, .top, .top, .top, .top, .top, .top, .top, .top, .top, .top, .top, .top, .top, .top, .top, .top, .top, .top, .top, .top, .top, .top, .top, .top] (.mk [(.arr 4 0 (x60.srt.length) (fun q8 => [(.str ((x60.srt.get q8).key)), (.sl 3 .no ((x60.srt.get q8).n1) ((x60.srt.get q8).f1)), (.sl 5 .no ((x60.srt.get q8).n2) ((x60.srt.get q8).f2)), (.sl 5 .no ((x60.srt.get q8).n3) ((x60.srt.get q8).f3))]))] [] .plain)) (kBody Try.prog polK u47 loops 47 [1, 1, 1, 1, 0] 1 .plain)))) := by kernel_rfl
theorem r47b (loops : LoopK) (l : List Rw) (n z : Int) (k : Den.Exit → St → R) : codeL Try.prog polK u47 loops 47 (Code.part (bodyOf Try.prog 47) [1, 1, 1, 1, 0, 0]) (S47b l n z) k =
  (cond (decide (z < n)) (loops 9 (.mk [(.sr 0 0 0 (l.length)), (.int .i64 n), (.fn 38 []), .top, .top, .top, (.int .i64 z), (.int .i64 0), (.int .i64 (IntKind.i64.wrap ((2 : Int) * z))), .top, .top, .top, .top, .top, .top, .top, .top, .top, .top, .top, .top, .top, .top, .top, .top, .top, .top, .top, .top, .top, .top, .top, .top, .top, .top, .top, .top, .top, .top, .top, .top, .top, .top, .top, .top, .top, .top, .top, .top, .top, .top, .top, .top, .top, .top, .top, .top, .top, .top, .top, .top, .top, .top] (.mk [(.arr 4 0 (l.length) (fun q5 => [(.str ((l.get q5).key)), (.sl 3 .no ((l.get q5).n1) ((l.get q5).f1)), (.sl 5 .no ((l.get q5).n2) ((l.get q5).f2)), (.sl 5 .no ((l.get q5).n3) ((l.get q5).f3))]))] [] .plain)) (kAt Try.prog polK u47 loops 47 (Code.part (bodyOf Try.prog 47) [1, 1, 1, 1, 0, 0]) [1, 0, 1, 0, 0] k)) (k (.exit 2) (.mk [(.sr 0 0 0 (l.length)), (.int .i64 n), (.fn 38 []), .top, .top, .top, (.int .i64 z), .top, .top, .top, .top, .top, .top, .top, .top, .top, .top, .top, .top, .top, .top, .top, .top, .top, .top, .top, .top, .top, .top, .top, (.bool (decide (z < n))), .top, .top, .top, .top, .top, .top, .top, .top, .top, .top, .top, .top, .top, .top, .top, .top, .top, .top, .top, .top, .top, .top, .top, .top, .top, .top, .top, .top, .top, .top, .top, .top] (.mk [(.arr 4 0 (l.length) (fun q5 => [(.str ((l.get q5).key)), (.sl 3 .no ((l.get q5).n1) ((l.get q5).f1)), (.sl 5 .no ((l.get q5).n2) ((l.get q5).f2)), (.sl 5 .no ((l.get q5).n3) ((l.get q5).f3))]))] [] .plain)))) := by kernel_rfl
theorem e47b (loops : LoopK) (l : List Rw) (n z : Int) : (kBody Try.prog polK u47 loops 47 [1, 1, 1, 1, 0] 1 .plain) (.exit 2) (S47be l n z) =
  (some (.ret (.tup []) [(.arr 4 0 (l.length) (fun q4 => [(.str ((l.get q4).key)), (.sl 3 .no ((l.get q4).n1) ((l.get q4).f1)), (.sl 5 .no ((l.get q4).n2) ((l.get q4).f2)), (.sl 5 .no ((l.get q4).n3) ((l.get q4).f3))]))] .plain)) := by kernel_rfl
theorem r47c (l : List Rw) (n z a b : Int) (k : Den.Exit → St → R) : codeL Try.prog polK u47 noLoops 47 (Code.part (bodyOf Try.prog 47) [1, 1, 1, 1, 0, 0, 1, 0, 1, 0, 0, 0]) (S47c l n z a b) k =
  (cond (decide (b ≤ n)) (pickX (fun x59 : Q4 => Eq (α := AV) (.sr 0 0 0 (l.length)) (.sr 0 0 0 (x59.l.length)) ∧ Eq (α := List Den.Obj) [(.arr 4 0 (l.length) (fun q7 => [(.str ((l.get q7).key)), (.sl 3 .no ((l.get q7).n1) ((l.get q7).f1)), (.sl 5 .no ((l.get q7).n2) ((l.get q7).f2)), (.sl 5 .no ((l.get q7).n3) ((l.get q7).f3))]))] [(.arr 4 0 (x59.l.length) (fun q7 => [(.str ((x59.l.get q7).key)), (.sl 3 .no ((x59.l.get q7).n1) ((x59.l.get q7).f1)), (.sl 5 .no ((x59.l.get q7).n2) ((x59.l.get q7).f2)), (.sl 5 .no ((x59.l.get q7).n3) ((x59.l.get q7).f3))]))] ∧ Eq (α := PS) .plain .plain ∧ (x59.fit a (IntKind.i64.wrap (a + z)) b)) (fun x59 => (k .normal (.mk [(.sr 0 0 0 (l.length)), (.int .i64 n), (.fn 38 []), .top, .top, .top, (.int .i64 z), (.int .i64 b), (.int .i64 (IntKind.i64.wrap (b + IntKind.i64.wrap ((2 : Int) * z)))), .top, .top, .top, .top, .top, .top, .top, .top, .top, .top, .top, .top, .top, .top, .top, .top, .top, .top, .top, .top, .top, .top, .top, .top, .top, .top, .top, .top, .top, .top, .top, .top, .top, .top, .top, .top, .top, .top, .top, .top, .top, .top, .top, .top, .top, .top, .top, .top, .top, .top, .top, .top, .top, .top] (.mk [(.arr 4 0 (x59.mrg.length) (fun q8 => [(.str ((x59.mrg.get q8).key)), (.sl 3 .no ((x59.mrg.get q8).n1) ((x59.mrg.get q8).f1)), (.sl 5 .no ((x59.mrg.get q8).n2) ((x59.mrg.get q8).f2)), (.sl 5 .no ((x59.mrg.get q8).n3) ((x59.mrg.get q8).f3))]))] [] .plain))))) (k (.exit 4) (.mk [(.sr 0 0 0 (l.length)), (.int .i64 n), (.fn 38 []), .top, .top, .top, (.int .i64 z), (.int .i64 a), (.int .i64 b), .top, .top, .top, .top, .top, .top, .top, .top, .top, .top, .top, .top, .top, .top, .top, .top, .top, .top, .top, .top, .top, .top, .top, .top, .top, .top, (.bool (decide (b ≤ n))), .top, .top, .top, .top, .top, .top, .top, .top, .top, .top, .top, .top, .top, .top, .top, .top, .top, .top, .top, .top, .top, .top, .top, .top, .top, .top, .top] (.mk [(.arr 4 0 (l.length) (fun q6 => [(.str ((l.get q6).key)), (.sl 3 .no ((l.get q6).n1) ((l.get q6).f1)), (.sl 5 .no ((l.get q6).n2) ((l.get q6).f2)), (.sl 5 .no ((l.get q6).n3) ((l.get q6).f3))]))] [] .plain)))) := by kernel_rfl
theorem e47c (loops : LoopK) (l : List Rw) (n z a b : Int) (k : Den.Exit → St → R) : (kAt Try.prog polK u47 loops 47 (Code.part (bodyOf Try.prog 47) [1, 1, 1, 1, 0, 0]) [1, 0, 1, 0, 0] k) (.exit 4) (S47ce l n z a b) =
  (cond (decide (IntKind.i64.wrap (a + z) < n)) (pickX (fun x59 : Q4 => Eq (α := AV) (.sr 0 0 0 (l.length)) (.sr 0 0 0 (x59.l.length)) ∧ Eq (α := List Den.Obj) [(.arr 4 0 (l.length) (fun q8 => [(.str ((l.get q8).key)), (.sl 3 .no ((l.get q8).n1) ((l.get q8).f1)), (.sl 5 .no ((l.get q8).n2) ((l.get q8).f2)), (.sl 5 .no ((l.get q8).n3) ((l.get q8).f3))]))] [(.arr 4 0 (x59.l.length) (fun q8 => [(.str ((x59.l.get q8).key)), (.sl 3 .no ((x59.l.get q8).n1) ((x59.l.get q8).f1)), (.sl 5 .no ((x59.l.get q8).n2) ((x59.l.get q8).f2)), (.sl 5 .no ((x59.l.get q8).n3) ((x59.l.get q8).f3))]))] ∧ Eq (α := PS) .plain .plain ∧ (x59.fit a (IntKind.i64.wrap (a + z)) n)) (fun x59 => (k .normal (.mk [(.sr 0 0 0 (l.length)), (.int .i64 n), (.fn 38 []), .top, .top, .top, (.int .i64 (IntKind.i64.wrap (z * (2 : Int)))), .top, .top, .top, .top, .top, .top, .top, .top, .top, .top, .top, .top, .top, .top, .top, .top, .top, .top, .top, .top, .top, .top, .top, .top, .top, .top, .top, .top, .top, .top, .top, .top, .top, .top, .top, .top, .top, .top, .top, .top, .top, .top, .top, .top, .top, .top, .top, .top, .top, .top, .top, .top, .top, .top, .top, .top] (.mk [(.arr 4 0 (x59.mrg.length) (fun q9 => [(.str ((x59.mrg.get q9).key)), (.sl 3 .no ((x59.mrg.get q9).n1) ((x59.mrg.get q9).f1)), (.sl 5 .no ((x59.mrg.get q9).n2) ((x59.mrg.get q9).f2)), (.sl 5 .no ((x59.mrg.get q9).n3) ((x59.mrg.get q9).f3))]))] [] .plain))))) (k .normal (.mk [(.sr 0 0 0 (l.length)), (.int .i64 n), (.fn 38 []), .top, .top, .top, (.int .i64 (IntKind.i64.wrap (z * (2 : Int)))), .top, .top, .top, .top, .top, .top, .top, .top, .top, .top, .top, .top, .top, .top, .top, .top, .top, .top, .top, .top, .top, .top, .top, .top, .top, .top, .top, .top, .top, .top, .top, .top, .top, .top, .top, .top, .top, .top, .top, .top, .top, .top, .top, .top, .top, .top, .top, .top, .top, .top, .top, .top, .top, .top, .top, .top] (.mk [(.arr 4 0 (l.length) (fun q7 => [(.str ((l.get q7).key)), (.sl 3 .no ((l.get q7).n1) ((l.get q7).f1)), (.sl 5 .no ((l.get q7).n2) ((l.get q7).f2)), (.sl 5 .no ((l.get q7).n3) ((l.get q7).f3))]))] [] .plain)))) := by kernel_rfl
theorem b47 (loops : LoopK) (l : List Rw) (n : Int) : bodyL Try.prog polK u47 loops 47 [.sr 0 0 0 l.length, .int .i64 n, .fn 38 []] [arL 4 0 rwR l] .plain =
  (loops 2 (.mk [(.sr 0 0 0 (l.length)), (.int .i64 n), (.fn 38 []), .top, .top, .top, (.int .i64 20), (.int .i64 0), (.int .i64 20), .top, .top, .top, .top, .top, .top, .top, .top, .top, .top, .top, .top, .top, .top, .top, .top, .top, .top, .top, .top, .top, .top, .top, .top, .top, .top, .top, .top, .top, .top, .top, .top, .top, .top, .top, .top, .top, .top, .top, .top, .top, .top, .top, .top, .top, .top, .top, .top, .top, .top, .top, .top, .top, .top] (.mk [(.arr 4 0 (l.length) (fun q3 => [(.str ((l.get q3).key)), (.sl 3 .no ((l.get q3).n1) ((l.get q3).f1)), (.sl 5 .no ((l.get q3).n2) ((l.get q3).f2)), (.sl 5 .no ((l.get q3).n3) ((l.get q3).f3))]))] [] .plain)) (kBody Try.prog polK u47 loops 47 [1, 1, 0, 0] 1 .plain)) := by kernel_rfl
noncomputable def u37 : CallK := fun f args h ps K => match f, args with
  | 47, [x, .int .i64 n, .fn 38 []] => pickX (fun l : List Rw => x = .sr 0 0 0 l.length ∧ h = [arL 4 0 rwR l] ∧ ps = .plain ∧ n = l.length ∧ l.length < 200000000) (fun l => K (.ret (.tup []) [arL 4 0 rwR (isort l)] .plain))
  | _, _ => none
noncomputable def u18 : CallK := fun f args h ps K => match f, args with
  | 37, [x, .fn 38 []] => pickX (fun l : List Rw => x = .sr 0 0 0 l.length ∧ h = [arL 4 0 rwR l] ∧ ps = .plain ∧ l.length < 200000000) (fun l => K (.ret (.tup []) [arL 4 0 rwR (isort l)] .plain))
  | _, _ => none
theorem b37 (loops : LoopK) (l : List Rw) : bodyL Try.prog polK u37 loops 37 [.sr 0 0 0 l.length, .fn 38 []] [arL 4 0 rwR l] .plain =
  (pickX (fun x60 : List Rw => Eq (α := AV) (.sr 0 0 0 (l.length)) (.sr 0 0 0 (x60.length)) ∧ Eq (α := List Den.Obj) [(.arr 4 0 (l.length) (fun q3 => [(.str ((l.get q3).key)), (.sl 3 .no ((l.get q3).n1) ((l.get q3).f1)), (.sl 5 .no ((l.get q3).n2) ((l.get q3).f2)), (.sl 5 .no ((l.get q3).n3) ((l.get q3).f3))]))] [(.arr 4 0 (x60.length) (fun q3 => [(.str ((x60.get q3).key)), (.sl 3 .no ((x60.get q3).n1) ((x60.get q3).f1)), (.sl 5 .no ((x60.get q3).n2) ((x60.get q3).f2)), (.sl 5 .no ((x60.get q3).n3) ((x60.get q3).f3))]))] ∧ Eq (α := PS) .plain .plain ∧ Eq (α := Int) ((↑l.length : Int)) ((↑x60.length : Int)) ∧ (x60.length < (200000000 : Nat))) (fun x60 => (some (.ret (.tup []) [(.arr 4 0 ((isort x60).length) (fun q4 => [(.str (((isort x60).get q4).key)), (.sl 3 .no (((isort x60).get q4).n1) (((isort x60).get q4).f1)), (.sl 5 .no (((isort x60).get q4).n2) (((isort x60).get q4).f2)), (.sl 5 .no (((isort x60).get q4).n3) (((isort x60).get q4).f3))]))] .plain)))) := by kernel_rfl
theorem b18 (loops : LoopK) (r : Rw) (l : List Rw) : bodyL Try.prog polK u18 loops 18 [slL 4 .no rwR (r :: l)] [] .plain =
  (cond (cond (decide ((r :: l).length ≤ (70368744177664 : Nat))) ((fun _ => decide ((r :: l).length * Try.prog.bytesOf (43 : Nat) ≤ (70368744177664 : Nat))) ()) (false)) (pickX (fun x59 : List Rw => Eq (α := AV) (.sr 0 0 0 ((r :: l).length)) (.sr 0 0 0 (x59.length)) ∧ Eq (α := List Den.Obj) [(.arr 4 0 ((r :: l).length) (fun q4 => [(.str (((r :: l).get q4).key)), (.sl 3 .no (((r :: l).get q4).n1) (((r :: l).get q4).f1)), (.sl 5 .no (((r :: l).get q4).n2) (((r :: l).get q4).f2)), (.sl 5 .no (((r :: l).get q4).n3) (((r :: l).get q4).f3))]))] [(.arr 4 0 (x59.length) (fun q4 => [(.str ((x59.get q4).key)), (.sl 3 .no ((x59.get q4).n1) ((x59.get q4).f1)), (.sl 5 .no ((x59.get q4).n2) ((x59.get q4).f2)), (.sl 5 .no ((x59.get q4).n3) ((x59.get q4).f3))]))] ∧ Eq (α := PS) .plain .plain ∧ (x59.length < (200000000 : Nat))) (fun x59 => (some (.ret (freezeC 0 [(.arr 4 0 ((isort x59).length) (fun q5 => [(.str (((isort x59).get q5).key)), (.sl 3 .no (((isort x59).get q5).n1) (((isort x59).get q5).f1)), (.sl 5 .no (((isort x59).get q5).n2) (((isort x59).get q5).f2)), (.sl 5 .no (((isort x59).get q5).n3) (((isort x59).get q5).f3))]))] 4 (.sr 0 0 0 ((r :: l).length))) [] .plain)))) none) := by kernel_rfl
end Go.Proofs

/- Link: the stable sort. -/
namespace Go.Proofs
open Go.Den
set_option maxRecDepth 100000
theorem u47_le : CallLeK u47 dK := by
  intro f args h ps kk o x
  unfold u47 at x
  split at x
  · obtain ⟨q, ⟨rfl, rfl, rfl, h1, h2, h3⟩, x'⟩ := pickX_some x
    exact ⟨_, x', v58 h1 h2 h3⟩
  · obtain ⟨q, ⟨rfl, rfl, rfl, h1, h2, h3⟩, x'⟩ := pickX_some x
    exact ⟨_, x', v59 h1 h2 h3⟩
  · cases x
theorem Q3.uniq {q : Q3} {p x s : List Rw} (hl : p ++ x ++ s = q.l) (h1 : (p.length : Int) = q.p.length) (h2 : ((p.length + x.length : Nat) : Int) = (q.p.length + q.x.length : Nat)) : q = ⟨p, x, s⟩ := by
  obtain ⟨p', x', s'⟩ := q
  simp only [Q3.l] at hl h1 h2
  have := List.append_inj (s₁ := p) (t₁ := x ++ s) (s₂ := p') (t₂ := x' ++ s') (by simpa using hl) (by omega)
  obtain ⟨rfl, k2⟩ := this
  obtain ⟨rfl, rfl⟩ := List.append_inj k2 (by omega)
  rfl
theorem isort_len (l : List Rw) : (isort l).length = l.length := (isort_ok l).2.1.symm
structure Qa where (p r : List Rw)
/-- parts of twenty -/
theorem partsA {l0 : List Rw} {n : Nat} (hl : l0.length < 200000000) (hn : l0.length < n) {k : Den.Exit → St → R} {Q : Out → Prop}
    (hk : ∀ p r : List Rw, Full 20 p → r.length < 20 → Stb (p ++ r) l0 → ∀ b, Tot (k (.exit 0) (S47ae (p ++ r) l0.length 20 p.length b)) Q) :
    Tot (codeD Try.prog polK (bindK dK) n 47 (.loop (Code.part (bodyOf Try.prog 47) [1, 1, 0, 0, 0])) (S47a l0 l0.length 20 0 20) k) Q := by
  refine loop_meas (α := Qa) (calls := fun _ => u47) (fun _ => u47_le) (keep := false) rfl (inner := noLoops) no_loops (fun q => S47a (q.p ++ q.r) l0.length 20 q.p.length (q.p.length + 20 : Nat))
    (fun q => Full 20 q.p ∧ Stb (q.p ++ q.r) l0) (fun q => q.r.length) ⟨[], l0⟩ hn ⟨.nil, Stb.refl _⟩ rfl (H := 1) rfl ?_
  rintro ⟨p, r⟩ ⟨hf, hs⟩ K hn' hx'
  simp only at hf hs
  have hlen : p.length + r.length = l0.length := by have := hs.1; simpa using this
  show Tot (codeL _ _ _ _ _ _ (S47a (p ++ r) l0.length 20 p.length (p.length + 20 : Nat)) K) Q
  rw [r47a]
  by_cases c : 20 ≤ r.length
  · have c0 : decide (((p.length + 20 : Nat) : Int) ≤ ((l0.length : Nat) : Int)) = true := by simp; omega
    have w1 : IntKind.i64.wrap (((p.length + 20 : Nat) : Int) + 20) = ((p.length + 20 + 20 : Nat) : Int) := wrap_nat (by omega) (by omega)
    obtain ⟨x, r', rfl, hx⟩ := cut_at c
    have hrl : (x ++ r').length = x.length + r'.length := List.length_append ..
    have e1 : p ++ (x ++ r') = p ++ x ++ r' := by simp
    rw [c0, cond_true, w1]
    refine Tot.pickX ⟨⟨p, x, r'⟩, by rw [e1]; rfl, by rw [e1]; rfl, rfl, by (show (p ++ x ++ r').length < _); simp; omega, rfl, by rw [hx]⟩ ?_
    rintro q ⟨_, hh, _, _, g1, g2⟩
    rw [e1] at hh
    obtain rfl := Q3.uniq (arL_inj hh) g1 (by rw [hx]; exact g2)
    have hil := isort_len x
    have h1 : p.length + 20 = (p ++ isort x).length := by simp [hil]; omega
    have h2 : (p ++ (x ++ r')).length = (p ++ isort x ++ r').length := by simp [hil]
    rw [h1, h2]
    refine hn' _ ⟨p ++ isort x, r'⟩ ⟨.snoc hf (by rw [hil, hx]) (isort_ok x).1, ?_⟩ (by simp only; omega) rfl
    show Stb (p ++ isort x ++ r') l0
    refine Stb.trans ?_ hs
    rw [e1]
    exact Stb.app (Stb.app (Stb.refl _) (isort_ok x).2.symm) (Stb.refl _)
  · have c0 : decide (((p.length + 20 : Nat) : Int) ≤ ((l0.length : Nat) : Int)) = false := by simp; omega
    rw [c0, cond_false, hx' _ _ (by simp)]
    have := hk p r hf (by omega) hs (p.length + 20 : Nat)
    unfold S47ae at this
    rw [c0] at this
    exact this
/-- one round of merging -/
theorem partsC {l0 l : List Rw} {n z : Nat} (hl : l0.length < 200000000) (hz : 20 ≤ z) (hzl : z < l0.length) (hb : Blk z l) (hs : Stb l l0) (hn : l0.length < n) {k : Den.Exit → St → R} {Q : Out → Prop} (hk' : ∀ l', Blk (2 * z) l' → Stb l' l0 → Tot (k .normal (S47b l' l0.length (2 * z : Nat))) Q) {lp : LoopK} :
    Tot (codeD Try.prog polK (bindK dK) n 47 (.loop (Code.part (bodyOf Try.prog 47) [1, 1, 1, 1, 0, 0, 1, 0, 1, 0, 0, 0])) (S47c l l0.length z 0 (2 * z : Nat)) (kAt Try.prog polK u47 lp 47 (Code.part (bodyOf Try.prog 47) [1, 1, 1, 1, 0, 0]) [1, 0, 1, 0, 0] k)) Q := by
  refine loop_meas (α := Qa) (calls := fun _ => u47) (fun _ => u47_le) (keep := false) rfl (inner := noLoops) no_loops (fun q => S47c (q.p ++ q.r) l0.length z q.p.length (q.p.length + 2 * z : Nat))
    (fun q => Full (2 * z) q.p ∧ Blk z q.r ∧ Stb (q.p ++ q.r) l0) (fun q => q.r.length) ⟨[], l⟩ (by rw [← hs.1] at hn; exact hn) ⟨.nil, hb, hs⟩ (by
      show _ = S47c ([] ++ l) _ _ _ (0 + 2 * z : Nat)
      rw [Nat.zero_add]
      rfl) (H := 1) rfl ?_
  clear hs hb
  rintro ⟨p, r⟩ ⟨hf, hb, hs⟩ K hn' hx'
  simp only at hf hb hs
  have hlen : p.length + r.length = l0.length := by have := hs.1; simpa using this
  show Tot (codeL _ _ _ _ _ _ (S47c (p ++ r) l0.length z p.length (p.length + 2 * z : Nat)) K) Q
  have w0 : IntKind.i64.wrap ((p.length : Int) + (z : Int)) = ((p.length + z : Nat) : Int) := wrap_nat (by omega) (by omega)
  have w1 : IntKind.i64.wrap ((2 : Int) * (z : Int)) = ((2 * z : Nat) : Int) := wrap_nat (by omega) (by omega)
  by_cases c : 2 * z ≤ r.length
  · rw [r47c, w0, w1]
    have c0 : decide (((p.length + 2 * z : Nat) : Int) ≤ ((l0.length : Nat) : Int)) = true := by simp; omega
    have w2 : IntKind.i64.wrap (((p.length + 2 * z : Nat) : Int) + ((2 * z : Nat) : Int)) = ((p.length + 2 * z + 2 * z : Nat) : Int) := wrap_nat (by omega) (by omega)
    obtain ⟨x, r1, rfl, hx, hxs, hb1⟩ := hb.head (by omega)
    have hrl : (x ++ r1).length = x.length + r1.length := List.length_append ..
    obtain ⟨y, r', rfl, hy, hys, hb2⟩ := hb1.head (by omega)
    have hrl1 : (y ++ r').length = y.length + r'.length := List.length_append ..
    have e1 : p ++ (x ++ (y ++ r')) = p ++ x ++ y ++ r' := by simp
    have hll : (p ++ x ++ y ++ r').length = p.length + x.length + y.length + r'.length := by simp; omega
    rw [c0, cond_true, w2]
    refine Tot.pickX ⟨⟨p, x, y, r'⟩, by rw [e1]; rfl, by rw [e1]; rfl, rfl, ⟨fun e => by simp only at e; subst e; simp at hx; omega, fun e => by simp only at e; subst e; simp at hy; omega, by (show (p ++ x ++ y ++ r').length < _); omega, rfl, by simp only; omega, by simp only; omega⟩, hxs, hys⟩ ?_
    rintro q ⟨_, hh, _, ⟨_, _, _, g1, g2, g3⟩, _, _⟩
    rw [e1] at hh
    obtain rfl := Q4.uniq (arL_inj hh) g1 (by rw [hx]; exact g2) (by rw [show p.length + x.length + y.length = p.length + 2 * z by omega]; exact g3)
    have hil := isort_len (x ++ y)
    have hil' : (isort (x ++ y)).length = 2 * z := by rw [hil]; simp; omega
    have h1 : p.length + 2 * z = (p ++ isort (x ++ y)).length := by simp [hil']
    have h2 : (p ++ (x ++ (y ++ r'))).length = (p ++ isort (x ++ y) ++ r').length := by simp [hil']; omega
    rw [h1, h2]
    refine hn' _ ⟨p ++ isort (x ++ y), r'⟩ ⟨.snoc hf hil' (isort_ok _).1, hb2, ?_⟩ (by simp only; omega) rfl
    show Stb (p ++ isort (x ++ y) ++ r') l0
    refine Stb.trans ?_ hs
    rw [e1, show p ++ x ++ y ++ r' = p ++ (x ++ y) ++ r' by simp]
    exact Stb.app (Stb.app (Stb.refl _) (isort_ok _).2.symm) (Stb.refl _)
  · have c0 : decide (((p.length + 2 * z : Nat) : Int) ≤ ((l0.length : Nat) : Int)) = false := by simp; omega
    rw [r47c, c0, cond_false, hx' _ _ (by simp)]
    have e := e47c lp (p ++ r) l0.length z p.length (p.length + 2 * z : Nat) k
    have w3 : IntKind.i64.wrap ((z : Int) * 2) = ((2 * z : Nat) : Int) := wrap_nat (by omega) (by omega)
    unfold S47ce at e
    rw [c0, w0, w3] at e
    refine Tot.eq e (Tot.cond (fun d => ?_) fun d => ?_)
    · have d' : p.length + z < l0.length := by simp at d; omega
      obtain ⟨x, y, rfl, hx, hxs, hb1⟩ := hb.head (by omega)
      have hrl : (x ++ y).length = x.length + y.length := List.length_append ..
      have hys : Srt y := hb1.small (by omega)
      have e1 : p ++ (x ++ y) = p ++ x ++ y ++ [] := by simp
      have hll : (p ++ x ++ y ++ []).length = p.length + x.length + y.length := by simp; omega
      refine Tot.pickX ⟨⟨p, x, y, []⟩, by rw [e1]; rfl, by rw [e1]; rfl, rfl, ⟨fun e => by simp only at e; subst e; simp at hx; omega, fun e => by simp only at e; subst e; simp at hrl hlen; omega, by (show (p ++ x ++ y ++ []).length < _); omega, rfl, by simp only; omega, by simp only; omega⟩, hxs, hys⟩ ?_
      rintro q ⟨_, hh, _, ⟨_, _, _, g1, g2, g3⟩, _, _⟩
      rw [e1] at hh
      obtain rfl := Q4.uniq (arL_inj hh) g1 (by rw [hx]; exact g2) (by rw [show p.length + x.length + y.length = l0.length by omega]; exact g3)
      have hil := isort_len (x ++ y)
      have h2 : (p ++ (x ++ y)).length = (p ++ isort (x ++ y) ++ []).length := by simp [hil]
      rw [h2]
      refine hk' (p ++ isort (x ++ y) ++ []) ?_ ?_
      · rw [List.append_nil]
        exact hf.app (.last (by rw [hil]; omega) (isort_ok _).1)
      · refine Stb.trans ?_ hs
        rw [List.append_nil]
        exact Stb.app (Stb.refl _) (isort_ok _).2.symm
    · have d' : ¬ p.length + z < l0.length := by simp at d; omega
      exact hk' (p ++ r) (hf.app (.last (by omega) (hb.small (by omega)))) hs
end Go.Proofs

/- Link: the stable sort: the contract. -/
namespace Go.Proofs
open Go.Den
set_option maxRecDepth 100000
structure Qz where (l : List Rw) (z : Nat)
theorem v47 {l0 : List Rw} (hl : l0.length < 200000000) : dK 47 [.sr 0 0 0 l0.length, .int .i64 l0.length, .fn 38 []] [arL 4 0 rwR l0] .plain = some (.ret (.tup []) [arL 4 0 rwR (isort l0)] .plain) := by
  refine Tot.of_eq (denA_tot (l0.length + 1) u47_le rfl (by kernel_rfl) ?_)
  rw [b47, lpR_at (x := Code.part (bodyOf Try.prog 47) [1, 1, 0, 0, 0]) (by kernel_rfl)]
  refine partsA hl (by omega) fun p r hf hr hs b => ?_
  have hlen : p.length + r.length = l0.length := by have := hs.1; simpa using this
  refine Tot.eq (e47a (lpR Try.prog polK dK (l0.length + 1) 47 (loopsOf (bodyOf Try.prog 47))) (p ++ r) l0.length 20 p.length b) ?_
  have e1 : p ++ r = p ++ r ++ [] := by simp
  refine Tot.pickX ⟨⟨p, r, []⟩, by rw [e1]; rfl, by rw [e1]; rfl, rfl, by (show (p ++ r ++ []).length < _); simp; omega, rfl, by simp only; omega⟩ ?_
  rintro q ⟨_, hh, _, _, g1, g2⟩
  rw [e1] at hh
  obtain rfl := Q3.uniq (arL_inj hh) g1 (by rw [hlen]; exact g2)
  have hil := isort_len r
  have h2 : (p ++ r).length = (p ++ isort r ++ []).length := by simp [hil]
  rw [h2, lpR_at (x := Code.part (bodyOf Try.prog 47) [1, 1, 1, 1, 0, 0]) (by kernel_rfl)]
  have hb0 : Blk 20 (p ++ isort r ++ []) := by
    rw [List.append_nil]
    exact hf.app (.last (by rw [hil]; omega) (isort_ok _).1)
  have hs0 : Stb (p ++ isort r ++ []) l0 := by
    refine Stb.trans ?_ hs
    rw [List.append_nil]
    exact Stb.app (Stb.refl _) (isort_ok _).2.symm
  refine loop_meas (α := Qz) (calls := fun _ => u47) (fun _ => u47_le) (keep := false) rfl (inner := lpR Try.prog polK dK (l0.length + 1) 47 (loopsOf (Code.part (bodyOf Try.prog 47) [1, 1, 1, 1, 0, 0]))) (lpR_ok (by kernel_rfl)) (fun q => S47b q.l l0.length q.z)
    (fun q => 20 ≤ q.z ∧ Blk q.z q.l ∧ Stb q.l l0) (fun q => l0.length - q.z) ⟨_, 20⟩ (by simp only; omega) ⟨Nat.le_refl _, hb0, hs0⟩ rfl (H := 1) rfl ?_
  clear hb0 hs0 h2 hil hh g1 g2 e1 hlen hs hr hf
  rintro ⟨l, z⟩ ⟨hz, hb, hs⟩ K hn' hx'
  simp only at hz hb hs
  rw [r47b]
  by_cases c : z < l0.length
  · have c0 : decide ((z : Int) < (l0.length : Int)) = true := by simpa using c
    have w1 : IntKind.i64.wrap ((2 : Int) * (z : Int)) = ((2 * z : Nat) : Int) := wrap_nat (by omega) (by omega)
    rw [c0, cond_true, w1, lpR_at (x := Code.part (bodyOf Try.prog 47) [1, 1, 1, 1, 0, 0, 1, 0, 1, 0, 0, 0]) (by kernel_rfl)]
    refine partsC hl hz c hb hs (by omega) fun l' h1 h2 => ?_
    exact hn' _ ⟨l', 2 * z⟩ ⟨by show 20 ≤ 2 * z; omega, h1, h2⟩ (by show l0.length - 2 * z < l0.length - z; omega) rfl
  · have c0 : decide ((z : Int) < (l0.length : Int)) = false := by simpa using c
    rw [c0, cond_false, hx' _ _ (by simp)]
    have e := e47b (lpR Try.prog polK dK (l0.length + 1) 47 (loopsOf (bodyOf Try.prog 47))) l l0.length z
    unfold S47be at e
    rw [c0] at e
    refine Tot.eq e (Tot.some ?_)
    rw [← isort_eq (l := l0) (hb.small (by rw [hs.1]; omega)) hs.symm]
    rfl
theorem u37_le : CallLeK u37 dK := by
  intro f args h ps kk o x
  unfold u37 at x
  split at x
  · obtain ⟨l, ⟨rfl, rfl, rfl, rfl, h1⟩, x'⟩ := pickX_some x
    exact ⟨_, x', v47 h1⟩
  · cases x
theorem v37 {l : List Rw} (hl : l.length < 200000000) : dK 37 [.sr 0 0 0 l.length, .fn 38 []] [arL 4 0 rwR l] .plain = some (.ret (.tup []) [arL 4 0 rwR (isort l)] .plain) := by
  refine Tot.of_eq (denA_tot 0 u37_le rfl (by kernel_rfl) ?_)
  rw [b37]
  refine Tot.pickX ⟨l, rfl, rfl, rfl, rfl, hl⟩ ?_
  rintro l' ⟨_, hh, _⟩
  obtain rfl := arL_inj hh
  exact Tot.some rfl
theorem u18_le : CallLeK u18 dK := by
  intro f args h ps kk o x
  unfold u18 at x
  split at x
  · obtain ⟨l, ⟨rfl, rfl, rfl, h1⟩, x'⟩ := pickX_some x
    exact ⟨_, x', v37 h1⟩
  · cases x
theorem bytes43 : Try.prog.bytesOf 43 = 88 := by kernel_rfl
theorem frz_rw {l : List Rw} {n : Nat} (hn : n = l.length) : freezeC 0 [arL 4 0 rwR l] 4 (.sr 0 0 0 n) = slL 4 .no rwR l := by
  subst hn
  have h1 : 0 + l.length ≤ l.length := by omega
  simp only [freezeC, arL, List.getElem?_cons_zero]
  rw [dif_pos h1]
  simp only [beq_self_eq_true, Nat.zero_le, decide_true, Bool.and_self, cond_true, slL]
  refine sl_ext rfl fun j a b => ?_
  simp only [Nat.zero_add]
  rfl
/-- what the copy of nothing is like -/
def tokS (l : List Rw) : Tok := match l with | [] => .tight | _ :: _ => .no
theorem v18 : ∀ {l : List Rw}, l.length < 200000000 → dK 18 [slL 4 .no rwR l] [] .plain = some (.ret (slL 4 (tokS l) rwR (isort l)) [] .plain)
  | [], _ => by
    have h : den Try.prog polK ext0 60 18 [slL 4 .no rwR []] [] .plain = some (.ret (slL 4 .tight rwR (isort [])) [] .plain) := by kernel_rfl
    exact denA_of h
  | r :: l, hl => by
    refine Tot.of_eq (denA_tot 0 u18_le rfl (by kernel_rfl) ?_)
    rw [b18, bytes43]
    have c1 : decide ((r :: l).length ≤ 70368744177664) = true := by simp at hl ⊢; omega
    have c2 : decide ((r :: l).length * 88 ≤ 70368744177664) = true := by simp at hl ⊢; omega
    refine Tot.cond (fun _ => ?_) fun h => absurd h ?_
    rotate_left
    · rw [c1]
      show ¬ (decide ((r :: l).length * 88 ≤ 70368744177664) = false)
      rw [c2]
      simp
    refine Tot.pickX ⟨r :: l, rfl, rfl, rfl, hl⟩ ?_
    rintro l' ⟨_, hh, _⟩
    obtain rfl := arL_inj hh
    refine Tot.some ?_
    show Out.ret _ [] .plain = Out.ret (slL 4 .no rwR (isort (r :: l))) [] .plain
    rw [← frz_rw (n := (r :: l).length) (isort_len _).symm]
    rfl
end Go.Proofs
