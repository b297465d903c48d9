/- Link: the reference sorts: what is left. -/
import Derived.Test.YtaojlamnfnkdbaaDenPiece
import Derived.Test.YtaojlamnfnkdbaaDenKit
import Derived.Test.YtaojlamnfnkdbaaDenKg
set_option linter.unusedSimpArgs false
set_option linter.unusedVariables false
set_option linter.unnecessarySimpa false
namespace Go.Proofs
open Go.Den
set_option maxRecDepth 100000

def S40 (s t : Str) (j : Int) : St := ⟨[.str s, .str t, .top, .top, .int .i64 0, .int .i64 j, .top, .top, .top, .top, .top, .top, .top, .top, .top, .top, .top, .top, .top, .top, .top, .top, .top, .top, .top, .top, .top, .top, .top, .top, .top, .top, .top, .top, .top, .top, .top, .top, .top, .top, .top, .top], ⟨[], [], .plain⟩⟩
def S40e (s t : Str) (j : Int) (w : Bool) : St := ⟨[.str s, .str t, .top, .top, .int .i64 0, .int .i64 j, .top, .top, .top, .top, .top, .top, .top, .top, .top, .bool w, .top, .top, .top, .top, .top, .top, .top, .top, .top, .top, .top, .top, .top, .top, .top, .top, .top, .top, .top, .top, .top, .top, .top, .top, .top, .top], ⟨[], [], .plain⟩⟩
theorem r40 (s t : Str) (j : Int) (k : Den.Exit → St → R) : codeL Try.prog polK noCall noLoops 40 (Code.part (bodyOf Try.prog 40) [1, 0, 1, 0, 0]) (S40 s t j) k =
  (cond (cond (decide (j < (↑(List.length s) : Int))) (decide (j < (↑(List.length t) : Int))) (false)) (dite ((0 : Int) ≤ j ∧ j.toNat < List.length s) (fun hb59 => (dite ((0 : Int) ≤ j ∧ j.toNat < List.length t) (fun hb58 => (cond (decide ((↑s[j.toNat].toNat : Int) < (↑t[j.toNat].toNat : Int))) (k .ret (.mk [.top, .top, .top, .top, (.int .i64 (-1)), .top, .top, .top, .top, .top, .top, .top, .top, .top, .top, .top, .top, .top, .top, .top, .top, .top, .top, .top, .top, .top, .top, .top, .top, .top, .top, .top, .top, .top, .top, .top, .top, .top, .top, .top, .top, .top] (.mk [] [] .plain))) (dite ((0 : Int) ≤ j ∧ j.toNat < List.length s) (fun hb56 => (dite ((0 : Int) ≤ j ∧ j.toNat < List.length t) (fun hb55 => (cond (decide ((↑s[j.toNat].toNat : Int) > (↑t[j.toNat].toNat : Int))) (k .ret (.mk [.top, .top, .top, .top, (.int .i64 1), .top, .top, .top, .top, .top, .top, .top, .top, .top, .top, .top, .top, .top, .top, .top, .top, .top, .top, .top, .top, .top, .top, .top, .top, .top, .top, .top, .top, .top, .top, .top, .top, .top, .top, .top, .top, .top] (.mk [] [] .plain))) (k .normal (.mk [(.str s), (.str t), .top, .top, (.int .i64 0), (.int .i64 (IntKind.i64.wrap (j + (1 : Int)))), .top, .top, .top, .top, .top, .top, .top, .top, .top, .top, .top, .top, .top, .top, .top, .top, .top, .top, .top, .top, .top, .top, .top, .top, .top, .top, .top, .top, .top, .top, .top, .top, .top, .top, .top, .top] (.mk [] [] .plain))))) (fun hb55 => none))) (fun hb56 => none)))) (fun hb58 => none))) (fun hb59 => none)) (k (.exit 0) (.mk [(.str s), (.str t), .top, .top, (.int .i64 0), (.int .i64 j), .top, .top, .top, .top, .top, .top, .top, .top, .top, (.bool (cond (decide (j < (↑(List.length s) : Int))) (decide (j < (↑(List.length t) : Int))) (false))), .top, .top, .top, .top, .top, .top, .top, .top, .top, .top, .top, .top, .top, .top, .top, .top, .top, .top, .top, .top, .top, .top, .top, .top, .top, .top] (.mk [] [] .plain)))) := by kernel_rfl
theorem b40 (loops : LoopK) (s t : Str) : bodyL Try.prog polK noCall loops 40 [.str s, .str t] [] .plain =
  (loops 2 (.mk [(.str s), (.str t), .top, .top, (.int .i64 0), (.int .i64 0), .top, .top, .top, .top, .top, .top, .top, .top, .top, .top, .top, .top, .top, .top, .top, .top, .top, .top, .top, .top, .top, .top, .top, .top, .top, .top, .top, .top, .top, .top, .top, .top, .top, .top, .top, .top] (.mk [] [] .plain)) (kBody Try.prog polK noCall loops 40 [1, 0, 1, 0] 0 .plain)) := by kernel_rfl
theorem e40 (loops : LoopK) (s t : Str) (j : Int) (w : Bool) : (kBody Try.prog polK noCall loops 40 [1, 0, 1, 0] 0 .plain) (.exit 0) (S40e s t j w) =
  (cond (decide ((↑(List.length s) : Int) < (↑(List.length t) : Int))) (some (.ret (.int .i64 (-1)) [] .plain)) (cond (decide ((↑(List.length s) : Int) > (↑(List.length t) : Int))) (some (.ret (.int .i64 1) [] .plain)) (some (.ret (.int .i64 0) [] .plain)))) := by kernel_rfl
noncomputable def u20 : CallK := fun f args h ps K => match f, args with
  | 40, [.str s, .str t] => chk (h = [] ∧ ps = .plain ∧ s.length < 1000000000) (K (.ret (.int .i64 (cmpS s t)) [] .plain))
  | _, _ => none
def S20 (l o : List Rw) (i : Int) : St := ⟨[slL 4 .no rwR l, .top, .sl 4 .tight 0 (fun i => i.elim0), slL 4 .no rwR o, .int .i64 i, .top, .top, .top, .top, .top, .top, .top, .top, .top, .top, .top, .top, .top, .top, .top, .top, .top, .top, .top, .top, .top, .top, .top, .top, .top, .top, .top, .top, .top, .top, .top, .top, .top, .top, .top, .top, .top, .top, .top, .top, .top, .top, .top, .top, .top, .top, .top, .top], ⟨[], [], .plain⟩⟩
def S20e (l o : List Rw) (i : Int) : St := ⟨[slL 4 .no rwR l, .top, .sl 4 .tight 0 (fun i => i.elim0), slL 4 .no rwR o, .int .i64 i, .top, .top, .top, .top, .top, .bool (decide (i < l.length)), .top, .top, .top, .top, .top, .top, .top, .top, .top, .top, .top, .top, .top, .top, .top, .top, .top, .top, .top, .top, .top, .top, .top, .top, .top, .top, .top, .top, .top, .top, .top, .top, .top, .top, .top, .top, .top, .top, .top, .top, .top, .top], ⟨[], [], .plain⟩⟩
theorem r20 (loops : LoopK) (l o : List Rw) (i : Int) (k : Den.Exit → St → R) : codeL Try.prog polK u20 loops 20 (Code.part (bodyOf Try.prog 20) [1, 1, 0, 1, 0, 0]) (S20 l o i) k =
  (cond (decide (i < (↑l.length : Int))) (loops 6 (.mk [(.sl 4 .no (l.length) (fun q5 => [(.str ((l.get q5).key)), (.sl 3 .no ((l.get q5).n1) ((l.get q5).f1)), (.sl 5 .no ((l.get q5).n2) ((l.get q5).f2)), (.sl 5 .no ((l.get q5).n3) ((l.get q5).f3))])), .top, (.sl 4 .tight 0 (fun i => i.elim0)), (.sl 4 .no (o.length) (fun q5 => [(.str ((o.get q5).key)), (.sl 3 .no ((o.get q5).n1) ((o.get q5).f1)), (.sl 5 .no ((o.get q5).n2) ((o.get q5).f2)), (.sl 5 .no ((o.get q5).n3) ((o.get q5).f3))])), (.int .i64 i), (.int .i64 ((↑o.length : Int))), .top, .top, .top, .top, .top, .top, .top, .top, .top, .top, .top, .top, .top, .top, .top, .top, .top, .top, .top, .top, .top, .top, .top, .top, .top, .top, .top, .top, .top, .top, .top, .top, .top, .top, .top, .top, .top, .top, .top, .top, .top, .top, .top, .top, .top, .top, .top] (.mk [] [] .plain)) (kAt Try.prog polK u20 loops 20 (Code.part (bodyOf Try.prog 20) [1, 1, 0, 1, 0, 0]) [1, 0, 0, 1, 0, 0] k)) (k (.exit 0) (.mk [(.sl 4 .no (l.length) (fun q5 => [(.str ((l.get q5).key)), (.sl 3 .no ((l.get q5).n1) ((l.get q5).f1)), (.sl 5 .no ((l.get q5).n2) ((l.get q5).f2)), (.sl 5 .no ((l.get q5).n3) ((l.get q5).f3))])), .top, (.sl 4 .tight 0 (fun i => i.elim0)), (.sl 4 .no (o.length) (fun q5 => [(.str ((o.get q5).key)), (.sl 3 .no ((o.get q5).n1) ((o.get q5).f1)), (.sl 5 .no ((o.get q5).n2) ((o.get q5).f2)), (.sl 5 .no ((o.get q5).n3) ((o.get q5).f3))])), (.int .i64 i), .top, .top, .top, .top, .top, (.bool (decide (i < (↑l.length : Int)))), .top, .top, .top, .top, .top, .top, .top, .top, .top, .top, .top, .top, .top, .top, .top, .top, .top, .top, .top, .top, .top, .top, .top, .top, .top, .top, .top, .top, .top, .top, .top, .top, .top, .top, .top, .top, .top, .top, .top, .top, .top, .top] (.mk [] [] .plain)))) := by kernel_rfl
theorem e20 (loops : LoopK) (l o : List Rw) (i : Int) : (kBody Try.prog polK u20 loops 20 [1, 1, 0, 1, 0] 0 .plain) (.exit 0) (S20e l o i) =
  (some (.ret (.sl 4 .no (o.length) (fun q4 => [(.str ((o.get q4).key)), (.sl 3 .no ((o.get q4).n1) ((o.get q4).f1)), (.sl 5 .no ((o.get q4).n2) ((o.get q4).f2)), (.sl 5 .no ((o.get q4).n3) ((o.get q4).f3))])) [] .plain)) := by kernel_rfl
def S20i (l o : List Rw) (i j : Int) : St := ⟨[slL 4 .no rwR l, .top, .sl 4 .tight 0 (fun i => i.elim0), slL 4 .no rwR o, .int .i64 i, .int .i64 j, .top, .top, .top, .top, .top, .top, .top, .top, .top, .top, .top, .top, .top, .top, .top, .top, .top, .top, .top, .top, .top, .top, .top, .top, .top, .top, .top, .top, .top, .top, .top, .top, .top, .top, .top, .top, .top, .top, .top, .top, .top, .top, .top, .top, .top, .top, .top], ⟨[], [], .plain⟩⟩
def S20ie (l o : List Rw) (i j : Int) (w : Bool) : St := ⟨[slL 4 .no rwR l, .top, .sl 4 .tight 0 (fun i => i.elim0), slL 4 .no rwR o, .int .i64 i, .int .i64 j, .top, .top, .top, .top, .top, .top, .top, .top, .top, .top, .top, .top, .top, .top, .top, .top, .top, .top, .top, .top, .top, .top, .top, .top, .top, .bool w, .top, .top, .top, .top, .top, .top, .top, .top, .top, .top, .top, .top, .top, .top, .top, .top, .top, .top, .top, .top, .top], ⟨[], [], .plain⟩⟩
theorem r20i (l o : List Rw) (i j : Int) (k : Den.Exit → St → R) : codeL Try.prog polK u20 noLoops 20 (Code.part (bodyOf Try.prog 20) [1, 1, 0, 1, 0, 0, 1, 0, 0, 1, 0, 0, 0]) (S20i l o i j) k =
  (cond (((((decide (j > (0 : Int))) == (true))) && (true))) (dite ((0 : Int) ≤ IntKind.i64.wrap (j - (1 : Int)) ∧ (IntKind.i64.wrap (j - (1 : Int))).toNat < o.length) (fun hb59 => (cond (((((decide (j > (0 : Int))) == (true))) && (true))) (dite ((0 : Int) ≤ i ∧ i.toNat < l.length) (fun hb57 => (cond (((((decide (j > (0 : Int))) == (true))) && (true))) (chk (Eq (α := List Den.Obj) [] [] ∧ Eq (α := PS) .plain .plain ∧ (List.length (o.get ⟨(IntKind.i64.wrap (j - (1 : Int))).toNat, hb59.right⟩).key < (1000000000 : Nat))) (cond (cond (decide (j > (0 : Int))) (decide (cmpS (o.get ⟨(IntKind.i64.wrap (j - (1 : Int))).toNat, hb59.right⟩).key (l.get ⟨i.toNat, hb57.right⟩).key > (0 : Int))) (false)) (k .normal (.mk [(.sl 4 .no (l.length) (fun q8 => [(.str ((l.get q8).key)), (.sl 3 .no ((l.get q8).n1) ((l.get q8).f1)), (.sl 5 .no ((l.get q8).n2) ((l.get q8).f2)), (.sl 5 .no ((l.get q8).n3) ((l.get q8).f3))])), .top, (.sl 4 .tight 0 (fun i => i.elim0)), (.sl 4 .no (o.length) (fun q8 => [(.str ((o.get q8).key)), (.sl 3 .no ((o.get q8).n1) ((o.get q8).f1)), (.sl 5 .no ((o.get q8).n2) ((o.get q8).f2)), (.sl 5 .no ((o.get q8).n3) ((o.get q8).f3))])), (.int .i64 i), (.int .i64 (IntKind.i64.wrap (j - (1 : Int)))), .top, .top, .top, .top, .top, .top, .top, .top, .top, .top, .top, .top, .top, .top, .top, .top, .top, .top, .top, .top, .top, .top, .top, .top, .top, .top, .top, .top, .top, .top, .top, .top, .top, .top, .top, .top, .top, .top, .top, .top, .top, .top, .top, .top, .top, .top, .top] (.mk [] [] .plain))) (k (.exit 2) (.mk [(.sl 4 .no (l.length) (fun q8 => [(.str ((l.get q8).key)), (.sl 3 .no ((l.get q8).n1) ((l.get q8).f1)), (.sl 5 .no ((l.get q8).n2) ((l.get q8).f2)), (.sl 5 .no ((l.get q8).n3) ((l.get q8).f3))])), .top, (.sl 4 .tight 0 (fun i => i.elim0)), (.sl 4 .no (o.length) (fun q8 => [(.str ((o.get q8).key)), (.sl 3 .no ((o.get q8).n1) ((o.get q8).f1)), (.sl 5 .no ((o.get q8).n2) ((o.get q8).f2)), (.sl 5 .no ((o.get q8).n3) ((o.get q8).f3))])), (.int .i64 i), (.int .i64 j), .top, .top, .top, .top, .top, .top, .top, .top, .top, .top, .top, .top, .top, .top, .top, .top, .top, .top, .top, .top, .top, .top, .top, .top, .top, (.bool (cond (decide (j > (0 : Int))) (decide (cmpS (o.get ⟨(IntKind.i64.wrap (j - (1 : Int))).toNat, hb59.right⟩).key (l.get ⟨i.toNat, hb57.right⟩).key > (0 : Int))) (false))), .top, .top, .top, .top, .top, .top, .top, .top, .top, .top, .top, .top, .top, .top, .top, .top, .top, .top, .top, .top, .top] (.mk [] [] .plain))))) (cond (((((decide (j > (0 : Int))) == (true))) && (true))) none (cond (decide (j > (0 : Int))) none (k (.exit 2) (.mk [(.sl 4 .no (l.length) (fun q7 => [(.str ((l.get q7).key)), (.sl 3 .no ((l.get q7).n1) ((l.get q7).f1)), (.sl 5 .no ((l.get q7).n2) ((l.get q7).f2)), (.sl 5 .no ((l.get q7).n3) ((l.get q7).f3))])), .top, (.sl 4 .tight 0 (fun i => i.elim0)), (.sl 4 .no (o.length) (fun q7 => [(.str ((o.get q7).key)), (.sl 3 .no ((o.get q7).n1) ((o.get q7).f1)), (.sl 5 .no ((o.get q7).n2) ((o.get q7).f2)), (.sl 5 .no ((o.get q7).n3) ((o.get q7).f3))])), (.int .i64 i), (.int .i64 j), .top, .top, .top, .top, .top, .top, .top, .top, .top, .top, .top, .top, .top, .top, .top, .top, .top, .top, .top, .top, .top, .top, .top, .top, .top, (.bool false), .top, .top, .top, .top, .top, .top, .top, .top, .top, .top, .top, .top, .top, .top, .top, .top, .top, .top, .top, .top, .top] (.mk [] [] .plain))))))) (fun hb57 => none)) (cond (((((decide (j > (0 : Int))) == (true))) && (true))) none (cond (((((decide (j > (0 : Int))) == (true))) && (true))) none (cond (((((decide (j > (0 : Int))) == (true))) && (true))) none (cond (((((decide (j > (0 : Int))) == (true))) && (true))) none (cond (decide (j > (0 : Int))) none (k (.exit 2) (.mk [(.sl 4 .no (l.length) (fun q6 => [(.str ((l.get q6).key)), (.sl 3 .no ((l.get q6).n1) ((l.get q6).f1)), (.sl 5 .no ((l.get q6).n2) ((l.get q6).f2)), (.sl 5 .no ((l.get q6).n3) ((l.get q6).f3))])), .top, (.sl 4 .tight 0 (fun i => i.elim0)), (.sl 4 .no (o.length) (fun q6 => [(.str ((o.get q6).key)), (.sl 3 .no ((o.get q6).n1) ((o.get q6).f1)), (.sl 5 .no ((o.get q6).n2) ((o.get q6).f2)), (.sl 5 .no ((o.get q6).n3) ((o.get q6).f3))])), (.int .i64 i), (.int .i64 j), .top, .top, .top, .top, .top, .top, .top, .top, .top, .top, .top, .top, .top, .top, .top, .top, .top, .top, .top, .top, .top, .top, .top, .top, .top, (.bool false), .top, .top, .top, .top, .top, .top, .top, .top, .top, .top, .top, .top, .top, .top, .top, .top, .top, .top, .top, .top, .top] (.mk [] [] .plain)))))))))) (fun hb59 => none)) (cond (((((decide (j > (0 : Int))) == (true))) && (true))) none (cond (((((decide (j > (0 : Int))) == (true))) && (true))) none (cond (((((decide (j > (0 : Int))) == (true))) && (true))) (dite ((0 : Int) ≤ i ∧ i.toNat < l.length) (fun hb56 => (cond (((((decide (j > (0 : Int))) == (true))) && (true))) none (cond (((((decide (j > (0 : Int))) == (true))) && (true))) none (cond (decide (j > (0 : Int))) none (k (.exit 2) (.mk [(.sl 4 .no (l.length) (fun q6 => [(.str ((l.get q6).key)), (.sl 3 .no ((l.get q6).n1) ((l.get q6).f1)), (.sl 5 .no ((l.get q6).n2) ((l.get q6).f2)), (.sl 5 .no ((l.get q6).n3) ((l.get q6).f3))])), .top, (.sl 4 .tight 0 (fun i => i.elim0)), (.sl 4 .no (o.length) (fun q6 => [(.str ((o.get q6).key)), (.sl 3 .no ((o.get q6).n1) ((o.get q6).f1)), (.sl 5 .no ((o.get q6).n2) ((o.get q6).f2)), (.sl 5 .no ((o.get q6).n3) ((o.get q6).f3))])), (.int .i64 i), (.int .i64 j), .top, .top, .top, .top, .top, .top, .top, .top, .top, .top, .top, .top, .top, .top, .top, .top, .top, .top, .top, .top, .top, .top, .top, .top, .top, (.bool false), .top, .top, .top, .top, .top, .top, .top, .top, .top, .top, .top, .top, .top, .top, .top, .top, .top, .top, .top, .top, .top] (.mk [] [] .plain))))))) (fun hb56 => none)) (cond (((((decide (j > (0 : Int))) == (true))) && (true))) none (cond (((((decide (j > (0 : Int))) == (true))) && (true))) none (cond (((((decide (j > (0 : Int))) == (true))) && (true))) none (cond (((((decide (j > (0 : Int))) == (true))) && (true))) none (cond (decide (j > (0 : Int))) none (k (.exit 2) (.mk [(.sl 4 .no (l.length) (fun q5 => [(.str ((l.get q5).key)), (.sl 3 .no ((l.get q5).n1) ((l.get q5).f1)), (.sl 5 .no ((l.get q5).n2) ((l.get q5).f2)), (.sl 5 .no ((l.get q5).n3) ((l.get q5).f3))])), .top, (.sl 4 .tight 0 (fun i => i.elim0)), (.sl 4 .no (o.length) (fun q5 => [(.str ((o.get q5).key)), (.sl 3 .no ((o.get q5).n1) ((o.get q5).f1)), (.sl 5 .no ((o.get q5).n2) ((o.get q5).f2)), (.sl 5 .no ((o.get q5).n3) ((o.get q5).f3))])), (.int .i64 i), (.int .i64 j), .top, .top, .top, .top, .top, .top, .top, .top, .top, .top, .top, .top, .top, .top, .top, .top, .top, .top, .top, .top, .top, .top, .top, .top, .top, (.bool false), .top, .top, .top, .top, .top, .top, .top, .top, .top, .top, .top, .top, .top, .top, .top, .top, .top, .top, .top, .top, .top] (.mk [] [] .plain)))))))))))) := by kernel_rfl
theorem e20i (loops : LoopK) (l o : List Rw) (i j : Int) (w : Bool) (k : Den.Exit → St → R) : (kAt Try.prog polK u20 loops 20 (Code.part (bodyOf Try.prog 20) [1, 1, 0, 1, 0, 0]) [1, 0, 0, 1, 0, 0] k) (.exit 2) (S20ie l o i j w) =
  (dite ((0 : Int) ≤ (0 : Int) ∧ (0 : Int) ≤ j ∧ j ≤ (↑o.length : Int)) (fun hb60 => (cond (((true) && (cond (decide ((0 : Nat) + (j.toNat - Int.toNat (0 : Int)) ≤ (70368744177664 : Nat))) ((fun _ => decide (((0 : Nat) + (j.toNat - Int.toNat (0 : Int))) * Try.prog.bytesOf (38 : Nat) ≤ (70368744177664 : Nat))) ()) (false)))) (dite ((0 : Int) ≤ i ∧ i.toNat < l.length) (fun hb58 => (cond (((true) && (cond (decide ((0 : Nat) + (j.toNat - Int.toNat (0 : Int)) + (1 : Nat) ≤ (70368744177664 : Nat))) ((fun _ => decide (((0 : Nat) + (j.toNat - Int.toNat (0 : Int)) + (1 : Nat)) * Try.prog.bytesOf (38 : Nat) ≤ (70368744177664 : Nat))) ()) (false)))) (cond ((0 : Nat) + (j.toNat - Int.toNat (0 : Int)) == (0 : Nat) + (j.toNat - Int.toNat (0 : Int))) (dite ((0 : Int) ≤ j ∧ j ≤ (↑o.length : Int) ∧ (↑o.length : Int) ≤ (↑o.length : Int)) (fun hb55 => (cond (((true) && (cond (decide ((0 : Nat) + (j.toNat - Int.toNat (0 : Int)) + (1 : Nat) + ((↑o.length : Int).toNat - j.toNat) ≤ (70368744177664 : Nat))) ((fun _ => decide (((0 : Nat) + (j.toNat - Int.toNat (0 : Int)) + (1 : Nat) + ((↑o.length : Int).toNat - j.toNat)) * Try.prog.bytesOf (38 : Nat) ≤ (70368744177664 : Nat))) ()) (false)))) (cond ((0 : Nat) + (j.toNat - Int.toNat (0 : Int)) + (1 : Nat) == (0 : Nat) + (j.toNat - Int.toNat (0 : Int)) + (1 : Nat)) (k .normal (.mk [(.sl 4 .no (l.length) (fun q10 => [(.str ((l.get q10).key)), (.sl 3 .no ((l.get q10).n1) ((l.get q10).f1)), (.sl 5 .no ((l.get q10).n2) ((l.get q10).f2)), (.sl 5 .no ((l.get q10).n3) ((l.get q10).f3))])), .top, (.sl 4 .tight 0 (fun i => i.elim0)), (.sl 4 (.id 0) ((0 : Nat) + (j.toNat - Int.toNat (0 : Int)) + (1 : Nat) + ((↑o.length : Int).toNat - j.toNat)) (appRows (appRows (appRows (fun i => i.elim0) (fun q10 => [(.str ((o.get ⟨Int.toNat (0 : Int) + (↑q10 : Nat), opD._proof_3 o.length (0 : Int) j hb60 q10⟩).key)), (.sl 3 .no ((o.get ⟨Int.toNat (0 : Int) + (↑q10 : Nat), opD._proof_3 o.length (0 : Int) j hb60 q10⟩).n1) ((o.get ⟨Int.toNat (0 : Int) + (↑q10 : Nat), opD._proof_3 o.length (0 : Int) j hb60 q10⟩).f1)), (.sl 5 .no ((o.get ⟨Int.toNat (0 : Int) + (↑q10 : Nat), opD._proof_3 o.length (0 : Int) j hb60 q10⟩).n2) ((o.get ⟨Int.toNat (0 : Int) + (↑q10 : Nat), opD._proof_3 o.length (0 : Int) j hb60 q10⟩).f2)), (.sl 5 .no ((o.get ⟨Int.toNat (0 : Int) + (↑q10 : Nat), opD._proof_3 o.length (0 : Int) j hb60 q10⟩).n3) ((o.get ⟨Int.toNat (0 : Int) + (↑q10 : Nat), opD._proof_3 o.length (0 : Int) j hb60 q10⟩).f3))])) (fun q10 => (List.map purify (rowIn [(.str []), (.sl 3 .tight 0 (fun i => i.elim0)), (.sl 5 .tight 0 (fun i => i.elim0)), (.sl 5 .tight 0 (fun i => i.elim0))] ((↑q10 : Nat)) [(0, [(.str ((l.get ⟨i.toNat, hb58.right⟩).key)), (.sl 3 .no ((l.get ⟨i.toNat, hb58.right⟩).n1) ((l.get ⟨i.toNat, hb58.right⟩).f1)), (.sl 5 .no ((l.get ⟨i.toNat, hb58.right⟩).n2) ((l.get ⟨i.toNat, hb58.right⟩).f2)), (.sl 5 .no ((l.get ⟨i.toNat, hb58.right⟩).n3) ((l.get ⟨i.toNat, hb58.right⟩).f3))])])))) (fun q10 => [(.str ((o.get ⟨j.toNat + (↑q10 : Nat), opD._proof_3 o.length j (↑o.length : Int) hb55 q10⟩).key)), (.sl 3 .no ((o.get ⟨j.toNat + (↑q10 : Nat), opD._proof_3 o.length j (↑o.length : Int) hb55 q10⟩).n1) ((o.get ⟨j.toNat + (↑q10 : Nat), opD._proof_3 o.length j (↑o.length : Int) hb55 q10⟩).f1)), (.sl 5 .no ((o.get ⟨j.toNat + (↑q10 : Nat), opD._proof_3 o.length j (↑o.length : Int) hb55 q10⟩).n2) ((o.get ⟨j.toNat + (↑q10 : Nat), opD._proof_3 o.length j (↑o.length : Int) hb55 q10⟩).f2)), (.sl 5 .no ((o.get ⟨j.toNat + (↑q10 : Nat), opD._proof_3 o.length j (↑o.length : Int) hb55 q10⟩).n3) ((o.get ⟨j.toNat + (↑q10 : Nat), opD._proof_3 o.length j (↑o.length : Int) hb55 q10⟩).f3))]))), (.int .i64 (IntKind.i64.wrap (i + (1 : Int)))), .top, .top, .top, .top, .top, .top, .top, .top, .top, .top, .top, .top, .top, .top, .top, .top, .top, .top, .top, .top, .top, .top, .top, .top, .top, .top, .top, .top, .top, .top, .top, .top, .top, .top, .top, .top, .top, .top, .top, .top, .top, .top, .top, .top, .top, .top, .top, .top] (.mk [(.tok ((0 : Nat) + (j.toNat - Int.toNat (0 : Int)) + (1 : Nat) + ((↑o.length : Int).toNat - j.toNat)))] [] .plain))) none) none)) (fun hb55 => none)) none) none)) (fun hb58 => none)) none)) (fun hb60 => none)) := by kernel_rfl
def S20z (l : List Rw) (i : Int) : St := ⟨[slL 4 .no rwR l, .top, .sl 4 .tight 0 (fun i => i.elim0), .sl 4 .tight 0 (fun i => i.elim0), .int .i64 i, .top, .top, .top, .top, .top, .top, .top, .top, .top, .top, .top, .top, .top, .top, .top, .top, .top, .top, .top, .top, .top, .top, .top, .top, .top, .top, .top, .top, .top, .top, .top, .top, .top, .top, .top, .top, .top, .top, .top, .top, .top, .top, .top, .top, .top, .top, .top, .top], ⟨[], [], .plain⟩⟩
def S20ze (l : List Rw) (i : Int) : St := ⟨[slL 4 .no rwR l, .top, .sl 4 .tight 0 (fun i => i.elim0), .sl 4 .tight 0 (fun i => i.elim0), .int .i64 i, .top, .top, .top, .top, .top, .bool (decide (i < l.length)), .top, .top, .top, .top, .top, .top, .top, .top, .top, .top, .top, .top, .top, .top, .top, .top, .top, .top, .top, .top, .top, .top, .top, .top, .top, .top, .top, .top, .top, .top, .top, .top, .top, .top, .top, .top, .top, .top, .top, .top, .top, .top], ⟨[], [], .plain⟩⟩
theorem r20z (loops : LoopK) (l : List Rw) (i : Int) (k : Den.Exit → St → R) : codeL Try.prog polK u20 loops 20 (Code.part (bodyOf Try.prog 20) [1, 1, 0, 1, 0, 0]) (S20z l i) k =
  (cond (decide (i < (↑l.length : Int))) (loops 6 (.mk [(.sl 4 .no (l.length) (fun q4 => [(.str ((l.get q4).key)), (.sl 3 .no ((l.get q4).n1) ((l.get q4).f1)), (.sl 5 .no ((l.get q4).n2) ((l.get q4).f2)), (.sl 5 .no ((l.get q4).n3) ((l.get q4).f3))])), .top, (.sl 4 .tight 0 (fun i => i.elim0)), (.sl 4 .tight 0 (fun i => i.elim0)), (.int .i64 i), (.int .i64 0), .top, .top, .top, .top, .top, .top, .top, .top, .top, .top, .top, .top, .top, .top, .top, .top, .top, .top, .top, .top, .top, .top, .top, .top, .top, .top, .top, .top, .top, .top, .top, .top, .top, .top, .top, .top, .top, .top, .top, .top, .top, .top, .top, .top, .top, .top, .top] (.mk [] [] .plain)) (kAt Try.prog polK u20 loops 20 (Code.part (bodyOf Try.prog 20) [1, 1, 0, 1, 0, 0]) [1, 0, 0, 1, 0, 0] k)) (k (.exit 0) (.mk [(.sl 4 .no (l.length) (fun q4 => [(.str ((l.get q4).key)), (.sl 3 .no ((l.get q4).n1) ((l.get q4).f1)), (.sl 5 .no ((l.get q4).n2) ((l.get q4).f2)), (.sl 5 .no ((l.get q4).n3) ((l.get q4).f3))])), .top, (.sl 4 .tight 0 (fun i => i.elim0)), (.sl 4 .tight 0 (fun i => i.elim0)), (.int .i64 i), .top, .top, .top, .top, .top, (.bool (decide (i < (↑l.length : Int)))), .top, .top, .top, .top, .top, .top, .top, .top, .top, .top, .top, .top, .top, .top, .top, .top, .top, .top, .top, .top, .top, .top, .top, .top, .top, .top, .top, .top, .top, .top, .top, .top, .top, .top, .top, .top, .top, .top, .top, .top, .top, .top] (.mk [] [] .plain)))) := by kernel_rfl
theorem e20z (loops : LoopK) (l : List Rw) (i : Int) : (kBody Try.prog polK u20 loops 20 [1, 1, 0, 1, 0] 0 .plain) (.exit 0) (S20ze l i) =
  (some (.ret (.sl 4 .tight 0 (fun i => i.elim0)) [] .plain)) := by kernel_rfl
def S20iz (l : List Rw) (i : Int) : St := ⟨[slL 4 .no rwR l, .top, .sl 4 .tight 0 (fun i => i.elim0), .sl 4 .tight 0 (fun i => i.elim0), .int .i64 i, .int .i64 0, .top, .top, .top, .top, .top, .top, .top, .top, .top, .top, .top, .top, .top, .top, .top, .top, .top, .top, .top, .top, .top, .top, .top, .top, .top, .top, .top, .top, .top, .top, .top, .top, .top, .top, .top, .top, .top, .top, .top, .top, .top, .top, .top, .top, .top, .top, .top], ⟨[], [], .plain⟩⟩
def S20ize (l : List Rw) (i : Int) (w : Bool) : St := ⟨[slL 4 .no rwR l, .top, .sl 4 .tight 0 (fun i => i.elim0), .sl 4 .tight 0 (fun i => i.elim0), .int .i64 i, .int .i64 0, .top, .top, .top, .top, .top, .top, .top, .top, .top, .top, .top, .top, .top, .top, .top, .top, .top, .top, .top, .top, .top, .top, .top, .top, .top, .bool w, .top, .top, .top, .top, .top, .top, .top, .top, .top, .top, .top, .top, .top, .top, .top, .top, .top, .top, .top, .top, .top], ⟨[], [], .plain⟩⟩
theorem r20iz (l : List Rw) (i : Int) (k : Den.Exit → St → R) : codeL Try.prog polK u20 noLoops 20 (Code.part (bodyOf Try.prog 20) [1, 1, 0, 1, 0, 0, 1, 0, 0, 1, 0, 0, 0]) (S20iz l i) k =
  (k (.exit 2) (.mk [(.sl 4 .no (l.length) (fun q3 => [(.str ((l.get q3).key)), (.sl 3 .no ((l.get q3).n1) ((l.get q3).f1)), (.sl 5 .no ((l.get q3).n2) ((l.get q3).f2)), (.sl 5 .no ((l.get q3).n3) ((l.get q3).f3))])), .top, (.sl 4 .tight 0 (fun i => i.elim0)), (.sl 4 .tight 0 (fun i => i.elim0)), (.int .i64 i), (.int .i64 0), .top, .top, .top, .top, .top, .top, .top, .top, .top, .top, .top, .top, .top, .top, .top, .top, .top, .top, .top, .top, .top, .top, .top, .top, .top, (.bool false), .top, .top, .top, .top, .top, .top, .top, .top, .top, .top, .top, .top, .top, .top, .top, .top, .top, .top, .top, .top, .top] (.mk [] [] .plain))) := by kernel_rfl
theorem e20iz (loops : LoopK) (l : List Rw) (i : Int) (w : Bool) (k : Den.Exit → St → R) : (kAt Try.prog polK u20 loops 20 (Code.part (bodyOf Try.prog 20) [1, 1, 0, 1, 0, 0]) [1, 0, 0, 1, 0, 0] k) (.exit 2) (S20ize l i w) =
  (dite ((0 : Int) ≤ i ∧ i.toNat < l.length) (fun hb60 => (k .normal (.mk [(.sl 4 .no (l.length) (fun q6 => [(.str ((l.get q6).key)), (.sl 3 .no ((l.get q6).n1) ((l.get q6).f1)), (.sl 5 .no ((l.get q6).n2) ((l.get q6).f2)), (.sl 5 .no ((l.get q6).n3) ((l.get q6).f3))])), .top, (.sl 4 .tight 0 (fun i => i.elim0)), (.sl 4 (.id 0) 1 (appRows (n := 1) (m := 0) (appRows (n := 0) (m := 1) (appRows (n := 0) (m := 0) (fun i => i.elim0) (fun i => i.elim0)) (fun q6 => (List.map purify (rowIn [(.str []), (.sl 3 .tight 0 (fun i => i.elim0)), (.sl 5 .tight 0 (fun i => i.elim0)), (.sl 5 .tight 0 (fun i => i.elim0))] ((↑q6 : Nat)) [(0, [(.str ((l.get ⟨i.toNat, hb60.right⟩).key)), (.sl 3 .no ((l.get ⟨i.toNat, hb60.right⟩).n1) ((l.get ⟨i.toNat, hb60.right⟩).f1)), (.sl 5 .no ((l.get ⟨i.toNat, hb60.right⟩).n2) ((l.get ⟨i.toNat, hb60.right⟩).f2)), (.sl 5 .no ((l.get ⟨i.toNat, hb60.right⟩).n3) ((l.get ⟨i.toNat, hb60.right⟩).f3))])])))) (fun i => i.elim0))), (.int .i64 (IntKind.i64.wrap (i + (1 : Int)))), .top, .top, .top, .top, .top, .top, .top, .top, .top, .top, .top, .top, .top, .top, .top, .top, .top, .top, .top, .top, .top, .top, .top, .top, .top, .top, .top, .top, .top, .top, .top, .top, .top, .top, .top, .top, .top, .top, .top, .top, .top, .top, .top, .top, .top, .top, .top, .top] (.mk [(.tok 1)] [] .plain)))) (fun hb60 => none)) := by kernel_rfl
theorem b20 (loops : LoopK) (l : List Rw) : bodyL Try.prog polK u20 loops 20 [slL 4 .no rwR l] [] .plain =
  (loops 3 (.mk [(.sl 4 .no (l.length) (fun q2 => [(.str ((l.get q2).key)), (.sl 3 .no ((l.get q2).n1) ((l.get q2).f1)), (.sl 5 .no ((l.get q2).n2) ((l.get q2).f2)), (.sl 5 .no ((l.get q2).n3) ((l.get q2).f3))])), .top, (.sl 4 .tight 0 (fun i => i.elim0)), (.sl 4 .tight 0 (fun i => i.elim0)), (.int .i64 0), .top, .top, .top, .top, .top, .top, .top, .top, .top, .top, .top, .top, .top, .top, .top, .top, .top, .top, .top, .top, .top, .top, .top, .top, .top, .top, .top, .top, .top, .top, .top, .top, .top, .top, .top, .top, .top, .top, .top, .top, .top, .top, .top, .top, .top, .top, .top, .top] (.mk [] [] .plain)) (kBody Try.prog polK u20 loops 20 [1, 1, 0, 1, 0] 0 .plain)) := by kernel_rfl
end Go.Proofs

/- Link: the reference compares names. -/
namespace Go.Proofs
open Go.Den
set_option maxRecDepth 100000
def S40r (v : Int) : St := ⟨.top :: .top :: .top :: .top :: .int .i64 v :: List.replicate 37 .top, ⟨[], [], .plain⟩⟩
theorem p40 (loops : LoopK) (v : Int) : (kBody Try.prog polK noCall loops 40 [1, 0, 1, 0] 0 .plain) .ret (S40r v) = some (.ret (.int .i64 v) [] .plain) := by kernel_rfl
theorem cmpS_cons (a b : UInt8) (s t : Str) : cmpS (a :: s) (b :: t) = if a < b then -1 else if b < a then 1 else cmpS s t := by
  unfold cmpS
  simp only [bytesLess]
  by_cases h : a < b
  · simp [h]
  · by_cases h2 : b < a
    · have hne : (a == b) = false := by
        rw [beq_eq_false_iff_ne]
        exact fun e => by subst e; exact h h2
      simp [h, h2, hne]
    · have e : a = b := UInt8.le_antisymm (UInt8.not_lt.1 h2) (UInt8.not_lt.1 h)
      subst e
      simp [h]
theorem cmpS_nil (s t : Str) (h : s = [] ∨ t = []) : cmpS s t = if s.length < t.length then -1 else if t.length < s.length then 1 else 0 := by
  rcases h with rfl | rfl
  · cases t <;> simp [cmpS, bytesLess]
  · cases s <;> simp [cmpS, bytesLess]
theorem v40 {s t : Str} (hs : s.length < 1000000000) : dK 40 [.str s, .str t] [] .plain = some (.ret (.int .i64 (cmpS s t)) [] .plain) := by
  refine Tot.of_eq (denA_tot (s.length + 1) noCall_le rfl (by kernel_rfl) ?_)
  rw [b40, lpR_at (x := Code.part (bodyOf Try.prog 40) [1, 0, 1, 0, 0]) (by kernel_rfl)]
  refine loop_meas (calls := fun _ : Nat => noCall) (fun _ => noCall_le) (keep := true) rfl (inner := noLoops) no_loops (fun j => S40 s t j) (fun j => j ≤ s.length ∧ j ≤ t.length ∧ cmpS s t = cmpS (s.drop j) (t.drop j)) (fun j => s.length - j) 0 (by omega) ⟨Nat.zero_le _, Nat.zero_le _, rfl⟩ (by
    show _ = _
    kernel_rfl) (H := 0) rfl ?_
  rintro j ⟨h1, h2, h3⟩ K hn' hx
  rw [r40]
  refine Tot.cond (fun c => ?_) fun c => ?_
  · have c' : j < s.length ∧ j < t.length := by
      by_cases d : j < s.length
      · refine ⟨d, ?_⟩
        rw [show decide ((j : Int) < (s.length : Int)) = true by simpa using d] at c
        simpa using c
      · rw [show decide ((j : Int) < (s.length : Int)) = false by simpa using d] at c
        cases c
    have g1 : (0 : Int) ≤ (j : Int) ∧ (j : Int).toNat < s.length := ⟨by omega, by simpa using c'.1⟩
    have g2 : (0 : Int) ≤ (j : Int) ∧ (j : Int).toNat < t.length := ⟨by omega, by simpa using c'.2⟩
    have ed : cmpS s t = if s[j] < t[j] then -1 else if t[j] < s[j] then 1 else cmpS (s.drop (j + 1)) (t.drop (j + 1)) := by
      rw [h3, List.drop_eq_getElem_cons c'.1, List.drop_eq_getElem_cons c'.2, cmpS_cons]
    refine Tot.dite g1 (Tot.dite g2 (Tot.cond (fun d => ?_) fun d => ?_))
    · have d' : s[j] < t[j] := by
        have := of_decide_eq_true d
        simp only [Int.toNat_natCast] at this
        exact UInt8.lt_iff_toNat_lt.2 (by omega)
      rw [hx _ _ (by simp)]
      refine Tot.eq (p40 _ (-1)) (Tot.some ?_)
      rw [ed, if_pos d']
    · have d' : ¬ s[j] < t[j] := fun h => by
        have := of_decide_eq_false d
        simp only [Int.toNat_natCast] at this
        have := UInt8.lt_iff_toNat_lt.1 h
        omega
      refine Tot.dite g1 (Tot.dite g2 (Tot.cond (fun d2 => ?_) fun d2 => ?_))
      · have d2' : t[j] < s[j] := by
          have := of_decide_eq_true d2
          simp only [Int.toNat_natCast] at this
          exact UInt8.lt_iff_toNat_lt.2 (by omega)
        rw [hx _ _ (by simp)]
        refine Tot.eq (p40 _ 1) (Tot.some ?_)
        rw [ed, if_neg d', if_pos d2']
      · have d2' : ¬ t[j] < s[j] := fun h => by
          have := of_decide_eq_false d2
          simp only [Int.toNat_natCast] at this
          have := UInt8.lt_iff_toNat_lt.1 h
          omega
        have w1 : IntKind.i64.wrap ((j : Int) + 1) = ((j + 1 : Nat) : Int) := wrap_nat (by omega) (by omega)
        rw [w1]
        exact hn' _ (j + 1) ⟨c'.1, c'.2, by rw [ed, if_neg d', if_neg d2']⟩ (by omega) rfl
  · rw [hx _ _ (by simp)]
    refine Tot.eq (e40 (lpR Try.prog polK dK (s.length + 1) 40 (loopsOf (bodyOf Try.prog 40))) s t j _) ?_
    have hz : s.drop j = [] ∨ t.drop j = [] := by
      by_cases d : j < s.length
      · rw [show decide ((j : Int) < (s.length : Int)) = true by simpa using d] at c
        have : ¬ j < t.length := by simpa using c
        exact .inr (List.drop_eq_nil_iff.2 (by omega))
      · exact .inl (List.drop_eq_nil_iff.2 (by omega))
    have e := cmpS_nil _ _ hz
    simp only [List.length_drop] at e
    rw [h3, e]
    refine Tot.cond (fun d => Tot.some ?_) fun d => Tot.cond (fun d2 => Tot.some ?_) fun d2 => Tot.some ?_
    · have : s.length < t.length := by simpa using d
      rw [if_pos (by omega)]
    · have h4 : ¬ s.length < t.length := by simpa using d
      have : t.length < s.length := by simpa using d2
      rw [if_neg (by omega), if_pos (by omega)]
    · have h4 : ¬ s.length < t.length := by simpa using d
      have : ¬ t.length < s.length := by simpa using d2
      rw [if_neg (by omega), if_neg (by omega)]
end Go.Proofs

/- Link: the reference sorts. -/
namespace Go.Proofs
open Go.Den
set_option maxRecDepth 100000
theorem rows_mid {o : List Rw} {y : Rw} {t : Tok} {J n1 n2 : Nat} {e : Fin 0 → List AV} {a : Fin n1 → List AV} {b : Fin 1 → List AV} {c : Fin n2 → List AV} (h1 : n1 = J) (h2 : n2 = o.length - J) (hJ : J ≤ o.length)
    (ha : ∀ q h h', a ⟨q, h⟩ = rwR (o.get ⟨q, h'⟩)) (hb : b 0 = rwR y) (hc : ∀ q h h', c ⟨q, h⟩ = rwR (o.get ⟨J + q, h'⟩)) :
    AV.sl 4 t (0 + n1 + 1 + n2) (appRows (appRows (appRows e a) b) c) = slL 4 t rwR (o.take J ++ y :: o.drop J) := by
  subst h1 h2
  have hl : (o.take n1 ++ y :: o.drop n1).length = 0 + n1 + 1 + (o.length - n1) := by simp; omega
  refine sl_ext hl.symm fun i g1 g2 => ?_
  unfold appRows
  simp only [List.get_eq_getElem]
  by_cases c1 : i < n1
  · rw [dif_pos (show i < 0 + n1 + 1 by omega), dif_pos (show i < 0 + n1 by omega), dif_neg (show ¬ i < 0 by omega), ha _ _ (by omega)]
    rw [List.getElem_append_left (by simp; omega)]
    simp
  · by_cases c2 : i = n1
    · subst c2
      rw [dif_pos (show i < 0 + i + 1 by omega), dif_neg (show ¬ i < 0 + i by omega)]
      have : (⟨i - (0 + i), by omega⟩ : Fin 1) = 0 := by apply Fin.ext; simp
      rw [this, hb, List.getElem_append_right (by simp; omega)]
      simp [show i - min i o.length = 0 by omega]
    · rw [dif_neg (show ¬ i < 0 + n1 + 1 by omega), hc _ _ (by omega), List.getElem_append_right (by simp; omega)]
      have hm : i - (List.take n1 o).length = (i - (0 + n1 + 1)) + 1 := by simp; omega
      simp only [hm, List.getElem_cons_succ, List.getElem_drop, List.get_eq_getElem]
theorem cmp_gt {s t : Str} : decide (cmpS s t > 0) = bytesLess t s := by
  unfold cmpS
  cases h : bytesLess s t with
  | true => simp [bl_as h]
  | false =>
    cases h2 : bytesLess t s with
    | true =>
      have : (s == t) = false := by
        rw [beq_eq_false_iff_ne]
        rintro rfl
        rw [bl_irr] at h2
        cases h2
      simp [this]
    | false =>
      have := bl_tri h h2
      subst this
      simp
theorem u20_le : CallLeK u20 dK := by
  intro f args h ps kk o x
  unfold u20 at x
  split at x
  · obtain ⟨⟨rfl, rfl, hs⟩, x'⟩ := chk_some x
    exact ⟨_, x', v40 hs⟩
  · cases x
noncomputable abbrev P20 : Code := Code.part (bodyOf Try.prog 20) [1, 1, 0, 1, 0, 0, 1, 0, 0, 1, 0, 0, 0]
theorem place {l o : List Rw} {i n : Nat} (hi : i < l.length) (ho : o.length < BB) (hn : o.length < n) (hk' : ∀ x ∈ o, x.key.length < 1000000000) {k : Den.Exit → St → R} {Q : Out → Prop}
    (hk : ∀ (j : Nat) w, j ≤ o.length → (∀ z ∈ o.drop j, Lt (l.get ⟨i, hi⟩) z) → (∀ w, j = w + 1 → ∀ h, Le (o.get ⟨w, h⟩) (l.get ⟨i, hi⟩)) → Tot (k (.exit 2) (S20ie l o i j w)) Q) :
    Tot (codeD Try.prog polK (bindK dK) n 20 (.loop P20) (S20i l o i o.length) k) Q := by
  simp only [BB] at ho
  refine loop_meas (calls := fun _ : Nat => u20) (fun _ => u20_le) (keep := false) rfl (inner := noLoops) no_loops (fun j => S20i l o i j) (fun j => j ≤ o.length ∧ ∀ z ∈ o.drop j, Lt (l.get ⟨i, hi⟩) z) (fun j => j) o.length hn ⟨Nat.le_refl _, by simp⟩ (by
    show _ = _
    kernel_rfl) (H := 0) rfl ?_
  rintro j ⟨h1, h2⟩ K hn' hx
  rw [r20i]
  have gi : (0 : Int) ≤ (i : Int) ∧ (i : Int).toNat < l.length := ⟨by omega, by simpa using hi⟩
  cases j with
  | zero =>
    have c0 : decide (((0 : Nat) : Int) > 0) = false := by simp
    have g0 : ¬ ((0 : Int) ≤ IntKind.i64.wrap (((0 : Nat) : Int) - 1) ∧ (IntKind.i64.wrap (((0 : Nat) : Int) - 1)).toNat < o.length) := by
      rw [show (((0 : Nat) : Int) - 1) = -1 from rfl, wrap_id (n := -1) (by omega) (by omega)]
      omega
    simp only [c0, dif_neg g0, dif_pos gi, cond_false, Bool.and_true, show (false == true) = false from rfl]
    have := hk 0 false (Nat.zero_le _) h2 (fun w e => by omega)
    unfold S20ie at this
    rw [hx _ _ (by simp)]
    exact this
  | succ j =>
    have c0 : decide (((j + 1 : Nat) : Int) > 0) = true := decide_eq_true (by omega)
    have w1 : IntKind.i64.wrap (((j + 1 : Nat) : Int) - 1) = (j : Int) := wrap_nat (by omega) (by omega)
    have g1 : (0 : Int) ≤ (j : Int) ∧ (j : Int).toNat < o.length := ⟨by omega, by simp; omega⟩
    rw [w1]
    simp only [c0, dif_pos g1, dif_pos gi, cond_true, Bool.and_true, show (true == true) = true from rfl]
    refine Tot.chk ⟨trivial, trivial, hk' _ (List.get_mem _ _)⟩ (Tot.cond (fun d => ?_) fun d => ?_)
    · rw [cmp_gt] at d
      refine hn' _ j ⟨by omega, fun z hz => ?_⟩ (by omega) rfl
      rw [List.drop_eq_getElem_cons (by omega)] at hz
      rcases List.mem_cons.1 hz with rfl | hz
      · exact d
      · exact h2 z hz
    · have d0 := d
      rw [cmp_gt] at d
      rw [hx _ _ (by simp), d0]
      have := hk (j + 1) false h1 h2 (fun w e h => by
        have e' : w = j := by omega
        subst e'
        exact d)
      unfold S20ie at this
      exact this
end Go.Proofs

/- Link: the reference sorts: the whole. -/
namespace Go.Proofs
open Go.Den
set_option maxRecDepth 100000
theorem normT {K : Den.Exit → St → R} {x0 x1 x2 x x' : AV} {T : List AV} {s : Hs} {Q : Out → Prop} (h : x = x') (H : Tot (K .normal ⟨x0 :: x1 :: x2 :: x' :: T, s⟩) Q) : Tot (K .normal ⟨x0 :: x1 :: x2 :: x :: T, s⟩) Q := by subst h; exact H
noncomputable def S20x (l : List Rw) : Nat → St
  | 0 => S20z l (0 : Nat)
  | i + 1 => S20 l (isort (l.take (i + 1))) (i + 1 : Nat)
theorem bytes38 : Try.prog.bytesOf 38 ≤ 200 := of_decide_eq_true (by kernel_rfl)
theorem tok20 (l : List Rw) : slL 4 (tokS l) rwR (isort l) = match l with | [] => .sl 4 .tight 0 (fun i => i.elim0) | _ :: _ => slL 4 .no rwR (isort l) := by
  cases l with
  | nil => exact slL_nil rwR
  | cons _ _ => rfl
theorem v20 {l : List Rw} (hl : l.length < BB) (hkl : ∀ x ∈ l, x.key.length < 1000000000) : dK 20 [slL 4 .no rwR l] [] .plain = some (.ret (slL 4 (tokS l) rwR (isort l)) [] .plain) := by
  simp only [BB] at hl
  refine Tot.of_eq (denA_tot (l.length + 2) u20_le rfl (by kernel_rfl) ?_)
  rw [b20, lpR_at (x := Code.part (bodyOf Try.prog 20) [1, 1, 0, 1, 0, 0]) (by kernel_rfl)]
  refine loop_meas (calls := fun _ : Nat => u20) (fun _ => u20_le) (keep := false) rfl (inner := lpR Try.prog polK dK (l.length + 2) 20 (loopsOf (Code.part (bodyOf Try.prog 20) [1, 1, 0, 1, 0, 0]))) (lpR_ok (by kernel_rfl)) (S20x l) (fun i => i ≤ l.length) (fun i => l.length - i) 0 (by omega) (Nat.zero_le _) (by
    show _ = S20z l (0 : Nat)
    kernel_rfl) (H := 0) (by rfl) ?_
  intro i hi K hn' hx
  cases i with
  | zero =>
    show Tot (codeL _ _ _ _ _ _ (S20z l (0 : Nat)) K) _
    rw [r20z]
    cases l with
    | nil =>
      have c0 : decide (((0 : Nat) : Int) < (([] : List Rw).length : Int)) = false := by simp
      rw [c0, cond_false, hx _ _ (by simp)]
      have e := e20z (lpR Try.prog polK dK (([] : List Rw).length + 2) 20 (loopsOf (bodyOf Try.prog 20))) [] (0 : Nat)
      unfold S20ze at e
      rw [c0] at e
      refine Tot.eq e (Tot.some ?_)
      rw [tok20]
    | cons y l =>
      have c0 : decide (((0 : Nat) : Int) < ((y :: l).length : Int)) = true := decide_eq_true (by simp)
      have g0 : (0 : Int) ≤ ((0 : Nat) : Int) ∧ (((0 : Nat) : Int)).toNat < (y :: l).length := ⟨by omega, by simp⟩
      rw [c0, cond_true, lpR_at (x := P20) (by kernel_rfl)]
      refine loop_meas (calls := fun _ : Unit => u20) (fun _ => u20_le) (keep := false) rfl (inner := noLoops) no_loops (fun _ => S20iz (y :: l) (0 : Nat)) (fun _ => True) (fun _ => 0) () (by omega) trivial (by
        show _ = _
        kernel_rfl) (H := 0) rfl ?_
      intro _ _ K2 _ hx2
      rw [r20iz, hx2 _ _ (by simp)]
      refine Tot.eq (e20iz (lpR Try.prog polK dK ((y :: l).length + 2) 20 (loopsOf (Code.part (bodyOf Try.prog 20) [1, 1, 0, 1, 0, 0]))) (y :: l) (0 : Nat) false K) (Tot.dite g0 ?_)
      have w1 : IntKind.i64.wrap (((0 : Nat) : Int) + 1) = ((1 : Nat) : Int) := wrap_nat (by omega) (by omega)
      rw [w1]
      have e := rows_mid (o := []) (y := y) (t := .id 0) (J := 0) (n1 := 0) (n2 := 0) (e := fun i => i.elim0) (a := fun i => i.elim0) (b := fun q6 => (List.map purify (rowIn [(.str []), (.sl 3 .tight 0 (fun i => i.elim0)), (.sl 5 .tight 0 (fun i => i.elim0)), (.sl 5 .tight 0 (fun i => i.elim0))] ((↑q6 : Nat)) [(0, rwR y)]))) (c := fun i => i.elim0) rfl rfl (Nat.le_refl _) (fun q h => absurd h (Nat.not_lt_zero _)) rfl (fun q h => absurd h (Nat.not_lt_zero _))
      refine normT e ?_
      exact hn' _ 1 (by show 1 ≤ (y :: l).length; simp) (by simp) rfl
  | succ i =>
    have hkt : ∀ x ∈ isort (l.take (i + 1)), x.key.length < 1000000000 := fun x hxm => by
      rw [← (isort_ok _).2.mem] at hxm
      exact hkl x (List.mem_of_mem_take hxm)
    have hol : (isort (l.take (i + 1))).length = i + 1 := by rw [isort_len, List.length_take]; omega
    have hos := (isort_ok (l.take (i + 1))).1
    have hob := (isort_ok (l.take (i + 1))).2
    have hkey : ∀ o, o = isort (l.take (i + 1)) → Tot (codeL Try.prog polK u20 (lpR Try.prog polK dK (l.length + 2) 20 (loopsOf (Code.part (bodyOf Try.prog 20) [1, 1, 0, 1, 0, 0]))) 20 (Code.part (bodyOf Try.prog 20) [1, 1, 0, 1, 0, 0]) (S20 l o (i + 1 : Nat)) K) (· = .ret (slL 4 (tokS l) rwR (isort l)) [] .plain) := by
      intro o ho
      rw [← ho] at hkt hol hos hob
      rw [r20]
      by_cases c : i + 1 < l.length
      · have c0 : decide (((i + 1 : Nat) : Int) < (l.length : Int)) = true := decide_eq_true (by omega)
        have gi : (0 : Int) ≤ ((i + 1 : Nat) : Int) ∧ (((i + 1 : Nat) : Int)).toNat < l.length := ⟨by omega, by simpa using c⟩
        rw [c0, cond_true, lpR_at (x := P20) (by kernel_rfl)]
        refine place c (by simp only [BB]; omega) (by omega) hkt fun j w hj hd ht => ?_
        have g1 : (0 : Int) ≤ (0 : Int) ∧ (0 : Int) ≤ (j : Int) ∧ (j : Int) ≤ (o.length : Int) := by omega
        have g2 : (0 : Int) ≤ (j : Int) ∧ (j : Int) ≤ (o.length : Int) ∧ (o.length : Int) ≤ (o.length : Int) := by omega
        have z1 : (j : Int).toNat - Int.toNat 0 = j := by simp
        have z2 : ((o.length : Int)).toNat - (j : Int).toNat = o.length - j := by simp
        refine Tot.eq (e20i (lpR Try.prog polK dK (l.length + 2) 20 (loopsOf (Code.part (bodyOf Try.prog 20) [1, 1, 0, 1, 0, 0]))) l o (i + 1 : Nat) j w K) (Tot.dite g1 ?_)
        rw [roomy_ok (by rw [z1]; omega) bytes38, cond_true]
        refine Tot.dite gi ?_
        rw [roomy_ok (by rw [z1]; omega) bytes38, cond_true, beq_self_eq_true, cond_true]
        refine Tot.dite g2 ?_
        rw [roomy_ok (by rw [z1, z2]; omega) bytes38, cond_true, beq_self_eq_true, cond_true]
        have w1 : IntKind.i64.wrap (((i + 1 : Nat) : Int) + 1) = ((i + 1 + 1 : Nat) : Int) := wrap_nat (by omega) (by omega)
        rw [w1]
        refine normT (rows_mid (o := o) (y := l.get ⟨i + 1, c⟩) (J := j) z1 z2 hj (fun q h h' => ?_) rfl (fun q h h' => ?_)) ?_
        · have hq : (⟨0 + q, by omega⟩ : Fin o.length) = ⟨q, h'⟩ := Fin.ext (Nat.zero_add q)
          exact congrArg (fun i => rwR (o.get i)) hq
        · rfl
        · have hmid : o.take j ++ l.get ⟨i + 1, c⟩ :: o.drop j = isort (l.take (i + 1 + 1)) := by
            have hos' : Srt (o.take j ++ o.drop j) := by rw [List.take_append_drop]; exact hos
            have ⟨s1, s2, s3⟩ := List.pairwise_append.1 hos'
            refine isort_eq (List.pairwise_append.2 ⟨s1, List.pairwise_cons.2 ⟨fun z hz => (hd z hz).le, s2⟩, fun a ha b hb => ?_⟩) ?_
            · have hay : Le a (l.get ⟨i + 1, c⟩) := by
                cases j with
                | zero => simp at ha
                | succ w =>
                  have hw : w < o.length := by omega
                  have h1 := ht w rfl hw
                  rw [take_snoc hw] at ha s1
                  exact (srt_last s1 ha).trans h1
              rcases List.mem_cons.1 hb with rfl | hb
              · exact hay
              · exact Le.trans hay (Lt.le (hd b hb))
            · rw [take_snoc c]
              refine (Stb.app hob (Stb.refl [l.get ⟨i + 1, c⟩])).trans ?_
              have e1 : o ++ [l.get ⟨i + 1, c⟩] = o.take j ++ (o.drop j ++ [l.get ⟨i + 1, c⟩]) := by rw [← List.append_assoc, List.take_append_drop]
              rw [e1]
              refine Stb.app (Stb.refl _) (Stb.swap (v := [l.get ⟨i + 1, c⟩]) fun a ha b hb => ?_)
              rw [List.mem_singleton.1 hb]
              exact (hd a ha).ne.symm
          refine hn' _ (i + 1 + 1) c (by omega) ?_
          show _ = S20 l (isort (l.take (i + 1 + 1))) (i + 1 + 1 : Nat)
          rw [← hmid]
          rfl
      · have hil : i + 1 = l.length := by omega
        have c0 : decide (((i + 1 : Nat) : Int) < (l.length : Int)) = false := decide_eq_false (by omega)
        rw [c0, cond_false, hx _ _ (by simp)]
        have e := e20 (lpR Try.prog polK dK (l.length + 2) 20 (loopsOf (bodyOf Try.prog 20))) l o (i + 1 : Nat)
        unfold S20e at e
        rw [c0] at e
        refine Tot.eq e (Tot.some ?_)
        rw [ho, hil, List.take_length]
        cases l with
        | nil => simp at hil
        | cons _ _ => rfl
    exact hkey _ rfl
end Go.Proofs
