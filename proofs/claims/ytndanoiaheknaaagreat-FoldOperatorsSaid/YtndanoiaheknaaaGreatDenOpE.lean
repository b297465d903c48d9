/- FoldOperators: what is left of the operators, case by case. -/
import Derived.Test.YtndanoiaheknaaaGreatDenPiece
import Derived.Test.YtndanoiaheknaaaGreatDenOpC
set_option linter.unusedSimpArgs false
set_option linter.unusedVariables false
namespace Go.Proofs
open Go Go.Den
set_option maxRecDepth 100000

noncomputable def uS : CallK := fun f args h ps K => match f, args, h, ps with
  | 40, [.int .u64 a], [], .plain => K (.ret (.int .u64 (cnI a)) [] .plain)
  | 45, [.int .u64 a], [], .plain => chk (U64 a) (K (.ret (.int .u64 (cnI a)) [] .plain))
  | 63, [.int .u64 a, .int .u64 b], [], .plain => chk (U64 a ∧ U64 b) (K (.ret (.bool (eqF a b)) [] .plain))
  | 64, [.int .u64 a, .int .u64 b], [], .plain => chk (U64 a ∧ U64 b) (K (.ret (.bool (ltF a b)) [] .plain))
  | 28, [.int .u64 a], [], .plain => chk (U64 a) (K (.ret (toA a) [] .plain))
  | 51, [.int .i64 a, .int .i64 b], [], .plain => chk (I64 a ∧ I64 b) (K (.ret (rsI (a + b)) [] .plain))
  | 69, [.int .i64 a, .int .i64 b], [], .plain => chk (I64 a ∧ I64 b) (K (.ret (rsI (a + b)) [] .plain))
  | 44, [.int .i64 a, .int .i64 b], [], .plain => chk (I64 a ∧ I64 b) (K (.ret (rsI (a - b)) [] .plain))
  | 46, [.int .i64 a, .int .i64 b], [], .plain => chk (I64 a ∧ I64 b) (K (.ret (rsI (a - b)) [] .plain))
  | 52, [.int .i64 a, .int .i64 b], [], .plain => chk (I64 a ∧ I64 b) (K (.ret (rsI (a * b)) [] .plain))
  | 70, [.int .i64 a, .int .i64 b], [], .plain => chk (I64 a ∧ I64 b) (K (.ret (rsI (a * b)) [] .plain))
  | 53, [.int .i64 a, .int .i64 b], [], .plain => chk (I64 a ∧ I64 b) (cond (b == 0) (K (.ret (.tup [.int .i64 0, .int .i64 81]) [] .plain)) (K (.ret (rsI (a.tdiv b)) [] .plain)))
  | 71, [.int .i64 a, .int .i64 b], [], .plain => chk (I64 a ∧ I64 b) (cond (b == 0) (K (.ret (.tup [.int .i64 0, .int .i64 81]) [] .plain)) (K (.ret (rsI (a.tdiv b)) [] .plain)))
  | 54, [.int .i64 a, .int .i64 b], [], .plain => cond (b == 0) (K (.ret (.tup [.int .i64 0, .int .i64 81]) [] .plain)) (K (.ret (.tup [.int .i64 (a.tmod b), .int .i64 0]) [] .plain))
  | 72, [.int .i64 a, .int .i64 b], [], .plain => cond (b == 0) (K (.ret (.tup [.int .i64 0, .int .i64 81]) [] .plain)) (K (.ret (.tup [.int .i64 (a.tmod b), .int .i64 0]) [] .plain))
  | 19, [.int .i64 a], [], .plain => chk (I64 a) (K (.ret (rsI (-a)) [] .plain))
  | 22, [.int .i64 a], [], .plain => chk (I64 a) (K (.ret (rsI (-a)) [] .plain))
  | _, _, _, _ => u0 f args h ps K
theorem uS_le : CallLeK uS dZ := by
  intro f args h ps kk o e
  unfold uS at e
  split at e
  · exact ⟨_, e, v40⟩
  · obtain ⟨h1, e⟩ := chk_some e; exact ⟨_, e, v45 h1⟩
  · obtain ⟨⟨h1, h2⟩, e⟩ := chk_some e; exact ⟨_, e, v63 h1 h2⟩
  · obtain ⟨⟨h1, h2⟩, e⟩ := chk_some e; exact ⟨_, e, v64 h1 h2⟩
  · obtain ⟨h1, e⟩ := chk_some e; exact ⟨_, e, v28 h1⟩
  · obtain ⟨⟨h1, h2⟩, e⟩ := chk_some e; exact ⟨_, e, v51 h1 h2⟩
  · obtain ⟨⟨h1, h2⟩, e⟩ := chk_some e; exact ⟨_, e, v69 h1 h2⟩
  · obtain ⟨⟨h1, h2⟩, e⟩ := chk_some e; exact ⟨_, e, v44 h1 h2⟩
  · obtain ⟨⟨h1, h2⟩, e⟩ := chk_some e; exact ⟨_, e, v46 h1 h2⟩
  · obtain ⟨⟨h1, h2⟩, e⟩ := chk_some e; exact ⟨_, e, v52 h1 h2⟩
  · obtain ⟨⟨h1, h2⟩, e⟩ := chk_some e; exact ⟨_, e, v70 h1 h2⟩
  · rename_i a b
    obtain ⟨⟨h1, h2⟩, e⟩ := chk_some e
    have := v53 h1 h2
    unfold quI at this
    cases hb : b == 0 <;> rw [hb] at e this <;> exact ⟨_, e, this⟩
  · rename_i a b
    obtain ⟨⟨h1, h2⟩, e⟩ := chk_some e
    have := v71 h1 h2
    unfold quI at this
    cases hb : b == 0 <;> rw [hb] at e this <;> exact ⟨_, e, this⟩
  · rename_i a b
    have := v54 (a := a) (b := b)
    unfold reI at this
    cases hb : b == 0 <;> rw [hb] at e this <;> exact ⟨_, e, this⟩
  · rename_i a b
    have := v72 (a := a) (b := b)
    unfold reI at this
    cases hb : b == 0 <;> rw [hb] at e this <;> exact ⟨_, e, this⟩
  · obtain ⟨h1, e⟩ := chk_some e; exact ⟨_, e, v19 h1⟩
  · obtain ⟨h1, e⟩ := chk_some e; exact ⟨_, e, v22 h1⟩
  · exact u0_le _ _ _ _ _ _ e
def fsS (f : FuncId) : Bool := fsZ f && !(f == 40 || f == 45 || f == 63 || f == 64 || f == 28 || f == 51 || f == 69 || f == 44 || f == 46 || f == 52 || f == 70 || f == 53 || f == 71 || f == 54 || f == 72 || f == 19 || f == 22)
noncomputable abbrev uT : CallK := inlK Tryz.prog polZ fsS uS 3
theorem uT_le : CallLeK uT dZ := inlK_le uS_le (fun f hf => fsZ_ext f (by unfold fsS at hf; cases h : fsZ f <;> simp_all)) 3
theorem u11 (loops : LoopK) (a : Int) : bodyL Tryz.prog polZ uT loops 4 [.int .i64 1, vl 1 a] [] .plain =
  (chk ((I64 (IntKind.i64.wrap a))) (cond ((bif decide (I64 (-IntKind.i64.wrap a)) then (0 : Int) else (80 : Int)) == (80 : Int)) (some (.ret (.tup [(.agg [(.int .i64 0), (.int .u64 0)]), (.int .i64 1)]) [] .plain)) (cond ((bif decide (I64 (-IntKind.i64.wrap a)) then (0 : Int) else (80 : Int)) == (81 : Int)) (some (.ret (.tup [(.agg [(.int .i64 0), (.int .u64 0)]), (.int .i64 2)]) [] .plain)) (cond ((bif decide (I64 (-IntKind.i64.wrap a)) then (0 : Int) else (80 : Int)) == (82 : Int)) (some (.ret (.tup [(.agg [(.int .i64 0), (.int .u64 0)]), (.int .i64 3)]) [] .plain)) (some (.ret (.tup [(.agg [(.int .i64 1), (.int .u64 (IntKind.u64.wrap (bif decide (I64 (-IntKind.i64.wrap a)) then -IntKind.i64.wrap a else (0 : Int))))]), (.int .i64 0)]) [] .plain)))))) := by kernel_rfl
theorem w11 (loops : LoopK) (a : Int) : bodyL Tryz.prog polZ uT loops 5 [.int .i64 1, vl 1 a] [] .plain =
  (chk ((I64 (IntKind.i64.wrap a))) (cond ((bif decide (I64 (-IntKind.i64.wrap a)) then (0 : Int) else (80 : Int)) != (0 : Int)) (cond ((bif decide (I64 (-IntKind.i64.wrap a)) then (0 : Int) else (80 : Int)) == (0 : Int)) (some (.ret (.tup [(.agg [(.int .i64 0), (.int .u64 0)]), (.int .i64 0)]) [] .plain)) (cond ((bif decide (I64 (-IntKind.i64.wrap a)) then (0 : Int) else (80 : Int)) == (80 : Int)) (some (.ret (.tup [(.agg [(.int .i64 0), (.int .u64 0)]), (.int .i64 1)]) [] .plain)) (cond ((bif decide (I64 (-IntKind.i64.wrap a)) then (0 : Int) else (80 : Int)) == (81 : Int)) (some (.ret (.tup [(.agg [(.int .i64 0), (.int .u64 0)]), (.int .i64 2)]) [] .plain)) (some (.ret (.tup [(.agg [(.int .i64 0), (.int .u64 0)]), (.int .i64 3)]) [] .plain))))) (some (.ret (.tup [(.agg [(.int .i64 1), (.int .u64 (IntKind.u64.wrap (bif decide (I64 (-IntKind.i64.wrap a)) then -IntKind.i64.wrap a else (0 : Int))))]), (.int .i64 0)]) [] .plain)))) := by kernel_rfl
theorem u12 (loops : LoopK) (a : Int) : bodyL Tryz.prog polZ uT loops 4 [.int .i64 1, vl 2 a] [] .plain =
  (cond (cond (false) (true) (!(cnI a == a))) (some (.ret (.tup [(.agg [(.int .i64 0), (.int .u64 0)]), (.int .i64 (-1))]) [] .plain)) (some (.ret (.tup [(.agg [(.int .i64 2), (.int .u64 (cnI (IntKind.u64.wrap (↑(BitVec.ofInt IntKind.u64.bits a ^^^ BitVec.ofInt IntKind.u64.bits (9223372036854775808 : Int)).toNat : Int))))]), (.int .i64 0)]) [] .plain))) := by kernel_rfl
theorem w12 (loops : LoopK) (a : Int) : bodyL Tryz.prog polZ uT loops 5 [.int .i64 1, vl 2 a] [] .plain =
  (chk ((U64 a)) (cond (cond (false) (true) (!(cnI a == a))) (some (.ret (.tup [(.agg [(.int .i64 0), (.int .u64 0)]), (.int .i64 (-1))]) [] .plain)) (chk ((U64 (IntKind.u64.wrap (↑(BitVec.ofInt IntKind.u64.bits a ^^^ BitVec.ofInt IntKind.u64.bits (9223372036854775808 : Int)).toNat : Int)))) (some (.ret (.tup [(.agg [(.int .i64 2), (.int .u64 (cnI (IntKind.u64.wrap (↑(BitVec.ofInt IntKind.u64.bits a ^^^ BitVec.ofInt IntKind.u64.bits (9223372036854775808 : Int)).toNat : Int))))]), (.int .i64 0)]) [] .plain))))) := by kernel_rfl
theorem u13 (loops : LoopK) (a : Int) : bodyL Tryz.prog polZ uT loops 4 [.int .i64 1, vl 3 a] [] .plain =
  (some (.ret (.tup [(.agg [(.int .i64 0), (.int .u64 0)]), (.int .i64 (-1))]) [] .plain)) := by kernel_rfl
theorem w13 (loops : LoopK) (a : Int) : bodyL Tryz.prog polZ uT loops 5 [.int .i64 1, vl 3 a] [] .plain =
  (some (.ret (.tup [(.agg [(.int .i64 0), (.int .u64 0)]), (.int .i64 (-1))]) [] .plain)) := by kernel_rfl
theorem u21 (loops : LoopK) (a : Int) : bodyL Tryz.prog polZ uT loops 4 [.int .i64 2, vl 1 a] [] .plain =
  (some (.ret (.tup [(.agg [(.int .i64 0), (.int .u64 0)]), (.int .i64 (-1))]) [] .plain)) := by kernel_rfl
theorem w21 (loops : LoopK) (a : Int) : bodyL Tryz.prog polZ uT loops 5 [.int .i64 2, vl 1 a] [] .plain =
  (some (.ret (.tup [(.agg [(.int .i64 0), (.int .u64 0)]), (.int .i64 (-1))]) [] .plain)) := by kernel_rfl
theorem u22 (loops : LoopK) (a : Int) : bodyL Tryz.prog polZ uT loops 4 [.int .i64 2, vl 2 a] [] .plain =
  (some (.ret (.tup [(.agg [(.int .i64 0), (.int .u64 0)]), (.int .i64 (-1))]) [] .plain)) := by kernel_rfl
theorem w22 (loops : LoopK) (a : Int) : bodyL Tryz.prog polZ uT loops 5 [.int .i64 2, vl 2 a] [] .plain =
  (some (.ret (.tup [(.agg [(.int .i64 0), (.int .u64 0)]), (.int .i64 (-1))]) [] .plain)) := by kernel_rfl
theorem u23 (loops : LoopK) (a : Int) : bodyL Tryz.prog polZ uT loops 4 [.int .i64 2, vl 3 a] [] .plain =
  (cond (cond (false) (true) (!(decide (a < (2 : Int))))) (some (.ret (.tup [(.agg [(.int .i64 0), (.int .u64 0)]), (.int .i64 (-1))]) [] .plain)) (cond (a == (0 : Int)) (some (.ret (.tup [(.agg [(.int .i64 3), (.int .u64 1)]), (.int .i64 0)]) [] .plain)) (some (.ret (.tup [(.agg [(.int .i64 3), (.int .u64 0)]), (.int .i64 0)]) [] .plain)))) := by kernel_rfl
theorem w23 (loops : LoopK) (a : Int) : bodyL Tryz.prog polZ uT loops 5 [.int .i64 2, vl 3 a] [] .plain =
  (cond (cond (false) (true) (!(decide (a ≤ (1 : Int))))) (some (.ret (.tup [(.agg [(.int .i64 0), (.int .u64 0)]), (.int .i64 (-1))]) [] .plain)) (cond (a == (0 : Int)) (some (.ret (.tup [(.agg [(.int .i64 3), (.int .u64 1)]), (.int .i64 0)]) [] .plain)) (some (.ret (.tup [(.agg [(.int .i64 3), (.int .u64 0)]), (.int .i64 0)]) [] .plain)))) := by kernel_rfl
theorem u31 (loops : LoopK) (a : Int) : bodyL Tryz.prog polZ uT loops 4 [.int .i64 3, vl 1 a] [] .plain =
  (some (.ret (.tup [(.agg [(.int .i64 0), (.int .u64 0)]), (.int .i64 (-1))]) [] .plain)) := by kernel_rfl
theorem w31 (loops : LoopK) (a : Int) : bodyL Tryz.prog polZ uT loops 5 [.int .i64 3, vl 1 a] [] .plain =
  (some (.ret (.tup [(.agg [(.int .i64 0), (.int .u64 0)]), (.int .i64 (-1))]) [] .plain)) := by kernel_rfl
theorem u32 (loops : LoopK) (a : Int) : bodyL Tryz.prog polZ uT loops 4 [.int .i64 3, vl 2 a] [] .plain =
  (cond (cond (false) (true) (!(cnI a == a))) (some (.ret (.tup [(.agg [(.int .i64 0), (.int .u64 0)]), (.int .i64 (-1))]) [] .plain)) (cond ((if (toI a).isSome = true then (0 : Int) else (82 : Int)) == (80 : Int)) (some (.ret (.tup [(.agg [(.int .i64 0), (.int .u64 0)]), (.int .i64 1)]) [] .plain)) (cond ((if (toI a).isSome = true then (0 : Int) else (82 : Int)) == (81 : Int)) (some (.ret (.tup [(.agg [(.int .i64 0), (.int .u64 0)]), (.int .i64 2)]) [] .plain)) (cond ((if (toI a).isSome = true then (0 : Int) else (82 : Int)) == (82 : Int)) (some (.ret (.tup [(.agg [(.int .i64 0), (.int .u64 0)]), (.int .i64 3)]) [] .plain)) (some (.ret (.tup [(.agg [(.int .i64 1), (.int .u64 (IntKind.u64.wrap ((toI a).getD (0 : Int))))]), (.int .i64 0)]) [] .plain)))))) := by kernel_rfl
theorem w32 (loops : LoopK) (a : Int) : bodyL Tryz.prog polZ uT loops 5 [.int .i64 3, vl 2 a] [] .plain =
  (chk ((U64 a)) (cond (cond (false) (true) (!(cnI a == a))) (some (.ret (.tup [(.agg [(.int .i64 0), (.int .u64 0)]), (.int .i64 (-1))]) [] .plain)) (chk ((U64 a)) (cond ((if (toI a).isSome = true then (0 : Int) else (82 : Int)) != (0 : Int)) (cond ((if (toI a).isSome = true then (0 : Int) else (82 : Int)) == (0 : Int)) (some (.ret (.tup [(.agg [(.int .i64 0), (.int .u64 0)]), (.int .i64 0)]) [] .plain)) (cond ((if (toI a).isSome = true then (0 : Int) else (82 : Int)) == (80 : Int)) (some (.ret (.tup [(.agg [(.int .i64 0), (.int .u64 0)]), (.int .i64 1)]) [] .plain)) (cond ((if (toI a).isSome = true then (0 : Int) else (82 : Int)) == (81 : Int)) (some (.ret (.tup [(.agg [(.int .i64 0), (.int .u64 0)]), (.int .i64 2)]) [] .plain)) (some (.ret (.tup [(.agg [(.int .i64 0), (.int .u64 0)]), (.int .i64 3)]) [] .plain))))) (some (.ret (.tup [(.agg [(.int .i64 1), (.int .u64 (IntKind.u64.wrap ((toI a).getD (0 : Int))))]), (.int .i64 0)]) [] .plain)))))) := by kernel_rfl
theorem u33 (loops : LoopK) (a : Int) : bodyL Tryz.prog polZ uT loops 4 [.int .i64 3, vl 3 a] [] .plain =
  (some (.ret (.tup [(.agg [(.int .i64 0), (.int .u64 0)]), (.int .i64 (-1))]) [] .plain)) := by kernel_rfl
theorem w33 (loops : LoopK) (a : Int) : bodyL Tryz.prog polZ uT loops 5 [.int .i64 3, vl 3 a] [] .plain =
  (some (.ret (.tup [(.agg [(.int .i64 0), (.int .u64 0)]), (.int .i64 (-1))]) [] .plain)) := by kernel_rfl
theorem u41 (loops : LoopK) (a : Int) : bodyL Tryz.prog polZ uT loops 4 [.int .i64 4, vl 1 a] [] .plain =
  (some (.ret (.tup [(.agg [(.int .i64 2), (.int .u64 (fromI (IntKind.i64.wrap a)))]), (.int .i64 0)]) [] .plain)) := by kernel_rfl
theorem w41 (loops : LoopK) (a : Int) : bodyL Tryz.prog polZ uT loops 5 [.int .i64 4, vl 1 a] [] .plain =
  (some (.ret (.tup [(.agg [(.int .i64 2), (.int .u64 (fromI (IntKind.i64.wrap a)))]), (.int .i64 0)]) [] .plain)) := by kernel_rfl
theorem u42 (loops : LoopK) (a : Int) : bodyL Tryz.prog polZ uT loops 4 [.int .i64 4, vl 2 a] [] .plain =
  (some (.ret (.tup [(.agg [(.int .i64 0), (.int .u64 0)]), (.int .i64 (-1))]) [] .plain)) := by kernel_rfl
theorem w42 (loops : LoopK) (a : Int) : bodyL Tryz.prog polZ uT loops 5 [.int .i64 4, vl 2 a] [] .plain =
  (some (.ret (.tup [(.agg [(.int .i64 0), (.int .u64 0)]), (.int .i64 (-1))]) [] .plain)) := by kernel_rfl
theorem u43 (loops : LoopK) (a : Int) : bodyL Tryz.prog polZ uT loops 4 [.int .i64 4, vl 3 a] [] .plain =
  (some (.ret (.tup [(.agg [(.int .i64 0), (.int .u64 0)]), (.int .i64 (-1))]) [] .plain)) := by kernel_rfl
theorem w43 (loops : LoopK) (a : Int) : bodyL Tryz.prog polZ uT loops 5 [.int .i64 4, vl 3 a] [] .plain =
  (some (.ret (.tup [(.agg [(.int .i64 0), (.int .u64 0)]), (.int .i64 (-1))]) [] .plain)) := by kernel_rfl
theorem e8 (loops : LoopK) (t : Int) : bodyL Tryz.prog polZ uT loops 8 [.int .i64 t] [] .plain =
  (cond (t == (0 : Int)) (some (.ret (.int .i64 0) [] .plain)) (cond (t == (1 : Int)) (some (.ret (.int .i64 80) [] .plain)) (cond (t == (2 : Int)) (some (.ret (.int .i64 81) [] .plain)) (cond (t == (3 : Int)) (some (.ret (.int .i64 82) [] .plain)) (some (.ret (.int .i64 22) [] .plain)))))) := by kernel_rfl
theorem e9 (loops : LoopK) (t : Int) : bodyL Tryz.prog polZ uT loops 9 [.int .i64 t] [] .plain =
  (cond (t == (0 : Int)) (some (.ret (.int .i64 0) [] .plain)) (cond (t == (1 : Int)) (some (.ret (.int .i64 80) [] .plain)) (cond (t == (2 : Int)) (some (.ret (.int .i64 81) [] .plain)) (cond (t == (3 : Int)) (some (.ret (.int .i64 82) [] .plain)) (some (.ret (.int .i64 22) [] .plain)))))) := by kernel_rfl
end Go.Proofs

/- FoldOperators: what is left of the operators of two, case by case. -/
namespace Go.Proofs
open Go Go.Den
set_option maxRecDepth 100000

theorem x1_1 (loops : LoopK) (a b : Int) : bodyL Tryz.prog polZ uT loops 6 [.int .i64 1, vl 1 a, vl 1 b] [] .plain =
  (chk ((I64 (IntKind.i64.wrap a)) ∧ (I64 (IntKind.i64.wrap b))) (cond ((bif decide (I64 (IntKind.i64.wrap a + IntKind.i64.wrap b)) then (0 : Int) else (80 : Int)) == (80 : Int)) (some (.ret (.tup [(.agg [(.int .i64 0), (.int .u64 0)]), (.int .i64 1)]) [] .plain)) (cond ((bif decide (I64 (IntKind.i64.wrap a + IntKind.i64.wrap b)) then (0 : Int) else (80 : Int)) == (81 : Int)) (some (.ret (.tup [(.agg [(.int .i64 0), (.int .u64 0)]), (.int .i64 2)]) [] .plain)) (cond ((bif decide (I64 (IntKind.i64.wrap a + IntKind.i64.wrap b)) then (0 : Int) else (80 : Int)) == (82 : Int)) (some (.ret (.tup [(.agg [(.int .i64 0), (.int .u64 0)]), (.int .i64 3)]) [] .plain)) (some (.ret (.tup [(.agg [(.int .i64 1), (.int .u64 (IntKind.u64.wrap (bif decide (I64 (IntKind.i64.wrap a + IntKind.i64.wrap b)) then IntKind.i64.wrap a + IntKind.i64.wrap b else (0 : Int))))]), (.int .i64 0)]) [] .plain)))))) := by kernel_rfl
theorem y1_1 (loops : LoopK) (a b : Int) : bodyL Tryz.prog polZ uT loops 7 [.int .i64 1, vl 1 a, vl 1 b] [] .plain =
  (chk ((I64 (IntKind.i64.wrap a)) ∧ (I64 (IntKind.i64.wrap b))) (cond ((bif decide (I64 (IntKind.i64.wrap a + IntKind.i64.wrap b)) then (0 : Int) else (80 : Int)) != (0 : Int)) (cond ((bif decide (I64 (IntKind.i64.wrap a + IntKind.i64.wrap b)) then (0 : Int) else (80 : Int)) == (0 : Int)) (some (.ret (.tup [(.agg [(.int .i64 0), (.int .u64 0)]), (.int .i64 0)]) [] .plain)) (cond ((bif decide (I64 (IntKind.i64.wrap a + IntKind.i64.wrap b)) then (0 : Int) else (80 : Int)) == (80 : Int)) (some (.ret (.tup [(.agg [(.int .i64 0), (.int .u64 0)]), (.int .i64 1)]) [] .plain)) (cond ((bif decide (I64 (IntKind.i64.wrap a + IntKind.i64.wrap b)) then (0 : Int) else (80 : Int)) == (81 : Int)) (some (.ret (.tup [(.agg [(.int .i64 0), (.int .u64 0)]), (.int .i64 2)]) [] .plain)) (some (.ret (.tup [(.agg [(.int .i64 0), (.int .u64 0)]), (.int .i64 3)]) [] .plain))))) (some (.ret (.tup [(.agg [(.int .i64 1), (.int .u64 (IntKind.u64.wrap (bif decide (I64 (IntKind.i64.wrap a + IntKind.i64.wrap b)) then IntKind.i64.wrap a + IntKind.i64.wrap b else (0 : Int))))]), (.int .i64 0)]) [] .plain)))) := by kernel_rfl
theorem x1_2 (loops : LoopK) (a b : Int) : bodyL Tryz.prog polZ uT loops 6 [.int .i64 1, vl 2 a, vl 2 b] [] .plain =
  (cond (((cond (false) (true) (!(cnI a == a))) == (false))) (cond (cond (false) (true) (!(cnI b == b))) (some (.ret (.tup [(.agg [(.int .i64 0), (.int .u64 0)]), (.int .i64 (-1))]) [] .plain)) (some (.ret (.tup [(.agg [(.int .i64 2), (.int .u64 (arI BinOp.add a b))]), (.int .i64 0)]) [] .plain))) (some (.ret (.tup [(.agg [(.int .i64 0), (.int .u64 0)]), (.int .i64 (-1))]) [] .plain))) := by kernel_rfl
theorem y1_2 (loops : LoopK) (a b : Int) : bodyL Tryz.prog polZ uT loops 7 [.int .i64 1, vl 2 a, vl 2 b] [] .plain =
  (chk ((U64 a)) (cond (((cond (false) (true) (!(cnI a == a))) == (false))) (chk ((U64 b)) (cond (cond (false) (true) (!(cnI b == b))) (some (.ret (.tup [(.agg [(.int .i64 0), (.int .u64 0)]), (.int .i64 (-1))]) [] .plain)) (some (.ret (.tup [(.agg [(.int .i64 2), (.int .u64 (arI BinOp.add a b))]), (.int .i64 0)]) [] .plain)))) (some (.ret (.tup [(.agg [(.int .i64 0), (.int .u64 0)]), (.int .i64 (-1))]) [] .plain)))) := by kernel_rfl
theorem x1_3 (loops : LoopK) (a b : Int) : bodyL Tryz.prog polZ uT loops 6 [.int .i64 1, vl 3 a, vl 3 b] [] .plain =
  (some (.ret (.tup [(.agg [(.int .i64 0), (.int .u64 0)]), (.int .i64 (-1))]) [] .plain)) := by kernel_rfl
theorem y1_3 (loops : LoopK) (a b : Int) : bodyL Tryz.prog polZ uT loops 7 [.int .i64 1, vl 3 a, vl 3 b] [] .plain =
  (some (.ret (.tup [(.agg [(.int .i64 0), (.int .u64 0)]), (.int .i64 (-1))]) [] .plain)) := by kernel_rfl
theorem x2_1 (loops : LoopK) (a b : Int) : bodyL Tryz.prog polZ uT loops 6 [.int .i64 2, vl 1 a, vl 1 b] [] .plain =
  (chk ((I64 (IntKind.i64.wrap a)) ∧ (I64 (IntKind.i64.wrap b))) (cond ((bif decide (I64 (IntKind.i64.wrap a - IntKind.i64.wrap b)) then (0 : Int) else (80 : Int)) == (80 : Int)) (some (.ret (.tup [(.agg [(.int .i64 0), (.int .u64 0)]), (.int .i64 1)]) [] .plain)) (cond ((bif decide (I64 (IntKind.i64.wrap a - IntKind.i64.wrap b)) then (0 : Int) else (80 : Int)) == (81 : Int)) (some (.ret (.tup [(.agg [(.int .i64 0), (.int .u64 0)]), (.int .i64 2)]) [] .plain)) (cond ((bif decide (I64 (IntKind.i64.wrap a - IntKind.i64.wrap b)) then (0 : Int) else (80 : Int)) == (82 : Int)) (some (.ret (.tup [(.agg [(.int .i64 0), (.int .u64 0)]), (.int .i64 3)]) [] .plain)) (some (.ret (.tup [(.agg [(.int .i64 1), (.int .u64 (IntKind.u64.wrap (bif decide (I64 (IntKind.i64.wrap a - IntKind.i64.wrap b)) then IntKind.i64.wrap a - IntKind.i64.wrap b else (0 : Int))))]), (.int .i64 0)]) [] .plain)))))) := by kernel_rfl
theorem y2_1 (loops : LoopK) (a b : Int) : bodyL Tryz.prog polZ uT loops 7 [.int .i64 2, vl 1 a, vl 1 b] [] .plain =
  (chk ((I64 (IntKind.i64.wrap a)) ∧ (I64 (IntKind.i64.wrap b))) (cond ((bif decide (I64 (IntKind.i64.wrap a - IntKind.i64.wrap b)) then (0 : Int) else (80 : Int)) != (0 : Int)) (cond ((bif decide (I64 (IntKind.i64.wrap a - IntKind.i64.wrap b)) then (0 : Int) else (80 : Int)) == (0 : Int)) (some (.ret (.tup [(.agg [(.int .i64 0), (.int .u64 0)]), (.int .i64 0)]) [] .plain)) (cond ((bif decide (I64 (IntKind.i64.wrap a - IntKind.i64.wrap b)) then (0 : Int) else (80 : Int)) == (80 : Int)) (some (.ret (.tup [(.agg [(.int .i64 0), (.int .u64 0)]), (.int .i64 1)]) [] .plain)) (cond ((bif decide (I64 (IntKind.i64.wrap a - IntKind.i64.wrap b)) then (0 : Int) else (80 : Int)) == (81 : Int)) (some (.ret (.tup [(.agg [(.int .i64 0), (.int .u64 0)]), (.int .i64 2)]) [] .plain)) (some (.ret (.tup [(.agg [(.int .i64 0), (.int .u64 0)]), (.int .i64 3)]) [] .plain))))) (some (.ret (.tup [(.agg [(.int .i64 1), (.int .u64 (IntKind.u64.wrap (bif decide (I64 (IntKind.i64.wrap a - IntKind.i64.wrap b)) then IntKind.i64.wrap a - IntKind.i64.wrap b else (0 : Int))))]), (.int .i64 0)]) [] .plain)))) := by kernel_rfl
theorem x2_2 (loops : LoopK) (a b : Int) : bodyL Tryz.prog polZ uT loops 6 [.int .i64 2, vl 2 a, vl 2 b] [] .plain =
  (cond (((cond (false) (true) (!(cnI a == a))) == (false))) (cond (cond (false) (true) (!(cnI b == b))) (some (.ret (.tup [(.agg [(.int .i64 0), (.int .u64 0)]), (.int .i64 (-1))]) [] .plain)) (some (.ret (.tup [(.agg [(.int .i64 2), (.int .u64 (arI BinOp.sub a b))]), (.int .i64 0)]) [] .plain))) (some (.ret (.tup [(.agg [(.int .i64 0), (.int .u64 0)]), (.int .i64 (-1))]) [] .plain))) := by kernel_rfl
theorem y2_2 (loops : LoopK) (a b : Int) : bodyL Tryz.prog polZ uT loops 7 [.int .i64 2, vl 2 a, vl 2 b] [] .plain =
  (chk ((U64 a)) (cond (((cond (false) (true) (!(cnI a == a))) == (false))) (chk ((U64 b)) (cond (cond (false) (true) (!(cnI b == b))) (some (.ret (.tup [(.agg [(.int .i64 0), (.int .u64 0)]), (.int .i64 (-1))]) [] .plain)) (some (.ret (.tup [(.agg [(.int .i64 2), (.int .u64 (arI BinOp.sub a b))]), (.int .i64 0)]) [] .plain)))) (some (.ret (.tup [(.agg [(.int .i64 0), (.int .u64 0)]), (.int .i64 (-1))]) [] .plain)))) := by kernel_rfl
theorem x2_3 (loops : LoopK) (a b : Int) : bodyL Tryz.prog polZ uT loops 6 [.int .i64 2, vl 3 a, vl 3 b] [] .plain =
  (some (.ret (.tup [(.agg [(.int .i64 0), (.int .u64 0)]), (.int .i64 (-1))]) [] .plain)) := by kernel_rfl
theorem y2_3 (loops : LoopK) (a b : Int) : bodyL Tryz.prog polZ uT loops 7 [.int .i64 2, vl 3 a, vl 3 b] [] .plain =
  (some (.ret (.tup [(.agg [(.int .i64 0), (.int .u64 0)]), (.int .i64 (-1))]) [] .plain)) := by kernel_rfl
theorem x3_1 (loops : LoopK) (a b : Int) : bodyL Tryz.prog polZ uT loops 6 [.int .i64 3, vl 1 a, vl 1 b] [] .plain =
  (chk ((I64 (IntKind.i64.wrap a)) ∧ (I64 (IntKind.i64.wrap b))) (cond ((bif decide (I64 (IntKind.i64.wrap a * IntKind.i64.wrap b)) then (0 : Int) else (80 : Int)) == (80 : Int)) (some (.ret (.tup [(.agg [(.int .i64 0), (.int .u64 0)]), (.int .i64 1)]) [] .plain)) (cond ((bif decide (I64 (IntKind.i64.wrap a * IntKind.i64.wrap b)) then (0 : Int) else (80 : Int)) == (81 : Int)) (some (.ret (.tup [(.agg [(.int .i64 0), (.int .u64 0)]), (.int .i64 2)]) [] .plain)) (cond ((bif decide (I64 (IntKind.i64.wrap a * IntKind.i64.wrap b)) then (0 : Int) else (80 : Int)) == (82 : Int)) (some (.ret (.tup [(.agg [(.int .i64 0), (.int .u64 0)]), (.int .i64 3)]) [] .plain)) (some (.ret (.tup [(.agg [(.int .i64 1), (.int .u64 (IntKind.u64.wrap (bif decide (I64 (IntKind.i64.wrap a * IntKind.i64.wrap b)) then IntKind.i64.wrap a * IntKind.i64.wrap b else (0 : Int))))]), (.int .i64 0)]) [] .plain)))))) := by kernel_rfl
theorem y3_1 (loops : LoopK) (a b : Int) : bodyL Tryz.prog polZ uT loops 7 [.int .i64 3, vl 1 a, vl 1 b] [] .plain =
  (chk ((I64 (IntKind.i64.wrap a)) ∧ (I64 (IntKind.i64.wrap b))) (cond ((bif decide (I64 (IntKind.i64.wrap a * IntKind.i64.wrap b)) then (0 : Int) else (80 : Int)) != (0 : Int)) (cond ((bif decide (I64 (IntKind.i64.wrap a * IntKind.i64.wrap b)) then (0 : Int) else (80 : Int)) == (0 : Int)) (some (.ret (.tup [(.agg [(.int .i64 0), (.int .u64 0)]), (.int .i64 0)]) [] .plain)) (cond ((bif decide (I64 (IntKind.i64.wrap a * IntKind.i64.wrap b)) then (0 : Int) else (80 : Int)) == (80 : Int)) (some (.ret (.tup [(.agg [(.int .i64 0), (.int .u64 0)]), (.int .i64 1)]) [] .plain)) (cond ((bif decide (I64 (IntKind.i64.wrap a * IntKind.i64.wrap b)) then (0 : Int) else (80 : Int)) == (81 : Int)) (some (.ret (.tup [(.agg [(.int .i64 0), (.int .u64 0)]), (.int .i64 2)]) [] .plain)) (some (.ret (.tup [(.agg [(.int .i64 0), (.int .u64 0)]), (.int .i64 3)]) [] .plain))))) (some (.ret (.tup [(.agg [(.int .i64 1), (.int .u64 (IntKind.u64.wrap (bif decide (I64 (IntKind.i64.wrap a * IntKind.i64.wrap b)) then IntKind.i64.wrap a * IntKind.i64.wrap b else (0 : Int))))]), (.int .i64 0)]) [] .plain)))) := by kernel_rfl
theorem x3_2 (loops : LoopK) (a b : Int) : bodyL Tryz.prog polZ uT loops 6 [.int .i64 3, vl 2 a, vl 2 b] [] .plain =
  (cond (((cond (false) (true) (!(cnI a == a))) == (false))) (cond (cond (false) (true) (!(cnI b == b))) (some (.ret (.tup [(.agg [(.int .i64 0), (.int .u64 0)]), (.int .i64 (-1))]) [] .plain)) (some (.ret (.tup [(.agg [(.int .i64 2), (.int .u64 (arI BinOp.mul a b))]), (.int .i64 0)]) [] .plain))) (some (.ret (.tup [(.agg [(.int .i64 0), (.int .u64 0)]), (.int .i64 (-1))]) [] .plain))) := by kernel_rfl
theorem y3_2 (loops : LoopK) (a b : Int) : bodyL Tryz.prog polZ uT loops 7 [.int .i64 3, vl 2 a, vl 2 b] [] .plain =
  (chk ((U64 a)) (cond (((cond (false) (true) (!(cnI a == a))) == (false))) (chk ((U64 b)) (cond (cond (false) (true) (!(cnI b == b))) (some (.ret (.tup [(.agg [(.int .i64 0), (.int .u64 0)]), (.int .i64 (-1))]) [] .plain)) (some (.ret (.tup [(.agg [(.int .i64 2), (.int .u64 (arI BinOp.mul a b))]), (.int .i64 0)]) [] .plain)))) (some (.ret (.tup [(.agg [(.int .i64 0), (.int .u64 0)]), (.int .i64 (-1))]) [] .plain)))) := by kernel_rfl
theorem x3_3 (loops : LoopK) (a b : Int) : bodyL Tryz.prog polZ uT loops 6 [.int .i64 3, vl 3 a, vl 3 b] [] .plain =
  (some (.ret (.tup [(.agg [(.int .i64 0), (.int .u64 0)]), (.int .i64 (-1))]) [] .plain)) := by kernel_rfl
theorem y3_3 (loops : LoopK) (a b : Int) : bodyL Tryz.prog polZ uT loops 7 [.int .i64 3, vl 3 a, vl 3 b] [] .plain =
  (some (.ret (.tup [(.agg [(.int .i64 0), (.int .u64 0)]), (.int .i64 (-1))]) [] .plain)) := by kernel_rfl
theorem x4_1 (loops : LoopK) (a b : Int) : bodyL Tryz.prog polZ uT loops 6 [.int .i64 4, vl 1 a, vl 1 b] [] .plain =
  (chk ((I64 (IntKind.i64.wrap a)) ∧ (I64 (IntKind.i64.wrap b))) (cond (IntKind.i64.wrap b == (0 : Int)) (some (.ret (.tup [(.agg [(.int .i64 0), (.int .u64 0)]), (.int .i64 2)]) [] .plain)) (cond ((bif decide (I64 ((IntKind.i64.wrap a).tdiv (IntKind.i64.wrap b))) then (0 : Int) else (80 : Int)) == (80 : Int)) (some (.ret (.tup [(.agg [(.int .i64 0), (.int .u64 0)]), (.int .i64 1)]) [] .plain)) (cond ((bif decide (I64 ((IntKind.i64.wrap a).tdiv (IntKind.i64.wrap b))) then (0 : Int) else (80 : Int)) == (81 : Int)) (some (.ret (.tup [(.agg [(.int .i64 0), (.int .u64 0)]), (.int .i64 2)]) [] .plain)) (cond ((bif decide (I64 ((IntKind.i64.wrap a).tdiv (IntKind.i64.wrap b))) then (0 : Int) else (80 : Int)) == (82 : Int)) (some (.ret (.tup [(.agg [(.int .i64 0), (.int .u64 0)]), (.int .i64 3)]) [] .plain)) (some (.ret (.tup [(.agg [(.int .i64 1), (.int .u64 (IntKind.u64.wrap (bif decide (I64 ((IntKind.i64.wrap a).tdiv (IntKind.i64.wrap b))) then (IntKind.i64.wrap a).tdiv (IntKind.i64.wrap b) else (0 : Int))))]), (.int .i64 0)]) [] .plain))))))) := by kernel_rfl
theorem y4_1 (loops : LoopK) (a b : Int) : bodyL Tryz.prog polZ uT loops 7 [.int .i64 4, vl 1 a, vl 1 b] [] .plain =
  (chk ((I64 (IntKind.i64.wrap a)) ∧ (I64 (IntKind.i64.wrap b))) (cond (IntKind.i64.wrap b == (0 : Int)) (some (.ret (.tup [(.agg [(.int .i64 0), (.int .u64 0)]), (.int .i64 2)]) [] .plain)) (cond ((bif decide (I64 ((IntKind.i64.wrap a).tdiv (IntKind.i64.wrap b))) then (0 : Int) else (80 : Int)) != (0 : Int)) (cond ((bif decide (I64 ((IntKind.i64.wrap a).tdiv (IntKind.i64.wrap b))) then (0 : Int) else (80 : Int)) == (0 : Int)) (some (.ret (.tup [(.agg [(.int .i64 0), (.int .u64 0)]), (.int .i64 0)]) [] .plain)) (cond ((bif decide (I64 ((IntKind.i64.wrap a).tdiv (IntKind.i64.wrap b))) then (0 : Int) else (80 : Int)) == (80 : Int)) (some (.ret (.tup [(.agg [(.int .i64 0), (.int .u64 0)]), (.int .i64 1)]) [] .plain)) (cond ((bif decide (I64 ((IntKind.i64.wrap a).tdiv (IntKind.i64.wrap b))) then (0 : Int) else (80 : Int)) == (81 : Int)) (some (.ret (.tup [(.agg [(.int .i64 0), (.int .u64 0)]), (.int .i64 2)]) [] .plain)) (some (.ret (.tup [(.agg [(.int .i64 0), (.int .u64 0)]), (.int .i64 3)]) [] .plain))))) (some (.ret (.tup [(.agg [(.int .i64 1), (.int .u64 (IntKind.u64.wrap (bif decide (I64 ((IntKind.i64.wrap a).tdiv (IntKind.i64.wrap b))) then (IntKind.i64.wrap a).tdiv (IntKind.i64.wrap b) else (0 : Int))))]), (.int .i64 0)]) [] .plain))))) := by kernel_rfl
theorem x4_2 (loops : LoopK) (a b : Int) : bodyL Tryz.prog polZ uT loops 6 [.int .i64 4, vl 2 a, vl 2 b] [] .plain =
  (cond (((cond (false) (true) (!(cnI a == a))) == (false))) (cond (cond (false) (true) (!(cnI b == b))) (some (.ret (.tup [(.agg [(.int .i64 0), (.int .u64 0)]), (.int .i64 (-1))]) [] .plain)) (some (.ret (.tup [(.agg [(.int .i64 2), (.int .u64 (arI BinOp.quo a b))]), (.int .i64 0)]) [] .plain))) (some (.ret (.tup [(.agg [(.int .i64 0), (.int .u64 0)]), (.int .i64 (-1))]) [] .plain))) := by kernel_rfl
theorem y4_2 (loops : LoopK) (a b : Int) : bodyL Tryz.prog polZ uT loops 7 [.int .i64 4, vl 2 a, vl 2 b] [] .plain =
  (chk ((U64 a)) (cond (((cond (false) (true) (!(cnI a == a))) == (false))) (chk ((U64 b)) (cond (cond (false) (true) (!(cnI b == b))) (some (.ret (.tup [(.agg [(.int .i64 0), (.int .u64 0)]), (.int .i64 (-1))]) [] .plain)) (some (.ret (.tup [(.agg [(.int .i64 2), (.int .u64 (arI BinOp.quo a b))]), (.int .i64 0)]) [] .plain)))) (some (.ret (.tup [(.agg [(.int .i64 0), (.int .u64 0)]), (.int .i64 (-1))]) [] .plain)))) := by kernel_rfl
theorem x4_3 (loops : LoopK) (a b : Int) : bodyL Tryz.prog polZ uT loops 6 [.int .i64 4, vl 3 a, vl 3 b] [] .plain =
  (some (.ret (.tup [(.agg [(.int .i64 0), (.int .u64 0)]), (.int .i64 (-1))]) [] .plain)) := by kernel_rfl
theorem y4_3 (loops : LoopK) (a b : Int) : bodyL Tryz.prog polZ uT loops 7 [.int .i64 4, vl 3 a, vl 3 b] [] .plain =
  (some (.ret (.tup [(.agg [(.int .i64 0), (.int .u64 0)]), (.int .i64 (-1))]) [] .plain)) := by kernel_rfl
theorem x5_1 (loops : LoopK) (a b : Int) : bodyL Tryz.prog polZ uT loops 6 [.int .i64 5, vl 1 a, vl 1 b] [] .plain =
  (cond (IntKind.i64.wrap b == (0 : Int)) (some (.ret (.tup [(.agg [(.int .i64 0), (.int .u64 0)]), (.int .i64 2)]) [] .plain)) (some (.ret (.tup [(.agg [(.int .i64 1), (.int .u64 (IntKind.u64.wrap ((IntKind.i64.wrap a).tmod (IntKind.i64.wrap b))))]), (.int .i64 0)]) [] .plain))) := by kernel_rfl
theorem y5_1 (loops : LoopK) (a b : Int) : bodyL Tryz.prog polZ uT loops 7 [.int .i64 5, vl 1 a, vl 1 b] [] .plain =
  (cond (IntKind.i64.wrap b == (0 : Int)) (some (.ret (.tup [(.agg [(.int .i64 0), (.int .u64 0)]), (.int .i64 2)]) [] .plain)) (some (.ret (.tup [(.agg [(.int .i64 1), (.int .u64 (IntKind.u64.wrap ((IntKind.i64.wrap a).tmod (IntKind.i64.wrap b))))]), (.int .i64 0)]) [] .plain))) := by kernel_rfl
theorem x5_2 (loops : LoopK) (a b : Int) : bodyL Tryz.prog polZ uT loops 6 [.int .i64 5, vl 2 a, vl 2 b] [] .plain =
  (some (.ret (.tup [(.agg [(.int .i64 0), (.int .u64 0)]), (.int .i64 (-1))]) [] .plain)) := by kernel_rfl
theorem y5_2 (loops : LoopK) (a b : Int) : bodyL Tryz.prog polZ uT loops 7 [.int .i64 5, vl 2 a, vl 2 b] [] .plain =
  (some (.ret (.tup [(.agg [(.int .i64 0), (.int .u64 0)]), (.int .i64 (-1))]) [] .plain)) := by kernel_rfl
theorem x5_3 (loops : LoopK) (a b : Int) : bodyL Tryz.prog polZ uT loops 6 [.int .i64 5, vl 3 a, vl 3 b] [] .plain =
  (some (.ret (.tup [(.agg [(.int .i64 0), (.int .u64 0)]), (.int .i64 (-1))]) [] .plain)) := by kernel_rfl
theorem y5_3 (loops : LoopK) (a b : Int) : bodyL Tryz.prog polZ uT loops 7 [.int .i64 5, vl 3 a, vl 3 b] [] .plain =
  (some (.ret (.tup [(.agg [(.int .i64 0), (.int .u64 0)]), (.int .i64 (-1))]) [] .plain)) := by kernel_rfl
theorem x6_1 (loops : LoopK) (a b : Int) : bodyL Tryz.prog polZ uT loops 6 [.int .i64 6, vl 1 a, vl 1 b] [] .plain =
  (cond (IntKind.i64.wrap a == IntKind.i64.wrap b) (some (.ret (.tup [(.agg [(.int .i64 3), (.int .u64 1)]), (.int .i64 0)]) [] .plain)) (some (.ret (.tup [(.agg [(.int .i64 3), (.int .u64 0)]), (.int .i64 0)]) [] .plain))) := by kernel_rfl
theorem y6_1 (loops : LoopK) (a b : Int) : bodyL Tryz.prog polZ uT loops 7 [.int .i64 6, vl 1 a, vl 1 b] [] .plain =
  (cond (a == b) (some (.ret (.tup [(.agg [(.int .i64 3), (.int .u64 1)]), (.int .i64 0)]) [] .plain)) (some (.ret (.tup [(.agg [(.int .i64 3), (.int .u64 0)]), (.int .i64 0)]) [] .plain))) := by kernel_rfl
theorem x6_2 (loops : LoopK) (a b : Int) : bodyL Tryz.prog polZ uT loops 6 [.int .i64 6, vl 2 a, vl 2 b] [] .plain =
  (cond (((cond (false) (true) (!(cnI a == a))) == (false))) (cond (cond (false) (true) (!(cnI b == b))) (some (.ret (.tup [(.agg [(.int .i64 0), (.int .u64 0)]), (.int .i64 (-1))]) [] .plain)) (cond (eqF a b) (some (.ret (.tup [(.agg [(.int .i64 3), (.int .u64 1)]), (.int .i64 0)]) [] .plain)) (some (.ret (.tup [(.agg [(.int .i64 3), (.int .u64 0)]), (.int .i64 0)]) [] .plain)))) (some (.ret (.tup [(.agg [(.int .i64 0), (.int .u64 0)]), (.int .i64 (-1))]) [] .plain))) := by kernel_rfl
theorem y6_2 (loops : LoopK) (a b : Int) : bodyL Tryz.prog polZ uT loops 7 [.int .i64 6, vl 2 a, vl 2 b] [] .plain =
  (chk ((U64 a)) (cond (((cond (false) (true) (!(cnI a == a))) == (false))) (chk ((U64 b)) (cond (cond (false) (true) (!(cnI b == b))) (some (.ret (.tup [(.agg [(.int .i64 0), (.int .u64 0)]), (.int .i64 (-1))]) [] .plain)) (chk ((U64 a) ∧ (U64 b)) (chk ((U64 a) ∧ (U64 b)) (chk ((U64 b) ∧ (U64 a)) (cond (eqF a b) (some (.ret (.tup [(.agg [(.int .i64 3), (.int .u64 1)]), (.int .i64 0)]) [] .plain)) (some (.ret (.tup [(.agg [(.int .i64 3), (.int .u64 0)]), (.int .i64 0)]) [] .plain)))))))) (some (.ret (.tup [(.agg [(.int .i64 0), (.int .u64 0)]), (.int .i64 (-1))]) [] .plain)))) := by kernel_rfl
theorem x6_3 (loops : LoopK) (a b : Int) : bodyL Tryz.prog polZ uT loops 6 [.int .i64 6, vl 3 a, vl 3 b] [] .plain =
  (cond (((cond (false) (true) (!(decide (a < (2 : Int))))) == (false))) (cond (cond (false) (true) (!(decide (b < (2 : Int))))) (some (.ret (.tup [(.agg [(.int .i64 0), (.int .u64 0)]), (.int .i64 (-1))]) [] .plain)) (cond (((a == (1 : Int)) == (b == (1 : Int)))) (some (.ret (.tup [(.agg [(.int .i64 3), (.int .u64 1)]), (.int .i64 0)]) [] .plain)) (some (.ret (.tup [(.agg [(.int .i64 3), (.int .u64 0)]), (.int .i64 0)]) [] .plain)))) (some (.ret (.tup [(.agg [(.int .i64 0), (.int .u64 0)]), (.int .i64 (-1))]) [] .plain))) := by kernel_rfl
theorem y6_3 (loops : LoopK) (a b : Int) : bodyL Tryz.prog polZ uT loops 7 [.int .i64 6, vl 3 a, vl 3 b] [] .plain =
  (cond (((cond (false) (true) (!(decide (a ≤ (1 : Int))))) == (false))) (cond (cond (false) (true) (!(decide (b ≤ (1 : Int))))) (some (.ret (.tup [(.agg [(.int .i64 0), (.int .u64 0)]), (.int .i64 (-1))]) [] .plain)) (cond (a == b) (some (.ret (.tup [(.agg [(.int .i64 3), (.int .u64 1)]), (.int .i64 0)]) [] .plain)) (some (.ret (.tup [(.agg [(.int .i64 3), (.int .u64 0)]), (.int .i64 0)]) [] .plain)))) (some (.ret (.tup [(.agg [(.int .i64 0), (.int .u64 0)]), (.int .i64 (-1))]) [] .plain))) := by kernel_rfl
theorem x7_1 (loops : LoopK) (a b : Int) : bodyL Tryz.prog polZ uT loops 6 [.int .i64 7, vl 1 a, vl 1 b] [] .plain =
  (cond (!(IntKind.i64.wrap a == IntKind.i64.wrap b)) (some (.ret (.tup [(.agg [(.int .i64 3), (.int .u64 1)]), (.int .i64 0)]) [] .plain)) (some (.ret (.tup [(.agg [(.int .i64 3), (.int .u64 0)]), (.int .i64 0)]) [] .plain))) := by kernel_rfl
theorem y7_1 (loops : LoopK) (a b : Int) : bodyL Tryz.prog polZ uT loops 7 [.int .i64 7, vl 1 a, vl 1 b] [] .plain =
  (cond (!(a == b)) (some (.ret (.tup [(.agg [(.int .i64 3), (.int .u64 1)]), (.int .i64 0)]) [] .plain)) (some (.ret (.tup [(.agg [(.int .i64 3), (.int .u64 0)]), (.int .i64 0)]) [] .plain))) := by kernel_rfl
theorem x7_2 (loops : LoopK) (a b : Int) : bodyL Tryz.prog polZ uT loops 6 [.int .i64 7, vl 2 a, vl 2 b] [] .plain =
  (cond (((cond (false) (true) (!(cnI a == a))) == (false))) (cond (cond (false) (true) (!(cnI b == b))) (some (.ret (.tup [(.agg [(.int .i64 0), (.int .u64 0)]), (.int .i64 (-1))]) [] .plain)) (cond (!(eqF a b)) (some (.ret (.tup [(.agg [(.int .i64 3), (.int .u64 1)]), (.int .i64 0)]) [] .plain)) (some (.ret (.tup [(.agg [(.int .i64 3), (.int .u64 0)]), (.int .i64 0)]) [] .plain)))) (some (.ret (.tup [(.agg [(.int .i64 0), (.int .u64 0)]), (.int .i64 (-1))]) [] .plain))) := by kernel_rfl
theorem y7_2 (loops : LoopK) (a b : Int) : bodyL Tryz.prog polZ uT loops 7 [.int .i64 7, vl 2 a, vl 2 b] [] .plain =
  (chk ((U64 a)) (cond (((cond (false) (true) (!(cnI a == a))) == (false))) (chk ((U64 b)) (cond (cond (false) (true) (!(cnI b == b))) (some (.ret (.tup [(.agg [(.int .i64 0), (.int .u64 0)]), (.int .i64 (-1))]) [] .plain)) (chk ((U64 a) ∧ (U64 b)) (chk ((U64 a) ∧ (U64 b)) (chk ((U64 b) ∧ (U64 a)) (cond (!(eqF a b)) (some (.ret (.tup [(.agg [(.int .i64 3), (.int .u64 1)]), (.int .i64 0)]) [] .plain)) (some (.ret (.tup [(.agg [(.int .i64 3), (.int .u64 0)]), (.int .i64 0)]) [] .plain)))))))) (some (.ret (.tup [(.agg [(.int .i64 0), (.int .u64 0)]), (.int .i64 (-1))]) [] .plain)))) := by kernel_rfl
theorem x7_3 (loops : LoopK) (a b : Int) : bodyL Tryz.prog polZ uT loops 6 [.int .i64 7, vl 3 a, vl 3 b] [] .plain =
  (cond (((cond (false) (true) (!(decide (a < (2 : Int))))) == (false))) (cond (cond (false) (true) (!(decide (b < (2 : Int))))) (some (.ret (.tup [(.agg [(.int .i64 0), (.int .u64 0)]), (.int .i64 (-1))]) [] .plain)) (cond (!(((a == (1 : Int)) == (b == (1 : Int))))) (some (.ret (.tup [(.agg [(.int .i64 3), (.int .u64 1)]), (.int .i64 0)]) [] .plain)) (some (.ret (.tup [(.agg [(.int .i64 3), (.int .u64 0)]), (.int .i64 0)]) [] .plain)))) (some (.ret (.tup [(.agg [(.int .i64 0), (.int .u64 0)]), (.int .i64 (-1))]) [] .plain))) := by kernel_rfl
theorem y7_3 (loops : LoopK) (a b : Int) : bodyL Tryz.prog polZ uT loops 7 [.int .i64 7, vl 3 a, vl 3 b] [] .plain =
  (cond (((cond (false) (true) (!(decide (a ≤ (1 : Int))))) == (false))) (cond (cond (false) (true) (!(decide (b ≤ (1 : Int))))) (some (.ret (.tup [(.agg [(.int .i64 0), (.int .u64 0)]), (.int .i64 (-1))]) [] .plain)) (cond (!(a == b)) (some (.ret (.tup [(.agg [(.int .i64 3), (.int .u64 1)]), (.int .i64 0)]) [] .plain)) (some (.ret (.tup [(.agg [(.int .i64 3), (.int .u64 0)]), (.int .i64 0)]) [] .plain)))) (some (.ret (.tup [(.agg [(.int .i64 0), (.int .u64 0)]), (.int .i64 (-1))]) [] .plain))) := by kernel_rfl
theorem x8_1 (loops : LoopK) (a b : Int) : bodyL Tryz.prog polZ uT loops 6 [.int .i64 8, vl 1 a, vl 1 b] [] .plain =
  (cond (decide (IntKind.i64.wrap a < IntKind.i64.wrap b)) (some (.ret (.tup [(.agg [(.int .i64 3), (.int .u64 1)]), (.int .i64 0)]) [] .plain)) (some (.ret (.tup [(.agg [(.int .i64 3), (.int .u64 0)]), (.int .i64 0)]) [] .plain))) := by kernel_rfl
theorem y8_1 (loops : LoopK) (a b : Int) : bodyL Tryz.prog polZ uT loops 7 [.int .i64 8, vl 1 a, vl 1 b] [] .plain =
  (cond (decide (IntKind.i64.wrap a < IntKind.i64.wrap b)) (some (.ret (.tup [(.agg [(.int .i64 3), (.int .u64 1)]), (.int .i64 0)]) [] .plain)) (some (.ret (.tup [(.agg [(.int .i64 3), (.int .u64 0)]), (.int .i64 0)]) [] .plain))) := by kernel_rfl
theorem x8_2 (loops : LoopK) (a b : Int) : bodyL Tryz.prog polZ uT loops 6 [.int .i64 8, vl 2 a, vl 2 b] [] .plain =
  (cond (((cond (false) (true) (!(cnI a == a))) == (false))) (cond (cond (false) (true) (!(cnI b == b))) (some (.ret (.tup [(.agg [(.int .i64 0), (.int .u64 0)]), (.int .i64 (-1))]) [] .plain)) (cond (ltF a b) (some (.ret (.tup [(.agg [(.int .i64 3), (.int .u64 1)]), (.int .i64 0)]) [] .plain)) (some (.ret (.tup [(.agg [(.int .i64 3), (.int .u64 0)]), (.int .i64 0)]) [] .plain)))) (some (.ret (.tup [(.agg [(.int .i64 0), (.int .u64 0)]), (.int .i64 (-1))]) [] .plain))) := by kernel_rfl
theorem y8_2 (loops : LoopK) (a b : Int) : bodyL Tryz.prog polZ uT loops 7 [.int .i64 8, vl 2 a, vl 2 b] [] .plain =
  (chk ((U64 a)) (cond (((cond (false) (true) (!(cnI a == a))) == (false))) (chk ((U64 b)) (cond (cond (false) (true) (!(cnI b == b))) (some (.ret (.tup [(.agg [(.int .i64 0), (.int .u64 0)]), (.int .i64 (-1))]) [] .plain)) (chk ((U64 a) ∧ (U64 b)) (chk ((U64 a) ∧ (U64 b)) (chk ((U64 b) ∧ (U64 a)) (cond (ltF a b) (some (.ret (.tup [(.agg [(.int .i64 3), (.int .u64 1)]), (.int .i64 0)]) [] .plain)) (some (.ret (.tup [(.agg [(.int .i64 3), (.int .u64 0)]), (.int .i64 0)]) [] .plain)))))))) (some (.ret (.tup [(.agg [(.int .i64 0), (.int .u64 0)]), (.int .i64 (-1))]) [] .plain)))) := by kernel_rfl
theorem x8_3 (loops : LoopK) (a b : Int) : bodyL Tryz.prog polZ uT loops 6 [.int .i64 8, vl 3 a, vl 3 b] [] .plain =
  (some (.ret (.tup [(.agg [(.int .i64 0), (.int .u64 0)]), (.int .i64 (-1))]) [] .plain)) := by kernel_rfl
theorem y8_3 (loops : LoopK) (a b : Int) : bodyL Tryz.prog polZ uT loops 7 [.int .i64 8, vl 3 a, vl 3 b] [] .plain =
  (some (.ret (.tup [(.agg [(.int .i64 0), (.int .u64 0)]), (.int .i64 (-1))]) [] .plain)) := by kernel_rfl
theorem x9_1 (loops : LoopK) (a b : Int) : bodyL Tryz.prog polZ uT loops 6 [.int .i64 9, vl 1 a, vl 1 b] [] .plain =
  (cond (cond (decide (IntKind.i64.wrap a < IntKind.i64.wrap b)) (true) (IntKind.i64.wrap a == IntKind.i64.wrap b)) (some (.ret (.tup [(.agg [(.int .i64 3), (.int .u64 1)]), (.int .i64 0)]) [] .plain)) (some (.ret (.tup [(.agg [(.int .i64 3), (.int .u64 0)]), (.int .i64 0)]) [] .plain))) := by kernel_rfl
theorem y9_1 (loops : LoopK) (a b : Int) : bodyL Tryz.prog polZ uT loops 7 [.int .i64 9, vl 1 a, vl 1 b] [] .plain =
  (cond (cond (decide (IntKind.i64.wrap a < IntKind.i64.wrap b)) (true) (a == b)) (some (.ret (.tup [(.agg [(.int .i64 3), (.int .u64 1)]), (.int .i64 0)]) [] .plain)) (some (.ret (.tup [(.agg [(.int .i64 3), (.int .u64 0)]), (.int .i64 0)]) [] .plain))) := by kernel_rfl
theorem x9_2 (loops : LoopK) (a b : Int) : bodyL Tryz.prog polZ uT loops 6 [.int .i64 9, vl 2 a, vl 2 b] [] .plain =
  (cond (((cond (false) (true) (!(cnI a == a))) == (false))) (cond (cond (false) (true) (!(cnI b == b))) (some (.ret (.tup [(.agg [(.int .i64 0), (.int .u64 0)]), (.int .i64 (-1))]) [] .plain)) (cond (cond (ltF a b) (true) (eqF a b)) (some (.ret (.tup [(.agg [(.int .i64 3), (.int .u64 1)]), (.int .i64 0)]) [] .plain)) (some (.ret (.tup [(.agg [(.int .i64 3), (.int .u64 0)]), (.int .i64 0)]) [] .plain)))) (some (.ret (.tup [(.agg [(.int .i64 0), (.int .u64 0)]), (.int .i64 (-1))]) [] .plain))) := by kernel_rfl
theorem y9_2 (loops : LoopK) (a b : Int) : bodyL Tryz.prog polZ uT loops 7 [.int .i64 9, vl 2 a, vl 2 b] [] .plain =
  (chk ((U64 a)) (cond (((cond (false) (true) (!(cnI a == a))) == (false))) (chk ((U64 b)) (cond (cond (false) (true) (!(cnI b == b))) (some (.ret (.tup [(.agg [(.int .i64 0), (.int .u64 0)]), (.int .i64 (-1))]) [] .plain)) (chk ((U64 a) ∧ (U64 b)) (chk ((U64 a) ∧ (U64 b)) (chk ((U64 b) ∧ (U64 a)) (cond (cond (ltF a b) (true) (eqF a b)) (some (.ret (.tup [(.agg [(.int .i64 3), (.int .u64 1)]), (.int .i64 0)]) [] .plain)) (some (.ret (.tup [(.agg [(.int .i64 3), (.int .u64 0)]), (.int .i64 0)]) [] .plain)))))))) (some (.ret (.tup [(.agg [(.int .i64 0), (.int .u64 0)]), (.int .i64 (-1))]) [] .plain)))) := by kernel_rfl
theorem x9_3 (loops : LoopK) (a b : Int) : bodyL Tryz.prog polZ uT loops 6 [.int .i64 9, vl 3 a, vl 3 b] [] .plain =
  (some (.ret (.tup [(.agg [(.int .i64 0), (.int .u64 0)]), (.int .i64 (-1))]) [] .plain)) := by kernel_rfl
theorem y9_3 (loops : LoopK) (a b : Int) : bodyL Tryz.prog polZ uT loops 7 [.int .i64 9, vl 3 a, vl 3 b] [] .plain =
  (some (.ret (.tup [(.agg [(.int .i64 0), (.int .u64 0)]), (.int .i64 (-1))]) [] .plain)) := by kernel_rfl
theorem x10_1 (loops : LoopK) (a b : Int) : bodyL Tryz.prog polZ uT loops 6 [.int .i64 10, vl 1 a, vl 1 b] [] .plain =
  (cond (decide (IntKind.i64.wrap a > IntKind.i64.wrap b)) (some (.ret (.tup [(.agg [(.int .i64 3), (.int .u64 1)]), (.int .i64 0)]) [] .plain)) (some (.ret (.tup [(.agg [(.int .i64 3), (.int .u64 0)]), (.int .i64 0)]) [] .plain))) := by kernel_rfl
theorem y10_1 (loops : LoopK) (a b : Int) : bodyL Tryz.prog polZ uT loops 7 [.int .i64 10, vl 1 a, vl 1 b] [] .plain =
  (cond (decide (IntKind.i64.wrap a > IntKind.i64.wrap b)) (some (.ret (.tup [(.agg [(.int .i64 3), (.int .u64 1)]), (.int .i64 0)]) [] .plain)) (some (.ret (.tup [(.agg [(.int .i64 3), (.int .u64 0)]), (.int .i64 0)]) [] .plain))) := by kernel_rfl
theorem x10_2 (loops : LoopK) (a b : Int) : bodyL Tryz.prog polZ uT loops 6 [.int .i64 10, vl 2 a, vl 2 b] [] .plain =
  (cond (((cond (false) (true) (!(cnI a == a))) == (false))) (cond (cond (false) (true) (!(cnI b == b))) (some (.ret (.tup [(.agg [(.int .i64 0), (.int .u64 0)]), (.int .i64 (-1))]) [] .plain)) (cond (ltF b a) (some (.ret (.tup [(.agg [(.int .i64 3), (.int .u64 1)]), (.int .i64 0)]) [] .plain)) (some (.ret (.tup [(.agg [(.int .i64 3), (.int .u64 0)]), (.int .i64 0)]) [] .plain)))) (some (.ret (.tup [(.agg [(.int .i64 0), (.int .u64 0)]), (.int .i64 (-1))]) [] .plain))) := by kernel_rfl
theorem y10_2 (loops : LoopK) (a b : Int) : bodyL Tryz.prog polZ uT loops 7 [.int .i64 10, vl 2 a, vl 2 b] [] .plain =
  (chk ((U64 a)) (cond (((cond (false) (true) (!(cnI a == a))) == (false))) (chk ((U64 b)) (cond (cond (false) (true) (!(cnI b == b))) (some (.ret (.tup [(.agg [(.int .i64 0), (.int .u64 0)]), (.int .i64 (-1))]) [] .plain)) (chk ((U64 a) ∧ (U64 b)) (chk ((U64 a) ∧ (U64 b)) (chk ((U64 b) ∧ (U64 a)) (cond (ltF b a) (some (.ret (.tup [(.agg [(.int .i64 3), (.int .u64 1)]), (.int .i64 0)]) [] .plain)) (some (.ret (.tup [(.agg [(.int .i64 3), (.int .u64 0)]), (.int .i64 0)]) [] .plain)))))))) (some (.ret (.tup [(.agg [(.int .i64 0), (.int .u64 0)]), (.int .i64 (-1))]) [] .plain)))) := by kernel_rfl
theorem x10_3 (loops : LoopK) (a b : Int) : bodyL Tryz.prog polZ uT loops 6 [.int .i64 10, vl 3 a, vl 3 b] [] .plain =
  (some (.ret (.tup [(.agg [(.int .i64 0), (.int .u64 0)]), (.int .i64 (-1))]) [] .plain)) := by kernel_rfl
theorem y10_3 (loops : LoopK) (a b : Int) : bodyL Tryz.prog polZ uT loops 7 [.int .i64 10, vl 3 a, vl 3 b] [] .plain =
  (some (.ret (.tup [(.agg [(.int .i64 0), (.int .u64 0)]), (.int .i64 (-1))]) [] .plain)) := by kernel_rfl
theorem x11_1 (loops : LoopK) (a b : Int) : bodyL Tryz.prog polZ uT loops 6 [.int .i64 11, vl 1 a, vl 1 b] [] .plain =
  (cond (cond (decide (IntKind.i64.wrap a > IntKind.i64.wrap b)) (true) (IntKind.i64.wrap a == IntKind.i64.wrap b)) (some (.ret (.tup [(.agg [(.int .i64 3), (.int .u64 1)]), (.int .i64 0)]) [] .plain)) (some (.ret (.tup [(.agg [(.int .i64 3), (.int .u64 0)]), (.int .i64 0)]) [] .plain))) := by kernel_rfl
theorem y11_1 (loops : LoopK) (a b : Int) : bodyL Tryz.prog polZ uT loops 7 [.int .i64 11, vl 1 a, vl 1 b] [] .plain =
  (cond (cond (decide (IntKind.i64.wrap a > IntKind.i64.wrap b)) (true) (a == b)) (some (.ret (.tup [(.agg [(.int .i64 3), (.int .u64 1)]), (.int .i64 0)]) [] .plain)) (some (.ret (.tup [(.agg [(.int .i64 3), (.int .u64 0)]), (.int .i64 0)]) [] .plain))) := by kernel_rfl
theorem x11_2 (loops : LoopK) (a b : Int) : bodyL Tryz.prog polZ uT loops 6 [.int .i64 11, vl 2 a, vl 2 b] [] .plain =
  (cond (((cond (false) (true) (!(cnI a == a))) == (false))) (cond (cond (false) (true) (!(cnI b == b))) (some (.ret (.tup [(.agg [(.int .i64 0), (.int .u64 0)]), (.int .i64 (-1))]) [] .plain)) (cond (cond (ltF b a) (true) (eqF a b)) (some (.ret (.tup [(.agg [(.int .i64 3), (.int .u64 1)]), (.int .i64 0)]) [] .plain)) (some (.ret (.tup [(.agg [(.int .i64 3), (.int .u64 0)]), (.int .i64 0)]) [] .plain)))) (some (.ret (.tup [(.agg [(.int .i64 0), (.int .u64 0)]), (.int .i64 (-1))]) [] .plain))) := by kernel_rfl
theorem y11_2 (loops : LoopK) (a b : Int) : bodyL Tryz.prog polZ uT loops 7 [.int .i64 11, vl 2 a, vl 2 b] [] .plain =
  (chk ((U64 a)) (cond (((cond (false) (true) (!(cnI a == a))) == (false))) (chk ((U64 b)) (cond (cond (false) (true) (!(cnI b == b))) (some (.ret (.tup [(.agg [(.int .i64 0), (.int .u64 0)]), (.int .i64 (-1))]) [] .plain)) (chk ((U64 a) ∧ (U64 b)) (chk ((U64 a) ∧ (U64 b)) (chk ((U64 b) ∧ (U64 a)) (cond (cond (ltF b a) (true) (eqF a b)) (some (.ret (.tup [(.agg [(.int .i64 3), (.int .u64 1)]), (.int .i64 0)]) [] .plain)) (some (.ret (.tup [(.agg [(.int .i64 3), (.int .u64 0)]), (.int .i64 0)]) [] .plain)))))))) (some (.ret (.tup [(.agg [(.int .i64 0), (.int .u64 0)]), (.int .i64 (-1))]) [] .plain)))) := by kernel_rfl
theorem x11_3 (loops : LoopK) (a b : Int) : bodyL Tryz.prog polZ uT loops 6 [.int .i64 11, vl 3 a, vl 3 b] [] .plain =
  (some (.ret (.tup [(.agg [(.int .i64 0), (.int .u64 0)]), (.int .i64 (-1))]) [] .plain)) := by kernel_rfl
theorem y11_3 (loops : LoopK) (a b : Int) : bodyL Tryz.prog polZ uT loops 7 [.int .i64 11, vl 3 a, vl 3 b] [] .plain =
  (some (.ret (.tup [(.agg [(.int .i64 0), (.int .u64 0)]), (.int .i64 (-1))]) [] .plain)) := by kernel_rfl
theorem x12_1 (loops : LoopK) (a b : Int) : bodyL Tryz.prog polZ uT loops 6 [.int .i64 12, vl 1 a, vl 1 b] [] .plain =
  (some (.ret (.tup [(.agg [(.int .i64 0), (.int .u64 0)]), (.int .i64 (-1))]) [] .plain)) := by kernel_rfl
theorem y12_1 (loops : LoopK) (a b : Int) : bodyL Tryz.prog polZ uT loops 7 [.int .i64 12, vl 1 a, vl 1 b] [] .plain =
  (some (.ret (.tup [(.agg [(.int .i64 0), (.int .u64 0)]), (.int .i64 (-1))]) [] .plain)) := by kernel_rfl
theorem x12_2 (loops : LoopK) (a b : Int) : bodyL Tryz.prog polZ uT loops 6 [.int .i64 12, vl 2 a, vl 2 b] [] .plain =
  (some (.ret (.tup [(.agg [(.int .i64 0), (.int .u64 0)]), (.int .i64 (-1))]) [] .plain)) := by kernel_rfl
theorem y12_2 (loops : LoopK) (a b : Int) : bodyL Tryz.prog polZ uT loops 7 [.int .i64 12, vl 2 a, vl 2 b] [] .plain =
  (some (.ret (.tup [(.agg [(.int .i64 0), (.int .u64 0)]), (.int .i64 (-1))]) [] .plain)) := by kernel_rfl
theorem x12_3 (loops : LoopK) (a b : Int) : bodyL Tryz.prog polZ uT loops 6 [.int .i64 12, vl 3 a, vl 3 b] [] .plain =
  (cond (((cond (false) (true) (!(decide (a < (2 : Int))))) == (false))) (cond (cond (false) (true) (!(decide (b < (2 : Int))))) (some (.ret (.tup [(.agg [(.int .i64 0), (.int .u64 0)]), (.int .i64 (-1))]) [] .plain)) (cond (cond (a == (1 : Int)) (b == (1 : Int)) (false)) (some (.ret (.tup [(.agg [(.int .i64 3), (.int .u64 1)]), (.int .i64 0)]) [] .plain)) (some (.ret (.tup [(.agg [(.int .i64 3), (.int .u64 0)]), (.int .i64 0)]) [] .plain)))) (some (.ret (.tup [(.agg [(.int .i64 0), (.int .u64 0)]), (.int .i64 (-1))]) [] .plain))) := by kernel_rfl
theorem y12_3 (loops : LoopK) (a b : Int) : bodyL Tryz.prog polZ uT loops 7 [.int .i64 12, vl 3 a, vl 3 b] [] .plain =
  (cond (((cond (false) (true) (!(decide (a ≤ (1 : Int))))) == (false))) (cond (cond (false) (true) (!(decide (b ≤ (1 : Int))))) (some (.ret (.tup [(.agg [(.int .i64 0), (.int .u64 0)]), (.int .i64 (-1))]) [] .plain)) (cond (cond (a == (1 : Int)) (b == (1 : Int)) (false)) (some (.ret (.tup [(.agg [(.int .i64 3), (.int .u64 1)]), (.int .i64 0)]) [] .plain)) (some (.ret (.tup [(.agg [(.int .i64 3), (.int .u64 0)]), (.int .i64 0)]) [] .plain)))) (some (.ret (.tup [(.agg [(.int .i64 0), (.int .u64 0)]), (.int .i64 (-1))]) [] .plain))) := by kernel_rfl
theorem x13_1 (loops : LoopK) (a b : Int) : bodyL Tryz.prog polZ uT loops 6 [.int .i64 13, vl 1 a, vl 1 b] [] .plain =
  (some (.ret (.tup [(.agg [(.int .i64 0), (.int .u64 0)]), (.int .i64 (-1))]) [] .plain)) := by kernel_rfl
theorem y13_1 (loops : LoopK) (a b : Int) : bodyL Tryz.prog polZ uT loops 7 [.int .i64 13, vl 1 a, vl 1 b] [] .plain =
  (some (.ret (.tup [(.agg [(.int .i64 0), (.int .u64 0)]), (.int .i64 (-1))]) [] .plain)) := by kernel_rfl
theorem x13_2 (loops : LoopK) (a b : Int) : bodyL Tryz.prog polZ uT loops 6 [.int .i64 13, vl 2 a, vl 2 b] [] .plain =
  (some (.ret (.tup [(.agg [(.int .i64 0), (.int .u64 0)]), (.int .i64 (-1))]) [] .plain)) := by kernel_rfl
theorem y13_2 (loops : LoopK) (a b : Int) : bodyL Tryz.prog polZ uT loops 7 [.int .i64 13, vl 2 a, vl 2 b] [] .plain =
  (some (.ret (.tup [(.agg [(.int .i64 0), (.int .u64 0)]), (.int .i64 (-1))]) [] .plain)) := by kernel_rfl
theorem x13_3 (loops : LoopK) (a b : Int) : bodyL Tryz.prog polZ uT loops 6 [.int .i64 13, vl 3 a, vl 3 b] [] .plain =
  (cond (((cond (false) (true) (!(decide (a < (2 : Int))))) == (false))) (cond (cond (false) (true) (!(decide (b < (2 : Int))))) (some (.ret (.tup [(.agg [(.int .i64 0), (.int .u64 0)]), (.int .i64 (-1))]) [] .plain)) (cond (cond (a == (1 : Int)) (true) (b == (1 : Int))) (some (.ret (.tup [(.agg [(.int .i64 3), (.int .u64 1)]), (.int .i64 0)]) [] .plain)) (some (.ret (.tup [(.agg [(.int .i64 3), (.int .u64 0)]), (.int .i64 0)]) [] .plain)))) (some (.ret (.tup [(.agg [(.int .i64 0), (.int .u64 0)]), (.int .i64 (-1))]) [] .plain))) := by kernel_rfl
theorem y13_3 (loops : LoopK) (a b : Int) : bodyL Tryz.prog polZ uT loops 7 [.int .i64 13, vl 3 a, vl 3 b] [] .plain =
  (cond (((cond (false) (true) (!(decide (a ≤ (1 : Int))))) == (false))) (cond (cond (false) (true) (!(decide (b ≤ (1 : Int))))) (some (.ret (.tup [(.agg [(.int .i64 0), (.int .u64 0)]), (.int .i64 (-1))]) [] .plain)) (cond (cond (a == (1 : Int)) (true) (b == (1 : Int))) (some (.ret (.tup [(.agg [(.int .i64 3), (.int .u64 1)]), (.int .i64 0)]) [] .plain)) (some (.ret (.tup [(.agg [(.int .i64 3), (.int .u64 0)]), (.int .i64 0)]) [] .plain)))) (some (.ret (.tup [(.agg [(.int .i64 0), (.int .u64 0)]), (.int .i64 (-1))]) [] .plain))) := by kernel_rfl
end Go.Proofs
