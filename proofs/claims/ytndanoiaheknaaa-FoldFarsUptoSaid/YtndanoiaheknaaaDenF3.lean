/- FoldFars: the law. -/
import Derived.Test.YtndanoiaheknaaaDenPiece
import Derived.Test.YtndanoiaheknaaaDenF2
set_option linter.unusedSimpArgs false
set_option linter.unusedVariables false
namespace Go.Proofs
open Go.Den
set_option maxRecDepth 100000
noncomputable def tF (l : List Ifc) : CallK := fun f args h ps K => match f with
  | 15 => chk (args = [ifL l] ∧ h = [] ∧ ps = .plain) (K (.ret (conL (far l)) [] .plain))
  | 16 => chk (args = [ifL l] ∧ h = [] ∧ ps = .plain) (K (.ret (conL (far l)) [] .plain))
  | 14 => chk (args = [conL (far l), conL (far l)] ∧ h = [] ∧ ps = .plain) (K (.ret (.bool true) [] .plain))
  | 9 => chk (args = [] ∧ h = [] ∧ ps = .plain) (K (.ret (.bool true) [] .plain))
  | _ => none

theorem b6 (loops : LoopK) (l : List Ifc) : bodyL Try.prog polF (tF l) loops 6 [ifL l] [] .plain =
  (chk (Eq (α := List AV) [(.sl 2 .no (l.length) (fun q2 => [(.str ((l.get q2).name)), (.sl 5 .no ((l.get q2).items.length) (fun q3 => [(.int .i64 (((l.get q2).items.get q3).k)), (.str (((l.get q2).items.get q3).name)), (.int .i64 (((l.get q2).items.get q3).t)), (.int .u64 (((l.get q2).items.get q3).b)), (.sl 1 .no (((l.get q2).items.get q3).pn) (((l.get q2).items.get q3).pf))]))]))] [(.sl 2 .no (l.length) (fun q2 => [(.str ((l.get q2).name)), (.sl 5 .no ((l.get q2).items.length) (fun q3 => [(.int .i64 (((l.get q2).items.get q3).k)), (.str (((l.get q2).items.get q3).name)), (.int .i64 (((l.get q2).items.get q3).t)), (.int .u64 (((l.get q2).items.get q3).b)), (.sl 1 .no (((l.get q2).items.get q3).pn) (((l.get q2).items.get q3).pf))]))]))] ∧ Eq (α := List Den.Obj) [] [] ∧ Eq (α := PS) .plain .plain) (chk (Eq (α := List AV) [(.sl 2 .no (l.length) (fun q3 => [(.str ((l.get q3).name)), (.sl 5 .no ((l.get q3).items.length) (fun q4 => [(.int .i64 (((l.get q3).items.get q4).k)), (.str (((l.get q3).items.get q4).name)), (.int .i64 (((l.get q3).items.get q4).t)), (.int .u64 (((l.get q3).items.get q4).b)), (.sl 1 .no (((l.get q3).items.get q4).pn) (((l.get q3).items.get q4).pf))]))]))] [(.sl 2 .no (l.length) (fun q3 => [(.str ((l.get q3).name)), (.sl 5 .no ((l.get q3).items.length) (fun q4 => [(.int .i64 (((l.get q3).items.get q4).k)), (.str (((l.get q3).items.get q4).name)), (.int .i64 (((l.get q3).items.get q4).t)), (.int .u64 (((l.get q3).items.get q4).b)), (.sl 1 .no (((l.get q3).items.get q4).pn) (((l.get q3).items.get q4).pf))]))]))] ∧ Eq (α := List Den.Obj) [] [] ∧ Eq (α := PS) .plain .plain) (chk (Eq (α := List AV) [(.sl 4 .no ((far l).length) (fun q4 => [(.str (((far l).get q4).mod)), (.str (((far l).get q4).name)), (.int .i64 (((far l).get q4).t)), (.int .u64 (((far l).get q4).b))])), (.sl 4 .no ((far l).length) (fun q4 => [(.str (((far l).get q4).mod)), (.str (((far l).get q4).name)), (.int .i64 (((far l).get q4).t)), (.int .u64 (((far l).get q4).b))]))] [(.sl 4 .no ((far l).length) (fun q4 => [(.str (((far l).get q4).mod)), (.str (((far l).get q4).name)), (.int .i64 (((far l).get q4).t)), (.int .u64 (((far l).get q4).b))])), (.sl 4 .no ((far l).length) (fun q4 => [(.str (((far l).get q4).mod)), (.str (((far l).get q4).name)), (.int .i64 (((far l).get q4).t)), (.int .u64 (((far l).get q4).b))]))] ∧ Eq (α := List Den.Obj) [] [] ∧ Eq (α := PS) .plain .plain) (chk (Eq (α := List AV) [] [] ∧ Eq (α := List Den.Obj) [] [] ∧ Eq (α := PS) .plain .plain) (some (.ret (.bool true) [] .plain)))))) := by kernel_rfl

theorem alive40F : den Try.prog polF ext0 40 9 [] [] .plain = some (.ret (.bool true) [] .plain) := by kernel_rfl
theorem tF_le (l : List Ifc) (hr : size l < 100000000) : CallLeK (tF l) dF := by
  intro f args h ps K out e
  unfold tF at e
  split at e
  · obtain ⟨⟨rfl, rfl, rfl⟩, e'⟩ := chk_some e; clear e
    exact ⟨_, e', far15 l hr⟩
  · obtain ⟨⟨rfl, rfl, rfl⟩, e'⟩ := chk_some e; clear e
    exact ⟨_, e', far16 l hr⟩
  · obtain ⟨⟨rfl, rfl, rfl⟩, e'⟩ := chk_some e; clear e
    refine ⟨_, e', like14 _ ?_⟩
    have := far_len (l := l)
    unfold size at hr
    omega
  · obtain ⟨⟨rfl, rfl, rfl⟩, e'⟩ := chk_some e; clear e
    exact ⟨_, e', denA_of alive40F⟩
  · cases e
theorem fars_true (l : List Ifc) (hr : size l < 100000000) : dF 6 [ifL l] [] .plain = some (.ret (.bool true) [] .plain) := by
  refine denA_of_loops 0 (tF_le l hr) rfl (by kernel_rfl) ?_
  rw [b6]
  rw [chk_pos ⟨rfl, rfl, rfl⟩, chk_pos ⟨rfl, rfl, rfl⟩, chk_pos ⟨rfl, rfl, rfl⟩, chk_pos ⟨rfl, rfl, rfl⟩]
end Go.Proofs
