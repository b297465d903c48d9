/- An expression gone through by fold.Eval; constants laid anew: what is left. -/
import Derived.Test.YtndanoiaheknaaaDenPiece
import Derived.Test.YtndanoiaheknaaaDenEb
set_option linter.unusedSimpArgs false
set_option linter.unusedVariables false
namespace Go.Proofs
open Go.Den
set_option maxRecDepth 100000

noncomputable def u12b (e : Ex) (l : List Con) : CallK := fun f args h ps K => match f with
  | 23 => chk (args = [agE e] ∧ h = [] ∧ ps = .plain) (K (.ret (.int .i64 (iF 23 [agE e])) [] .plain))
  | 25 => chk (iF 23 [agE e] = 0 ∧ args = [agE e, conL l] ∧ h = [] ∧ ps = .plain) (cond (wor (look l) e).isE (K (.pan (.ifc 61 (.int .i64 (wor (look l) e).er)) [] .plain)) (K (.ret (vl (wor (look l) e).ty (wor (look l) e).bi) [] .plain)))
  | _ => none
noncomputable abbrev u12 (e : Ex) (l : List Con) : CallK := inlK Try.prog polX (fun f => f == 24) (u12b e l) 1
theorem b12 (loops : LoopK) (e : Ex) (l : List Con) : bodyL Try.prog polX (u12 e l) loops 12 [agE e, conL l] [] .plain =
  (chk (Eq (α := List AV) [(.agg [(.int .i64 (e.kind)), (.int .i64 (e.op)), (.str (e.mod)), (.str (e.name)), (.int .i64 (e.vt)), (.int .u64 (e.vb)), (.sl 7 .no (e.kids.length) (fun q3 => [(.int .i64 ((e.kids.get q3).kind)), (.int .i64 ((e.kids.get q3).op)), (.str ((e.kids.get q3).mod)), (.str ((e.kids.get q3).name)), (.int .i64 ((e.kids.get q3).vt)), (.int .u64 ((e.kids.get q3).vb)), (.sl 7 .no ((e.kids.get q3).kids.length) (fun q4 => row ((e.kids.get q3).kids.get q4)))]))])] [(.agg [(.int .i64 (e.kind)), (.int .i64 (e.op)), (.str (e.mod)), (.str (e.name)), (.int .i64 (e.vt)), (.int .u64 (e.vb)), (.sl 7 .no (e.kids.length) (fun q3 => [(.int .i64 ((e.kids.get q3).kind)), (.int .i64 ((e.kids.get q3).op)), (.str ((e.kids.get q3).mod)), (.str ((e.kids.get q3).name)), (.int .i64 ((e.kids.get q3).vt)), (.int .u64 ((e.kids.get q3).vb)), (.sl 7 .no ((e.kids.get q3).kids.length) (fun q4 => row ((e.kids.get q3).kids.get q4)))]))])] ∧ Eq (α := List Den.Obj) [] [] ∧ Eq (α := PS) .plain .plain) (cond (iF (23 : FuncId) [agE e] != (0 : Int)) (some (.ret (.tup [(.agg [(.int .i64 0), (.int .u64 0)]), (.int .i64 (iF (23 : FuncId) [agE e]))]) [] .plain)) (chk (Eq (α := Int) (iF (23 : FuncId) [agE e]) 0 ∧ Eq (α := List AV) [(.agg [(.int .i64 (e.kind)), (.int .i64 (e.op)), (.str (e.mod)), (.str (e.name)), (.int .i64 (e.vt)), (.int .u64 (e.vb)), (.sl 7 .no (e.kids.length) (fun q4 => [(.int .i64 ((e.kids.get q4).kind)), (.int .i64 ((e.kids.get q4).op)), (.str ((e.kids.get q4).mod)), (.str ((e.kids.get q4).name)), (.int .i64 ((e.kids.get q4).vt)), (.int .u64 ((e.kids.get q4).vb)), (.sl 7 .no ((e.kids.get q4).kids.length) (fun q5 => row ((e.kids.get q4).kids.get q5)))]))]), (.sl 4 .no (l.length) (fun q4 => [(.str ((l.get q4).mod)), (.str ((l.get q4).name)), (.int .i64 ((l.get q4).t)), (.int .u64 ((l.get q4).b))]))] [(.agg [(.int .i64 (e.kind)), (.int .i64 (e.op)), (.str (e.mod)), (.str (e.name)), (.int .i64 (e.vt)), (.int .u64 (e.vb)), (.sl 7 .no (e.kids.length) (fun q4 => [(.int .i64 ((e.kids.get q4).kind)), (.int .i64 ((e.kids.get q4).op)), (.str ((e.kids.get q4).mod)), (.str ((e.kids.get q4).name)), (.int .i64 ((e.kids.get q4).vt)), (.int .u64 ((e.kids.get q4).vb)), (.sl 7 .no ((e.kids.get q4).kids.length) (fun q5 => row ((e.kids.get q4).kids.get q5)))]))]), (.sl 4 .no (l.length) (fun q4 => [(.str ((l.get q4).mod)), (.str ((l.get q4).name)), (.int .i64 ((l.get q4).t)), (.int .u64 ((l.get q4).b))]))] ∧ Eq (α := List Den.Obj) [] [] ∧ Eq (α := PS) .plain .plain) (cond ((wor (look l) e).isE) (some (.ret (.tup [(.agg [(.int .i64 0), (.int .u64 0)]), (.int .i64 ((wor (look l) e).er))]) [] .plain)) (some (.ret (.tup [(.agg [(.int .i64 ((wor (look l) e).ty)), (.int .u64 ((wor (look l) e).bi))]), (.int .i64 0)]) [] .plain)))))) := by kernel_rfl
def S10 (A L : AV) (i : Int) (m : Nat) : St := ⟨[L, .top, nilSl 4, A, .int .i64 i, .top, .top, .top, .top, .top, .top, .top, .top, .top, .top, .top, .top, .top, .top, .top, .top, .top, .top, .top, .top, .top, .top, .top, .top, .top, .top], ⟨[.tok m], [], .plain⟩⟩
def S10e (A L : AV) (i n : Int) (m : Nat) : St := ⟨[L, .top, nilSl 4, A, .int .i64 i, .top, .top, .top, .bool (decide (i < n)), .top, .top, .top, .top, .top, .top, .top, .top, .top, .top, .top, .top, .top, .top, .top, .top, .top, .top, .top, .top, .top, .top], ⟨[.tok m], [], .plain⟩⟩
theorem r10 (l o : List Con) (i : Nat) (k : Den.Exit → St → R) : codeL Try.prog polX noCall noLoops 10 (Code.part (bodyOf Try.prog 10) [1, 1, 0, 1, 0, 0]) (S10 (conG 0 o) (conL l) i o.length) k =
  (cond (decide ((↑i : Int) < (↑l.length : Int))) (dite ((0 : Int) ≤ (↑i : Int) ∧ (↑i : Int).toNat < l.length) (fun hb59 => (dite ((0 : Int) ≤ (↑i : Int) ∧ (↑i : Int).toNat < l.length) (fun hb58 => (dite ((0 : Int) ≤ (↑i : Int) ∧ (↑i : Int).toNat < l.length) (fun hb57 => (cond (((true) && (cond (decide (o.length + (1 : Nat) ≤ (70368744177664 : Nat))) ((fun _ => decide ((o.length + (1 : Nat)) * Try.prog.bytesOf (45 : Nat) ≤ (70368744177664 : Nat))) ()) (false)))) (cond (o.length == o.length) (k .normal (.mk [(.sl 4 .no (l.length) (fun q7 => [(.str ((l.get q7).mod)), (.str ((l.get q7).name)), (.int .i64 ((l.get q7).t)), (.int .u64 ((l.get q7).b))])), .top, (.sl 4 .tight 0 (fun i => i.elim0)), (.sl 4 (.id 0) (o.length + (1 : Nat)) (appRows (fun q7 => [(.str ((o.get q7).mod)), (.str ((o.get q7).name)), (.int .i64 ((o.get q7).t)), (.int .u64 ((o.get q7).b))]) (fun q7 => (List.map purify (rowIn [(.str []), (.str []), (.int .i64 0), (.int .u64 0)] ((↑q7 : Nat)) [(0, [(.str ((l.get ⟨(↑i : Int).toNat, hb59.right⟩).mod)), (.str ((l.get ⟨(↑i : Int).toNat, hb58.right⟩).name)), (.int .i64 ((l.get ⟨(↑i : Int).toNat, hb57.right⟩).t)), (.int .u64 ((l.get ⟨(↑i : Int).toNat, hb57.right⟩).b))])]))))), (.int .i64 (IntKind.i64.wrap ((↑i : Int) + (1 : Int)))), .top, .top, .top, .top, .top, .top, .top, .top, .top, .top, .top, .top, .top, .top, .top, .top, .top, .top, .top, .top, .top, .top, .top, .top, .top, .top] (.mk [(.tok (o.length + (1 : Nat))), .unborn] [] .plain))) none) none)) (fun hb57 => none))) (fun hb58 => none))) (fun hb59 => none)) (k (.exit 0) (.mk [(.sl 4 .no (l.length) (fun q4 => [(.str ((l.get q4).mod)), (.str ((l.get q4).name)), (.int .i64 ((l.get q4).t)), (.int .u64 ((l.get q4).b))])), .top, (.sl 4 .tight 0 (fun i => i.elim0)), (.sl 4 (.id 0) (o.length) (fun q4 => [(.str ((o.get q4).mod)), (.str ((o.get q4).name)), (.int .i64 ((o.get q4).t)), (.int .u64 ((o.get q4).b))])), (.int .i64 ((↑i : Int))), .top, .top, .top, (.bool (decide ((↑i : Int) < (↑l.length : Int)))), .top, .top, .top, .top, .top, .top, .top, .top, .top, .top, .top, .top, .top, .top, .top, .top, .top, .top, .top, .top, .top, .top] (.mk [(.tok (o.length))] [] .plain)))) := by kernel_rfl
theorem b10 (loops : LoopK) (l : List Con) : bodyL Try.prog polX noCall loops 10 [conL l] [] .plain =
  (loops 3 (.mk [(.sl 4 .no (l.length) (fun q2 => [(.str ((l.get q2).mod)), (.str ((l.get q2).name)), (.int .i64 ((l.get q2).t)), (.int .u64 ((l.get q2).b))])), .top, (.sl 4 .tight 0 (fun i => i.elim0)), (.sl 4 .tight 0 (fun i => i.elim0)), (.int .i64 0), .top, .top, .top, .top, .top, .top, .top, .top, .top, .top, .top, .top, .top, .top, .top, .top, .top, .top, .top, .top, .top, .top, .top, .top, .top, .top] (.mk [] [] .plain)) (kBody Try.prog polX noCall loops 10 [1, 1, 0, 1, 0] 0 .plain)) := by kernel_rfl
theorem e10 (loops : LoopK) (l : List Con) : (kBody Try.prog polX noCall loops 10 [1, 1, 0, 1, 0] 0 .plain) (.exit 0) (S10e (conG 0 l) (conL l) l.length l.length l.length) =
  (some (.ret (.sl 4 .no (l.length) (fun q2 => [(.str ((l.get q2).mod)), (.str ((l.get q2).name)), (.int .i64 ((l.get q2).t)), (.int .u64 ((l.get q2).b))])) [] .plain)) := by kernel_rfl
end Go.Proofs

/- fold.Eval; constants laid anew. -/
namespace Go.Proofs
open Go.Den
set_option maxRecDepth 100000
theorem u12b_le {e : Ex} {l : List Con} (hs : Small e) (hl : l.length < 1000000000) : CallLeK (u12b e l) dX := by
  intro f args h' ps kk o x
  have h23 := f23_tot e hs
  have v23 : dX 23 [agE e] [] .plain = some (.ret (.int .i64 (iF 23 [agE e])) [] .plain) := iF_eq (h23.mono fun o ⟨n, hn, _⟩ => ⟨n, hn⟩)
  unfold u12b at x
  split at x
  · obtain ⟨⟨rfl, rfl, rfl⟩, x'⟩ := chk_some x
    exact ⟨_, x', v23⟩
  · obtain ⟨⟨h0, rfl, rfl, rfl⟩, x'⟩ := chk_some x
    have hg : Good e := by
      obtain ⟨o, h1, n, rfl, h2⟩ := h23
      rw [v23] at h1
      injection h1 with h1
      injection h1 with h1
      injection h1 with _ h1
      exact h2 (by rw [← h1]; exact h0)
    have := v25 l hl e hg
    cases hw : wor (look l) e with
    | err n => rw [hw] at this x'; exact ⟨_, x', this⟩
    | val t b => rw [hw] at this x'; exact ⟨_, x', this⟩
  · cases x
def tripA (v : Int × Int × Int) : AV := .tup [vl v.1 v.2.1, .int .i64 v.2.2]
/-- what an expression comes to: a value, an error -/
noncomputable def evl (lk : Ex → Option (Int × Int)) (e : Ex) : Int × Int × Int := cond (iF 23 [agE e] != 0) (0, 0, iF 23 [agE e]) (match wor lk e with
  | .err n => (0, 0, n)
  | .val t b => (t, b, 0))
theorem v12 (e : Ex) (l : List Con) (hs : Small e) (hl : l.length < 1000000000) : dX 12 [agE e, conL l] [] .plain = some (.ret (tripA (evl (look l) e)) [] .plain) := by
  refine Tot.of_eq (denA_tot 0 (inlK_le (u12b_le hs hl) (fun f hf => by have hf : (f == 24) = true := hf; simp only [beq_iff_eq] at hf; subst hf; rfl) 1) rfl (by kernel_rfl) ?_)
  show Tot (bodyL Try.prog polX (u12 e l) _ _ _ _ _) _
  rw [b12]
  unfold evl
  refine Tot.chk ⟨rfl, rfl, rfl⟩ (Tot.cond (fun hc => ?_) fun hc => ?_)
  · rw [hc]; exact Tot.some rfl
  · rw [hc, cond_false]
    refine Tot.chk ⟨by simpa using hc, rfl, rfl, rfl⟩ ?_
    cases wor (look l) e with
    | err n => exact Tot.some rfl
    | val t b => exact Tot.some rfl
theorem sl_ext {z : Nat} {t : Tok} {n m : Nat} {f : Fin n → List AV} {g : Fin m → List AV} (h : n = m) (hf : ∀ i (h1 : i < n) (h2 : i < m), f ⟨i, h1⟩ = g ⟨i, h2⟩) : AV.sl z t n f = AV.sl z t m g := by
  subst h
  congr 1
  funext i
  exact hf i.1 i.2 i.2
theorem sl_app {α : Type} (row : α → List AV) {z : Nat} {t : Tok} (o : List α) (x : α) {g : Fin 1 → List AV} (hg : g 0 = row x) :
    AV.sl z t (o.length + 1) (appRows (fun q => row (o.get q)) g) = AV.sl z t (o ++ [x]).length fun q => row ((o ++ [x]).get q) := by
  refine sl_ext (by simp) fun i h1 h2 => ?_
  unfold appRows
  by_cases hi : i < o.length
  · rw [dif_pos hi]; simp [List.getElem_append_left hi]
  · have : i = o.length := by omega
    subst this
    rw [dif_neg (by simp)]
    have : (⟨o.length - o.length, by omega⟩ : Fin 1) = 0 := by apply Fin.ext; simp
    simp only [this, hg]
    simp
theorem bytes45 : Try.prog.bytesOf 45 = 48 := by kernel_rfl
theorem conG_nil (i : Nat) : conG i [] = .sl 4 (.id i) 0 fun i => i.elim0 := sl_ext rfl fun i h1 => absurd h1 (by simp)
theorem take_snoc {α : Type} {l : List α} {i : Nat} (h : i < l.length) : l.take (i + 1) = l.take i ++ [l.get ⟨i, h⟩] := by
  rw [List.take_add_one]
  simp [List.getElem?_eq_getElem h]
theorem lp10 (l : List Con) (hl : l.length < 1000000000) {out : Out} {k : Den.Exit → St → R} (hk : k (.exit 0) (S10e (conG 0 l) (conL l) l.length l.length l.length) = some out) :
    codeD Try.prog polX (bindK dX) (l.length + 1) 10 (.loop (Code.part (bodyOf Try.prog 10) [1, 1, 0, 1, 0, 0])) ⟨(S10 (nilSl 4) (conL l) 0 0).T, ⟨[], [], .plain⟩⟩ k = some out := by
  refine loop_rounds noCall_le (keep := false) rfl (inner := noLoops) no_loops (fun i => S10 (conG 0 (l.take i)) (conL l) i (l.take i).length) l.length (by omega) ?_ (H := 1) rfl ?_ ?_
  · rw [List.take_zero, conG_nil]
    show _ = _
    kernel_rfl
  · intro i hi K hK
    have hlen : (l.take i).length = i := by simp; omega
    rw [r10]
    have h1 : decide ((i : Int) < l.length) = true := by simpa using hi
    have h2 : (0 : Int) ≤ i ∧ (i : Int).toNat < l.length := by omega
    have h3 : decide ((l.take i).length + 1 ≤ 70368744177664) = true := by simp only [hlen]; simp; omega
    have h4 : decide (((l.take i).length + 1) * Try.prog.bytesOf 45 ≤ 70368744177664) = true := by rw [bytes45, hlen]; simp; omega
    rw [h1, cond_true, dif_pos h2, dif_pos h2, dif_pos h2]
    simp only [h3, h4, cond_true, Bool.and_self, beq_self_eq_true]
    apply hK
    rw [wrap_succ (by omega)]
    have hsl := sl_app conR (z := 4) (t := .id 0) (l.take i) (l.get ⟨i, hi⟩)
      (g := fun q => List.map purify (rowIn [.str [], .str [], .int .i64 0, .int .u64 0] q.1 [(0, [.str (l.get ⟨i, hi⟩).mod, .str (l.get ⟨i, hi⟩).name, .int .i64 (l.get ⟨i, hi⟩).t, .int .u64 (l.get ⟨i, hi⟩).b])])) rfl
    simp only [conR] at hsl
    simp only [Int.toNat_natCast]
    rw [hsl, ← take_snoc hi]
    have : (l.take i).length + 1 = (l.take (i + 1)).length := by simp; omega
    rw [this]
    show _ = _
    kernel_rfl
  · intro K hK
    rw [r10, List.take_length]
    have h1 : decide ((l.length : Int) < l.length) = false := by simp
    unfold S10e at hk
    rw [h1] at hk ⊢
    rw [cond_false, hK _ _ (by simp)]
    exact hk
theorem v10 (l : List Con) (hl : l.length < 1000000000) : dX 10 [conL l] [] .plain = some (.ret (conL l) [] .plain) := by
  refine denA_of_loops (l.length + 1) noCall_le rfl (by kernel_rfl) ?_
  rw [b10]
  unfold lpR
  rw [show lkC (loopsOf (bodyOf Try.prog 10)) 3 = Code.part (bodyOf Try.prog 10) [1, 1, 0, 1, 0, 0] from by kernel_rfl]
  exact lp10 l hl (e10 _ l)
end Go.Proofs

/- FoldExtra: what is left. -/
namespace Go.Proofs
open Go.Den
set_option maxRecDepth 100000

noncomputable def uExt (e : Ex) (l all : List Con) : CallK := fun f args h ps K => match f with
  | 10 => chk (args = [conL l] ∧ h = [] ∧ ps = .plain) (K (.ret (conL l) [] .plain))
  | 12 => match args with
    | [a, b] => pickX (fun x => (x = l ∨ x = all) ∧ a = agE e ∧ b = conL x ∧ h = [] ∧ ps = .plain) fun x => K (.ret (tripA (evl (look x) e)) [] .plain)
    | _ => none
  | 9 => chk (args = [] ∧ h = [] ∧ ps = .plain) (K (.ret (.bool true) [] .plain))
  | _ => none
def S5 (A : AV) (M : AV) (e : Ex) (t b c i : Int) (m : Nat) : St := ⟨[.top, .top, M, .ptr 0 0 0 0, .top, .top, .bool false, .top, .ptr 1 0 0 0, .int .i64 c, A, .int .i64 i, .top, .top, .top, .top, .top, .top, .top, .top, .top, .top, .top, .top, .top, .top, .top, .top, .top, .top, .top, .top, .top, .top, .top, .top, .top, .top, .top, .top, .top, .top, .top, .top, .top, .top, .top, .top, .top, .top, .top, .top, .top, .top, .top, .top, .top, .top, .top, .top, .top, .top, .top, .top, .top, .top, .top, .top], ⟨[.var (eC e), .var [.int .i64 t, .int .u64 b], .tok m], [], .plain⟩⟩
def S5e (A : AV) (M : AV) (e : Ex) (t b c i n : Int) (m : Nat) : St := ⟨[.top, .top, M, .ptr 0 0 0 0, .top, .top, .bool false, .top, .ptr 1 0 0 0, .int .i64 c, A, .int .i64 i, .top, .top, .top, .top, .top, .top, .top, .top, .top, .top, .top, .top, .top, .top, .top, .top, .bool (decide (i < n)), .top, .top, .top, .top, .top, .top, .top, .top, .top, .top, .top, .top, .top, .top, .top, .top, .top, .top, .top, .top, .top, .top, .top, .top, .top, .top, .top, .top, .top, .top, .top, .top, .top, .top, .top, .top, .top, .top, .top], ⟨[.var (eC e), .var [.int .i64 t, .int .u64 b], .tok m], [], .plain⟩⟩
theorem r5 (e : Ex) (o more : List Con) (t b c : Int) (i : Nat) (k : Den.Exit → St → R) : codeL Try.prog polX noCall noLoops 5 (Code.part (bodyOf Try.prog 5) [1, 1, 1, 1, 0, 1, 0, 0]) (S5 (conG 2 o) (conL more) e t b c i o.length) k =
  (cond (decide ((↑i : Int) < (↑more.length : Int))) (dite ((0 : Int) ≤ (↑i : Int) ∧ (↑i : Int).toNat < more.length) (fun hb59 => (cond (decide ([(57 : UInt8)].length + (more.get ⟨(↑i : Int).toNat, hb59.right⟩).mod.length < (1099511627776 : Nat))) (dite ((0 : Int) ≤ (↑i : Int) ∧ (↑i : Int).toNat < more.length) (fun hb57 => (dite ((0 : Int) ≤ (↑i : Int) ∧ (↑i : Int).toNat < more.length) (fun hb56 => (cond (((true) && (cond (decide (o.length + (1 : Nat) ≤ (70368744177664 : Nat))) ((fun _ => decide ((o.length + (1 : Nat)) * Try.prog.bytesOf (45 : Nat) ≤ (70368744177664 : Nat))) ()) (false)))) (cond (o.length == o.length) (k .normal (.mk [.top, .top, (.sl 4 .no (more.length) (fun q11 => [(.str ((more.get q11).mod)), (.str ((more.get q11).name)), (.int .i64 ((more.get q11).t)), (.int .u64 ((more.get q11).b))])), (.ptr 0 0 0 0), .top, .top, (.bool false), .top, (.ptr 1 0 0 0), (.int .i64 c), (.sl 4 (.id 2) (o.length + (1 : Nat)) (appRows (fun q11 => [(.str ((o.get q11).mod)), (.str ((o.get q11).name)), (.int .i64 ((o.get q11).t)), (.int .u64 ((o.get q11).b))]) (fun q11 => (List.map purify (rowIn [(.str []), (.str []), (.int .i64 0), (.int .u64 0)] ((↑q11 : Nat)) [(0, [(.str ([57] ++ (more.get ⟨(↑i : Int).toNat, hb59.right⟩).mod)), (.str ((more.get ⟨(↑i : Int).toNat, hb57.right⟩).name)), (.int .i64 ((more.get ⟨(↑i : Int).toNat, hb56.right⟩).t)), (.int .u64 ((more.get ⟨(↑i : Int).toNat, hb56.right⟩).b))])]))))), (.int .i64 (IntKind.i64.wrap ((↑i : Int) + (1 : Int)))), .top, .top, .top, .top, .top, .top, .top, .top, .top, .top, .top, .top, .top, .top, .top, .top, .top, .top, .top, .top, .top, .top, .top, .top, .top, .top, .top, .top, .top, .top, .top, .top, .top, .top, .top, .top, .top, .top, .top, .top, .top, .top, .top, .top, .top, .top, .top, .top, .top, .top, .top, .top, .top, .top, .top, .top] (.mk [(.var [(.int .i64 (e.kind)), (.int .i64 (e.op)), (.str (e.mod)), (.str (e.name)), (.int .i64 (e.vt)), (.int .u64 (e.vb)), (.sl 7 .no (e.kids.length) (fun q11 => [(.int .i64 ((e.kids.get q11).kind)), (.int .i64 ((e.kids.get q11).op)), (.str ((e.kids.get q11).mod)), (.str ((e.kids.get q11).name)), (.int .i64 ((e.kids.get q11).vt)), (.int .u64 ((e.kids.get q11).vb)), (.sl 7 .no ((e.kids.get q11).kids.length) (fun q12 => row ((e.kids.get q11).kids.get q12)))]))]), (.var [(.int .i64 t), (.int .u64 b)]), (.tok (o.length + (1 : Nat))), .unborn] [] .plain))) none) none)) (fun hb56 => none))) (fun hb57 => none)) none)) (fun hb59 => none)) (k (.exit 0) (.mk [.top, .top, (.sl 4 .no (more.length) (fun q8 => [(.str ((more.get q8).mod)), (.str ((more.get q8).name)), (.int .i64 ((more.get q8).t)), (.int .u64 ((more.get q8).b))])), (.ptr 0 0 0 0), .top, .top, (.bool false), .top, (.ptr 1 0 0 0), (.int .i64 c), (.sl 4 (.id 2) (o.length) (fun q8 => [(.str ((o.get q8).mod)), (.str ((o.get q8).name)), (.int .i64 ((o.get q8).t)), (.int .u64 ((o.get q8).b))])), (.int .i64 ((↑i : Int))), .top, .top, .top, .top, .top, .top, .top, .top, .top, .top, .top, .top, .top, .top, .top, .top, (.bool (decide ((↑i : Int) < (↑more.length : Int)))), .top, .top, .top, .top, .top, .top, .top, .top, .top, .top, .top, .top, .top, .top, .top, .top, .top, .top, .top, .top, .top, .top, .top, .top, .top, .top, .top, .top, .top, .top, .top, .top, .top, .top, .top, .top, .top, .top, .top] (.mk [(.var [(.int .i64 (e.kind)), (.int .i64 (e.op)), (.str (e.mod)), (.str (e.name)), (.int .i64 (e.vt)), (.int .u64 (e.vb)), (.sl 7 .no (e.kids.length) (fun q8 => [(.int .i64 ((e.kids.get q8).kind)), (.int .i64 ((e.kids.get q8).op)), (.str ((e.kids.get q8).mod)), (.str ((e.kids.get q8).name)), (.int .i64 ((e.kids.get q8).vt)), (.int .u64 ((e.kids.get q8).vb)), (.sl 7 .no ((e.kids.get q8).kids.length) (fun q9 => row ((e.kids.get q8).kids.get q9)))]))]), (.var [(.int .i64 t), (.int .u64 b)]), (.tok (o.length))] [] .plain)))) := by kernel_rfl
theorem b5 (loops : LoopK) (e : Ex) (l more all : List Con) : bodyL Try.prog polX (uExt e l all) loops 5 [agE e, conL l, conL more] [] .plain =
  (chk (Eq (α := List AV) [(.sl 4 .no (l.length) (fun q5 => [(.str ((l.get q5).mod)), (.str ((l.get q5).name)), (.int .i64 ((l.get q5).t)), (.int .u64 ((l.get q5).b))]))] [(.sl 4 .no (l.length) (fun q5 => [(.str ((l.get q5).mod)), (.str ((l.get q5).name)), (.int .i64 ((l.get q5).t)), (.int .u64 ((l.get q5).b))]))] ∧ Eq (α := List Den.Obj) [] [] ∧ Eq (α := PS) .plain .plain) (pickX (fun x59 : List Con => (x59 = l ∨ x59 = all) ∧ Eq (α := AV) (.agg [(.int .i64 (e.kind)), (.int .i64 (e.op)), (.str (e.mod)), (.str (e.name)), (.int .i64 (e.vt)), (.int .u64 (e.vb)), (.sl 7 .no (e.kids.length) (fun q7 => [(.int .i64 ((e.kids.get q7).kind)), (.int .i64 ((e.kids.get q7).op)), (.str ((e.kids.get q7).mod)), (.str ((e.kids.get q7).name)), (.int .i64 ((e.kids.get q7).vt)), (.int .u64 ((e.kids.get q7).vb)), (.sl 7 .no ((e.kids.get q7).kids.length) (fun q8 => row ((e.kids.get q7).kids.get q8)))]))]) (.agg [(.int .i64 (e.kind)), (.int .i64 (e.op)), (.str (e.mod)), (.str (e.name)), (.int .i64 (e.vt)), (.int .u64 (e.vb)), (.sl 7 .no (e.kids.length) (fun q7 => [(.int .i64 ((e.kids.get q7).kind)), (.int .i64 ((e.kids.get q7).op)), (.str ((e.kids.get q7).mod)), (.str ((e.kids.get q7).name)), (.int .i64 ((e.kids.get q7).vt)), (.int .u64 ((e.kids.get q7).vb)), (.sl 7 .no ((e.kids.get q7).kids.length) (fun q8 => row ((e.kids.get q7).kids.get q8)))]))]) ∧ Eq (α := AV) (.sl 4 .no (l.length) (fun q7 => [(.str ((l.get q7).mod)), (.str ((l.get q7).name)), (.int .i64 ((l.get q7).t)), (.int .u64 ((l.get q7).b))])) (.sl 4 .no (x59.length) (fun q7 => [(.str ((x59.get q7).mod)), (.str ((x59.get q7).name)), (.int .i64 ((x59.get q7).t)), (.int .u64 ((x59.get q7).b))])) ∧ Eq (α := List Den.Obj) [] [] ∧ Eq (α := PS) .plain .plain) (fun x59 => (cond (((true) && (cond (decide ((0 : Nat) + l.length ≤ (70368744177664 : Nat))) ((fun _ => decide (((0 : Nat) + l.length) * Try.prog.bytesOf (45 : Nat) ≤ (70368744177664 : Nat))) ()) (false)))) (loops 5 (.mk [.top, .top, (.sl 4 .no (more.length) (fun q8 => [(.str ((more.get q8).mod)), (.str ((more.get q8).name)), (.int .i64 ((more.get q8).t)), (.int .u64 ((more.get q8).b))])), (.ptr 0 0 0 0), .top, .top, (.bool false), .top, (.ptr 1 0 0 0), (.int .i64 ((evl (look x59) e).snd.snd)), (.sl 4 (.id 2) ((0 : Nat) + l.length) (appRows (fun i => i.elim0) (fun q8 => [(.str ((l.get q8).mod)), (.str ((l.get q8).name)), (.int .i64 ((l.get q8).t)), (.int .u64 ((l.get q8).b))]))), (.int .i64 0), .top, .top, .top, .top, .top, .top, .top, .top, .top, .top, .top, .top, .top, .top, .top, .top, .top, .top, .top, .top, .top, .top, .top, .top, .top, .top, .top, .top, .top, .top, .top, .top, .top, .top, .top, .top, .top, .top, .top, .top, .top, .top, .top, .top, .top, .top, .top, .top, .top, .top, .top, .top, .top, .top, .top, .top] (.mk [(.var [(.int .i64 (e.kind)), (.int .i64 (e.op)), (.str (e.mod)), (.str (e.name)), (.int .i64 (e.vt)), (.int .u64 (e.vb)), (.sl 7 .no (e.kids.length) (fun q8 => [(.int .i64 ((e.kids.get q8).kind)), (.int .i64 ((e.kids.get q8).op)), (.str ((e.kids.get q8).mod)), (.str ((e.kids.get q8).name)), (.int .i64 ((e.kids.get q8).vt)), (.int .u64 ((e.kids.get q8).vb)), (.sl 7 .no ((e.kids.get q8).kids.length) (fun q9 => row ((e.kids.get q8).kids.get q9)))]))]), (.var [(.int .i64 ((evl (look x59) e).fst)), (.int .u64 ((evl (look x59) e).snd.fst))]), (.tok ((0 : Nat) + l.length))] [] .plain)) (kBody Try.prog polX (uExt e l all) loops 5 [1, 1, 1, 1, 0, 1, 0] 0 .plain)) none)))) := by kernel_rfl
theorem e5 (loops : LoopK) (e : Ex) (l more all : List Con) : (kBody Try.prog polX (uExt e l all) loops 5 [1, 1, 1, 1, 0, 1, 0] 0 .plain) (.exit 0) (S5e (conG 2 all) (conL more) e (evl (look l) e).1 (evl (look l) e).2.1 (evl (look l) e).2.2 more.length more.length all.length) =
  (pickX (fun x60 : List Con => (x60 = l ∨ x60 = all) ∧ Eq (α := AV) (.agg [(.int .i64 (e.kind)), (.int .i64 (e.op)), (.str (e.mod)), (.str (e.name)), (.int .i64 (e.vt)), (.int .u64 (e.vb)), (.sl 7 .no (e.kids.length) (fun q6 => [(.int .i64 ((e.kids.get q6).kind)), (.int .i64 ((e.kids.get q6).op)), (.str ((e.kids.get q6).mod)), (.str ((e.kids.get q6).name)), (.int .i64 ((e.kids.get q6).vt)), (.int .u64 ((e.kids.get q6).vb)), (.sl 7 .no ((e.kids.get q6).kids.length) (fun q7 => row ((e.kids.get q6).kids.get q7)))]))]) (.agg [(.int .i64 (e.kind)), (.int .i64 (e.op)), (.str (e.mod)), (.str (e.name)), (.int .i64 (e.vt)), (.int .u64 (e.vb)), (.sl 7 .no (e.kids.length) (fun q6 => [(.int .i64 ((e.kids.get q6).kind)), (.int .i64 ((e.kids.get q6).op)), (.str ((e.kids.get q6).mod)), (.str ((e.kids.get q6).name)), (.int .i64 ((e.kids.get q6).vt)), (.int .u64 ((e.kids.get q6).vb)), (.sl 7 .no ((e.kids.get q6).kids.length) (fun q7 => row ((e.kids.get q6).kids.get q7)))]))]) ∧ Eq (α := AV) (.sl 4 .no (all.length) (fun q6 => [(.str ((all.get q6).mod)), (.str ((all.get q6).name)), (.int .i64 ((all.get q6).t)), (.int .u64 ((all.get q6).b))])) (.sl 4 .no (x60.length) (fun q6 => [(.str ((x60.get q6).mod)), (.str ((x60.get q6).name)), (.int .i64 ((x60.get q6).t)), (.int .u64 ((x60.get q6).b))])) ∧ Eq (α := List Den.Obj) [] [] ∧ Eq (α := PS) .plain .plain) (fun x60 => (cond (((cond ((((evl (look l) e).fst == (evl (look x60) e).fst) && ((((evl (look l) e).snd.fst == (evl (look x60) e).snd.fst) && (true))))) ((evl (look l) e).snd.snd == (evl (look x60) e).snd.snd) (false)) == (true))) (chk (Eq (α := List AV) [] [] ∧ Eq (α := List Den.Obj) [] [] ∧ Eq (α := PS) .plain .plain) (some (.ret (.bool true) [] .plain))) (some (.ret (.bool false) [] .plain))))) := by kernel_rfl
end Go.Proofs

/- FoldExtra: it returns true. -/
namespace Go.Proofs
open Go.Den
set_option maxRecDepth 100000
theorem conL_inj {l l' : List Con} (h : conL l = conL l') : l = l' := by
  obtain ⟨hn, hf⟩ := sl_inj h
  refine List.ext_get hn fun i hi hi' => ?_
  have := hf ⟨i, hi⟩
  simp only [conR, List.cons.injEq, AV.str.injEq, AV.int.injEq, true_and, and_true] at this
  obtain ⟨h1, h2, h3, h4⟩ := this
  generalize l.get ⟨i, hi⟩ = a at *
  generalize l'.get ⟨i, hi'⟩ = b at *
  cases a; cases b
  simp_all
theorem wor_congr {lk lk' : Ex → Option (Int × Int)} {e : Ex} (hg : Good e) (h : ∀ x : Ex, x.mod = [] ∨ Begins x.mod → lk x = lk' x) : wor lk e = wor lk' e := by
  induction hg with
  | mk e g2 g3 g6 g7 _ ih =>
    rw [wor, wor]
    have hn : (e.kind == 2 || e.kind == 3) = true → lk e = lk' e := fun hk => h e (by
      simp only [Bool.or_eq_true, beq_iff_eq] at hk
      rcases hk with hk | hk
      · exact .inl (g2 hk)
      · exact .inr (g3 hk))
    cases hk : (e.kind == 2 || e.kind == 3) with
    | true => rw [hn hk]; rfl
    | false => simp only [ih, cond_false]
def nine (c : Con) : Con := ⟨[57] ++ c.mod, c.name, c.t, c.b⟩
def allC (l more : List Con) : List Con := l ++ more.map nine
theorem look_all {l more : List Con} {x : Ex} (h : x.mod = [] ∨ Begins x.mod) : look (allC l more) x = look l x := by
  unfold look allC
  have : (more.map nine).find? (hit x) = none := by
    rw [List.find?_eq_none]
    intro c hc
    obtain ⟨d, _, rfl⟩ := List.mem_map.1 hc
    unfold hit nine
    rcases h with h | ⟨a, r, h, hb⟩
    · rw [h]; simp
    · rw [h]
      intro hc
      simp only [Bool.and_eq_true, beq_iff_eq] at hc
      have : (57 : UInt8) = a := by
        have := hc.1
        simp at this
        exact this.1
      rw [← this] at hb
      have h9 := let9
      have : ((57 : UInt8).toNat : Int) = 57 := rfl
      rw [this, h9] at hb
      cases hb
  rw [List.find?_append, this]
  simp
theorem evl_all {l more : List Con} {e : Ex} (hs : Small e) : evl (look (allC l more)) e = evl (look l) e := by
  unfold evl
  cases h : iF 23 [agE e] != 0 with
  | true => rfl
  | false =>
    have hg : Good e := by
      obtain ⟨o, h1, n, rfl, h2⟩ := f23_tot e hs
      have : iF 23 [agE e] = n := by simp only [iF, h1]
      rw [this] at h
      exact h2 (by simpa using h)
    rw [wor_congr hg fun x hx => look_all hx]
theorem uExt_le {e : Ex} {l all : List Con} (hs : Small e) (hl : l.length < 1000000000) (ha : all.length < 1000000000) (h9 : dX 9 [] [] .plain = some (.ret (.bool true) [] .plain)) : CallLeK (uExt e l all) dX := by
  intro f args h ps kk o x
  unfold uExt at x
  split at x
  · obtain ⟨⟨rfl, rfl, rfl⟩, x'⟩ := chk_some x
    exact ⟨_, x', v10 l hl⟩
  · split at x
    · obtain ⟨y, ⟨hy, rfl, rfl, rfl, rfl⟩, x'⟩ := pickX_some x
      exact ⟨_, x', v12 e y hs (by rcases hy with rfl | rfl <;> assumption)⟩
    · cases x
  · obtain ⟨⟨rfl, rfl, rfl⟩, x'⟩ := chk_some x
    exact ⟨_, x', h9⟩
  · cases x
theorem alive9 : dX 9 [] [] .plain = some (.ret (.bool true) [] .plain) := denA_of (k := 40) (by kernel_rfl)
theorem allC_take {l more : List Con} {i : Nat} (h : i < more.length) : allC l (more.take (i + 1)) = allC l (more.take i) ++ [nine (more.get ⟨i, h⟩)] := by
  unfold allC
  rw [take_snoc h, List.map_append, ← List.append_assoc]
  rfl
theorem lp5 (e : Ex) (l more : List Con) (t b c : Int) (hl : l.length < 10000000) (hm : more.length < 10000000) (hs : ∀ x ∈ more, x.mod.length < 1000000000) {out : Out} {k : Den.Exit → St → R}
    (hk : k (.exit 0) (S5e (conG 2 (allC l more)) (conL more) e t b c more.length more.length (allC l more).length) = some out) :
    codeD Try.prog polX (bindK dX) (more.length + 1) 5 (.loop (Code.part (bodyOf Try.prog 5) [1, 1, 1, 1, 0, 1, 0, 0])) (S5 (conG 2 l) (conL more) e t b c 0 l.length) k = some out := by
  refine loop_rounds noCall_le (keep := false) rfl (inner := noLoops) no_loops (fun i => S5 (conG 2 (allC l (more.take i))) (conL more) e t b c i (allC l (more.take i)).length) more.length (by omega) ?_ (H := 3) rfl ?_ ?_
  · have : allC l (more.take 0) = l := by simp [allC]
    rw [this]
    show _ = _
    kernel_rfl
  · intro i hi K hK
    have hlen : (allC l (more.take i)).length = l.length + i := by simp [allC]; omega
    rw [r5]
    have h1 : decide ((i : Int) < more.length) = true := by simpa using hi
    have h2 : (0 : Int) ≤ i ∧ (i : Int).toNat < more.length := by omega
    have h3 : decide ((allC l (more.take i)).length + 1 ≤ 70368744177664) = true := by simp only [hlen]; simp; omega
    have h4 : decide (((allC l (more.take i)).length + 1) * Try.prog.bytesOf 45 ≤ 70368744177664) = true := by rw [bytes45, hlen]; simp; omega
    have h5 : decide (([57] : List UInt8).length + (more.get ⟨(i : Int).toNat, h2.right⟩).mod.length < 1099511627776) = true := by
      have := hs _ (List.get_mem more ⟨(i : Int).toNat, h2.right⟩)
      simp at this ⊢
      omega
    rw [h1, cond_true, dif_pos h2, h5, cond_true, dif_pos h2, dif_pos h2]
    simp only [h3, h4, cond_true, Bool.and_self, beq_self_eq_true]
    apply hK
    rw [wrap_succ (by omega)]
    have hsl := sl_app conR (z := 4) (t := .id 2) (allC l (more.take i)) (nine (more.get ⟨i, hi⟩))
      (g := fun q => List.map purify (rowIn [.str [], .str [], .int .i64 0, .int .u64 0] q.1 [(0, [.str ([57] ++ (more.get ⟨i, hi⟩).mod), .str (more.get ⟨i, hi⟩).name, .int .i64 (more.get ⟨i, hi⟩).t, .int .u64 (more.get ⟨i, hi⟩).b])])) rfl
    simp only [conR] at hsl
    simp only [Int.toNat_natCast]
    rw [hsl, ← allC_take hi]
    have : (allC l (more.take i)).length + 1 = (allC l (more.take (i + 1))).length := by simp [allC_take hi]
    rw [this]
    show _ = _
    kernel_rfl
  · intro K hK
    rw [r5, List.take_length]
    have h1 : decide ((more.length : Int) < more.length) = false := by simp
    unfold S5e at hk
    rw [h1] at hk ⊢
    rw [cond_false, hK _ _ (by simp)]
    exact hk
theorem extra_true (e : Ex) (l more : List Con) (hs : Small e) (hl : l.length < 10000000) (hm : more.length < 10000000) (hms : ∀ x ∈ more, x.mod.length < 1000000000) :
    dX 5 [agE e, conL l, conL more] [] .plain = some (.ret (.bool true) [] .plain) := by
  have ha : (allC l more).length < 1000000000 := by simp [allC]; omega
  refine Tot.of_eq (denA_tot (more.length + 1) (uExt_le (l := l) (all := allC l more) hs (by omega) ha alive9) rfl (by kernel_rfl) ?_)
  rw [b5]
  refine Tot.chk ⟨rfl, rfl, rfl⟩ (Tot.pickX ⟨l, .inl rfl, rfl, rfl, rfl, rfl⟩ ?_)
  rintro x ⟨_, _, hx, _⟩
  obtain rfl := conL_inj (l := l) (l' := x) hx
  have h3 : decide (0 + l.length ≤ 70368744177664) = true := by simp; omega
  have h4 : decide ((0 + l.length) * Try.prog.bytesOf 45 ≤ 70368744177664) = true := by rw [bytes45]; simp; omega
  simp only [h3, h4, cond_true, Bool.and_self]
  have hsl : AV.sl 4 (.id 2) (0 + l.length) (appRows (fun i : Fin 0 => i.elim0) fun q8 => [.str (l.get q8).mod, .str (l.get q8).name, .int .i64 (l.get q8).t, .int .u64 (l.get q8).b]) = conG 2 l :=
    sl_ext (Nat.zero_add _) fun i h1 h2 => by unfold appRows; rw [dif_neg (by omega)]; rfl
  have hfin := e5 (lpR Try.prog polX dX (more.length + 1) 5 (loopsOf (bodyOf Try.prog 5))) e l more (allC l more)
  have hout : Tot (kBody Try.prog polX (uExt e l (allC l more)) (lpR Try.prog polX dX (more.length + 1) 5 (loopsOf (bodyOf Try.prog 5))) 5 [1, 1, 1, 1, 0, 1, 0] 0 .plain (.exit 0)
      (S5e (conG 2 (allC l more)) (conL more) e (evl (look l) e).1 (evl (look l) e).2.1 (evl (look l) e).2.2 more.length more.length (allC l more).length)) (· = .ret (.bool true) [] .plain) := by
    rw [hfin]
    refine Tot.pickX ⟨allC l more, .inr rfl, rfl, rfl, rfl, rfl⟩ ?_
    rintro y ⟨_, _, hy, _⟩
    obtain rfl := conL_inj (l := allC l more) (l' := y) hy
    rw [evl_all hs]
    simp only [beq_self_eq_true, Bool.and_self, cond_true]
    exact Tot.chk (by refine ⟨?_, ?_, ?_⟩ <;> trivial) (Tot.some rfl)
  obtain ⟨o, ho, rfl⟩ := hout
  refine ⟨_, ?_, rfl⟩
  unfold lpR
  rw [show lkC (loopsOf (bodyOf Try.prog 5)) 5 = Code.part (bodyOf Try.prog 5) [1, 1, 1, 1, 0, 1, 0, 0] from by kernel_rfl]
  have := lp5 e l more (evl (look l) e).1 (evl (look l) e).2.1 (evl (look l) e).2.2 hl hm hms ho
  rw [← this, hsl, Nat.zero_add]
  rfl
end Go.Proofs
