/- Expressions: the small functions. -/
import Derived.Test.YtndanoiaheknaaaDenPiece
import Derived.Test.YtndanoiaheknaaaDenFl
set_option linter.unusedSimpArgs false
set_option linter.unusedVariables false
namespace Go.Proofs
open Go.Den
set_option maxRecDepth 100000

def lkT {α : Type} (d : α) : Nat → List (Nat × α) → α
  | _, [] => d
  | f, (g, x) :: l => cond (f == g) x (lkT d f l)
def deadX : List (Nat × List Nat) := [
  (5, [295147905179352825777, 295147905179352825651, 295147905179352824883, 295147905179352823987, 295147905179352821939, 295147905179084386483, 295147905179352821939, 295147905179352821939, 295147905179352812735, 295147905179352825791]),
  (10, [2147483642, 2147483634, 2147483618, 2147483362, 2147483618, 2147483618, 2147483643]),
  (45, [8796093022129, 8796092989363, 8796093022131, 8796093022003, 8796085681971, 8796077293363, 8796085681203, 8796085678387, 8796085681971, 8796085681971, 8796093022143]),
  (46, [1329227995784915872903807060280344573, 1329227995784915872903807060280344573, 1329227995784915872903807060280344449, 1329227995784915872903807060280344481, 1329227995784915872903807060280344481, 1329227995784915872903807060280344497, 1329227985881395558620764861087350709, 1329227995784915872903807060280344501, 1329227678872265815846456686104543165, 1329227995784915872903807060280344509, 1329227995784915872903807060280344573, 1311054956780043976203950323128074239, 1290285769345904665689828337811193855, 1311054956780043976203950323128073983, 1311054956780043976203950323128074239, 1311054956780043976203950323128074239]),
  (47, [524268, 523884, 523372, 523852, 458316, 524271, 523884, 524271]),
  (62, [4398046511098, 4398046509050, 4398046511099, 4398046486522, 4398046453754, 4398046486514, 4389456551930, 4398046511099, 4398046486522, 4363686772730, 4398046511099, 3848290697211, 4398046511099, 4398046511099])]
def promX (f r : Nat) : List Nat := cond (f == 10 && r == 3) [3] []
def deadXn (f r : Nat) : Nat := ((lkT [] f deadX)[r]?).getD 0
def polX : Pol where
  full := fun _ => false
  grow := fun _ _ => false
  keep := fun _ => false
  prom := promX
  dead := deadXn
noncomputable abbrev dX : CallO := denA Try.prog polX extT
def vl (t b : Int) : AV := .agg [.int .i64 t, .int .u64 b]
/-- calls by a table of answers: those that are told of here -/
def letB (n : Int) : Bool := ((decide (n ≥ 97) && decide (n ≤ 122)) || (decide (n ≥ 65) && decide (n ≤ 90))) || n == 95

/-! what functions answer, by the second reading itself -/
noncomputable def iF (f : FuncId) (args : List AV) : Int := match dX f args [] .plain with
  | some (.ret (.int _ n) _ _) => n
  | _ => 0
noncomputable def bF (f : FuncId) (args : List AV) : Bool := match dX f args [] .plain with
  | some (.ret (.bool b) _ _) => b
  | _ => false
noncomputable def eF (f : FuncId) (args : List AV) : Int := match dX f args [] .plain with
  | some (.pan (.ifc _ (.int _ n)) _ _) => n
  | _ => 0
noncomputable def pF (f : FuncId) (args : List AV) : Bool := match dX f args [] .plain with
  | some (.pan _ _ _) => true
  | _ => false
noncomputable def tF1 (f : FuncId) (args : List AV) : Int := match dX f args [] .plain with
  | some (.ret (.agg [.int _ t, .int _ _]) _ _) => t
  | some (.ret (.tup [.agg [.int _ t, .int _ _], .int _ _]) _ _) => t
  | some (.ret (.tup [.int _ t, .int _ _]) _ _) => t
  | _ => 0
noncomputable def tF2 (f : FuncId) (args : List AV) : Int := match dX f args [] .plain with
  | some (.ret (.agg [.int _ _, .int _ b]) _ _) => b
  | some (.ret (.tup [.agg [.int _ _, .int _ b], .int _ _]) _ _) => b
  | some (.ret (.tup [.int _ _, .int _ b]) _ _) => b
  | _ => 0
noncomputable def tF3 (f : FuncId) (args : List AV) : Int := match dX f args [] .plain with
  | some (.ret (.tup [.agg [.int _ _, .int _ _], .int _ c]) _ _) => c
  | _ => 0
section
variable {f : FuncId} {args : List AV}
theorem iF_eq {k : IntKind} (h : Tot (dX f args [] .plain) fun o => ∃ n, o = .ret (.int k n) [] .plain) : dX f args [] .plain = some (.ret (.int k (iF f args)) [] .plain) := by
  obtain ⟨o, h, n, rfl⟩ := h
  simp only [iF, h]
theorem bF_eq (h : Tot (dX f args [] .plain) fun o => ∃ b, o = .ret (.bool b) [] .plain) : dX f args [] .plain = some (.ret (.bool (bF f args)) [] .plain) := by
  obtain ⟨o, h, n, rfl⟩ := h
  simp only [bF, h]
theorem vF_eq (h : Tot (dX f args [] .plain) fun o => ∃ t b, o = .ret (vl t b) [] .plain) : dX f args [] .plain = some (.ret (vl (tF1 f args) (tF2 f args)) [] .plain) := by
  obtain ⟨o, h, t, b, rfl⟩ := h
  simp only [tF1, tF2, h, vl]
theorem vtF_eq (h : Tot (dX f args [] .plain) fun o => ∃ t b c, o = .ret (.tup [vl t b, .int .i64 c]) [] .plain) : dX f args [] .plain = some (.ret (.tup [vl (tF1 f args) (tF2 f args), .int .i64 (tF3 f args)]) [] .plain) := by
  obtain ⟨o, h, t, b, c, rfl⟩ := h
  simp only [tF1, tF2, tF3, h, vl]
theorem iiF_eq {k k' : IntKind} (h : Tot (dX f args [] .plain) fun o => ∃ t b, o = .ret (.tup [.int k t, .int k' b]) [] .plain) : dX f args [] .plain = some (.ret (.tup [.int k (tF1 f args), .int k' (tF2 f args)]) [] .plain) := by
  obtain ⟨o, h, t, b, rfl⟩ := h
  simp only [tF1, tF2, h]
end
theorem ext_body {f : FuncId} {call : CallK} (hle : CallLeK call dX) (hf : extT f = none) (hk : keysOK (loopsOf (bodyOf Try.prog f)) = true) {args : List AV} {Q : Out → Prop}
    (h : ∀ loops, Tot (bodyL Try.prog polX call loops f args [] .plain) Q) : Tot (dX f args [] .plain) Q :=
  denA_tot 0 hle hf hk (h _)
def noCall : CallK := fun _ _ _ _ _ => none
theorem noCall_le : CallLeK noCall dX := fun _ _ _ _ _ _ h => by cases h
theorem of_ext {f : FuncId} {g : CallO} (hf : extT f = some g) {args : List AV} {o : Out} (h : g f args [] .plain = some o) : dX f args [] .plain = some o :=
  denA_of (k := 1) (by simp only [den, hf]; exact h)

theorem b70 (loops : LoopK) (c : Int) : bodyL Try.prog polX noCall loops 70 [.int .u8 c] [] .plain =
  (some (.ret (.bool (cond (cond (cond (decide (c ≥ 97)) (decide (c ≤ 122)) (false)) (true) (cond (decide (c ≥ 65)) (decide (c ≤ 90)) (false))) (true) (c == 95))) [] .plain)) := by kernel_rfl
theorem f70_tot (c : Int) : Tot (dX 70 [.int .u8 c] [] .plain) fun o => ∃ b, o = .ret (.bool b) [] .plain :=
  ext_body noCall_le rfl (by kernel_rfl) fun loops => by
    rw [b70]
    repeat' first | exact Tot.some ⟨_, rfl⟩ | (refine Tot.cond (fun _ => ?_) fun _ => ?_) | (exfalso; simp_all; done)
theorem b71 (loops : LoopK) (s : List UInt8) : bodyL Try.prog polX noCall loops 71 [.str s] [] .plain =
  (cond ((s == [98, 111, 111, 108])) (cond ((s == [98, 111, 111, 108])) (some (.ret (.bool true) [] .plain)) (some (.ret (.bool false) [] .plain))) (cond ((s == [99, 97, 116, 99, 104])) (cond ((s == [99, 97, 116, 99, 104])) (some (.ret (.bool true) [] .plain)) (some (.ret (.bool false) [] .plain))) (cond ((s == [99, 111, 110, 115, 116])) (cond ((s == [99, 111, 110, 115, 116])) (some (.ret (.bool true) [] .plain)) (some (.ret (.bool false) [] .plain))) (cond ((s == [101, 108, 115, 101])) (cond ((s == [101, 108, 115, 101])) (some (.ret (.bool true) [] .plain)) (some (.ret (.bool false) [] .plain))) (cond ((s == [101, 120, 112, 111, 114, 116])) (cond ((s == [101, 120, 112, 111, 114, 116])) (some (.ret (.bool true) [] .plain)) (some (.ret (.bool false) [] .plain))) (cond ((s == [102, 97, 105, 108])) (cond ((s == [102, 97, 105, 108])) (some (.ret (.bool true) [] .plain)) (some (.ret (.bool false) [] .plain))) (cond ((s == [102, 97, 108, 115, 101])) (cond ((s == [102, 97, 108, 115, 101])) (some (.ret (.bool true) [] .plain)) (some (.ret (.bool false) [] .plain))) (cond ((s == [102, 108, 111, 97, 116])) (cond ((s == [102, 108, 111, 97, 116])) (some (.ret (.bool true) [] .plain)) (some (.ret (.bool false) [] .plain))) (cond ((s == [102, 110])) (cond ((s == [102, 110])) (some (.ret (.bool true) [] .plain)) (some (.ret (.bool false) [] .plain))) (cond ((s == [105, 102])) (cond ((s == [105, 102])) (some (.ret (.bool true) [] .plain)) (some (.ret (.bool false) [] .plain))) (cond ((s == [105, 109, 112, 111, 114, 116])) (cond ((s == [105, 109, 112, 111, 114, 116])) (some (.ret (.bool true) [] .plain)) (some (.ret (.bool false) [] .plain))) (cond ((s == [105, 110, 102])) (cond ((s == [105, 110, 102])) (some (.ret (.bool true) [] .plain)) (some (.ret (.bool false) [] .plain))) (cond ((s == [105, 110, 112, 117, 116])) (cond ((s == [105, 110, 112, 117, 116])) (some (.ret (.bool true) [] .plain)) (some (.ret (.bool false) [] .plain))) (cond ((s == [105, 110, 116])) (cond ((s == [105, 110, 116])) (some (.ret (.bool true) [] .plain)) (some (.ret (.bool false) [] .plain))) (cond ((s == [108, 101, 116])) (cond ((s == [108, 101, 116])) (some (.ret (.bool true) [] .plain)) (some (.ret (.bool false) [] .plain))) (cond ((s == [109, 111, 100, 117, 108, 101])) (cond ((s == [109, 111, 100, 117, 108, 101])) (some (.ret (.bool true) [] .plain)) (some (.ret (.bool false) [] .plain))) (cond ((s == [110, 97, 110])) (cond ((s == [110, 97, 110])) (some (.ret (.bool true) [] .plain)) (some (.ret (.bool false) [] .plain))) (cond ((s == [114, 101, 116, 117, 114, 110])) (cond ((s == [114, 101, 116, 117, 114, 110])) (some (.ret (.bool true) [] .plain)) (some (.ret (.bool false) [] .plain))) (cond ((s == [115, 104, 111, 119])) (cond ((s == [115, 104, 111, 119])) (some (.ret (.bool true) [] .plain)) (some (.ret (.bool false) [] .plain))) (cond ((s == [116, 114, 117, 101])) (cond ((s == [116, 114, 117, 101])) (some (.ret (.bool true) [] .plain)) (some (.ret (.bool false) [] .plain))) (cond ((s == [116, 114, 121])) (cond ((s == [116, 114, 121])) (some (.ret (.bool true) [] .plain)) (some (.ret (.bool false) [] .plain))) (cond ((s == [118, 97, 114])) (cond ((s == [118, 97, 114])) (some (.ret (.bool true) [] .plain)) (some (.ret (.bool false) [] .plain))) (cond ((s == [119, 104, 105, 108, 101])) (some (.ret (.bool true) [] .plain)) (some (.ret (.bool false) [] .plain))))))))))))))))))))))))) := by kernel_rfl
theorem f71_tot (s : List UInt8) : Tot (dX 71 [.str s] [] .plain) fun o => ∃ b, o = .ret (.bool b) [] .plain :=
  ext_body noCall_le rfl (by kernel_rfl) fun loops => by
    rw [b71]
    repeat' first | exact Tot.some ⟨_, rfl⟩ | (refine Tot.cond (fun _ => ?_) fun _ => ?_) | (exfalso; simp_all; done)
theorem b58 (loops : LoopK) (k o t b : Int) (m s : List UInt8) (n : Nat) (f : Fin n → List AV) : bodyL Try.prog polX noCall loops 58 [.agg [.int .i64 k, .int .i64 o, .str m, .str s, .int .i64 t, .int .u64 b, .sl 7 .no n f]] [] .plain =
  (cond (k == 7) (cond (o == 13) (some (.ret (.int .i64 1) [] .plain)) (cond (o == 12) (some (.ret (.int .i64 2) [] .plain)) (cond (cond (decide (o ≥ 6)) (decide (o ≤ 11)) (false)) (some (.ret (.int .i64 3) [] .plain)) (cond (o == 1) (cond (o == 1) (some (.ret (.int .i64 4) [] .plain)) (cond (cond (decide (o ≥ 3)) (decide (o ≤ 5)) (false)) (some (.ret (.int .i64 5) [] .plain)) (some (.ret (.int .i64 7) [] .plain)))) (cond (o == 2) (some (.ret (.int .i64 4) [] .plain)) (cond (cond (decide (o ≥ 3)) (decide (o ≤ 5)) (false)) (some (.ret (.int .i64 5) [] .plain)) (some (.ret (.int .i64 7) [] .plain)))))))) (cond (k == 6) (cond (cond (o == 1) (true) (o == 2)) (some (.ret (.int .i64 6) [] .plain)) (some (.ret (.int .i64 7) [] .plain))) (some (.ret (.int .i64 7) [] .plain)))) := by kernel_rfl
theorem f58_tot (k o t b : Int) (m s : List UInt8) (n : Nat) (f : Fin n → List AV) : Tot (dX 58 [.agg [.int .i64 k, .int .i64 o, .str m, .str s, .int .i64 t, .int .u64 b, .sl 7 .no n f]] [] .plain) fun o => ∃ n, o = .ret (.int .i64 n) [] .plain :=
  ext_body noCall_le rfl (by kernel_rfl) fun loops => by
    rw [b58]
    repeat' first | exact Tot.some ⟨_, rfl⟩ | (refine Tot.cond (fun _ => ?_) fun _ => ?_) | (exfalso; simp_all; done)
theorem b27 (loops : LoopK) (a : Int) : bodyL Try.prog polX noCall loops 27 [.int .u64 a] [] .plain =
  (cond (decide (IntKind.u64.wrap (↑(BitVec.ofInt IntKind.u64.bits a &&& ~~~BitVec.ofInt IntKind.u64.bits 9223372036854775808).toNat : Int) > 9218868437227405312)) (some (.ret (.int .u64 9221120237041090561) [] .plain)) (some (.ret (.int .u64 a) [] .plain))) := by kernel_rfl
theorem f27_tot (a : Int) : Tot (dX 27 [.int .u64 a] [] .plain) fun o => ∃ n, o = .ret (.int .u64 n) [] .plain :=
  ext_body noCall_le rfl (by kernel_rfl) fun loops => by
    rw [b27]
    repeat' first | exact Tot.some ⟨_, rfl⟩ | (refine Tot.cond (fun _ => ?_) fun _ => ?_) | (exfalso; simp_all; done)
theorem b22 (loops : LoopK) (e : Int) : bodyL Try.prog polX noCall loops 22 [.int .i64 e] [] .plain =
  (cond (e == 0) (some (.ret (.int .i64 0) [] .plain)) (cond (e == 1) (some (.ret (.int .i64 80) [] .plain)) (cond (e == 2) (some (.ret (.int .i64 81) [] .plain)) (cond (e == 3) (some (.ret (.int .i64 82) [] .plain)) (some (.ret (.int .i64 22) [] .plain)))))) := by kernel_rfl
theorem f22_tot (e : Int) : Tot (dX 22 [.int .i64 e] [] .plain) fun o => ∃ n, o = .ret (.int .i64 n) [] .plain :=
  ext_body noCall_le rfl (by kernel_rfl) fun loops => by
    rw [b22]
    repeat' first | exact Tot.some ⟨_, rfl⟩ | (refine Tot.cond (fun _ => ?_) fun _ => ?_) | (exfalso; simp_all; done)
theorem b26 (loops : LoopK) (e : Int) : bodyL Try.prog polX noCall loops 26 [.int .i64 e] [] .plain =
  (some (.ret (.bool (cond (decide (e ≥ 1)) (decide (e ≤ 3)) (false))) [] .plain)) := by kernel_rfl
theorem f26_tot (e : Int) : Tot (dX 26 [.int .i64 e] [] .plain) fun o => ∃ b, o = .ret (.bool b) [] .plain :=
  ext_body noCall_le rfl (by kernel_rfl) fun loops => by
    rw [b26]
    repeat' first | exact Tot.some ⟨_, rfl⟩ | (refine Tot.cond (fun _ => ?_) fun _ => ?_) | (exfalso; simp_all; done)
theorem b29 (loops : LoopK) (a b : Int) : bodyL Try.prog polX noCall loops 29 [.int .i64 a, .int .i64 b] [] .plain =
  (cond (cond (!(decide (IntKind.i64.wrap (a + b) > a) == decide (b > 0))) (b != 0) (false)) (some (.ret (.tup [(.int .i64 0), (.int .i64 80)]) [] .plain)) (some (.ret (.tup [(.int .i64 (IntKind.i64.wrap (a + b))), (.int .i64 0)]) [] .plain))) := by kernel_rfl
theorem f29_tot (a b : Int) : Tot (dX 29 [.int .i64 a, .int .i64 b] [] .plain) fun o => ∃ t b, o = .ret (.tup [.int .i64 t, .int .i64 b]) [] .plain :=
  ext_body noCall_le rfl (by kernel_rfl) fun loops => by
    rw [b29]
    repeat' first | exact Tot.some ⟨_, _, rfl⟩ | (refine Tot.cond (fun _ => ?_) fun _ => ?_) | (exfalso; simp_all; done)
theorem b30 (loops : LoopK) (a b : Int) : bodyL Try.prog polX noCall loops 30 [.int .i64 a, .int .i64 b] [] .plain =
  (cond (cond (!(decide (IntKind.i64.wrap (a - b) < a) == decide (b > 0))) (b != 0) (false)) (some (.ret (.tup [(.int .i64 0), (.int .i64 80)]) [] .plain)) (some (.ret (.tup [(.int .i64 (IntKind.i64.wrap (a - b))), (.int .i64 0)]) [] .plain))) := by kernel_rfl
theorem f30_tot (a b : Int) : Tot (dX 30 [.int .i64 a, .int .i64 b] [] .plain) fun o => ∃ t b, o = .ret (.tup [.int .i64 t, .int .i64 b]) [] .plain :=
  ext_body noCall_le rfl (by kernel_rfl) fun loops => by
    rw [b30]
    repeat' first | exact Tot.some ⟨_, _, rfl⟩ | (refine Tot.cond (fun _ => ?_) fun _ => ?_) | (exfalso; simp_all; done)
theorem b33 (loops : LoopK) (a b : Int) : bodyL Try.prog polX noCall loops 33 [.int .i64 a, .int .i64 b] [] .plain =
  (cond (b == 0) (some (.ret (.tup [(.int .i64 0), (.int .i64 81)]) [] .plain)) (cond (b == -1) (some (.ret (.tup [(.int .i64 0), (.int .i64 0)]) [] .plain)) (cond (b == 0) none (some (.ret (.tup [(.int .i64 (a.tmod b)), (.int .i64 0)]) [] .plain))))) := by kernel_rfl
theorem f33_tot (a b : Int) : Tot (dX 33 [.int .i64 a, .int .i64 b] [] .plain) fun o => ∃ t b, o = .ret (.tup [.int .i64 t, .int .i64 b]) [] .plain :=
  ext_body noCall_le rfl (by kernel_rfl) fun loops => by
    rw [b33]
    repeat' first | exact Tot.some ⟨_, _, rfl⟩ | (refine Tot.cond (fun _ => ?_) fun _ => ?_) | (exfalso; simp_all; done)
theorem b52 (loops : LoopK) (a : Int) : bodyL Try.prog polX noCall loops 52 [.int .i64 a] [] .plain =
  (cond (decide (a < 0)) (some (.ret (.int .u64 (IntKind.u64.wrap (0 - IntKind.u64.wrap a))) [] .plain)) (some (.ret (.int .u64 (IntKind.u64.wrap a)) [] .plain))) := by kernel_rfl
theorem f52_tot (a : Int) : Tot (dX 52 [.int .i64 a] [] .plain) fun o => ∃ n, o = .ret (.int .u64 n) [] .plain :=
  ext_body noCall_le rfl (by kernel_rfl) fun loops => by
    rw [b52]
    repeat' first | exact Tot.some ⟨_, rfl⟩ | (refine Tot.cond (fun _ => ?_) fun _ => ?_) | (exfalso; simp_all; done)
theorem b21 (loops : LoopK) (b : Bool) : bodyL Try.prog polX noCall loops 21 [.bool b] [] .plain =
  (cond (b) (some (.ret (.agg [(.int .i64 3), (.int .u64 1)]) [] .plain)) (some (.ret (.agg [(.int .i64 3), (.int .u64 0)]) [] .plain))) := by kernel_rfl
theorem f21_tot (b : Bool) : Tot (dX 21 [.bool b] [] .plain) fun o => ∃ t b, o = .ret (vl t b) [] .plain :=
  ext_body noCall_le rfl (by kernel_rfl) fun loops => by
    rw [b21]
    repeat' first | exact Tot.some ⟨_, _, rfl⟩ | (refine Tot.cond (fun _ => ?_) fun _ => ?_) | (exfalso; simp_all; done)
theorem b28 (loops : LoopK) (v e : Int) : bodyL Try.prog polX noCall loops 28 [.int .i64 v, .int .i64 e] [] .plain =
  (cond (e == 80) (some (.ret (.tup [(.agg [(.int .i64 0), (.int .u64 0)]), (.int .i64 1)]) [] .plain)) (cond (e == 81) (some (.ret (.tup [(.agg [(.int .i64 0), (.int .u64 0)]), (.int .i64 2)]) [] .plain)) (cond (e == 82) (some (.ret (.tup [(.agg [(.int .i64 0), (.int .u64 0)]), (.int .i64 3)]) [] .plain)) (some (.ret (.tup [(.agg [(.int .i64 1), (.int .u64 (IntKind.u64.wrap v))]), (.int .i64 0)]) [] .plain))))) := by kernel_rfl
theorem f28_tot (v e : Int) : Tot (dX 28 [.int .i64 v, .int .i64 e] [] .plain) fun o => ∃ t b c, o = .ret (.tup [vl t b, .int .i64 c]) [] .plain :=
  ext_body noCall_le rfl (by kernel_rfl) fun loops => by
    rw [b28]
    repeat' first | exact Tot.some ⟨_, _, _, rfl⟩ | (refine Tot.cond (fun _ => ?_) fun _ => ?_) | (exfalso; simp_all; done)
theorem b35 (loops : LoopK) (v : Int) : bodyL Try.prog polX noCall loops 35 [.int .u64 v] [] .plain =
  (some (.ret (.tup [(.agg [(.int .i64 2), (.int .u64 v)]), (.int .i64 0)]) [] .plain)) := by kernel_rfl
theorem f35_tot (v : Int) : Tot (dX 35 [.int .u64 v] [] .plain) fun o => ∃ t b c, o = .ret (.tup [vl t b, .int .i64 c]) [] .plain :=
  ext_body noCall_le rfl (by kernel_rfl) fun loops => by
    rw [b35]
    repeat' first | exact Tot.some ⟨_, _, _, rfl⟩ | (refine Tot.cond (fun _ => ?_) fun _ => ?_) | (exfalso; simp_all; done)
noncomputable def u1 : CallK := fun f args h ps K => match f, args, h, ps with
  | 70, [.int .u8 c], [], .plain => K (.ret (.bool (bF 70 [.int .u8 c])) [] .plain)
  | 71, [.str s], [], .plain => K (.ret (.bool (bF 71 [.str s])) [] .plain)
  | 58, [.agg [.int .i64 k, .int .i64 o, .str m, .str s, .int .i64 t, .int .u64 b, .sl 7 .no n f]], [], .plain => K (.ret (.int .i64 (iF 58 [.agg [.int .i64 k, .int .i64 o, .str m, .str s, .int .i64 t, .int .u64 b, .sl 7 .no n f]])) [] .plain)
  | 27, [.int .u64 a], [], .plain => K (.ret (.int .u64 (iF 27 [.int .u64 a])) [] .plain)
  | 22, [.int .i64 e], [], .plain => K (.ret (.int .i64 (iF 22 [.int .i64 e])) [] .plain)
  | 26, [.int .i64 e], [], .plain => K (.ret (.bool (bF 26 [.int .i64 e])) [] .plain)
  | 29, [.int .i64 a, .int .i64 b], [], .plain => K (.ret (.tup [.int .i64 (tF1 29 [.int .i64 a, .int .i64 b]), .int .i64 (tF2 29 [.int .i64 a, .int .i64 b])]) [] .plain)
  | 30, [.int .i64 a, .int .i64 b], [], .plain => K (.ret (.tup [.int .i64 (tF1 30 [.int .i64 a, .int .i64 b]), .int .i64 (tF2 30 [.int .i64 a, .int .i64 b])]) [] .plain)
  | 33, [.int .i64 a, .int .i64 b], [], .plain => K (.ret (.tup [.int .i64 (tF1 33 [.int .i64 a, .int .i64 b]), .int .i64 (tF2 33 [.int .i64 a, .int .i64 b])]) [] .plain)
  | 52, [.int .i64 a], [], .plain => K (.ret (.int .u64 (iF 52 [.int .i64 a])) [] .plain)
  | 21, [.bool b], [], .plain => K (.ret (vl (tF1 21 [.bool b]) (tF2 21 [.bool b])) [] .plain)
  | 28, [.int .i64 v, .int .i64 e], [], .plain => K (.ret (.tup [vl (tF1 28 [.int .i64 v, .int .i64 e]) (tF2 28 [.int .i64 v, .int .i64 e]), .int .i64 (tF3 28 [.int .i64 v, .int .i64 e])]) [] .plain)
  | 35, [.int .u64 v], [], .plain => K (.ret (.tup [vl (tF1 35 [.int .u64 v]) (tF2 35 [.int .u64 v]), .int .i64 (tF3 35 [.int .u64 v])]) [] .plain)
  | _, _, _, _ => none
theorem u1_le : CallLeK u1 dX := by
  intro f args h ps kk o e
  unfold u1 at e
  split at e
  · exact ⟨_, e, bF_eq (f70_tot _)⟩
  · exact ⟨_, e, bF_eq (f71_tot _)⟩
  · exact ⟨_, e, iF_eq (f58_tot _ _ _ _ _ _ _ _)⟩
  · exact ⟨_, e, iF_eq (f27_tot _)⟩
  · exact ⟨_, e, iF_eq (f22_tot _)⟩
  · exact ⟨_, e, bF_eq (f26_tot _)⟩
  · exact ⟨_, e, iiF_eq (f29_tot _ _)⟩
  · exact ⟨_, e, iiF_eq (f30_tot _ _)⟩
  · exact ⟨_, e, iiF_eq (f33_tot _ _)⟩
  · exact ⟨_, e, iF_eq (f52_tot _)⟩
  · exact ⟨_, e, vF_eq (f21_tot _)⟩
  · exact ⟨_, e, vtF_eq (f28_tot _ _)⟩
  · exact ⟨_, e, vtF_eq (f35_tot _)⟩
  · cases e
end Go.Proofs

/- Expressions: the small functions, step 2. -/
namespace Go.Proofs
open Go.Den
set_option maxRecDepth 100000

theorem b18 (loops : LoopK) (t b : Int) : bodyL Try.prog polX u1 loops 18 [.agg [.int .i64 t, .int .u64 b]] [] .plain =
  (cond (t == 1) (some (.ret (.bool true) [] .plain)) (cond (t == 2) (some (.ret (.bool (iF 27 [AV.int IntKind.u64 b] == b)) [] .plain)) (cond (t == 3) (some (.ret (.bool (decide (b < 2))) [] .plain)) (some (.ret (.bool false) [] .plain))))) := by kernel_rfl
theorem f18_tot (t b : Int) : Tot (dX 18 [.agg [.int .i64 t, .int .u64 b]] [] .plain) fun o => ∃ b, o = .ret (.bool b) [] .plain :=
  ext_body u1_le rfl (by kernel_rfl) fun loops => by
    rw [b18]
    repeat' first | exact Tot.some ⟨_, rfl⟩ | (refine Tot.cond (fun _ => ?_) fun _ => ?_) | (exfalso; simp_all; done)
theorem b61 (loops : LoopK) (t b : Int) : bodyL Try.prog polX u1 loops 61 [.agg [.int .i64 t, .int .u64 b]] [] .plain =
  (cond (t == 1) (some (.ret (.bool (decide (b < 9223372036854775808))) [] .plain)) (cond (t == 2) (some (.ret (.bool (cond (iF 27 [AV.int IntKind.u64 b] == b) (decide (b < 9223372036854775808)) (false))) [] .plain)) (cond (t == 3) (some (.ret (.bool (decide (b < 2))) [] .plain)) (some (.ret (.bool false) [] .plain))))) := by kernel_rfl
theorem f61_tot (t b : Int) : Tot (dX 61 [.agg [.int .i64 t, .int .u64 b]] [] .plain) fun o => ∃ b, o = .ret (.bool b) [] .plain :=
  ext_body u1_le rfl (by kernel_rfl) fun loops => by
    rw [b61]
    repeat' first | exact Tot.some ⟨_, rfl⟩ | (refine Tot.cond (fun _ => ?_) fun _ => ?_) | (exfalso; simp_all; done)
theorem b34 (loops : LoopK) (op : Int) (x y z : Bool) : bodyL Try.prog polX u1 loops 34 [.int .i64 op, .bool x, .bool y, .bool z] [] .plain =
  (cond (op == 6) (some (.ret (.tup [(.agg [(.int .i64 (tF1 21 [AV.bool x])), (.int .u64 (tF2 21 [AV.bool x]))]), (.int .i64 0)]) [] .plain)) (cond (op == 7) (some (.ret (.tup [(.agg [(.int .i64 (tF1 21 [AV.bool !x])), (.int .u64 (tF2 21 [AV.bool !x]))]), (.int .i64 0)]) [] .plain)) (cond (op == 8) (some (.ret (.tup [(.agg [(.int .i64 (tF1 21 [AV.bool y])), (.int .u64 (tF2 21 [AV.bool y]))]), (.int .i64 0)]) [] .plain)) (cond (op == 9) (some (.ret (.tup [(.agg [(.int .i64 (tF1 21 [AV.bool (bif y then true else x)])), (.int .u64 (tF2 21 [AV.bool (bif y then true else x)]))]), (.int .i64 0)]) [] .plain)) (cond (op == 10) (some (.ret (.tup [(.agg [(.int .i64 (tF1 21 [AV.bool z])), (.int .u64 (tF2 21 [AV.bool z]))]), (.int .i64 0)]) [] .plain)) (some (.ret (.tup [(.agg [(.int .i64 (tF1 21 [AV.bool (bif z then true else x)])), (.int .u64 (tF2 21 [AV.bool (bif z then true else x)]))]), (.int .i64 0)]) [] .plain))))))) := by kernel_rfl
theorem f34_tot (op : Int) (x y z : Bool) : Tot (dX 34 [.int .i64 op, .bool x, .bool y, .bool z] [] .plain) fun o => ∃ t b c, o = .ret (.tup [vl t b, .int .i64 c]) [] .plain :=
  ext_body u1_le rfl (by kernel_rfl) fun loops => by
    rw [b34]
    repeat' first | exact Tot.some ⟨_, _, _, rfl⟩ | (refine Tot.cond (fun _ => ?_) fun _ => ?_) | (exfalso; simp_all; done)
theorem b53 (loops : LoopK) (a : Int) : bodyL Try.prog polX u1 loops 53 [.int .i64 a] [] .plain =
  (some (.ret (.tup [(.int .i64 (tF1 30 [AV.int IntKind.i64 0, AV.int IntKind.i64 a])), (.int .i64 (tF2 30 [AV.int IntKind.i64 0, AV.int IntKind.i64 a]))]) [] .plain)) := by kernel_rfl
theorem f53_tot (a : Int) : Tot (dX 53 [.int .i64 a] [] .plain) fun o => ∃ t b, o = .ret (.tup [.int .i64 t, .int .i64 b]) [] .plain :=
  ext_body u1_le rfl (by kernel_rfl) fun loops => by
    rw [b53]
    repeat' first | exact Tot.some ⟨_, _, rfl⟩ | (refine Tot.cond (fun _ => ?_) fun _ => ?_) | (exfalso; simp_all; done)
noncomputable def cF26 (b : Int) : CallK := fun f args h ps K => match f with
  | 26 => chk (args = [.int .i64 b] ∧ h = [] ∧ ps = .plain) (K (.ret (.bool false) [] .plain))
  | _ => none
theorem b63o (loops : LoopK) (a b : Int) : bodyL Try.prog polX noCall loops 63 [.int .i64 a, .int .i64 b] [] .plain =
  (cond (cond (decide (a < 1)) (true) (decide (a > 4))) (some (.ret (.tup [(.int .i64 0), (.int .i64 1)]) [] .plain)) none) := by kernel_rfl
theorem b63f1 (loops : LoopK) (b : Int) : bodyL Try.prog polX (cF26 b) loops 63 [.int .i64 1, .int .i64 b] [] .plain =
  (chk (Eq (α := List AV) [(.int .i64 b)] [(.int .i64 b)] ∧ Eq (α := List Den.Obj) [] [] ∧ Eq (α := PS) .plain .plain) (some (.ret (.tup [(.int .i64 0), (.int .i64 22)]) [] .plain))) := by kernel_rfl
theorem b63f2 (loops : LoopK) (b : Int) : bodyL Try.prog polX (cF26 b) loops 63 [.int .i64 2, .int .i64 b] [] .plain =
  (chk (Eq (α := List AV) [(.int .i64 b)] [(.int .i64 b)] ∧ Eq (α := List Den.Obj) [] [] ∧ Eq (α := PS) .plain .plain) (some (.ret (.tup [(.int .i64 0), (.int .i64 22)]) [] .plain))) := by kernel_rfl
theorem b63f3 (loops : LoopK) (b : Int) : bodyL Try.prog polX (cF26 b) loops 63 [.int .i64 3, .int .i64 b] [] .plain =
  (chk (Eq (α := List AV) [(.int .i64 b)] [(.int .i64 b)] ∧ Eq (α := List Den.Obj) [] [] ∧ Eq (α := PS) .plain .plain) (some (.ret (.tup [(.int .i64 0), (.int .i64 22)]) [] .plain))) := by kernel_rfl
theorem b63f4 (loops : LoopK) (b : Int) : bodyL Try.prog polX (cF26 b) loops 63 [.int .i64 4, .int .i64 b] [] .plain =
  (chk (Eq (α := List AV) [(.int .i64 b)] [(.int .i64 b)] ∧ Eq (α := List Den.Obj) [] [] ∧ Eq (α := PS) .plain .plain) (some (.ret (.tup [(.int .i64 0), (.int .i64 22)]) [] .plain))) := by kernel_rfl
theorem cF26_le {b : Int} (hb : dX 26 [.int .i64 b] [] .plain = some (.ret (.bool false) [] .plain)) : CallLeK (cF26 b) dX := by
  intro f args h ps kk o e
  unfold cF26 at e
  split at e
  · obtain ⟨⟨rfl, rfl, rfl⟩, h2⟩ := chk_some e
    exact ⟨_, h2, hb⟩
  · cases e
theorem v26 (e : Int) : dX 26 [.int .i64 e] [] .plain = some (.ret (.bool (cond (decide (e ≥ 1)) (decide (e ≤ 3)) false)) [] .plain) := by
  obtain ⟨o, h1, h2⟩ := ext_body (f := 26) (args := [.int .i64 e]) (Q := fun o => o = .ret (.bool (cond (decide (e ≥ 1)) (decide (e ≤ 3)) false)) [] .plain) noCall_le rfl (by kernel_rfl) fun loops => by
    rw [b26]; exact Tot.some rfl
  rw [h1, h2]
theorem f63_tot (a b : Int) : Tot (dX 63 [.int .i64 a, .int .i64 b] [] .plain) fun o => ∃ t b, o = .ret (.tup [.int .i64 t, .int .i64 b]) [] .plain := by
  by_cases ha : a < 1 ∨ a > 4
  · refine ext_body noCall_le rfl (by kernel_rfl) fun loops => ?_
    rw [b63o]
    have : (cond (decide (a < 1)) true (decide (a > 4))) = true := by rcases ha with h | h <;> simp [h]
    rw [this]
    exact Tot.some ⟨_, _, rfl⟩
  · by_cases hb : 1 ≤ b ∧ b ≤ 3
    · obtain rfl | rfl | rfl : b = 1 ∨ b = 2 ∨ b = 3 := by omega
      all_goals obtain rfl | rfl | rfl | rfl : a = 1 ∨ a = 2 ∨ a = 3 ∨ a = 4 := by omega
      · exact ⟨_, denA_of (k := 5) (show den Try.prog polX extT 5 63 [.int .i64 1, .int .i64 1] [] .plain = some (.ret (.tup [.int .i64 1, .int .i64 0]) [] .plain) by kernel_rfl), _, _, rfl⟩
      · exact ⟨_, denA_of (k := 5) (show den Try.prog polX extT 5 63 [.int .i64 2, .int .i64 1] [] .plain = some (.ret (.tup [.int .i64 0, .int .i64 22]) [] .plain) by kernel_rfl), _, _, rfl⟩
      · exact ⟨_, denA_of (k := 5) (show den Try.prog polX extT 5 63 [.int .i64 3, .int .i64 1] [] .plain = some (.ret (.tup [.int .i64 0, .int .i64 22]) [] .plain) by kernel_rfl), _, _, rfl⟩
      · exact ⟨_, denA_of (k := 5) (show den Try.prog polX extT 5 63 [.int .i64 4, .int .i64 1] [] .plain = some (.ret (.tup [.int .i64 2, .int .i64 0]) [] .plain) by kernel_rfl), _, _, rfl⟩
      · exact ⟨_, denA_of (k := 5) (show den Try.prog polX extT 5 63 [.int .i64 1, .int .i64 2] [] .plain = some (.ret (.tup [.int .i64 2, .int .i64 0]) [] .plain) by kernel_rfl), _, _, rfl⟩
      · exact ⟨_, denA_of (k := 5) (show den Try.prog polX extT 5 63 [.int .i64 2, .int .i64 2] [] .plain = some (.ret (.tup [.int .i64 0, .int .i64 22]) [] .plain) by kernel_rfl), _, _, rfl⟩
      · exact ⟨_, denA_of (k := 5) (show den Try.prog polX extT 5 63 [.int .i64 3, .int .i64 2] [] .plain = some (.ret (.tup [.int .i64 1, .int .i64 0]) [] .plain) by kernel_rfl), _, _, rfl⟩
      · exact ⟨_, denA_of (k := 5) (show den Try.prog polX extT 5 63 [.int .i64 4, .int .i64 2] [] .plain = some (.ret (.tup [.int .i64 0, .int .i64 22]) [] .plain) by kernel_rfl), _, _, rfl⟩
      · exact ⟨_, denA_of (k := 5) (show den Try.prog polX extT 5 63 [.int .i64 1, .int .i64 3] [] .plain = some (.ret (.tup [.int .i64 0, .int .i64 22]) [] .plain) by kernel_rfl), _, _, rfl⟩
      · exact ⟨_, denA_of (k := 5) (show den Try.prog polX extT 5 63 [.int .i64 2, .int .i64 3] [] .plain = some (.ret (.tup [.int .i64 3, .int .i64 0]) [] .plain) by kernel_rfl), _, _, rfl⟩
      · exact ⟨_, denA_of (k := 5) (show den Try.prog polX extT 5 63 [.int .i64 3, .int .i64 3] [] .plain = some (.ret (.tup [.int .i64 0, .int .i64 22]) [] .plain) by kernel_rfl), _, _, rfl⟩
      · exact ⟨_, denA_of (k := 5) (show den Try.prog polX extT 5 63 [.int .i64 4, .int .i64 3] [] .plain = some (.ret (.tup [.int .i64 0, .int .i64 22]) [] .plain) by kernel_rfl), _, _, rfl⟩
    · have h26 : dX 26 [.int .i64 b] [] .plain = some (.ret (.bool false) [] .plain) := by
        rw [v26]
        have : (cond (decide (b ≥ 1)) (decide (b ≤ 3)) false) = false := by
          by_cases h1 : b ≥ 1
          · simp; omega
          · simp [h1]
        rw [this]
      obtain rfl | rfl | rfl | rfl : a = 1 ∨ a = 2 ∨ a = 3 ∨ a = 4 := by omega
      · refine ext_body (cF26_le h26) rfl (by kernel_rfl) fun loops => ?_
        rw [b63f1]
        exact Tot.chk ⟨rfl, rfl, rfl⟩ (Tot.some ⟨_, _, rfl⟩)
      · refine ext_body (cF26_le h26) rfl (by kernel_rfl) fun loops => ?_
        rw [b63f2]
        exact Tot.chk ⟨rfl, rfl, rfl⟩ (Tot.some ⟨_, _, rfl⟩)
      · refine ext_body (cF26_le h26) rfl (by kernel_rfl) fun loops => ?_
        rw [b63f3]
        exact Tot.chk ⟨rfl, rfl, rfl⟩ (Tot.some ⟨_, _, rfl⟩)
      · refine ext_body (cF26_le h26) rfl (by kernel_rfl) fun loops => ?_
        rw [b63f4]
        exact Tot.chk ⟨rfl, rfl, rfl⟩ (Tot.some ⟨_, _, rfl⟩)
theorem b17 (loops : LoopK) (a b c : Int) : bodyL Try.prog polX u1 loops 17 [.int .i64 a, .int .i64 b, .int .i64 c] [] .plain =
  (cond (cond (decide (a < 1)) (true) (decide (a > 13))) (some (.ret (.tup [(.int .i64 0), (.int .i64 1)]) [] .plain)) (cond ((b != c) == false) (cond (cond (false) (true) (!(bF 26 [AV.int IntKind.i64 b]))) (some (.ret (.tup [(.int .i64 0), (.int .i64 22)]) [] .plain)) (cond (cond (decide (a ≤ 4)) (b != 3) (false)) (cond (cond (decide (a ≤ 4)) (b != 3) (false)) (some (.ret (.tup [(.int .i64 b), (.int .i64 0)]) [] .plain)) (cond (a == 6) (cond (a == 6) (some (.ret (.tup [(.int .i64 3), (.int .i64 0)]) [] .plain)) (some (.ret (.tup [(.int .i64 0), (.int .i64 22)]) [] .plain))) (cond (a == 7) (cond (a == 7) (some (.ret (.tup [(.int .i64 3), (.int .i64 0)]) [] .plain)) (some (.ret (.tup [(.int .i64 0), (.int .i64 22)]) [] .plain))) (cond (cond (cond (decide (a ≥ 8)) (decide (a ≤ 11)) (false)) (b != 3) (false)) (some (.ret (.tup [(.int .i64 3), (.int .i64 0)]) [] .plain)) (some (.ret (.tup [(.int .i64 0), (.int .i64 22)]) [] .plain)))))) (cond (cond (a == 5) (b == 1) (false)) (cond (cond (a == 5) (b == 1) (false)) (some (.ret (.tup [(.int .i64 b), (.int .i64 0)]) [] .plain)) (cond (a == 6) (cond (a == 6) (some (.ret (.tup [(.int .i64 3), (.int .i64 0)]) [] .plain)) (some (.ret (.tup [(.int .i64 0), (.int .i64 22)]) [] .plain))) (cond (a == 7) (cond (a == 7) (some (.ret (.tup [(.int .i64 3), (.int .i64 0)]) [] .plain)) (some (.ret (.tup [(.int .i64 0), (.int .i64 22)]) [] .plain))) (cond (cond (cond (decide (a ≥ 8)) (decide (a ≤ 11)) (false)) (b != 3) (false)) (some (.ret (.tup [(.int .i64 3), (.int .i64 0)]) [] .plain)) (some (.ret (.tup [(.int .i64 0), (.int .i64 22)]) [] .plain)))))) (cond (cond (decide (a ≥ 12)) (!(b != 3)) (false)) (some (.ret (.tup [(.int .i64 b), (.int .i64 0)]) [] .plain)) (cond (a == 6) (cond (a == 6) (some (.ret (.tup [(.int .i64 3), (.int .i64 0)]) [] .plain)) (some (.ret (.tup [(.int .i64 0), (.int .i64 22)]) [] .plain))) (cond (a == 7) (cond (a == 7) (some (.ret (.tup [(.int .i64 3), (.int .i64 0)]) [] .plain)) (some (.ret (.tup [(.int .i64 0), (.int .i64 22)]) [] .plain))) (cond (cond (cond (decide (a ≥ 8)) (decide (a ≤ 11)) (false)) (b != 3) (false)) (some (.ret (.tup [(.int .i64 3), (.int .i64 0)]) [] .plain)) (some (.ret (.tup [(.int .i64 0), (.int .i64 22)]) [] .plain))))))))) (some (.ret (.tup [(.int .i64 0), (.int .i64 22)]) [] .plain)))) := by kernel_rfl
theorem f17_tot (a b c : Int) : Tot (dX 17 [.int .i64 a, .int .i64 b, .int .i64 c] [] .plain) fun o => ∃ t b, o = .ret (.tup [.int .i64 t, .int .i64 b]) [] .plain :=
  ext_body u1_le rfl (by kernel_rfl) fun loops => by
    rw [b17]
    repeat' first | exact Tot.some ⟨_, _, rfl⟩ | (refine Tot.cond (fun _ => ?_) fun _ => ?_) | (exfalso; simp_all; done)
theorem b66 (loops : LoopK) (a : Int) : bodyL Try.prog polX u1 loops 66 [.int .u64 a] [] .plain =
  (some (.ret (.int .u64 (iF 27 [AV.int IntKind.u64 (IntKind.u64.wrap (↑(BitVec.ofInt IntKind.u64.bits a ^^^ BitVec.ofInt IntKind.u64.bits 9223372036854775808).toNat : Int))])) [] .plain)) := by kernel_rfl
theorem f66_tot (a : Int) : Tot (dX 66 [.int .u64 a] [] .plain) fun o => ∃ n, o = .ret (.int .u64 n) [] .plain :=
  ext_body u1_le rfl (by kernel_rfl) fun loops => by
    rw [b66]
    repeat' first | exact Tot.some ⟨_, rfl⟩ | (refine Tot.cond (fun _ => ?_) fun _ => ?_) | (exfalso; simp_all; done)
theorem b69 (loops : LoopK) (k o t b : Int) (m s : List UInt8) (n : Nat) (f : Fin n → List AV) (q : Int) : bodyL Try.prog polX u1 loops 69 [.agg [.int .i64 k, .int .i64 o, .str m, .str s, .int .i64 t, .int .u64 b, .sl 7 .no n f], .int .i64 q] [] .plain =
  (cond (cond (decide (q > 0)) (true) (iF 58 [AV.agg [AV.int IntKind.i64 k, AV.int IntKind.i64 o, AV.str m, AV.str s, AV.int IntKind.i64 t, AV.int IntKind.u64 b, AV.sl 7 Tok.no n f]] == 3)) (some (.ret (.int .i64 (IntKind.i64.wrap (iF 58 [AV.agg [AV.int IntKind.i64 k, AV.int IntKind.i64 o, AV.str m, AV.str s, AV.int IntKind.i64 t, AV.int IntKind.u64 b, AV.sl 7 Tok.no n f]] + 1))) [] .plain)) (some (.ret (.int .i64 (iF 58 [AV.agg [AV.int IntKind.i64 k, AV.int IntKind.i64 o, AV.str m, AV.str s, AV.int IntKind.i64 t, AV.int IntKind.u64 b, AV.sl 7 Tok.no n f]])) [] .plain))) := by kernel_rfl
theorem f69_tot (k o t b : Int) (m s : List UInt8) (n : Nat) (f : Fin n → List AV) (q : Int) : Tot (dX 69 [.agg [.int .i64 k, .int .i64 o, .str m, .str s, .int .i64 t, .int .u64 b, .sl 7 .no n f], .int .i64 q] [] .plain) fun o => ∃ n, o = .ret (.int .i64 n) [] .plain :=
  ext_body u1_le rfl (by kernel_rfl) fun loops => by
    rw [b69]
    repeat' first | exact Tot.some ⟨_, rfl⟩ | (refine Tot.cond (fun _ => ?_) fun _ => ?_) | (exfalso; simp_all; done)
noncomputable def u2 : CallK := fun f args h ps K => match f, args, h, ps with
  | 18, [.agg [.int .i64 t, .int .u64 b]], [], .plain => K (.ret (.bool (bF 18 [.agg [.int .i64 t, .int .u64 b]])) [] .plain)
  | 61, [.agg [.int .i64 t, .int .u64 b]], [], .plain => K (.ret (.bool (bF 61 [.agg [.int .i64 t, .int .u64 b]])) [] .plain)
  | 34, [.int .i64 op, .bool x, .bool y, .bool z], [], .plain => K (.ret (.tup [vl (tF1 34 [.int .i64 op, .bool x, .bool y, .bool z]) (tF2 34 [.int .i64 op, .bool x, .bool y, .bool z]), .int .i64 (tF3 34 [.int .i64 op, .bool x, .bool y, .bool z])]) [] .plain)
  | 53, [.int .i64 a], [], .plain => K (.ret (.tup [.int .i64 (tF1 53 [.int .i64 a]), .int .i64 (tF2 53 [.int .i64 a])]) [] .plain)
  | 63, [.int .i64 a, .int .i64 b], [], .plain => K (.ret (.tup [.int .i64 (tF1 63 [.int .i64 a, .int .i64 b]), .int .i64 (tF2 63 [.int .i64 a, .int .i64 b])]) [] .plain)
  | 17, [.int .i64 a, .int .i64 b, .int .i64 c], [], .plain => K (.ret (.tup [.int .i64 (tF1 17 [.int .i64 a, .int .i64 b, .int .i64 c]), .int .i64 (tF2 17 [.int .i64 a, .int .i64 b, .int .i64 c])]) [] .plain)
  | 66, [.int .u64 a], [], .plain => K (.ret (.int .u64 (iF 66 [.int .u64 a])) [] .plain)
  | 69, [.agg [.int .i64 k, .int .i64 o, .str m, .str s, .int .i64 t, .int .u64 b, .sl 7 .no n f], .int .i64 q], [], .plain => K (.ret (.int .i64 (iF 69 [.agg [.int .i64 k, .int .i64 o, .str m, .str s, .int .i64 t, .int .u64 b, .sl 7 .no n f], .int .i64 q])) [] .plain)
  | _, _, _, _ => u1 f args h ps K
theorem u2_le : CallLeK u2 dX := by
  intro f args h ps kk o e
  unfold u2 at e
  split at e
  · exact ⟨_, e, bF_eq (f18_tot _ _)⟩
  · exact ⟨_, e, bF_eq (f61_tot _ _)⟩
  · exact ⟨_, e, vtF_eq (f34_tot _ _ _ _)⟩
  · exact ⟨_, e, iiF_eq (f53_tot _)⟩
  · exact ⟨_, e, iiF_eq (f63_tot _ _)⟩
  · exact ⟨_, e, iiF_eq (f17_tot _ _ _)⟩
  · exact ⟨_, e, iF_eq (f66_tot _)⟩
  · exact ⟨_, e, iF_eq (f69_tot _ _ _ _ _ _ _ _ _)⟩
  · exact u1_le _ _ _ _ _ _ e
end Go.Proofs

/- Expressions: the small functions, step 3. -/
namespace Go.Proofs
open Go.Den
set_option maxRecDepth 100000

theorem b59 (loops : LoopK) (k o t b : Int) (m s : List UInt8) (n : Nat) (f : Fin n → List AV) (q : Int) : bodyL Try.prog polX u2 loops 59 [.agg [.int .i64 k, .int .i64 o, .str m, .str s, .int .i64 t, .int .u64 b, .sl 7 .no n f], .int .i64 q] [] .plain =
  (cond (k == 4) (cond (k == 4) (some (.ret (.tup [(.int .i64 1), (.int .i64 1)]) [] .plain)) (cond (cond (k == 6) (iF 58 [AV.agg [AV.int IntKind.i64 k, AV.int IntKind.i64 o, AV.str m, AV.str s, AV.int IntKind.i64 t, AV.int IntKind.u64 b, AV.sl 7 Tok.no n f]] == 6) (false)) (some (.ret (.tup [(.int .i64 6), (.int .i64 1)]) [] .plain)) (cond (cond (k == 6) (cond (o == 3) (true) (o == 4)) (false)) (some (.ret (.tup [(.int .i64 1), (.int .i64 1)]) [] .plain)) (cond (cond (k == 7) (decide (iF 58 [AV.agg [AV.int IntKind.i64 k, AV.int IntKind.i64 o, AV.str m, AV.str s, AV.int IntKind.i64 t, AV.int IntKind.u64 b, AV.sl 7 Tok.no n f]] < 7)) (false)) (some (.ret (.tup [(.int .i64 (iF 69 [AV.agg [AV.int IntKind.i64 k, AV.int IntKind.i64 o, AV.str m, AV.str s, AV.int IntKind.i64 t, AV.int IntKind.u64 b, AV.sl 7 Tok.no n f], AV.int IntKind.i64 q])), (.int .i64 0)]) [] .plain)) (some (.ret (.tup [(.int .i64 1), (.int .i64 0)]) [] .plain)))))) (cond (k == 5) (some (.ret (.tup [(.int .i64 1), (.int .i64 1)]) [] .plain)) (cond (cond (k == 6) (iF 58 [AV.agg [AV.int IntKind.i64 k, AV.int IntKind.i64 o, AV.str m, AV.str s, AV.int IntKind.i64 t, AV.int IntKind.u64 b, AV.sl 7 Tok.no n f]] == 6) (false)) (some (.ret (.tup [(.int .i64 6), (.int .i64 1)]) [] .plain)) (cond (cond (k == 6) (cond (o == 3) (true) (o == 4)) (false)) (some (.ret (.tup [(.int .i64 1), (.int .i64 1)]) [] .plain)) (cond (cond (k == 7) (decide (iF 58 [AV.agg [AV.int IntKind.i64 k, AV.int IntKind.i64 o, AV.str m, AV.str s, AV.int IntKind.i64 t, AV.int IntKind.u64 b, AV.sl 7 Tok.no n f]] < 7)) (false)) (some (.ret (.tup [(.int .i64 (iF 69 [AV.agg [AV.int IntKind.i64 k, AV.int IntKind.i64 o, AV.str m, AV.str s, AV.int IntKind.i64 t, AV.int IntKind.u64 b, AV.sl 7 Tok.no n f], AV.int IntKind.i64 q])), (.int .i64 0)]) [] .plain)) (some (.ret (.tup [(.int .i64 1), (.int .i64 0)]) [] .plain))))))) := by kernel_rfl
theorem f59_tot (k o t b : Int) (m s : List UInt8) (n : Nat) (f : Fin n → List AV) (q : Int) : Tot (dX 59 [.agg [.int .i64 k, .int .i64 o, .str m, .str s, .int .i64 t, .int .u64 b, .sl 7 .no n f], .int .i64 q] [] .plain) fun o => ∃ t b, o = .ret (.tup [.int .i64 t, .int .i64 b]) [] .plain :=
  ext_body u2_le rfl (by kernel_rfl) fun loops => by
    rw [b59]
    repeat' first | exact Tot.some ⟨_, _, rfl⟩ | (refine Tot.cond (fun _ => ?_) fun _ => ?_) | (exfalso; simp_all; done)
theorem b32 (loops : LoopK) (a b : Int) : bodyL Try.prog polX u2 loops 32 [.int .i64 a, .int .i64 b] [] .plain =
  (cond (b == 0) (some (.ret (.tup [(.int .i64 0), (.int .i64 81)]) [] .plain)) (cond (b == -1) (some (.ret (.tup [(.int .i64 (tF1 53 [AV.int IntKind.i64 a])), (.int .i64 (tF2 53 [AV.int IntKind.i64 a]))]) [] .plain)) (cond (b == 0) none (some (.ret (.tup [(.int .i64 (IntKind.i64.wrap (a.tdiv b))), (.int .i64 0)]) [] .plain))))) := by kernel_rfl
theorem f32_tot (a b : Int) : Tot (dX 32 [.int .i64 a, .int .i64 b] [] .plain) fun o => ∃ t b, o = .ret (.tup [.int .i64 t, .int .i64 b]) [] .plain :=
  ext_body u2_le rfl (by kernel_rfl) fun loops => by
    rw [b32]
    repeat' first | exact Tot.some ⟨_, _, rfl⟩ | (refine Tot.cond (fun _ => ?_) fun _ => ?_) | (exfalso; simp_all; done)
noncomputable def u3 : CallK := fun f args h ps K => match f, args, h, ps with
  | 59, [.agg [.int .i64 k, .int .i64 o, .str m, .str s, .int .i64 t, .int .u64 b, .sl 7 .no n f], .int .i64 q], [], .plain => K (.ret (.tup [.int .i64 (tF1 59 [.agg [.int .i64 k, .int .i64 o, .str m, .str s, .int .i64 t, .int .u64 b, .sl 7 .no n f], .int .i64 q]), .int .i64 (tF2 59 [.agg [.int .i64 k, .int .i64 o, .str m, .str s, .int .i64 t, .int .u64 b, .sl 7 .no n f], .int .i64 q])]) [] .plain)
  | 32, [.int .i64 a, .int .i64 b], [], .plain => K (.ret (.tup [.int .i64 (tF1 32 [.int .i64 a, .int .i64 b]), .int .i64 (tF2 32 [.int .i64 a, .int .i64 b])]) [] .plain)
  | _, _, _, _ => u2 f args h ps K
theorem u3_le : CallLeK u3 dX := by
  intro f args h ps kk o e
  unfold u3 at e
  split at e
  · exact ⟨_, e, iiF_eq (f59_tot _ _ _ _ _ _ _ _ _)⟩
  · exact ⟨_, e, iiF_eq (f32_tot _ _)⟩
  · exact u2_le _ _ _ _ _ _ e
end Go.Proofs

/- Expressions: the small functions, step 4. -/
namespace Go.Proofs
open Go.Den
set_option maxRecDepth 100000

theorem b51 (loops : LoopK) (a b : Int) : bodyL Try.prog polX u3 loops 51 [.int .u64 a, .int .u64 b] [] .plain =
  (some (.ret (.tup [(.int .u64 (IntKind.u64.wrap (IntKind.u64.wrap (IntKind.u64.wrap (a.fdiv (2 ^ min (Int.toNat 32) IntKind.u64.bits) * b.fdiv (2 ^ min (Int.toNat 32) IntKind.u64.bits)) + (IntKind.u64.wrap (IntKind.u64.wrap (a.fdiv (2 ^ min (Int.toNat 32) IntKind.u64.bits) * IntKind.u64.wrap (↑(BitVec.ofInt IntKind.u64.bits b &&& BitVec.ofInt IntKind.u64.bits 4294967295).toNat : Int)) + (IntKind.u64.wrap (IntKind.u64.wrap (↑(BitVec.ofInt IntKind.u64.bits a &&& BitVec.ofInt IntKind.u64.bits 4294967295).toNat : Int) * IntKind.u64.wrap (↑(BitVec.ofInt IntKind.u64.bits b &&& BitVec.ofInt IntKind.u64.bits 4294967295).toNat : Int))).fdiv (2 ^ min (Int.toNat 32) IntKind.u64.bits))).fdiv (2 ^ min (Int.toNat 32) IntKind.u64.bits)) + (IntKind.u64.wrap (IntKind.u64.wrap (↑(BitVec.ofInt IntKind.u64.bits (IntKind.u64.wrap (IntKind.u64.wrap (a.fdiv (2 ^ min (Int.toNat 32) IntKind.u64.bits) * IntKind.u64.wrap (↑(BitVec.ofInt IntKind.u64.bits b &&& BitVec.ofInt IntKind.u64.bits 4294967295).toNat : Int)) + (IntKind.u64.wrap (IntKind.u64.wrap (↑(BitVec.ofInt IntKind.u64.bits a &&& BitVec.ofInt IntKind.u64.bits 4294967295).toNat : Int) * IntKind.u64.wrap (↑(BitVec.ofInt IntKind.u64.bits b &&& BitVec.ofInt IntKind.u64.bits 4294967295).toNat : Int))).fdiv (2 ^ min (Int.toNat 32) IntKind.u64.bits))) &&& BitVec.ofInt IntKind.u64.bits 4294967295).toNat : Int) + IntKind.u64.wrap (IntKind.u64.wrap (↑(BitVec.ofInt IntKind.u64.bits a &&& BitVec.ofInt IntKind.u64.bits 4294967295).toNat : Int) * b.fdiv (2 ^ min (Int.toNat 32) IntKind.u64.bits)))).fdiv (2 ^ min (Int.toNat 32) IntKind.u64.bits)))), (.int .u64 (IntKind.u64.wrap (a * b)))]) [] .plain)) := by kernel_rfl
theorem f51_tot (a b : Int) : Tot (dX 51 [.int .u64 a, .int .u64 b] [] .plain) fun o => ∃ t b, o = .ret (.tup [.int .u64 t, .int .u64 b]) [] .plain :=
  ext_body u3_le rfl (by kernel_rfl) fun loops => by
    rw [b51]
    repeat' first | exact Tot.some ⟨_, _, rfl⟩ | (refine Tot.cond (fun _ => ?_) fun _ => ?_) | (exfalso; simp_all; done)
noncomputable def u4 : CallK := fun f args h ps K => match f, args, h, ps with
  | 51, [.int .u64 a, .int .u64 b], [], .plain => K (.ret (.tup [.int .u64 (tF1 51 [.int .u64 a, .int .u64 b]), .int .u64 (tF2 51 [.int .u64 a, .int .u64 b])]) [] .plain)
  | 36, [.int .u64 a, .int .u64 b], [], .plain => K (.ret (.int .u64 (arI .add a b)) [] .plain)
  | 37, [.int .u64 a, .int .u64 b], [], .plain => K (.ret (.int .u64 (arI .sub a b)) [] .plain)
  | 38, [.int .u64 a, .int .u64 b], [], .plain => K (.ret (.int .u64 (arI .mul a b)) [] .plain)
  | 39, [.int .u64 a, .int .u64 b], [], .plain => K (.ret (.int .u64 (arI .quo a b)) [] .plain)
  | 40, [.int .u64 a, .int .u64 b], [], .plain => K (.ret (.bool (eqF a b)) [] .plain)
  | 41, [.int .u64 a, .int .u64 b], [], .plain => K (.ret (.bool (ltF a b)) [] .plain)
  | 64, [.int .u64 a], [], .plain => K (.ret (.tup [.int .i64 ((toI a).getD 0), .int .i64 (if (toI a).isSome then 0 else 82)]) [] .plain)
  | 65, [.int .i64 n], [], .plain => K (.ret (.int .u64 (fromI n)) [] .plain)
  | _, _, _, _ => u3 f args h ps K
theorem u4_le : CallLeK u4 dX := by
  intro f args h ps kk o e
  unfold u4 at e
  split at e
  · exact ⟨_, e, iiF_eq (f51_tot _ _)⟩
  · exact ⟨_, e, of_ext rfl rfl⟩
  · exact ⟨_, e, of_ext rfl rfl⟩
  · exact ⟨_, e, of_ext rfl rfl⟩
  · exact ⟨_, e, of_ext rfl rfl⟩
  · exact ⟨_, e, of_ext rfl rfl⟩
  · exact ⟨_, e, of_ext rfl rfl⟩
  · exact ⟨_, e, of_ext rfl rfl⟩
  · exact ⟨_, e, of_ext rfl rfl⟩
  · exact u3_le _ _ _ _ _ _ e
end Go.Proofs

/- Expressions: the small functions, step 5. -/
namespace Go.Proofs
open Go.Den
set_option maxRecDepth 100000

theorem b31 (loops : LoopK) (a b : Int) : bodyL Try.prog polX u4 loops 31 [.int .i64 a, .int .i64 b] [] .plain =
  (cond (tF1 51 [AV.int IntKind.u64 (iF 52 [AV.int IntKind.i64 a]), AV.int IntKind.u64 (iF 52 [AV.int IntKind.i64 b])] != 0) (some (.ret (.tup [(.int .i64 0), (.int .i64 80)]) [] .plain)) (cond (cond (!(decide (a < 0) == decide (b < 0))) (decide (tF2 51 [AV.int IntKind.u64 (iF 52 [AV.int IntKind.i64 a]), AV.int IntKind.u64 (iF 52 [AV.int IntKind.i64 b])] ≤ 9223372036854775808)) (false)) (some (.ret (.tup [(.int .i64 (IntKind.i64.wrap (0 - IntKind.i64.wrap (tF2 51 [AV.int IntKind.u64 (iF 52 [AV.int IntKind.i64 a]), AV.int IntKind.u64 (iF 52 [AV.int IntKind.i64 b])])))), (.int .i64 0)]) [] .plain)) (cond (cond (!(!(decide (a < 0) == decide (b < 0)))) (decide (tF2 51 [AV.int IntKind.u64 (iF 52 [AV.int IntKind.i64 a]), AV.int IntKind.u64 (iF 52 [AV.int IntKind.i64 b])] < 9223372036854775808)) (false)) (some (.ret (.tup [(.int .i64 (IntKind.i64.wrap (tF2 51 [AV.int IntKind.u64 (iF 52 [AV.int IntKind.i64 a]), AV.int IntKind.u64 (iF 52 [AV.int IntKind.i64 b])]))), (.int .i64 0)]) [] .plain)) (some (.ret (.tup [(.int .i64 0), (.int .i64 80)]) [] .plain))))) := by kernel_rfl
theorem f31_tot (a b : Int) : Tot (dX 31 [.int .i64 a, .int .i64 b] [] .plain) fun o => ∃ t b, o = .ret (.tup [.int .i64 t, .int .i64 b]) [] .plain :=
  ext_body u4_le rfl (by kernel_rfl) fun loops => by
    rw [b31]
    repeat' first | exact Tot.some ⟨_, _, rfl⟩ | (refine Tot.cond (fun _ => ?_) fun _ => ?_) | (exfalso; simp_all; done)
theorem b20 (loops : LoopK) (op a b : Int) : bodyL Try.prog polX u4 loops 20 [.int .i64 op, .int .u64 a, .int .u64 b] [] .plain =
  (cond (op == 1) (some (.ret (.tup [(.agg [(.int .i64 (tF1 35 [AV.int IntKind.u64 (arI BinOp.add a b)])), (.int .u64 (tF2 35 [AV.int IntKind.u64 (arI BinOp.add a b)]))]), (.int .i64 (tF3 35 [AV.int IntKind.u64 (arI BinOp.add a b)]))]) [] .plain)) (cond (op == 2) (some (.ret (.tup [(.agg [(.int .i64 (tF1 35 [AV.int IntKind.u64 (arI BinOp.sub a b)])), (.int .u64 (tF2 35 [AV.int IntKind.u64 (arI BinOp.sub a b)]))]), (.int .i64 (tF3 35 [AV.int IntKind.u64 (arI BinOp.sub a b)]))]) [] .plain)) (cond (op == 3) (some (.ret (.tup [(.agg [(.int .i64 (tF1 35 [AV.int IntKind.u64 (arI BinOp.mul a b)])), (.int .u64 (tF2 35 [AV.int IntKind.u64 (arI BinOp.mul a b)]))]), (.int .i64 (tF3 35 [AV.int IntKind.u64 (arI BinOp.mul a b)]))]) [] .plain)) (cond (op == 4) (some (.ret (.tup [(.agg [(.int .i64 (tF1 35 [AV.int IntKind.u64 (arI BinOp.quo a b)])), (.int .u64 (tF2 35 [AV.int IntKind.u64 (arI BinOp.quo a b)]))]), (.int .i64 (tF3 35 [AV.int IntKind.u64 (arI BinOp.quo a b)]))]) [] .plain)) (some (.ret (.tup [(.agg [(.int .i64 (tF1 34 [AV.int IntKind.i64 op, AV.bool (eqF a b), AV.bool (ltF a b), AV.bool (ltF b a)])), (.int .u64 (tF2 34 [AV.int IntKind.i64 op, AV.bool (eqF a b), AV.bool (ltF a b), AV.bool (ltF b a)]))]), (.int .i64 (tF3 34 [AV.int IntKind.i64 op, AV.bool (eqF a b), AV.bool (ltF a b), AV.bool (ltF b a)]))]) [] .plain)))))) := by kernel_rfl
theorem f20_tot (op a b : Int) : Tot (dX 20 [.int .i64 op, .int .u64 a, .int .u64 b] [] .plain) fun o => ∃ t b c, o = .ret (.tup [vl t b, .int .i64 c]) [] .plain :=
  ext_body u4_le rfl (by kernel_rfl) fun loops => by
    rw [b20]
    repeat' first | exact Tot.some ⟨_, _, _, rfl⟩ | (refine Tot.cond (fun _ => ?_) fun _ => ?_) | (exfalso; simp_all; done)
theorem b50 (loops : LoopK) (op t b : Int) : bodyL Try.prog polX u4 loops 50 [.int .i64 op, .agg [.int .i64 t, .int .u64 b]] [] .plain =
  (cond ((tF2 63 [AV.int IntKind.i64 op, AV.int IntKind.i64 t] != 0) == false) (cond (cond (false) (true) (!(bF 18 [AV.agg [AV.int IntKind.i64 t, AV.int IntKind.u64 b]]))) (some (.ret (.tup [(.agg [(.int .i64 0), (.int .u64 0)]), (.int .i64 (-1))]) [] .plain)) (cond (op == 2) (some (.ret (.tup [(.agg [(.int .i64 (tF1 21 [AV.bool (b == 0)])), (.int .u64 (tF2 21 [AV.bool (b == 0)]))]), (.int .i64 0)]) [] .plain)) (cond (op == 3) (some (.ret (.tup [(.agg [(.int .i64 (tF1 28 [AV.int IntKind.i64 ((toI b).getD 0), AV.int IntKind.i64 (if (toI b).isSome = true then 0 else 82)])), (.int .u64 (tF2 28 [AV.int IntKind.i64 ((toI b).getD 0), AV.int IntKind.i64 (if (toI b).isSome = true then 0 else 82)]))]), (.int .i64 (tF3 28 [AV.int IntKind.i64 ((toI b).getD 0), AV.int IntKind.i64 (if (toI b).isSome = true then 0 else 82)]))]) [] .plain)) (cond (op == 4) (some (.ret (.tup [(.agg [(.int .i64 (tF1 35 [AV.int IntKind.u64 (fromI (IntKind.i64.wrap b))])), (.int .u64 (tF2 35 [AV.int IntKind.u64 (fromI (IntKind.i64.wrap b))]))]), (.int .i64 (tF3 35 [AV.int IntKind.u64 (fromI (IntKind.i64.wrap b))]))]) [] .plain)) (cond (t == 2) (some (.ret (.tup [(.agg [(.int .i64 (tF1 35 [AV.int IntKind.u64 (iF 66 [AV.int IntKind.u64 b])])), (.int .u64 (tF2 35 [AV.int IntKind.u64 (iF 66 [AV.int IntKind.u64 b])]))]), (.int .i64 (tF3 35 [AV.int IntKind.u64 (iF 66 [AV.int IntKind.u64 b])]))]) [] .plain)) (some (.ret (.tup [(.agg [(.int .i64 (tF1 28 [AV.int IntKind.i64 (tF1 53 [AV.int IntKind.i64 (IntKind.i64.wrap b)]), AV.int IntKind.i64 (tF2 53 [AV.int IntKind.i64 (IntKind.i64.wrap b)])])), (.int .u64 (tF2 28 [AV.int IntKind.i64 (tF1 53 [AV.int IntKind.i64 (IntKind.i64.wrap b)]), AV.int IntKind.i64 (tF2 53 [AV.int IntKind.i64 (IntKind.i64.wrap b)])]))]), (.int .i64 (tF3 28 [AV.int IntKind.i64 (tF1 53 [AV.int IntKind.i64 (IntKind.i64.wrap b)]), AV.int IntKind.i64 (tF2 53 [AV.int IntKind.i64 (IntKind.i64.wrap b)])]))]) [] .plain))))))) (some (.ret (.tup [(.agg [(.int .i64 0), (.int .u64 0)]), (.int .i64 (-1))]) [] .plain))) := by kernel_rfl
theorem f50_tot (op t b : Int) : Tot (dX 50 [.int .i64 op, .agg [.int .i64 t, .int .u64 b]] [] .plain) fun o => ∃ t b c, o = .ret (.tup [vl t b, .int .i64 c]) [] .plain :=
  ext_body u4_le rfl (by kernel_rfl) fun loops => by
    rw [b50]
    repeat' first | exact Tot.some ⟨_, _, _, rfl⟩ | (refine Tot.cond (fun _ => ?_) fun _ => ?_) | (exfalso; simp_all; done)
noncomputable def u5 : CallK := fun f args h ps K => match f, args, h, ps with
  | 31, [.int .i64 a, .int .i64 b], [], .plain => K (.ret (.tup [.int .i64 (tF1 31 [.int .i64 a, .int .i64 b]), .int .i64 (tF2 31 [.int .i64 a, .int .i64 b])]) [] .plain)
  | 20, [.int .i64 op, .int .u64 a, .int .u64 b], [], .plain => K (.ret (.tup [vl (tF1 20 [.int .i64 op, .int .u64 a, .int .u64 b]) (tF2 20 [.int .i64 op, .int .u64 a, .int .u64 b]), .int .i64 (tF3 20 [.int .i64 op, .int .u64 a, .int .u64 b])]) [] .plain)
  | 50, [.int .i64 op, .agg [.int .i64 t, .int .u64 b]], [], .plain => K (.ret (.tup [vl (tF1 50 [.int .i64 op, .agg [.int .i64 t, .int .u64 b]]) (tF2 50 [.int .i64 op, .agg [.int .i64 t, .int .u64 b]]), .int .i64 (tF3 50 [.int .i64 op, .agg [.int .i64 t, .int .u64 b]])]) [] .plain)
  | _, _, _, _ => u4 f args h ps K
theorem u5_le : CallLeK u5 dX := by
  intro f args h ps kk o e
  unfold u5 at e
  split at e
  · exact ⟨_, e, iiF_eq (f31_tot _ _)⟩
  · exact ⟨_, e, vtF_eq (f20_tot _ _ _)⟩
  · exact ⟨_, e, vtF_eq (f50_tot _ _ _)⟩
  · exact u4_le _ _ _ _ _ _ e
end Go.Proofs

/- Expressions: the small functions, step 6. -/
namespace Go.Proofs
open Go.Den
set_option maxRecDepth 100000

theorem b19 (loops : LoopK) (op a b : Int) : bodyL Try.prog polX u5 loops 19 [.int .i64 op, .int .i64 a, .int .i64 b] [] .plain =
  (cond (op == 1) (some (.ret (.tup [(.agg [(.int .i64 (tF1 28 [AV.int IntKind.i64 (tF1 29 [AV.int IntKind.i64 a, AV.int IntKind.i64 b]), AV.int IntKind.i64 (tF2 29 [AV.int IntKind.i64 a, AV.int IntKind.i64 b])])), (.int .u64 (tF2 28 [AV.int IntKind.i64 (tF1 29 [AV.int IntKind.i64 a, AV.int IntKind.i64 b]), AV.int IntKind.i64 (tF2 29 [AV.int IntKind.i64 a, AV.int IntKind.i64 b])]))]), (.int .i64 (tF3 28 [AV.int IntKind.i64 (tF1 29 [AV.int IntKind.i64 a, AV.int IntKind.i64 b]), AV.int IntKind.i64 (tF2 29 [AV.int IntKind.i64 a, AV.int IntKind.i64 b])]))]) [] .plain)) (cond (op == 2) (some (.ret (.tup [(.agg [(.int .i64 (tF1 28 [AV.int IntKind.i64 (tF1 30 [AV.int IntKind.i64 a, AV.int IntKind.i64 b]), AV.int IntKind.i64 (tF2 30 [AV.int IntKind.i64 a, AV.int IntKind.i64 b])])), (.int .u64 (tF2 28 [AV.int IntKind.i64 (tF1 30 [AV.int IntKind.i64 a, AV.int IntKind.i64 b]), AV.int IntKind.i64 (tF2 30 [AV.int IntKind.i64 a, AV.int IntKind.i64 b])]))]), (.int .i64 (tF3 28 [AV.int IntKind.i64 (tF1 30 [AV.int IntKind.i64 a, AV.int IntKind.i64 b]), AV.int IntKind.i64 (tF2 30 [AV.int IntKind.i64 a, AV.int IntKind.i64 b])]))]) [] .plain)) (cond (op == 3) (some (.ret (.tup [(.agg [(.int .i64 (tF1 28 [AV.int IntKind.i64 (tF1 31 [AV.int IntKind.i64 a, AV.int IntKind.i64 b]), AV.int IntKind.i64 (tF2 31 [AV.int IntKind.i64 a, AV.int IntKind.i64 b])])), (.int .u64 (tF2 28 [AV.int IntKind.i64 (tF1 31 [AV.int IntKind.i64 a, AV.int IntKind.i64 b]), AV.int IntKind.i64 (tF2 31 [AV.int IntKind.i64 a, AV.int IntKind.i64 b])]))]), (.int .i64 (tF3 28 [AV.int IntKind.i64 (tF1 31 [AV.int IntKind.i64 a, AV.int IntKind.i64 b]), AV.int IntKind.i64 (tF2 31 [AV.int IntKind.i64 a, AV.int IntKind.i64 b])]))]) [] .plain)) (cond (op == 4) (some (.ret (.tup [(.agg [(.int .i64 (tF1 28 [AV.int IntKind.i64 (tF1 32 [AV.int IntKind.i64 a, AV.int IntKind.i64 b]), AV.int IntKind.i64 (tF2 32 [AV.int IntKind.i64 a, AV.int IntKind.i64 b])])), (.int .u64 (tF2 28 [AV.int IntKind.i64 (tF1 32 [AV.int IntKind.i64 a, AV.int IntKind.i64 b]), AV.int IntKind.i64 (tF2 32 [AV.int IntKind.i64 a, AV.int IntKind.i64 b])]))]), (.int .i64 (tF3 28 [AV.int IntKind.i64 (tF1 32 [AV.int IntKind.i64 a, AV.int IntKind.i64 b]), AV.int IntKind.i64 (tF2 32 [AV.int IntKind.i64 a, AV.int IntKind.i64 b])]))]) [] .plain)) (cond (op == 5) (some (.ret (.tup [(.agg [(.int .i64 (tF1 28 [AV.int IntKind.i64 (tF1 33 [AV.int IntKind.i64 a, AV.int IntKind.i64 b]), AV.int IntKind.i64 (tF2 33 [AV.int IntKind.i64 a, AV.int IntKind.i64 b])])), (.int .u64 (tF2 28 [AV.int IntKind.i64 (tF1 33 [AV.int IntKind.i64 a, AV.int IntKind.i64 b]), AV.int IntKind.i64 (tF2 33 [AV.int IntKind.i64 a, AV.int IntKind.i64 b])]))]), (.int .i64 (tF3 28 [AV.int IntKind.i64 (tF1 33 [AV.int IntKind.i64 a, AV.int IntKind.i64 b]), AV.int IntKind.i64 (tF2 33 [AV.int IntKind.i64 a, AV.int IntKind.i64 b])]))]) [] .plain)) (some (.ret (.tup [(.agg [(.int .i64 (tF1 34 [AV.int IntKind.i64 op, AV.bool (a == b), AV.bool (decide (a < b)), AV.bool (decide (a > b))])), (.int .u64 (tF2 34 [AV.int IntKind.i64 op, AV.bool (a == b), AV.bool (decide (a < b)), AV.bool (decide (a > b))]))]), (.int .i64 (tF3 34 [AV.int IntKind.i64 op, AV.bool (a == b), AV.bool (decide (a < b)), AV.bool (decide (a > b))]))]) [] .plain))))))) := by kernel_rfl
theorem f19_tot (op a b : Int) : Tot (dX 19 [.int .i64 op, .int .i64 a, .int .i64 b] [] .plain) fun o => ∃ t b c, o = .ret (.tup [vl t b, .int .i64 c]) [] .plain :=
  ext_body u5_le rfl (by kernel_rfl) fun loops => by
    rw [b19]
    repeat' first | exact Tot.some ⟨_, _, _, rfl⟩ | (refine Tot.cond (fun _ => ?_) fun _ => ?_) | (exfalso; simp_all; done)
noncomputable def u6 : CallK := fun f args h ps K => match f, args, h, ps with
  | 19, [.int .i64 op, .int .i64 a, .int .i64 b], [], .plain => K (.ret (.tup [vl (tF1 19 [.int .i64 op, .int .i64 a, .int .i64 b]) (tF2 19 [.int .i64 op, .int .i64 a, .int .i64 b]), .int .i64 (tF3 19 [.int .i64 op, .int .i64 a, .int .i64 b])]) [] .plain)
  | _, _, _, _ => u5 f args h ps K
theorem u6_le : CallLeK u6 dX := by
  intro f args h ps kk o e
  unfold u6 at e
  split at e
  · exact ⟨_, e, vtF_eq (f19_tot _ _ _)⟩
  · exact u5_le _ _ _ _ _ _ e
end Go.Proofs

/- Expressions: the small functions, step 7. -/
namespace Go.Proofs
open Go.Den
set_option maxRecDepth 100000

theorem b8 (loops : LoopK) (op t b t2 b2 : Int) : bodyL Try.prog polX u6 loops 8 [.int .i64 op, .agg [.int .i64 t, .int .u64 b], .agg [.int .i64 t2, .int .u64 b2]] [] .plain =
  (cond ((tF2 17 [AV.int IntKind.i64 op, AV.int IntKind.i64 t, AV.int IntKind.i64 t2] != 0) == false) (cond ((bif false then true else !bF 18 [AV.agg [AV.int IntKind.i64 t, AV.int IntKind.u64 b]]) == false) (cond (cond (false) (true) (!(bF 18 [AV.agg [AV.int IntKind.i64 t2, AV.int IntKind.u64 b2]]))) (some (.ret (.tup [(.agg [(.int .i64 0), (.int .u64 0)]), (.int .i64 (-1))]) [] .plain)) (cond (t == 1) (some (.ret (.tup [(.agg [(.int .i64 (tF1 19 [AV.int IntKind.i64 op, AV.int IntKind.i64 (IntKind.i64.wrap b), AV.int IntKind.i64 (IntKind.i64.wrap b2)])), (.int .u64 (tF2 19 [AV.int IntKind.i64 op, AV.int IntKind.i64 (IntKind.i64.wrap b), AV.int IntKind.i64 (IntKind.i64.wrap b2)]))]), (.int .i64 (tF3 19 [AV.int IntKind.i64 op, AV.int IntKind.i64 (IntKind.i64.wrap b), AV.int IntKind.i64 (IntKind.i64.wrap b2)]))]) [] .plain)) (cond (t == 2) (some (.ret (.tup [(.agg [(.int .i64 (tF1 20 [AV.int IntKind.i64 op, AV.int IntKind.u64 b, AV.int IntKind.u64 b2])), (.int .u64 (tF2 20 [AV.int IntKind.i64 op, AV.int IntKind.u64 b, AV.int IntKind.u64 b2]))]), (.int .i64 (tF3 20 [AV.int IntKind.i64 op, AV.int IntKind.u64 b, AV.int IntKind.u64 b2]))]) [] .plain)) (cond (op == 12) (some (.ret (.tup [(.agg [(.int .i64 (tF1 21 [AV.bool (bif b == 1 then b2 == 1 else false)])), (.int .u64 (tF2 21 [AV.bool (bif b == 1 then b2 == 1 else false)]))]), (.int .i64 0)]) [] .plain)) (cond (op == 13) (some (.ret (.tup [(.agg [(.int .i64 (tF1 21 [AV.bool (bif b == 1 then true else b2 == 1)])), (.int .u64 (tF2 21 [AV.bool (bif b == 1 then true else b2 == 1)]))]), (.int .i64 0)]) [] .plain)) (cond (op == 6) (some (.ret (.tup [(.agg [(.int .i64 (tF1 21 [AV.bool ((b == 1) == (b2 == 1))])), (.int .u64 (tF2 21 [AV.bool ((b == 1) == (b2 == 1))]))]), (.int .i64 0)]) [] .plain)) (some (.ret (.tup [(.agg [(.int .i64 (tF1 21 [AV.bool !(b == 1) == (b2 == 1)])), (.int .u64 (tF2 21 [AV.bool !(b == 1) == (b2 == 1)]))]), (.int .i64 0)]) [] .plain)))))))) (some (.ret (.tup [(.agg [(.int .i64 0), (.int .u64 0)]), (.int .i64 (-1))]) [] .plain))) (some (.ret (.tup [(.agg [(.int .i64 0), (.int .u64 0)]), (.int .i64 (-1))]) [] .plain))) := by kernel_rfl
theorem f8_tot (op t b t2 b2 : Int) : Tot (dX 8 [.int .i64 op, .agg [.int .i64 t, .int .u64 b], .agg [.int .i64 t2, .int .u64 b2]] [] .plain) fun o => ∃ t b c, o = .ret (.tup [vl t b, .int .i64 c]) [] .plain :=
  ext_body u6_le rfl (by kernel_rfl) fun loops => by
    rw [b8]
    repeat' first | exact Tot.some ⟨_, _, _, rfl⟩ | (refine Tot.cond (fun _ => ?_) fun _ => ?_) | (exfalso; simp_all; done)
noncomputable def u7 : CallK := fun f args h ps K => match f, args, h, ps with
  | 8, [.int .i64 op, .agg [.int .i64 t, .int .u64 b], .agg [.int .i64 t2, .int .u64 b2]], [], .plain => K (.ret (.tup [vl (tF1 8 [.int .i64 op, .agg [.int .i64 t, .int .u64 b], .agg [.int .i64 t2, .int .u64 b2]]) (tF2 8 [.int .i64 op, .agg [.int .i64 t, .int .u64 b], .agg [.int .i64 t2, .int .u64 b2]]), .int .i64 (tF3 8 [.int .i64 op, .agg [.int .i64 t, .int .u64 b], .agg [.int .i64 t2, .int .u64 b2]])]) [] .plain)
  | _, _, _, _ => u6 f args h ps K
theorem u7_le : CallLeK u7 dX := by
  intro f args h ps kk o e
  unfold u7 at e
  split at e
  · exact ⟨_, e, vtF_eq (f8_tot _ _ _ _ _)⟩
  · exact u6_le _ _ _ _ _ _ e
end Go.Proofs

/- Names, and asking. -/
namespace Go.Proofs
open Go.Den
set_option maxRecDepth 100000

def noLoops : LoopK := fun _ _ _ => none
def S62 (s : List UInt8) (i : Int) : St := ⟨[.str s, .top, .int .i64 0, .top, .top, .top, .top, .top, .top, .top, .top, .top, .top, .int .i64 s.length, .int .i64 i, .top, .top, .top, .top, .top, .top, .top, .top, .top, .top, .top, .top, .top, .top, .top, .top, .top, .top, .top, .top, .top, .top, .top, .top, .top, .top, .top], ⟨[], [], .plain⟩⟩
def S62e (s : List UInt8) (i : Int) : St := ⟨[.str s, .top, .int .i64 0, .top, .top, .top, .top, .top, .top, .top, .top, .top, .top, .int .i64 s.length, .int .i64 i, .bool (decide (i < (s.length : Int))), .top, .top, .top, .top, .top, .top, .top, .top, .top, .top, .top, .top, .top, .top, .top, .top, .top, .top, .top, .top, .top, .top, .top, .top, .top, .top], ⟨[], [], .plain⟩⟩
theorem r62 (s : List UInt8) (i : Nat) (k : Den.Exit → St → R) : codeL Try.prog polX u7 noLoops 62 (Code.part (bodyOf Try.prog 62) [1,1,0,1,0,0]) (S62 s i) k =
  (cond (decide ((↑i : Int) < (↑s.length : Int))) (dite ((0 : Int) ≤ (↑i : Int) ∧ (↑i : Int).toNat < s.length) (fun hb59 => (cond (((!(bF (70 : FuncId) [AV.int IntKind.u8 (↑s[(↑i : Int).toNat].toNat : Int)])) == (true))) (dite ((0 : Int) ≤ (↑i : Int) ∧ (↑i : Int).toNat < s.length) (fun hb57 => (cond (((decide ((↑s[(↑i : Int).toNat].toNat : Int) < (48 : Int))) == (false))) (dite ((0 : Int) ≤ (↑i : Int) ∧ (↑i : Int).toNat < s.length) (fun hb55 => (cond (cond (true) (cond (false) (true) (decide ((↑s[(↑i : Int).toNat].toNat : Int) > (57 : Int)))) (false)) (k .ret (.mk [.top, .top, (.int .i64 12), .top, .top, .top, .top, .top, .top, .top, .top, .top, .top, .top, .top, .top, .top, .top, .top, .top, .top, .top, .top, .top, .top, .top, .top, .top, .top, .top, .top, .top, .top, .top, .top, .top, .top, .top, .top, .top, .top, .top] (.mk [] [] .plain))) (k .normal (.mk [(.str s), .top, (.int .i64 0), .top, .top, .top, .top, .top, .top, .top, .top, .top, .top, (.int .i64 ((↑s.length : Int))), (.int .i64 (IntKind.i64.wrap ((↑i : Int) + (1 : Int)))), .top, .top, .top, .top, .top, .top, .top, .top, .top, .top, .top, .top, .top, .top, .top, .top, .top, .top, .top, .top, .top, .top, .top, .top, .top, .top, .top] (.mk [] [] .plain))))) (fun hb55 => none)) (k .ret (.mk [.top, .top, (.int .i64 12), .top, .top, .top, .top, .top, .top, .top, .top, .top, .top, .top, .top, .top, .top, .top, .top, .top, .top, .top, .top, .top, .top, .top, .top, .top, .top, .top, .top, .top, .top, .top, .top, .top, .top, .top, .top, .top, .top, .top] (.mk [] [] .plain))))) (fun hb57 => none)) (k .normal (.mk [(.str s), .top, (.int .i64 0), .top, .top, .top, .top, .top, .top, .top, .top, .top, .top, (.int .i64 ((↑s.length : Int))), (.int .i64 (IntKind.i64.wrap ((↑i : Int) + (1 : Int)))), .top, .top, .top, .top, .top, .top, .top, .top, .top, .top, .top, .top, .top, .top, .top, .top, .top, .top, .top, .top, .top, .top, .top, .top, .top, .top, .top] (.mk [] [] .plain))))) (fun hb59 => none)) (k (.exit 0) (.mk [(.str s), .top, (.int .i64 0), .top, .top, .top, .top, .top, .top, .top, .top, .top, .top, (.int .i64 ((↑s.length : Int))), (.int .i64 ((↑i : Int))), (.bool (decide ((↑i : Int) < (↑s.length : Int)))), .top, .top, .top, .top, .top, .top, .top, .top, .top, .top, .top, .top, .top, .top, .top, .top, .top, .top, .top, .top, .top, .top, .top, .top, .top, .top] (.mk [] [] .plain)))) := by kernel_rfl
theorem b62 (loops : LoopK) (s : List UInt8) : bodyL Try.prog polX u7 loops 62 [.str s] [] .plain =
  (cond ((((s == [])) == (false))) (dite ((0 : Int) ≤ (0 : Int) ∧ Int.toNat (0 : Int) < s.length) (fun hb59 => (cond (cond (false) (true) (!(bF (70 : FuncId) [AV.int IntKind.u8 (↑s[Int.toNat (0 : Int)].toNat : Int)]))) (some (.ret (.int .i64 12) [] .plain)) (loops 4 (.mk [(.str s), .top, (.int .i64 0), .top, .top, .top, .top, .top, .top, .top, .top, .top, .top, (.int .i64 ((↑s.length : Int))), (.int .i64 0), .top, .top, .top, .top, .top, .top, .top, .top, .top, .top, .top, .top, .top, .top, .top, .top, .top, .top, .top, .top, .top, .top, .top, .top, .top, .top, .top] (.mk [] [] .plain)) (kBody Try.prog polX u7 loops 62 [1,1,0,1,0] 0 .plain)))) (fun hb59 => none)) (some (.ret (.int .i64 12) [] .plain))) := by kernel_rfl
theorem e62 (loops : LoopK) (s : List UInt8) (i : Int) : (kBody Try.prog polX u7 loops 62 [1,1,0,1,0] 0 .plain) (.exit 0) (S62e s i) =
  (cond (decide ((↑s.length : Int) > (32 : Int))) (some (.ret (.int .i64 3) [] .plain)) (cond (bF (71 : FuncId) [AV.str s]) (some (.ret (.int .i64 12) [] .plain)) (some (.ret (.int .i64 0) [] .plain)))) := by kernel_rfl
def S62r (n : Int) : St := ⟨[.top, .top, .int .i64 n, .top, .top, .top, .top, .top, .top, .top, .top, .top, .top, .top, .top, .top, .top, .top, .top, .top, .top, .top, .top, .top, .top, .top, .top, .top, .top, .top, .top, .top, .top, .top, .top, .top, .top, .top, .top, .top, .top, .top], ⟨[], [], .plain⟩⟩
theorem q62 (loops : LoopK) (n : Int) : (kBody Try.prog polX u7 loops 62 [1,1,0,1,0] 0 .plain) (.ret) (S62r n) =
  (some (.ret (.int .i64 n) [] .plain)) := by kernel_rfl
theorem b60 (loops : LoopK) (k : Int) : bodyL Try.prog polX noCall loops 60 [.int .i64 k] [] .plain =
  (cond (k == (1 : Int)) (some (.ret (.tup [(.bool false), (.bool false), (.bool true), (.int .i64 0), (.int .i64 0)]) [] .plain)) (cond (k == (2 : Int)) (some (.ret (.tup [(.bool false), (.bool true), (.bool false), (.int .i64 0), (.int .i64 0)]) [] .plain)) (cond (k == (3 : Int)) (some (.ret (.tup [(.bool true), (.bool true), (.bool false), (.int .i64 0), (.int .i64 0)]) [] .plain)) (cond (k == (4 : Int)) (some (.ret (.tup [(.bool false), (.bool true), (.bool false), (.int .i64 0), (.int .i64 (-1))]) [] .plain)) (cond (k == (5 : Int)) (some (.ret (.tup [(.bool true), (.bool true), (.bool false), (.int .i64 0), (.int .i64 (-1))]) [] .plain)) (cond (k == (6 : Int)) (some (.ret (.tup [(.bool false), (.bool false), (.bool false), (.int .i64 4), (.int .i64 1)]) [] .plain)) (cond (k == (7 : Int)) (some (.ret (.tup [(.bool false), (.bool false), (.bool false), (.int .i64 13), (.int .i64 2)]) [] .plain)) (some (.ret (.tup [(.bool false), (.bool false), (.bool false), (.int .i64 0), (.int .i64 0)]) [] .plain))))))))) := by kernel_rfl
theorem b57 (loops : LoopK) (e : Int) : bodyL Try.prog polX noCall loops 57 [.int .i64 e] [] .plain =
  (cond (e != (0 : Int)) (some (.pan (.ifc 93 (.int .i64 e)) [] .plain)) (some (.ret (.tup []) [] .plain))) := by kernel_rfl
noncomputable def u57 : CallK := fun f args h ps K => match f, args, h, ps with
  | 57, [.int .i64 e], [], .plain => cond (e != 0) (K (.pan (.ifc 93 (.int .i64 e)) [] .plain)) (K (.ret (.tup []) [] .plain))
  | _, _, _, _ => u7 f args h ps K
theorem b44 (loops : LoopK) (b : Bool) (e : Int) : bodyL Try.prog polX u57 loops 44 [.bool b, .int .i64 e] [] .plain =
  (cond (!(b)) (cond (e != (0 : Int)) (some (.pan (.ifc 93 (.int .i64 e)) [] .plain)) (some (.ret (.tup []) [] .plain))) (some (.ret (.tup []) [] .plain))) := by kernel_rfl
theorem b49 (loops : LoopK) (t b e : Int) : bodyL Try.prog polX u7 loops 49 [.agg [.int .i64 t, .int .u64 b], .int .i64 e] [] .plain =
  (cond (e != (0 : Int)) (some (.pan (.ifc 61 (.int .i64 (iF (22 : FuncId) [AV.int IntKind.i64 e]))) [] .plain)) (some (.ret (.agg [(.int .i64 t), (.int .u64 b)]) [] .plain))) := by kernel_rfl
end Go.Proofs

/- Names, and asking: what they come to. -/
namespace Go.Proofs
open Go.Den
set_option maxRecDepth 100000
theorem self_le {c : CallO} : CallLeK (bindK c) c := CallLeK.of_le fun _ _ _ _ _ h => h
theorem no_loops {P : Program} {pol : Pol} {c : CallO} {n : Nat} {fn : FuncId} {l : List (Nat × Code)} : LoopsOk P pol c n fn noLoops l := fun _ _ _ _ _ h => by cases h
theorem wrap_succ {n : Nat} (h : n < 4611686018427387904) : IntKind.i64.wrap ((n : Int) + 1) = ((n + 1 : Nat) : Int) := by
  simp only [IntKind.wrap, IntKind.bits, IntKind.signed]
  simp
  omega
theorem v70 (c : Int) : dX 70 [.int .u8 c] [] .plain = some (.ret (.bool (cond (cond (cond (decide (c ≥ 97)) (decide (c ≤ 122)) (false)) (true) (cond (decide (c ≥ 65)) (decide (c ≤ 90)) (false))) (true) (c == 95))) [] .plain) := by
  obtain ⟨o, h1, h2⟩ := ext_body (f := 70) (args := [.int .u8 c]) (Q := fun o => o = .ret (.bool (cond (cond (cond (decide (c ≥ 97)) (decide (c ≤ 122)) (false)) (true) (cond (decide (c ≥ 65)) (decide (c ≤ 90)) (false))) (true) (c == 95))) [] .plain) noCall_le rfl (by kernel_rfl) fun loops => by
    rw [b70]; exact Tot.some rfl
  rw [h1, h2]
theorem let9 : bF 70 [.int .u8 57] = false := by
  unfold bF
  rw [v70]
  rfl
/-- it begins with a letter -/
def Begins (s : List UInt8) : Prop := ∃ c r, s = c :: r ∧ bF 70 [.int .u8 c.toNat] = true
theorem lp62 (s : List UInt8) (hb : Begins s) (hl : s.length < 1000000000) :
    Tot (codeD Try.prog polX (bindK dX) (s.length + 1) 62 (.loop (Code.part (bodyOf Try.prog 62) [1,1,0,1,0,0])) (S62 s 0) (kBody Try.prog polX u7 (lpR Try.prog polX dX (s.length + 1) 62 (loopsOf (bodyOf Try.prog 62))) 62 [1,1,0,1,0] 0 .plain))
      fun o => ∃ n, o = .ret (.int .i64 n) [] .plain ∧ (n = 0 → Begins s) := by
  have hret : ∀ n, Tot (kBody Try.prog polX u7 (lpR Try.prog polX dX (s.length + 1) 62 (loopsOf (bodyOf Try.prog 62))) 62 [1,1,0,1,0] 0 .plain .ret (S62r n)) fun o => ∃ n, o = .ret (.int .i64 n) [] .plain ∧ (n = 0 → Begins s) := fun n => by
    rw [q62]; exact Tot.some ⟨n, rfl, fun _ => hb⟩
  have hend : Tot (kBody Try.prog polX u7 (lpR Try.prog polX dX (s.length + 1) 62 (loopsOf (bodyOf Try.prog 62))) 62 [1,1,0,1,0] 0 .plain (.exit 0) (S62e s s.length)) fun o => ∃ n, o = .ret (.int .i64 n) [] .plain ∧ (n = 0 → Begins s) := by
    rw [e62]
    repeat' first | exact Tot.some ⟨_, rfl, fun _ => hb⟩ | (refine Tot.cond (fun _ => ?_) fun _ => ?_)
  refine loop_tot (α := Unit) (calls := fun _ => u7) (fun _ => u7_le) (keep := false) rfl (inner := noLoops) no_loops (fun i _ => S62 s i) (fun _ _ => True) s.length (Nat.lt_succ_self _) () trivial ?_ (H := 0) rfl ?_
  · show _ = _
    kernel_rfl
  · intro i _ hi _ K hK hE
    rw [r62]
    by_cases hlt : i < s.length
    · have h1 : decide ((i : Int) < s.length) = true := by simpa using hlt
      have h2 : (0 : Int) ≤ i ∧ (i : Int).toNat < s.length := by omega
      have go : Tot (K .normal (S62 s (IntKind.i64.wrap ((i : Int) + 1)))) fun o => ∃ n, o = .ret (.int .i64 n) [] .plain ∧ (n = 0 → Begins s) :=
        hK _ () hlt trivial (by rw [wrap_succ (by omega)]; show _ = _; kernel_rfl)
      have stop : Tot (K .ret (S62r 12)) fun o => ∃ n, o = .ret (.int .i64 n) [] .plain ∧ (n = 0 → Begins s) := by
        rw [hE _ _ (by simp)]; exact hret 12
      rw [h1, cond_true]
      refine Tot.dite h2 ?_
      repeat' first | exact go | exact stop | exact Tot.dite h2 (by first | exact go | exact stop) | (refine Tot.dite h2 ?_) | (refine Tot.cond (fun _ => ?_) fun _ => ?_)
    · have : i = s.length := by omega
      subst this
      have h1 : decide ((s.length : Int) < s.length) = false := by simp
      unfold S62e at hend
      rw [h1] at hend ⊢
      rw [cond_false, hE _ _ (by simp)]
      exact hend
theorem f62_tot (s : List UInt8) (hl : s.length < 1000000000) : Tot (dX 62 [.str s] [] .plain) fun o => ∃ n, o = .ret (.int .i64 n) [] .plain ∧ (n = 0 → Begins s) := by
  refine denA_tot (s.length + 1) u7_le rfl (by kernel_rfl) ?_
  rw [b62]
  refine Tot.cond (fun hs => ?_) fun _ => Tot.some ⟨12, rfl, fun h => by cases h⟩
  have hne : s ≠ [] := by simpa using hs
  have h2 : (0 : Int) ≤ 0 ∧ Int.toNat 0 < s.length := ⟨Int.le_refl 0, List.length_pos_iff.2 hne⟩
  refine Tot.dite h2 ?_
  refine Tot.cond (fun _ => Tot.some ⟨12, rfl, fun h => by cases h⟩) fun hc => ?_
  have hb : Begins s := by
    match s, hne with
    | c :: r, _ => exact ⟨c, r, rfl, by simpa using hc⟩
  exact lpR_tot (by kernel_rfl) (lp62 s hb hl)
theorem v57 (e : Int) : dX 57 [.int .i64 e] [] .plain = cond (e != 0) (some (.pan (.ifc 93 (.int .i64 e)) [] .plain)) (some (.ret (.tup []) [] .plain)) := by
  obtain ⟨o, h1, h2⟩ := ext_body (f := 57) (args := [.int .i64 e]) (Q := fun o => cond (e != 0) (some (.pan (.ifc 93 (.int .i64 e)) [] .plain)) (some (.ret (.tup []) [] .plain)) = some o) noCall_le rfl (by kernel_rfl) fun loops => by
    rw [b57]; cases e != 0 <;> exact Tot.some rfl
  rw [h1, h2]
theorem u57_le : CallLeK u57 dX := by
  intro f args h ps kk o e
  unfold u57 at e
  split at e
  · rename_i n
    have h := v57 n
    cases hn : n != 0 with
    | true => rw [hn] at e h; exact ⟨_, e, h⟩
    | false => rw [hn] at e h; exact ⟨_, e, h⟩
  · exact u7_le _ _ _ _ _ _ e
theorem v44 (b : Bool) (e : Int) : dX 44 [.bool b, .int .i64 e] [] .plain = cond (!b && e != 0) (some (.pan (.ifc 93 (.int .i64 e)) [] .plain)) (some (.ret (.tup []) [] .plain)) := by
  obtain ⟨o, h1, h2⟩ := ext_body (f := 44) (args := [.bool b, .int .i64 e]) (Q := fun o => cond (!b && e != 0) (some (.pan (.ifc 93 (.int .i64 e)) [] .plain)) (some (.ret (.tup []) [] .plain)) = some o) u57_le rfl (by kernel_rfl) fun loops => by
    rw [b44]; cases b <;> cases e != 0 <;> exact Tot.some rfl
  rw [h1, h2]
theorem ext_val {f : FuncId} {call : CallK} (hle : CallLeK call dX) (hf : extT f = none) (hk : keysOK (loopsOf (bodyOf Try.prog f)) = true) {args : List AV} {X : R}
    (h : ∀ loops, bodyL Try.prog polX call loops f args [] .plain = X) (hx : Tot X fun _ => True) : dX f args [] .plain = X := by
  obtain ⟨o, h1, _⟩ := hx
  obtain ⟨o', h2, h3⟩ := ext_body (Q := fun o => X = some o) hle hf hk fun loops => ⟨o, by rw [h loops, h1], h1⟩
  rw [h2, h3]
def F60 (k : Int) : AV := .tup [.bool (cond (k == 3) true (k == 5)), .bool (cond (k == 2) true (cond (k == 3) true (cond (k == 4) true (k == 5)))), .bool (k == 1),
  .int .i64 (cond (k == 6) 4 (cond (k == 7) 13 0)), .int .i64 (cond (k == 4) (-1) (cond (k == 5) (-1) (cond (k == 6) 1 (cond (k == 7) 2 0))))]
theorem v60 (k : Int) : dX 60 [.int .i64 k] [] .plain = some (.ret (F60 k) [] .plain) := by
  rw [ext_val noCall_le rfl (by kernel_rfl) (fun loops => b60 loops k)]
  · unfold F60
    by_cases h1 : k = 1
    · subst h1; rfl
    by_cases h2 : k = 2
    · subst h2; rfl
    by_cases h3 : k = 3
    · subst h3; rfl
    by_cases h4 : k = 4
    · subst h4; rfl
    by_cases h5 : k = 5
    · subst h5; rfl
    by_cases h6 : k = 6
    · subst h6; rfl
    by_cases h7 : k = 7
    · subst h7; rfl
    have e : ∀ n : Int, k ≠ n → (k == n) = false := fun n h => by simpa using h
    simp only [e 1 h1, e 2 h2, e 3 h3, e 4 h4, e 5 h5, e 6 h6, e 7 h7, cond_false]
  · repeat' first | exact Tot.some trivial | (refine Tot.cond (fun _ => ?_) fun _ => ?_)
/-! expressions -/
inductive Ex where
  | mk (kind op : Int) (mod name : List UInt8) (vt vb : Int) (kids : List Ex)
def Ex.kind : Ex → Int | .mk k _ _ _ _ _ _ => k
def Ex.op : Ex → Int | .mk _ o _ _ _ _ _ => o
def Ex.mod : Ex → List UInt8 | .mk _ _ m _ _ _ _ => m
def Ex.name : Ex → List UInt8 | .mk _ _ _ s _ _ _ => s
def Ex.vt : Ex → Int | .mk _ _ _ _ t _ _ => t
def Ex.vb : Ex → Int | .mk _ _ _ _ _ b _ => b
def Ex.kids : Ex → List Ex | .mk _ _ _ _ _ _ l => l
theorem kid_lt (e : Ex) (j : Fin e.kids.length) : SizeOf.sizeOf (e.kids.get j) < SizeOf.sizeOf e := by
  have h : e.kids.get j ∈ e.kids := List.get_mem ..
  cases e with
  | mk k o m s t b l =>
    have := List.sizeOf_lt_of_mem h
    simp only [Ex.kids] at this ⊢
    simp
    omega
def row (e : Ex) : List AV := [.int .i64 e.kind, .int .i64 e.op, .str e.mod, .str e.name, .int .i64 e.vt, .int .u64 e.vb, .sl 7 .no e.kids.length fun j => row (e.kids.get j)]
  termination_by SizeOf.sizeOf e
  decreasing_by exact kid_lt e j
def rowS (e : Ex) : List AV := [.int .i64 e.kind, .int .i64 e.op, .str e.mod, .str e.name, .int .i64 e.vt, .int .u64 e.vb, .sl 7 .no e.kids.length fun j => row (e.kids.get j)]
theorem row_eq (e : Ex) : row e = rowS e := by rw [row]; rfl
def kidsE (e : Ex) : AV := .sl 7 .no e.kids.length fun j => rowS (e.kids.get j)
def agK (k : Int) (e : Ex) : AV := .agg [.int .i64 k, .int .i64 e.op, .str e.mod, .str e.name, .int .i64 e.vt, .int .u64 e.vb, kidsE e]
def agE (e : Ex) : AV := agK e.kind e
theorem agS (e : Ex) : AV.agg (rowS e) = agE e := by
  unfold rowS agE agK kidsE
  have : (fun j => row (e.kids.get j)) = fun j => rowS (e.kids.get j) := funext fun j => row_eq _
  rw [this]
noncomputable def u60 : CallK := fun f args h ps K => match f, args, h, ps with
  | 44, [.bool b, .int .i64 e], [], .plain => cond (!b && e != 0) (K (.pan (.ifc 93 (.int .i64 e)) [] .plain)) (K (.ret (.tup []) [] .plain))
  | 60, [.int .i64 k], [], .plain => K (.ret (F60 k) [] .plain)
  | 62, [.str s], [], .plain => chk (s.length < 1000000000) (K (.ret (.int .i64 (iF 62 [.str s])) [] .plain))
  | _, _, _, _ => u57 f args h ps K
theorem u60_le : CallLeK u60 dX := by
  intro f args h ps kk o e
  unfold u60 at e
  split at e
  · rename_i b n
    have h := v44 b n
    cases hn : (!b && n != 0) with
    | true => rw [hn] at e h; exact ⟨_, e, h⟩
    | false => rw [hn] at e h; exact ⟨_, e, h⟩
  · exact ⟨_, e, v60 _⟩
  · obtain ⟨h1, h2⟩ := chk_some e
    exact ⟨_, h2, iF_eq ((f62_tot _ h1).mono fun o ⟨n, hn, _⟩ => ⟨n, hn⟩)⟩
  · exact u57_le _ _ _ _ _ _ e
noncomputable def uAsk : CallK := fun f args h ps K => match f, args, h, ps with
  | 44, [.bool b, .int .i64 e], [], .plain => chk (b = false ∧ e ≠ 0) (K (.pan (.ifc 93 (.int .i64 e)) [] .plain))
  | _, _, _, _ => none
theorem uAsk_le : CallLeK uAsk dX := by
  intro f args h ps kk o e
  unfold uAsk at e
  split at e
  · rename_i b n
    obtain ⟨⟨rfl, h1⟩, h2⟩ := chk_some e
    have h := v44 false n
    have : (!false && n != 0) = true := by simpa using h1
    rw [this] at h
    exact ⟨_, h2, h⟩
  · cases e
noncomputable def u46 (kid : Ex) : CallK := fun f args h ps K => match f with
  | 46 => chk (args = [.agg (rowS kid)] ∧ h = [] ∧ ps = .plain) (cond (pF 46 [agE kid]) (K (.pan (.ifc 93 (.int .i64 (eF 46 [agE kid]))) [] .plain)) (K (.ret (.tup []) [] .plain)))
  | _ => none
end Go.Proofs
