/- Names, and asking. -/
import Derived.Test.YtndanoiaheknaaaDenPiece
import Derived.Test.YtndanoiaheknaaaDenEa
import Derived.Test.YtndanoiaheknaaaDenInl
set_option linter.unusedSimpArgs false
set_option linter.unusedVariables false
namespace Go.Proofs
open Go.Den
set_option maxRecDepth 100000

def noLoops : LoopK := fun _ _ _ => none
def S62 (s : List UInt8) (i : Int) : St := ⟨[.str s, .top, .int .i64 0, .top, .top, .top, .top, .top, .top, .top, .top, .top, .top, .int .i64 s.length, .int .i64 i, .top, .top, .top, .top, .top, .top, .top, .top, .top, .top, .top, .top, .top, .top, .top, .top, .top, .top, .top, .top, .top, .top, .top, .top, .top, .top, .top], ⟨[], [], .plain⟩⟩
def S62e (s : List UInt8) (i : Int) : St := ⟨[.str s, .top, .int .i64 0, .top, .top, .top, .top, .top, .top, .top, .top, .top, .top, .int .i64 s.length, .int .i64 i, .bool (decide (i < (s.length : Int))), .top, .top, .top, .top, .top, .top, .top, .top, .top, .top, .top, .top, .top, .top, .top, .top, .top, .top, .top, .top, .top, .top, .top, .top, .top, .top], ⟨[], [], .plain⟩⟩
theorem r62 (s : List UInt8) (i : Nat) (k : Den.Exit → St → R) : codeL Try.prog polX u7 noLoops 62 (Code.part (bodyOf Try.prog 62) [1,1,0,1,0,0]) (S62 s i) k =
  (cond (decide ((↑i : Int) < (↑s.length : Int))) (dite ((0 : Int) ≤ (↑i : Int) ∧ (↑i : Int).toNat < s.length) (fun hb59 => (cond (((!(bF (70 : FuncId) [AV.int IntKind.u8 (↑s[(↑i : Int).toNat].toNat : Int)])) == (true))) (dite ((0 : Int) ≤ (↑i : Int) ∧ (↑i : Int).toNat < s.length) (fun hb57 => (cond (((decide ((↑s[(↑i : Int).toNat].toNat : Int) < (48 : Int))) == (false))) (dite ((0 : Int) ≤ (↑i : Int) ∧ (↑i : Int).toNat < s.length) (fun hb55 => (cond (cond (true) (cond (false) (true) (decide ((↑s[(↑i : Int).toNat].toNat : Int) > (57 : Int)))) (false)) (k .ret (.mk [.top, .top, (.int .i64 12), .top, .top, .top, .top, .top, .top, .top, .top, .top, .top, .top, .top, .top, .top, .top, .top, .top, .top, .top, .top, .top, .top, .top, .top, .top, .top, .top, .top, .top, .top, .top, .top, .top, .top, .top, .top, .top, .top, .top] (.mk [] [] .plain))) (k .normal (.mk [(.str s), .top, (.int .i64 0), .top, .top, .top, .top, .top, .top, .top, .top, .top, .top, (.int .i64 ((↑s.length : Int))), (.int .i64 (IntKind.i64.wrap ((↑i : Int) + (1 : Int)))), .top, .top, .top, .top, .top, .top, .top, .top, .top, .top, .top, .top, .top, .top, .top, .top, .top, .top, .top, .top, .top, .top, .top, .top, .top, .top, .top] (.mk [] [] .plain))))) (fun hb55 => none)) (k .ret (.mk [.top, .top, (.int .i64 12), .top, .top, .top, .top, .top, .top, .top, .top, .top, .top, .top, .top, .top, .top, .top, .top, .top, .top, .top, .top, .top, .top, .top, .top, .top, .top, .top, .top, .top, .top, .top, .top, .top, .top, .top, .top, .top, .top, .top] (.mk [] [] .plain))))) (fun hb57 => none)) (k .normal (.mk [(.str s), .top, (.int .i64 0), .top, .top, .top, .top, .top, .top, .top, .top, .top, .top, (.int .i64 ((↑s.length : Int))), (.int .i64 (IntKind.i64.wrap ((↑i : Int) + (1 : Int)))), .top, .top, .top, .top, .top, .top, .top, .top, .top, .top, .top, .top, .top, .top, .top, .top, .top, .top, .top, .top, .top, .top, .top, .top, .top, .top, .top] (.mk [] [] .plain))))) (fun hb59 => none)) (k (.exit 0) (.mk [(.str s), .top, (.int .i64 0), .top, .top, .top, .top, .top, .top, .top, .top, .top, .top, (.int .i64 ((↑s.length : Int))), (.int .i64 ((↑i : Int))), (.bool (decide ((↑i : Int) < (↑s.length : Int)))), .top, .top, .top, .top, .top, .top, .top, .top, .top, .top, .top, .top, .top, .top, .top, .top, .top, .top, .top, .top, .top, .top, .top, .top, .top, .top] (.mk [] [] .plain)))) := by kernel_rfl
theorem b62 (loops : LoopK) (s : List UInt8) : bodyL Try.prog polX u7 loops 62 [.str s] [] .plain =
  (cond ((((s == [])) == (false))) (dite ((0 : Int) ≤ (0 : Int) ∧ Int.toNat (0 : Int) < s.length) (fun hb59 => (cond (cond (false) (true) (!(bF (70 : FuncId) [AV.int IntKind.u8 (↑s[Int.toNat (0 : Int)].toNat : Int)]))) (some (.ret (.int .i64 12) [] .plain)) (loops 4 (.mk [(.str s), .top, (.int .i64 0), .top, .top, .top, .top, .top, .top, .top, .top, .top, .top, (.int .i64 ((↑s.length : Int))), (.int .i64 0), .top, .top, .top, .top, .top, .top, .top, .top, .top, .top, .top, .top, .top, .top, .top, .top, .top, .top, .top, .top, .top, .top, .top, .top, .top, .top, .top] (.mk [] [] .plain)) (kBody Try.prog polX u7 loops 62 [1,1,0,1,0] 0 .plain)))) (fun hb59 => none)) (some (.ret (.int .i64 12) [] .plain))) := by kernel_rfl
theorem e62 (loops : LoopK) (s : List UInt8) (i : Int) : (kBody Try.prog polX u7 loops 62 [1,1,0,1,0] 0 .plain) (.exit 0) (S62e s i) =
  (cond (decide ((↑s.length : Int) > (32 : Int))) (some (.ret (.int .i64 3) [] .plain)) (cond (bF (71 : FuncId) [AV.str s]) (some (.ret (.int .i64 12) [] .plain)) (some (.ret (.int .i64 0) [] .plain)))) := by kernel_rfl
def S62r (n : Int) : St := ⟨[.top, .top, .int .i64 n, .top, .top, .top, .top, .top, .top, .top, .top, .top, .top, .top, .top, .top, .top, .top, .top, .top, .top, .top, .top, .top, .top, .top, .top, .top, .top, .top, .top, .top, .top, .top, .top, .top, .top, .top, .top, .top, .top, .top], ⟨[], [], .plain⟩⟩
theorem q62 (loops : LoopK) (n : Int) : (kBody Try.prog polX u7 loops 62 [1,1,0,1,0] 0 .plain) (.ret) (S62r n) =
  (some (.ret (.int .i64 n) [] .plain)) := by kernel_rfl
theorem b60 (loops : LoopK) (k : Int) : bodyL Try.prog polX noCall loops 60 [.int .i64 k] [] .plain =
  (cond (k == (1 : Int)) (some (.ret (.tup [(.bool false), (.bool false), (.bool true), (.int .i64 0), (.int .i64 0)]) [] .plain)) (cond (k == (2 : Int)) (some (.ret (.tup [(.bool false), (.bool true), (.bool false), (.int .i64 0), (.int .i64 0)]) [] .plain)) (cond (k == (3 : Int)) (some (.ret (.tup [(.bool true), (.bool true), (.bool false), (.int .i64 0), (.int .i64 0)]) [] .plain)) (cond (k == (4 : Int)) (some (.ret (.tup [(.bool false), (.bool true), (.bool false), (.int .i64 0), (.int .i64 (-1))]) [] .plain)) (cond (k == (5 : Int)) (some (.ret (.tup [(.bool true), (.bool true), (.bool false), (.int .i64 0), (.int .i64 (-1))]) [] .plain)) (cond (k == (6 : Int)) (some (.ret (.tup [(.bool false), (.bool false), (.bool false), (.int .i64 4), (.int .i64 1)]) [] .plain)) (cond (k == (7 : Int)) (some (.ret (.tup [(.bool false), (.bool false), (.bool false), (.int .i64 13), (.int .i64 2)]) [] .plain)) (some (.ret (.tup [(.bool false), (.bool false), (.bool false), (.int .i64 0), (.int .i64 0)]) [] .plain))))))))) := by kernel_rfl
theorem b57 (loops : LoopK) (e : Int) : bodyL Try.prog polX noCall loops 57 [.int .i64 e] [] .plain =
  (cond (e != (0 : Int)) (some (.pan (.ifc 93 (.int .i64 e)) [] .plain)) (some (.ret (.tup []) [] .plain))) := by kernel_rfl
noncomputable def u57 : CallK := fun f args h ps K => match f, args, h, ps with
  | 57, [.int .i64 e], [], .plain => cond (e != 0) (K (.pan (.ifc 93 (.int .i64 e)) [] .plain)) (K (.ret (.tup []) [] .plain))
  | _, _, _, _ => u7 f args h ps K
theorem b44 (loops : LoopK) (b : Bool) (e : Int) : bodyL Try.prog polX u57 loops 44 [.bool b, .int .i64 e] [] .plain =
  (cond (!(b)) (cond (e != (0 : Int)) (some (.pan (.ifc 93 (.int .i64 e)) [] .plain)) (some (.ret (.tup []) [] .plain))) (some (.ret (.tup []) [] .plain))) := by kernel_rfl
theorem b49 (loops : LoopK) (t b e : Int) : bodyL Try.prog polX u7 loops 49 [.agg [.int .i64 t, .int .u64 b], .int .i64 e] [] .plain =
  (cond (e != (0 : Int)) (some (.pan (.ifc 61 (.int .i64 (iF (22 : FuncId) [AV.int IntKind.i64 e]))) [] .plain)) (some (.ret (.agg [(.int .i64 t), (.int .u64 b)]) [] .plain))) := by kernel_rfl
end Go.Proofs

/- Names, and asking: what they come to. -/
namespace Go.Proofs
open Go.Den
set_option maxRecDepth 100000
theorem self_le {c : CallO} : CallLeK (bindK c) c := CallLeK.of_le fun _ _ _ _ _ h => h
theorem no_loops {P : Program} {pol : Pol} {c : CallO} {n : Nat} {fn : FuncId} {l : List (Nat × Code)} : LoopsOk P pol c n fn noLoops l := fun _ _ _ _ _ h => by cases h
theorem wrap_succ {n : Nat} (h : n < 4611686018427387904) : IntKind.i64.wrap ((n : Int) + 1) = ((n + 1 : Nat) : Int) := by
  simp only [IntKind.wrap, IntKind.bits, IntKind.signed]
  simp
  omega
theorem v70 (c : Int) : dX 70 [.int .u8 c] [] .plain = some (.ret (.bool (cond (cond (cond (decide (c ≥ 97)) (decide (c ≤ 122)) (false)) (true) (cond (decide (c ≥ 65)) (decide (c ≤ 90)) (false))) (true) (c == 95))) [] .plain) := by
  obtain ⟨o, h1, h2⟩ := ext_body (f := 70) (args := [.int .u8 c]) (Q := fun o => o = .ret (.bool (cond (cond (cond (decide (c ≥ 97)) (decide (c ≤ 122)) (false)) (true) (cond (decide (c ≥ 65)) (decide (c ≤ 90)) (false))) (true) (c == 95))) [] .plain) noCall_le rfl (by kernel_rfl) fun loops => by
    rw [b70]; exact Tot.some rfl
  rw [h1, h2]
theorem let9 : bF 70 [.int .u8 57] = false := by
  unfold bF
  rw [v70]
  rfl
/-- it begins with a letter -/
def Begins (s : List UInt8) : Prop := ∃ c r, s = c :: r ∧ bF 70 [.int .u8 c.toNat] = true
theorem lp62 (s : List UInt8) (hb : Begins s) (hl : s.length < 1000000000) :
    Tot (codeD Try.prog polX (bindK dX) (s.length + 1) 62 (.loop (Code.part (bodyOf Try.prog 62) [1,1,0,1,0,0])) (S62 s 0) (kBody Try.prog polX u7 (lpR Try.prog polX dX (s.length + 1) 62 (loopsOf (bodyOf Try.prog 62))) 62 [1,1,0,1,0] 0 .plain))
      fun o => ∃ n, o = .ret (.int .i64 n) [] .plain ∧ (n = 0 → Begins s) := by
  have hret : ∀ n, Tot (kBody Try.prog polX u7 (lpR Try.prog polX dX (s.length + 1) 62 (loopsOf (bodyOf Try.prog 62))) 62 [1,1,0,1,0] 0 .plain .ret (S62r n)) fun o => ∃ n, o = .ret (.int .i64 n) [] .plain ∧ (n = 0 → Begins s) := fun n => by
    rw [q62]; exact Tot.some ⟨n, rfl, fun _ => hb⟩
  have hend : Tot (kBody Try.prog polX u7 (lpR Try.prog polX dX (s.length + 1) 62 (loopsOf (bodyOf Try.prog 62))) 62 [1,1,0,1,0] 0 .plain (.exit 0) (S62e s s.length)) fun o => ∃ n, o = .ret (.int .i64 n) [] .plain ∧ (n = 0 → Begins s) := by
    rw [e62]
    repeat' first | exact Tot.some ⟨_, rfl, fun _ => hb⟩ | (refine Tot.cond (fun _ => ?_) fun _ => ?_)
  refine loop_tot (α := Unit) (calls := fun _ => u7) (fun _ => u7_le) (keep := false) rfl (inner := noLoops) no_loops (fun i _ => S62 s i) (fun _ _ => True) s.length (Nat.lt_succ_self _) () trivial ?_ (H := 0) rfl ?_
  · show _ = _
    kernel_rfl
  · intro i _ hi _ K hK hE
    rw [r62]
    by_cases hlt : i < s.length
    · have h1 : decide ((i : Int) < s.length) = true := by simpa using hlt
      have h2 : (0 : Int) ≤ i ∧ (i : Int).toNat < s.length := by omega
      have go : Tot (K .normal (S62 s (IntKind.i64.wrap ((i : Int) + 1)))) fun o => ∃ n, o = .ret (.int .i64 n) [] .plain ∧ (n = 0 → Begins s) :=
        hK _ () hlt trivial (by rw [wrap_succ (by omega)]; show _ = _; kernel_rfl)
      have stop : Tot (K .ret (S62r 12)) fun o => ∃ n, o = .ret (.int .i64 n) [] .plain ∧ (n = 0 → Begins s) := by
        rw [hE _ _ (by simp)]; exact hret 12
      rw [h1, cond_true]
      refine Tot.dite h2 ?_
      repeat' first | exact go | exact stop | exact Tot.dite h2 (by first | exact go | exact stop) | (refine Tot.dite h2 ?_) | (refine Tot.cond (fun _ => ?_) fun _ => ?_)
    · have : i = s.length := by omega
      subst this
      have h1 : decide ((s.length : Int) < s.length) = false := by simp
      unfold S62e at hend
      rw [h1] at hend ⊢
      rw [cond_false, hE _ _ (by simp)]
      exact hend
theorem f62_tot (s : List UInt8) (hl : s.length < 1000000000) : Tot (dX 62 [.str s] [] .plain) fun o => ∃ n, o = .ret (.int .i64 n) [] .plain ∧ (n = 0 → Begins s) := by
  refine denA_tot (s.length + 1) u7_le rfl (by kernel_rfl) ?_
  rw [b62]
  refine Tot.cond (fun hs => ?_) fun _ => Tot.some ⟨12, rfl, fun h => by cases h⟩
  have hne : s ≠ [] := by simpa using hs
  have h2 : (0 : Int) ≤ 0 ∧ Int.toNat 0 < s.length := ⟨Int.le_refl 0, List.length_pos_iff.2 hne⟩
  refine Tot.dite h2 ?_
  refine Tot.cond (fun _ => Tot.some ⟨12, rfl, fun h => by cases h⟩) fun hc => ?_
  have hb : Begins s := by
    match s, hne with
    | c :: r, _ => exact ⟨c, r, rfl, by simpa using hc⟩
  exact lpR_tot (by kernel_rfl) (lp62 s hb hl)
theorem v57 (e : Int) : dX 57 [.int .i64 e] [] .plain = cond (e != 0) (some (.pan (.ifc 93 (.int .i64 e)) [] .plain)) (some (.ret (.tup []) [] .plain)) := by
  obtain ⟨o, h1, h2⟩ := ext_body (f := 57) (args := [.int .i64 e]) (Q := fun o => cond (e != 0) (some (.pan (.ifc 93 (.int .i64 e)) [] .plain)) (some (.ret (.tup []) [] .plain)) = some o) noCall_le rfl (by kernel_rfl) fun loops => by
    rw [b57]; cases e != 0 <;> exact Tot.some rfl
  rw [h1, h2]
theorem u57_le : CallLeK u57 dX := by
  intro f args h ps kk o e
  unfold u57 at e
  split at e
  · rename_i n
    have h := v57 n
    cases hn : n != 0 with
    | true => rw [hn] at e h; exact ⟨_, e, h⟩
    | false => rw [hn] at e h; exact ⟨_, e, h⟩
  · exact u7_le _ _ _ _ _ _ e
theorem v44 (b : Bool) (e : Int) : dX 44 [.bool b, .int .i64 e] [] .plain = cond (!b && e != 0) (some (.pan (.ifc 93 (.int .i64 e)) [] .plain)) (some (.ret (.tup []) [] .plain)) := by
  obtain ⟨o, h1, h2⟩ := ext_body (f := 44) (args := [.bool b, .int .i64 e]) (Q := fun o => cond (!b && e != 0) (some (.pan (.ifc 93 (.int .i64 e)) [] .plain)) (some (.ret (.tup []) [] .plain)) = some o) u57_le rfl (by kernel_rfl) fun loops => by
    rw [b44]; cases b <;> cases e != 0 <;> exact Tot.some rfl
  rw [h1, h2]
theorem ext_val {f : FuncId} {call : CallK} (hle : CallLeK call dX) (hf : extT f = none) (hk : keysOK (loopsOf (bodyOf Try.prog f)) = true) {args : List AV} {X : R}
    (h : ∀ loops, bodyL Try.prog polX call loops f args [] .plain = X) (hx : Tot X fun _ => True) : dX f args [] .plain = X := by
  obtain ⟨o, h1, _⟩ := hx
  obtain ⟨o', h2, h3⟩ := ext_body (Q := fun o => X = some o) hle hf hk fun loops => ⟨o, by rw [h loops, h1], h1⟩
  rw [h2, h3]
def F60 (k : Int) : AV := .tup [.bool (cond (k == 3) true (k == 5)), .bool (cond (k == 2) true (cond (k == 3) true (cond (k == 4) true (k == 5)))), .bool (k == 1),
  .int .i64 (cond (k == 6) 4 (cond (k == 7) 13 0)), .int .i64 (cond (k == 4) (-1) (cond (k == 5) (-1) (cond (k == 6) 1 (cond (k == 7) 2 0))))]
theorem v60 (k : Int) : dX 60 [.int .i64 k] [] .plain = some (.ret (F60 k) [] .plain) := by
  rw [ext_val noCall_le rfl (by kernel_rfl) (fun loops => b60 loops k)]
  · unfold F60
    by_cases h1 : k = 1
    · subst h1; rfl
    by_cases h2 : k = 2
    · subst h2; rfl
    by_cases h3 : k = 3
    · subst h3; rfl
    by_cases h4 : k = 4
    · subst h4; rfl
    by_cases h5 : k = 5
    · subst h5; rfl
    by_cases h6 : k = 6
    · subst h6; rfl
    by_cases h7 : k = 7
    · subst h7; rfl
    have e : ∀ n : Int, k ≠ n → (k == n) = false := fun n h => by simpa using h
    simp only [e 1 h1, e 2 h2, e 3 h3, e 4 h4, e 5 h5, e 6 h6, e 7 h7, cond_false]
  · repeat' first | exact Tot.some trivial | (refine Tot.cond (fun _ => ?_) fun _ => ?_)
/-! expressions -/
inductive Ex where
  | mk (kind op : Int) (mod name : List UInt8) (vt vb : Int) (kids : List Ex)
def Ex.kind : Ex → Int | .mk k _ _ _ _ _ _ => k
def Ex.op : Ex → Int | .mk _ o _ _ _ _ _ => o
def Ex.mod : Ex → List UInt8 | .mk _ _ m _ _ _ _ => m
def Ex.name : Ex → List UInt8 | .mk _ _ _ s _ _ _ => s
def Ex.vt : Ex → Int | .mk _ _ _ _ t _ _ => t
def Ex.vb : Ex → Int | .mk _ _ _ _ _ b _ => b
def Ex.kids : Ex → List Ex | .mk _ _ _ _ _ _ l => l
theorem kid_lt (e : Ex) (j : Fin e.kids.length) : SizeOf.sizeOf (e.kids.get j) < SizeOf.sizeOf e := by
  have h : e.kids.get j ∈ e.kids := List.get_mem ..
  cases e with
  | mk k o m s t b l =>
    have := List.sizeOf_lt_of_mem h
    simp only [Ex.kids] at this ⊢
    simp
    omega
def row (e : Ex) : List AV := [.int .i64 e.kind, .int .i64 e.op, .str e.mod, .str e.name, .int .i64 e.vt, .int .u64 e.vb, .sl 7 .no e.kids.length fun j => row (e.kids.get j)]
  termination_by SizeOf.sizeOf e
  decreasing_by exact kid_lt e j
def rowS (e : Ex) : List AV := [.int .i64 e.kind, .int .i64 e.op, .str e.mod, .str e.name, .int .i64 e.vt, .int .u64 e.vb, .sl 7 .no e.kids.length fun j => row (e.kids.get j)]
theorem row_eq (e : Ex) : row e = rowS e := by rw [row]; rfl
def kidsE (e : Ex) : AV := .sl 7 .no e.kids.length fun j => rowS (e.kids.get j)
def agK (k : Int) (e : Ex) : AV := .agg [.int .i64 k, .int .i64 e.op, .str e.mod, .str e.name, .int .i64 e.vt, .int .u64 e.vb, kidsE e]
def agE (e : Ex) : AV := agK e.kind e
theorem agS (e : Ex) : AV.agg (rowS e) = agE e := by
  unfold rowS agE agK kidsE
  have : (fun j => row (e.kids.get j)) = fun j => rowS (e.kids.get j) := funext fun j => row_eq _
  rw [this]
noncomputable def u60 : CallK := fun f args h ps K => match f, args, h, ps with
  | 44, [.bool b, .int .i64 e], [], .plain => cond (!b && e != 0) (K (.pan (.ifc 93 (.int .i64 e)) [] .plain)) (K (.ret (.tup []) [] .plain))
  | 60, [.int .i64 k], [], .plain => K (.ret (F60 k) [] .plain)
  | 62, [.str s], [], .plain => chk (s.length < 1000000000) (K (.ret (.int .i64 (iF 62 [.str s])) [] .plain))
  | _, _, _, _ => u57 f args h ps K
theorem u60_le : CallLeK u60 dX := by
  intro f args h ps kk o e
  unfold u60 at e
  split at e
  · rename_i b n
    have h := v44 b n
    cases hn : (!b && n != 0) with
    | true => rw [hn] at e h; exact ⟨_, e, h⟩
    | false => rw [hn] at e h; exact ⟨_, e, h⟩
  · exact ⟨_, e, v60 _⟩
  · obtain ⟨h1, h2⟩ := chk_some e
    exact ⟨_, h2, iF_eq ((f62_tot _ h1).mono fun o ⟨n, hn, _⟩ => ⟨n, hn⟩)⟩
  · exact u57_le _ _ _ _ _ _ e
noncomputable def uAsk : CallK := fun f args h ps K => match f, args, h, ps with
  | 44, [.bool b, .int .i64 e], [], .plain => chk (b = false ∧ e ≠ 0) (K (.pan (.ifc 93 (.int .i64 e)) [] .plain))
  | _, _, _, _ => none
theorem uAsk_le : CallLeK uAsk dX := by
  intro f args h ps kk o e
  unfold uAsk at e
  split at e
  · rename_i b n
    obtain ⟨⟨rfl, h1⟩, h2⟩ := chk_some e
    have h := v44 false n
    have : (!false && n != 0) = true := by simpa using h1
    rw [this] at h
    exact ⟨_, h2, h⟩
  · cases e
noncomputable def u46 (kid : Ex) : CallK := fun f args h ps K => match f with
  | 46 => chk (args = [.agg (rowS kid)] ∧ h = [] ∧ ps = .plain) (cond (pF 46 [agE kid]) (K (.pan (.ifc 93 (.int .i64 (eF 46 [agE kid]))) [] .plain)) (K (.ret (.tup []) [] .plain)))
  | _ => none
end Go.Proofs

/- Expressions must be right: what is left. -/
namespace Go.Proofs
open Go.Den
set_option maxRecDepth 100000

def S46 (k : Int) (e : Ex) (i : Int) : St := ⟨[.top, .top, .top, .top, .top, .top, .top, .top, .top, .top, .top, .top, .top, .top, .top, .top, .top, .top, .top, .top, .top, .top, .top, .top, .top, .top, .top, .top, .top, .top, .top, .top, .top, .top, .top, .top, .top, .top, .top, .top, .top, .top, .top, .top, .top, .top, .top, .top, .top, .top, .top, .top, .top, .top, .top, .top, .top, .top, .top, .top, .top, .top, .top, .top, .top, .top, .top, .top, .top, .top, .top, .top, .top, .top, .top, .top, .top, .top, .top, .top, .top, .top, .top, .top, .top, .top, .top, .top, .top, .top, .top, .top, .top, .top, .top, .top, .top, .top, .top, .top, .top, .top, .top, .top, .top, .top, .top, .top, .top, .top, .top, kidsE e, .int .i64 e.kids.length, .int .i64 i, .top, .top, .top, .top, .top, .top], ⟨[.var [.int .i64 k, .int .i64 e.op, .str e.mod, .str e.name, .int .i64 e.vt, .int .u64 e.vb, kidsE e]], [], .plain⟩⟩
def S46e (k : Int) (e : Ex) (i : Int) : St := ⟨[.top, .top, .top, .top, .top, .top, .top, .top, .top, .top, .top, .top, .top, .top, .top, .top, .top, .top, .top, .top, .top, .top, .top, .top, .top, .top, .top, .top, .top, .top, .top, .top, .top, .top, .top, .top, .top, .top, .top, .top, .top, .top, .top, .top, .top, .top, .top, .top, .top, .top, .top, .top, .top, .top, .top, .top, .top, .top, .top, .top, .top, .top, .top, .top, .top, .top, .top, .top, .top, .top, .top, .top, .top, .top, .top, .top, .top, .top, .top, .top, .top, .top, .top, .top, .top, .top, .top, .top, .top, .top, .top, .top, .top, .top, .top, .top, .top, .top, .top, .top, .top, .top, .top, .top, .top, .top, .top, .top, .top, .top, .top, kidsE e, .int .i64 e.kids.length, .int .i64 i, .bool (decide (i < (e.kids.length : Int))), .top, .top, .top, .top, .top], ⟨[.var [.int .i64 k, .int .i64 e.op, .str e.mod, .str e.name, .int .i64 e.vt, .int .u64 e.vb, kidsE e]], [], .plain⟩⟩
theorem r46 (kid e : Ex) (q : Int) (i : Nat) (k : Den.Exit → St → R) : codeL Try.prog polX (u46 kid) noLoops 46 (Code.part (bodyOf Try.prog 46) [1, 1, 1, 1, 1, 1, 1, 1, 1, 1, 0, 0]) (S46 q e i) k =
  (cond (decide ((↑i : Int) < (↑e.kids.length : Int))) (dite ((0 : Int) ≤ (↑i : Int) ∧ (↑i : Int).toNat < e.kids.length) (fun hb59 => (chk (Eq (α := List AV) [(.agg [(.int .i64 ((e.kids.get ⟨(↑i : Int).toNat, hb59.right⟩).kind)), (.int .i64 ((e.kids.get ⟨(↑i : Int).toNat, hb59.right⟩).op)), (.str ((e.kids.get ⟨(↑i : Int).toNat, hb59.right⟩).mod)), (.str ((e.kids.get ⟨(↑i : Int).toNat, hb59.right⟩).name)), (.int .i64 ((e.kids.get ⟨(↑i : Int).toNat, hb59.right⟩).vt)), (.int .u64 ((e.kids.get ⟨(↑i : Int).toNat, hb59.right⟩).vb)), (.sl 7 .no ((e.kids.get ⟨(↑i : Int).toNat, hb59.right⟩).kids.length) (fun q6 => row ((e.kids.get ⟨(↑i : Int).toNat, hb59.right⟩).kids.get q6)))])] [(.agg [(.int .i64 (kid.kind)), (.int .i64 (kid.op)), (.str (kid.mod)), (.str (kid.name)), (.int .i64 (kid.vt)), (.int .u64 (kid.vb)), (.sl 7 .no (kid.kids.length) (fun q6 => row (kid.kids.get q6)))])] ∧ Eq (α := List Den.Obj) [] [] ∧ Eq (α := PS) .plain .plain) (cond (pF (46 : FuncId) [agE kid]) (k (.pan (.ifc 93 (.int .i64 (eF (46 : FuncId) [agE kid])))) (.mk [.top, .top, .top, .top, .top, .top, .top, .top, (.ptr 1 0 0 0), .top, .top, .top, .top, .top, .top, .top, .top, .top, .top, .top, .top, .top, .top, .top, .top, .top, .top, .top, .top, .top, .top, .top, .top, .top, .top, .top, .top, .top, .top, .top, .top, .top, .top, .top, .top, .top, .top, .top, .top, .top, .top, .top, .top, .top, .top, .top, .top, .top, .top, .top, .top, .top, .top, .top, .top, .top, .top, .top, .top, .top, .top, .top, .top, .top, .top, .top, .top, .top, .top, .top, .top, .top, .top, .top, .top, .top, .top, .top, .top, .top, .top, .top, .top, .top, .top, .top, .top, .top, .top, .top, .top, .top, .top, .top, .top, .top, .top, .top, .top, .top, .top, (.sl 7 .no (e.kids.length) (fun q7 => [(.int .i64 ((e.kids.get q7).kind)), (.int .i64 ((e.kids.get q7).op)), (.str ((e.kids.get q7).mod)), (.str ((e.kids.get q7).name)), (.int .i64 ((e.kids.get q7).vt)), (.int .u64 ((e.kids.get q7).vb)), (.sl 7 .no ((e.kids.get q7).kids.length) (fun q8 => row ((e.kids.get q7).kids.get q8)))])), (.int .i64 ((↑e.kids.length : Int))), (.int .i64 ((↑i : Int))), .top, .top, .top, (.agg [(.int .i64 ((e.kids.get ⟨(↑i : Int).toNat, hb59.right⟩).kind)), (.int .i64 ((e.kids.get ⟨(↑i : Int).toNat, hb59.right⟩).op)), (.str ((e.kids.get ⟨(↑i : Int).toNat, hb59.right⟩).mod)), (.str ((e.kids.get ⟨(↑i : Int).toNat, hb59.right⟩).name)), (.int .i64 ((e.kids.get ⟨(↑i : Int).toNat, hb59.right⟩).vt)), (.int .u64 ((e.kids.get ⟨(↑i : Int).toNat, hb59.right⟩).vb)), (.sl 7 .no ((e.kids.get ⟨(↑i : Int).toNat, hb59.right⟩).kids.length) (fun q7 => row ((e.kids.get ⟨(↑i : Int).toNat, hb59.right⟩).kids.get q7)))]), .top, .top] (.mk [(.var [(.int .i64 q), (.int .i64 (e.op)), (.str (e.mod)), (.str (e.name)), (.int .i64 (e.vt)), (.int .u64 (e.vb)), (.sl 7 .no (e.kids.length) (fun q7 => [(.int .i64 ((e.kids.get q7).kind)), (.int .i64 ((e.kids.get q7).op)), (.str ((e.kids.get q7).mod)), (.str ((e.kids.get q7).name)), (.int .i64 ((e.kids.get q7).vt)), (.int .u64 ((e.kids.get q7).vb)), (.sl 7 .no ((e.kids.get q7).kids.length) (fun q8 => row ((e.kids.get q7).kids.get q8)))]))]), (.var [(.int .i64 ((e.kids.get ⟨(↑i : Int).toNat, hb59.right⟩).kind)), (.int .i64 ((e.kids.get ⟨(↑i : Int).toNat, hb59.right⟩).op)), (.str ((e.kids.get ⟨(↑i : Int).toNat, hb59.right⟩).mod)), (.str ((e.kids.get ⟨(↑i : Int).toNat, hb59.right⟩).name)), (.int .i64 ((e.kids.get ⟨(↑i : Int).toNat, hb59.right⟩).vt)), (.int .u64 ((e.kids.get ⟨(↑i : Int).toNat, hb59.right⟩).vb)), (.sl 7 .no ((e.kids.get ⟨(↑i : Int).toNat, hb59.right⟩).kids.length) (fun q7 => row ((e.kids.get ⟨(↑i : Int).toNat, hb59.right⟩).kids.get q7)))])] [] .plain))) (k .normal (.mk [.top, .top, .top, .top, .top, .top, .top, .top, .top, .top, .top, .top, .top, .top, .top, .top, .top, .top, .top, .top, .top, .top, .top, .top, .top, .top, .top, .top, .top, .top, .top, .top, .top, .top, .top, .top, .top, .top, .top, .top, .top, .top, .top, .top, .top, .top, .top, .top, .top, .top, .top, .top, .top, .top, .top, .top, .top, .top, .top, .top, .top, .top, .top, .top, .top, .top, .top, .top, .top, .top, .top, .top, .top, .top, .top, .top, .top, .top, .top, .top, .top, .top, .top, .top, .top, .top, .top, .top, .top, .top, .top, .top, .top, .top, .top, .top, .top, .top, .top, .top, .top, .top, .top, .top, .top, .top, .top, .top, .top, .top, .top, (.sl 7 .no (e.kids.length) (fun q7 => [(.int .i64 ((e.kids.get q7).kind)), (.int .i64 ((e.kids.get q7).op)), (.str ((e.kids.get q7).mod)), (.str ((e.kids.get q7).name)), (.int .i64 ((e.kids.get q7).vt)), (.int .u64 ((e.kids.get q7).vb)), (.sl 7 .no ((e.kids.get q7).kids.length) (fun q8 => row ((e.kids.get q7).kids.get q8)))])), (.int .i64 ((↑e.kids.length : Int))), (.int .i64 (IntKind.i64.wrap ((↑i : Int) + (1 : Int)))), .top, .top, .top, .top, .top, .top] (.mk [(.var [(.int .i64 q), (.int .i64 (e.op)), (.str (e.mod)), (.str (e.name)), (.int .i64 (e.vt)), (.int .u64 (e.vb)), (.sl 7 .no (e.kids.length) (fun q7 => [(.int .i64 ((e.kids.get q7).kind)), (.int .i64 ((e.kids.get q7).op)), (.str ((e.kids.get q7).mod)), (.str ((e.kids.get q7).name)), (.int .i64 ((e.kids.get q7).vt)), (.int .u64 ((e.kids.get q7).vb)), (.sl 7 .no ((e.kids.get q7).kids.length) (fun q8 => row ((e.kids.get q7).kids.get q8)))]))]), (.var [(.int .i64 ((e.kids.get ⟨(↑i : Int).toNat, hb59.right⟩).kind)), (.int .i64 ((e.kids.get ⟨(↑i : Int).toNat, hb59.right⟩).op)), (.str ((e.kids.get ⟨(↑i : Int).toNat, hb59.right⟩).mod)), (.str ((e.kids.get ⟨(↑i : Int).toNat, hb59.right⟩).name)), (.int .i64 ((e.kids.get ⟨(↑i : Int).toNat, hb59.right⟩).vt)), (.int .u64 ((e.kids.get ⟨(↑i : Int).toNat, hb59.right⟩).vb)), (.sl 7 .no ((e.kids.get ⟨(↑i : Int).toNat, hb59.right⟩).kids.length) (fun q7 => row ((e.kids.get ⟨(↑i : Int).toNat, hb59.right⟩).kids.get q7)))])] [] .plain)))))) (fun hb59 => none)) (k (.exit 0) (.mk [.top, .top, .top, .top, .top, .top, .top, .top, .top, .top, .top, .top, .top, .top, .top, .top, .top, .top, .top, .top, .top, .top, .top, .top, .top, .top, .top, .top, .top, .top, .top, .top, .top, .top, .top, .top, .top, .top, .top, .top, .top, .top, .top, .top, .top, .top, .top, .top, .top, .top, .top, .top, .top, .top, .top, .top, .top, .top, .top, .top, .top, .top, .top, .top, .top, .top, .top, .top, .top, .top, .top, .top, .top, .top, .top, .top, .top, .top, .top, .top, .top, .top, .top, .top, .top, .top, .top, .top, .top, .top, .top, .top, .top, .top, .top, .top, .top, .top, .top, .top, .top, .top, .top, .top, .top, .top, .top, .top, .top, .top, .top, (.sl 7 .no (e.kids.length) (fun q5 => [(.int .i64 ((e.kids.get q5).kind)), (.int .i64 ((e.kids.get q5).op)), (.str ((e.kids.get q5).mod)), (.str ((e.kids.get q5).name)), (.int .i64 ((e.kids.get q5).vt)), (.int .u64 ((e.kids.get q5).vb)), (.sl 7 .no ((e.kids.get q5).kids.length) (fun q6 => row ((e.kids.get q5).kids.get q6)))])), (.int .i64 ((↑e.kids.length : Int))), (.int .i64 ((↑i : Int))), (.bool (decide ((↑i : Int) < (↑e.kids.length : Int)))), .top, .top, .top, .top, .top] (.mk [(.var [(.int .i64 q), (.int .i64 (e.op)), (.str (e.mod)), (.str (e.name)), (.int .i64 (e.vt)), (.int .u64 (e.vb)), (.sl 7 .no (e.kids.length) (fun q5 => [(.int .i64 ((e.kids.get q5).kind)), (.int .i64 ((e.kids.get q5).op)), (.str ((e.kids.get q5).mod)), (.str ((e.kids.get q5).name)), (.int .i64 ((e.kids.get q5).vt)), (.int .u64 ((e.kids.get q5).vb)), (.sl 7 .no ((e.kids.get q5).kids.length) (fun q6 => row ((e.kids.get q5).kids.get q6)))]))])] [] .plain)))) := by kernel_rfl
theorem r46n (e : Ex) (q : Int) (i : Nat) (k : Den.Exit → St → R) : codeL Try.prog polX noCall noLoops 46 (Code.part (bodyOf Try.prog 46) [1, 1, 1, 1, 1, 1, 1, 1, 1, 1, 0, 0]) (S46 q e i) k =
  (cond (decide ((↑i : Int) < (↑e.kids.length : Int))) (dite ((0 : Int) ≤ (↑i : Int) ∧ (↑i : Int).toNat < e.kids.length) (fun hb59 => none) (fun hb59 => none)) (k (.exit 0) (.mk [.top, .top, .top, .top, .top, .top, .top, .top, .top, .top, .top, .top, .top, .top, .top, .top, .top, .top, .top, .top, .top, .top, .top, .top, .top, .top, .top, .top, .top, .top, .top, .top, .top, .top, .top, .top, .top, .top, .top, .top, .top, .top, .top, .top, .top, .top, .top, .top, .top, .top, .top, .top, .top, .top, .top, .top, .top, .top, .top, .top, .top, .top, .top, .top, .top, .top, .top, .top, .top, .top, .top, .top, .top, .top, .top, .top, .top, .top, .top, .top, .top, .top, .top, .top, .top, .top, .top, .top, .top, .top, .top, .top, .top, .top, .top, .top, .top, .top, .top, .top, .top, .top, .top, .top, .top, .top, .top, .top, .top, .top, .top, (.sl 7 .no (e.kids.length) (fun q4 => [(.int .i64 ((e.kids.get q4).kind)), (.int .i64 ((e.kids.get q4).op)), (.str ((e.kids.get q4).mod)), (.str ((e.kids.get q4).name)), (.int .i64 ((e.kids.get q4).vt)), (.int .u64 ((e.kids.get q4).vb)), (.sl 7 .no ((e.kids.get q4).kids.length) (fun q5 => row ((e.kids.get q4).kids.get q5)))])), (.int .i64 ((↑e.kids.length : Int))), (.int .i64 ((↑i : Int))), (.bool (decide ((↑i : Int) < (↑e.kids.length : Int)))), .top, .top, .top, .top, .top] (.mk [(.var [(.int .i64 q), (.int .i64 (e.op)), (.str (e.mod)), (.str (e.name)), (.int .i64 (e.vt)), (.int .u64 (e.vb)), (.sl 7 .no (e.kids.length) (fun q4 => [(.int .i64 ((e.kids.get q4).kind)), (.int .i64 ((e.kids.get q4).op)), (.str ((e.kids.get q4).mod)), (.str ((e.kids.get q4).name)), (.int .i64 ((e.kids.get q4).vt)), (.int .u64 ((e.kids.get q4).vb)), (.sl 7 .no ((e.kids.get q4).kids.length) (fun q5 => row ((e.kids.get q4).kids.get q5)))]))])] [] .plain)))) := by kernel_rfl
theorem b46_1 (loops : LoopK) (e : Ex) : bodyL Try.prog polX u60 loops 46 [agK 1 e] [] .plain =
  (cond (((!(cond (cond (true) (e.op == (0 : Int)) (false)) (true) (false))) && (true))) (some (.pan (.ifc 93 (.int .i64 1)) [] .plain)) (cond (((!(cond (cond (cond (false) (true) (((e.mod) == []))) (cond (false) (true) (((e.name) == []))) (false)) (cond (false) (true) ((↑e.kids.length : Int) == bif (1 : Int) == (4 : Int) then (-1 : Int) else bif (1 : Int) == (5 : Int) then (-1 : Int) else bif (1 : Int) == (6 : Int) then (1 : Int) else bif (1 : Int) == (7 : Int) then (2 : Int) else (0 : Int))) (false))) && (true))) (some (.pan (.ifc 93 (.int .i64 1)) [] .plain)) (cond (((!(cond (cond (true) (bF (61 : FuncId) [AV.agg [AV.int IntKind.i64 e.vt, AV.int IntKind.u64 e.vb]]) (false)) (true) (false))) && (true))) (some (.pan (.ifc 93 (.int .i64 1)) [] .plain)) (cond (((!(decide ((↑e.kids.length : Int) ≤ bif decide ((bif (1 : Int) == (4 : Int) then (-1 : Int) else bif (1 : Int) == (5 : Int) then (-1 : Int) else bif (1 : Int) == (6 : Int) then (1 : Int) else bif (1 : Int) == (7 : Int) then (2 : Int) else (0 : Int)) > (8 : Int)) then bif (1 : Int) == (4 : Int) then (-1 : Int) else bif (1 : Int) == (5 : Int) then (-1 : Int) else bif (1 : Int) == (6 : Int) then (1 : Int) else bif (1 : Int) == (7 : Int) then (2 : Int) else (0 : Int) else (8 : Int)))) && (true))) (some (.pan (.ifc 93 (.int .i64 3)) [] .plain)) (loops 12 (.mk [.top, .top, .top, .top, .top, .top, .top, .top, .top, .top, .top, .top, .top, .top, .top, .top, .top, .top, .top, .top, .top, .top, .top, .top, .top, .top, .top, .top, .top, .top, .top, .top, .top, .top, .top, .top, .top, .top, .top, .top, .top, .top, .top, .top, .top, .top, .top, .top, .top, .top, .top, .top, .top, .top, .top, .top, .top, .top, .top, .top, .top, .top, .top, .top, .top, .top, .top, .top, .top, .top, .top, .top, .top, .top, .top, .top, .top, .top, .top, .top, .top, .top, .top, .top, .top, .top, .top, .top, .top, .top, .top, .top, .top, .top, .top, .top, .top, .top, .top, .top, .top, .top, .top, .top, .top, .top, .top, .top, .top, .top, .top, (.sl 7 .no (e.kids.length) (fun q2 => [(.int .i64 ((e.kids.get q2).kind)), (.int .i64 ((e.kids.get q2).op)), (.str ((e.kids.get q2).mod)), (.str ((e.kids.get q2).name)), (.int .i64 ((e.kids.get q2).vt)), (.int .u64 ((e.kids.get q2).vb)), (.sl 7 .no ((e.kids.get q2).kids.length) (fun q3 => row ((e.kids.get q2).kids.get q3)))])), (.int .i64 ((↑e.kids.length : Int))), (.int .i64 0), .top, .top, .top, .top, .top, .top] (.mk [(.var [(.int .i64 1), (.int .i64 (e.op)), (.str (e.mod)), (.str (e.name)), (.int .i64 (e.vt)), (.int .u64 (e.vb)), (.sl 7 .no (e.kids.length) (fun q2 => [(.int .i64 ((e.kids.get q2).kind)), (.int .i64 ((e.kids.get q2).op)), (.str ((e.kids.get q2).mod)), (.str ((e.kids.get q2).name)), (.int .i64 ((e.kids.get q2).vt)), (.int .u64 ((e.kids.get q2).vb)), (.sl 7 .no ((e.kids.get q2).kids.length) (fun q3 => row ((e.kids.get q2).kids.get q3)))]))])] [] .plain)) (kBody Try.prog polX u60 loops 46 [1, 1, 1, 1, 1, 1, 1, 1, 1, 1, 0] 0 .plain)))))) := by kernel_rfl
theorem e46_1 (loops : LoopK) (e : Ex) (i : Int) : (kBody Try.prog polX u60 loops 46 [1, 1, 1, 1, 1, 1, 1, 1, 1, 1, 0] 0 .plain) (.exit 0) (S46e 1 e i) =
  (some (.ret (.tup []) [] .plain)) := by kernel_rfl
theorem b46_2 (loops : LoopK) (e : Ex) : bodyL Try.prog polX u60 loops 46 [agK 2 e] [] .plain =
  (cond (((!(cond (cond (true) (e.op == (0 : Int)) (false)) (true) (false))) && (true))) (some (.pan (.ifc 93 (.int .i64 1)) [] .plain)) (cond (((!(cond (cond (cond (false) (true) (((e.mod) == []))) (true) (false)) (cond (false) (true) ((↑e.kids.length : Int) == bif (2 : Int) == (4 : Int) then (-1 : Int) else bif (2 : Int) == (5 : Int) then (-1 : Int) else bif (2 : Int) == (6 : Int) then (1 : Int) else bif (2 : Int) == (7 : Int) then (2 : Int) else (0 : Int))) (false))) && (true))) (some (.pan (.ifc 93 (.int .i64 1)) [] .plain)) (cond (((!(cond (false) (true) (cond (true) (((e.vt == (0 : Int)) && (((e.vb == (0 : Int)) && (true))))) (false)))) && (true))) (some (.pan (.ifc 93 (.int .i64 1)) [] .plain)) (chk (e.name.length < (1000000000 : Nat)) (cond (iF (62 : FuncId) [AV.str e.name] != (0 : Int)) (some (.pan (.ifc 93 (.int .i64 (iF (62 : FuncId) [AV.str e.name]))) [] .plain)) (cond (((!(decide ((↑e.kids.length : Int) ≤ bif decide ((bif (2 : Int) == (4 : Int) then (-1 : Int) else bif (2 : Int) == (5 : Int) then (-1 : Int) else bif (2 : Int) == (6 : Int) then (1 : Int) else bif (2 : Int) == (7 : Int) then (2 : Int) else (0 : Int)) > (8 : Int)) then bif (2 : Int) == (4 : Int) then (-1 : Int) else bif (2 : Int) == (5 : Int) then (-1 : Int) else bif (2 : Int) == (6 : Int) then (1 : Int) else bif (2 : Int) == (7 : Int) then (2 : Int) else (0 : Int) else (8 : Int)))) && (true))) (some (.pan (.ifc 93 (.int .i64 3)) [] .plain)) (loops 12 (.mk [.top, .top, .top, .top, .top, .top, .top, .top, .top, .top, .top, .top, .top, .top, .top, .top, .top, .top, .top, .top, .top, .top, .top, .top, .top, .top, .top, .top, .top, .top, .top, .top, .top, .top, .top, .top, .top, .top, .top, .top, .top, .top, .top, .top, .top, .top, .top, .top, .top, .top, .top, .top, .top, .top, .top, .top, .top, .top, .top, .top, .top, .top, .top, .top, .top, .top, .top, .top, .top, .top, .top, .top, .top, .top, .top, .top, .top, .top, .top, .top, .top, .top, .top, .top, .top, .top, .top, .top, .top, .top, .top, .top, .top, .top, .top, .top, .top, .top, .top, .top, .top, .top, .top, .top, .top, .top, .top, .top, .top, .top, .top, (.sl 7 .no (e.kids.length) (fun q3 => [(.int .i64 ((e.kids.get q3).kind)), (.int .i64 ((e.kids.get q3).op)), (.str ((e.kids.get q3).mod)), (.str ((e.kids.get q3).name)), (.int .i64 ((e.kids.get q3).vt)), (.int .u64 ((e.kids.get q3).vb)), (.sl 7 .no ((e.kids.get q3).kids.length) (fun q4 => row ((e.kids.get q3).kids.get q4)))])), (.int .i64 ((↑e.kids.length : Int))), (.int .i64 0), .top, .top, .top, .top, .top, .top] (.mk [(.var [(.int .i64 2), (.int .i64 (e.op)), (.str (e.mod)), (.str (e.name)), (.int .i64 (e.vt)), (.int .u64 (e.vb)), (.sl 7 .no (e.kids.length) (fun q3 => [(.int .i64 ((e.kids.get q3).kind)), (.int .i64 ((e.kids.get q3).op)), (.str ((e.kids.get q3).mod)), (.str ((e.kids.get q3).name)), (.int .i64 ((e.kids.get q3).vt)), (.int .u64 ((e.kids.get q3).vb)), (.sl 7 .no ((e.kids.get q3).kids.length) (fun q4 => row ((e.kids.get q3).kids.get q4)))]))])] [] .plain)) (kBody Try.prog polX u60 loops 46 [1, 1, 1, 1, 1, 1, 1, 1, 1, 1, 0] 0 .plain)))))))) := by kernel_rfl
theorem e46_2 (loops : LoopK) (e : Ex) (i : Int) : (kBody Try.prog polX u60 loops 46 [1, 1, 1, 1, 1, 1, 1, 1, 1, 1, 0] 0 .plain) (.exit 0) (S46e 2 e i) =
  (some (.ret (.tup []) [] .plain)) := by kernel_rfl
theorem b46_3 (loops : LoopK) (e : Ex) : bodyL Try.prog polX u60 loops 46 [agK 3 e] [] .plain =
  (cond (((!(cond (cond (true) (e.op == (0 : Int)) (false)) (true) (false))) && (true))) (some (.pan (.ifc 93 (.int .i64 1)) [] .plain)) (cond (((!(cond (true) (cond (false) (true) ((↑e.kids.length : Int) == bif (3 : Int) == (4 : Int) then (-1 : Int) else bif (3 : Int) == (5 : Int) then (-1 : Int) else bif (3 : Int) == (6 : Int) then (1 : Int) else bif (3 : Int) == (7 : Int) then (2 : Int) else (0 : Int))) (false))) && (true))) (some (.pan (.ifc 93 (.int .i64 1)) [] .plain)) (cond (((!(cond (false) (true) (cond (true) (((e.vt == (0 : Int)) && (((e.vb == (0 : Int)) && (true))))) (false)))) && (true))) (some (.pan (.ifc 93 (.int .i64 1)) [] .plain)) (chk (e.mod.length < (1000000000 : Nat)) (cond (iF (62 : FuncId) [AV.str e.mod] != (0 : Int)) (some (.pan (.ifc 93 (.int .i64 (iF (62 : FuncId) [AV.str e.mod]))) [] .plain)) (chk (e.name.length < (1000000000 : Nat)) (cond (iF (62 : FuncId) [AV.str e.name] != (0 : Int)) (some (.pan (.ifc 93 (.int .i64 (iF (62 : FuncId) [AV.str e.name]))) [] .plain)) (cond (((!(decide ((↑e.kids.length : Int) ≤ bif decide ((bif (3 : Int) == (4 : Int) then (-1 : Int) else bif (3 : Int) == (5 : Int) then (-1 : Int) else bif (3 : Int) == (6 : Int) then (1 : Int) else bif (3 : Int) == (7 : Int) then (2 : Int) else (0 : Int)) > (8 : Int)) then bif (3 : Int) == (4 : Int) then (-1 : Int) else bif (3 : Int) == (5 : Int) then (-1 : Int) else bif (3 : Int) == (6 : Int) then (1 : Int) else bif (3 : Int) == (7 : Int) then (2 : Int) else (0 : Int) else (8 : Int)))) && (true))) (some (.pan (.ifc 93 (.int .i64 3)) [] .plain)) (loops 12 (.mk [.top, .top, .top, .top, .top, .top, .top, .top, .top, .top, .top, .top, .top, .top, .top, .top, .top, .top, .top, .top, .top, .top, .top, .top, .top, .top, .top, .top, .top, .top, .top, .top, .top, .top, .top, .top, .top, .top, .top, .top, .top, .top, .top, .top, .top, .top, .top, .top, .top, .top, .top, .top, .top, .top, .top, .top, .top, .top, .top, .top, .top, .top, .top, .top, .top, .top, .top, .top, .top, .top, .top, .top, .top, .top, .top, .top, .top, .top, .top, .top, .top, .top, .top, .top, .top, .top, .top, .top, .top, .top, .top, .top, .top, .top, .top, .top, .top, .top, .top, .top, .top, .top, .top, .top, .top, .top, .top, .top, .top, .top, .top, (.sl 7 .no (e.kids.length) (fun q4 => [(.int .i64 ((e.kids.get q4).kind)), (.int .i64 ((e.kids.get q4).op)), (.str ((e.kids.get q4).mod)), (.str ((e.kids.get q4).name)), (.int .i64 ((e.kids.get q4).vt)), (.int .u64 ((e.kids.get q4).vb)), (.sl 7 .no ((e.kids.get q4).kids.length) (fun q5 => row ((e.kids.get q4).kids.get q5)))])), (.int .i64 ((↑e.kids.length : Int))), (.int .i64 0), .top, .top, .top, .top, .top, .top] (.mk [(.var [(.int .i64 3), (.int .i64 (e.op)), (.str (e.mod)), (.str (e.name)), (.int .i64 (e.vt)), (.int .u64 (e.vb)), (.sl 7 .no (e.kids.length) (fun q4 => [(.int .i64 ((e.kids.get q4).kind)), (.int .i64 ((e.kids.get q4).op)), (.str ((e.kids.get q4).mod)), (.str ((e.kids.get q4).name)), (.int .i64 ((e.kids.get q4).vt)), (.int .u64 ((e.kids.get q4).vb)), (.sl 7 .no ((e.kids.get q4).kids.length) (fun q5 => row ((e.kids.get q4).kids.get q5)))]))])] [] .plain)) (kBody Try.prog polX u60 loops 46 [1, 1, 1, 1, 1, 1, 1, 1, 1, 1, 0] 0 .plain)))))))))) := by kernel_rfl
theorem e46_3 (loops : LoopK) (e : Ex) (i : Int) : (kBody Try.prog polX u60 loops 46 [1, 1, 1, 1, 1, 1, 1, 1, 1, 1, 0] 0 .plain) (.exit 0) (S46e 3 e i) =
  (some (.ret (.tup []) [] .plain)) := by kernel_rfl
theorem b46_4 (loops : LoopK) (e : Ex) : bodyL Try.prog polX u60 loops 46 [agK 4 e] [] .plain =
  (cond (((!(cond (cond (true) (e.op == (0 : Int)) (false)) (true) (false))) && (true))) (some (.pan (.ifc 93 (.int .i64 1)) [] .plain)) (cond (((!(cond (cond (cond (false) (true) (((e.mod) == []))) (true) (false)) (true) (false))) && (true))) (some (.pan (.ifc 93 (.int .i64 1)) [] .plain)) (cond (((!(cond (false) (true) (cond (true) (((e.vt == (0 : Int)) && (((e.vb == (0 : Int)) && (true))))) (false)))) && (true))) (some (.pan (.ifc 93 (.int .i64 1)) [] .plain)) (chk (e.name.length < (1000000000 : Nat)) (cond (iF (62 : FuncId) [AV.str e.name] != (0 : Int)) (some (.pan (.ifc 93 (.int .i64 (iF (62 : FuncId) [AV.str e.name]))) [] .plain)) (cond (((!(decide ((↑e.kids.length : Int) ≤ bif decide ((bif (4 : Int) == (4 : Int) then (-1 : Int) else bif (4 : Int) == (5 : Int) then (-1 : Int) else bif (4 : Int) == (6 : Int) then (1 : Int) else bif (4 : Int) == (7 : Int) then (2 : Int) else (0 : Int)) > (8 : Int)) then bif (4 : Int) == (4 : Int) then (-1 : Int) else bif (4 : Int) == (5 : Int) then (-1 : Int) else bif (4 : Int) == (6 : Int) then (1 : Int) else bif (4 : Int) == (7 : Int) then (2 : Int) else (0 : Int) else (8 : Int)))) && (true))) (some (.pan (.ifc 93 (.int .i64 3)) [] .plain)) (loops 12 (.mk [.top, .top, .top, .top, .top, .top, .top, .top, .top, .top, .top, .top, .top, .top, .top, .top, .top, .top, .top, .top, .top, .top, .top, .top, .top, .top, .top, .top, .top, .top, .top, .top, .top, .top, .top, .top, .top, .top, .top, .top, .top, .top, .top, .top, .top, .top, .top, .top, .top, .top, .top, .top, .top, .top, .top, .top, .top, .top, .top, .top, .top, .top, .top, .top, .top, .top, .top, .top, .top, .top, .top, .top, .top, .top, .top, .top, .top, .top, .top, .top, .top, .top, .top, .top, .top, .top, .top, .top, .top, .top, .top, .top, .top, .top, .top, .top, .top, .top, .top, .top, .top, .top, .top, .top, .top, .top, .top, .top, .top, .top, .top, (.sl 7 .no (e.kids.length) (fun q3 => [(.int .i64 ((e.kids.get q3).kind)), (.int .i64 ((e.kids.get q3).op)), (.str ((e.kids.get q3).mod)), (.str ((e.kids.get q3).name)), (.int .i64 ((e.kids.get q3).vt)), (.int .u64 ((e.kids.get q3).vb)), (.sl 7 .no ((e.kids.get q3).kids.length) (fun q4 => row ((e.kids.get q3).kids.get q4)))])), (.int .i64 ((↑e.kids.length : Int))), (.int .i64 0), .top, .top, .top, .top, .top, .top] (.mk [(.var [(.int .i64 4), (.int .i64 (e.op)), (.str (e.mod)), (.str (e.name)), (.int .i64 (e.vt)), (.int .u64 (e.vb)), (.sl 7 .no (e.kids.length) (fun q3 => [(.int .i64 ((e.kids.get q3).kind)), (.int .i64 ((e.kids.get q3).op)), (.str ((e.kids.get q3).mod)), (.str ((e.kids.get q3).name)), (.int .i64 ((e.kids.get q3).vt)), (.int .u64 ((e.kids.get q3).vb)), (.sl 7 .no ((e.kids.get q3).kids.length) (fun q4 => row ((e.kids.get q3).kids.get q4)))]))])] [] .plain)) (kBody Try.prog polX u60 loops 46 [1, 1, 1, 1, 1, 1, 1, 1, 1, 1, 0] 0 .plain)))))))) := by kernel_rfl
theorem e46_4 (loops : LoopK) (e : Ex) (i : Int) : (kBody Try.prog polX u60 loops 46 [1, 1, 1, 1, 1, 1, 1, 1, 1, 1, 0] 0 .plain) (.exit 0) (S46e 4 e i) =
  (some (.ret (.tup []) [] .plain)) := by kernel_rfl
theorem b46_5 (loops : LoopK) (e : Ex) : bodyL Try.prog polX u60 loops 46 [agK 5 e] [] .plain =
  (cond (((!(cond (cond (true) (e.op == (0 : Int)) (false)) (true) (false))) && (true))) (some (.pan (.ifc 93 (.int .i64 1)) [] .plain)) (cond (((!(cond (false) (true) (cond (true) (((e.vt == (0 : Int)) && (((e.vb == (0 : Int)) && (true))))) (false)))) && (true))) (some (.pan (.ifc 93 (.int .i64 1)) [] .plain)) (chk (e.mod.length < (1000000000 : Nat)) (cond (iF (62 : FuncId) [AV.str e.mod] != (0 : Int)) (some (.pan (.ifc 93 (.int .i64 (iF (62 : FuncId) [AV.str e.mod]))) [] .plain)) (chk (e.name.length < (1000000000 : Nat)) (cond (iF (62 : FuncId) [AV.str e.name] != (0 : Int)) (some (.pan (.ifc 93 (.int .i64 (iF (62 : FuncId) [AV.str e.name]))) [] .plain)) (cond (((!(decide ((↑e.kids.length : Int) ≤ bif decide ((bif (5 : Int) == (4 : Int) then (-1 : Int) else bif (5 : Int) == (5 : Int) then (-1 : Int) else bif (5 : Int) == (6 : Int) then (1 : Int) else bif (5 : Int) == (7 : Int) then (2 : Int) else (0 : Int)) > (8 : Int)) then bif (5 : Int) == (4 : Int) then (-1 : Int) else bif (5 : Int) == (5 : Int) then (-1 : Int) else bif (5 : Int) == (6 : Int) then (1 : Int) else bif (5 : Int) == (7 : Int) then (2 : Int) else (0 : Int) else (8 : Int)))) && (true))) (some (.pan (.ifc 93 (.int .i64 3)) [] .plain)) (loops 12 (.mk [.top, .top, .top, .top, .top, .top, .top, .top, .top, .top, .top, .top, .top, .top, .top, .top, .top, .top, .top, .top, .top, .top, .top, .top, .top, .top, .top, .top, .top, .top, .top, .top, .top, .top, .top, .top, .top, .top, .top, .top, .top, .top, .top, .top, .top, .top, .top, .top, .top, .top, .top, .top, .top, .top, .top, .top, .top, .top, .top, .top, .top, .top, .top, .top, .top, .top, .top, .top, .top, .top, .top, .top, .top, .top, .top, .top, .top, .top, .top, .top, .top, .top, .top, .top, .top, .top, .top, .top, .top, .top, .top, .top, .top, .top, .top, .top, .top, .top, .top, .top, .top, .top, .top, .top, .top, .top, .top, .top, .top, .top, .top, (.sl 7 .no (e.kids.length) (fun q4 => [(.int .i64 ((e.kids.get q4).kind)), (.int .i64 ((e.kids.get q4).op)), (.str ((e.kids.get q4).mod)), (.str ((e.kids.get q4).name)), (.int .i64 ((e.kids.get q4).vt)), (.int .u64 ((e.kids.get q4).vb)), (.sl 7 .no ((e.kids.get q4).kids.length) (fun q5 => row ((e.kids.get q4).kids.get q5)))])), (.int .i64 ((↑e.kids.length : Int))), (.int .i64 0), .top, .top, .top, .top, .top, .top] (.mk [(.var [(.int .i64 5), (.int .i64 (e.op)), (.str (e.mod)), (.str (e.name)), (.int .i64 (e.vt)), (.int .u64 (e.vb)), (.sl 7 .no (e.kids.length) (fun q4 => [(.int .i64 ((e.kids.get q4).kind)), (.int .i64 ((e.kids.get q4).op)), (.str ((e.kids.get q4).mod)), (.str ((e.kids.get q4).name)), (.int .i64 ((e.kids.get q4).vt)), (.int .u64 ((e.kids.get q4).vb)), (.sl 7 .no ((e.kids.get q4).kids.length) (fun q5 => row ((e.kids.get q4).kids.get q5)))]))])] [] .plain)) (kBody Try.prog polX u60 loops 46 [1, 1, 1, 1, 1, 1, 1, 1, 1, 1, 0] 0 .plain))))))))) := by kernel_rfl
theorem e46_5 (loops : LoopK) (e : Ex) (i : Int) : (kBody Try.prog polX u60 loops 46 [1, 1, 1, 1, 1, 1, 1, 1, 1, 1, 0] 0 .plain) (.exit 0) (S46e 5 e i) =
  (some (.ret (.tup []) [] .plain)) := by kernel_rfl
theorem b46_6 (loops : LoopK) (e : Ex) : bodyL Try.prog polX u60 loops 46 [agK 6 e] [] .plain =
  (cond (((!(cond (false) (true) (cond (cond (true) (decide (e.op ≥ (1 : Int))) (false)) (decide (e.op ≤ bif (6 : Int) == (6 : Int) then (4 : Int) else bif (6 : Int) == (7 : Int) then (13 : Int) else (0 : Int))) (false)))) && (true))) (some (.pan (.ifc 93 (.int .i64 1)) [] .plain)) (cond (((!(cond (cond (cond (false) (true) (((e.mod) == []))) (cond (false) (true) (((e.name) == []))) (false)) (cond (false) (true) ((↑e.kids.length : Int) == bif (6 : Int) == (4 : Int) then (-1 : Int) else bif (6 : Int) == (5 : Int) then (-1 : Int) else bif (6 : Int) == (6 : Int) then (1 : Int) else bif (6 : Int) == (7 : Int) then (2 : Int) else (0 : Int))) (false))) && (true))) (some (.pan (.ifc 93 (.int .i64 1)) [] .plain)) (cond (((!(cond (false) (true) (cond (true) (((e.vt == (0 : Int)) && (((e.vb == (0 : Int)) && (true))))) (false)))) && (true))) (some (.pan (.ifc 93 (.int .i64 1)) [] .plain)) (cond (((!(decide ((↑e.kids.length : Int) ≤ bif decide ((bif (6 : Int) == (4 : Int) then (-1 : Int) else bif (6 : Int) == (5 : Int) then (-1 : Int) else bif (6 : Int) == (6 : Int) then (1 : Int) else bif (6 : Int) == (7 : Int) then (2 : Int) else (0 : Int)) > (8 : Int)) then bif (6 : Int) == (4 : Int) then (-1 : Int) else bif (6 : Int) == (5 : Int) then (-1 : Int) else bif (6 : Int) == (6 : Int) then (1 : Int) else bif (6 : Int) == (7 : Int) then (2 : Int) else (0 : Int) else (8 : Int)))) && (true))) (some (.pan (.ifc 93 (.int .i64 3)) [] .plain)) (loops 12 (.mk [.top, .top, .top, .top, .top, .top, .top, .top, .top, .top, .top, .top, .top, .top, .top, .top, .top, .top, .top, .top, .top, .top, .top, .top, .top, .top, .top, .top, .top, .top, .top, .top, .top, .top, .top, .top, .top, .top, .top, .top, .top, .top, .top, .top, .top, .top, .top, .top, .top, .top, .top, .top, .top, .top, .top, .top, .top, .top, .top, .top, .top, .top, .top, .top, .top, .top, .top, .top, .top, .top, .top, .top, .top, .top, .top, .top, .top, .top, .top, .top, .top, .top, .top, .top, .top, .top, .top, .top, .top, .top, .top, .top, .top, .top, .top, .top, .top, .top, .top, .top, .top, .top, .top, .top, .top, .top, .top, .top, .top, .top, .top, (.sl 7 .no (e.kids.length) (fun q2 => [(.int .i64 ((e.kids.get q2).kind)), (.int .i64 ((e.kids.get q2).op)), (.str ((e.kids.get q2).mod)), (.str ((e.kids.get q2).name)), (.int .i64 ((e.kids.get q2).vt)), (.int .u64 ((e.kids.get q2).vb)), (.sl 7 .no ((e.kids.get q2).kids.length) (fun q3 => row ((e.kids.get q2).kids.get q3)))])), (.int .i64 ((↑e.kids.length : Int))), (.int .i64 0), .top, .top, .top, .top, .top, .top] (.mk [(.var [(.int .i64 6), (.int .i64 (e.op)), (.str (e.mod)), (.str (e.name)), (.int .i64 (e.vt)), (.int .u64 (e.vb)), (.sl 7 .no (e.kids.length) (fun q2 => [(.int .i64 ((e.kids.get q2).kind)), (.int .i64 ((e.kids.get q2).op)), (.str ((e.kids.get q2).mod)), (.str ((e.kids.get q2).name)), (.int .i64 ((e.kids.get q2).vt)), (.int .u64 ((e.kids.get q2).vb)), (.sl 7 .no ((e.kids.get q2).kids.length) (fun q3 => row ((e.kids.get q2).kids.get q3)))]))])] [] .plain)) (kBody Try.prog polX u60 loops 46 [1, 1, 1, 1, 1, 1, 1, 1, 1, 1, 0] 0 .plain)))))) := by kernel_rfl
theorem e46_6 (loops : LoopK) (e : Ex) (i : Int) : (kBody Try.prog polX u60 loops 46 [1, 1, 1, 1, 1, 1, 1, 1, 1, 1, 0] 0 .plain) (.exit 0) (S46e 6 e i) =
  (some (.ret (.tup []) [] .plain)) := by kernel_rfl
theorem b46_7 (loops : LoopK) (e : Ex) : bodyL Try.prog polX u60 loops 46 [agK 7 e] [] .plain =
  (cond (((!(cond (false) (true) (cond (cond (true) (decide (e.op ≥ (1 : Int))) (false)) (decide (e.op ≤ bif (7 : Int) == (6 : Int) then (4 : Int) else bif (7 : Int) == (7 : Int) then (13 : Int) else (0 : Int))) (false)))) && (true))) (some (.pan (.ifc 93 (.int .i64 1)) [] .plain)) (cond (((!(cond (cond (cond (false) (true) (((e.mod) == []))) (cond (false) (true) (((e.name) == []))) (false)) (cond (false) (true) ((↑e.kids.length : Int) == bif (7 : Int) == (4 : Int) then (-1 : Int) else bif (7 : Int) == (5 : Int) then (-1 : Int) else bif (7 : Int) == (6 : Int) then (1 : Int) else bif (7 : Int) == (7 : Int) then (2 : Int) else (0 : Int))) (false))) && (true))) (some (.pan (.ifc 93 (.int .i64 1)) [] .plain)) (cond (((!(cond (false) (true) (cond (true) (((e.vt == (0 : Int)) && (((e.vb == (0 : Int)) && (true))))) (false)))) && (true))) (some (.pan (.ifc 93 (.int .i64 1)) [] .plain)) (cond (((!(decide ((↑e.kids.length : Int) ≤ bif decide ((bif (7 : Int) == (4 : Int) then (-1 : Int) else bif (7 : Int) == (5 : Int) then (-1 : Int) else bif (7 : Int) == (6 : Int) then (1 : Int) else bif (7 : Int) == (7 : Int) then (2 : Int) else (0 : Int)) > (8 : Int)) then bif (7 : Int) == (4 : Int) then (-1 : Int) else bif (7 : Int) == (5 : Int) then (-1 : Int) else bif (7 : Int) == (6 : Int) then (1 : Int) else bif (7 : Int) == (7 : Int) then (2 : Int) else (0 : Int) else (8 : Int)))) && (true))) (some (.pan (.ifc 93 (.int .i64 3)) [] .plain)) (loops 12 (.mk [.top, .top, .top, .top, .top, .top, .top, .top, .top, .top, .top, .top, .top, .top, .top, .top, .top, .top, .top, .top, .top, .top, .top, .top, .top, .top, .top, .top, .top, .top, .top, .top, .top, .top, .top, .top, .top, .top, .top, .top, .top, .top, .top, .top, .top, .top, .top, .top, .top, .top, .top, .top, .top, .top, .top, .top, .top, .top, .top, .top, .top, .top, .top, .top, .top, .top, .top, .top, .top, .top, .top, .top, .top, .top, .top, .top, .top, .top, .top, .top, .top, .top, .top, .top, .top, .top, .top, .top, .top, .top, .top, .top, .top, .top, .top, .top, .top, .top, .top, .top, .top, .top, .top, .top, .top, .top, .top, .top, .top, .top, .top, (.sl 7 .no (e.kids.length) (fun q2 => [(.int .i64 ((e.kids.get q2).kind)), (.int .i64 ((e.kids.get q2).op)), (.str ((e.kids.get q2).mod)), (.str ((e.kids.get q2).name)), (.int .i64 ((e.kids.get q2).vt)), (.int .u64 ((e.kids.get q2).vb)), (.sl 7 .no ((e.kids.get q2).kids.length) (fun q3 => row ((e.kids.get q2).kids.get q3)))])), (.int .i64 ((↑e.kids.length : Int))), (.int .i64 0), .top, .top, .top, .top, .top, .top] (.mk [(.var [(.int .i64 7), (.int .i64 (e.op)), (.str (e.mod)), (.str (e.name)), (.int .i64 (e.vt)), (.int .u64 (e.vb)), (.sl 7 .no (e.kids.length) (fun q2 => [(.int .i64 ((e.kids.get q2).kind)), (.int .i64 ((e.kids.get q2).op)), (.str ((e.kids.get q2).mod)), (.str ((e.kids.get q2).name)), (.int .i64 ((e.kids.get q2).vt)), (.int .u64 ((e.kids.get q2).vb)), (.sl 7 .no ((e.kids.get q2).kids.length) (fun q3 => row ((e.kids.get q2).kids.get q3)))]))])] [] .plain)) (kBody Try.prog polX u60 loops 46 [1, 1, 1, 1, 1, 1, 1, 1, 1, 1, 0] 0 .plain)))))) := by kernel_rfl
theorem e46_7 (loops : LoopK) (e : Ex) (i : Int) : (kBody Try.prog polX u60 loops 46 [1, 1, 1, 1, 1, 1, 1, 1, 1, 1, 0] 0 .plain) (.exit 0) (S46e 7 e i) =
  (some (.ret (.tup []) [] .plain)) := by kernel_rfl
theorem b46_8 (loops : LoopK) (e : Ex) : bodyL Try.prog polX u60 loops 46 [agK 8 e] [] .plain =
  (cond (((!(cond (cond (true) (e.op == (0 : Int)) (false)) (true) (false))) && (true))) (some (.pan (.ifc 93 (.int .i64 1)) [] .plain)) (cond (((!(cond (cond (cond (false) (true) (((e.mod) == []))) (cond (false) (true) (((e.name) == []))) (false)) (cond (false) (true) ((↑e.kids.length : Int) == bif (8 : Int) == (4 : Int) then (-1 : Int) else bif (8 : Int) == (5 : Int) then (-1 : Int) else bif (8 : Int) == (6 : Int) then (1 : Int) else bif (8 : Int) == (7 : Int) then (2 : Int) else (0 : Int))) (false))) && (true))) (some (.pan (.ifc 93 (.int .i64 1)) [] .plain)) (cond (((!(cond (false) (true) (cond (true) (((e.vt == (0 : Int)) && (((e.vb == (0 : Int)) && (true))))) (false)))) && (true))) (some (.pan (.ifc 93 (.int .i64 1)) [] .plain)) (cond (((!(decide ((↑e.kids.length : Int) ≤ bif decide ((bif (8 : Int) == (4 : Int) then (-1 : Int) else bif (8 : Int) == (5 : Int) then (-1 : Int) else bif (8 : Int) == (6 : Int) then (1 : Int) else bif (8 : Int) == (7 : Int) then (2 : Int) else (0 : Int)) > (8 : Int)) then bif (8 : Int) == (4 : Int) then (-1 : Int) else bif (8 : Int) == (5 : Int) then (-1 : Int) else bif (8 : Int) == (6 : Int) then (1 : Int) else bif (8 : Int) == (7 : Int) then (2 : Int) else (0 : Int) else (8 : Int)))) && (true))) (some (.pan (.ifc 93 (.int .i64 3)) [] .plain)) (loops 12 (.mk [.top, .top, .top, .top, .top, .top, .top, .top, .top, .top, .top, .top, .top, .top, .top, .top, .top, .top, .top, .top, .top, .top, .top, .top, .top, .top, .top, .top, .top, .top, .top, .top, .top, .top, .top, .top, .top, .top, .top, .top, .top, .top, .top, .top, .top, .top, .top, .top, .top, .top, .top, .top, .top, .top, .top, .top, .top, .top, .top, .top, .top, .top, .top, .top, .top, .top, .top, .top, .top, .top, .top, .top, .top, .top, .top, .top, .top, .top, .top, .top, .top, .top, .top, .top, .top, .top, .top, .top, .top, .top, .top, .top, .top, .top, .top, .top, .top, .top, .top, .top, .top, .top, .top, .top, .top, .top, .top, .top, .top, .top, .top, (.sl 7 .no (e.kids.length) (fun q2 => [(.int .i64 ((e.kids.get q2).kind)), (.int .i64 ((e.kids.get q2).op)), (.str ((e.kids.get q2).mod)), (.str ((e.kids.get q2).name)), (.int .i64 ((e.kids.get q2).vt)), (.int .u64 ((e.kids.get q2).vb)), (.sl 7 .no ((e.kids.get q2).kids.length) (fun q3 => row ((e.kids.get q2).kids.get q3)))])), (.int .i64 ((↑e.kids.length : Int))), (.int .i64 0), .top, .top, .top, .top, .top, .top] (.mk [(.var [(.int .i64 8), (.int .i64 (e.op)), (.str (e.mod)), (.str (e.name)), (.int .i64 (e.vt)), (.int .u64 (e.vb)), (.sl 7 .no (e.kids.length) (fun q2 => [(.int .i64 ((e.kids.get q2).kind)), (.int .i64 ((e.kids.get q2).op)), (.str ((e.kids.get q2).mod)), (.str ((e.kids.get q2).name)), (.int .i64 ((e.kids.get q2).vt)), (.int .u64 ((e.kids.get q2).vb)), (.sl 7 .no ((e.kids.get q2).kids.length) (fun q3 => row ((e.kids.get q2).kids.get q3)))]))])] [] .plain)) (kBody Try.prog polX u60 loops 46 [1, 1, 1, 1, 1, 1, 1, 1, 1, 1, 0] 0 .plain)))))) := by kernel_rfl
theorem e46_8 (loops : LoopK) (e : Ex) (i : Int) : (kBody Try.prog polX u60 loops 46 [1, 1, 1, 1, 1, 1, 1, 1, 1, 1, 0] 0 .plain) (.exit 0) (S46e 8 e i) =
  (some (.ret (.tup []) [] .plain)) := by kernel_rfl
theorem p46 (loops : LoopK) (T : List AV) (hh : List Den.Obj) (n : Int) : (kBody Try.prog polX u60 loops 46 [1, 1, 1, 1, 1, 1, 1, 1, 1, 1, 0] 0 .plain) (.pan (.ifc 93 (.int .i64 n))) ⟨T, ⟨hh, [], .plain⟩⟩ =
  (some (.pan (.ifc 93 (.int .i64 n)) [] .plain)) := by kernel_rfl
theorem b46o (loops : LoopK) (q : Int) (e : Ex) : bodyL Try.prog polX uAsk loops 46 [agK q e] [] .plain =
  (chk (Eq (α := Bool) (cond (decide (q ≥ (1 : Int))) (decide (q ≤ (8 : Int))) (false)) false ∧ (1 : Int) ≠ (0 : Int)) (some (.pan (.ifc 93 (.int .i64 1)) [] .plain))) := by kernel_rfl
end Go.Proofs

/- Expressions must be right: what it comes to. -/
namespace Go.Proofs
open Go.Den
set_option maxRecDepth 100000
/-- nothing in it is too great -/
inductive Small : Ex → Prop
  | mk (e : Ex) : e.mod.length < 1000000000 → e.name.length < 1000000000 → e.kids.length < 1000000000 → (∀ j, Small (e.kids.get j)) → Small e
/-- what is known of one that is right -/
inductive Good : Ex → Prop
  | mk (e : Ex) : (e.kind = 2 → e.mod = []) → (e.kind = 3 → Begins e.mod) → (e.kind = 6 → e.kids.length = 1) → (e.kind = 7 → e.kids.length = 2) → (∀ j, Good (e.kids.get j)) → Good e
def Q46 (e : Ex) (o : Out) : Prop := (o = .ret (.tup []) [] .plain ∧ Good e) ∨ ∃ n, n ≠ 0 ∧ o = .pan (.ifc 93 (.int .i64 n)) [] .plain
theorem q46_val {e : Ex} (h : Tot (dX 46 [agE e] [] .plain) (Q46 e)) : dX 46 [agE e] [] .plain = cond (pF 46 [agE e]) (some (.pan (.ifc 93 (.int .i64 (eF 46 [agE e]))) [] .plain)) (some (.ret (.tup []) [] .plain)) ∧
    (pF 46 [agE e] = false → Good e) ∧ (pF 46 [agE e] = true → eF 46 [agE e] ≠ 0) := by
  obtain ⟨o, h1, h2⟩ := h
  rcases h2 with ⟨rfl, hg⟩ | ⟨n, hn, rfl⟩
  · have : pF 46 [agE e] = false := by simp only [pF, h1]
    exact ⟨by rw [this]; exact h1, fun _ => hg, fun h => (by rw [this] at h; cases h)⟩
  · have : pF 46 [agE e] = true := by simp only [pF, h1]
    have h2 : eF 46 [agE e] = n := by simp only [eF, h1]
    exact ⟨by rw [this, h2]; exact h1, fun h => (by rw [this] at h; cases h), fun _ => (by rw [h2]; exact hn)⟩
theorem u46_le {kid : Ex} (h : Tot (dX 46 [agE kid] [] .plain) (Q46 kid)) : CallLeK (u46 kid) dX := by
  intro f args h' ps kk o e
  unfold u46 at e
  split at e
  · obtain ⟨⟨rfl, rfl, rfl⟩, e'⟩ := chk_some e
    clear e
    obtain ⟨hv, _⟩ := q46_val h
    rw [agS]
    cases hp : pF 46 [agE kid] with
    | true => rw [hp] at e' hv; exact ⟨_, e', hv⟩
    | false => rw [hp] at e' hv; exact ⟨_, e', hv⟩
  · cases e
abbrev P46 : List Nat := [1, 1, 1, 1, 1, 1, 1, 1, 1, 1, 0]
noncomputable abbrev K46 (n : Nat) : Den.Exit → St → R := kBody Try.prog polX u60 (lpR Try.prog polX dX n 46 (loopsOf (bodyOf Try.prog 46))) 46 P46 0 .plain
def Q46l (e : Ex) (o : Out) : Prop := (o = .ret (.tup []) [] .plain ∧ ∀ j, Good (e.kids.get j)) ∨ ∃ n, n ≠ 0 ∧ o = .pan (.ifc 93 (.int .i64 n)) [] .plain
theorem lp46 (q : Int) (e : Ex) (hl : e.kids.length < 1000000000) (ih : ∀ j, Tot (dX 46 [agE (e.kids.get j)] [] .plain) (Q46 (e.kids.get j)))
    (hend : ∀ i, K46 (e.kids.length + 1) (.exit 0) (S46e q e i) = some (.ret (.tup []) [] .plain)) :
    Tot (codeD Try.prog polX (bindK dX) (e.kids.length + 1) 46 (.loop (Code.part (bodyOf Try.prog 46) [1, 1, 1, 1, 1, 1, 1, 1, 1, 1, 0, 0])) (S46 q e 0) (K46 (e.kids.length + 1))) (Q46l e) := by
  refine loop_tot (α := Unit) (calls := fun i => if h : i < e.kids.length then u46 (e.kids.get ⟨i, h⟩) else noCall) (fun i => ?_) (keep := false) rfl (inner := noLoops) no_loops
    (fun i _ => S46 q e i) (fun i _ => ∀ j : Fin e.kids.length, j.1 < i → Good (e.kids.get j)) e.kids.length (Nat.lt_succ_self _) () (fun j h => by omega) ?_ (H := 1) rfl ?_
  · split
    · exact u46_le (ih _)
    · exact noCall_le
  · show _ = _
    kernel_rfl
  · intro i _ hi hI K hK hE
    by_cases hlt : i < e.kids.length
    · simp only [dif_pos hlt]
      rw [r46]
      have h1 : decide ((i : Int) < e.kids.length) = true := by simpa using hlt
      have h2 : (0 : Int) ≤ i ∧ (i : Int).toNat < e.kids.length := by omega
      rw [h1, cond_true]
      refine Tot.dite h2 (Tot.chk ⟨rfl, rfl, rfl⟩ ?_)
      obtain ⟨_, hg, hp⟩ := q46_val (ih ⟨i, hlt⟩)
      refine Tot.cond (fun hpf => ?_) fun hpf => ?_
      · rw [hE _ _ (by simp)]
        unfold K46
        rw [p46]
        exact Tot.some (.inr ⟨_, hp hpf, rfl⟩)
      · refine hK _ () hlt (fun j hj => ?_) ?_
        · by_cases hji : j.1 = i
          · have : j = ⟨i, hlt⟩ := Fin.ext hji
            rw [this]; exact hg hpf
          · exact hI j (by omega)
        · rw [wrap_succ (by omega)]
          show _ = _
          kernel_rfl
    · have : i = e.kids.length := by omega
      subst this
      simp only [Nat.lt_irrefl, dite_false]
      rw [r46n]
      have h1 : decide ((e.kids.length : Int) < e.kids.length) = false := by simp
      have hend' := hend e.kids.length
      unfold S46e at hend'
      rw [h1] at hend' ⊢
      rw [cond_false, hE _ _ (by simp)]
      exact ⟨_, hend', .inl ⟨rfl, fun j => hI j j.2⟩⟩
theorem b62F (s : List UInt8) (h : s.length < 1000000000) (h0 : (iF 62 [.str s] != 0) = false) : Begins s := by
  obtain ⟨o, h1, n, rfl, h2⟩ := f62_tot s h
  have : iF 62 [.str s] = n := by simp only [iF, h1]
  rw [this] at h0
  exact h2 (by simpa using h0)
theorem f46_tot (e : Ex) (hs : Small e) : Tot (dX 46 [agE e] [] .plain) (Q46 e) := by
  induction hs with
  | mk e hm hn hl _ ih =>
    by_cases hk : 1 ≤ e.kind ∧ e.kind ≤ 8
    · have lp : ∀ k : Int, (∀ i, K46 (e.kids.length + 1) (.exit 0) (S46e k e i) = some (.ret (.tup []) [] .plain)) →
          Tot (lpR Try.prog polX dX (e.kids.length + 1) 46 (loopsOf (bodyOf Try.prog 46)) 12 (S46 k e 0) (K46 (e.kids.length + 1))) (Q46l e) :=
        fun k h => lpR_tot (by kernel_rfl) (lp46 k e hl ih h)
      have pan : ∀ n : Int, n ≠ 0 → Tot (some (.pan (.ifc 93 (.int .i64 n)) [] .plain)) (Q46 e) := fun n hn => Tot.some (.inr ⟨n, hn, rfl⟩)
      have fin : ∀ {r : R}, Tot r (Q46l e) → (e.kind = 2 → e.mod = []) → (e.kind = 3 → Begins e.mod) → (e.kind = 6 → e.kids.length = 1) → (e.kind = 7 → e.kids.length = 2) → Tot r (Q46 e) := by
        intro r h g2 g3 g6 g7
        refine h.mono fun o ho => ?_
        rcases ho with ⟨h1, h2⟩ | h1
        · exact .inl ⟨h1, .mk e g2 g3 g6 g7 h2⟩
        · exact .inr h1
      have he : agE e = agK e.kind e := rfl
      rw [he]
      refine denA_tot (e.kids.length + 1) u60_le rfl (by kernel_rfl) ?_
      have hcases : e.kind = 1 ∨ e.kind = 2 ∨ e.kind = 3 ∨ e.kind = 4 ∨ e.kind = 5 ∨ e.kind = 6 ∨ e.kind = 7 ∨ e.kind = 8 := by omega
      rcases hcases with h | h | h | h | h | h | h | h <;> rw [h]
      · rw [b46_1]
        repeat' first
          | exact pan _ (by decide)
          | (with_reducible refine Tot.cond (fun hc => pan _ (by decide)) fun hc => ?_)
          | (with_reducible refine Tot.chk (by assumption) ?_)
          | (with_reducible refine Tot.cond (fun hc => pan _ (by simpa using hc)) fun hc => ?_)
        refine fin (lp 1 fun i => e46_1 _ _ _) ?_ ?_ ?_ ?_
        all_goals (intro hh; rw [h] at hh; first | (exfalso; revert hh; decide) | skip)
      · rw [b46_2]
        repeat' first
          | exact pan _ (by decide)
          | (with_reducible refine Tot.cond (fun hc => pan _ (by decide)) fun hc => ?_)
          | (with_reducible refine Tot.chk (by assumption) ?_)
          | (with_reducible refine Tot.cond (fun hc => pan _ (by simpa using hc)) fun hc => ?_)
        refine fin (lp 2 fun i => e46_2 _ _ _) ?_ ?_ ?_ ?_
        all_goals (intro hh; rw [h] at hh; first | (exfalso; revert hh; decide) | skip)
        simp_all
      · rw [b46_3]
        repeat' first
          | exact pan _ (by decide)
          | (with_reducible refine Tot.cond (fun hc => pan _ (by decide)) fun hc => ?_)
          | (with_reducible refine Tot.chk (by assumption) ?_)
          | (with_reducible refine Tot.cond (fun hc => pan _ (by simpa using hc)) fun hc => ?_)
        refine fin (lp 3 fun i => e46_3 _ _ _) ?_ ?_ ?_ ?_
        all_goals (intro hh; rw [h] at hh; first | (exfalso; revert hh; decide) | skip)
        exact b62F _ hm (by assumption)
      · rw [b46_4]
        repeat' first
          | exact pan _ (by decide)
          | (with_reducible refine Tot.cond (fun hc => pan _ (by decide)) fun hc => ?_)
          | (with_reducible refine Tot.chk (by assumption) ?_)
          | (with_reducible refine Tot.cond (fun hc => pan _ (by simpa using hc)) fun hc => ?_)
        refine fin (lp 4 fun i => e46_4 _ _ _) ?_ ?_ ?_ ?_
        all_goals (intro hh; rw [h] at hh; first | (exfalso; revert hh; decide) | skip)
      · rw [b46_5]
        repeat' first
          | exact pan _ (by decide)
          | (with_reducible refine Tot.cond (fun hc => pan _ (by decide)) fun hc => ?_)
          | (with_reducible refine Tot.chk (by assumption) ?_)
          | (with_reducible refine Tot.cond (fun hc => pan _ (by simpa using hc)) fun hc => ?_)
        refine fin (lp 5 fun i => e46_5 _ _ _) ?_ ?_ ?_ ?_
        all_goals (intro hh; rw [h] at hh; first | (exfalso; revert hh; decide) | skip)
      · rw [b46_6]
        repeat' first
          | exact pan _ (by decide)
          | (with_reducible refine Tot.cond (fun hc => pan _ (by decide)) fun hc => ?_)
          | (with_reducible refine Tot.chk (by assumption) ?_)
          | (with_reducible refine Tot.cond (fun hc => pan _ (by simpa using hc)) fun hc => ?_)
        refine fin (lp 6 fun i => e46_6 _ _ _) ?_ ?_ ?_ ?_
        all_goals (intro hh; rw [h] at hh; first | (exfalso; revert hh; decide) | skip)
        simp_all
        omega
      · rw [b46_7]
        repeat' first
          | exact pan _ (by decide)
          | (with_reducible refine Tot.cond (fun hc => pan _ (by decide)) fun hc => ?_)
          | (with_reducible refine Tot.chk (by assumption) ?_)
          | (with_reducible refine Tot.cond (fun hc => pan _ (by simpa using hc)) fun hc => ?_)
        refine fin (lp 7 fun i => e46_7 _ _ _) ?_ ?_ ?_ ?_
        all_goals (intro hh; rw [h] at hh; first | (exfalso; revert hh; decide) | skip)
        simp_all
        omega
      · rw [b46_8]
        repeat' first
          | exact pan _ (by decide)
          | (with_reducible refine Tot.cond (fun hc => pan _ (by decide)) fun hc => ?_)
          | (with_reducible refine Tot.chk (by assumption) ?_)
          | (with_reducible refine Tot.cond (fun hc => pan _ (by simpa using hc)) fun hc => ?_)
        refine fin (lp 8 fun i => e46_8 _ _ _) ?_ ?_ ?_ ?_
        all_goals (intro hh; rw [h] at hh; first | (exfalso; revert hh; decide) | skip)
    · have he : agE e = agK e.kind e := rfl
      rw [he]
      refine denA_tot 0 uAsk_le rfl (by kernel_rfl) ?_
      rw [b46o]
      refine Tot.chk ⟨?_, by decide⟩ (Tot.some (.inr ⟨1, by decide, rfl⟩))
      by_cases h1 : e.kind ≥ 1
      · simp [h1]; omega
      · simp [h1]
end Go.Proofs

/- How deep expressions are; are they right: what is left. -/
namespace Go.Proofs
open Go.Den
set_option maxRecDepth 100000

def S45 (e : Ex) (i d m : Int) : St := ⟨[.top, .top, .int .i64 d, .ptr 0 0 0 0, .top, .top, .int .i64 0, .int .i64 m, .top, .top, .top, .top, .top, .top, .top, .top, .top, .top, .top, .top, kidsE e, .int .i64 e.kids.length, .int .i64 i, .top, .top, .top, .top, .top, .top, .top, .top, .top, .top, .top, .top, .top, .top, .top, .top, .top, .top, .top, .top], ⟨[.var [.int .i64 e.kind, .int .i64 e.op, .str e.mod, .str e.name, .int .i64 e.vt, .int .u64 e.vb, kidsE e]], [], .plain⟩⟩
def S45e (e : Ex) (i d m : Int) : St := ⟨[.top, .top, .int .i64 d, .ptr 0 0 0 0, .top, .top, .int .i64 0, .int .i64 m, .top, .top, .top, .top, .top, .top, .top, .top, .top, .top, .top, .top, kidsE e, .int .i64 e.kids.length, .int .i64 i, .bool (decide (i < (e.kids.length : Int))), .top, .top, .top, .top, .top, .top, .top, .top, .top, .top, .top, .top, .top, .top, .top, .top, .top, .top, .top], ⟨[.var [.int .i64 e.kind, .int .i64 e.op, .str e.mod, .str e.name, .int .i64 e.vt, .int .u64 e.vb, kidsE e]], [], .plain⟩⟩
noncomputable def u45 (kid : Ex) : CallK := fun f args h ps K => match f with
  | 45 => match args, h, ps with
    | [a, .int .i64 q, .int .i64 d], [], .plain => chk (a = .agg (rowS kid)) (K (.ret (.int .i64 (iF 45 [agE kid, .int .i64 q, .int .i64 d])) [] .plain))
    | _, _, _ => none
  | _ => u7 f args h ps K
theorem r45 (kid e : Ex) (i : Nat) (d m : Int) (k : Den.Exit → St → R) : codeL Try.prog polX (u45 kid) noLoops 45 (Code.part (bodyOf Try.prog 45) [1, 1, 1, 0, 1, 0, 0]) (S45 e i d m) k =
  (cond (decide ((↑i : Int) < (↑e.kids.length : Int))) (dite ((0 : Int) ≤ (↑i : Int) ∧ (↑i : Int).toNat < e.kids.length) (fun hb59 => (chk (Eq (α := AV) (.agg [(.int .i64 ((e.kids.get ⟨(↑i : Int).toNat, hb59.right⟩).kind)), (.int .i64 ((e.kids.get ⟨(↑i : Int).toNat, hb59.right⟩).op)), (.str ((e.kids.get ⟨(↑i : Int).toNat, hb59.right⟩).mod)), (.str ((e.kids.get ⟨(↑i : Int).toNat, hb59.right⟩).name)), (.int .i64 ((e.kids.get ⟨(↑i : Int).toNat, hb59.right⟩).vt)), (.int .u64 ((e.kids.get ⟨(↑i : Int).toNat, hb59.right⟩).vb)), (.sl 7 .no ((e.kids.get ⟨(↑i : Int).toNat, hb59.right⟩).kids.length) (fun q7 => row ((e.kids.get ⟨(↑i : Int).toNat, hb59.right⟩).kids.get q7)))]) (.agg [(.int .i64 (kid.kind)), (.int .i64 (kid.op)), (.str (kid.mod)), (.str (kid.name)), (.int .i64 (kid.vt)), (.int .u64 (kid.vb)), (.sl 7 .no (kid.kids.length) (fun q7 => row (kid.kids.get q7)))])) (k .normal (.mk [.top, .top, (.int .i64 d), (.ptr 0 0 0 0), .top, .top, (.int .i64 0), (.int .i64 (bif decide (iF (45 : FuncId) [agE kid, AV.int IntKind.i64 (tF1 (59 : FuncId) [AV.agg [AV.int IntKind.i64 e.kind, AV.int IntKind.i64 e.op, AV.str e.mod, AV.str e.name, AV.int IntKind.i64 e.vt, AV.int IntKind.u64 e.vb, AV.sl (7 : Nat) Tok.no e.kids.length fun j => rowS (e.kids.get j)], AV.int IntKind.i64 (↑i : Int)]), AV.int IntKind.i64 (IntKind.i64.wrap (d + tF2 (59 : FuncId) [AV.agg [AV.int IntKind.i64 e.kind, AV.int IntKind.i64 e.op, AV.str e.mod, AV.str e.name, AV.int IntKind.i64 e.vt, AV.int IntKind.u64 e.vb, AV.sl (7 : Nat) Tok.no e.kids.length fun j => rowS (e.kids.get j)], AV.int IntKind.i64 (↑i : Int)]))] > m) then iF (45 : FuncId) [agE kid, AV.int IntKind.i64 (tF1 (59 : FuncId) [AV.agg [AV.int IntKind.i64 e.kind, AV.int IntKind.i64 e.op, AV.str e.mod, AV.str e.name, AV.int IntKind.i64 e.vt, AV.int IntKind.u64 e.vb, AV.sl (7 : Nat) Tok.no e.kids.length fun j => rowS (e.kids.get j)], AV.int IntKind.i64 (↑i : Int)]), AV.int IntKind.i64 (IntKind.i64.wrap (d + tF2 (59 : FuncId) [AV.agg [AV.int IntKind.i64 e.kind, AV.int IntKind.i64 e.op, AV.str e.mod, AV.str e.name, AV.int IntKind.i64 e.vt, AV.int IntKind.u64 e.vb, AV.sl (7 : Nat) Tok.no e.kids.length fun j => rowS (e.kids.get j)], AV.int IntKind.i64 (↑i : Int)]))] else m)), .top, .top, .top, .top, .top, .top, .top, .top, .top, .top, .top, .top, (.sl 7 .no (e.kids.length) (fun q8 => [(.int .i64 ((e.kids.get q8).kind)), (.int .i64 ((e.kids.get q8).op)), (.str ((e.kids.get q8).mod)), (.str ((e.kids.get q8).name)), (.int .i64 ((e.kids.get q8).vt)), (.int .u64 ((e.kids.get q8).vb)), (.sl 7 .no ((e.kids.get q8).kids.length) (fun q9 => row ((e.kids.get q8).kids.get q9)))])), (.int .i64 ((↑e.kids.length : Int))), (.int .i64 (IntKind.i64.wrap ((↑i : Int) + (1 : Int)))), .top, .top, .top, .top, .top, .top, .top, .top, .top, .top, .top, .top, .top, .top, .top, .top, .top, .top, .top, .top] (.mk [(.var [(.int .i64 (e.kind)), (.int .i64 (e.op)), (.str (e.mod)), (.str (e.name)), (.int .i64 (e.vt)), (.int .u64 (e.vb)), (.sl 7 .no (e.kids.length) (fun q8 => [(.int .i64 ((e.kids.get q8).kind)), (.int .i64 ((e.kids.get q8).op)), (.str ((e.kids.get q8).mod)), (.str ((e.kids.get q8).name)), (.int .i64 ((e.kids.get q8).vt)), (.int .u64 ((e.kids.get q8).vb)), (.sl 7 .no ((e.kids.get q8).kids.length) (fun q9 => row ((e.kids.get q8).kids.get q9)))]))]), (.var [(.int .i64 ((e.kids.get ⟨(↑i : Int).toNat, hb59.right⟩).kind)), (.int .i64 ((e.kids.get ⟨(↑i : Int).toNat, hb59.right⟩).op)), (.str ((e.kids.get ⟨(↑i : Int).toNat, hb59.right⟩).mod)), (.str ((e.kids.get ⟨(↑i : Int).toNat, hb59.right⟩).name)), (.int .i64 ((e.kids.get ⟨(↑i : Int).toNat, hb59.right⟩).vt)), (.int .u64 ((e.kids.get ⟨(↑i : Int).toNat, hb59.right⟩).vb)), (.sl 7 .no ((e.kids.get ⟨(↑i : Int).toNat, hb59.right⟩).kids.length) (fun q8 => row ((e.kids.get ⟨(↑i : Int).toNat, hb59.right⟩).kids.get q8)))])] [] .plain))))) (fun hb59 => none)) (k (.exit 0) (.mk [.top, .top, (.int .i64 d), (.ptr 0 0 0 0), .top, .top, (.int .i64 0), (.int .i64 m), .top, .top, .top, .top, .top, .top, .top, .top, .top, .top, .top, .top, (.sl 7 .no (e.kids.length) (fun q6 => [(.int .i64 ((e.kids.get q6).kind)), (.int .i64 ((e.kids.get q6).op)), (.str ((e.kids.get q6).mod)), (.str ((e.kids.get q6).name)), (.int .i64 ((e.kids.get q6).vt)), (.int .u64 ((e.kids.get q6).vb)), (.sl 7 .no ((e.kids.get q6).kids.length) (fun q7 => row ((e.kids.get q6).kids.get q7)))])), (.int .i64 ((↑e.kids.length : Int))), (.int .i64 ((↑i : Int))), (.bool (decide ((↑i : Int) < (↑e.kids.length : Int)))), .top, .top, .top, .top, .top, .top, .top, .top, .top, .top, .top, .top, .top, .top, .top, .top, .top, .top, .top] (.mk [(.var [(.int .i64 (e.kind)), (.int .i64 (e.op)), (.str (e.mod)), (.str (e.name)), (.int .i64 (e.vt)), (.int .u64 (e.vb)), (.sl 7 .no (e.kids.length) (fun q6 => [(.int .i64 ((e.kids.get q6).kind)), (.int .i64 ((e.kids.get q6).op)), (.str ((e.kids.get q6).mod)), (.str ((e.kids.get q6).name)), (.int .i64 ((e.kids.get q6).vt)), (.int .u64 ((e.kids.get q6).vb)), (.sl 7 .no ((e.kids.get q6).kids.length) (fun q7 => row ((e.kids.get q6).kids.get q7)))]))])] [] .plain)))) := by kernel_rfl
theorem r45n (e : Ex) (i : Nat) (d m : Int) (k : Den.Exit → St → R) : codeL Try.prog polX u7 noLoops 45 (Code.part (bodyOf Try.prog 45) [1, 1, 1, 0, 1, 0, 0]) (S45 e i d m) k =
  (cond (decide ((↑i : Int) < (↑e.kids.length : Int))) (dite ((0 : Int) ≤ (↑i : Int) ∧ (↑i : Int).toNat < e.kids.length) (fun hb59 => none) (fun hb59 => none)) (k (.exit 0) (.mk [.top, .top, (.int .i64 d), (.ptr 0 0 0 0), .top, .top, (.int .i64 0), (.int .i64 m), .top, .top, .top, .top, .top, .top, .top, .top, .top, .top, .top, .top, (.sl 7 .no (e.kids.length) (fun q5 => [(.int .i64 ((e.kids.get q5).kind)), (.int .i64 ((e.kids.get q5).op)), (.str ((e.kids.get q5).mod)), (.str ((e.kids.get q5).name)), (.int .i64 ((e.kids.get q5).vt)), (.int .u64 ((e.kids.get q5).vb)), (.sl 7 .no ((e.kids.get q5).kids.length) (fun q6 => row ((e.kids.get q5).kids.get q6)))])), (.int .i64 ((↑e.kids.length : Int))), (.int .i64 ((↑i : Int))), (.bool (decide ((↑i : Int) < (↑e.kids.length : Int)))), .top, .top, .top, .top, .top, .top, .top, .top, .top, .top, .top, .top, .top, .top, .top, .top, .top, .top, .top] (.mk [(.var [(.int .i64 (e.kind)), (.int .i64 (e.op)), (.str (e.mod)), (.str (e.name)), (.int .i64 (e.vt)), (.int .u64 (e.vb)), (.sl 7 .no (e.kids.length) (fun q5 => [(.int .i64 ((e.kids.get q5).kind)), (.int .i64 ((e.kids.get q5).op)), (.str ((e.kids.get q5).mod)), (.str ((e.kids.get q5).name)), (.int .i64 ((e.kids.get q5).vt)), (.int .u64 ((e.kids.get q5).vb)), (.sl 7 .no ((e.kids.get q5).kids.length) (fun q6 => row ((e.kids.get q5).kids.get q6)))]))])] [] .plain)))) := by kernel_rfl
theorem b45 (loops : LoopK) (e : Ex) (q d : Int) : bodyL Try.prog polX u7 loops 45 [agE e, .int .i64 q, .int .i64 d] [] .plain =
  (cond (decide (iF (58 : FuncId) [AV.agg [AV.int IntKind.i64 e.kind, AV.int IntKind.i64 e.op, AV.str e.mod, AV.str e.name, AV.int IntKind.i64 e.vt, AV.int IntKind.u64 e.vb, AV.sl (7 : Nat) Tok.no e.kids.length fun j => rowS (e.kids.get j)]] < q)) (loops 5 (.mk [.top, .top, (.int .i64 (IntKind.i64.wrap (d + (1 : Int)))), (.ptr 0 0 0 0), .top, .top, (.int .i64 0), (.int .i64 (IntKind.i64.wrap (d + (1 : Int)))), .top, .top, .top, .top, .top, .top, .top, .top, .top, .top, .top, .top, (.sl 7 .no (e.kids.length) (fun q4 => [(.int .i64 ((e.kids.get q4).kind)), (.int .i64 ((e.kids.get q4).op)), (.str ((e.kids.get q4).mod)), (.str ((e.kids.get q4).name)), (.int .i64 ((e.kids.get q4).vt)), (.int .u64 ((e.kids.get q4).vb)), (.sl 7 .no ((e.kids.get q4).kids.length) (fun q5 => row ((e.kids.get q4).kids.get q5)))])), (.int .i64 ((↑e.kids.length : Int))), (.int .i64 0), .top, .top, .top, .top, .top, .top, .top, .top, .top, .top, .top, .top, .top, .top, .top, .top, .top, .top, .top, .top] (.mk [(.var [(.int .i64 (e.kind)), (.int .i64 (e.op)), (.str (e.mod)), (.str (e.name)), (.int .i64 (e.vt)), (.int .u64 (e.vb)), (.sl 7 .no (e.kids.length) (fun q4 => [(.int .i64 ((e.kids.get q4).kind)), (.int .i64 ((e.kids.get q4).op)), (.str ((e.kids.get q4).mod)), (.str ((e.kids.get q4).name)), (.int .i64 ((e.kids.get q4).vt)), (.int .u64 ((e.kids.get q4).vb)), (.sl 7 .no ((e.kids.get q4).kids.length) (fun q5 => row ((e.kids.get q4).kids.get q5)))]))])] [] .plain)) (kBody Try.prog polX u7 loops 45 [1, 1, 1, 0, 1, 0] 0 .plain)) (loops 5 (.mk [.top, .top, (.int .i64 d), (.ptr 0 0 0 0), .top, .top, (.int .i64 0), (.int .i64 d), .top, .top, .top, .top, .top, .top, .top, .top, .top, .top, .top, .top, (.sl 7 .no (e.kids.length) (fun q4 => [(.int .i64 ((e.kids.get q4).kind)), (.int .i64 ((e.kids.get q4).op)), (.str ((e.kids.get q4).mod)), (.str ((e.kids.get q4).name)), (.int .i64 ((e.kids.get q4).vt)), (.int .u64 ((e.kids.get q4).vb)), (.sl 7 .no ((e.kids.get q4).kids.length) (fun q5 => row ((e.kids.get q4).kids.get q5)))])), (.int .i64 ((↑e.kids.length : Int))), (.int .i64 0), .top, .top, .top, .top, .top, .top, .top, .top, .top, .top, .top, .top, .top, .top, .top, .top, .top, .top, .top, .top] (.mk [(.var [(.int .i64 (e.kind)), (.int .i64 (e.op)), (.str (e.mod)), (.str (e.name)), (.int .i64 (e.vt)), (.int .u64 (e.vb)), (.sl 7 .no (e.kids.length) (fun q4 => [(.int .i64 ((e.kids.get q4).kind)), (.int .i64 ((e.kids.get q4).op)), (.str ((e.kids.get q4).mod)), (.str ((e.kids.get q4).name)), (.int .i64 ((e.kids.get q4).vt)), (.int .u64 ((e.kids.get q4).vb)), (.sl 7 .no ((e.kids.get q4).kids.length) (fun q5 => row ((e.kids.get q4).kids.get q5)))]))])] [] .plain)) (kBody Try.prog polX u7 loops 45 [1, 1, 1, 0, 1, 0] 0 .plain))) := by kernel_rfl
theorem e45 (loops : LoopK) (e : Ex) (i d m : Int) : (kBody Try.prog polX u7 loops 45 [1, 1, 1, 0, 1, 0] 0 .plain) (.exit 0) (S45e e i d m) =
  (some (.ret (.int .i64 m) [] .plain)) := by kernel_rfl
noncomputable def u23b (e : Ex) : CallK := fun f args h ps K => match f with
  | 45 => chk (args = [agE e, .int .i64 1, .int .i64 0] ∧ h = [] ∧ ps = .plain) (K (.ret (.int .i64 (iF 45 [agE e, .int .i64 1, .int .i64 0])) [] .plain))
  | 46 => chk (args = [agE e] ∧ h = [] ∧ ps = .plain) (cond (pF 46 [agE e]) (K (.pan (.ifc 93 (.int .i64 (eF 46 [agE e]))) [] .plain)) (K (.ret (.tup []) [] .plain)))
  | _ => u60 f args h ps K
noncomputable abbrev u23 (e : Ex) : CallK := inlK Try.prog polX (fun f => f == 42 || f == 43 || f == 56) (u23b e) 3
theorem b23 (loops : LoopK) (e : Ex) : bodyL Try.prog polX (u23 e) loops 23 [agE e] [] .plain =
  (chk (Eq (α := List AV) [(.agg [(.int .i64 (e.kind)), (.int .i64 (e.op)), (.str (e.mod)), (.str (e.name)), (.int .i64 (e.vt)), (.int .u64 (e.vb)), (.sl 7 .no (e.kids.length) (fun q2 => [(.int .i64 ((e.kids.get q2).kind)), (.int .i64 ((e.kids.get q2).op)), (.str ((e.kids.get q2).mod)), (.str ((e.kids.get q2).name)), (.int .i64 ((e.kids.get q2).vt)), (.int .u64 ((e.kids.get q2).vb)), (.sl 7 .no ((e.kids.get q2).kids.length) (fun q3 => row ((e.kids.get q2).kids.get q3)))]))]), (.int .i64 1), (.int .i64 0)] [(.agg [(.int .i64 (e.kind)), (.int .i64 (e.op)), (.str (e.mod)), (.str (e.name)), (.int .i64 (e.vt)), (.int .u64 (e.vb)), (.sl 7 .no (e.kids.length) (fun q2 => [(.int .i64 ((e.kids.get q2).kind)), (.int .i64 ((e.kids.get q2).op)), (.str ((e.kids.get q2).mod)), (.str ((e.kids.get q2).name)), (.int .i64 ((e.kids.get q2).vt)), (.int .u64 ((e.kids.get q2).vb)), (.sl 7 .no ((e.kids.get q2).kids.length) (fun q3 => row ((e.kids.get q2).kids.get q3)))]))]), (.int .i64 1), (.int .i64 0)] ∧ Eq (α := List Den.Obj) [] [] ∧ Eq (α := PS) .plain .plain) (cond (((!(decide (iF (45 : FuncId) [agE e, AV.int IntKind.i64 (1 : Int), AV.int IntKind.i64 (0 : Int)] ≤ (32 : Int)))) && (true))) (some (.ret (.int .i64 13) [] .plain)) (chk (Eq (α := List AV) [(.agg [(.int .i64 (e.kind)), (.int .i64 (e.op)), (.str (e.mod)), (.str (e.name)), (.int .i64 (e.vt)), (.int .u64 (e.vb)), (.sl 7 .no (e.kids.length) (fun q3 => [(.int .i64 ((e.kids.get q3).kind)), (.int .i64 ((e.kids.get q3).op)), (.str ((e.kids.get q3).mod)), (.str ((e.kids.get q3).name)), (.int .i64 ((e.kids.get q3).vt)), (.int .u64 ((e.kids.get q3).vb)), (.sl 7 .no ((e.kids.get q3).kids.length) (fun q4 => row ((e.kids.get q3).kids.get q4)))]))])] [(.agg [(.int .i64 (e.kind)), (.int .i64 (e.op)), (.str (e.mod)), (.str (e.name)), (.int .i64 (e.vt)), (.int .u64 (e.vb)), (.sl 7 .no (e.kids.length) (fun q3 => [(.int .i64 ((e.kids.get q3).kind)), (.int .i64 ((e.kids.get q3).op)), (.str ((e.kids.get q3).mod)), (.str ((e.kids.get q3).name)), (.int .i64 ((e.kids.get q3).vt)), (.int .u64 ((e.kids.get q3).vb)), (.sl 7 .no ((e.kids.get q3).kids.length) (fun q4 => row ((e.kids.get q3).kids.get q4)))]))])] ∧ Eq (α := List Den.Obj) [] [] ∧ Eq (α := PS) .plain .plain) (cond (pF (46 : FuncId) [agE e]) (some (.ret (.int .i64 (eF (46 : FuncId) [agE e])) [] .plain)) (some (.ret (.int .i64 0) [] .plain)))))) := by kernel_rfl
end Go.Proofs

/- Is an expression right: what it comes to. -/
namespace Go.Proofs
open Go.Den
set_option maxRecDepth 100000
theorem u45_le {kid : Ex} (h : ∀ q d, Tot (dX 45 [agE kid, .int .i64 q, .int .i64 d] [] .plain) fun o => ∃ n, o = .ret (.int .i64 n) [] .plain) : CallLeK (u45 kid) dX := by
  intro f args h' ps kk o e
  unfold u45 at e
  split at e
  · split at e
    · obtain ⟨rfl, e'⟩ := chk_some e
      rw [agS]
      exact ⟨_, e', iF_eq (h _ _)⟩
    · cases e
  · exact u7_le _ _ _ _ _ _ e
def slotI (n : Nat) (st : St) : Int := match getT st.T n with
  | .int _ n => n
  | _ => 0
theorem lp45 (e : Ex) (d m : Int) (hl : e.kids.length < 1000000000) (ih : ∀ j q d, Tot (dX 45 [agE (e.kids.get j), .int .i64 q, .int .i64 d] [] .plain) fun o => ∃ n, o = .ret (.int .i64 n) [] .plain) :
    Tot (codeD Try.prog polX (bindK dX) (e.kids.length + 1) 45 (.loop (Code.part (bodyOf Try.prog 45) [1, 1, 1, 0, 1, 0, 0])) (S45 e 0 d m) (kBody Try.prog polX u7 (lpR Try.prog polX dX (e.kids.length + 1) 45 (loopsOf (bodyOf Try.prog 45))) 45 [1, 1, 1, 0, 1, 0] 0 .plain))
      fun o => ∃ n, o = .ret (.int .i64 n) [] .plain := by
  refine loop_tot (α := Int) (calls := fun i => if h : i < e.kids.length then u45 (e.kids.get ⟨i, h⟩) else u7) (fun i => ?_) (keep := false) rfl (inner := noLoops) no_loops
    (fun i m => S45 e i d m) (fun _ _ => True) e.kids.length (Nat.lt_succ_self _) m trivial ?_ (H := 1) rfl ?_
  · split
    · exact u45_le (ih _)
    · exact u7_le
  · show _ = _
    kernel_rfl
  · intro i m hi _ K hK hE
    by_cases hlt : i < e.kids.length
    · simp only [dif_pos hlt]
      rw [r45]
      have h1 : decide ((i : Int) < e.kids.length) = true := by simpa using hlt
      have h2 : (0 : Int) ≤ i ∧ (i : Int).toNat < e.kids.length := by omega
      rw [h1, cond_true]
      refine Tot.dite h2 (Tot.chk ?_ ?_)
      · rfl
      · have hK' := fun st' => hK st' (slotI 7 st')
        refine hK' _ hlt trivial ?_
        rw [wrap_succ (by omega)]
        show _ = _
        kernel_rfl
    · have : i = e.kids.length := by omega
      subst this
      simp only [Nat.lt_irrefl, dite_false]
      rw [r45n]
      have h1 : decide ((e.kids.length : Int) < e.kids.length) = false := by simp
      rw [h1, cond_false, hE _ _ (by simp)]
      have := e45 (lpR Try.prog polX dX (e.kids.length + 1) 45 (loopsOf (bodyOf Try.prog 45))) e e.kids.length d m
      unfold S45e at this
      rw [h1] at this
      exact ⟨_, this, _, rfl⟩
theorem f45_tot (e : Ex) (hs : Small e) : ∀ q d, Tot (dX 45 [agE e, .int .i64 q, .int .i64 d] [] .plain) fun o => ∃ n, o = .ret (.int .i64 n) [] .plain := by
  induction hs with
  | mk e hm hn hl _ ih =>
    intro q d
    refine denA_tot (e.kids.length + 1) u7_le rfl (by kernel_rfl) ?_
    rw [b45]
    refine Tot.cond (fun _ => ?_) fun _ => ?_
    · exact lpR_tot (by kernel_rfl) (lp45 e _ _ hl ih)
    · exact lpR_tot (by kernel_rfl) (lp45 e _ _ hl ih)
theorem u23b_le {e : Ex} (hs : Small e) : CallLeK (u23b e) dX := by
  intro f args h' ps kk o x
  unfold u23b at x
  split at x
  · obtain ⟨⟨rfl, rfl, rfl⟩, e'⟩ := chk_some x
    exact ⟨_, e', iF_eq (f45_tot e hs 1 0)⟩
  · obtain ⟨⟨rfl, rfl, rfl⟩, e'⟩ := chk_some x
    obtain ⟨hv, _⟩ := q46_val (f46_tot e hs)
    cases hp : pF 46 [agE e] with
    | true => rw [hp] at e' hv; exact ⟨_, e', hv⟩
    | false => rw [hp] at e' hv; exact ⟨_, e', hv⟩
  · exact u60_le _ _ _ _ _ _ x
theorem f23_tot (e : Ex) (hs : Small e) : Tot (dX 23 [agE e] [] .plain) fun o => ∃ n, o = .ret (.int .i64 n) [] .plain ∧ (n = 0 → Good e) := by
  refine denA_tot 0 (inlK_le (u23b_le hs) (fun f hf => by have hf : (f == 42 || f == 43 || f == 56) = true := hf; simp only [Bool.or_eq_true, beq_iff_eq] at hf; rcases hf with (rfl | rfl) | rfl <;> rfl) 3) rfl (by kernel_rfl) ?_
  rw [b23]
  obtain ⟨_, hg, hp⟩ := q46_val (f46_tot e hs)
  refine Tot.chk ⟨rfl, rfl, rfl⟩ (Tot.cond (fun _ => Tot.some ⟨13, rfl, fun h => by cases h⟩) fun _ => Tot.chk ⟨rfl, rfl, rfl⟩ (Tot.cond (fun hc => Tot.some ⟨_, rfl, fun h => absurd h (hp hc)⟩) fun hc => Tot.some ⟨0, rfl, fun _ => hg hc⟩))
end Go.Proofs
