/- FoldLifts: values of operators are right. -/
import Derived.Test.YtndanoiaheknaaaDenEc
set_option linter.unusedSimpArgs false
set_option linter.unusedVariables false
namespace Go.Proofs
open Go.Den
set_option maxRecDepth 100000
theorem cn_nanC : cnI nanC = nanC := by decide
theorem cn_cn (a : Int) : cnI (cnI a) = cnI a := by
  by_cases h : 9218868437227405312 < bits .andNot .u64 a 9223372036854775808
  · have : cnI a = nanC := if_pos h
    rw [this, cn_nanC]
  · have : cnI a = a := if_neg h
    rw [this, this]
theorem cn_ar (op : BinOp) (a b : Int) : cnI (arI op a b) = arI op a b := by
  unfold arI
  split
  · exact cn_cn _
  · exact cn_nanC
theorem cn_from (n : Int) : cnI (fromI n) = fromI n := cn_cn _
theorem v27 (a : Int) : dX 27 [.int .u64 a] [] .plain = some (.ret (.int .u64 (cnI a)) [] .plain) :=
  Tot.of_eq (ext_body noCall_le rfl (by kernel_rfl) fun loops => by
    rw [b27]
    unfold cnI
    show Tot (cond (decide (bits .andNot .u64 a 9223372036854775808 > 9218868437227405312)) _ _) _
    by_cases hc : 9218868437227405312 < bits .andNot .u64 a 9223372036854775808
    · rw [if_pos hc, decide_eq_true hc]; exact Tot.some rfl
    · rw [if_neg hc, decide_eq_false hc]; exact Tot.some rfl)
theorem i27 (a : Int) : iF 27 [.int .u64 a] = cnI a := by simp only [iF, v27]
theorem i66 (a : Int) : ∃ r, iF 66 [.int .u64 a] = cnI r := by
  have : Tot (dX 66 [.int .u64 a] [] .plain) fun o => ∃ r, o = .ret (.int .u64 (cnI r)) [] .plain :=
    ext_body u1_le rfl (by kernel_rfl) fun loops => by
      rw [b66]
      exact Tot.some ⟨_, by rw [i27]⟩
  obtain ⟨o, h, r, rfl⟩ := this
  exact ⟨r, by simp only [iF, h]⟩
/-- may it be a value? -/
def ri (t b : Int) : Prop := bF 18 [vl t b] = true
theorem ri_of {t b : Int} (h : t = 1 ∨ (t = 2 ∧ cnI b = b) ∨ (t = 3 ∧ b < 2)) : ri t b := by
  have : Tot (dX 18 [vl t b] [] .plain) fun o => o = .ret (.bool true) [] .plain :=
    ext_body u1_le rfl (by kernel_rfl) fun loops => by
      unfold vl
      rw [b18]
      refine Tot.cond (fun _ => Tot.some rfl) fun h1 => Tot.cond (fun h2 => Tot.some ?_) fun h2 => Tot.cond (fun h3 => Tot.some ?_) fun h3 => ?_
      · rcases h with rfl | ⟨rfl, h⟩ | ⟨rfl, h⟩
        · cases h1
        · rw [i27, h]; simp
        · cases h2
      · rcases h with rfl | ⟨rfl, h⟩ | ⟨rfl, h⟩
        · cases h1
        · cases h2
        · simp [h]
      · exfalso
        rcases h with rfl | ⟨rfl, h⟩ | ⟨rfl, h⟩
        · cases h1
        · cases h2
        · cases h3
  obtain ⟨o, h, rfl⟩ := this
  unfold ri
  simp only [bF, h]
theorem ri_lit {t b : Int} (h : bF 61 [vl t b] = true) : ri t b := by
  have : Tot (dX 61 [vl t b] [] .plain) fun o => ∃ x, o = .ret (.bool x) [] .plain ∧ (x = true → t = 1 ∨ (t = 2 ∧ cnI b = b) ∨ (t = 3 ∧ b < 2)) :=
    ext_body u1_le rfl (by kernel_rfl) fun loops => by
      unfold vl
      rw [b61]
      refine Tot.cond (fun h1 => Tot.some ⟨_, rfl, fun _ => .inl (by simpa using h1)⟩) fun h1 => Tot.cond (fun h2 => Tot.some ⟨_, rfl, fun hx => ?_⟩) fun h2 => Tot.cond (fun h3 => Tot.some ⟨_, rfl, fun hx => ?_⟩) fun h3 => Tot.some ⟨_, rfl, fun hx => by cases hx⟩
      · refine .inr (.inl ⟨by simpa using h2, ?_⟩)
        rw [i27] at hx
        cases hc : cnI b == b with
        | true => simpa using hc
        | false => rw [hc] at hx; cases hx
      · exact .inr (.inr ⟨by simpa using h3, of_decide_eq_true hx⟩)
  obtain ⟨o, h1, x, rfl, h2⟩ := this
  refine ri_of (h2 ?_)
  simp only [bF, h1] at h
  exact h
/-- a value beside a trap -/
def rt (o : Out) : Prop := ∃ t b c, o = .ret (.tup [vl t b, .int .i64 c]) [] .plain ∧ (c = 0 → ri t b)
theorem rt_f {f : FuncId} {args : List AV} (h : Tot (dX f args [] .plain) rt) : tF3 f args = 0 → ri (tF1 f args) (tF2 f args) := by
  obtain ⟨o, h, t, b, c, rfl, hr⟩ := h
  have e1 : tF1 f args = t := by simp only [tF1, h, vl]
  have e2 : tF2 f args = b := by simp only [tF2, h, vl]
  have e3 : tF3 f args = c := by simp only [tF3, h, vl]
  rw [e1, e2, e3]
  exact hr
theorem ri21 (b : Bool) : ri (tF1 21 [.bool b]) (tF2 21 [.bool b]) := by
  have : Tot (dX 21 [.bool b] [] .plain) fun o => ∃ t b, o = .ret (vl t b) [] .plain ∧ ri t b :=
    ext_body noCall_le rfl (by kernel_rfl) fun loops => by
      rw [b21]
      exact Tot.cond (fun _ => Tot.some ⟨_, _, rfl, ri_of (.inr (.inr ⟨rfl, by decide⟩))⟩) fun _ => Tot.some ⟨_, _, rfl, ri_of (.inr (.inr ⟨rfl, by decide⟩))⟩
  obtain ⟨o, h, t, b', rfl, hr⟩ := this
  have e1 : tF1 21 [.bool b] = t := by simp only [tF1, h, vl]
  have e2 : tF2 21 [.bool b] = b' := by simp only [tF2, h, vl]
  rw [e1, e2]
  exact hr
theorem rt28 (v e : Int) : Tot (dX 28 [.int .i64 v, .int .i64 e] [] .plain) rt :=
  ext_body noCall_le rfl (by kernel_rfl) fun loops => by
    rw [b28]
    repeat' first | exact Tot.some ⟨_, _, _, rfl, fun h => absurd h (by decide)⟩ | exact Tot.some ⟨_, _, _, rfl, fun _ => ri_of (.inl rfl)⟩ | (refine Tot.cond (fun _ => ?_) fun _ => ?_)
theorem rt35 {v : Int} (hv : cnI v = v) : Tot (dX 35 [.int .u64 v] [] .plain) rt :=
  ext_body noCall_le rfl (by kernel_rfl) fun loops => by
    rw [b35]
    exact Tot.some ⟨_, _, _, rfl, fun _ => ri_of (.inr (.inl ⟨rfl, hv⟩))⟩
theorem rt34 (op : Int) (x y z : Bool) : Tot (dX 34 [.int .i64 op, .bool x, .bool y, .bool z] [] .plain) rt :=
  ext_body u1_le rfl (by kernel_rfl) fun loops => by
    rw [b34]
    repeat' first | exact Tot.some ⟨_, _, _, rfl, fun _ => ri21 _⟩ | (refine Tot.cond (fun _ => ?_) fun _ => ?_)
theorem rt19 (op a b : Int) : Tot (dX 19 [.int .i64 op, .int .i64 a, .int .i64 b] [] .plain) rt :=
  ext_body u5_le rfl (by kernel_rfl) fun loops => by
    rw [b19]
    repeat' first | exact Tot.some ⟨_, _, _, rfl, rt_f (rt28 _ _)⟩ | exact Tot.some ⟨_, _, _, rfl, rt_f (rt34 _ _ _ _)⟩ | (refine Tot.cond (fun _ => ?_) fun _ => ?_)
theorem rt20 (op a b : Int) : Tot (dX 20 [.int .i64 op, .int .u64 a, .int .u64 b] [] .plain) rt :=
  ext_body u4_le rfl (by kernel_rfl) fun loops => by
    rw [b20]
    repeat' first | exact Tot.some ⟨_, _, _, rfl, rt_f (rt35 (cn_ar _ _ _))⟩ | exact Tot.some ⟨_, _, _, rfl, rt_f (rt34 _ _ _ _)⟩ | (refine Tot.cond (fun _ => ?_) fun _ => ?_)
theorem rt50 (op t b : Int) : Tot (dX 50 [.int .i64 op, vl t b] [] .plain) rt :=
  ext_body u4_le rfl (by kernel_rfl) fun loops => by
    unfold vl
    rw [b50]
    have h66 : cnI (iF 66 [.int .u64 b]) = iF 66 [.int .u64 b] := by obtain ⟨r, h⟩ := i66 b; rw [h, cn_cn]
    refine Tot.cond (fun _ => Tot.cond (fun _ => ?_) fun _ => Tot.cond (fun _ => ?_) fun _ => Tot.cond (fun _ => ?_) fun _ => Tot.cond (fun _ => ?_) fun _ => Tot.cond (fun _ => ?_) fun _ => ?_) fun _ => ?_
    · exact Tot.some ⟨_, _, _, rfl, fun h => absurd h (by decide)⟩
    · exact Tot.some ⟨_, _, _, rfl, fun _ => ri21 _⟩
    · exact Tot.some ⟨_, _, _, rfl, rt_f (rt28 _ _)⟩
    · exact Tot.some ⟨_, _, _, rfl, rt_f (rt35 (cn_from _))⟩
    · exact Tot.some ⟨_, _, _, rfl, rt_f (rt35 h66)⟩
    · exact Tot.some ⟨_, _, _, rfl, rt_f (rt28 _ _)⟩
    · exact Tot.some ⟨_, _, _, rfl, fun h => absurd h (by decide)⟩
theorem rt8 (op t b t2 b2 : Int) : Tot (dX 8 [.int .i64 op, vl t b, vl t2 b2] [] .plain) rt :=
  ext_body u6_le rfl (by kernel_rfl) fun loops => by
    unfold vl
    rw [b8]
    repeat' first | exact Tot.some ⟨_, _, _, rfl, fun h => absurd h (by decide)⟩ | exact Tot.some ⟨_, _, _, rfl, fun _ => ri21 _⟩ | exact Tot.some ⟨_, _, _, rfl, rt_f (rt19 _ _ _)⟩ | exact Tot.some ⟨_, _, _, rfl, rt_f (rt20 _ _ _)⟩ |
      (refine Tot.cond (fun _ => ?_) fun _ => ?_)
theorem i22 {c : Int} (h : c ≠ 0) : iF 22 [.int .i64 c] ≠ 0 := by
  have : Tot (dX 22 [.int .i64 c] [] .plain) fun o => ∃ n, o = .ret (.int .i64 n) [] .plain ∧ n ≠ 0 :=
    ext_body noCall_le rfl (by kernel_rfl) fun loops => by
      rw [b22]
      refine Tot.cond (fun h0 => absurd (by simpa using h0) h) fun _ => ?_
      repeat' first | exact Tot.some ⟨_, rfl, by decide⟩ | (refine Tot.cond (fun _ => ?_) fun _ => ?_)
  obtain ⟨o, h1, n, rfl, hn⟩ := this
  have : iF 22 [.int .i64 c] = n := by simp only [iF, h1]
  rw [this]
  exact hn
end Go.Proofs

/- FoldLifts: when an expression is right. -/
namespace Go.Proofs
open Go.Den
set_option maxRecDepth 100000
/-! names -/
def Eb (n : Int) : Prop := n = 1 ∨ n = 3 ∨ n = 12
def E0 (n : Int) : Prop := n = 0 ∨ n = 3 ∨ n = 12
theorem lp62e (s : List UInt8) (hl : s.length < 1000000000) :
    Tot (codeD Try.prog polX (bindK dX) (s.length + 1) 62 (.loop (Code.part (bodyOf Try.prog 62) [1,1,0,1,0,0])) (S62 s 0) (kBody Try.prog polX u7 (lpR Try.prog polX dX (s.length + 1) 62 (loopsOf (bodyOf Try.prog 62))) 62 [1,1,0,1,0] 0 .plain))
      fun o => ∃ n, o = .ret (.int .i64 n) [] .plain ∧ E0 n := by
  have hret : Tot (kBody Try.prog polX u7 (lpR Try.prog polX dX (s.length + 1) 62 (loopsOf (bodyOf Try.prog 62))) 62 [1,1,0,1,0] 0 .plain .ret (S62r 12)) fun o => ∃ n, o = .ret (.int .i64 n) [] .plain ∧ E0 n := by
    rw [q62]; exact Tot.some ⟨12, rfl, .inr (.inr rfl)⟩
  have hend : Tot (kBody Try.prog polX u7 (lpR Try.prog polX dX (s.length + 1) 62 (loopsOf (bodyOf Try.prog 62))) 62 [1,1,0,1,0] 0 .plain (.exit 0) (S62e s s.length)) fun o => ∃ n, o = .ret (.int .i64 n) [] .plain ∧ E0 n := by
    rw [e62]
    refine Tot.cond (fun _ => Tot.some ⟨3, rfl, .inr (.inl rfl)⟩) fun _ => Tot.cond (fun _ => Tot.some ⟨12, rfl, .inr (.inr rfl)⟩) fun _ => Tot.some ⟨0, rfl, .inl rfl⟩
  refine loop_tot (α := Unit) (calls := fun _ => u7) (fun _ => u7_le) (keep := false) rfl (inner := noLoops) no_loops (fun i _ => S62 s i) (fun _ _ => True) s.length (Nat.lt_succ_self _) () trivial ?_ (H := 0) rfl ?_
  · show _ = _
    kernel_rfl
  · intro i _ hi _ K hK hE
    rw [r62]
    by_cases hlt : i < s.length
    · have h1 : decide ((i : Int) < s.length) = true := by simpa using hlt
      have h2 : (0 : Int) ≤ i ∧ (i : Int).toNat < s.length := by omega
      have go : Tot (K .normal (S62 s (IntKind.i64.wrap ((i : Int) + 1)))) fun o => ∃ n, o = .ret (.int .i64 n) [] .plain ∧ E0 n :=
        hK _ () hlt trivial (by rw [wrap_succ (by omega)]; show _ = _; kernel_rfl)
      have stop : Tot (K .ret (S62r 12)) fun o => ∃ n, o = .ret (.int .i64 n) [] .plain ∧ E0 n := by
        rw [hE _ _ (by simp)]; exact hret
      rw [h1, cond_true]
      refine Tot.dite h2 ?_
      repeat' first | exact go | exact stop | exact Tot.dite h2 (by first | exact go | exact stop) | (refine Tot.dite h2 ?_) | (refine Tot.cond (fun _ => ?_) fun _ => ?_)
    · have : i = s.length := by omega
      subst this
      have h1 : decide ((s.length : Int) < s.length) = false := by simp
      unfold S62e at hend
      rw [h1] at hend ⊢
      rw [cond_false, hE _ _ (by simp)]
      exact hend
theorem e62n {s : List UInt8} (hl : s.length < 1000000000) : E0 (iF 62 [.str s]) := by
  have : Tot (dX 62 [.str s] [] .plain) fun o => ∃ n, o = .ret (.int .i64 n) [] .plain ∧ E0 n := by
    refine denA_tot (s.length + 1) u7_le rfl (by kernel_rfl) ?_
    rw [b62]
    refine Tot.cond (fun hs => ?_) fun _ => Tot.some ⟨12, rfl, .inr (.inr rfl)⟩
    have hne : s ≠ [] := by simpa using hs
    have h2 : (0 : Int) ≤ 0 ∧ Int.toNat 0 < s.length := ⟨Int.le_refl 0, List.length_pos_iff.2 hne⟩
    refine Tot.dite h2 ?_
    refine Tot.cond (fun _ => Tot.some ⟨12, rfl, .inr (.inr rfl)⟩) fun hc => ?_
    exact lpR_tot (by kernel_rfl) (lp62e s hl)
  obtain ⟨o, h, n, rfl, hn⟩ := this
  have : iF 62 [.str s] = n := by simp only [iF, h]
  rw [this]; exact hn
theorem eb62 {s : List UInt8} (hl : s.length < 1000000000) (h : (iF 62 [.str s] != 0) = true) : Eb (iF 62 [.str s]) := by
  rcases e62n hl with h0 | h0 | h0
  · rw [h0] at h; cases h
  · exact .inr (.inl h0)
  · exact .inr (.inr h0)
/-! its own part -/
@[reducible] def okO : Out := .ret (.tup []) [] .plain
@[reducible] def pnO (n : Int) : Out := .pan (.ifc 93 (.int .i64 n)) [] .plain
def okL : LoopK := fun _ _ _ => some okO
inductive Par (L : R) : R → R → Prop
  | ok : Par L L (some okO)
  | pan (n : Int) : n ≠ 0 → Eb n → Par L (some (pnO n)) (some (pnO n))
theorem Par.pan1 {L : R} : Par L (some (.pan (.ifc 93 (.int .i64 1)) [] .plain)) (some (.pan (.ifc 93 (.int .i64 1)) [] .plain)) := .pan 1 (by decide) (.inl rfl)
theorem Par.pan3 {L : R} : Par L (some (.pan (.ifc 93 (.int .i64 3)) [] .plain)) (some (.pan (.ifc 93 (.int .i64 3)) [] .plain)) := .pan 3 (by decide) (.inr (.inl rfl))
theorem Par.cond {L : R} {b : Bool} {x y x' y' : R} (h1 : b = true → Par L x x') (h2 : b = false → Par L y y') : Par L (_root_.cond b x y) (_root_.cond b x' y') := by
  cases b with
  | true => exact h1 rfl
  | false => exact h2 rfl
theorem Par.chk {L : R} {p : Prop} {x x' : R} (hp : p) (h : Par L x x') : Par L (Den.chk p x) (Den.chk p x') := by rw [chk_pos hp, chk_pos hp]; exact h
noncomputable def own46 (q : Int) (e : Ex) : R := bodyL Try.prog polX u60 okL 46 [agK q e] [] .plain
theorem par46 (loops : LoopK) (e : Ex) (hm : e.mod.length < 1000000000) (hn : e.name.length < 1000000000) {q : Int} (h1 : 1 ≤ q) (h8 : q ≤ 8) :
    Par (loops 12 (S46 q e 0) (kBody Try.prog polX u60 loops 46 P46 0 .plain)) (bodyL Try.prog polX u60 loops 46 [agK q e] [] .plain) (own46 q e) := by
  have hcases : q = 1 ∨ q = 2 ∨ q = 3 ∨ q = 4 ∨ q = 5 ∨ q = 6 ∨ q = 7 ∨ q = 8 := by omega
  rcases hcases with rfl | rfl | rfl | rfl | rfl | rfl | rfl | rfl
  · unfold own46
    rw [b46_1 loops e, b46_1 okL e]
    repeat' first
      | exact Par.pan1
      | exact Par.pan3
      | (with_reducible refine Par.cond (fun hc => Par.pan1) fun hc => ?_)
      | (with_reducible refine Par.cond (fun hc => Par.pan3) fun hc => ?_)
      | (with_reducible refine Par.chk (by assumption) ?_)
      | (with_reducible refine Par.cond (fun hc => Par.pan _ (by simpa using hc) (eb62 (by assumption) hc)) fun hc => ?_)
    exact Par.ok
  · unfold own46
    rw [b46_2 loops e, b46_2 okL e]
    repeat' first
      | exact Par.pan1
      | exact Par.pan3
      | (with_reducible refine Par.cond (fun hc => Par.pan1) fun hc => ?_)
      | (with_reducible refine Par.cond (fun hc => Par.pan3) fun hc => ?_)
      | (with_reducible refine Par.chk (by assumption) ?_)
      | (with_reducible refine Par.cond (fun hc => Par.pan _ (by simpa using hc) (eb62 (by assumption) hc)) fun hc => ?_)
    exact Par.ok
  · unfold own46
    rw [b46_3 loops e, b46_3 okL e]
    repeat' first
      | exact Par.pan1
      | exact Par.pan3
      | (with_reducible refine Par.cond (fun hc => Par.pan1) fun hc => ?_)
      | (with_reducible refine Par.cond (fun hc => Par.pan3) fun hc => ?_)
      | (with_reducible refine Par.chk (by assumption) ?_)
      | (with_reducible refine Par.cond (fun hc => Par.pan _ (by simpa using hc) (eb62 (by assumption) hc)) fun hc => ?_)
    exact Par.ok
  · unfold own46
    rw [b46_4 loops e, b46_4 okL e]
    repeat' first
      | exact Par.pan1
      | exact Par.pan3
      | (with_reducible refine Par.cond (fun hc => Par.pan1) fun hc => ?_)
      | (with_reducible refine Par.cond (fun hc => Par.pan3) fun hc => ?_)
      | (with_reducible refine Par.chk (by assumption) ?_)
      | (with_reducible refine Par.cond (fun hc => Par.pan _ (by simpa using hc) (eb62 (by assumption) hc)) fun hc => ?_)
    exact Par.ok
  · unfold own46
    rw [b46_5 loops e, b46_5 okL e]
    repeat' first
      | exact Par.pan1
      | exact Par.pan3
      | (with_reducible refine Par.cond (fun hc => Par.pan1) fun hc => ?_)
      | (with_reducible refine Par.cond (fun hc => Par.pan3) fun hc => ?_)
      | (with_reducible refine Par.chk (by assumption) ?_)
      | (with_reducible refine Par.cond (fun hc => Par.pan _ (by simpa using hc) (eb62 (by assumption) hc)) fun hc => ?_)
    exact Par.ok
  · unfold own46
    rw [b46_6 loops e, b46_6 okL e]
    repeat' first
      | exact Par.pan1
      | exact Par.pan3
      | (with_reducible refine Par.cond (fun hc => Par.pan1) fun hc => ?_)
      | (with_reducible refine Par.cond (fun hc => Par.pan3) fun hc => ?_)
      | (with_reducible refine Par.chk (by assumption) ?_)
      | (with_reducible refine Par.cond (fun hc => Par.pan _ (by simpa using hc) (eb62 (by assumption) hc)) fun hc => ?_)
    exact Par.ok
  · unfold own46
    rw [b46_7 loops e, b46_7 okL e]
    repeat' first
      | exact Par.pan1
      | exact Par.pan3
      | (with_reducible refine Par.cond (fun hc => Par.pan1) fun hc => ?_)
      | (with_reducible refine Par.cond (fun hc => Par.pan3) fun hc => ?_)
      | (with_reducible refine Par.chk (by assumption) ?_)
      | (with_reducible refine Par.cond (fun hc => Par.pan _ (by simpa using hc) (eb62 (by assumption) hc)) fun hc => ?_)
    exact Par.ok
  · unfold own46
    rw [b46_8 loops e, b46_8 okL e]
    repeat' first
      | exact Par.pan1
      | exact Par.pan3
      | (with_reducible refine Par.cond (fun hc => Par.pan1) fun hc => ?_)
      | (with_reducible refine Par.cond (fun hc => Par.pan3) fun hc => ?_)
      | (with_reducible refine Par.chk (by assumption) ?_)
      | (with_reducible refine Par.cond (fun hc => Par.pan _ (by simpa using hc) (eb62 (by assumption) hc)) fun hc => ?_)
    exact Par.ok
theorem e46q {q : Int} (h1 : 1 ≤ q) (h8 : q ≤ 8) (loops : LoopK) (e : Ex) (i : Int) : (kBody Try.prog polX u60 loops 46 P46 0 .plain) (.exit 0) (S46e q e i) = some okO := by
  have hcases : q = 1 ∨ q = 2 ∨ q = 3 ∨ q = 4 ∨ q = 5 ∨ q = 6 ∨ q = 7 ∨ q = 8 := by omega
  rcases hcases with rfl | rfl | rfl | rfl | rfl | rfl | rfl | rfl
  · exact e46_1 _ _ _
  · exact e46_2 _ _ _
  · exact e46_3 _ _ _
  · exact e46_4 _ _ _
  · exact e46_5 _ _ _
  · exact e46_6 _ _ _
  · exact e46_7 _ _ _
  · exact e46_8 _ _ _
/-! the whole -/
def X46l (e : Ex) (o : Out) : Prop := (o = okO ∧ ∀ j, pF 46 [agE (e.kids.get j)] = false) ∨ ∃ n, n ≠ 0 ∧ Eb n ∧ o = pnO n ∧ ∃ j, pF 46 [agE (e.kids.get j)] = true
theorem lp46e (q : Int) (e : Ex) (hl : e.kids.length < 1000000000) (ih : ∀ j, Tot (dX 46 [agE (e.kids.get j)] [] .plain) (Q46 (e.kids.get j))) (ihE : ∀ j, pF 46 [agE (e.kids.get j)] = true → Eb (eF 46 [agE (e.kids.get j)]))
    (hend : ∀ i, K46 (e.kids.length + 1) (.exit 0) (S46e q e i) = some (.ret (.tup []) [] .plain)) :
    Tot (codeD Try.prog polX (bindK dX) (e.kids.length + 1) 46 (.loop (Code.part (bodyOf Try.prog 46) [1, 1, 1, 1, 1, 1, 1, 1, 1, 1, 0, 0])) (S46 q e 0) (K46 (e.kids.length + 1))) (X46l e) := by
  refine loop_tot (α := Unit) (calls := fun i => if h : i < e.kids.length then u46 (e.kids.get ⟨i, h⟩) else noCall) (fun i => ?_) (keep := false) rfl (inner := noLoops) no_loops
    (fun i _ => S46 q e i) (fun i _ => ∀ j : Fin e.kids.length, j.1 < i → pF 46 [agE (e.kids.get j)] = false) e.kids.length (Nat.lt_succ_self _) () (fun j h => by omega) ?_ (H := 1) rfl ?_
  · split
    · exact u46_le (ih _)
    · exact noCall_le
  · show _ = _
    kernel_rfl
  · intro i _ hi hI K hK hE
    by_cases hlt : i < e.kids.length
    · simp only [dif_pos hlt]
      rw [r46]
      have h1 : decide ((i : Int) < e.kids.length) = true := by simpa using hlt
      have h2 : (0 : Int) ≤ i ∧ (i : Int).toNat < e.kids.length := by omega
      rw [h1, cond_true]
      refine Tot.dite h2 (Tot.chk ⟨rfl, rfl, rfl⟩ ?_)
      obtain ⟨_, hg, hp⟩ := q46_val (ih ⟨i, hlt⟩)
      refine Tot.cond (fun hpf => ?_) fun hpf => ?_
      · rw [hE _ _ (by simp)]
        unfold K46
        rw [p46]
        exact Tot.some (.inr ⟨_, hp hpf, ihE _ hpf, rfl, _, hpf⟩)
      · refine hK _ () hlt (fun j hj => ?_) ?_
        · by_cases hji : j.1 = i
          · have : j = ⟨i, hlt⟩ := Fin.ext hji
            rw [this]; exact hpf
          · exact hI j (by omega)
        · rw [wrap_succ (by omega)]
          show _ = _
          kernel_rfl
    · have : i = e.kids.length := by omega
      subst this
      simp only [Nat.lt_irrefl, dite_false]
      rw [r46n]
      have h1 : decide ((e.kids.length : Int) < e.kids.length) = false := by simp
      have hend' := hend e.kids.length
      unfold S46e at hend'
      rw [h1] at hend' ⊢
      rw [cond_false, hE _ _ (by simp)]
      exact ⟨_, hend', .inl ⟨rfl, fun j => hI j j.2⟩⟩
structure Own (e : Ex) : Prop where
  lo : 1 ≤ e.kind
  hi : e.kind ≤ 8
  own : own46 e.kind e = some okO
def X46 (e : Ex) (o : Out) : Prop := (o = okO ∧ Own e ∧ ∀ j, pF 46 [agE (e.kids.get j)] = false) ∨ ∃ n, n ≠ 0 ∧ Eb n ∧ o = pnO n ∧ ¬ (Own e ∧ ∀ j, pF 46 [agE (e.kids.get j)] = false)
theorem x46 (e : Ex) (hm : e.mod.length < 1000000000) (hn : e.name.length < 1000000000) (hl : e.kids.length < 1000000000) (ih : ∀ j, Tot (dX 46 [agE (e.kids.get j)] [] .plain) (Q46 (e.kids.get j)))
    (ihE : ∀ j, pF 46 [agE (e.kids.get j)] = true → Eb (eF 46 [agE (e.kids.get j)])) : Tot (dX 46 [agE e] [] .plain) (X46 e) := by
  have he : agE e = agK e.kind e := rfl
  rw [he]
  by_cases hk : 1 ≤ e.kind ∧ e.kind ≤ 8
  · refine denA_tot (e.kids.length + 1) u60_le rfl (by kernel_rfl) ?_
    have hp := par46 (lpR Try.prog polX dX (e.kids.length + 1) 46 (loopsOf (bodyOf Try.prog 46))) e hm hn hk.1 hk.2
    have lp := lpR_tot (P := Try.prog) (pol := polX) (c := dX) (n := e.kids.length + 1) (fn := 46) (l := loopsOf (bodyOf Try.prog 46)) (r := 12) (by kernel_rfl) (lp46e e.kind e hl ih ihE fun i => e46q hk.1 hk.2 _ _ _)
    generalize hw : own46 e.kind e = w at hp
    generalize bodyL Try.prog polX u60 (lpR Try.prog polX dX (e.kids.length + 1) 46 (loopsOf (bodyOf Try.prog 46))) 46 [agK e.kind e] [] .plain = r at hp
    cases hp with
    | ok =>
      refine Tot.mono lp fun o ho => ?_
      rcases ho with ⟨h1, h2⟩ | ⟨n, h1, h2, h3, j, h4⟩
      · exact .inl ⟨h1, ⟨hk.1, hk.2, hw⟩, h2⟩
      · exact .inr ⟨n, h1, h2, h3, fun hc => by have := hc.2 j; rw [h4] at this; cases this⟩
    | pan n h1 h2 =>
      exact Tot.some (.inr ⟨n, h1, h2, rfl, fun hc => by have := hc.1.own; rw [hw] at this; cases this⟩)
  · refine denA_tot 0 uAsk_le rfl (by kernel_rfl) ?_
    rw [b46o]
    refine Tot.chk ⟨?_, by decide⟩ (Tot.some (.inr ⟨1, by decide, .inl rfl, rfl, fun hc => hk ⟨hc.1.lo, hc.1.hi⟩⟩))
    by_cases h1 : e.kind ≥ 1
    · simp [h1]; omega
    · simp [h1]
theorem x46_iff {e : Ex} (h : Tot (dX 46 [agE e] [] .plain) (X46 e)) : (pF 46 [agE e] = true → Eb (eF 46 [agE e])) ∧ (pF 46 [agE e] = false ↔ Own e ∧ ∀ j, pF 46 [agE (e.kids.get j)] = false) := by
  obtain ⟨o, h1, h2⟩ := h
  rcases h2 with ⟨rfl, h2⟩ | ⟨n, hn, hE, rfl, h2⟩
  · have : pF 46 [agE e] = false := by simp only [pF, h1]
    exact ⟨fun h => (by rw [this] at h; cases h), fun _ => h2, fun _ => this⟩
  · have : pF 46 [agE e] = true := by simp only [pF, h1]
    have h3 : eF 46 [agE e] = n := by simp only [eF, h1]
    exact ⟨fun _ => (by rw [h3]; exact hE), fun h => (by rw [this] at h; cases h), fun h => absurd h h2⟩
theorem ok46 {e : Ex} (hs : Small e) : (pF 46 [agE e] = true → Eb (eF 46 [agE e])) ∧ (pF 46 [agE e] = false ↔ Own e ∧ ∀ j, pF 46 [agE (e.kids.get j)] = false) := by
  induction hs with
  | mk e hm hn hl hk ih => exact x46_iff (x46 e hm hn hl (fun j => f46_tot _ (hk j)) fun j => (ih j).1)
end Go.Proofs

/- FoldLifts: how deep expressions are. -/
namespace Go.Proofs
open Go.Den
set_option maxRecDepth 100000
theorem dX_congr {f : FuncId} {call : CallK} (hle : CallLeK call dX) (hf : extT f = none) (hk : keysOK (loopsOf (bodyOf Try.prog f)) = true) {a b : List AV}
    (h : ∀ loops, bodyL Try.prog polX call loops f a [] .plain = bodyL Try.prog polX call loops f b [] .plain) (ht : ∀ loops, Tot (bodyL Try.prog polX call loops f a [] .plain) fun _ => True) : dX f a [] .plain = dX f b [] .plain := by
  obtain ⟨o, h1, _⟩ := ht (lpR Try.prog polX dX 0 f (loopsOf (bodyOf Try.prog f)))
  have h2 := h1
  rw [h] at h2
  exact (denA_of_loops 0 hle hf hk h1).trans (denA_of_loops 0 hle hf hk h2).symm
def Ex.as (e e' : Ex) : Prop := e.kind = e'.kind ∧ e.op = e'.op
theorem d58 {e e' : Ex} (h : e.as e') : dX 58 [agE e] [] .plain = dX 58 [agE e'] [] .plain := by
  refine dX_congr noCall_le rfl (by kernel_rfl) (fun loops => ?_) fun loops => ?_
  · unfold agE agK kidsE
    rw [b58, b58, h.1, h.2]
  · unfold agE agK kidsE
    rw [b58]
    repeat' first | exact Tot.some trivial | (refine Tot.cond (fun _ => ?_) fun _ => ?_)
theorem i58 {e e' : Ex} (h : e.as e') : iF 58 [agE e] = iF 58 [agE e'] := by simp only [iF, d58 h]
theorem d69 {e e' : Ex} (h : e.as e') (q : Int) : dX 69 [agE e, .int .i64 q] [] .plain = dX 69 [agE e', .int .i64 q] [] .plain := by
  have h58 := i58 h
  refine dX_congr u1_le rfl (by kernel_rfl) (fun loops => ?_) fun loops => ?_
  · unfold agE agK kidsE at h58 ⊢
    rw [b69, b69, h58]
  · unfold agE agK kidsE
    rw [b69]
    repeat' first | exact Tot.some trivial | (refine Tot.cond (fun _ => ?_) fun _ => ?_)
theorem i69 {e e' : Ex} (h : e.as e') (q : Int) : iF 69 [agE e, .int .i64 q] = iF 69 [agE e', .int .i64 q] := by simp only [iF, d69 h]
theorem d59 {e e' : Ex} (h : e.as e') (q : Int) : dX 59 [agE e, .int .i64 q] [] .plain = dX 59 [agE e', .int .i64 q] [] .plain := by
  have h58 := i58 h
  have h69 := i69 h q
  refine dX_congr u2_le rfl (by kernel_rfl) (fun loops => ?_) fun loops => ?_
  · unfold agE agK kidsE at h58 h69 ⊢
    rw [b59, b59, h58, h69, h.1, h.2]
  · unfold agE agK kidsE
    rw [b59]
    repeat' first | exact Tot.some trivial | (refine Tot.cond (fun _ => ?_) fun _ => ?_)
theorem i59a {e e' : Ex} (h : e.as e') (q : Int) : tF1 59 [agE e, .int .i64 q] = tF1 59 [agE e', .int .i64 q] := by simp only [tF1, d59 h]
theorem i59b {e e' : Ex} (h : e.as e') (q : Int) : tF2 59 [agE e, .int .i64 q] = tF2 59 [agE e', .int .i64 q] := by simp only [tF2, d59 h]
theorem i58_ge (e : Ex) : 1 ≤ iF 58 [agE e] := by
  have : Tot (dX 58 [agE e] [] .plain) fun o => ∃ n, o = .ret (.int .i64 n) [] .plain ∧ 1 ≤ n :=
    ext_body noCall_le rfl (by kernel_rfl) fun loops => by
      unfold agE agK kidsE
      rw [b58]
      repeat' first | exact Tot.some ⟨_, rfl, by decide⟩ | (refine Tot.cond (fun _ => ?_) fun _ => ?_)
  obtain ⟨o, h, n, rfl, hn⟩ := this
  have : iF 58 [agE e] = n := by simp only [iF, h]
  rw [this]; exact hn
theorem i69_le {e : Ex} (h7 : iF 58 [agE e] < 7) (q : Int) : iF 69 [agE e, .int .i64 q] ≤ 7 := by
  have hge := i58_ge e
  have : Tot (dX 69 [agE e, .int .i64 q] [] .plain) fun o => ∃ n, o = .ret (.int .i64 n) [] .plain ∧ n ≤ 7 :=
    ext_body u1_le rfl (by kernel_rfl) fun loops => by
      unfold agE agK kidsE at hge h7 ⊢
      rw [b69]
      refine Tot.cond (fun _ => Tot.some ⟨_, rfl, ?_⟩) fun _ => Tot.some ⟨_, rfl, by omega⟩
      generalize iF 58 _ = z at *
      simp only [IntKind.wrap, IntKind.bits, IntKind.signed]
      simp
      omega
  obtain ⟨o, h, n, rfl, hn⟩ := this
  have : iF 69 [agE e, .int .i64 q] = n := by simp only [iF, h]
  rw [this]; exact hn
theorem i59_le (e : Ex) (q : Int) : tF1 59 [agE e, .int .i64 q] ≤ 7 ∧ 0 ≤ tF2 59 [agE e, .int .i64 q] ∧ tF2 59 [agE e, .int .i64 q] ≤ 1 := by
  have : Tot (dX 59 [agE e, .int .i64 q] [] .plain) fun o => ∃ t m, o = .ret (.tup [.int .i64 t, .int .i64 m]) [] .plain ∧ t ≤ 7 ∧ 0 ≤ m ∧ m ≤ 1 :=
    ext_body u2_le rfl (by kernel_rfl) fun loops => by
      unfold agE agK kidsE
      rw [b59]
      repeat' first
        | exact Tot.some ⟨_, _, rfl, by decide, by decide, by decide⟩
        | (refine Tot.cond (fun _ => ?_) fun _ => ?_)
        | (rename_i hc _ _; refine Tot.some ⟨_, _, rfl, ?_, by decide, by decide⟩; skip)
      all_goals
        refine i69_le (e := e) ?_ q
        unfold agE agK kidsE
        rename_i hc
        first
        | (cases hk : e.kind == 7 with
           | true => rw [hk] at hc; exact of_decide_eq_true hc
           | false => rw [hk] at hc; cases hc)
  obtain ⟨o, h, t, m, rfl, h1, h2, h3⟩ := this
  have e1 : tF1 59 [agE e, .int .i64 q] = t := by simp only [tF1, h]
  have e2 : tF2 59 [agE e, .int .i64 q] = m := by simp only [tF2, h]
  rw [e1, e2]
  exact ⟨h1, h2, h3⟩
/-! how deep -/
noncomputable def dep (e : Ex) (q d : Int) : Int := cond (decide (iF 58 [agE e] < q)) (IntKind.i64.wrap (d + 1)) d
noncomputable def dk' (e : Ex) (d : Int) (j : Fin e.kids.length) : Int := iF 45 [agE (e.kids.get j), .int .i64 (tF1 59 [agE e, .int .i64 (j.1 : Nat)]), .int .i64 (IntKind.i64.wrap (d + tF2 59 [agE e, .int .i64 (j.1 : Nat)]))]
theorem lp45e (e : Ex) (d m : Int) (hl : e.kids.length < 1000000000) (ih : ∀ j q d, Tot (dX 45 [agE (e.kids.get j), .int .i64 q, .int .i64 d] [] .plain) fun o => ∃ n, o = .ret (.int .i64 n) [] .plain) :
    Tot (codeD Try.prog polX (bindK dX) (e.kids.length + 1) 45 (.loop (Code.part (bodyOf Try.prog 45) [1, 1, 1, 0, 1, 0, 0])) (S45 e 0 d m) (kBody Try.prog polX u7 (lpR Try.prog polX dX (e.kids.length + 1) 45 (loopsOf (bodyOf Try.prog 45))) 45 [1, 1, 1, 0, 1, 0] 0 .plain))
      fun o => ∃ n, o = .ret (.int .i64 n) [] .plain ∧ (n ≤ 32 ↔ m ≤ 32 ∧ ∀ j, dk' e d j ≤ 32) := by
  refine loop_tot (α := Int) (calls := fun i => if h : i < e.kids.length then u45 (e.kids.get ⟨i, h⟩) else u7) (fun i => ?_) (keep := false) rfl (inner := noLoops) no_loops
    (fun i m => S45 e i d m) (fun i m' => m' ≤ 32 ↔ m ≤ 32 ∧ ∀ j : Fin e.kids.length, j.1 < i → dk' e d j ≤ 32) e.kids.length (Nat.lt_succ_self _) m (by simp) ?_ (H := 1) rfl ?_
  · split
    · exact u45_le (ih _)
    · exact u7_le
  · show _ = _
    kernel_rfl
  · intro i m' hi hI K hK hE
    by_cases hlt : i < e.kids.length
    · simp only [dif_pos hlt]
      rw [r45]
      have h1 : decide ((i : Int) < e.kids.length) = true := by simpa using hlt
      have h2 : (0 : Int) ≤ i ∧ (i : Int).toNat < e.kids.length := by omega
      rw [h1, cond_true]
      refine Tot.dite h2 (Tot.chk ?_ ?_)
      · rfl
      · have hK' := fun st' => hK st' (slotI 7 st')
        refine hK' _ hlt ?_ ?_
        · have hmax : ∀ a b : Int, (cond (decide (a > b)) a b ≤ 32) ↔ (b ≤ 32 ∧ a ≤ 32) := by
            intro a b
            by_cases h : a > b
            · rw [decide_eq_true h, cond_true]; omega
            · rw [decide_eq_false h, cond_false]; omega
          show cond (decide (dk' e d ⟨i, hlt⟩ > m')) (dk' e d ⟨i, hlt⟩) m' ≤ 32 ↔ _
          rw [hmax, hI]
          constructor
          · rintro ⟨⟨g1, g2⟩, g3⟩
            refine ⟨g1, fun j hj => ?_⟩
            by_cases hji : j.1 = i
            · have : j = ⟨i, hlt⟩ := Fin.ext hji
              rw [this]; exact g3
            · exact g2 j (by omega)
          · rintro ⟨g1, g2⟩
            exact ⟨⟨g1, fun j hj => g2 j (by omega)⟩, g2 ⟨i, hlt⟩ (Nat.lt_succ_self i)⟩
        · rw [wrap_succ (by omega)]
          show _ = _
          kernel_rfl
    · have : i = e.kids.length := by omega
      subst this
      simp only [Nat.lt_irrefl, dite_false]
      rw [r45n]
      have h1 : decide ((e.kids.length : Int) < e.kids.length) = false := by simp
      rw [h1, cond_false, hE _ _ (by simp)]
      have := e45 (lpR Try.prog polX dX (e.kids.length + 1) 45 (loopsOf (bodyOf Try.prog 45))) e e.kids.length d m'
      unfold S45e at this
      rw [h1] at this
      exact ⟨_, this, _, rfl, by rw [hI]; exact ⟨fun h => ⟨h.1, fun j => h.2 j j.2⟩, fun h => ⟨h.1, fun j _ => h.2 j⟩⟩⟩
theorem deep_iff {e : Ex} (hs : Small e) (q d : Int) : iF 45 [agE e, .int .i64 q, .int .i64 d] ≤ 32 ↔ dep e q d ≤ 32 ∧ ∀ j, dk' e (dep e q d) j ≤ 32 := by
  have : Tot (dX 45 [agE e, .int .i64 q, .int .i64 d] [] .plain) fun o => ∃ n, o = .ret (.int .i64 n) [] .plain ∧ (n ≤ 32 ↔ dep e q d ≤ 32 ∧ ∀ j, dk' e (dep e q d) j ≤ 32) := by
    cases hs with
    | mk e hm hn hl hk =>
      refine denA_tot (e.kids.length + 1) u7_le rfl (by kernel_rfl) ?_
      rw [b45]
      refine Tot.cond (fun hc => ?_) fun hc => ?_
      · have hd : dep e q d = IntKind.i64.wrap (d + 1) := by unfold dep; rw [show decide (iF 58 [agE e] < q) = true from hc]; rfl
        rw [hd]
        exact lpR_tot (by kernel_rfl) (lp45e e _ _ hl fun j => f45_tot _ (hk j))
      · have hd : dep e q d = d := by unfold dep; rw [show decide (iF 58 [agE e] < q) = false from hc]; rfl
        rw [hd]
        exact lpR_tot (by kernel_rfl) (lp45e e _ _ hl fun j => f45_tot _ (hk j))
  obtain ⟨o, h, n, rfl, hn⟩ := this
  have : iF 45 [agE e, .int .i64 q, .int .i64 d] = n := by simp only [iF, h]
  rw [this]; exact hn
/-! right or not -/
theorem i23 {e : Ex} (hs : Small e) : (iF 23 [agE e] = 0 ↔ iF 45 [agE e, .int .i64 1, .int .i64 0] ≤ 32 ∧ pF 46 [agE e] = false) ∧ (iF 23 [agE e] ≠ 0 → iF 23 [agE e] = 13 ∨ Eb (iF 23 [agE e])) := by
  have : Tot (dX 23 [agE e] [] .plain) fun o => ∃ n, o = .ret (.int .i64 n) [] .plain ∧ (n = 0 ↔ iF 45 [agE e, .int .i64 1, .int .i64 0] ≤ 32 ∧ pF 46 [agE e] = false) ∧ (n ≠ 0 → n = 13 ∨ Eb n) := by
    refine denA_tot 0 (inlK_le (u23b_le hs) (fun f hf => by have hf : (f == 42 || f == 43 || f == 56) = true := hf; simp only [Bool.or_eq_true, beq_iff_eq] at hf; rcases hf with (rfl | rfl) | rfl <;> rfl) 3) rfl (by kernel_rfl) ?_
    rw [b23]
    obtain ⟨_, hg, hp⟩ := q46_val (f46_tot e hs)
    refine Tot.chk ⟨rfl, rfl, rfl⟩ (Tot.cond (fun h1 => Tot.some ⟨13, rfl, ⟨fun h => (by cases h), fun h => ?_⟩, fun _ => .inl rfl⟩) fun h1 => Tot.chk ⟨rfl, rfl, rfl⟩ (Tot.cond (fun hc => Tot.some ⟨_, rfl, ⟨fun h => absurd h (hp hc), fun h => ?_⟩, fun _ => .inr ((ok46 hs).1 hc)⟩) fun hc => Tot.some ⟨0, rfl, ⟨fun _ => ⟨?_, hc⟩, fun _ => rfl⟩, fun h => absurd rfl h⟩))
    · have : decide (iF 45 [agE e, .int .i64 1, .int .i64 0] ≤ 32) = true := decide_eq_true h.1
      rw [this] at h1
      cases h1
    · rw [hc] at h; cases h.2
    · have : (!(decide (iF 45 [agE e, .int .i64 1, .int .i64 0] ≤ 32)) && true) = false := h1
      simpa using this
  obtain ⟨o, h, n, rfl, hn⟩ := this
  have : iF 23 [agE e] = n := by simp only [iF, h]
  rw [this]; exact hn
end Go.Proofs

/- FoldLifts: the plain law. -/
namespace Go.Proofs
open Go.Den
set_option maxRecDepth 100000
def zz : List UInt8 := [122, 122, 95, 110, 101, 119]
def nam (s : List UInt8) (e : Ex) : Bool := (List.ofFn fun j : Fin e.kids.length => nam s (e.kids.get j)).any id || e.name == s
  termination_by SizeOf.sizeOf e
  decreasing_by exact kid_lt e j
def nmE (s : List UInt8) : Ex := .mk 2 0 [] s 0 0 []
def Ex.swap (e : Ex) (k : Nat) (x : Ex) : Ex := .mk e.kind e.op e.mod e.name e.vt e.vb (e.kids.set k x)
def wayK (w : Bool) (n : Nat) : Nat := cond w (n - 1) 0
def lift (s : List UInt8) : List Bool → Ex → Ex × Ex
  | [], e => (nmE s, e)
  | w :: way, e => if h : wayK w e.kids.length < e.kids.length then
      (e.swap (wayK w e.kids.length) (lift s way (e.kids.get ⟨_, h⟩)).1, (lift s way (e.kids.get ⟨_, h⟩)).2) else (nmE s, e)
theorem swap_len {e : Ex} {k : Nat} {x : Ex} : (e.swap k x).kids.length = e.kids.length := by
  show (e.kids.set k x).length = _
  simp
theorem swap_get {e : Ex} {k : Nat} {x : Ex} {j : Nat} (h : j < (e.swap k x).kids.length) (h' : j < e.kids.length) : (e.swap k x).kids.get ⟨j, h⟩ = if k = j then x else e.kids.get ⟨j, h'⟩ := by
  show (e.kids.set k x)[j]'(by simpa using h') = _
  rw [List.getElem_set]
  rfl
theorem swap_as {e : Ex} {k : Nat} {x : Ex} : (e.swap k x).as e := ⟨rfl, rfl⟩
theorem swap_small {e : Ex} {k : Nat} {x : Ex} (hs : Small e) (hx : Small x) : Small (e.swap k x) := by
  cases hs with
  | mk e hm hn hl hk =>
    refine .mk _ hm hn (by rw [swap_len]; exact hl) fun j => ?_
    have h' : j.1 < e.kids.length := Nat.lt_of_lt_of_eq j.2 swap_len
    rw [show j = ⟨j.1, j.2⟩ from rfl, swap_get j.2 h']
    split
    · exact hx
    · exact hk _
theorem Small.kid {e : Ex} (h : Small e) (j) : Small (e.kids.get j) := by cases h with | mk e _ _ _ hk => exact hk j
theorem nm_small : Small (nmE zz) := .mk _ (by decide) (by decide) (by decide) fun j => j.elim0
theorem lift_small : ∀ (way : List Bool) {e : Ex}, Small e → Small (lift zz way e).1 ∧ Small (lift zz way e).2
  | [], e, hs => ⟨nm_small, hs⟩
  | w :: way, e, hs => by
    unfold lift
    split
    · rename_i h
      have ih := lift_small way (hs.kid ⟨_, h⟩)
      exact ⟨swap_small hs ih.1, ih.2⟩
    · exact ⟨nm_small, hs⟩
theorem own_same {q : Int} (h1 : 1 ≤ q) (h8 : q ≤ 8) {e e' : Ex} (ho : e.op = e'.op) (hm : e.mod = e'.mod) (hn : e.name = e'.name) (ht : e.vt = e'.vt) (hb : e.vb = e'.vb) (hl : e.kids.length = e'.kids.length) : own46 q e = own46 q e' := by
  have hO : ∀ n st k, okL n st k = some okO := fun _ _ _ => rfl
  have hcases : q = 1 ∨ q = 2 ∨ q = 3 ∨ q = 4 ∨ q = 5 ∨ q = 6 ∨ q = 7 ∨ q = 8 := by omega
  rcases hcases with rfl | rfl | rfl | rfl | rfl | rfl | rfl | rfl <;> unfold own46
  · rw [b46_1 okL e, b46_1 okL e', hO, hO, ho, hm, hn, ht, hb, hl]
  · rw [b46_2 okL e, b46_2 okL e', hO, hO, ho, hm, hn, ht, hb, hl]
  · rw [b46_3 okL e, b46_3 okL e', hO, hO, ho, hm, hn, ht, hb, hl]
  · rw [b46_4 okL e, b46_4 okL e', hO, hO, ho, hm, hn, ht, hb, hl]
  · rw [b46_5 okL e, b46_5 okL e', hO, hO, ho, hm, hn, ht, hb, hl]
  · rw [b46_6 okL e, b46_6 okL e', hO, hO, ho, hm, hn, ht, hb, hl]
  · rw [b46_7 okL e, b46_7 okL e', hO, hO, ho, hm, hn, ht, hb, hl]
  · rw [b46_8 okL e, b46_8 okL e', hO, hO, ho, hm, hn, ht, hb, hl]
theorem nm_ok : pF 46 [agE (nmE zz)] = false := by
  have : dX 46 [agE (nmE zz)] [] .plain = some okO := denA_of (k := 40) (by kernel_rfl)
  simp only [pF, this]
theorem swap_ok {e : Ex} {k : Nat} {x : Ex} (hs : Small e) (hx : Small x) (h : pF 46 [agE e] = false) (hp : pF 46 [agE x] = false) : pF 46 [agE (e.swap k x)] = false := by
  obtain ⟨h1, h2⟩ := (ok46 hs).2.1 h
  refine (ok46 (swap_small hs hx)).2.2 ⟨⟨h1.lo, h1.hi, ?_⟩, fun j => ?_⟩
  · rw [← h1.own]
    exact own_same h1.lo h1.hi rfl rfl rfl rfl rfl swap_len
  · have h' : j.1 < e.kids.length := Nat.lt_of_lt_of_eq j.2 swap_len
    rw [show j = ⟨j.1, j.2⟩ from rfl, swap_get j.2 h']
    split
    · exact hp
    · exact h2 _
theorem lift_ok : ∀ (way : List Bool) {e : Ex}, Small e → pF 46 [agE e] = false → pF 46 [agE (lift zz way e).1] = false ∧ pF 46 [agE (lift zz way e).2] = false
  | [], e, hs, h => ⟨nm_ok, h⟩
  | w :: way, e, hs, h => by
    unfold lift
    split
    · rename_i hk
      have ih := lift_ok way (hs.kid ⟨_, hk⟩) (((ok46 hs).2.1 h).2 _)
      exact ⟨swap_ok hs (lift_small way (hs.kid ⟨_, hk⟩)).1 h ih.1, ih.2⟩
    · exact ⟨nm_ok, h⟩
theorem nm_lev : iF 58 [agE (nmE zz)] = 7 := by
  have : dX 58 [agE (nmE zz)] [] .plain = some (.ret (.int .i64 7) [] .plain) := denA_of (k := 40) (by kernel_rfl)
  simp only [iF, this]
theorem wrap_small {n : Int} (h0 : 0 ≤ n) (h1 : n ≤ 100) : IntKind.i64.wrap n = n := by
  simp only [IntKind.wrap, IntKind.bits, IntKind.signed]
  simp
  omega
theorem dep_le {e : Ex} {q d : Int} (h0 : 0 ≤ d) (h1 : d ≤ 33) : 0 ≤ dep e q d ∧ d ≤ dep e q d := by
  unfold dep
  cases decide (iF 58 [agE e] < q) with
  | true => simp only [cond_true]; rw [wrap_small (by omega) (by omega)]; omega
  | false => exact ⟨h0, Int.le_refl d⟩
theorem nm_deep {q d : Int} (hq : q ≤ 7) (hd : d ≤ 32) : iF 45 [agE (nmE zz), .int .i64 q, .int .i64 d] ≤ 32 := by
  rw [deep_iff nm_small]
  have : dep (nmE zz) q d = d := by
    unfold dep
    rw [nm_lev, decide_eq_false (by omega)]
    rfl
  rw [this]
  exact ⟨hd, fun j => j.elim0⟩
theorem lift_deep : ∀ (way : List Bool) {e : Ex} {q d : Int}, Small e → q ≤ 7 → 0 ≤ d → d ≤ 33 → iF 45 [agE e, .int .i64 q, .int .i64 d] ≤ 32 → iF 45 [agE (lift zz way e).1, .int .i64 q, .int .i64 d] ≤ 32
  | [], e, q, d, hs, hq, h0, h1, h => nm_deep hq (by have := ((deep_iff hs q d).1 h).1; have := (dep_le (e := e) (q := q) h0 h1).2; omega)
  | w :: way, e, q, d, hs, hq, h0, h1, h => by
    obtain ⟨g1, g2⟩ := (deep_iff hs q d).1 h
    obtain ⟨d0, d1⟩ := dep_le (e := e) (q := q) h0 h1
    unfold lift
    split
    · rename_i hk
      have hsx := (lift_small way (hs.kid ⟨_, hk⟩)).1
      rw [deep_iff (swap_small hs hsx)]
      have hD : ∀ {x : Ex} {k : Nat}, dep (e.swap k x) q d = dep e q d := fun {x k} => by unfold dep; rw [i58 (swap_as (e := e) (k := k) (x := x))]
      rw [hD]
      have key : ∀ (jn : Nat) (hjn : jn < e.kids.length), iF 45 [agE (if wayK w e.kids.length = jn then (lift zz way (e.kids.get ⟨_, hk⟩)).1 else e.kids.get ⟨jn, hjn⟩), .int .i64 (tF1 59 [agE e, .int .i64 (jn : Nat)]), .int .i64 (IntKind.i64.wrap (dep e q d + tF2 59 [agE e, .int .i64 (jn : Nat)]))] ≤ 32 := by
        intro jn hjn
        have hj : iF 45 [agE (e.kids.get ⟨jn, hjn⟩), .int .i64 (tF1 59 [agE e, .int .i64 (jn : Nat)]), .int .i64 (IntKind.i64.wrap (dep e q d + tF2 59 [agE e, .int .i64 (jn : Nat)]))] ≤ 32 := g2 ⟨jn, hjn⟩
        obtain ⟨t1, t2, t3⟩ := i59_le e (jn : Nat)
        split
        · rename_i hkj
          subst hkj
          refine lift_deep way (hs.kid ⟨_, hk⟩) t1 ?_ ?_ hj
          · rw [wrap_small (by omega) (by omega)]; omega
          · rw [wrap_small (by omega) (by omega)]; omega
        · exact hj
      refine ⟨g1, fun j => ?_⟩
      have h' : j.1 < e.kids.length := Nat.lt_of_lt_of_eq j.2 swap_len
      have := key j.1 h'
      unfold dk'
      rw [i59a swap_as, i59b swap_as, show j = ⟨j.1, j.2⟩ from rfl, swap_get j.2 h']
      exact this
    · exact nm_deep hq (by omega)
/-! values -/
theorem nam_iff {s : List UInt8} {e : Ex} : nam s e = false ↔ e.name ≠ s ∧ ∀ j, nam s (e.kids.get j) = false := by
  rw [nam]
  simp only [Bool.or_eq_false_iff, List.any_eq_false, beq_eq_false_iff_ne, ne_eq]
  constructor
  · rintro ⟨h1, h2⟩
    refine ⟨h2, fun j => ?_⟩
    have := h1 (nam s (e.kids.get j)) (List.mem_ofFn.2 ⟨j, rfl⟩)
    simpa using this
  · rintro ⟨h1, h2⟩
    refine ⟨fun x hx => ?_, h1⟩
    obtain ⟨j, rfl⟩ := List.mem_ofFn.1 hx
    rw [h2 j]
    simp
def oneZ (l : List Con) (t b : Int) : List Con := l ++ [⟨[], zz, t, b⟩]
theorem look_nm {l : List Con} {t b : Int} {y : Ex} (h : y.name ≠ zz) : look (oneZ l t b) y = look l y := by
  unfold look oneZ
  have : ([⟨[], zz, t, b⟩] : List Con).find? (hit y) = none := by
    rw [List.find?_eq_none]
    intro c hc
    rw [List.mem_singleton.1 hc]
    unfold hit
    simp only [Bool.and_eq_true, beq_iff_eq]
    exact fun h' => h h'.2.symm
  rw [List.find?_append, this]
  simp
theorem look_zz {l : List Con} {t b : Int} (h : ∀ c ∈ l, c.name ≠ zz) : look (oneZ l t b) (nmE zz) = some (t, b) := by
  unfold look oneZ
  have : l.find? (hit (nmE zz)) = none := by
    rw [List.find?_eq_none]
    intro c hc
    unfold hit
    simp only [Bool.and_eq_true, beq_iff_eq]
    exact fun h' => h c hc h'.2
  rw [List.find?_append, this]
  simp [hit, nmE, Ex.mod, Ex.name]
theorem wor_nm {l : List Con} {t b : Int} : ∀ (n : Nat) (y : Ex), SizeOf.sizeOf y ≤ n → nam zz y = false → wor (look (oneZ l t b)) y = wor (look l) y := by
  intro n
  induction n with
  | zero => intro y h; cases y; simp at h
  | succ n ih =>
    intro y h hn
    obtain ⟨h1, h2⟩ := nam_iff.1 hn
    rw [wor.eq_1 _ y, wor.eq_1 _ y, look_nm h1]
    have hk : ∀ j, wor (look (oneZ l t b)) (y.kids.get j) = wor (look l) (y.kids.get j) := fun j => ih _ (by have := kid_lt y j; omega) (h2 j)
    simp only [hk]
theorem wor_lift {l : List Con} {t b : Int} (hl : ∀ c ∈ l, c.name ≠ zz) (hb : ri t b) : ∀ (way : List Bool) {e : Ex}, nam zz e = false → wor (look l) (lift zz way e).2 = .val t b → wor (look (oneZ l t b)) (lift zz way e).1 = wor (look l) e := by
  have hz : wor (look (oneZ l t b)) (nmE zz) = .val t b := by
    rw [wor, look_zz hl]
    show namW (some (t, b)) = _
    show cond (!bF 18 [vl t b]) (Wr.err 22) (Wr.val t b) = _
    rw [show bF 18 [vl t b] = true from hb]
    rfl
  intro way
  induction way with
  | nil => intro e hn h; exact hz.trans h.symm
  | cons w way ih =>
    intro e hn h
    by_cases hk : wayK w e.kids.length < e.kids.length
    · have el : lift zz (w :: way) e = (e.swap (wayK w e.kids.length) (lift zz way (e.kids.get ⟨_, hk⟩)).1, (lift zz way (e.kids.get ⟨_, hk⟩)).2) := by rw [lift, dif_pos hk]
      rw [el] at h ⊢
      simp only at h ⊢
      obtain ⟨h1, h2⟩ := nam_iff.1 hn
      have ihk := ih (h2 ⟨_, hk⟩) h
      generalize hx : (lift zz way (e.kids.get ⟨wayK w e.kids.length, hk⟩)).1 = x at ihk
      generalize hkk : wayK w e.kids.length = k at hk ihk
      rw [wor.eq_1 (look (oneZ l t b)) (e.swap k x), wor.eq_1 (look l) e]
      have hkid : ∀ j (a : j < (e.swap k x).kids.length) (a' : j < e.kids.length), wor (look (oneZ l t b)) ((e.swap k x).kids.get ⟨j, a⟩) = wor (look l) (e.kids.get ⟨j, a'⟩) := by
        intro j a a'
        rw [swap_get a a']
        split
        · rename_i hkj
          subst hkj
          exact ihk
        · exact wor_nm _ _ (Nat.le_refl _) (h2 _)
      have hlk : look (oneZ l t b) (e.swap k x) = look l e := (look_nm (y := e.swap k x) h1).trans rfl
      rw [hlk]
      have e1 : (if h : 0 < (e.swap k x).kids.length then unW (e.swap k x).op (wor (look (oneZ l t b)) ((e.swap k x).kids.get ⟨0, h⟩)) else Wr.err 0) =
          if h : 0 < e.kids.length then unW e.op (wor (look l) (e.kids.get ⟨0, h⟩)) else .err 0 := by
        by_cases h0 : 0 < e.kids.length
        · rw [dif_pos h0, dif_pos (by rw [swap_len]; exact h0), hkid 0 _ h0]; rfl
        · rw [dif_neg h0, dif_neg (by rw [swap_len]; exact h0)]
      have e2 : (if h : 1 < (e.swap k x).kids.length then binW (e.swap k x).op (wor (look (oneZ l t b)) ((e.swap k x).kids.get ⟨1, h⟩)) (wor (look (oneZ l t b)) ((e.swap k x).kids.get ⟨0, by omega⟩)) else Wr.err 0) =
          if h : 1 < e.kids.length then binW e.op (wor (look l) (e.kids.get ⟨1, h⟩)) (wor (look l) (e.kids.get ⟨0, by omega⟩)) else .err 0 := by
        by_cases h0 : 1 < e.kids.length
        · rw [dif_pos h0, dif_pos (by rw [swap_len]; exact h0), hkid 1 _ h0, hkid 0 _ (by omega)]; rfl
        · rw [dif_neg h0, dif_neg (by rw [swap_len]; exact h0)]
      rw [e1, e2]
      rfl
    · have el : lift zz (w :: way) e = (nmE zz, e) := by rw [lift, dif_neg hk]
      rw [el] at h ⊢
      exact hz.trans h.symm
end Go.Proofs

/- FoldLifts: the plain law, joined. -/
namespace Go.Proofs
open Go.Den
set_option maxRecDepth 100000
inductive Lit : Ex → Prop
  | mk (e : Ex) : (e.kind = 1 → ri e.vt e.vb) → (∀ j, Lit (e.kids.get j)) → Lit e
theorem cond_pan {c : Bool} {n : Int} {r : R} (h : cond c (some (pnO n)) r = some okO) : r = some okO := by
  cases c with
  | true => cases h
  | false => exact h
theorem own_lit {e : Ex} (h : own46 1 e = some okO) : ri e.vt e.vb := by
  refine ri_lit ?_
  have hO : ∀ n st k, okL n st k = some okO := fun _ _ _ => rfl
  unfold own46 at h
  rw [b46_1, hO] at h
  cases hb : bF 61 [vl e.vt e.vb] with
  | true => rfl
  | false =>
    exfalso
    unfold vl at hb
    rw [hb] at h
    have h := cond_pan (cond_pan h)
    cases h
theorem lit {e : Ex} (hs : Small e) (h : pF 46 [agE e] = false) : Lit e := by
  induction hs with
  | mk e hm hn hl hk ih =>
    obtain ⟨h1, h2⟩ := (ok46 (.mk e hm hn hl hk)).2.1 h
    refine .mk e (fun h1' => ?_) fun j => ih j (h2 j)
    have := h1.own
    rw [h1'] at this
    exact own_lit this
theorem mus_ri {t b c t' b' : Int} (hr : c = 0 → ri t b) (h : musW t b c = .val t' b') : ri t' b' := by
  unfold musW at h
  cases hc : c != 0 with
  | true => rw [hc] at h; cases h
  | false =>
    rw [hc] at h
    cases h
    exact hr (by simpa using hc)
theorem wor_ri {lk : Ex → Option (Int × Int)} {e : Ex} (h : Lit e) : ∀ {t b : Int}, wor lk e = .val t b → ri t b := by
  induction h with
  | mk e h1 hk ih =>
    intro t b h
    rw [wor] at h
    cases k1 : e.kind == 1 with
    | true => rw [k1] at h; cases h; exact h1 (by simpa using k1)
    | false =>
    rw [k1] at h
    simp only [cond_false] at h
    cases k2 : (e.kind == 2 || e.kind == 3) with
    | true =>
      rw [k2] at h
      simp only [cond_true] at h
      unfold namW at h
      split at h
      · cases h
      · rename_i t' b' _
        cases hb : bF 18 [vl t' b'] with
        | true => rw [hb] at h; cases h; exact hb
        | false => rw [hb] at h; cases h
    | false =>
    rw [k2] at h
    simp only [cond_false] at h
    cases k6 : e.kind == 6 with
    | true =>
      rw [k6] at h
      simp only [cond_true] at h
      split at h
      · unfold unW at h
        split at h
        · cases h
        · exact mus_ri (rt_f (rt50 _ _ _)) h
      · cases h
    | false =>
    rw [k6] at h
    simp only [cond_false] at h
    cases k7 : e.kind == 7 with
    | true =>
      rw [k7] at h
      simp only [cond_true] at h
      split at h
      · rename_i hl
        have ih0 := @ih ⟨0, by omega⟩
        generalize wor lk (e.kids.get ⟨0, by omega⟩) = x at h ih0
        generalize wor lk (e.kids.get ⟨1, hl⟩) = y at h
        have hgo : ∀ {op ta ba : Int}, binW.go op y ta ba = .val t b → ri t b := by
          intro op ta ba hg
          unfold binW.go at hg
          split at hg
          · cases hg
          · exact mus_ri (rt_f (rt8 _ _ _ _ _)) hg
        cases x with
        | err n => cases h
        | val ta ba =>
          rw [binW_val] at h
          cases c1 : (e.op == 12 || e.op == 13) with
          | true =>
            rw [c1] at h
            simp only [cond_true] at h
            cases c2 : ta != 3 with
            | true => rw [c2] at h; cases h
            | false =>
              rw [c2] at h
              simp only [cond_false] at h
              cases c3 : ((ba == 1) == (e.op == 13)) with
              | true => rw [c3] at h; cases h; exact ih0 rfl
              | false => rw [c3] at h; exact hgo h
          | false => rw [c1] at h; exact hgo h
      · cases h
    | false => rw [k7] at h; cases h
theorem mus_ne {t b c : Int} : musW t b c ≠ .err 0 := by
  unfold musW
  cases hc : c != 0 with
  | true =>
    intro h
    simp only [cond_true, Wr.err.injEq] at h
    exact i22 (by simpa using hc) h
  | false => intro h; cases h
theorem wor_ne {lk : Ex → Option (Int × Int)} {e : Ex} (h : Good e) : wor lk e ≠ .err 0 := by
  induction h with
  | mk e g2 g3 g6 g7 hk ih =>
    intro h
    rw [wor] at h
    cases k1 : e.kind == 1 with
    | true => rw [k1] at h; cases h
    | false =>
    rw [k1] at h
    simp only [cond_false] at h
    cases k2 : (e.kind == 2 || e.kind == 3) with
    | true =>
      rw [k2] at h
      simp only [cond_true] at h
      unfold namW at h
      split at h
      · cases h
      · rename_i t' b' _
        cases hb : bF 18 [vl t' b'] with
        | true => rw [hb] at h; cases h
        | false => rw [hb] at h; cases h
    | false =>
    rw [k2] at h
    simp only [cond_false] at h
    cases k6 : e.kind == 6 with
    | true =>
      rw [k6] at h
      simp only [cond_true] at h
      have := g6 (by simpa using k6)
      rw [dif_pos (by omega)] at h
      have ih0 := ih ⟨0, by omega⟩
      generalize wor lk (e.kids.get ⟨0, by omega⟩) = x at h ih0
      cases x with
      | err n => cases h; exact ih0 rfl
      | val t b => exact mus_ne h
    | false =>
    rw [k6] at h
    simp only [cond_false] at h
    cases k7 : e.kind == 7 with
    | true =>
      rw [k7] at h
      simp only [cond_true] at h
      have hl := g7 (by simpa using k7)
      rw [dif_pos (by omega)] at h
      have ih0 := ih ⟨0, by omega⟩
      have ih1 := ih ⟨1, by omega⟩
      generalize wor lk (e.kids.get ⟨0, by omega⟩) = x at h ih0
      generalize wor lk (e.kids.get ⟨1, by omega⟩) = y at h ih1
      have hgo : ∀ {op ta ba : Int}, binW.go op y ta ba ≠ .err 0 := by
        intro op ta ba hg
        unfold binW.go at hg
        split at hg
        · cases hg; exact ih1 rfl
        · exact mus_ne hg
      cases x with
      | err n => cases h; exact ih0 rfl
      | val ta ba =>
        rw [binW_val] at h
        cases c1 : (e.op == 12 || e.op == 13) with
        | true =>
          rw [c1] at h
          simp only [cond_true] at h
          cases c2 : ta != 3 with
          | true => rw [c2] at h; cases h
          | false =>
            rw [c2] at h
            simp only [cond_false] at h
            cases c3 : ((ba == 1) == (e.op == 13)) with
            | true => rw [c3] at h; cases h
            | false => rw [c3] at h; exact hgo h
        | false => rw [c1] at h; exact hgo h
    | false => rw [k7] at h; cases h
theorem good {e : Ex} (hs : Small e) (h : pF 46 [agE e] = false) : Good e := (q46_val (f46_tot e hs)).2.1 h
/-- a part that has a value may stand under a new constant's name -/
theorem lifts_law {e : Ex} {l : List Con} {way : List Bool} (hs : Small e) (hn : nam zz e = false) (hl : ∀ c ∈ l, c.name ≠ zz)
    (h13 : (evl (look l) e).2.2 ≠ 13) (h1 : (evl (look l) e).2.2 ≠ 1) (h12 : (evl (look l) e).2.2 ≠ 12) (h3 : (evl (look l) e).2.2 ≠ 3) (hg : (evl (look l) (lift zz way e).2).2.2 = 0) :
    evl (look (oneZ l (evl (look l) (lift zz way e).2).1 (evl (look l) (lift zz way e).2).2.1)) (lift zz way e).1 = evl (look l) e := by
  obtain ⟨hs1, hs2⟩ := lift_small way hs
  have key : ∀ {lk : Ex → Option (Int × Int)} {x : Ex}, Small x → (iF 23 [agE x] ≠ 0 → evl lk x = (0, 0, iF 23 [agE x])) ∧ (iF 23 [agE x] = 0 → evl lk x = match wor lk x with | .err n => (0, 0, n) | .val t b => (t, b, 0)) := by
    intro lk x _
    unfold evl
    refine ⟨fun h => ?_, fun h => ?_⟩
    · have : (iF 23 [agE x] != 0) = true := by simpa using h
      rw [this]; rfl
    · rw [h]; rfl
  have he : iF 23 [agE e] = 0 := by
    refine Classical.byContradiction fun h => ?_
    rw [(key hs).1 h] at h13 h1 h12 h3
    rcases (i23 hs).2 h with h' | h' | h' | h'
    · exact h13 h'
    · exact h1 h'
    · exact h3 h'
    · exact h12 h'
  obtain ⟨hd, hok⟩ := (i23 hs).1.1 he
  obtain ⟨ok1, ok2⟩ := lift_ok way hs hok
  have hx : iF 23 [agE (lift zz way e).1] = 0 := (i23 hs1).1.2 ⟨lift_deep way hs (by decide) (by decide) (by decide) hd, ok1⟩
  have hp : iF 23 [agE (lift zz way e).2] = 0 := by
    refine Classical.byContradiction fun h => ?_
    rw [(key hs2).1 h] at hg
    exact h hg
  rw [(key hs2).2 hp] at hg ⊢
  cases hw : wor (look l) (lift zz way e).2 with
  | err n =>
    rw [hw] at hg
    simp only at hg
    subst hg
    exact absurd hw (wor_ne (good hs2 ok2))
  | val t b =>
    simp only
    have hr : ri t b := wor_ri (lit hs2 ok2) hw
    rw [(key hs1).2 hx, (key hs).2 he, wor_lift hl hr way hn hw]
end Go.Proofs
