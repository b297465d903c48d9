/- FoldLifts: its functions. -/
import Derived.Test.YtndanoiaheknaaaDenEd
set_option linter.unusedSimpArgs false
set_option linter.unusedVariables false
namespace Go.Proofs
open Go.Den
set_option maxRecDepth 100000
theorem dL_told {f : FuncId} {args : List AV} {h : List Den.Obj} {ps : PS} {o : Out} (hf : extL f = some fun f args h ps => dX f args h ps) (e : dX f args h ps = some o) : dL f args h ps = some o := by
  refine denA_of (k := 1) ?_
  simp only [den, hf]
  exact e
/-! names -/
theorem noCallL_le : CallLeK noCall dL := fun _ _ _ _ _ _ h => by cases h
theorem u11_le {e : Ex} {s : List UInt8} (ih : ∀ k ∈ e.kids, dL 11 [agE k, .str s] [] .plain = some (.ret (.bool (nam s k)) [] .plain)) : CallLeK (u11 e s) dL := by
  intro f args h ps kk o x
  unfold u11 at x
  split at x
  · split at x
    · obtain ⟨k, ⟨hk, rfl, rfl, rfl, rfl⟩, x'⟩ := pickX_some x
      exact ⟨_, x', ih k hk⟩
    · cases x
  · cases x
theorem lp11 (e : Ex) (s : List UInt8) (hl : e.kids.length < 1000000000) (hle : CallLeK (u11 e s) dL) :
    Tot (codeD Try.prog polL (bindK dL) (e.kids.length + 1) 11 (.loop (Code.part (bodyOf Try.prog 11) [1, 0, 1, 0, 0])) (S11 e 0 s) (kBody Try.prog polL (u11 e s) (lpR Try.prog polL dL (e.kids.length + 1) 11 (loopsOf (bodyOf Try.prog 11))) 11 [1, 0, 1, 0] 0 .plain))
      (· = .ret (.bool (nam s e)) [] .plain) := by
  refine loop_tot (α := Unit) (calls := fun _ => u11 e s) (fun _ => hle) (keep := false) rfl (inner := noLoops) no_loops
    (fun i _ => S11 e i s) (fun i _ => ∀ j : Fin e.kids.length, j.1 < i → nam s (e.kids.get j) = false) e.kids.length (Nat.lt_succ_self _) () (fun j h => by omega) ?_ (H := 1) rfl ?_
  · show _ = _
    kernel_rfl
  · intro i _ hi hI K hK hE
    rw [r11]
    by_cases hlt : i < e.kids.length
    · have h1 : decide ((i : Int) < e.kids.length) = true := by simpa using hlt
      have h2 : (0 : Int) ≤ i ∧ (i : Int).toNat < e.kids.length := by omega
      rw [h1, cond_true]
      refine Tot.dite h2 (Tot.pickX ⟨e.kids.get ⟨(i : Int).toNat, h2.2⟩, List.get_mem .., agS _, rfl, rfl, rfl⟩ ?_)
      rintro x ⟨_, hx, _⟩
      have hx := kid_get (e := e) (x := x) (j := (i : Int).toNat) (h := h2.2) hx
      subst hx
      refine Tot.cond (fun hc => ?_) fun hc => ?_
      · rw [hE _ _ (by simp)]
        refine ⟨_, q11 _ e true s, ?_⟩
        have : nam s e = true := by
          rw [nam, Bool.or_eq_true]
          left
          exact List.any_eq_true.2 ⟨true, List.mem_ofFn.2 ⟨⟨(i : Int).toNat, h2.2⟩, hc⟩, rfl⟩
        rw [this]
      · refine hK _ () hlt (fun j hj => ?_) ?_
        · by_cases hji : j.1 = i
          · have : j = ⟨(i : Int).toNat, h2.2⟩ := Fin.ext (by simpa using hji)
            rw [this]; exact hc
          · exact hI j (by omega)
        · rw [wrap_succ (by omega)]
          show _ = _
          kernel_rfl
    · have : i = e.kids.length := by omega
      subst this
      have h1 : decide ((e.kids.length : Int) < e.kids.length) = false := by simp
      rw [h1, cond_false, hE _ _ (by simp)]
      have := e11 (lpR Try.prog polL dL (e.kids.length + 1) 11 (loopsOf (bodyOf Try.prog 11))) e e.kids.length s
      unfold S11e at this
      rw [h1] at this
      refine ⟨_, this, ?_⟩
      have : nam s e = (e.name == s) := by
        rw [nam]
        have : (List.ofFn fun j : Fin e.kids.length => nam s (e.kids.get j)).any id = false := by
          rw [List.any_eq_false]
          intro x hx
          obtain ⟨j, rfl⟩ := List.mem_ofFn.1 hx
          rw [hI j j.2]
          simp
        rw [this]
        rfl
      rw [this]
theorem v11 (s : List UInt8) {e : Ex} (hs : Small e) : dL 11 [agE e, .str s] [] .plain = some (.ret (.bool (nam s e)) [] .plain) := by
  induction hs with
  | mk e hm hn hl _ ih =>
    have hle : CallLeK (u11 e s) dL := u11_le fun k hk => by
      obtain ⟨j, rfl⟩ := List.get_of_mem hk
      exact ih j
    refine Tot.of_eq (denA_tot (e.kids.length + 1) hle rfl (by kernel_rfl) ?_)
    rw [b11]
    exact lpR_tot (by kernel_rfl) (lp11 e s hl hle)
/-! the constants, with a right to grow -/
theorem lp10L (e : Ex) (l : List Con) (hl : l.length < 1000000000) {out : Out} {k : Den.Exit → St → R}
    (hk : k (.exit 0) ⟨(S10e (conG 1 l) (conL l) l.length l.length l.length).T, ⟨[.var (eC e), .tok l.length], [], .plain⟩⟩ = some out) :
    codeD Try.prog polL (bindK dL) (l.length + 1) 10 (.loop (Code.part (bodyOf Try.prog 10) [1, 1, 0, 1, 0, 0])) ⟨(S10 (nilSl 4) (conL l) 0 0).T, ⟨[.var (eC e)], [], .plain⟩⟩ k = some out := by
  refine loop_rounds noCallL_le (keep := false) rfl (inner := noLoops) no_loops (fun i => ⟨(S10 (conG 1 (l.take i)) (conL l) i (l.take i).length).T, ⟨[.var (eC e), .tok (l.take i).length], [], .plain⟩⟩) l.length (by omega) ?_ (H := 2) rfl ?_ ?_
  · rw [List.take_zero, conG_nil]
    show _ = _
    kernel_rfl
  · intro i hi K hK
    have hlen : (l.take i).length = i := by simp; omega
    rw [r10L]
    have h1 : decide ((i : Int) < l.length) = true := by simpa using hi
    have h2 : (0 : Int) ≤ i ∧ (i : Int).toNat < l.length := by omega
    have h3 : decide ((l.take i).length + 1 ≤ 70368744177664) = true := by simp only [hlen]; simp; omega
    have h4 : decide (((l.take i).length + 1) * Try.prog.bytesOf 45 ≤ 70368744177664) = true := by rw [bytes45, hlen]; simp; omega
    rw [h1, cond_true, dif_pos h2, dif_pos h2, dif_pos h2]
    simp only [h3, h4, cond_true, Bool.and_self, beq_self_eq_true]
    apply hK
    rw [wrap_succ (by omega)]
    have hsl := sl_app conR (z := 4) (t := .id 1) (l.take i) (l.get ⟨i, hi⟩)
      (g := fun q => List.map purify (rowIn [.str [], .str [], .int .i64 0, .int .u64 0] q.1 [(0, [.str (l.get ⟨i, hi⟩).mod, .str (l.get ⟨i, hi⟩).name, .int .i64 (l.get ⟨i, hi⟩).t, .int .u64 (l.get ⟨i, hi⟩).b])])) rfl
    simp only [conR] at hsl
    simp only [Int.toNat_natCast]
    rw [hsl, ← take_snoc hi]
    have : (l.take i).length + 1 = (l.take (i + 1)).length := by simp; omega
    rw [this]
    show _ = _
    kernel_rfl
  · intro K hK
    rw [r10L, List.take_length]
    have h1 : decide ((l.length : Int) < l.length) = false := by simp
    unfold S10e at hk
    rw [h1] at hk ⊢
    rw [cond_false, hK _ _ (by simp)]
    exact hk
theorem v10L (e : Ex) (l : List Con) (hl : l.length < 1000000000) : dL 10 [conL l] [.var (eC e)] .plain = some (.ret (conG 1 l) [.var (eC e), .tok l.length] .plain) := by
  refine denA_of_loops (l.length + 1) noCallL_le rfl (by kernel_rfl) ?_
  rw [b10L]
  unfold lpR
  rw [show lkC (loopsOf (bodyOf Try.prog 10)) 3 = Code.part (bodyOf Try.prog 10) [1, 1, 0, 1, 0, 0] from by kernel_rfl]
  exact lp10L e l hl (e10L _ (eC e) l)
end Go.Proofs

/- FoldLifts: lifted. -/
namespace Go.Proofs
open Go.Den
set_option maxRecDepth 100000
theorem bytes32 : Try.prog.bytesOf 32 = 88 := by kernel_rfl
theorem u13_le {e : Ex} {s : List UInt8} {tl : List Bool} (ih : ∀ k ∈ e.kids, dL 13 [agE k, boolL tl, .str s] [] .plain = some (.ret (.tup [agE (lift s tl k).1, agE (lift s tl k).2]) [] .plain)) : CallLeK (u13 e s tl) dL := by
  intro f args h ps kk o x
  unfold u13 at x
  split at x
  · split at x
    · obtain ⟨k, ⟨hk, rfl, rfl, rfl, rfl, rfl⟩, x'⟩ := pickX_some x
      exact ⟨_, x', ih k hk⟩
    · cases x
  · cases x
theorem bool_tail (w : Bool) (tl : List Bool) {n : Nat} {g : Fin n → List AV} (hn : n = tl.length) (hg : ∀ i (h1 : i < n) (h2 : i < tl.length), g ⟨i, h1⟩ = [.bool (tl.get ⟨i, h2⟩)]) : AV.sl 1 .no n g = boolL tl :=
  sl_ext hn hg
theorem nm_val (s : List UInt8) : AV.agg [.int .i64 2, .int .i64 0, .str [], .str s, .int .i64 0, .int .u64 0, .sl 7 .no 0 fun i => i.elim0] = agE (nmE s) := by
  have : AV.sl 7 .no 0 (fun i => i.elim0) = kidsE (nmE s) := sl_ext rfl fun i h => absurd h (by simp)
  rw [this]
  rfl
theorem tail_get (w : Bool) (tl : List Bool) (i : Nat) (h1 : Int.toNat 1 + i < (w :: tl).length) (h2 : i < tl.length) : (w :: tl).get ⟨Int.toNat 1 + i, h1⟩ = tl.get ⟨i, h2⟩ := by
  have : (⟨Int.toNat 1 + i, h1⟩ : Fin (w :: tl).length) = ⟨i + 1, by simpa using h2⟩ := Fin.ext (by simp; omega)
  rw [this]
  rfl
theorem rowS_eq (x : Ex) : rowS x = [.int .i64 x.kind, .int .i64 x.op, .str x.mod, .str x.name, .int .i64 x.vt, .int .u64 x.vb, .sl 7 .no x.kids.length fun j => rowS (x.kids.get j)] := by
  have : (fun j => row (x.kids.get j)) = fun j => rowS (x.kids.get j) := funext fun j => row_eq _
  unfold rowS
  rw [this]
  rfl
/-- a row of an array that was written once -/
theorem kids_set {e x : Ex} {k n : Nat} {h : List Den.Obj} {i : Nat} {f : Fin n → List AV} (hn : n = e.kids.length) (hh : h[i]? = some (.arr 7 0 n f))
    (hf : ∀ j (h1 : j < n) (h2 : j < e.kids.length), f ⟨j, h1⟩ = rowS (if k = j then x else e.kids.get ⟨j, h2⟩)) : loose (freezeC 0 h 4 (.sr i 0 0 n)) = kidsE (e.swap k x) := by
  subst hn
  have h1 : 0 + e.kids.length ≤ e.kids.length := by omega
  simp only [freezeC, hh]
  rw [dif_pos h1]
  simp only [beq_self_eq_true, Nat.zero_le, decide_true, Bool.and_self, cond_true, loose, kidsE]
  refine sl_ext swap_len.symm fun j a b => ?_
  have hfj := hf j a a
  simp only [Nat.zero_add]
  rw [hfj, swap_get b a]
  rfl
theorem v13 (s : List UInt8) : ∀ (way : List Bool) {e : Ex}, Small e → way.length < 1000000000 → dL 13 [agE e, boolL way, .str s] [] .plain = some (.ret (.tup [agE (lift s way e).1, agE (lift s way e).2]) [] .plain)
  | [], e, hs, hw => by
    refine Tot.of_eq (denA_tot 0 noCallL_le rfl (by kernel_rfl) ?_)
    rw [b13n]
    refine Tot.cond (fun _ => Tot.some ?_) fun hc => absurd hc (by simp)
    rw [nm_val]
    rfl
  | w :: tl, e, hs, hw => by
    have hle : CallLeK (u13 e s tl) dL := u13_le fun k hk => by
      obtain ⟨j, rfl⟩ := List.get_of_mem hk
      exact v13 s tl (hs.kid j) (by simp at hw; omega)
    have hl : e.kids.length < 1000000000 := by cases hs with | mk e _ _ h _ => exact h
    refine Tot.of_eq (denA_tot 0 hle rfl (by kernel_rfl) ?_)
    cases w with
    | true =>
      rw [b13t]
      generalize hz : IntKind.i64.wrap ((e.kids.length : Int) - 1) = z
      refine Tot.cond (fun hc => Tot.some ?_) fun hc => ?_
      · have h0 : e.kids.length = 0 := by
          cases h : ((e.kids.length : Int) == 0) with
          | true => simpa using h
          | false => rw [h] at hc; cases hc
        have : lift s (true :: tl) e = (nmE s, e) := by
          rw [lift, dif_neg (by rw [h0]; exact Nat.not_lt_zero _)]
        rw [this, nm_val]
        rfl
      · have h0 : 0 < e.kids.length := by
          cases h : ((e.kids.length : Int) == 0) with
          | true => rw [h] at hc; cases hc
          | false =>
            have : ¬ ((e.kids.length : Int) = 0) := by simpa using h
            omega
        have hz' : z = ((e.kids.length - 1 : Nat) : Int) := by
          rw [← hz]
          simp only [IntKind.wrap, IntKind.bits, IntKind.signed]
          simp
          omega
        subst hz'
        clear hz
        have hk : e.kids.length - 1 < e.kids.length := by omega
        have h2 : (0 : Int) ≤ ((e.kids.length - 1 : Nat) : Int) ∧ Int.toNat ((e.kids.length - 1 : Nat) : Int) < e.kids.length := ⟨Int.natCast_nonneg _, hk⟩
        have h3 : (0 : Int) ≤ 1 ∧ (1 : Int) ≤ ((true :: tl).length : Int) ∧ ((true :: tl).length : Int) ≤ ((true :: tl).length : Int) := by simp; omega
        refine Tot.dite h2 (Tot.dite h3 (Tot.pickX ⟨e.kids.get ⟨Int.toNat ((e.kids.length - 1 : Nat) : Int), h2.2⟩, List.get_mem .., agS _, ?_, rfl, rfl, rfl⟩ ?_))
        · exact bool_tail true tl (by simp) fun i a b => by simp only [tail_get true tl i _ b]
        rintro x ⟨_, hx, _⟩
        have hx := kid_get (e := e) (x := x) (j := Int.toNat ((e.kids.length - 1 : Nat) : Int)) (h := h2.2) hx
        subst hx
        have c1 : decide (0 + e.kids.length ≤ 70368744177664) = true := by simp; omega
        have c2 : decide ((0 + e.kids.length) * Try.prog.bytesOf 32 ≤ 70368744177664) = true := by rw [bytes32]; simp; omega
        have c3 : (e.kids.length == 0) = false := beq_eq_false_iff_ne.2 (by omega)
        have c6 : decide ((0 : Int) ≤ ((e.kids.length - 1 : Nat) : Int)) = true := decide_eq_true h2.1
        have c4 : decide (Int.toNat ((e.kids.length - 1 : Nat) : Int) < 0 + e.kids.length) = true := decide_eq_true (by rw [Nat.zero_add]; exact hk)
        have c5 : decide (0 + Int.toNat ((e.kids.length - 1 : Nat) : Int) < 0 + e.kids.length) = true := decide_eq_true (by rw [Nat.zero_add, Nat.zero_add]; exact hk)
        simp only [c1, c2, c3, c4, c5, c6, cond_true, cond_false, Bool.and_self]
        refine Tot.some ?_
        have hlift : lift s (true :: tl) e = (e.swap (e.kids.length - 1) (lift s tl (e.kids.get ⟨e.kids.length - 1, hk⟩)).1, (lift s tl (e.kids.get ⟨e.kids.length - 1, hk⟩)).2) := by
          rw [lift, dif_pos (show wayK true e.kids.length < e.kids.length from hk)]
          rfl
        rw [hlift]
        rw [kids_set (e := e) (k := e.kids.length - 1) (n := 0 + e.kids.length) (x := (lift s tl (e.kids.get ⟨e.kids.length - 1, hk⟩)).1) (Nat.zero_add _) rfl fun j a b => ?_]
        · rfl
        · by_cases hj : j = e.kids.length - 1
          · subst hj
            rw [if_pos (show e.kids.length - 1 = 0 + Int.toNat ((e.kids.length - 1 : Nat) : Int) by simp), if_pos rfl, rowS_eq]
            rfl
          · rw [if_neg (show ¬ j = 0 + Int.toNat ((e.kids.length - 1 : Nat) : Int) by simp; omega), if_neg (fun h => hj h.symm)]
            rfl
    | false =>
      rw [b13f]
      refine Tot.cond (fun hc => Tot.some ?_) fun hc => ?_
      · have h0 : e.kids.length = 0 := by
          cases h : ((e.kids.length : Int) == 0) with
          | true => simpa using h
          | false => rw [h] at hc; cases hc
        have : lift s (false :: tl) e = (nmE s, e) := by
          rw [lift, dif_neg (by rw [h0]; exact Nat.not_lt_zero _)]
        rw [this, nm_val]
        rfl
      · have h0 : 0 < e.kids.length := by
          cases h : ((e.kids.length : Int) == 0) with
          | true => rw [h] at hc; cases hc
          | false =>
            have : ¬ ((e.kids.length : Int) = 0) := by simpa using h
            omega
        have h2 : (0 : Int) ≤ 0 ∧ Int.toNat 0 < e.kids.length := ⟨Int.le_refl 0, h0⟩
        have h3 : (0 : Int) ≤ 1 ∧ (1 : Int) ≤ ((false :: tl).length : Int) ∧ ((false :: tl).length : Int) ≤ ((false :: tl).length : Int) := by simp; omega
        refine Tot.dite h2 (Tot.dite h3 (Tot.pickX ⟨e.kids.get ⟨Int.toNat 0, h2.2⟩, List.get_mem .., agS _, ?_, rfl, rfl, rfl⟩ ?_))
        · exact bool_tail false tl (by simp) fun i a b => by simp only [tail_get false tl i _ b]
        rintro x ⟨_, hx, _⟩
        have hx := kid_get (e := e) (x := x) (j := Int.toNat 0) (h := h2.2) hx
        subst hx
        have c1 : decide (0 + e.kids.length ≤ 70368744177664) = true := by simp; omega
        have c2 : decide ((0 + e.kids.length) * Try.prog.bytesOf 32 ≤ 70368744177664) = true := by rw [bytes32]; simp; omega
        have c3 : (e.kids.length == 0) = false := beq_eq_false_iff_ne.2 (by omega)
        have c4 : decide (Int.toNat 0 < 0 + e.kids.length) = true := by simp; exact h0
        have c5 : decide (0 + Int.toNat 0 < 0 + e.kids.length) = true := by simp; exact h0
        simp only [c1, c2, c3, c4, c5, cond_true, cond_false, Bool.and_self]
        refine Tot.some ?_
        have hlift : lift s (false :: tl) e = (e.swap 0 (lift s tl (e.kids.get ⟨Int.toNat 0, h2.2⟩)).1, (lift s tl (e.kids.get ⟨Int.toNat 0, h2.2⟩)).2) := by
          rw [lift, dif_pos (show wayK false e.kids.length < e.kids.length from h0)]
          rfl
        rw [hlift]
        rw [kids_set (e := e) (k := 0) (n := 0 + e.kids.length) (x := (lift s tl (e.kids.get ⟨Int.toNat 0, h2.2⟩)).1) (Nat.zero_add _) rfl fun j a b => ?_]
        · rfl
        · by_cases hj : j = 0
          · subst hj
            rw [if_pos rfl, if_pos rfl, rowS_eq]
            rfl
          · rw [if_neg hj, if_neg (fun h => hj h.symm)]
            rfl
end Go.Proofs

/- FoldLifts: it returns true. -/
namespace Go.Proofs
open Go.Den
set_option maxRecDepth 100000
theorem uLift_le {e : Ex} {l : List Con} {way : List Bool} (hs : Small e) (hl : l.length < 100000000) (hw : way.length < 1000000000) : CallLeK (uLift e l way) dL := by
  obtain ⟨hs1, hs2⟩ := lift_small way hs
  intro f args h ps kk o x
  unfold uLift at x
  split at x
  · obtain ⟨⟨rfl, rfl, rfl⟩, x'⟩ := chk_some x
    exact ⟨_, x', v10L e l (by omega)⟩
  · obtain ⟨⟨rfl, rfl, rfl⟩, x'⟩ := chk_some x
    exact ⟨_, x', v11 zz hs⟩
  · obtain ⟨⟨rfl, rfl, rfl⟩, x'⟩ := chk_some x
    exact ⟨_, x', v13 zz way hs hw⟩
  · split at x
    · obtain ⟨y, ⟨hy, hy1, rfl, rfl, rfl, rfl⟩, x'⟩ := pickX_some x
      refine ⟨_, x', dL_told rfl (v12 y.1 y.2 ?_ ?_)⟩
      · rcases hy1 with h | h | h <;> rw [h] <;> assumption
      · rcases hy with h | ⟨t, b, h⟩
        · rw [h]; omega
        · rw [h]; simp [oneZ]; omega
    · cases x
  · obtain ⟨⟨rfl, rfl, rfl⟩, x'⟩ := chk_some x
    exact ⟨_, x', dL_told rfl alive9⟩
  · cases x
theorem end4 (loops : LoopK) (e : Ex) (l : List Con) (way : List Bool) (hs : Small e) (hl : l.length < 100000000) (hn : nam zz e = false) (hz : ∀ c ∈ l, c.name ≠ zz) :
    Tot ((kBody Try.prog polL (uLift e l way) loops 4 [1, 1, 1, 0, 1, 0] 0 .plain) (.exit 0) (S4e e l way l.length)) (· = .ret (.bool true) [] .plain) := by
  rw [e4]
  refine Tot.pickX ⟨(e, l), .inl rfl, .inl rfl, rfl, rfl, rfl, rfl⟩ ?_
  rintro ⟨x, L⟩ ⟨_, _, hx, hL, _⟩
  obtain rfl := ag_inj (e := e) (e' := x) hx
  obtain rfl := conL_inj (l := l) (l' := L) hL
  refine Tot.chk ⟨rfl, rfl, rfl⟩ (Tot.pickX ⟨((lift zz way e).2, l), .inl rfl, .inr (.inr rfl), rfl, rfl, rfl, rfl⟩ ?_)
  rintro ⟨x, L⟩ ⟨_, _, hx, hL, _⟩
  obtain rfl := ag_inj (e := (lift zz way e).2) (e' := x) hx
  obtain rfl := conL_inj (l := l) (l' := L) hL
  refine Tot.cond (fun hc => ?_) fun _ => Tot.chk ⟨rfl, rfl, rfl⟩ (Tot.some rfl)
  have hf : (evl (look l) e).2.2 ≠ 13 ∧ (evl (look l) e).2.2 ≠ 1 ∧ (evl (look l) e).2.2 ≠ 12 ∧ (evl (look l) e).2.2 ≠ 3 ∧ (evl (look l) (lift zz way e).2).2.2 = 0 := by
    have hc' : ((cond (cond (cond (cond ((evl (look l) e).2.2 == 13) true ((evl (look l) e).2.2 == 1)) true ((evl (look l) e).2.2 == 12)) true ((evl (look l) e).2.2 == 3)) true ((evl (look l) (lift zz way e).2).2.2 != 0)) == false) = true := hc
    generalize (evl (look l) e).2.2 = v at hc'
    generalize (evl (look l) (lift zz way e).2).2.2 = w at hc'
    cases h1 : v == 13 with
    | true => simp [h1] at hc'
    | false => cases h2 : v == 1 with
      | true => simp [h1, h2] at hc'
      | false => cases h3 : v == 12 with
        | true => simp [h1, h2, h3] at hc'
        | false => cases h4 : v == 3 with
          | true => simp [h1, h2, h3, h4] at hc'
          | false => cases h5 : w != 0 with
            | true => simp [h1, h2, h3, h4, h5] at hc'
            | false => exact ⟨by simpa using h1, by simpa using h2, by simpa using h3, by simpa using h4, by simpa using h5⟩
  have law := lifts_law (way := way) hs hn hz hf.1 hf.2.1 hf.2.2.1 hf.2.2.2.1 hf.2.2.2.2
  have h3 : decide (l.length + 1 ≤ 70368744177664) = true := by simp; omega
  have h4 : decide ((l.length + 1) * Try.prog.bytesOf 45 ≤ 70368744177664) = true := by rw [bytes45]; simp; omega
  have hb : (true && cond (decide (l.length + 1 ≤ 70368744177664)) ((fun _ => decide ((l.length + 1) * Try.prog.bytesOf 45 ≤ 70368744177664)) ()) false) = true := by
    rw [h3]
    show (true && decide ((l.length + 1) * Try.prog.bytesOf 45 ≤ 70368744177664)) = true
    rw [h4]
    rfl
  have hsl := sl_app conR (z := 4) (t := .no) l ⟨[], zz, (evl (look l) (lift zz way e).2).1, (evl (look l) (lift zz way e).2).2.1⟩
    (g := fun q => List.map purify (rowIn [.str [], .str [], .int .i64 0, .int .u64 0] q.1 [(0, [.str [], .str [122, 122, 95, 110, 101, 119], .int .i64 (evl (look l) (lift zz way e).2).1, .int .u64 (evl (look l) (lift zz way e).2).2.1])])) rfl
  refine Tot.chk ⟨rfl, rfl, rfl⟩ (Tot.cond (fun _ => Tot.cond (fun _ => ?_) fun hc => absurd hc (by simp)) fun hc => absurd (hc.symm.trans hb) (by simp))
  refine Tot.pickX ⟨((lift zz way e).1, oneZ l (evl (look l) (lift zz way e).2).1 (evl (look l) (lift zz way e).2).2.1), .inr ⟨_, _, rfl⟩, .inr (.inl rfl), rfl, hsl, rfl, rfl⟩ ?_
  rintro ⟨x, L⟩ ⟨_, _, hx, hL, _⟩
  obtain rfl := ag_inj (e := (lift zz way e).1) (e' := x) hx
  have hL' : conL (oneZ l (evl (look l) (lift zz way e).2).1 (evl (look l) (lift zz way e).2).2.1) = conL L := hsl.symm.trans hL
  obtain rfl := conL_inj hL'
  refine Tot.some ?_
  show Out.ret (.bool (cond ((evl (look (oneZ l (evl (look l) (lift zz way e).2).1 (evl (look l) (lift zz way e).2).2.1)) (lift zz way e).1).2.2 == (evl (look l) e).2.2)
    ((evl (look (oneZ l (evl (look l) (lift zz way e).2).1 (evl (look l) (lift zz way e).2).2.1)) (lift zz way e).1).1 == (evl (look l) e).1 &&
      ((evl (look (oneZ l (evl (look l) (lift zz way e).2).1 (evl (look l) (lift zz way e).2).2.1)) (lift zz way e).1).2.1 == (evl (look l) e).2.1 && true)) false)) [] .plain = _
  rw [law]
  simp only [beq_self_eq_true, Bool.and_self, cond_true]
theorem lp4 (e : Ex) (l : List Con) (way : List Bool) (hs : Small e) (hl : l.length < 100000000) (hw : way.length < 1000000000) (hn : nam zz e = false) :
    Tot (codeD Try.prog polL (bindK dL) (l.length + 1) 4 (.loop (Code.part (bodyOf Try.prog 4) [1, 1, 1, 0, 1, 0, 0])) (S4 e l way 0) (kBody Try.prog polL (uLift e l way) (lpR Try.prog polL dL (l.length + 1) 4 (loopsOf (bodyOf Try.prog 4))) 4 [1, 1, 1, 0, 1, 0] 0 .plain))
      (· = .ret (.bool true) [] .plain) := by
  refine loop_tot (α := Unit) (calls := fun _ => uLift e l way) (fun _ => uLift_le hs hl hw) (keep := false) rfl (inner := noLoops) no_loops
    (fun i _ => S4 e l way i) (fun i _ => ∀ j (h : j < l.length), j < i → (l.get ⟨j, h⟩).name ≠ zz) l.length (Nat.lt_succ_self _) () (fun j h h0 => by omega) ?_ (H := 2) rfl ?_
  · show _ = _
    kernel_rfl
  · intro i _ hi hI K hK hE
    rw [r4]
    by_cases hlt : i < l.length
    · have h1 : decide ((i : Int) < l.length) = true := by simpa using hlt
      have h2 : (0 : Int) ≤ i ∧ (i : Int).toNat < l.length := by omega
      rw [h1, cond_true]
      refine Tot.dite h2 (Tot.cond (fun hc => ?_) fun hc => ?_)
      · refine Tot.chk ⟨rfl, rfl, rfl⟩ ?_
        rw [hE _ _ (by simp)]
        exact ⟨_, q4 _ e l way, rfl⟩
      · refine hK _ () hlt (fun j h hj => ?_) ?_
        · by_cases hji : j = i
          · subst hji
            simp only [Int.toNat_natCast] at hc
            intro he
            rw [he] at hc
            cases hc
          · exact hI j h (by omega)
        · rw [wrap_succ (by omega)]
          show _ = _
          kernel_rfl
    · have : i = l.length := by omega
      subst this
      have h1 : decide ((l.length : Int) < l.length) = false := by simp
      rw [h1, cond_false, hE _ _ (by simp)]
      have := end4 (lpR Try.prog polL dL (l.length + 1) 4 (loopsOf (bodyOf Try.prog 4))) e l way hs hl hn (fun c hc => by
        obtain ⟨j, rfl⟩ := List.get_of_mem hc
        exact hI j.1 j.2 j.2)
      unfold S4e at this
      rw [show decide (l.length < l.length) = false by simp] at this
      exact this
theorem lifts_true (e : Ex) (l : List Con) (way : List Bool) (hs : Small e) (hl : l.length < 100000000) (hw : way.length < 1000000000) : dL 4 [agE e, conL l, boolL way] [] .plain = some (.ret (.bool true) [] .plain) := by
  refine Tot.of_eq (denA_tot (l.length + 1) (uLift_le (l := l) (way := way) hs hl hw) rfl (by kernel_rfl) ?_)
  rw [b4]
  refine Tot.chk ⟨rfl, rfl, rfl⟩ (Tot.chk ⟨rfl, rfl, rfl⟩ (Tot.cond (fun _ => Tot.chk ⟨rfl, rfl, rfl⟩ (Tot.some rfl)) fun hn => ?_))
  exact lpR_tot (by kernel_rfl) (lp4 e l way hs hl hw hn)
end Go.Proofs
