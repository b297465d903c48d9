/- Link: what the numbers of symbols are (no program). -/
import Derived.Test.YtaojlamnfnkdbaaDenKm
set_option linter.unusedSimpArgs false
set_option linter.unusedVariables false
set_option linter.unnecessarySimpa false
namespace Go.Proofs
open Go.Den
set_option maxRecDepth 100000
/-- numbered from nought, of one kind, modules in order, none after m -/
structure Num (k : Int) (a : List Sy) (m : Str) : Prop where
  at_ : ∀ i (h : i < a.length), a[i].kind = k ∧ a[i].ix = (i : Int)
  ord : a.Pairwise fun x y => bytesLess y.mod x.mod = false
  top : ∀ x ∈ a, bytesLess m x.mod = false
theorem Num.add {k : Int} {a : List Sy} {m n : Str} (h : Num k a m) : Num k (a ++ [⟨m, n, k, a.length⟩]) m := by
  refine ⟨fun i hi => ?_, List.pairwise_append.2 ⟨h.ord, List.pairwise_singleton _ _, fun x hx y hy => ?_⟩, fun x hx => ?_⟩
  · by_cases c : i < a.length
    · rw [List.getElem_append_left c]; exact h.at_ i c
    · have e : i = a.length := by simp at hi; omega
      subst e
      simp
  · rw [List.mem_singleton.1 hy]; exact h.top x hx
  · rcases List.mem_append.1 hx with hx | hx
    · exact h.top x hx
    · rw [List.mem_singleton.1 hx]; exact bl_irr _
theorem Num.up {k : Int} {a : List Sy} {m m' : Str} (h : Num k a m) (hm : bytesLess m' m = false) : Num k a m' :=
  ⟨h.at_, h.ord, fun x hx => by
    cases e : bytesLess m' x.mod with
    | false => rfl
    | true =>
      have h1 := h.top x hx
      cases e2 : bytesLess m m' with
      | true => rw [bl_trans e2 e] at h1; cases h1
      | false => rw [bl_tri e2 hm] at h1; rw [h1] at e; cases e⟩
theorem addV_num {a : List Sy} {o : Ob} (h : Num 1 a o.mod) : Num 1 (addV a o) o.mod := by
  unfold addV
  generalize o.vars = l
  induction l generalizing a with
  | nil => exact h
  | cons v l ih => exact ih h.add
theorem addF_num {a : List Sy} {o : Ob} (h : Num 2 a o.mod) : Num 2 (addF a o) o.mod := by
  unfold addF
  generalize o.fns = l
  induction l generalizing a with
  | nil => exact h
  | cons v l ih => exact ih h.add
theorem fold_num {k : Int} {f : List Sy → Ob → List Sy} (hf : ∀ a o, Num k a o.mod → Num k (f a o) o.mod) : ∀ (l : List Ob) (a : List Sy) (m : Str), l.Pairwise (fun x y => bytesLess y.mod x.mod = false) → (∀ o ∈ l, bytesLess o.mod m = false) → Num k a m → ∃ m', Num k (l.foldl f a) m'
  | [], a, m, _, _, ha => ⟨m, ha⟩
  | o :: l, a, m, h, hm, ha => by
    have ⟨h1, h2⟩ := List.pairwise_cons.1 h
    exact fold_num hf l (f a o) o.mod h2 h1 (hf a o (ha.up (hm o (List.mem_cons_self ..))))
theorem bl_nil (s : Str) : bytesLess s [] = false := by cases s <;> rfl
theorem num_nil (k : Int) : Num k [] [] := ⟨fun i h => absurd h (Nat.not_lt_zero _), List.Pairwise.nil, fun x hx => by cases hx⟩
theorem srt_ord (l : List Ob) : (srt l).Pairwise fun x y => bytesLess y.mod x.mod = false := by
  have h := (isort_ok (l.map toRw)).1
  rw [← srt_map] at h
  exact List.pairwise_map.1 h
theorem symV_num (l : List Ob) : ∃ m, Num 1 (symV (srt l)) m := fold_num (fun a o h => addV_num h) _ _ [] (srt_ord l) (fun o _ => bl_nil _) (num_nil 1)
theorem symF_num (l : List Ob) : ∃ m, Num 2 (symF (srt l)) m := fold_num (fun a o h => addF_num h) _ _ [] (srt_ord l) (fun o _ => bl_nil _) (num_nil 2)
end Go.Proofs

/- Link: sorting keeps sums. -/
namespace Go.Proofs
open Go.Den
theorem insR_sum (g : Rw → Nat) (y : Rw) : ∀ l : List Rw, ((insR y l).map g).sum = g y + (l.map g).sum
  | [] => by simp [insR]
  | x :: l => by
    unfold insR
    split
    · simp
    · simp only [List.map_cons, List.sum_cons, insR_sum g y l]
      omega
theorem isort_sum (g : Rw → Nat) (l : List Rw) : ((isort l).map g).sum = (l.map g).sum := by
  have key : ∀ (m o : List Rw), ((m.foldl (fun o y => insR y o) o).map g).sum = (o.map g).sum + (m.map g).sum := by
    intro m
    induction m with
    | nil => intro o; simp
    | cons y m ih =>
      intro o
      rw [List.foldl_cons, ih, insR_sum]
      simp only [List.map_cons, List.sum_cons]
      omega
  have := key l []
  simpa [isort] using this
theorem symV_sum (l : List Ob) : (symV l).length = (l.map fun o => o.vars.length).sum := by
  have key : ∀ (l : List Ob) (a : List Sy), (l.foldl addV a).length = a.length + (l.map fun o => o.vars.length).sum := by
    intro l
    induction l with
    | nil => intro a; simp
    | cons o l ih =>
      intro a
      have : (addV a o).length = a.length + o.vars.length := addV_len ..
      simp only [List.foldl_cons, ih, this, List.map_cons, List.sum_cons]
      omega
  have := key l []
  simpa [symV] using this
theorem symF_sum (l : List Ob) : (symF l).length = (l.map fun o => o.fns.length).sum := by
  have key : ∀ (l : List Ob) (a : List Sy), (l.foldl addF a).length = a.length + (l.map fun o => o.fns.length).sum := by
    intro l
    induction l with
    | nil => intro a; simp
    | cons o l ih =>
      intro a
      have : (addF a o).length = a.length + o.fns.length := addF_len ..
      simp only [List.foldl_cons, ih, this, List.map_cons, List.sum_cons]
      omega
  have := key l []
  simpa [symF] using this
theorem symV_all (l : List Ob) : (symV (srt l)).length = (l.map fun o => o.vars.length).sum := by
  have h := isort_sum (fun r => r.n1) (l.map toRw)
  rw [← srt_map] at h
  rw [symV_sum]
  rw [List.map_map, List.map_map] at h
  exact h
theorem symF_all (l : List Ob) : (symF (srt l)).length = (l.map fun o => o.fns.length).sum := by
  have h := isort_sum (fun r => r.n2) (l.map toRw)
  rw [← srt_map] at h
  rw [symF_sum]
  rw [List.map_map, List.map_map] at h
  exact h
end Go.Proofs

/- Link: LinkNumbers: the second loop. -/
namespace Go.Proofs
open Go.Den
set_option maxRecDepth 100000
theorem sum_take_le {g : Ob → Nat} (l : List Ob) (i : Nat) : ((l.take i).map g).sum ≤ (l.map g).sum := by
  conv => rhs; rw [← List.take_append_drop i l, List.map_append, List.sum_append]
  omega
theorem sum_snoc {g : Ob → Nat} {l : List Ob} {i : Nat} (h : i < l.length) : ((l.take (i + 1)).map g).sum = ((l.take i).map g).sum + g (l.get ⟨i, h⟩) := by
  rw [take_snoc h, List.map_append, List.sum_append]
  simp
theorem tail4 {l : List Ob} {n : Nat} {X Y : Nat} (hl : l.length < 1000000000) (hn : l.length < n) (hX : X = (l.map fun o => o.vars.length).sum) (hY : Y = (l.map fun o => o.fns.length).sum) (hXs : X < 4611686018427387904) (hYs : Y < 4611686018427387904) {lp : LoopK} :
    Tot (codeD Try.prog polK (bindK dK) n 4 (.loop (Code.part (bodyOf Try.prog 4) [1, 1, 1, 1, 1, 0, 1, 0, 0])) (S4b l X Y (0 : Nat)) (kBody Try.prog polK u3 lp 4 [1, 1, 1, 1, 1, 0, 1, 0] 0 .plain)) (· = .ret (.bool true) [] .plain) := by
  refine loop_meas (calls := fun _ : Nat => u3) (fun _ => u3_le) (keep := false) rfl (inner := noLoops) no_loops (fun i => S4b l (X - ((l.take i).map fun o => o.vars.length).sum : Nat) (Y - ((l.take i).map fun o => o.fns.length).sum : Nat) i) (fun i => i ≤ l.length) (fun i => l.length - i) 0 (by omega) (Nat.zero_le _) (by
    show _ = S4b l X Y (0 : Nat)
    kernel_rfl) (H := 0) rfl ?_
  intro i hi K hn' hx
  rw [r4b]
  refine Tot.cond (fun c => ?_) fun c => ?_
  · have c' : i < l.length := by simpa using c
    have gi : (0 : Int) ≤ (i : Int) ∧ (i : Int).toNat < l.length := ⟨by omega, by simpa using c'⟩
    have w1 : IntKind.i64.wrap ((i : Int) + 1) = ((i + 1 : Nat) : Int) := wrap_nat (by omega) (by omega)
    have s1 := sum_snoc (g := fun o => o.vars.length) c'
    have s2 := sum_snoc (g := fun o => o.fns.length) c'
    have t1 := sum_take_le (g := fun o => o.vars.length) l (i + 1)
    have t2 := sum_take_le (g := fun o => o.fns.length) l (i + 1)
    refine Tot.dite gi (Tot.dite gi ?_)
    have w2 : IntKind.i64.wrap (((X - ((l.take i).map fun o => o.vars.length).sum : Nat) : Int) - ((l.get ⟨(i : Int).toNat, gi.2⟩).vars.length : Int)) = ((X - ((l.take (i + 1)).map fun o => o.vars.length).sum : Nat) : Int) := by
      show IntKind.i64.wrap (((X - ((l.take i).map fun o => o.vars.length).sum : Nat) : Int) - ((l.get ⟨i, c'⟩).vars.length : Int)) = _
      exact wrap_nat (by omega) (by omega)
    have w3 : IntKind.i64.wrap (((Y - ((l.take i).map fun o => o.fns.length).sum : Nat) : Int) - ((l.get ⟨(i : Int).toNat, gi.2⟩).fns.length : Int)) = ((Y - ((l.take (i + 1)).map fun o => o.fns.length).sum : Nat) : Int) := by
      show IntKind.i64.wrap (((Y - ((l.take i).map fun o => o.fns.length).sum : Nat) : Int) - ((l.get ⟨i, c'⟩).fns.length : Int)) = _
      exact wrap_nat (by omega) (by omega)
    rw [w1, w2, w3]
    exact hn' _ (i + 1) c' (by omega) rfl
  · have hi' : i = l.length := by
      have : ¬ i < l.length := by simpa using c
      omega
    subst hi'
    rw [hx _ _ (by simp)]
    refine Tot.eq (e4b lp l _ _ l.length) (Tot.some ?_)
    rw [List.take_length, ← hX, ← hY]
    simp
end Go.Proofs

/- Link: LinkNumbers: the first loop. -/
namespace Go.Proofs
open Go.Den
set_option maxRecDepth 100000
/-- what the first loop asks of the symbols -/
structure Row4 (v f : List Sy) : Prop where
  v : ∃ m, Num 1 v m
  f : ∃ m, Num 2 f m
theorem row4 (l : List Ob) : Row4 (symV (srt l)) (symF (srt l)) := ⟨symV_num l, symF_num l⟩
theorem Row4.lo {v f : List Sy} (h : Row4 v f) {i : Nat} (hi : i < (v ++ f).length) (c : i < v.length) : ((v ++ f).get ⟨i, hi⟩).kind = 1 ∧ ((v ++ f).get ⟨i, hi⟩).ix = (i : Int) := by
  obtain ⟨m, hv⟩ := h.v
  simp only [List.get_eq_getElem]
  rw [List.getElem_append_left c]
  exact hv.at_ i c
theorem Row4.hi {v f : List Sy} (h : Row4 v f) {i : Nat} (hi : i < (v ++ f).length) (c : ¬ i < v.length) : ((v ++ f).get ⟨i, hi⟩).kind = 2 ∧ ((v ++ f).get ⟨i, hi⟩).ix = ((i - v.length : Nat) : Int) := by
  obtain ⟨m, hf⟩ := h.f
  simp only [List.get_eq_getElem]
  rw [List.getElem_append_right (by omega)]
  exact hf.at_ _ _
theorem Row4.ord {v f : List Sy} (h : Row4 v f) {i : Nat} (h1 : i < (v ++ f).length) (h2 : i + 1 < (v ++ f).length) (c : i + 1 < v.length ∨ ¬ i < v.length) :
    (bytesLess ((v ++ f).get ⟨i, h1⟩).mod ((v ++ f).get ⟨i + 1, h2⟩).mod || ((v ++ f).get ⟨i, h1⟩).mod == ((v ++ f).get ⟨i + 1, h2⟩).mod) = true := by
  have key : bytesLess ((v ++ f).get ⟨i + 1, h2⟩).mod ((v ++ f).get ⟨i, h1⟩).mod = false := by
    simp only [List.get_eq_getElem]
    rcases c with c | c
    · obtain ⟨m, hv⟩ := h.v
      rw [List.getElem_append_left c, List.getElem_append_left (by omega)]
      exact List.pairwise_iff_getElem.1 hv.ord i (i + 1) (by omega) c (by omega)
    · obtain ⟨m, hf⟩ := h.f
      have hl : (v ++ f).length = v.length + f.length := List.length_append ..
      rw [List.getElem_append_right (by omega), List.getElem_append_right (by omega)]
      exact List.pairwise_iff_getElem.1 hf.ord _ _ (by omega) (by omega) (by omega)
  cases e : bytesLess ((v ++ f).get ⟨i, h1⟩).mod ((v ++ f).get ⟨i + 1, h2⟩).mod with
  | true => rfl
  | false => rw [bl_tri e key]; simp
end Go.Proofs

/- Link: LinkNumbers: the first loop, walked. -/
namespace Go.Proofs
open Go.Den
set_option maxRecDepth 100000
theorem loop4 {l : List Ob} {v f : List Sy} {n : Nat} (hr : Row4 v f) (hs : (v ++ f).length ≤ 1048575 * 1048575) (hn : (v ++ f).length < n) {k : Den.Exit → St → R} {Q : Out → Prop}
    (hk : Tot (k (.exit 0) (S4e l (v ++ f) v.length f.length (v ++ f).length)) Q) :
    Tot (codeD Try.prog polK (bindK dK) n 4 (.loop (Code.part (bodyOf Try.prog 4) [1, 1, 1, 1, 0, 1, 0, 0])) (S4 l (v ++ f) (0 : Nat) (0 : Nat) (0 : Nat)) k) Q := by
  have hl : (v ++ f).length = v.length + f.length := List.length_append ..
  refine loop_meas (calls := fun _ : Nat => u3) (fun _ => u3_le) (keep := false) rfl (inner := noLoops) no_loops (fun i => S4 l (v ++ f) (min i v.length : Nat) (i - v.length : Nat) i) (fun i => i ≤ (v ++ f).length) (fun i => (v ++ f).length - i) 0 (by omega) (Nat.zero_le _) (by
    show _ = S4 l (v ++ f) (min 0 v.length : Nat) (0 - v.length : Nat) (0 : Nat)
    rw [Nat.zero_min, Nat.zero_sub]
    kernel_rfl) (H := 0) rfl ?_
  intro i hi K hn' hx
  rw [r4]
  refine Tot.cond (fun c => ?_) fun c => ?_
  · have c' : i < (v ++ f).length := by
      have := of_decide_eq_true c
      omega
    have gi : (0 : Int) ≤ (i : Int) ∧ (i : Int).toNat < (v ++ f).length := ⟨by omega, c'⟩
    have w1 : IntKind.i64.wrap ((i : Int) + 1) = ((i + 1 : Nat) : Int) := wrap_nat (by omega) (by omega)
    rw [w1]
    by_cases hv : i < v.length
    · have k1 : ((v ++ f).get ⟨(i : Int).toNat, gi.2⟩).kind = 1 := (hr.lo c' hv).1
      have k2 : ((v ++ f).get ⟨(i : Int).toNat, gi.2⟩).ix = (i : Int) := (hr.lo c' hv).2
      have m0 : min i v.length = i := by omega
      have m1 : i - v.length = 0 := by omega
      have n0 : min (i + 1) v.length = i + 1 := by omega
      have n1 : i + 1 - v.length = 0 := by omega
      have bi : ∀ x : Int, (x != x) = false := fun x => by simp
      have y0 : decide (((0 : Nat) : Int) > 0) = false := by simp
      rw [m0, m1, w1]
      have fin := fun st' => hn' st' (i + 1) c' (by omega)
      rw [n0, n1] at fin
      cases i with
      | zero =>
        simp only [dif_pos gi, k1, k2, y0, bi, beq_self_eq_true, cond_true, cond_false, Bool.and_true, show (false == true) = false from rfl, show (false == false) = true from rfl]
        exact fin _ rfl
      | succ i =>
        have c2 : i < (v ++ f).length := by omega
        have w2 : IntKind.i64.wrap (((i + 1 : Nat) : Int) - 1) = (i : Int) := wrap_nat (by omega) (by omega)
        have gp : (0 : Int) ≤ (i : Int) ∧ (i : Int).toNat < (v ++ f).length := ⟨by omega, c2⟩
        have p0 : decide (((i + 1 : Nat) : Int) > 0) = true := decide_eq_true (by omega)
        have k3 : ((v ++ f).get ⟨(i : Int).toNat, gp.2⟩).kind = 1 := (hr.lo c2 (by omega)).1
        have k4 : (bytesLess ((v ++ f).get ⟨(i : Int).toNat, gp.2⟩).mod ((v ++ f).get ⟨((i + 1 : Nat) : Int).toNat, gi.2⟩).mod || ((v ++ f).get ⟨(i : Int).toNat, gp.2⟩).mod == ((v ++ f).get ⟨((i + 1 : Nat) : Int).toNat, gi.2⟩).mod) = true := hr.ord c2 c' (.inl hv)
        rw [w2]
        simp only [dif_pos gi, dif_pos gp, k1, k2, k3, k4, p0, y0, bi, beq_self_eq_true, cond_true, cond_false, Bool.and_true, Bool.not_true, show (true == true) = true from rfl]
        exact fin _ rfl
    · have k1 : ((v ++ f).get ⟨(i : Int).toNat, gi.2⟩).kind = 2 := (hr.hi c' hv).1
      have k2 : ((v ++ f).get ⟨(i : Int).toNat, gi.2⟩).ix = ((i - v.length : Nat) : Int) := (hr.hi c' hv).2
      have m0 : min i v.length = v.length := by omega
      have n0 : min (i + 1) v.length = v.length := by omega
      have n1 : i + 1 - v.length = i - v.length + 1 := by omega
      have bi : ∀ x : Int, (x != x) = false := fun x => by simp
      have w3 : IntKind.i64.wrap (((i - v.length : Nat) : Int) + 1) = ((i - v.length + 1 : Nat) : Int) := wrap_nat (by omega) (by omega)
      have t1 : ((2 : Int) == 1) = false := by decide
      rw [m0, w3]
      have fin := fun st' => hn' st' (i + 1) c' (by omega)
      rw [n0, n1] at fin
      cases i with
      | zero =>
        have p0 : decide (((0 : Nat) : Int) > 0) = false := by simp
        simp only [dif_pos gi, k1, k2, p0, t1, bi, beq_self_eq_true, cond_true, cond_false, Bool.and_true, show (false == true) = false from rfl]
        exact fin _ rfl
      | succ i =>
        have c2 : i < (v ++ f).length := by omega
        have w2 : IntKind.i64.wrap (((i + 1 : Nat) : Int) - 1) = (i : Int) := wrap_nat (by omega) (by omega)
        have gp : (0 : Int) ≤ (i : Int) ∧ (i : Int).toNat < (v ++ f).length := ⟨by omega, c2⟩
        have p0 : decide (((i + 1 : Nat) : Int) > 0) = true := decide_eq_true (by omega)
        rw [w2]
        by_cases hv2 : i < v.length
        · have k3 : ((v ++ f).get ⟨(i : Int).toNat, gp.2⟩).kind = 1 := (hr.lo c2 hv2).1
          have t2 : ((2 : Int) == 1) = false := by decide
          simp only [dif_pos gi, dif_pos gp, k1, k2, k3, p0, t1, bi, beq_self_eq_true, cond_true, cond_false, Bool.and_true, show (true == true) = true from rfl, show (false == true) = false from rfl]
          exact fin _ rfl
        · have k3 : ((v ++ f).get ⟨(i : Int).toNat, gp.2⟩).kind = 2 := (hr.hi c2 hv2).1
          have k4 : (bytesLess ((v ++ f).get ⟨(i : Int).toNat, gp.2⟩).mod ((v ++ f).get ⟨((i + 1 : Nat) : Int).toNat, gi.2⟩).mod || ((v ++ f).get ⟨(i : Int).toNat, gp.2⟩).mod == ((v ++ f).get ⟨((i + 1 : Nat) : Int).toNat, gi.2⟩).mod) = true := hr.ord c2 c' (.inr hv2)
          simp only [dif_pos gi, dif_pos gp, k1, k2, k3, k4, p0, t1, bi, beq_self_eq_true, cond_true, cond_false, Bool.and_true, Bool.not_true, show (true == true) = true from rfl]
          exact fin _ rfl
  · have hi' : i = (v ++ f).length := by
      have := of_decide_eq_false c
      omega
    rw [hx _ _ (by simp)]
    have m0 : min i v.length = v.length := by omega
    have m1 : i - v.length = f.length := by omega
    rw [m0, m1]
    subst hi'
    unfold S4e at hk
    exact hk
end Go.Proofs

/- Link: LinkNumbers is true. -/
namespace Go.Proofs
open Go.Den
set_option maxRecDepth 100000
theorem v4 {l : List Ob} (hl : okL l) : dK 4 [obs l] [] .plain = some (.ret (.bool true) [] .plain) := by
  have hlen := syms_len hl
  have hl2 := hl.2.1
  simp only [MM] at hl2
  generalize hn : (syms l).length + l.length + 1 = n
  refine Tot.of_eq (denA_tot n u3_le rfl (by kernel_rfl) ?_)
  rw [b4]
  refine Tot.chk ⟨rfl, rfl⟩ (Tot.pickX ⟨l, rfl, rfl, rfl, hl⟩ ?_)
  rintro q ⟨he, _, _, _⟩
  obtain rfl := obs_inj he
  refine Tot.pickX ⟨l, rfl, rfl, rfl, hl⟩ ?_
  rintro q ⟨he, _, _, _⟩
  obtain rfl := obs_inj he
  rw [lpR_at (x := Code.part (bodyOf Try.prog 4) [1, 1, 1, 1, 0, 1, 0, 0]) (by kernel_rfl)]
  unfold syms at hlen hn ⊢
  have hla : (symV (srt l) ++ symF (srt l)).length = (symV (srt l)).length + (symF (srt l)).length := List.length_append ..
  refine loop4 (row4 l) hlen (by omega) ?_
  refine Tot.eq (e4 (lpR Try.prog polK dK n 4 (loopsOf (bodyOf Try.prog 4))) l (symV (srt l) ++ symF (srt l)) (symV (srt l)).length (symF (srt l)).length (symV (srt l) ++ symF (srt l)).length) ?_
  rw [lpR_at (x := Code.part (bodyOf Try.prog 4) [1, 1, 1, 1, 1, 0, 1, 0, 0]) (by kernel_rfl)]
  exact tail4 (by omega) (by omega) (symV_all l) (symF_all l) (by omega) (by omega)
end Go.Proofs
