/- Link: the reference's Symbols. -/
import Derived.Test.YtaojlamnfnkdbaaDenKi
set_option linter.unusedSimpArgs false
set_option linter.unusedVariables false
set_option linter.unnecessarySimpa false
namespace Go.Proofs
open Go.Den
set_option maxRecDepth 100000
theorem len1 (x : List Sy) (y : Sy) : (x ++ [y]).length = x.length + 1 := by simp
theorem loop10a {l : List Ob} {a : List Sy} {i n : Nat} (hi : i < l.length) (ho : (l.get ⟨i, hi⟩).vars.length < MM) (ha : a.length ≤ 1099510000000) (hn : (l.get ⟨i, hi⟩).vars.length < n) {k : Den.Exit → St → R} {Q : Out → Prop}
    (hk : ∀ (j : Nat) w, Tot (k (.exit 2) (S10ae l (addV a (l.get ⟨i, hi⟩)) i j w)) Q) : Tot (codeD Try.prog polK (bindK dK) n 10 (.loop (Code.part (bodyOf Try.prog 10) [1, 1, 1, 0, 1, 0, 0, 1, 0, 0, 1, 0, 0])) (S10a l a i (0 : Nat)) k) Q := by
  simp only [MM] at ho
  generalize hg : l.get ⟨i, hi⟩ = o at *
  refine loop_meas (calls := fun _ : Nat => u8) (fun _ => u8_le) (keep := false) rfl (inner := noLoops) no_loops (fun j => S10a l ((o.vars.take j).foldl (addV1 o.mod) a) i j) (fun j => j ≤ o.vars.length) (fun j => o.vars.length - j) 0 (by omega) (Nat.zero_le _) (by
    show _ = S10a l a i (0 : Nat)
    kernel_rfl) (H := 1) rfl ?_
  intro j hj K hn' hx
  have gi : (0 : Int) ≤ (i : Int) ∧ (i : Int).toNat < l.length := ⟨by omega, by simpa using hi⟩
  have hg' : l.get ⟨(i : Int).toNat, gi.2⟩ = o := hg
  have hlen : ((o.vars.take j).foldl (addV1 o.mod) a).length = a.length + j := by rw [addV_len, List.length_take]; omega
  rw [r10a]
  refine Tot.dite gi ?_
  subst hg'
  refine Tot.cond (fun d => ?_) fun d => ?_
  · have d' : j < (l.get ⟨(i : Int).toNat, gi.2⟩).vars.length := by simpa using d
    have gj : (0 : Int) ≤ (j : Int) ∧ (j : Int).toNat < (l.get ⟨(i : Int).toNat, gi.2⟩).vars.length := ⟨by omega, by simpa using d'⟩
    have w1 : IntKind.i64.wrap ((j : Int) + 1) = ((j + 1 : Nat) : Int) := wrap_nat (by omega) (by omega)
    refine Tot.dite gi (Tot.dite gi (Tot.dite gj ?_))
    generalize hg2 : l.get ⟨(i : Int).toNat, gi.2⟩ = o at *
    rw [roomy_ok2 (by omega) bytes31, cond_true, beq_self_eq_true, cond_true, w1]
    refine hn' _ (j + 1) d' (by omega) ?_
    rw [fold_take _ _ d']
    show _ = S10a l ((o.vars.take j).foldl (addV1 o.mod) a ++ [⟨o.mod, (o.vars.get ⟨j, d'⟩).name, 1, ((o.vars.take j).foldl (addV1 o.mod) a).length⟩]) i (j + 1 : Nat)
    unfold S10a
    rw [← sl_snoc syR ((o.vars.take j).foldl (addV1 o.mod) a) ⟨o.mod, (o.vars.get ⟨j, d'⟩).name, 1, ((o.vars.take j).foldl (addV1 o.mod) a).length⟩ (g := fun q8 => (List.map purify (rowIn [(.str []), (.str []), (.int .i64 0), (.int .i64 0)] ((↑q8 : Nat)) [(0, syR ⟨o.mod, (o.vars.get ⟨j, d'⟩).name, 1, ((o.vars.take j).foldl (addV1 o.mod) a).length⟩)]))) rfl, List.length_append]
    rfl
  · generalize hg2 : l.get ⟨(i : Int).toNat, gi.2⟩ = o at *
    have hj' : j = o.vars.length := by
      have : ¬ j < o.vars.length := by simpa using d
      omega
    rw [hx _ _ (by simp)]
    have := hk j (decide ((j : Int) < (o.vars.length : Int)))
    rw [show (o.vars.take j).foldl (addV1 o.mod) a = addV a o by rw [hj', List.take_length]; rfl]
    exact this
theorem loop10d {l : List Ob} {a c : List Sy} {i n : Nat} (hi : i < l.length) (ho : (l.get ⟨i, hi⟩).fns.length < MM) (ha : a.length + c.length ≤ 1099510000000) (hn : (l.get ⟨i, hi⟩).fns.length < n) {k : Den.Exit → St → R} {Q : Out → Prop}
    (hk : ∀ (j : Nat) w, Tot (k (.exit 6) (S10de l (a ++ addF c (l.get ⟨i, hi⟩)) a.length i j w)) Q) : Tot (codeD Try.prog polK (bindK dK) n 10 (.loop (Code.part (bodyOf Try.prog 10) [1, 1, 1, 1, 1, 0, 1, 0, 0, 1, 0, 0, 1, 0, 0])) (S10d l (a ++ c) a.length i (0 : Nat)) k) Q := by
  simp only [MM] at ho
  generalize hg : l.get ⟨i, hi⟩ = o at *
  refine loop_meas (calls := fun _ : Nat => u8) (fun _ => u8_le) (keep := false) rfl (inner := noLoops) no_loops (fun j => S10d l (a ++ (o.fns.take j).foldl (addF1 o.mod) c) a.length i j) (fun j => j ≤ o.fns.length) (fun j => o.fns.length - j) 0 (by omega) (Nat.zero_le _) (by
    show _ = S10d l (a ++ c) a.length i (0 : Nat)
    kernel_rfl) (H := 1) rfl ?_
  intro j hj K hn' hx
  have gi : (0 : Int) ≤ (i : Int) ∧ (i : Int).toNat < l.length := ⟨by omega, by simpa using hi⟩
  have hg' : l.get ⟨(i : Int).toNat, gi.2⟩ = o := hg
  have hlen : ((o.fns.take j).foldl (addF1 o.mod) c).length = c.length + j := by rw [addF_len, List.length_take]; omega
  have hlen2 : (a ++ (o.fns.take j).foldl (addF1 o.mod) c).length = a.length + (c.length + j) := by rw [List.length_append, hlen]
  rw [r10d]
  refine Tot.dite gi ?_
  subst hg'
  refine Tot.cond (fun d => ?_) fun d => ?_
  · have d' : j < (l.get ⟨(i : Int).toNat, gi.2⟩).fns.length := by simpa using d
    have gj : (0 : Int) ≤ (j : Int) ∧ (j : Int).toNat < (l.get ⟨(i : Int).toNat, gi.2⟩).fns.length := ⟨by omega, by simpa using d'⟩
    have w1 : IntKind.i64.wrap ((j : Int) + 1) = ((j + 1 : Nat) : Int) := wrap_nat (by omega) (by omega)
    refine Tot.dite gi (Tot.dite gi (Tot.dite gj ?_))
    generalize hg2 : l.get ⟨(i : Int).toNat, gi.2⟩ = o at *
    have w2 : IntKind.i64.wrap (((a ++ (o.fns.take j).foldl (addF1 o.mod) c).length : Int) - (a.length : Int)) = (((o.fns.take j).foldl (addF1 o.mod) c).length : Int) := wrap_nat (by omega) (by omega)
    rw [roomy_ok2 (by omega) bytes31, cond_true, beq_self_eq_true, cond_true, w1, w2]
    refine hn' _ (j + 1) d' (by omega) ?_
    rw [fold_take _ _ d']
    show _ = S10d l (a ++ ((o.fns.take j).foldl (addF1 o.mod) c ++ [⟨o.mod, (o.fns.get ⟨j, d'⟩).name, 2, ((o.fns.take j).foldl (addF1 o.mod) c).length⟩])) a.length i (j + 1 : Nat)
    rw [← List.append_assoc]
    unfold S10d
    rw [← sl_snoc syR (a ++ (o.fns.take j).foldl (addF1 o.mod) c) ⟨o.mod, (o.fns.get ⟨j, d'⟩).name, 2, ((o.fns.take j).foldl (addF1 o.mod) c).length⟩ (g := fun q8 => (List.map purify (rowIn [(.str []), (.str []), (.int .i64 0), (.int .i64 0)] ((↑q8 : Nat)) [(0, syR ⟨o.mod, (o.fns.get ⟨j, d'⟩).name, 2, ((o.fns.take j).foldl (addF1 o.mod) c).length⟩)]))) rfl, len1]
    rfl
  · generalize hg2 : l.get ⟨(i : Int).toNat, gi.2⟩ = o at *
    have hj' : j = o.fns.length := by
      have : ¬ j < o.fns.length := by simpa using d
      omega
    rw [hx _ _ (by simp)]
    have := hk j (decide ((j : Int) < (o.fns.length : Int)))
    rw [show (o.fns.take j).foldl (addF1 o.mod) c = addF c o by rw [hj', List.take_length]; rfl]
    exact this
end Go.Proofs

/- Link: the reference's Symbols: the whole. -/
namespace Go.Proofs
open Go.Den
set_option maxRecDepth 100000
theorem v10 {l : List Ob} (hne : l ≠ []) (hl : l.length < MM) (hs : ∀ o ∈ l, SmS o) (hm : ∀ o ∈ l, o.mod.length < 1000000000) : dK 10 [obs l] [] .plain = some (.ret (slL 4 .no syR (symV (srt l) ++ symF (srt l))) [] .plain) := by
  obtain ⟨r, l', rfl⟩ : ∃ r l', l = r :: l' := by
    cases l with
    | nil => exact absurd rfl hne
    | cons r l' => exact ⟨r, l', rfl⟩
  refine Tot.of_eq (denA_tot (1048576 + 1) u8_le rfl (by kernel_rfl) ?_)
  rw [b10]
  refine Tot.pickX ⟨r :: l', rfl, rfl, rfl, hne, Nat.lt_trans hl (by simp [MM, BB]), hm⟩ ?_
  rintro q ⟨he, _, _, _, _, _⟩
  obtain rfl := obs_inj he
  generalize hS : srt (r :: l') = ss
  have hls : ss.length < MM := by rw [← hS, srt_len]; exact hl
  have hss : ∀ o ∈ ss, SmS o := by rw [← hS]; exact srt_SmS hs
  simp only [MM] at hls
  have hsum : ∀ i, i ≤ ss.length → (symV (ss.take i)).length + (symF (ss.take i)).length ≤ 1048575 * 1048575 := by
    intro i hi
    have := sym_len (l := ss.take i) fun o ho => hss o (List.mem_of_mem_take ho)
    rw [List.length_take, Nat.min_eq_left hi] at this
    exact Nat.le_trans this (Nat.mul_le_mul (by omega) (by simp [MM]))
  have hmono : ∀ i, i ≤ ss.length → (symF (ss.take i)).length ≤ (symF ss).length := by
    intro i hi
    have e : symF ss = (ss.drop i).foldl addF (symF (ss.take i)) := by
      unfold symF
      rw [← List.foldl_append, List.take_append_drop]
    have key : ∀ (m : List Ob) (a : List Sy), a.length ≤ (m.foldl addF a).length := by
      intro m
      induction m with
      | nil => intro a; exact Nat.le_refl _
      | cons o m ih =>
        intro a
        refine Nat.le_trans ?_ (ih _)
        have : (addF a o).length = a.length + o.fns.length := addF_len ..
        omega
    rw [e]
    exact key _ _
  have htot := hsum ss.length (Nat.le_refl _)
  rw [List.take_length] at htot
  rw [lpR_at (x := Code.part (bodyOf Try.prog 10) [1, 1, 1, 0, 1, 0, 0]) (by kernel_rfl)]
  refine loop_meas (calls := fun _ : Nat => u8) (fun _ => u8_le) (keep := false) rfl (inner := lpR Try.prog polK dK (1048576 + 1) 10 (loopsOf (Code.part (bodyOf Try.prog 10) [1, 1, 1, 0, 1, 0, 0]))) (lpR_ok (by kernel_rfl)) (fun i => S10 ss (symV (ss.take i)) i) (fun i => i ≤ ss.length) (fun i => ss.length - i) 0 (by omega) (Nat.zero_le _) (by
    show _ = S10 ss [] (0 : Nat)
    unfold S10
    rw [slL_nil syR]
    kernel_rfl) (H := 1) rfl ?_
  intro i hi K hn' hx
  have hb := hsum i hi
  rw [r10]
  refine Tot.cond (fun c => ?_) fun c => ?_
  · have c' : i < ss.length := by simpa using c
    have w1 : IntKind.i64.wrap ((i : Int) + 1) = ((i + 1 : Nat) : Int) := wrap_nat (by omega) (by omega)
    have hso := hss _ (List.get_mem ss ⟨i, c'⟩)
    simp only [SmS, MM] at hso
    rw [lpR_at (x := Code.part (bodyOf Try.prog 10) [1, 1, 1, 0, 1, 0, 0, 1, 0, 0, 1, 0, 0]) (by kernel_rfl)]
    refine loop10a c' (by simp only [MM]; omega) (by omega) (by omega) fun j w => ?_
    refine Tot.eq (e10a (lpR Try.prog polK dK (1048576 + 1) 10 (loopsOf (Code.part (bodyOf Try.prog 10) [1, 1, 1, 0, 1, 0, 0]))) ss (addV (symV (ss.take i)) (ss.get ⟨i, c'⟩)) i j w K) ?_
    rw [w1]
    refine hn' _ (i + 1) c' (by omega) ?_
    have e1 : symV (ss.take (i + 1)) = addV (symV (ss.take i)) (ss.get ⟨i, c'⟩) := fold_take addV [] c'
    rw [e1]
    rfl
  · have hi' : i = ss.length := by
      have : ¬ i < ss.length := by simpa using c
      omega
    subst hi'
    rw [hx _ _ (by simp)]
    refine Tot.eq (e10 (lpR Try.prog polK dK (1048576 + 1) 10 (loopsOf (bodyOf Try.prog 10))) ss (symV (ss.take ss.length)) ss.length) ?_
    rw [List.take_length, lpR_at (x := Code.part (bodyOf Try.prog 10) [1, 1, 1, 1, 1, 0, 1, 0, 0]) (by kernel_rfl)]
    refine loop_meas (calls := fun _ : Nat => u8) (fun _ => u8_le) (keep := false) rfl (inner := lpR Try.prog polK dK (1048576 + 1) 10 (loopsOf (Code.part (bodyOf Try.prog 10) [1, 1, 1, 1, 1, 0, 1, 0, 0]))) (lpR_ok (by kernel_rfl)) (fun i => S10c ss (symV ss ++ symF (ss.take i)) (symV ss).length i) (fun i => i ≤ ss.length) (fun i => ss.length - i) 0 (by omega) (Nat.zero_le _) (by
      show _ = S10c ss (symV ss ++ []) (symV ss).length (0 : Nat)
      rw [List.append_nil]
      kernel_rfl) (H := 1) rfl ?_
    clear hn' hx c hi hb K
    intro i hi K hn' hx
    have hb := hmono i hi
    rw [r10c]
    refine Tot.cond (fun c => ?_) fun c => ?_
    · have c' : i < ss.length := by simpa using c
      have w1 : IntKind.i64.wrap ((i : Int) + 1) = ((i + 1 : Nat) : Int) := wrap_nat (by omega) (by omega)
      have hso := hss _ (List.get_mem ss ⟨i, c'⟩)
      simp only [SmS, MM] at hso
      rw [lpR_at (x := Code.part (bodyOf Try.prog 10) [1, 1, 1, 1, 1, 0, 1, 0, 0, 1, 0, 0, 1, 0, 0]) (by kernel_rfl)]
      refine loop10d c' (by simp only [MM]; omega) (by omega) (by omega) fun j w => ?_
      refine Tot.eq (e10d (lpR Try.prog polK dK (1048576 + 1) 10 (loopsOf (Code.part (bodyOf Try.prog 10) [1, 1, 1, 1, 1, 0, 1, 0, 0]))) ss (symV ss ++ addF (symF (ss.take i)) (ss.get ⟨i, c'⟩)) (symV ss).length i j w K) ?_
      rw [w1]
      refine hn' _ (i + 1) c' (by omega) ?_
      have e1 : symF (ss.take (i + 1)) = addF (symF (ss.take i)) (ss.get ⟨i, c'⟩) := fold_take addF [] c'
      rw [e1]
      rfl
    · have hi' : i = ss.length := by
        have : ¬ i < ss.length := by simpa using c
        omega
      subst hi'
      rw [hx _ _ (by simp)]
      refine Tot.eq (e10c (lpR Try.prog polK dK (1048576 + 1) 10 (loopsOf (bodyOf Try.prog 10))) ss (symV ss ++ symF (ss.take ss.length)) (symV ss).length ss.length) (Tot.some ?_)
      rw [List.take_length]
      rfl
end Go.Proofs
