/- FoldFars: the loops, by rounds. -/
import Derived.Test.YtndanoiaheknaaaDenF1
set_option linter.unusedSimpArgs false
set_option linter.unusedVariables false
namespace Go.Proofs
open Go.Den
set_option maxRecDepth 100000
theorem sl_ext {z : Nat} {t : Tok} {n m : Nat} {f : Fin n → List AV} {g : Fin m → List AV} (h : n = m) (hf : ∀ i (h1 : i < n) (h2 : i < m), f ⟨i, h1⟩ = g ⟨i, h2⟩) : AV.sl z t n f = AV.sl z t m g := by
  subst h
  congr 1
  funext i
  exact hf i.1 i.2 i.2
theorem sl_app {α : Type} (row : α → List AV) {z : Nat} {t : Tok} (o : List α) (x : α) {g : Fin 1 → List AV} (hg : g 0 = row x) :
    AV.sl z t (o.length + 1) (appRows (fun q => row (o.get q)) g) = AV.sl z t (o ++ [x]).length fun q => row ((o ++ [x]).get q) := by
  refine sl_ext (by simp) fun i h1 h2 => ?_
  unfold appRows
  by_cases hi : i < o.length
  · rw [dif_pos hi]; simp [List.getElem_append_left hi]
  · have : i = o.length := by omega
    subst this
    rw [dif_neg (by simp)]
    have : (⟨o.length - o.length, by omega⟩ : Fin 1) = 0 := by apply Fin.ext; simp
    simp only [this, hg]
    simp
theorem wrap_succ {n : Nat} (h : n < 4611686018427387904) : IntKind.i64.wrap ((n : Int) + 1) = ((n + 1 : Nat) : Int) := by
  simp only [IntKind.wrap, IntKind.bits, IntKind.signed]
  simp
  omega
theorem no_loops {P : Program} {pol : Pol} {c : CallO} {n : Nat} {fn : FuncId} {l : List (Nat × Code)} : LoopsOk P pol c n fn noLoops l := fun _ _ _ _ _ h => by cases h
theorem self_le {c : CallO} : CallLeK (bindK c) c := CallLeK.of_le fun _ _ _ _ _ h => h
theorem bytes45 : Try.prog.bytesOf 45 = 48 := by kernel_rfl
theorem bytes39 : Try.prog.bytesOf 39 = 48 := by kernel_rfl

def pick1 (s : List UInt8) (x : Itm) : List Con := cond (x.k == 1) [⟨s, x.name, x.t, x.b⟩] []
def pick (s : List UInt8) (l : List Itm) : List Con := l.flatMap (pick1 s)
theorem pick_take {s : List UInt8} {l : List Itm} {j : Nat} (h : j < l.length) : pick s (l.take (j + 1)) = pick s (l.take j) ++ pick1 s (l.get ⟨j, h⟩) := by
  unfold pick
  rw [List.take_add_one, List.flatMap_append]
  simp [List.getElem?_eq_getElem h]
theorem pick_len {s : List UInt8} {l : List Itm} : (pick s l).length ≤ l.length := by
  unfold pick
  induction l with
  | nil => simp
  | cons x l ih =>
    have h1 : (pick1 s x).length ≤ 1 := by unfold pick1; cases x.k == 1 <;> simp
    rw [List.flatMap_cons, List.length_append, List.length_cons]
    omega
noncomputable abbrev I15 : Code := Code.part (bodyOf Try.prog 15) [1, 1, 0, 1, 0, 0, 1, 1, 0, 0, 1, 1, 0, 0]
noncomputable abbrev O15 : Code := Code.part (bodyOf Try.prog 15) [1, 1, 0, 1, 0, 0]
theorem lp15i {c : CallO} {n : Nat} (o : List Con) (l : List Ifc) (nn i : Int) (f : Ifc) (hn : f.items.length < n) (hr : o.length + f.items.length < 1000000000) {k : Den.Exit → St → R} {out : Out}
    (hk : k (.exit 2) (S15x (conG (o ++ pick f.name f.items)) (ifL l) nn i (o ++ pick f.name f.items).length (ifR f) (itL f.items) f.items.length f.items.length) = some out) :
    lpR Try.prog polF c n 15 (loopsOf O15) 6 (S15i (conG o) (ifL l) nn i o.length (ifR f) (itL f.items) f.items.length 0) k = some out := by
  unfold lpR
  rw [show lkC (loopsOf O15) 6 = I15 from by kernel_rfl]
  refine loop_rounds (call := bindK c) self_le (keep := false) rfl (inner := noLoops) no_loops
    (fun j => S15i (conG (o ++ pick f.name (f.items.take j))) (ifL l) nn i (o ++ pick f.name (f.items.take j)).length (ifR f) (itL f.items) f.items.length j) f.items.length hn ?_ (H := 2) rfl ?_ ?_
  · have : promote (polF.prom 15 (regOf I15)) (S15i (conG o) (ifL l) nn i o.length (ifR f) (itL f.items) f.items.length 0) = S15i (conG o) (ifL l) nn i o.length (ifR f) (itL f.items) f.items.length 0 := by kernel_rfl
    rw [this]
    simp [pick]
  · intro j hj K hK
    have hl : (o ++ pick f.name (f.items.take j)).length < 1000000000 := by
      have := pick_len (s := f.name) (l := f.items.take j)
      simp at this ⊢
      omega
    rw [r15i]
    have h1 : decide ((j : Int) < f.items.length) = true := by simpa using hj
    have h2 : (0 : Int) ≤ j ∧ (j : Int).toNat < f.items.length := by omega
    have h3 : decide ((o ++ pick f.name (f.items.take j)).length + 1 ≤ 70368744177664) = true := by simp at hl ⊢; omega
    have h4 : decide (((o ++ pick f.name (f.items.take j)).length + 1) * Try.prog.bytesOf 45 ≤ 70368744177664) = true := by rw [bytes45]; simp at hl ⊢; omega
    rw [h1, cond_true, dif_pos h2]
    simp only [h3, h4, cond_true, Bool.and_self, beq_self_eq_true]
    have ha : S15i (conG (o ++ pick f.name (f.items.take (j + 1)))) (ifL l) nn i (o ++ pick f.name (f.items.take (j + 1))).length (ifR f) (itL f.items) f.items.length ((j + 1 : Nat) : Int) =
      S15i (conG ((o ++ pick f.name (f.items.take j)) ++ pick1 f.name (f.items.get ⟨j, hj⟩))) (ifL l) nn i ((o ++ pick f.name (f.items.take j)) ++ pick1 f.name (f.items.get ⟨j, hj⟩)).length (ifR f) (itL f.items) f.items.length ((j + 1 : Nat) : Int) := by
      rw [pick_take hj, List.append_assoc]
    rw [ha] at hK
    generalize hoo : o ++ pick f.name (f.items.take j) = oo at *
    cases hx : (f.items.get ⟨j, hj⟩).k == 1 with
    | true =>
      have hp : pick1 f.name (f.items.get ⟨j, hj⟩) = [⟨f.name, (f.items.get ⟨j, hj⟩).name, (f.items.get ⟨j, hj⟩).t, (f.items.get ⟨j, hj⟩).b⟩] := by unfold pick1; rw [hx]; rfl
      rw [hp] at hK
      have hlen : ∀ x : Con, (oo ++ [x]).length = oo.length + 1 := fun x => by simp
      rw [hlen] at hK
      simp only [Int.toNat_natCast, hx, cond_true]
      apply hK
      rw [wrap_succ (by omega)]
      have hsl := sl_app conR (z := 4) (t := .id 0) oo ⟨f.name, (f.items.get ⟨j, hj⟩).name, (f.items.get ⟨j, hj⟩).t, (f.items.get ⟨j, hj⟩).b⟩
        (g := fun q => List.map purify (rowIn [.str [], .str [], .int .i64 0, .int .u64 0] q.1 [(0, [.str f.name, .str (f.items.get ⟨j, hj⟩).name, .int .i64 (f.items.get ⟨j, hj⟩).t, .int .u64 (f.items.get ⟨j, hj⟩).b])])) rfl
      simp only [conR] at hsl
      rw [hsl]
      show _ = _
      kernel_rfl
    | false =>
      have hp : pick1 f.name (f.items.get ⟨j, hj⟩) = [] := by unfold pick1; rw [hx]; rfl
      rw [hp, List.append_nil] at hK
      simp only [Int.toNat_natCast, hx, cond_false]
      apply hK
      rw [wrap_succ (by omega)]
      kernel_rfl
  · intro K hK
    rw [r15i, List.take_length]
    have h1 : decide ((f.items.length : Int) < f.items.length) = false := by simp
    unfold S15x at hk
    rw [h1] at hk ⊢
    rw [cond_false, hK _ _ (by simp)]
    exact hk

def far (l : List Ifc) : List Con := l.flatMap fun f => pick f.name f.items
def size (l : List Ifc) : Nat := l.length + (l.map fun f => f.items.length).sum
theorem far_take {l : List Ifc} {j : Nat} (h : j < l.length) : far (l.take (j + 1)) = far (l.take j) ++ pick (l.get ⟨j, h⟩).name (l.get ⟨j, h⟩).items := by
  unfold far
  rw [List.take_add_one, List.flatMap_append]
  simp [List.getElem?_eq_getElem h]
theorem far_len {l : List Ifc} : (far l).length ≤ (l.map fun f => f.items.length).sum := by
  induction l with
  | nil => simp [far]
  | cons x l ih =>
    have : far (x :: l) = pick x.name x.items ++ far l := by simp [far]
    have h := pick_len (s := x.name) (l := x.items)
    rw [this, List.length_append, List.map_cons, List.sum_cons]
    omega
theorem take_sum {l : List Ifc} {j : Nat} (h : j < l.length) : ((l.take j).map fun f => f.items.length).sum + (l.get ⟨j, h⟩).items.length ≤ (l.map fun f => f.items.length).sum := by
  induction l generalizing j with
  | nil => simp at h
  | cons x l ih =>
    cases j with
    | zero => simp
    | succ j =>
      have := ih (j := j) (by simpa using h)
      simp only [List.take_succ_cons, List.map_cons, List.sum_cons, List.get_cons_succ] at this ⊢
      omega
theorem get_len {l : List Ifc} {j : Nat} (h : j < l.length) : (l.get ⟨j, h⟩).items.length ≤ (l.map fun f => f.items.length).sum := by
  have := take_sum h
  omega
theorem conG_nil : conG [] = .sl 4 (.id 0) 0 fun i => i.elim0 := sl_ext rfl fun i h1 => absurd h1 (by simp)

theorem lp15 {c : CallO} {n : Nat} (l : List Ifc) (hn : size l < n) (hr : size l < 100000000) {k : Den.Exit → St → R} {out : Out}
    (hk : k (.exit 0) (S15e (conG (far l)) (ifL l) l.length l.length (far l).length) = some out) :
    lpR Try.prog polF c n 15 (loopsOf (bodyOf Try.prog 15)) 3 ⟨(S15 (nilSl 4) (ifL l) l.length 0 0).T, ⟨[], [], .plain⟩⟩ k = some out := by
  unfold lpR
  rw [show lkC (loopsOf (bodyOf Try.prog 15)) 3 = O15 from by kernel_rfl]
  unfold size at hn hr
  refine loop_rounds (call := bindK c) self_le (keep := false) rfl (inner := lpR Try.prog polF c n 15 (loopsOf O15)) (lpR_ok (by kernel_rfl))
    (fun i => S15 (conG (far (l.take i))) (ifL l) l.length i (far (l.take i)).length) l.length (by omega) ?_ (H := 1) rfl ?_ ?_
  · rw [List.take_zero, show far [] = [] from rfl, conG_nil]
    show _ = _
    kernel_rfl
  · intro i hi K hK
    have h1 : decide ((i : Int) < l.length) = true := by simpa using hi
    have h2 : (0 : Int) ≤ i ∧ (i : Int).toNat < l.length := by omega
    have hts := take_sum hi
    have hfl := far_len (l := l.take i)
    rw [r15, h1, cond_true, dif_pos h2]
    refine lp15i (far (l.take i)) l l.length i (l.get ⟨i, hi⟩) (by omega) (by omega) ?_
    rw [k15]
    apply hK
    rw [wrap_succ (by omega), far_take hi]
    show _ = _
    kernel_rfl
  · intro K hK
    have h1 : decide ((l.length : Int) < l.length) = false := by simp
    rw [r15, List.take_length]
    unfold S15e at hk
    rw [h1] at hk ⊢
    rw [cond_false, hK _ _ (by simp)]
    exact hk

noncomputable abbrev dF : CallO := denA Try.prog polF ext0
theorem far15 (l : List Ifc) (hr : size l < 100000000) : dF 15 [ifL l] [] .plain = some (.ret (conL (far l)) [] .plain) := by
  refine denA_of_loops (size l + 1) self_le rfl (by kernel_rfl) ?_
  rw [b15]
  refine lp15 l (by omega) hr ?_
  exact e15 _ _ _ _

noncomputable abbrev I16 : Code := Code.part (bodyOf Try.prog 16) [1, 1, 0, 1, 0, 0, 1, 0, 0, 1, 0, 0]
noncomputable abbrev O16 : Code := Code.part (bodyOf Try.prog 16) [1, 1, 0, 1, 0, 0]
theorem lp16i {c : CallO} {n : Nat} (o : List Con) (l : List Ifc) (i : Nat) (hi : i < l.length) (hn : (l.get ⟨i, hi⟩).items.length < n) (hr : o.length + (l.get ⟨i, hi⟩).items.length < 1000000000) {k : Den.Exit → St → R} {out : Out}
    (hk : k (.exit 2) (S16x (conG (o ++ pick (l.get ⟨i, hi⟩).name (l.get ⟨i, hi⟩).items)) (ifL l) i (o ++ pick (l.get ⟨i, hi⟩).name (l.get ⟨i, hi⟩).items).length (l.get ⟨i, hi⟩).items.length (l.get ⟨i, hi⟩).items.length) = some out) :
    lpR Try.prog polF c n 16 (loopsOf O16) 6 (S16i (conG o) (ifL l) i o.length 0) k = some out := by
  unfold lpR
  rw [show lkC (loopsOf O16) 6 = I16 from by kernel_rfl]
  refine loop_rounds (call := bindK c) self_le (keep := false) rfl (inner := noLoops) no_loops
    (fun j => S16i (conG (o ++ pick (l.get ⟨i, hi⟩).name ((l.get ⟨i, hi⟩).items.take j))) (ifL l) i (o ++ pick (l.get ⟨i, hi⟩).name ((l.get ⟨i, hi⟩).items.take j)).length j) (l.get ⟨i, hi⟩).items.length hn ?_ (H := 1) rfl ?_ ?_
  · have : promote (polF.prom 16 (regOf I16)) (S16i (conG o) (ifL l) i o.length 0) = S16i (conG o) (ifL l) i o.length 0 := by kernel_rfl
    rw [this]
    simp [pick]
  · intro j hj K hK
    have hl : (o ++ pick (l.get ⟨i, hi⟩).name ((l.get ⟨i, hi⟩).items.take j)).length < 1000000000 := by
      have := pick_len (s := (l.get ⟨i, hi⟩).name) (l := (l.get ⟨i, hi⟩).items.take j)
      rw [List.length_take] at this
      rw [List.length_append]
      omega
    have h0 : (0 : Int) ≤ i ∧ (i : Int).toNat < l.length := by omega
    have h1 : decide ((j : Int) < (l.get ⟨i, hi⟩).items.length) = true := by simpa using hj
    have h2 : (0 : Int) ≤ j ∧ (j : Int).toNat < (l.get ⟨i, hi⟩).items.length := by omega
    have h3 : decide ((o ++ pick (l.get ⟨i, hi⟩).name ((l.get ⟨i, hi⟩).items.take j)).length + 1 ≤ 70368744177664) = true := by rw [decide_eq_true_eq]; omega
    have h4 : decide (((o ++ pick (l.get ⟨i, hi⟩).name ((l.get ⟨i, hi⟩).items.take j)).length + 1) * Try.prog.bytesOf 39 ≤ 70368744177664) = true := by rw [bytes39, decide_eq_true_eq]; omega
    have hr16 := r16i (bindK c) noLoops (o ++ pick (l.get ⟨i, hi⟩).name ((l.get ⟨i, hi⟩).items.take j)) l i j K
    rw [dif_pos h0] at hr16
    simp only [Int.toNat_natCast] at h0 h2
    simp only [Int.toNat_natCast, h1, h3, h4, cond_true, Bool.and_self, beq_self_eq_true, dif_pos h0, dif_pos h2] at hr16
    rw [hr16]
    rw [pick_take hj, ← List.append_assoc] at hK
    generalize hoo : o ++ pick (l.get ⟨i, hi⟩).name ((l.get ⟨i, hi⟩).items.take j) = oo at *
    generalize hxx : (l.get ⟨i, hi⟩).items.get ⟨j, hj⟩ = xx at *
    cases hx : xx.k == 1 with
    | true =>
      have hp : pick1 (l.get ⟨i, hi⟩).name xx = [⟨(l.get ⟨i, hi⟩).name, xx.name, xx.t, xx.b⟩] := by unfold pick1; rw [hx]; rfl
      have hlen : ∀ x : Con, (oo ++ [x]).length = oo.length + 1 := fun x => by simp
      rw [hp, hlen] at hK
      rw [cond_true]
      apply hK
      rw [wrap_succ (by omega)]
      have hsl := sl_app conR (z := 4) (t := .id 0) oo ⟨(l.get ⟨i, hi⟩).name, xx.name, xx.t, xx.b⟩
        (g := fun q => List.map purify (rowIn [.str [], .str [], .int .i64 0, .int .u64 0] q.1 [(0, [.str (l.get ⟨i, hi⟩).name, .str xx.name, .int .i64 xx.t, .int .u64 xx.b])])) rfl
      simp only [conR] at hsl
      rw [hsl]
      show _ = _
      kernel_rfl
    | false =>
      have hp : pick1 (l.get ⟨i, hi⟩).name xx = [] := by unfold pick1; rw [hx]; rfl
      rw [hp, List.append_nil] at hK
      rw [cond_false]
      apply hK
      rw [wrap_succ (by omega)]
      show _ = _
      kernel_rfl
  · intro K hK
    have h0 : (0 : Int) ≤ i ∧ (i : Int).toNat < l.length := by omega
    have h1 : decide (((l.get ⟨i, hi⟩).items.length : Int) < (l.get ⟨i, hi⟩).items.length) = false := by simp
    have hr16 := r16i (bindK c) noLoops (o ++ pick (l.get ⟨i, hi⟩).name ((l.get ⟨i, hi⟩).items.take (l.get ⟨i, hi⟩).items.length)) l i (l.get ⟨i, hi⟩).items.length K
    rw [dif_pos h0] at hr16
    simp only [Int.toNat_natCast] at hr16
    rw [hr16, List.take_length]
    unfold S16x at hk
    rw [h1] at hk ⊢
    rw [cond_false, hK _ _ (by simp)]
    exact hk

theorem lp16 {c : CallO} {n : Nat} (l : List Ifc) (hn : size l < n) (hr : size l < 100000000) {k : Den.Exit → St → R} {out : Out}
    (hk : k (.exit 0) (S16e (conG (far l)) (ifL l) l.length l.length (far l).length) = some out) :
    lpR Try.prog polF c n 16 (loopsOf (bodyOf Try.prog 16)) 3 ⟨(S16 (nilSl 4) (ifL l) 0 0).T, ⟨[], [], .plain⟩⟩ k = some out := by
  unfold lpR
  rw [show lkC (loopsOf (bodyOf Try.prog 16)) 3 = O16 from by kernel_rfl]
  unfold size at hn hr
  refine loop_rounds (call := bindK c) self_le (keep := false) rfl (inner := lpR Try.prog polF c n 16 (loopsOf O16)) (lpR_ok (by kernel_rfl))
    (fun i => S16 (conG (far (l.take i))) (ifL l) i (far (l.take i)).length) l.length (by omega) ?_ (H := 1) rfl ?_ ?_
  · rw [List.take_zero, show far [] = [] from rfl, conG_nil]
    show _ = _
    kernel_rfl
  · intro i hi K hK
    have h1 : decide ((i : Int) < l.length) = true := by simpa using hi
    have hts := take_sum hi
    have hfl := far_len (l := l.take i)
    rw [r16, h1, cond_true]
    refine lp16i (far (l.take i)) l i hi (by omega) (by omega) ?_
    rw [k16]
    apply hK
    rw [wrap_succ (by omega), far_take hi]
    show _ = _
    kernel_rfl
  · intro K hK
    have h1 : decide ((l.length : Int) < l.length) = false := by simp
    rw [r16, List.take_length]
    unfold S16e at hk
    rw [h1] at hk ⊢
    rw [cond_false, hK _ _ (by simp)]
    exact hk
theorem far16 (l : List Ifc) (hr : size l < 100000000) : dF 16 [ifL l] [] .plain = some (.ret (conL (far l)) [] .plain) := by
  refine denA_of_loops (size l + 1) self_le rfl (by kernel_rfl) ?_
  rw [b16]
  refine lp16 l (by omega) hr ?_
  exact e16 _ _ _ _

theorem lp14 {c : CallO} {n : Nat} (l : List Con) (hn : l.length < n) (hr : l.length < 1000000000) {k : Den.Exit → St → R} {out : Out}
    (hk : k (.exit 0) (S14e (conL l) (conL l) l.length l.length) = some out) :
    lpR Try.prog polF c n 14 (loopsOf (bodyOf Try.prog 14)) 4 (S14 (conL l) (conL l) 0) k = some out := by
  unfold lpR
  rw [show lkC (loopsOf (bodyOf Try.prog 14)) 4 = Code.part (bodyOf Try.prog 14) [1,1,0,1,0,0] from by kernel_rfl]
  refine loop_rounds (call := bindK c) self_le (keep := true) rfl (inner := noLoops) no_loops
    (fun j => S14 (conL l) (conL l) j) l.length hn ?_ (H := 0) rfl ?_ ?_
  · show _ = _
    kernel_rfl
  · intro i hi K hK
    have h1 : decide ((i : Int) < l.length) = true := by simpa using hi
    have h2 : (0 : Int) ≤ i ∧ (i : Int).toNat < l.length := by omega
    have hr := r14 (bindK c) noLoops l i K
    rw [h1, cond_true, dif_pos h2, dif_pos h2] at hr
    simp only [beq_self_eq_true, Bool.not_true, Bool.and_self, cond_false, cond_true, Bool.not_false, dif_pos h2] at hr
    rw [hr]
    apply hK
    rw [wrap_succ (by omega)]
    show _ = _
    kernel_rfl
  · intro K hK
    have h1 : decide ((l.length : Int) < l.length) = false := by simp
    rw [r14]
    unfold S14e at hk
    rw [h1] at hk ⊢
    rw [cond_false, hK _ _ (by simp)]
    exact hk
theorem like14 (l : List Con) (hr : l.length < 1000000000) : dF 14 [conL l, conL l] [] .plain = some (.ret (.bool true) [] .plain) := by
  refine denA_of_loops (l.length + 1) self_le rfl (by kernel_rfl) ?_
  rw [b14]
  have h1 : ((l.length : Int) != (l.length : Int)) = false := by simp
  rw [h1, cond_false]
  refine lp14 l (by omega) hr ?_
  exact e14 _ _ _
end Go.Proofs
