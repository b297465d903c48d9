/- Link: mine: functions. -/
import Derived.Test.YtaojlamnfnkdbaaDenKf
set_option linter.unusedSimpArgs false
set_option linter.unusedVariables false
set_option linter.unnecessarySimpa false
namespace Go.Proofs
open Go.Den
set_option maxRecDepth 100000
theorem app0 {z : Nat} {t : Tok} {n : Nat} {g : Fin n → List AV} {e : Fin 0 → List AV} : AV.sl z t (0 + n) (appRows e g) = AV.sl z t n g := by
  refine sl_ext (Nat.zero_add n) fun i h1 h2 => ?_
  unfold appRows
  simp
theorem sl_snoc {α : Type} (row : α → List AV) {z : Nat} {t : Tok} (o : List α) (x : α) {g : Fin 1 → List AV} (hg : g 0 = row x) :
    AV.sl z t (o.length + 1) (appRows (fun q => row (o.get q)) g) = slL z t row (o ++ [x]) := sl_app row o x hg
theorem slL_nil {α : Type} (row : α → List AV) {z : Nat} {t : Tok} : slL z t row [] = .sl z t 0 (fun i => i.elim0) := sl_ext rfl fun i h1 _ => absurd h1 (Nat.not_lt_zero _)
theorem bytes3 : Try.prog.bytesOf 3 = 8 := by kernel_rfl
theorem bytes75 : Try.prog.bytesOf 75 = 32 := by kernel_rfl
theorem roomy_ok {n b : Nat} (hn : n ≤ 400000000) (hb : b ≤ 200) : (true && _root_.cond (decide (n ≤ 70368744177664)) ((fun _ : Unit => decide (n * b ≤ 70368744177664)) ()) false) = true := by
  have h1 : decide (n ≤ 70368744177664) = true := by simp; omega
  have h2 : n * b ≤ 400000000 * 200 := Nat.mul_le_mul hn hb
  have h3 : decide (n * b ≤ 70368744177664) = true := decide_eq_true (Nat.le_trans h2 (by omega))
  rw [h1, cond_true]
  show (true && decide (n * b ≤ 70368744177664)) = true
  rw [h3]
  rfl
theorem v19 {f : Fu} (hf : SmF f) : dK 19 [fnA f] [] .plain = some (.ret (fnA f) [] .plain) := by
  obtain ⟨h1, h2, h3⟩ := hf
  simp only [BB] at h1 h2 h3
  refine Tot.of_eq (denA_tot (f.code.length + 1) noCall_le rfl (by kernel_rfl) ?_)
  rw [b19, bytes3, roomy_ok (by omega) (by omega), cond_true, roomy_ok (by omega) (by omega), cond_true, app0, app0, lpR_at (x := Code.part (bodyOf Try.prog 19) [1, 1, 0, 1, 0, 0]) (by kernel_rfl)]
  simp only [Nat.zero_add]
  refine loop_meas (calls := fun _ : Nat => noCall) (fun _ => noCall_le) (keep := false) rfl (inner := noLoops) no_loops (fun i => S19 f (f.code.take i) i) (fun i => i ≤ f.code.length) (fun i => f.code.length - i) 0 (by omega) (Nat.zero_le _) (by
    show _ = S19 f [] (0 : Nat)
    unfold S19
    rw [slL_nil inR]
    kernel_rfl) (H := 6) rfl ?_
  intro i hi K hn' hx
  rw [r19]
  have hlen : (f.code.take i).length = i := by simp; omega
  refine Tot.cond (fun c => ?_) fun c => ?_
  · have c' : i < f.code.length := by simpa using c
    have g : (0 : Int) ≤ (i : Int) ∧ (i : Int).toNat < f.code.length := ⟨by omega, by simpa using c'⟩
    have w1 : IntKind.i64.wrap ((i : Int) + 1) = ((i + 1 : Nat) : Int) := wrap_nat (by omega) (by omega)
    refine Tot.dite g (Tot.dite g (Tot.dite g ?_))
    rw [bytes75, roomy_ok (by omega) (by omega), cond_true, beq_self_eq_true, cond_true, w1]
    refine hn' _ (i + 1) c' (by omega) ?_
    have e : f.code.take (i + 1) = f.code.take i ++ [f.code.get ⟨i, c'⟩] := take_snoc c'
    unfold S19
    rw [e, ← sl_snoc inR (f.code.take i) (f.code.get ⟨i, c'⟩) (g := fun q7 => (List.map purify (rowIn [(.int .i64 0), (.int .i64 0), (.int .i64 0), (.int .u64 0)] ((↑q7 : Nat)) [(0, [(.int .i64 ((f.code.get ⟨i, c'⟩).op)), (.int .i64 ((f.code.get ⟨i, c'⟩).n)), (.int .i64 ((f.code.get ⟨i, c'⟩).vt)), (.int .u64 ((f.code.get ⟨i, c'⟩).vb))])]))) rfl]
    rw [List.length_append]
    rfl
  · have hi' : i = f.code.length := by
      have : ¬ i < f.code.length := by simpa using c
      omega
    subst hi'
    rw [hx _ _ (by simp)]
    refine Tot.eq (e19 (lpR Try.prog polK dK (f.code.length + 1) 19 (loopsOf (bodyOf Try.prog 19))) f (f.code.take f.code.length) f.code.length) (Tot.some ?_)
    rw [List.take_length]
    rfl
end Go.Proofs

/- Link: mine: the inner loops. -/
namespace Go.Proofs
open Go.Den
set_option maxRecDepth 100000
structure SmO (o : Ob) : Prop where
  v : o.vars.length < BB
  f : o.fns.length < BB
  r : o.relocs.length < BB
  fs : ∀ f ∈ o.fns, SmF f
theorem u9_le : CallLeK u9 dK := by
  intro f args h ps kk o x
  unfold u9 at x
  split at x
  · obtain ⟨⟨⟨f, rfl, hf⟩, rfl, rfl⟩, x'⟩ := chk_some x
    exact ⟨_, x', v19 hf⟩
  · cases x
noncomputable abbrev PA : Code := Code.part (bodyOf Try.prog 9) [1, 1, 0, 1, 0, 0, 1, 0, 0, 1, 0, 1, 0, 0]
noncomputable abbrev PB : Code := Code.part (bodyOf Try.prog 9) [1, 1, 0, 1, 0, 0, 1, 0, 0, 1, 1, 0, 1, 0, 0]
noncomputable abbrev PC : Code := Code.part (bodyOf Try.prog 9) [1, 1, 0, 1, 0, 0, 1, 0, 0, 1, 1, 1, 0, 1, 0, 0]
theorem bytes63 : Try.prog.bytesOf 63 ≤ 200 := of_decide_eq_true (by kernel_rfl)
theorem bytes72 : Try.prog.bytesOf 72 ≤ 200 := of_decide_eq_true (by kernel_rfl)
theorem bytes73 : Try.prog.bytesOf 73 ≤ 200 := of_decide_eq_true (by kernel_rfl)
theorem mineA {l o : List Ob} {i n : Nat} {m : Str} (hi : i < l.length) (hs : SmO (l.get ⟨i, hi⟩)) (hn : (l.get ⟨i, hi⟩).vars.length < n) {st : St} (h0 : promote (polK.prom 9 (regOf PA)) st = S9a l o i m [] (0 : Nat)) {k : Den.Exit → St → R} {Q : Out → Prop}
    (hk : ∀ (j : Nat) w, Tot (k (.exit 2) (S9ae l o i m (l.get ⟨i, hi⟩).vars j w)) Q) : Tot (codeD Try.prog polK (bindK dK) n 9 (.loop PA) st k) Q := by
  have hv := hs.v
  simp only [BB] at hv
  refine loop_meas (calls := fun _ : Nat => u9) (fun _ => u9_le) (keep := false) rfl (inner := noLoops) no_loops (fun j => S9a l o i m ((l.get ⟨i, hi⟩).vars.take j) j) (fun j => j ≤ (l.get ⟨i, hi⟩).vars.length) (fun j => (l.get ⟨i, hi⟩).vars.length - j) 0 (by omega) (Nat.zero_le _) h0 (H := 3) rfl ?_
  intro j hj K hn' hx
  have gi : (0 : Int) ≤ (i : Int) ∧ (i : Int).toNat < l.length := ⟨by omega, by simpa using hi⟩
  have hlen : ((l.get ⟨i, hi⟩).vars.take j).length = j := by rw [List.length_take]; omega
  rw [r9a]
  refine Tot.dite gi (Tot.cond (fun c => ?_) fun c => ?_)
  · have c' : j < (l.get ⟨i, hi⟩).vars.length := by simpa using c
    have gj : (0 : Int) ≤ (j : Int) ∧ (j : Int).toNat < (l.get ⟨i, hi⟩).vars.length := ⟨by omega, by simpa using c'⟩
    have w1 : IntKind.i64.wrap ((j : Int) + 1) = ((j + 1 : Nat) : Int) := wrap_nat (by omega) (by omega)
    refine Tot.dite gi (Tot.dite gj (Tot.dite gi (Tot.dite gj ?_)))
    rw [roomy_ok (by omega) bytes63, cond_true, beq_self_eq_true, cond_true, w1]
    refine hn' _ (j + 1) c' (by omega) ?_
    have e : (l.get ⟨i, hi⟩).vars.take (j + 1) = (l.get ⟨i, hi⟩).vars.take j ++ [(l.get ⟨i, hi⟩).vars.get ⟨j, c'⟩] := take_snoc c'
    unfold S9a
    rw [e, ← sl_snoc vrR ((l.get ⟨i, hi⟩).vars.take j) ((l.get ⟨i, hi⟩).vars.get ⟨j, c'⟩) (g := fun q7 => (List.map purify (rowIn [(.str []), (.int .i64 0), (.int .u64 0)] ((↑q7 : Nat)) [(0, [(.str ((l.get ⟨i, hi⟩).vars.get ⟨j, c'⟩).name), (.int .i64 ((l.get ⟨i, hi⟩).vars.get ⟨j, c'⟩).t), (.int .u64 ((l.get ⟨i, hi⟩).vars.get ⟨j, c'⟩).b)])]))) rfl, List.length_append]
    rfl
  · have hj' : j = (l.get ⟨i, hi⟩).vars.length := by
      have : ¬ j < (l.get ⟨i, hi⟩).vars.length := by simpa using c
      omega
    rw [hx _ _ (by simp)]
    have := hk j (decide ((j : Int) < ((l.get ⟨(i : Int).toNat, gi.2⟩).vars.length : Int)))
    rw [show (l.get ⟨i, hi⟩).vars.take j = (l.get ⟨i, hi⟩).vars by rw [hj', List.take_length]]
    exact this
theorem mineB {l o : List Ob} {i n : Nat} {m : Str} {vs : List Vr} (hi : i < l.length) (hs : SmO (l.get ⟨i, hi⟩)) (hn : (l.get ⟨i, hi⟩).fns.length < n) {st : St} (h0 : promote (polK.prom 9 (regOf PB)) st = S9b l o i m vs [] (0 : Nat)) {k : Den.Exit → St → R} {Q : Out → Prop}
    (hk : ∀ (j : Nat) w, Tot (k (.exit 4) (S9be l o i m vs (l.get ⟨i, hi⟩).fns j w)) Q) : Tot (codeD Try.prog polK (bindK dK) n 9 (.loop PB) st k) Q := by
  have hv := hs.f
  simp only [BB] at hv
  refine loop_meas (calls := fun _ : Nat => u9) (fun _ => u9_le) (keep := false) rfl (inner := noLoops) no_loops (fun j => S9b l o i m vs ((l.get ⟨i, hi⟩).fns.take j) j) (fun j => j ≤ (l.get ⟨i, hi⟩).fns.length) (fun j => (l.get ⟨i, hi⟩).fns.length - j) 0 (by omega) (Nat.zero_le _) h0 (H := 4) rfl ?_
  intro j hj K hn' hx
  have gi : (0 : Int) ≤ (i : Int) ∧ (i : Int).toNat < l.length := ⟨by omega, by simpa using hi⟩
  have hlen : ((l.get ⟨i, hi⟩).fns.take j).length = j := by rw [List.length_take]; omega
  rw [r9b]
  refine Tot.dite gi (Tot.cond (fun c => ?_) fun c => ?_)
  · have c' : j < (l.get ⟨i, hi⟩).fns.length := by simpa using c
    have gj : (0 : Int) ≤ (j : Int) ∧ (j : Int).toNat < (l.get ⟨i, hi⟩).fns.length := ⟨by omega, by simpa using c'⟩
    have w1 : IntKind.i64.wrap ((j : Int) + 1) = ((j + 1 : Nat) : Int) := wrap_nat (by omega) (by omega)
    refine Tot.dite gi (Tot.dite gj (Tot.dite gi (Tot.dite gj (Tot.chk ⟨⟨(l.get ⟨i, hi⟩).fns.get ⟨j, c'⟩, rfl, hs.fs _ (List.get_mem _ _)⟩, rfl, rfl⟩ ?_))))
    rw [roomy_ok (by omega) bytes72, cond_true, beq_self_eq_true, cond_true, w1]
    refine hn' _ (j + 1) c' (by omega) ?_
    have e : (l.get ⟨i, hi⟩).fns.take (j + 1) = (l.get ⟨i, hi⟩).fns.take j ++ [(l.get ⟨i, hi⟩).fns.get ⟨j, c'⟩] := take_snoc c'
    unfold S9b
    rw [e, ← sl_snoc fuR ((l.get ⟨i, hi⟩).fns.take j) ((l.get ⟨i, hi⟩).fns.get ⟨j, c'⟩) (g := fun q7 => (List.map purify (rowIn [(.str []), (.sl 1 .tight 0 (fun i => i.elim0)), (.int .i64 0), (.sl 1 .tight 0 (fun i => i.elim0)), (.sl 4 .tight 0 (fun i => i.elim0))] ((↑q7 : Nat)) [(0, fuR ((l.get ⟨i, hi⟩).fns.get ⟨j, c'⟩))]))) rfl, List.length_append]
    rfl
  · have hj' : j = (l.get ⟨i, hi⟩).fns.length := by
      have : ¬ j < (l.get ⟨i, hi⟩).fns.length := by simpa using c
      omega
    rw [hx _ _ (by simp)]
    have := hk j (decide ((j : Int) < ((l.get ⟨(i : Int).toNat, gi.2⟩).fns.length : Int)))
    rw [show (l.get ⟨i, hi⟩).fns.take j = (l.get ⟨i, hi⟩).fns by rw [hj', List.take_length]]
    exact this
theorem mineC {l o : List Ob} {i n : Nat} {m : Str} {vs : List Vr} {fs : List Fu} (hi : i < l.length) (hs : SmO (l.get ⟨i, hi⟩)) (hn : (l.get ⟨i, hi⟩).relocs.length < n) {st : St} (h0 : promote (polK.prom 9 (regOf PC)) st = S9c l o i m vs fs [] (0 : Nat)) {k : Den.Exit → St → R} {Q : Out → Prop}
    (hk : ∀ (j : Nat) w, Tot (k (.exit 6) (S9ce l o i m vs fs (l.get ⟨i, hi⟩).relocs j w)) Q) : Tot (codeD Try.prog polK (bindK dK) n 9 (.loop PC) st k) Q := by
  have hv := hs.r
  simp only [BB] at hv
  refine loop_meas (calls := fun _ : Nat => u9) (fun _ => u9_le) (keep := false) rfl (inner := noLoops) no_loops (fun j => S9c l o i m vs fs ((l.get ⟨i, hi⟩).relocs.take j) j) (fun j => j ≤ (l.get ⟨i, hi⟩).relocs.length) (fun j => (l.get ⟨i, hi⟩).relocs.length - j) 0 (by omega) (Nat.zero_le _) h0 (H := 5) rfl ?_
  intro j hj K hn' hx
  have gi : (0 : Int) ≤ (i : Int) ∧ (i : Int).toNat < l.length := ⟨by omega, by simpa using hi⟩
  have hlen : ((l.get ⟨i, hi⟩).relocs.take j).length = j := by rw [List.length_take]; omega
  rw [r9c]
  refine Tot.dite gi (Tot.cond (fun c => ?_) fun c => ?_)
  · have c' : j < (l.get ⟨i, hi⟩).relocs.length := by simpa using c
    have gj : (0 : Int) ≤ (j : Int) ∧ (j : Int).toNat < (l.get ⟨i, hi⟩).relocs.length := ⟨by omega, by simpa using c'⟩
    have w1 : IntKind.i64.wrap ((j : Int) + 1) = ((j + 1 : Nat) : Int) := wrap_nat (by omega) (by omega)
    refine Tot.dite gi (Tot.dite gj ?_)
    rw [roomy_ok (by omega) bytes73, cond_true, beq_self_eq_true, cond_true, w1]
    refine hn' _ (j + 1) c' (by omega) ?_
    have e : (l.get ⟨i, hi⟩).relocs.take (j + 1) = (l.get ⟨i, hi⟩).relocs.take j ++ [(l.get ⟨i, hi⟩).relocs.get ⟨j, c'⟩] := take_snoc c'
    unfold S9c
    rw [e, ← sl_snoc reR ((l.get ⟨i, hi⟩).relocs.take j) ((l.get ⟨i, hi⟩).relocs.get ⟨j, c'⟩) (g := fun q7 => (List.map purify (rowIn [(.int .i64 0), (.int .i64 0), (.int .i64 0), (.str []), (.str [])] ((↑q7 : Nat)) [(0, reR ((l.get ⟨i, hi⟩).relocs.get ⟨j, c'⟩))]))) rfl, List.length_append]
    rfl
  · have hj' : j = (l.get ⟨i, hi⟩).relocs.length := by
      have : ¬ j < (l.get ⟨i, hi⟩).relocs.length := by simpa using c
      omega
    rw [hx _ _ (by simp)]
    have := hk j (decide ((j : Int) < ((l.get ⟨(i : Int).toNat, gi.2⟩).relocs.length : Int)))
    rw [show (l.get ⟨i, hi⟩).relocs.take j = (l.get ⟨i, hi⟩).relocs by rw [hj', List.take_length]]
    exact this
end Go.Proofs

/- Link: mine: the whole: it is the list as it was. -/
namespace Go.Proofs
open Go.Den
set_option maxRecDepth 100000
theorem bytes43' : Try.prog.bytesOf 43 ≤ 200 := of_decide_eq_true (by kernel_rfl)
theorem v9 {l : List Ob} (hl : l.length < BB) (hs : ∀ o ∈ l, SmO o) : dK 9 [obs l] [] .plain = some (.ret (obs l) [] .plain) := by
  simp only [BB] at hl
  generalize hn : 200000000 + 1 = n
  refine Tot.of_eq (denA_tot n u9_le rfl (by kernel_rfl) ?_)
  rw [b9, lpR_at (x := Code.part (bodyOf Try.prog 9) [1, 1, 0, 1, 0, 0]) (by kernel_rfl)]
  refine loop_meas (calls := fun _ : Nat => u9) (fun _ => u9_le) (keep := false) rfl (inner := lpR Try.prog polK dK n 9 (loopsOf (Code.part (bodyOf Try.prog 9) [1, 1, 0, 1, 0, 0]))) (lpR_ok (by kernel_rfl)) (fun i => S9 l (l.take i) i) (fun i => i ≤ l.length) (fun i => l.length - i) 0 (by omega) (Nat.zero_le _) (by
    show _ = S9 l [] (0 : Nat)
    unfold S9
    rw [slL_nil obR]
    kernel_rfl) (H := 1) rfl ?_
  intro i hi K hn' hx
  have hlen : (l.take i).length = i := by rw [List.length_take]; omega
  rw [r9]
  refine Tot.cond (fun c => ?_) fun c => ?_
  · have c' : i < l.length := by simpa using c
    have gi : (0 : Int) ≤ (i : Int) ∧ (i : Int).toNat < l.length := ⟨by omega, by simpa using c'⟩
    have w1 : IntKind.i64.wrap ((i : Int) + 1) = ((i + 1 : Nat) : Int) := wrap_nat (by omega) (by omega)
    have hso := hs _ (List.get_mem l ⟨i, c'⟩)
    have b1 := hso.v
    have b2 := hso.f
    have b3 := hso.r
    simp only [BB] at b1 b2 b3
    refine Tot.dite gi ?_
    rw [lpR_at (x := PA) (by kernel_rfl)]
    refine mineA (m := (l.get ⟨i, c'⟩).mod) c' hso (by omega) (by
      show _ = S9a l (l.take i) i (l.get ⟨i, c'⟩).mod [] (0 : Nat)
      unfold S9a
      rw [slL_nil vrR]
      kernel_rfl) fun j w => ?_
    refine Tot.eq (e9a (lpR Try.prog polK dK n 9 (loopsOf (Code.part (bodyOf Try.prog 9) [1, 1, 0, 1, 0, 0]))) l (l.take i) i (l.get ⟨i, c'⟩).mod (l.get ⟨i, c'⟩).vars j w K) ?_
    rw [lpR_at (x := PB) (by kernel_rfl)]
    refine mineB (m := (l.get ⟨i, c'⟩).mod) (vs := (l.get ⟨i, c'⟩).vars) c' hso (by omega) (by
      show _ = S9b l (l.take i) i (l.get ⟨i, c'⟩).mod (l.get ⟨i, c'⟩).vars [] (0 : Nat)
      unfold S9b
      rw [slL_nil fuR]
      kernel_rfl) fun j w => ?_
    refine Tot.eq (e9b (lpR Try.prog polK dK n 9 (loopsOf (Code.part (bodyOf Try.prog 9) [1, 1, 0, 1, 0, 0]))) l (l.take i) i (l.get ⟨i, c'⟩).mod (l.get ⟨i, c'⟩).vars (l.get ⟨i, c'⟩).fns j w K) ?_
    rw [lpR_at (x := PC) (by kernel_rfl)]
    refine mineC (m := (l.get ⟨i, c'⟩).mod) (vs := (l.get ⟨i, c'⟩).vars) (fs := (l.get ⟨i, c'⟩).fns) c' hso (by omega) (by
      show _ = S9c l (l.take i) i (l.get ⟨i, c'⟩).mod (l.get ⟨i, c'⟩).vars (l.get ⟨i, c'⟩).fns [] (0 : Nat)
      unfold S9c
      rw [slL_nil reR]
      kernel_rfl) fun j w => ?_
    refine Tot.eq (e9c (lpR Try.prog polK dK n 9 (loopsOf (Code.part (bodyOf Try.prog 9) [1, 1, 0, 1, 0, 0]))) l (l.take i) i (l.get ⟨i, c'⟩).mod (l.get ⟨i, c'⟩).vars (l.get ⟨i, c'⟩).fns (l.get ⟨i, c'⟩).relocs j w K) ?_
    rw [roomy_ok (by omega) bytes43', cond_true, beq_self_eq_true, cond_true, w1]
    refine hn' _ (i + 1) c' (by omega) ?_
    have e : l.take (i + 1) = l.take i ++ [l.get ⟨i, c'⟩] := take_snoc c'
    unfold S9
    rw [e, ← sl_snoc obR (l.take i) (l.get ⟨i, c'⟩) (g := fun q11 => (List.map purify (rowIn [(.str []), (.sl 3 .tight 0 (fun i => i.elim0)), (.sl 5 .tight 0 (fun i => i.elim0)), (.sl 5 .tight 0 (fun i => i.elim0))] ((↑q11 : Nat)) [(0, [(.str (l.get ⟨i, c'⟩).mod), slL 3 (.id 2) vrR (l.get ⟨i, c'⟩).vars, slL 5 (.id 3) fuR (l.get ⟨i, c'⟩).fns, slL 5 (.id 4) reR (l.get ⟨i, c'⟩).relocs])]))) rfl, List.length_append]
    rfl
  · have hi' : i = l.length := by
      have : ¬ i < l.length := by simpa using c
      omega
    subst hi'
    rw [hx _ _ (by simp)]
    refine Tot.eq (e9 (lpR Try.prog polK dK n 9 (loopsOf (bodyOf Try.prog 9))) l (l.take l.length) l.length) (Tot.some ?_)
    rw [List.take_length]
    rfl
end Go.Proofs
