/- Link: merging in place: searching, moving. -/
import Derived.Test.YtaojlamnfnkdbaaDenKc
set_option linter.unusedSimpArgs false
set_option linter.unusedVariables false
set_option linter.unnecessarySimpa false
namespace Go.Proofs
open Go.Den
set_option maxRecDepth 100000
theorem wrap_u {n : Nat} (h : n < 4611686018427387904) : IntKind.u64.wrap (n : Int) = (n : Int) := by
  have e1 : (2 : Int) ^ 64 = 18446744073709551616 := by decide
  simp only [IntKind.wrap, IntKind.bits, IntKind.signed, e1, Bool.false_and, Bool.false_eq_true, if_false]
  omega
theorem half {i j : Nat} (h : i + j < 4611686018427387904) : IntKind.i64.wrap ((IntKind.u64.wrap (IntKind.i64.wrap ((i : Int) + (j : Int)))).fdiv ((2 : Int) ^ min (Int.toNat (1 : Int)) IntKind.u64.bits)) = (((i + j) / 2 : Nat) : Int) := by
  rw [wrap_nat (n := (i : Int) + j) (m := i + j) (by omega) h, wrap_u h]
  have e : (2 : Int) ^ min (Int.toNat (1 : Int)) IntKind.u64.bits = ((2 : Nat) : Int) := rfl
  rw [e, ← Int.ofNat_fdiv]
  exact wrap_nat rfl (by omega)
/-- the name at a place -/
def keyAt (l : List Rw) (i : Nat) : Str := ((l[i]?).map Rw.key).getD []
theorem keyAt_get {l : List Rw} {i : Nat} {z : Int} (hz : z = (i : Int)) (h : 0 + z.toNat < l.length) : (l.get ⟨0 + z.toNat, h⟩).key = keyAt l i := by
  subst hz
  have h' : i < l.length := by simpa using h
  simp [keyAt, List.getElem?_eq_getElem h']
theorem keyAt_at {l p s : List Rw} {x : Rw} {i : Nat} (e : l = p ++ x :: s) (hi : i = p.length) : keyAt l i = x.key := by
  subst e hi
  simp [keyAt]
theorem cmp_lt' {s t : Str} : decide (cmpS s t < 0) = bytesLess s t := by
  unfold cmpS
  cases bytesLess s t <;> simp
  cases (s == t) <;> simp
/-- searching by halves -/
theorem bs_loop {x : Code} {n : Nat} {k : Den.Exit → St → R} {Q : Out → Prop} (hx : loopsOf x = []) (hp : ∀ st, promote (polK.prom 59 (regOf x)) st = st) (S : Nat → Nat → St) (E : Nat → St) (e : Nat) (P : Nat → Prop) [DecidablePred P] {lo hi : Nat} (hlh : lo ≤ hi) (hn : hi - lo < n)
    (hcut : ∀ i j, (S i j).cut 1 = S i j) (hH : (S lo hi).s.h.length = 1)
    (hstep : ∀ i j, lo ≤ i → i < j → j ≤ hi → ∀ K : Den.Exit → St → R, (P ((i + j) / 2) → Tot (K .normal (S ((i + j) / 2 + 1) j)) Q) → (¬ P ((i + j) / 2) → Tot (K .normal (S i ((i + j) / 2))) Q) → Tot (codeL Try.prog polK uS noLoops 59 x (S i j) K) Q)
    (hend : ∀ i, lo ≤ i → i ≤ hi → ∀ K : Den.Exit → St → R, codeL Try.prog polK uS noLoops 59 x (S i i) K = K (.exit e) (E i))
    (hk : ∀ i, lo ≤ i → i ≤ hi → (i = lo ∨ P (i - 1)) → (i = hi ∨ ¬ P i) → Tot (k (.exit e) (E i)) Q) :
    Tot (codeD Try.prog polK (bindK dK) n 59 (.loop x) (S lo hi) k) Q := by
  refine loop_meas (α := Nat × Nat) (calls := fun _ => uS) (fun _ => uS_le) (keep := false) rfl (inner := noLoops) (by rw [hx]; exact fun p hp => absurd hp (by simp)) (fun q => S q.1 q.2)
    (fun q => lo ≤ q.1 ∧ q.1 ≤ q.2 ∧ q.2 ≤ hi ∧ (q.1 = lo ∨ P (q.1 - 1)) ∧ (q.2 = hi ∨ ¬ P q.2)) (fun q => q.2 - q.1) (lo, hi) hn ⟨Nat.le_refl _, hlh, Nat.le_refl _, .inl rfl, .inl rfl⟩ (hp _) hH ?_
  rintro ⟨i, j⟩ ⟨h1, h2, h3, h4, h5⟩ K hn' hx'
  simp only at h1 h2 h3 h4 h5
  rcases Nat.lt_or_eq_of_le h2 with h2 | rfl
  · refine hstep i j h1 h2 h3 K (fun hP => ?_) fun hP => ?_
    · exact hn' _ ((i + j) / 2 + 1, j) ⟨by show lo ≤ (i + j) / 2 + 1; omega, by show (i + j) / 2 + 1 ≤ j; omega, h3, .inr hP, h5⟩ (by show j - ((i + j) / 2 + 1) < j - i; omega) (hcut _ _)
    · exact hn' _ (i, (i + j) / 2) ⟨h1, by show i ≤ (i + j) / 2; omega, by show (i + j) / 2 ≤ hi; omega, h4, .inr hP⟩ (by show (i + j) / 2 - i < j - i; omega) (hcut _ _)
  · show Tot (codeL Try.prog polK uS noLoops 59 x (S i i) K) Q
    rw [hend i h1 h3, hx' _ _ (by simp)]
    exact hk i h1 h3 h4 h5
theorem searchA {l : List Rw} {a m b n : Nat} {k : Den.Exit → St → R} {Q : Out → Prop} (hl : l.length < 1000000000) (ha : a < l.length) (hmb : m ≤ b) (hb : b ≤ l.length) (hn : b - m < n)
    (hk : ∀ i, m ≤ i → i ≤ b → (i = m ∨ bytesLess (keyAt l (i - 1)) (keyAt l a) = true) → (i = b ∨ ¬ bytesLess (keyAt l i) (keyAt l a) = true) → Tot (k (.exit 0) (S59ae l a i i)) Q) :
    Tot (codeD Try.prog polK (bindK dK) n 59 (.loop (Code.part (bodyOf Try.prog 59) [0, 1, 0, 1, 1, 0, 0, 0])) (S59a l a m b) k) Q := by
  refine bs_loop (by kernel_rfl) (fun st => rfl) (fun i j => S59a l a i j) (fun i => S59ae l a i i) 0 (fun c => bytesLess (keyAt l c) (keyAt l a) = true) hmb hn (fun i j => rfl) rfl ?_ ?_ hk
  · intro i j h1 h2 h3 K hP hN
    rw [r59a, half (by omega)]
    generalize hc : (i + j) / 2 = c at *
    have c0 : decide ((i : Int) < (j : Int)) = true := by simpa using h2
    have t0 : ∀ m : Nat, decide ((0 : Int) ≤ ((m : Nat) : Int)) = true := by simp
    have t1 : ((c : Nat) : Int).toNat < l.length := by simp; omega
    have t2 : 0 + ((c : Nat) : Int).toNat < l.length := by simp; omega
    have t3 : ((a : Nat) : Int).toNat < l.length := by simp; omega
    have t4 : 0 + ((a : Nat) : Int).toNat < l.length := by simp; omega
    have w1 : IntKind.i64.wrap ((c : Int) + 1) = ((c + 1 : Nat) : Int) := wrap_nat (by omega) (by omega)
    rw [w1]
    simp only [c0, t0, decide_eq_true t1, decide_eq_true t2, decide_eq_true t3, decide_eq_true t4, dif_pos t2, dif_pos t4, cond_true, Bool.and_self, keyAt_get (i := c) rfl t2, keyAt_get (i := a) rfl t4, cmp_lt']
    refine Tot.chk (by simp) (Tot.cond (fun h => hP h) fun h => hN (by rw [h]; simp))
  · intro i h1 h2 K
    rw [r59a]
    have c0 : decide ((i : Int) < (i : Int)) = false := by simp
    unfold S59ae
    rw [c0]
    rfl
end Go.Proofs

/- Link: merging in place: more of the same. -/
namespace Go.Proofs
open Go.Den
set_option maxRecDepth 100000
theorem searchC {l : List Rw} {m lo hi n : Nat} {k : Den.Exit → St → R} {Q : Out → Prop} (hl : l.length < 1000000000) (hm : m < l.length) (hlh : lo ≤ hi) (hi' : hi ≤ l.length) (hn : hi - lo < n)
    (hk : ∀ i, lo ≤ i → i ≤ hi → (i = lo ∨ bytesLess (keyAt l m) (keyAt l (i - 1)) = false) → (i = hi ∨ ¬ bytesLess (keyAt l m) (keyAt l i) = false) → Tot (k (.exit 4) (S59ce l m i i)) Q) :
    Tot (codeD Try.prog polK (bindK dK) n 59 (.loop (Code.part (bodyOf Try.prog 59) [1, 0, 1, 0, 1, 1, 0, 0, 0])) (S59c l m lo hi) k) Q := by
  refine bs_loop (by kernel_rfl) (fun st => rfl) (fun i j => S59c l m i j) (fun i => S59ce l m i i) 4 (fun c => bytesLess (keyAt l m) (keyAt l c) = false) hlh hn (fun i j => rfl) rfl ?_ ?_ hk
  · intro i j h1 h2 h3 K hP hN
    rw [r59c, half (by omega)]
    generalize hc : (i + j) / 2 = c at *
    have c0 : decide ((i : Int) < (j : Int)) = true := by simpa using h2
    have t0 : ∀ m : Nat, decide ((0 : Int) ≤ ((m : Nat) : Int)) = true := by simp
    have t1 : ((c : Nat) : Int).toNat < l.length := by simp; omega
    have t2 : 0 + ((c : Nat) : Int).toNat < l.length := by simp; omega
    have t3 : ((m : Nat) : Int).toNat < l.length := by simp; omega
    have t4 : 0 + ((m : Nat) : Int).toNat < l.length := by simp; omega
    have w1 : IntKind.i64.wrap ((c : Int) + 1) = ((c + 1 : Nat) : Int) := wrap_nat (by omega) (by omega)
    rw [w1]
    simp only [c0, t0, decide_eq_true t1, decide_eq_true t3, dif_pos t2, dif_pos t4, cond_true, Bool.and_self, keyAt_get (i := c) rfl t2, keyAt_get (i := m) rfl t4, cmp_lt']
    refine Tot.chk (by simp) (Tot.cond (fun h => hP (by simpa using h)) fun h => hN (by simpa using h))
  · intro i h1 h2 K
    rw [r59c]
    have c0 : decide ((i : Int) < (i : Int)) = false := by simp
    unfold S59ce
    rw [c0]
    rfl
theorem searchE {l : List Rw} {a m b mid nn p lo hi n : Nat} {k : Den.Exit → St → R} {Q : Out → Prop} (hl : l.length < 1000000000) (hp : p < l.length + lo) (hlh : lo ≤ hi) (hip : hi ≤ p + 1) (hi' : hi ≤ l.length) (hn : hi - lo < n)
    (hk : ∀ i, lo ≤ i → i ≤ hi → (i = lo ∨ bytesLess (keyAt l (p - (i - 1))) (keyAt l (i - 1)) = false) → (i = hi ∨ ¬ bytesLess (keyAt l (p - i)) (keyAt l i) = false) → Tot (k (.exit 8) (S59ee l a m b mid nn i i p)) Q) :
    Tot (codeD Try.prog polK (bindK dK) n 59 (.loop (Code.part (bodyOf Try.prog 59) [1, 1, 1, 1, 1, 1, 1, 0, 0, 0])) (S59e l a m b mid nn lo hi p) k) Q := by
  refine bs_loop (by kernel_rfl) (fun st => rfl) (fun i j => S59e l a m b mid nn i j p) (fun i => S59ee l a m b mid nn i i p) 8 (fun c => bytesLess (keyAt l (p - c)) (keyAt l c) = false) hlh hn (fun i j => rfl) rfl ?_ ?_ hk
  · intro i j h1 h2 h3 K hP hN
    rw [r59e, half (by omega)]
    generalize hc : (i + j) / 2 = c at *
    have c0 : decide ((i : Int) < (j : Int)) = true := by simpa using h2
    have t0 : ∀ m : Nat, decide ((0 : Int) ≤ ((m : Nat) : Int)) = true := by simp
    have w2 : IntKind.i64.wrap ((p : Int) - (c : Int)) = ((p - c : Nat) : Int) := wrap_nat (by omega) (by omega)
    have t1 : ((c : Nat) : Int).toNat < l.length := by simp; omega
    have t2 : 0 + ((c : Nat) : Int).toNat < l.length := by simp; omega
    have t3 : ((p - c : Nat) : Int).toNat < l.length := by simp; omega
    have t4 : 0 + ((p - c : Nat) : Int).toNat < l.length := by simp; omega
    have w1 : IntKind.i64.wrap ((c : Int) + 1) = ((c + 1 : Nat) : Int) := wrap_nat (by omega) (by omega)
    rw [w1, w2]
    simp only [c0, t0, decide_eq_true t1, decide_eq_true t3, dif_pos t2, dif_pos t4, cond_true, Bool.and_self, keyAt_get (i := c) rfl t2, keyAt_get (i := p - c) rfl t4, cmp_lt']
    refine Tot.chk (by simp) (Tot.cond (fun h => hP (by simpa using h)) fun h => hN (by simpa using h))
  · intro i h1 h2 K
    rw [r59e]
    have c0 : decide ((i : Int) < (i : Int)) = false := by simp
    unfold S59ee
    rw [c0]
    rfl
structure Qm where (b1 b2 : List Rw)
theorem moveB {p y1 s : List Rw} {z : Rw} {N n : Nat} {i a : Int} (hl : (p ++ [z] ++ y1 ++ s).length < 1000000000) (hi : i = (p.length + 1 + y1.length : Nat)) (ha : a = p.length) (hn : y1.length < n) {lp : LoopK} :
    Tot (codeD Try.prog polK (bindK dK) n 59 (.loop (Code.part (bodyOf Try.prog 59) [0, 1, 0, 1, 1, 1, 0, 1, 0, 0])) (S59b (p ++ [z] ++ y1 ++ s) i a) (kBody Try.prog polK (u59 N) lp 59 [0, 1, 0, 1, 1, 1, 0, 1, 0] 1 .plain))
      (· = .ret (.tup []) [arL 4 0 rwR (p ++ y1 ++ [z] ++ s)] .plain) := by
  subst hi ha
  have hl0 : p.length + 1 + y1.length + s.length < 1000000000 := by simp at hl; omega
  refine loop_meas (α := Qm) (calls := fun _ => uS) (fun _ => uS_le) (keep := false) rfl (inner := noLoops) no_loops (fun q => S59b (p ++ q.b1 ++ [z] ++ q.b2 ++ s) (p.length + 1 + y1.length : Nat) (p.length + q.b1.length : Nat))
    (fun q => q.b1 ++ q.b2 = y1) (fun q => q.b2.length) ⟨[], y1⟩ (by simpa using hn) rfl (by
      show _ = S59b (p ++ [] ++ [z] ++ y1 ++ s) _ _
      rw [List.append_nil]
      rfl) (H := 1) rfl ?_
  rintro ⟨b1, b2⟩ hb K hn' hx'
  simp only at hb
  have hbl : b1.length + b2.length = y1.length := by rw [← hb]; simp
  have hll : (p ++ b1 ++ [z] ++ b2 ++ s).length = p.length + 1 + y1.length + s.length := by simp; omega
  have w0 : IntKind.i64.wrap (((p.length + 1 + y1.length : Nat) : Int) - 1) = ((p.length + y1.length : Nat) : Int) := wrap_nat (by omega) (by omega)
  show Tot (codeL _ _ _ _ _ _ (S59b (p ++ b1 ++ [z] ++ b2 ++ s) (p.length + 1 + y1.length : Nat) (p.length + b1.length : Nat)) K) _
  rw [r59b, w0]
  cases b2 with
  | nil =>
    have c0 : decide (((p.length + b1.length : Nat) : Int) < ((p.length + y1.length : Nat) : Int)) = false := by
      simp at hbl ⊢; omega
    rw [c0, cond_false, hx' _ _ (by simp)]
    have e := e59b lp N (p ++ b1 ++ [z] ++ [] ++ s) (p.length + 1 + y1.length : Nat) (p.length + b1.length : Nat)
    unfold S59be at e
    rw [w0, c0] at e
    refine Tot.eq e (Tot.some ?_)
    show Out.ret (.tup []) [arL 4 0 rwR (p ++ b1 ++ [z] ++ [] ++ s)] .plain = _
    rw [List.append_nil, ← hb, List.append_nil]
  | cons w b2 =>
    generalize hJ : p.length + b1.length = J
    have c0 : decide (((J : Nat) : Int) < ((p.length + y1.length : Nat) : Int)) = true := by
      simp at hbl ⊢; omega
    have hbl' : b1.length + (b2.length + 1) = y1.length := by simpa using hbl
    have t0 : ∀ m : Nat, decide ((0 : Int) ≤ ((m : Nat) : Int)) = true := by simp
    have w1 : IntKind.i64.wrap (((J : Nat) : Int) + 1) = ((J + 1 : Nat) : Int) := wrap_nat (by omega) (by omega)
    have t1 : ((J + 1 : Nat) : Int).toNat < (p ++ b1 ++ [z] ++ (w :: b2) ++ s).length := by rw [hll]; simp; omega
    have t2 : 0 + ((J + 1 : Nat) : Int).toNat < (p ++ b1 ++ [z] ++ (w :: b2) ++ s).length := by rw [Nat.zero_add]; exact t1
    have t3 : ((J : Nat) : Int).toNat < (p ++ b1 ++ [z] ++ (w :: b2) ++ s).length := by rw [hll]; simp; omega
    have t4 : 0 + ((J : Nat) : Int).toNat < (p ++ b1 ++ [z] ++ (w :: b2) ++ s).length := by rw [Nat.zero_add]; exact t3
    rw [w1]
    simp only [c0, t0, decide_eq_true t1, decide_eq_true t2, decide_eq_true t3, decide_eq_true t4, dif_pos t2, dif_pos t4, cond_true, Bool.and_self]
    have hsw : sw (p ++ b1 ++ [z] ++ (w :: b2) ++ s) J (J + 1) = p ++ (b1 ++ [w]) ++ [z] ++ b2 ++ s := by
      have := sw_at (p ++ b1) [] (b2 ++ s) z w (i := J) (j := J + 1) (by simp; omega) (by simp; omega)
      have e1 : p ++ b1 ++ [z] ++ (w :: b2) ++ s = p ++ b1 ++ z :: [] ++ w :: (b2 ++ s) := by simp
      rw [e1, this]
      simp
    have hlen : (p ++ b1 ++ [z] ++ (w :: b2) ++ s).length = (p ++ (b1 ++ [w]) ++ [z] ++ b2 ++ s).length := by simp
    refine norm1 (sw_arr _ J (J + 1) (by rw [hll]; omega) (by rw [hll]; omega) (x := 0 + ((J : Nat) : Int).toNat) (y := 0 + ((J + 1 : Nat) : Int).toNat) (Nat.zero_add _) (Nat.zero_add _) t4 t2) ?_
    have hJ' : J + 1 = p.length + (b1 ++ [w]).length := by simp; omega
    rw [hsw, hlen, hJ']
    exact hn' _ ⟨b1 ++ [w], b2⟩ (by show b1 ++ [w] ++ b2 = y1; rw [← hb]; simp) (by simp) rfl
theorem moveD {p x2 s : List Rw} {z : Rw} {N n : Nat} {i a : Int} (hl : (p ++ x2 ++ [z] ++ s).length < 1000000000) (hi : i = (p.length : Nat)) (ha : a = (p.length + x2.length : Nat)) (hn : x2.length < n) {lp : LoopK} :
    Tot (codeD Try.prog polK (bindK dK) n 59 (.loop (Code.part (bodyOf Try.prog 59) [1, 0, 1, 0, 1, 1, 1, 0, 1, 0, 0])) (S59d (p ++ x2 ++ [z] ++ s) i a) (kBody Try.prog polK (u59 N) lp 59 [1, 0, 1, 0, 1, 1, 1, 0, 1, 0] 1 .plain))
      (· = .ret (.tup []) [arL 4 0 rwR (p ++ [z] ++ x2 ++ s)] .plain) := by
  subst hi ha
  have hl0 : p.length + 1 + x2.length + s.length < 1000000000 := by simp at hl; omega
  refine loop_meas (α := Qm) (calls := fun _ => uS) (fun _ => uS_le) (keep := false) rfl (inner := noLoops) no_loops (fun q => S59d (p ++ q.b1 ++ [z] ++ q.b2 ++ s) (p.length : Nat) (p.length + q.b1.length : Nat))
    (fun q => q.b1 ++ q.b2 = x2) (fun q => q.b1.length) ⟨x2, []⟩ (by simpa using hn) (by simp) (by
      show _ = S59d (p ++ x2 ++ [z] ++ [] ++ s) _ _
      rw [List.append_nil]
      rfl) (H := 1) rfl ?_
  rintro ⟨b1, b2⟩ hb K hn' hx'
  simp only at hb
  have hbl : b1.length + b2.length = x2.length := by rw [← hb]; simp
  have hll : (p ++ b1 ++ [z] ++ b2 ++ s).length = p.length + 1 + x2.length + s.length := by simp; omega
  show Tot (codeL _ _ _ _ _ _ (S59d (p ++ b1 ++ [z] ++ b2 ++ s) (p.length : Nat) (p.length + b1.length : Nat)) K) _
  rcases nil_snoc b1 with rfl | ⟨b1, w, rfl⟩
  · rw [r59d]
    have c0 : decide (((p.length + ([] : List Rw).length : Nat) : Int) > ((p.length : Nat) : Int)) = false := by simp
    rw [c0, cond_false, hx' _ _ (by simp)]
    have e := e59d lp N (p ++ [] ++ [z] ++ b2 ++ s) (p.length : Nat) (p.length + ([] : List Rw).length : Nat)
    unfold S59de at e
    rw [c0] at e
    refine Tot.eq e (Tot.some ?_)
    show Out.ret (.tup []) [arL 4 0 rwR (p ++ [] ++ [z] ++ b2 ++ s)] .plain = _
    rw [List.append_nil, ← hb, List.nil_append]
  · generalize hJ : p.length + b1.length = J
    have hj : p.length + (b1 ++ [w]).length = J + 1 := by simp; omega
    have hbl' : b1.length + 1 + b2.length = x2.length := by simpa using hbl
    rw [hj, r59d]
    have c0 : decide (((J + 1 : Nat) : Int) > ((p.length : Nat) : Int)) = true := by simp; omega
    have t0 : ∀ m : Nat, decide ((0 : Int) ≤ ((m : Nat) : Int)) = true := by simp
    have w1 : IntKind.i64.wrap (((J + 1 : Nat) : Int) - 1) = ((J : Nat) : Int) := wrap_nat (by omega) (by omega)
    have t1 : ((J + 1 : Nat) : Int).toNat < (p ++ (b1 ++ [w]) ++ [z] ++ b2 ++ s).length := by rw [hll]; simp; omega
    have t2 : 0 + ((J + 1 : Nat) : Int).toNat < (p ++ (b1 ++ [w]) ++ [z] ++ b2 ++ s).length := by rw [Nat.zero_add]; exact t1
    have t3 : ((J : Nat) : Int).toNat < (p ++ (b1 ++ [w]) ++ [z] ++ b2 ++ s).length := by rw [hll]; simp; omega
    have t4 : 0 + ((J : Nat) : Int).toNat < (p ++ (b1 ++ [w]) ++ [z] ++ b2 ++ s).length := by rw [Nat.zero_add]; exact t3
    rw [w1]
    simp only [c0, t0, decide_eq_true t1, decide_eq_true t2, decide_eq_true t3, decide_eq_true t4, dif_pos t2, dif_pos t4, cond_true, Bool.and_self]
    have hsw : sw (p ++ (b1 ++ [w]) ++ [z] ++ b2 ++ s) (J + 1) J = p ++ b1 ++ [z] ++ (w :: b2) ++ s := by
      rw [sw_comm]
      have := sw_at (p ++ b1) [] (b2 ++ s) w z (i := J) (j := J + 1) (by simp; omega) (by simp; omega)
      have e1 : p ++ (b1 ++ [w]) ++ [z] ++ b2 ++ s = p ++ b1 ++ w :: [] ++ z :: (b2 ++ s) := by simp
      rw [e1, this]
      simp
    have hlen : (p ++ (b1 ++ [w]) ++ [z] ++ b2 ++ s).length = (p ++ b1 ++ [z] ++ (w :: b2) ++ s).length := by simp
    refine norm1 (sw_arr _ (J + 1) J (by rw [hll]; omega) (by rw [hll]; omega) (x := 0 + ((J + 1 : Nat) : Int).toNat) (y := 0 + ((J : Nat) : Int).toNat) (Nat.zero_add _) (Nat.zero_add _) t2 t4) ?_
    rw [hsw, hlen, ← hJ]
    exact hn' _ ⟨b1, w :: b2⟩ (by show b1 ++ w :: b2 = x2; rw [← hb]; simp) (by simp) rfl
end Go.Proofs

/- Link: merging in place: the contract. -/
namespace Go.Proofs
open Go.Den
set_option maxRecDepth 100000
noncomputable def t3 (N n : Nat) (l : List Rw) (mid e b : Int) : R :=
  cond (cond (decide (mid < e)) (decide (e < b)) false) (pickX (fun q : Q4 => AV.sr 0 0 0 n = .sr 0 0 0 q.l.length ∧ [arL 4 0 rwR l] = [arL 4 0 rwR q.l] ∧ PS.plain = .plain ∧ q.ok N mid e b) (fun q => some (.ret (.tup []) [arL 4 0 rwR q.mrg] .plain))) (some (.ret (.tup []) [arL 4 0 rwR l] .plain))
noncomputable def t2 (N n : Nat) (l : List Rw) (a s mid e b : Int) : R :=
  cond (cond (decide (a < s)) (decide (s < mid)) false) (pickX (fun q : Q4 => AV.sr 0 0 0 n = .sr 0 0 0 q.l.length ∧ [arL 4 0 rwR l] = [arL 4 0 rwR q.l] ∧ PS.plain = .plain ∧ q.ok N a s mid) (fun q => t3 N n q.mrg mid e b)) (t3 N n l mid e b)
noncomputable def t1 (N : Nat) (l : List Rw) (a m b mid s e : Int) : R :=
  cond (cond (decide (s < m)) (decide (m < e)) false) (pickX (fun q : Q4 => AV.sr 0 0 0 l.length = .sr 0 0 0 q.l.length ∧ [arL 4 0 rwR l] = [arL 4 0 rwR q.l] ∧ PS.plain = .plain ∧ q.at_ s m e) (fun q => t2 N l.length q.rot a s mid e b)) (t2 N l.length l a s mid e b)
theorem e59t (loops : LoopK) (N : Nat) (l : List Rw) (a m b mid n s r p : Int) : (kBody Try.prog polK (u59 N) loops 59 [1, 1, 1, 1, 1, 1, 1, 0, 0] 1 .plain) (.exit 8) (S59ee l a m b mid n s r p) = t1 N l a m b mid s (IntKind.i64.wrap (n - s)) := by
  rw [e59e]
  kernel_rfl
theorem isort_self {l : List Rw} (h : Srt l) : isort l = l := (isort_eq h (Stb.refl l)).symm
theorem mrg_ne {x y : List Rw} (hx : Srt x) (hy : Srt y) (h : x = [] ∨ y = []) : isort (x ++ y) = x ++ y := by
  rcases h with rfl | rfl
  · exact isort_self hy
  · rw [List.append_nil]; exact isort_self hx
theorem Q4.uniq {q : Q4} {p x y s : List Rw} (hl : p ++ x ++ y ++ s = q.l) (h1 : (p.length : Int) = q.p.length) (h2 : ((p.length + x.length : Nat) : Int) = (q.p.length + q.x.length : Nat)) (h3 : ((p.length + x.length + y.length : Nat) : Int) = (q.p.length + q.x.length + q.y.length : Nat)) : q = ⟨p, x, y, s⟩ := by
  obtain ⟨p', x', y', s'⟩ := q
  simp only [Q4.l] at hl h1 h2 h3
  have := List.append_inj (s₁ := p) (t₁ := x ++ (y ++ s)) (s₂ := p') (t₂ := x' ++ (y' ++ s')) (by simpa using hl) (by omega)
  obtain ⟨rfl, k2⟩ := this
  obtain ⟨rfl, k3⟩ := List.append_inj k2 (by omega)
  obtain ⟨rfl, rfl⟩ := List.append_inj k3 (by omega)
  rfl
theorem t3_ok {N n : Nat} {p x y s : List Rw} {mid e b : Nat} (hn : n = (p ++ x ++ y ++ s).length) (hl : (p ++ x ++ y ++ s).length < 1000000000) (hx : Srt x) (hy : Srt y) (hN : x.length + y.length < N)
    (h1 : mid = p.length) (h2 : e = p.length + x.length) (h3 : b = p.length + x.length + y.length) :
    Tot (t3 N n (p ++ x ++ y ++ s) mid e b) (· = .ret (.tup []) [arL 4 0 rwR (p ++ isort (x ++ y) ++ s)] .plain) := by
  subst h1 h2 h3 hn
  unfold t3
  by_cases hne : x = [] ∨ y = []
  · have c0 : cond (decide (((p.length : Nat) : Int) < ((p.length + x.length : Nat) : Int))) (decide (((p.length + x.length : Nat) : Int) < ((p.length + x.length + y.length : Nat) : Int))) false = false := by
      rcases hne with rfl | rfl <;> simp
    rw [c0, cond_false, mrg_ne hx hy hne]
    exact Tot.some (by simp)
  · have hx0 : 0 < x.length := List.length_pos_iff.2 fun e => hne (.inl e)
    have hy0 : 0 < y.length := List.length_pos_iff.2 fun e => hne (.inr e)
    have c0 : cond (decide (((p.length : Nat) : Int) < ((p.length + x.length : Nat) : Int))) (decide (((p.length + x.length : Nat) : Int) < ((p.length + x.length + y.length : Nat) : Int))) false = true := by
      have c1 : decide (((p.length : Nat) : Int) < ((p.length + x.length : Nat) : Int)) = true := by simp; omega
      have c2 : decide (((p.length + x.length : Nat) : Int) < ((p.length + x.length + y.length : Nat) : Int)) = true := by simp; omega
      rw [c1, c2]; rfl
    rw [c0, cond_true]
    refine Tot.pickX ⟨⟨p, x, y, s⟩, rfl, rfl, rfl, ⟨fun e => hne (.inl e), fun e => hne (.inr e), hl, rfl, rfl, rfl⟩, hx, hy, hN⟩ ?_
    rintro q ⟨_, hh, _, ⟨_, _, _, g1, g2, g3⟩, _, _, _⟩
    obtain rfl := Q4.uniq (arL_inj hh) g1 g2 g3
    exact Tot.some rfl
theorem t2_ok {N n : Nat} {p x1 y1 x2 y2 s : List Rw} {a st mid e b : Nat} (hn : n = (p ++ x1 ++ y1 ++ (x2 ++ y2 ++ s)).length) (hl : (p ++ x1 ++ y1 ++ (x2 ++ y2 ++ s)).length < 1000000000) (hx1 : Srt x1) (hy1 : Srt y1) (hx2 : Srt x2) (hy2 : Srt y2)
    (hN : x1.length + y1.length < N) (hN2 : x2.length + y2.length < N) (ha : a = p.length) (hs : st = p.length + x1.length) (hm : mid = p.length + x1.length + y1.length) (he : e = p.length + x1.length + y1.length + x2.length) (hb : b = p.length + x1.length + y1.length + x2.length + y2.length) :
    Tot (t2 N n (p ++ x1 ++ y1 ++ (x2 ++ y2 ++ s)) a st mid e b) (· = .ret (.tup []) [arL 4 0 rwR (p ++ isort (x1 ++ y1) ++ isort (x2 ++ y2) ++ s)] .plain) := by
  have hi : (isort (x1 ++ y1)).length = x1.length + y1.length := by rw [← (isort_ok (x1 ++ y1)).2.1]; simp
  have fin : Tot (t3 N n (p ++ isort (x1 ++ y1) ++ (x2 ++ y2 ++ s)) mid e b) (· = .ret (.tup []) [arL 4 0 rwR (p ++ isort (x1 ++ y1) ++ isort (x2 ++ y2) ++ s)] .plain) := by
    have e1 : p ++ isort (x1 ++ y1) ++ (x2 ++ y2 ++ s) = p ++ isort (x1 ++ y1) ++ x2 ++ y2 ++ s := by simp
    have hlen : (p ++ isort (x1 ++ y1) ++ x2 ++ y2 ++ s).length = (p ++ x1 ++ y1 ++ (x2 ++ y2 ++ s)).length := by simp [hi]; omega
    rw [e1]
    exact t3_ok (by rw [hlen]; exact hn) (by rw [hlen]; exact hl) hx2 hy2 hN2 (by simp [hi]; omega) (by simp [hi]; omega) (by simp [hi]; omega)
  subst ha hs hm
  unfold t2
  by_cases hne : x1 = [] ∨ y1 = []
  · have c0 : cond (decide (((p.length : Nat) : Int) < ((p.length + x1.length : Nat) : Int))) (decide (((p.length + x1.length : Nat) : Int) < ((p.length + x1.length + y1.length : Nat) : Int))) false = false := by
      rcases hne with rfl | rfl <;> simp
    rw [mrg_ne hx1 hy1 hne] at fin ⊢
    rw [c0, cond_false]
    simpa using fin
  · have hx0 : 0 < x1.length := List.length_pos_iff.2 fun e => hne (.inl e)
    have hy0 : 0 < y1.length := List.length_pos_iff.2 fun e => hne (.inr e)
    have c0 : cond (decide (((p.length : Nat) : Int) < ((p.length + x1.length : Nat) : Int))) (decide (((p.length + x1.length : Nat) : Int) < ((p.length + x1.length + y1.length : Nat) : Int))) false = true := by
      have c1 : decide (((p.length : Nat) : Int) < ((p.length + x1.length : Nat) : Int)) = true := by simp; omega
      have c2 : decide (((p.length + x1.length : Nat) : Int) < ((p.length + x1.length + y1.length : Nat) : Int)) = true := by simp; omega
      rw [c1, c2]; rfl
    rw [c0, cond_true, hn]
    refine Tot.pickX ⟨⟨p, x1, y1, x2 ++ y2 ++ s⟩, rfl, rfl, rfl, ⟨fun e => hne (.inl e), fun e => hne (.inr e), hl, rfl, rfl, rfl⟩, hx1, hy1, hN⟩ ?_
    rintro q ⟨_, hh, _, ⟨_, _, _, g1, g2, g3⟩, _, _, _⟩
    obtain rfl := Q4.uniq (arL_inj hh) g1 g2 g3
    rw [← hn]
    exact fin
end Go.Proofs

/- Link: merging in place: the contract. -/
namespace Go.Proofs
open Go.Den
set_option maxRecDepth 100000
theorem t1_ok {N : Nat} {p x1 y1 x2 y2 s : List Rw} {a st m mid e b : Nat} (hl : (p ++ (x1 ++ x2) ++ (y1 ++ y2) ++ s).length < 1000000000) (hx1 : Srt x1) (hy1 : Srt y1) (hx2 : Srt x2) (hy2 : Srt y2)
    (hN : x1.length + y1.length < N) (hN2 : x2.length + y2.length < N) (ha : a = p.length) (hs : st = p.length + x1.length) (hm' : m = p.length + x1.length + x2.length) (hm : mid = p.length + x1.length + y1.length) (he : e = p.length + x1.length + y1.length + x2.length) (hb : b = p.length + x1.length + y1.length + x2.length + y2.length) :
    Tot (t1 N (p ++ (x1 ++ x2) ++ (y1 ++ y2) ++ s) a m b mid st e) (· = .ret (.tup []) [arL 4 0 rwR (p ++ isort (x1 ++ y1) ++ isort (x2 ++ y2) ++ s)] .plain) := by
  have hlen : (p ++ (x1 ++ x2) ++ (y1 ++ y2) ++ s).length = (p ++ x1 ++ y1 ++ (x2 ++ y2 ++ s)).length := by simp; omega
  have fin := t2_ok (N := N) (p := p) (x1 := x1) (y1 := y1) (x2 := x2) (y2 := y2) (s := s) hlen (by rw [← hlen]; exact hl) hx1 hy1 hx2 hy2 hN hN2 ha hs hm he hb
  unfold t1
  by_cases hne : x2 = [] ∨ y1 = []
  · have c0 : cond (decide (((st : Nat) : Int) < ((m : Nat) : Int))) (decide (((m : Nat) : Int) < ((e : Nat) : Int))) false = false := by
      subst hs hm' he
      rcases hne with rfl | rfl <;> simp
    have e1 : p ++ (x1 ++ x2) ++ (y1 ++ y2) ++ s = p ++ x1 ++ y1 ++ (x2 ++ y2 ++ s) := by rcases hne with rfl | rfl <;> simp
    rw [c0, cond_false, e1]
    rw [e1] at fin
    exact fin
  · have hx0 : 0 < x2.length := List.length_pos_iff.2 fun e => hne (.inl e)
    have hy0 : 0 < y1.length := List.length_pos_iff.2 fun e => hne (.inr e)
    have c0 : cond (decide (((st : Nat) : Int) < ((m : Nat) : Int))) (decide (((m : Nat) : Int) < ((e : Nat) : Int))) false = true := by
      have c1 : decide (((st : Nat) : Int) < ((m : Nat) : Int)) = true := by simp; omega
      have c2 : decide (((m : Nat) : Int) < ((e : Nat) : Int)) = true := by simp; omega
      rw [c1, c2]; rfl
    have e1 : p ++ (x1 ++ x2) ++ (y1 ++ y2) ++ s = (p ++ x1) ++ x2 ++ y1 ++ (y2 ++ s) := by simp
    have q1 : (p ++ x1).length = p.length + x1.length := by simp
    rw [c0, cond_true]
    refine Tot.pickX ⟨⟨p ++ x1, x2, y1, y2 ++ s⟩, by rw [e1]; rfl, by rw [e1]; rfl, rfl, ⟨fun e => hne (.inl e), fun e => hne (.inr e), by (show (p ++ x1 ++ x2 ++ y1 ++ (y2 ++ s)).length < _); rw [← e1]; exact hl, by simp only [q1]; omega, by simp only [q1]; omega, by simp only [q1]; omega⟩⟩ ?_
    rintro q ⟨_, hh, _, _, _, _, g1, g2, g3⟩
    rw [e1] at hh
    obtain rfl := Q4.uniq (arL_inj hh) (by rw [← g1, q1]; omega) (by rw [← g2, q1]; omega) (by rw [← g3, q1]; omega)
    have e2 : Q4.rot ⟨p ++ x1, x2, y1, y2 ++ s⟩ = p ++ x1 ++ y1 ++ (x2 ++ y2 ++ s) := by simp [Q4.rot]
    rw [e2]
    exact fin
def G59 (N : Nat) : Prop := ∀ (q : Q4) (a m b : Int), q.ok N a m b → dK 59 [.sr 0 0 0 q.l.length, .int .i64 a, .int .i64 m, .int .i64 b, .fn 38 []] [arL 4 0 rwR q.l] .plain = some (.ret (.tup []) [arL 4 0 rwR q.mrg] .plain)
theorem u59_le {N : Nat} (ih : G59 N) : CallLeK (u59 N) dK := by
  intro f args h ps kk o x
  unfold u59 at x
  split at x
  · obtain ⟨q, ⟨rfl, rfl, rfl, h1, h2, h3, h4, h5, h6⟩, x'⟩ := pickX_some x
    exact ⟨_, x', v84 h1 h2 h3 h4 h5 h6⟩
  · obtain ⟨q, ⟨rfl, rfl, rfl, hk⟩, x'⟩ := pickX_some x
    exact ⟨_, x', ih _ _ _ _ hk⟩
  · cases x
/-- a sorted list, cut where a search ends -/
theorem srt_last {x : List Rw} {w z : Rw} (h : Srt (x ++ [w])) (hz : z ∈ x ++ [w]) : Le z w := by
  rcases List.mem_append.1 hz with hz | hz
  · exact (List.pairwise_append.1 h).2.2 z hz w (by simp)
  · rw [List.mem_singleton.1 hz]; exact Le.refl _
theorem srt_head {x : List Rw} {w z : Rw} (h : Srt (w :: x)) (hz : z ∈ w :: x) : Le w z := by
  rcases List.mem_cons.1 hz with rfl | hz
  · exact Le.refl _
  · exact (List.pairwise_cons.1 h).1 z hz
/-- two sorted lists, cut across: what comes of it -/
theorem cross {x1 x2 y1 y2 : List Rw} (hx : Srt (x1 ++ x2)) (hy : Srt (y1 ++ y2)) (h1 : ∀ a ∈ x1, ∀ b ∈ y2, Le a b) (h2 : ∀ a ∈ y1, ∀ b ∈ x2, Lt a b) : isort (x1 ++ y1) ++ isort (x2 ++ y2) = isort ((x1 ++ x2) ++ (y1 ++ y2)) := by
  have hx' := List.pairwise_append.1 hx
  have hy' := List.pairwise_append.1 hy
  have o1 := isort_ok (x1 ++ y1)
  have o2 := isort_ok (x2 ++ y2)
  refine isort_eq (List.pairwise_append.2 ⟨o1.1, o2.1, fun a ha b hb => ?_⟩) ?_
  · rw [← o1.2.mem, List.mem_append] at ha
    rw [← o2.2.mem, List.mem_append] at hb
    rcases ha with ha | ha <;> rcases hb with hb | hb
    · exact hx'.2.2 a ha b hb
    · exact h1 a ha b hb
    · exact (h2 a ha b hb).le
    · exact hy'.2.2 a ha b hb
  · refine Stb.trans ?_ (Stb.app o1.2 o2.2)
    have e1 : x1 ++ x2 ++ (y1 ++ y2) = x1 ++ (x2 ++ y1) ++ y2 := by simp
    have e2 : x1 ++ y1 ++ (x2 ++ y2) = x1 ++ (y1 ++ x2) ++ y2 := by simp
    rw [e1, e2]
    exact Stb.app (Stb.app (Stb.refl _) (Stb.swap fun a ha b hb => (h2 b hb a ha).ne.symm)) (Stb.refl _)
end Go.Proofs

/- Link: merging in place: the contract, by induction. -/
namespace Go.Proofs
open Go.Den
set_option maxRecDepth 100000
theorem cut_at {x : List Rw} {i : Nat} (h : i ≤ x.length) : ∃ x1 x2, x = x1 ++ x2 ∧ x1.length = i := ⟨x.take i, x.drop i, (List.take_append_drop ..).symm, by simp; omega⟩
theorem one_of {x : List Rw} (h : x.length = 1) : ∃ z, x = [z] := List.length_eq_one_iff.1 h
theorem ok_one {N : Nat} {p y s : List Rw} {z : Rw} {n : Nat} (hl : (p ++ [z] ++ y ++ s).length < 1000000000) (hy : Srt y) (hn : y.length < n) {lp : LoopK} (hlp : lp = lpR Try.prog polK dK n 59 (loopsOf (bodyOf Try.prog 59))) {a m b : Int} (ha : a = p.length) (hm : m = (p.length + 1 : Nat)) (hb : b = (p.length + 1 + y.length : Nat)) :
    Tot (codeD Try.prog polK (bindK dK) n 59 (.loop (Code.part (bodyOf Try.prog 59) [0, 1, 0, 1, 1, 0, 0, 0])) (S59a (p ++ [z] ++ y ++ s) a m b) (kBody Try.prog polK (u59 N) lp 59 [0, 1, 0, 1, 1, 0, 0] 1 .plain))
      (· = .ret (.tup []) [arL 4 0 rwR (p ++ isort ([z] ++ y) ++ s)] .plain) := by
  subst ha hm hb
  have hl0 : p.length + 1 + y.length + s.length < 1000000000 := by simp at hl; omega
  have hll : (p ++ [z] ++ y ++ s).length = p.length + 1 + y.length + s.length := by simp; omega
  refine searchA hl (by rw [hll]; omega) (by omega) (by rw [hll]; omega) (by omega) fun i h1 h2 h3 h4 => ?_
  obtain ⟨y1, y2, rfl, hy1⟩ := cut_at (x := y) (i := i - (p.length + 1)) (by omega)
  have hi : i = p.length + 1 + y1.length := by omega
  have hyl : (y1 ++ y2).length = y1.length + y2.length := List.length_append ..
  have ka : keyAt (p ++ [z] ++ (y1 ++ y2) ++ s) p.length = z.key := keyAt_at (p := p) (s := y1 ++ y2 ++ s) (by simp) rfl
  rw [ka] at h3 h4
  have hy' := List.pairwise_append.1 hy
  have f1 : ∀ a ∈ y1, Lt a z := by
    rcases nil_snoc y1 with rfl | ⟨y1', w, rfl⟩
    · simp
    · have hl1 : (y1' ++ [w]).length = y1'.length + 1 := by simp
      rcases h3 with h3 | h3
      · omega
      · rw [keyAt_at (p := p ++ [z] ++ y1') (s := y2 ++ s) (x := w) (by simp) (by simp; omega)] at h3
        exact fun a ha => (srt_last hy'.1 ha).lt_trans h3
  have f2 : ∀ b ∈ y2, Le z b := by
    cases y2 with
    | nil => simp
    | cons w y2 =>
      have hl2 : (w :: y2).length = y2.length + 1 := rfl
      rcases h4 with h4 | h4
      · omega
      · rw [keyAt_at (p := p ++ [z] ++ y1) (s := y2 ++ s) (x := w) (by simp) (by simp; omega)] at h4
        have : Le z w := by simpa [Le] using h4
        exact fun b hb => this.trans (srt_head hy'.2.1 hb)
  have hs : p ++ isort ([z] ++ (y1 ++ y2)) ++ s = p ++ y1 ++ [z] ++ (y2 ++ s) := by
    have := isort_eq (l := [z] ++ (y1 ++ y2)) (m := y1 ++ [z] ++ y2) (List.pairwise_append.2 ⟨List.pairwise_append.2 ⟨hy'.1, List.pairwise_singleton _ _, fun a ha b hb => by rw [List.mem_singleton.1 hb]; exact (f1 a ha).le⟩, hy'.2.1, fun a ha b hb => ?_⟩) ?_
    · rw [← this]; simp
    · rcases List.mem_append.1 ha with ha | ha
      · exact hy'.2.2 a ha b hb
      · rw [List.mem_singleton.1 ha]; exact f2 b hb
    · rw [← List.append_assoc]
      exact Stb.app (Stb.swap fun a ha b hb => by rw [List.mem_singleton.1 ha]; exact (f1 b hb).ne.symm) (Stb.refl _)
  refine Tot.eq (e59a lp N (p ++ [z] ++ (y1 ++ y2) ++ s) p.length i i) ?_
  have e1 : p ++ [z] ++ (y1 ++ y2) ++ s = p ++ [z] ++ y1 ++ (y2 ++ s) := by simp
  rw [hlp, lpR_at (x := Code.part (bodyOf Try.prog 59) [0, 1, 0, 1, 1, 1, 0, 1, 0, 0]) (by kernel_rfl), hs, e1]
  exact moveB (N := N) (n := n) (p := p) (y1 := y1) (s := y2 ++ s) (z := z) (by rw [← e1]; exact hl) (by rw [hi]) rfl (by omega)
theorem ok_last {N : Nat} {p x s : List Rw} {z : Rw} {n : Nat} (hl : (p ++ x ++ [z] ++ s).length < 1000000000) (hx : Srt x) (hn : x.length < n) {lp : LoopK} (hlp : lp = lpR Try.prog polK dK n 59 (loopsOf (bodyOf Try.prog 59))) {a m : Int} (ha : a = p.length) (hm : m = (p.length + x.length : Nat)) :
    Tot (codeD Try.prog polK (bindK dK) n 59 (.loop (Code.part (bodyOf Try.prog 59) [1, 0, 1, 0, 1, 1, 0, 0, 0])) (S59c (p ++ x ++ [z] ++ s) m a m) (kBody Try.prog polK (u59 N) lp 59 [1, 0, 1, 0, 1, 1, 0, 0] 1 .plain))
      (· = .ret (.tup []) [arL 4 0 rwR (p ++ isort (x ++ [z]) ++ s)] .plain) := by
  subst ha hm
  have hl0 : p.length + 1 + x.length + s.length < 1000000000 := by simp at hl; omega
  have hll : (p ++ x ++ [z] ++ s).length = p.length + x.length + 1 + s.length := by simp; omega
  refine searchC hl (by rw [hll]; omega) (by omega) (by rw [hll]; omega) (by omega) fun i h1 h2 h3 h4 => ?_
  obtain ⟨x1, x2, rfl, hx1⟩ := cut_at (x := x) (i := i - p.length) (by omega)
  have hi : i = p.length + x1.length := by omega
  have hxl : (x1 ++ x2).length = x1.length + x2.length := List.length_append ..
  have ka : keyAt (p ++ (x1 ++ x2) ++ [z] ++ s) (p.length + (x1 ++ x2).length) = z.key := keyAt_at (p := p ++ (x1 ++ x2)) (s := s) (by simp) (by simp)
  rw [ka] at h3 h4
  have hx' := List.pairwise_append.1 hx
  have f1 : ∀ a ∈ x1, Le a z := by
    rcases nil_snoc x1 with rfl | ⟨x1', w, rfl⟩
    · simp
    · have hl1 : (x1' ++ [w]).length = x1'.length + 1 := by simp
      rcases h3 with h3 | h3
      · omega
      · rw [keyAt_at (p := p ++ x1') (s := x2 ++ [z] ++ s) (x := w) (by simp) (by simp; omega)] at h3
        have h3' : Le w z := h3
        exact fun a ha => (srt_last hx'.1 ha).trans h3'
  have f2 : ∀ b ∈ x2, Lt z b := by
    cases x2 with
    | nil => simp
    | cons w x2 =>
      have hl2 : (w :: x2).length = x2.length + 1 := rfl
      rcases h4 with h4 | h4
      · omega
      · rw [keyAt_at (p := p ++ x1) (s := x2 ++ [z] ++ s) (x := w) (by simp) (by simp; omega)] at h4
        have : Lt z w := by simpa [Lt] using h4
        exact fun b hb => this.le_trans (srt_head hx'.2.1 hb)
  have hs : p ++ isort ((x1 ++ x2) ++ [z]) ++ s = (p ++ x1) ++ [z] ++ x2 ++ s := by
    have := isort_eq (l := x1 ++ x2 ++ [z]) (m := x1 ++ ([z] ++ x2)) (List.pairwise_append.2 ⟨hx'.1, List.pairwise_append.2 ⟨List.pairwise_singleton _ _, hx'.2.1, fun a ha b hb => by rw [List.mem_singleton.1 ha]; exact (f2 b hb).le⟩, fun a ha b hb => ?_⟩) ?_
    · rw [← this]; simp
    · rcases List.mem_append.1 hb with hb | hb
      · rw [List.mem_singleton.1 hb]; exact f1 a ha
      · exact hx'.2.2 a ha b hb
    · rw [List.append_assoc]
      exact Stb.app (Stb.refl _) (Stb.swap fun a ha b hb => by rw [List.mem_singleton.1 hb]; exact (f2 a ha).ne.symm)
  refine Tot.eq (e59c lp N (p ++ (x1 ++ x2) ++ [z] ++ s) (p.length + (x1 ++ x2).length : Nat) i i) ?_
  have e1 : p ++ (x1 ++ x2) ++ [z] ++ s = (p ++ x1) ++ x2 ++ [z] ++ s := by simp
  rw [hlp, lpR_at (x := Code.part (bodyOf Try.prog 59) [1, 0, 1, 0, 1, 1, 1, 0, 1, 0, 0]) (by kernel_rfl), hs, e1]
  exact moveD (N := N) (n := n) (p := p ++ x1) (x2 := x2) (s := s) (z := z) (by rw [← e1]; exact hl) (by rw [hi]; simp) (by simp; omega) (by omega)
theorem ok_gen {N : Nat} {p x y s : List Rw} {n a m b mid nn lo hi : Nat} (hl : (p ++ x ++ y ++ s).length < 1000000000) (hx : Srt x) (hy : Srt y) (hx2 : 2 ≤ x.length) (hy2 : 2 ≤ y.length) (hN : x.length + y.length ≤ N) (hn : x.length + y.length < n) {lp : LoopK} (ha : a = p.length) (hm : m = p.length + x.length) (hb : b = p.length + x.length + y.length)
    (hmid : mid = (a + b) / 2) (hnn : nn = mid + m) (hlo : lo = if m > mid then nn - b else a) (hhi : hi = if m > mid then mid else m) {pp : Int} (hpp : pp = (nn - 1 : Nat)) :
    Tot (codeD Try.prog polK (bindK dK) n 59 (.loop (Code.part (bodyOf Try.prog 59) [1, 1, 1, 1, 1, 1, 1, 0, 0, 0])) (S59e (p ++ x ++ y ++ s) a m b mid nn lo hi pp) (kBody Try.prog polK (u59 N) lp 59 [1, 1, 1, 1, 1, 1, 1, 0, 0] 1 .plain))
      (· = .ret (.tup []) [arL 4 0 rwR (p ++ isort (x ++ y) ++ s)] .plain) := by
  subst hpp
  have hl0 : p.length + x.length + y.length + s.length < 1000000000 := by simp at hl; omega
  have hll : (p ++ x ++ y ++ s).length = p.length + x.length + y.length + s.length := by simp; omega
  have q1 : lo ≤ hi ∧ hi ≤ mid ∧ hi ≤ m ∧ a ≤ lo ∧ nn ≤ lo + b ∧ (lo = a ∨ lo + b = nn) ∧ (hi = m ∨ hi = mid) := by
    split at hlo <;> rename_i hc
    · rw [if_pos hc] at hhi
      omega
    · rw [if_neg hc] at hhi
      omega
  clear hlo hhi
  obtain ⟨q1, q2, q3, q4, q5, q6, q7⟩ := q1
  refine searchE hl (by rw [hll]; omega) q1 (by omega) (by rw [hll]; omega) (by omega) fun i h1 h2 h3 h4 => ?_
  obtain ⟨x1, x2, rfl, hx1⟩ := cut_at (x := x) (i := i - p.length) (by omega)
  obtain ⟨y1, y2, rfl, hy1⟩ := cut_at (x := y) (i := mid - i) (by omega)
  have hxl : (x1 ++ x2).length = x1.length + x2.length := List.length_append ..
  have hyl : (y1 ++ y2).length = y1.length + y2.length := List.length_append ..
  have hx' := List.pairwise_append.1 hx
  have hy' := List.pairwise_append.1 hy
  have f1 : ∀ a ∈ x1, ∀ b ∈ y2, Le a b := by
    rcases nil_snoc x1 with rfl | ⟨x1', w, rfl⟩
    · simp
    · cases y2 with
      | nil => simp
      | cons v y2 =>
        have hl1 : (x1' ++ [w]).length = x1'.length + 1 := by simp
        have hl2 : (v :: y2).length = y2.length + 1 := rfl
        rcases h3 with h3 | h3
        · omega
        · rw [keyAt_at (i := i - 1) (p := p ++ x1') (s := x2 ++ (y1 ++ v :: y2) ++ s) (x := w) (by simp) (by simp; omega),
            keyAt_at (p := p ++ (x1' ++ [w] ++ x2) ++ y1) (s := y2 ++ s) (x := v) (by simp) (by simp; omega)] at h3
          have h3' : Le w v := h3
          exact fun a ha b hb => ((srt_last hx'.1 ha).trans h3').trans (srt_head hy'.2.1 hb)
  have f2 : ∀ a ∈ y1, ∀ b ∈ x2, Lt a b := by
    rcases nil_snoc y1 with rfl | ⟨y1', w, rfl⟩
    · simp
    · cases x2 with
      | nil => simp
      | cons v x2 =>
        have hl1 : (y1' ++ [w]).length = y1'.length + 1 := by simp
        have hl2 : (v :: x2).length = x2.length + 1 := rfl
        rcases h4 with h4 | h4
        · omega
        · rw [keyAt_at (i := i) (p := p ++ x1) (s := x2 ++ (y1' ++ [w] ++ y2) ++ s) (x := v) (by simp) (by simp; omega),
            keyAt_at (p := p ++ (x1 ++ v :: x2) ++ y1') (s := y2 ++ s) (x := w) (by simp) (by simp; omega)] at h4
          have h4' : Lt w v := by simpa [Lt] using h4
          exact fun a ha b hb => ((srt_last hy'.1 ha).lt_trans h4').le_trans (srt_head hx'.2.1 hb)
  have w1 : IntKind.i64.wrap ((nn : Int) - (i : Int)) = ((nn - i : Nat) : Int) := wrap_nat (by omega) (by omega)
  refine Tot.eq (e59t lp N (p ++ (x1 ++ x2) ++ (y1 ++ y2) ++ s) a m b mid nn i i (nn - 1 : Nat)) ?_
  rw [w1, ← cross hx hy f1 f2]
  have := t1_ok (N := N) (p := p) (x1 := x1) (x2 := x2) (y1 := y1) (y2 := y2) (s := s) (a := a) (st := i) (m := m) (mid := mid) (e := nn - i) (b := b) hl hx'.1 hy'.1 hx'.2.1 hy'.2.1 (by omega) (by omega) ha (by omega) (by omega) (by omega) (by omega) (by omega)
  simpa using this
end Go.Proofs

/- Link: merging in place: the contract. -/
namespace Go.Proofs
open Go.Den
set_option maxRecDepth 100000
theorem g59 : ∀ N, G59 N
  | 0 => fun q a m b h => absurd h.2.2.2 (Nat.not_lt_zero _)
  | N + 1 => by
    rintro ⟨p, x, y, s⟩ a m b ⟨⟨hx0, hy0, hl, ha, hm, hb⟩, hx, hy, hN⟩
    simp only [Q4.l, Q4.mrg] at *
    have hl0 : p.length + x.length + y.length + s.length < 1000000000 := by simp at hl; omega
    have hx1 : 0 < x.length := List.length_pos_iff.2 hx0
    have hy1 : 0 < y.length := List.length_pos_iff.2 hy0
    generalize hn : x.length + y.length + 1 = n
    refine Tot.of_eq (denA_tot n (u59_le (g59 N)) rfl (by kernel_rfl) ?_)
    have w1 : IntKind.i64.wrap (m - a) = (x.length : Int) := wrap_nat (by omega) (by omega)
    have w2 : IntKind.i64.wrap (b - m) = (y.length : Int) := wrap_nat (by omega) (by omega)
    rw [b59, w1, w2]
    by_cases c1 : x.length = 1
    · have c1' : ((x.length : Int) == 1) = true := by rw [c1]; rfl
      obtain ⟨z, rfl⟩ := one_of c1
      rw [c1', cond_true, lpR_at (x := Code.part (bodyOf Try.prog 59) [0, 1, 0, 1, 1, 0, 0, 0]) (by kernel_rfl)]
      exact ok_one hl hy (by omega) rfl ha (by rw [hm]; rfl) (by rw [hb]; rfl)
    have c1' : ((x.length : Int) == 1) = false := by simp; omega
    rw [c1', cond_false]
    by_cases c2 : y.length = 1
    · have c2' : ((y.length : Int) == 1) = true := by rw [c2]; rfl
      obtain ⟨z, rfl⟩ := one_of c2
      rw [c2', cond_true, lpR_at (x := Code.part (bodyOf Try.prog 59) [1, 0, 1, 0, 1, 1, 0, 0, 0]) (by kernel_rfl)]
      exact ok_last hl hx (by omega) rfl ha (by rw [hm])
    have c2' : ((y.length : Int) == 1) = false := by simp; omega
    rw [c2', cond_false]
    have ha' : a = ((p.length : Nat) : Int) := ha
    rw [ha', hm, hb, half (by omega)]
    generalize hA : p.length = A
    generalize hM : A + x.length = M
    generalize hB : M + y.length = B
    generalize hD : (A + B) / 2 = D
    have w3 : IntKind.i64.wrap ((D : Int) + (M : Int)) = ((D + M : Nat) : Int) := wrap_nat (by omega) (by omega)
    have w5 : IntKind.i64.wrap (((D + M : Nat) : Int) - 1) = ((D + M - 1 : Nat) : Int) := wrap_nat (by omega) (by omega)
    rw [w3, w5]
    refine Tot.cond (fun hc => ?_) fun hc => ?_
    · have hc' : M > D := by simpa using hc
      have w4 : IntKind.i64.wrap (((D + M : Nat) : Int) - (B : Int)) = ((D + M - B : Nat) : Int) := wrap_nat (by omega) (by omega)
      rw [w4, lpR_at (x := Code.part (bodyOf Try.prog 59) [1, 1, 1, 1, 1, 1, 1, 0, 0, 0]) (by kernel_rfl)]
      exact ok_gen (N := N) hl hx hy (by omega) (by omega) (by omega) (by omega) hA.symm (by omega) (by omega) hD.symm rfl (by rw [if_pos hc']) (by rw [if_pos hc']) rfl
    · have hc' : ¬ M > D := by simpa using hc
      rw [lpR_at (x := Code.part (bodyOf Try.prog 59) [1, 1, 1, 1, 1, 1, 1, 0, 0, 0]) (by kernel_rfl)]
      exact ok_gen (N := N) hl hx hy (by omega) (by omega) (by omega) (by omega) hA.symm (by omega) (by omega) hD.symm rfl (by rw [if_neg hc']) (by rw [if_neg hc']) rfl
theorem v59 {q : Q4} {a m b : Int} (h : q.at_ a m b) (hx : Srt q.x) (hy : Srt q.y) : dK 59 [.sr 0 0 0 q.l.length, .int .i64 a, .int .i64 m, .int .i64 b, .fn 38 []] [arL 4 0 rwR q.l] .plain = some (.ret (.tup []) [arL 4 0 rwR q.mrg] .plain) :=
  g59 (q.x.length + q.y.length + 1) q a m b ⟨h, hx, hy, Nat.lt_succ_self _⟩
end Go.Proofs
