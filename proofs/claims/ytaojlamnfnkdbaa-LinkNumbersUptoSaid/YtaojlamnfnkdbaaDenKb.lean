/- Link: swapping ranges. -/
import Derived.Test.YtaojlamnfnkdbaaDenKa
set_option linter.unusedSimpArgs false
set_option linter.unusedVariables false
set_option linter.unnecessarySimpa false
namespace Go.Proofs
open Go.Den
set_option maxRecDepth 100000
theorem setRow_all {cs vs : List AV} (h : cs.length = vs.length) : setRow cs 0 vs = vs := by
  simp [setRow, ← h]
theorem rwR_len (r : Rw) : (rwR r).length = 4 := rfl
theorem ite_len {p : Prop} [Decidable p] (x y : Rw) : (ite p (rwR x) (rwR y)).length = 4 := by split <;> rfl
theorem sw_arr (l : List Rw) (i j : Nat) (hi : i < l.length) (hj : j < l.length) {x y : Nat} (hx : x = i) (hy : y = j) (hx' : x < l.length) (hy' : y < l.length) :
    Den.Obj.arr 4 0 l.length (fun q => ite (q.1 = y) (setRow (ite (q.1 = x) (rwR (l.get ⟨y, hy'⟩)) (rwR (l.get q))) 0 (rwR (l.get ⟨x, hx'⟩))) (ite (q.1 = x) (rwR (l.get ⟨y, hy'⟩)) (rwR (l.get q)))) = arL 4 0 rwR (sw l i j) := by
  subst hx hy
  refine arr_ext (sw_len ..).symm fun q h1 h2 => ?_
  rw [setRow_all (by rw [ite_len]; rfl)]
  simp only [List.get_eq_getElem, sw, dif_pos (show x < l.length ∧ y < l.length from ⟨hx', hy'⟩), List.getElem_set]
  by_cases e1 : q = y
  · subst e1; simp
  · by_cases e2 : q = x
    · subst e2
      simp [e1, Ne.symm e1]
    · simp [e1, e2, Ne.symm e1, Ne.symm e2]
theorem swR_succ : ∀ (n : Nat) (l : List Rw) (a b : Nat), swR l a b (n + 1) = sw (swR l a b n) (a + n) (b + n)
  | 0, _, _, _ => rfl
  | n + 1, l, a, b => by
    rw [swR, swR_succ n (sw l a b) (a + 1) (b + 1), swR]
    congr 1 <;> omega
theorem wrap_nat {n : Int} {m : Nat} (h : n = (m : Int)) (h2 : m < 4611686018427387904) : IntKind.i64.wrap n = (m : Int) := by
  subst h
  exact wrap_id (by omega) (by omega)
theorem lpR_at {P : Program} {pol : Pol} {c : CallO} {n : Nat} {fn : FuncId} {l : List (Nat × Code)} {i : Nat} {x : Code} {st : St} {k : Den.Exit → St → R} (h : lkC l i = x) : lpR P pol c n fn l i st k = codeD P pol (bindK c) n fn (.loop x) st k := by
  subst h
  rfl
theorem norm1 {K : Den.Exit → St → R} {T : List AV} {o o' : Den.Obj} {Q : Out → Prop} (h : o = o') (H : Tot (K .normal ⟨T, ⟨[o'], [], .plain⟩⟩) Q) : Tot (K .normal ⟨T, ⟨[o], [], .plain⟩⟩) Q := by subst h; exact H
theorem v95 {l : List Rw} {a b n : Int} (h : okSw l a b n) : dK 95 [.sr 0 0 0 l.length, .int .i64 a, .int .i64 b, .int .i64 n, .fn 38 []] [arL 4 0 rwR l] .plain = some (.ret (.tup []) [arL 4 0 rwR (swR l a.toNat b.toNat n.toNat)] .plain) := by
  obtain ⟨ha, hb, hn, h1, h2, h3⟩ := h
  obtain ⟨a, rfl⟩ := Int.eq_ofNat_of_zero_le ha
  obtain ⟨b, rfl⟩ := Int.eq_ofNat_of_zero_le hb
  obtain ⟨n, rfl⟩ := Int.eq_ofNat_of_zero_le hn
  simp only [Int.toNat_natCast]
  refine Tot.of_eq (denA_tot (n + 1) uS_le rfl (by kernel_rfl) ?_)
  rw [b95, lpR_at (x := Code.part (bodyOf Try.prog 95) [1, 0, 0]) (by kernel_rfl)]
  refine loop_meas (calls := fun _ : Nat => uS) (fun _ => uS_le) (keep := false) rfl (inner := noLoops) no_loops (fun i => S95 (swR l a b i) a b n i) (fun i => i ≤ n) (fun i => n - i) 0 (by omega) (Nat.zero_le _) rfl (H := 1) rfl ?_
  intro i hi K hn' hx
  rw [r95]
  by_cases c : i < n
  · have hl : (swR l a b i).length = l.length := swR_len ..
    have q1 : b + i < (swR l a b i).length := by omega
    have q2 : a + i < (swR l a b i).length := by omega
    have w1 : IntKind.i64.wrap ((b : Int) + i) = ((b + i : Nat) : Int) := wrap_nat (by omega) (by omega)
    have w2 : IntKind.i64.wrap ((a : Int) + i) = ((a + i : Nat) : Int) := wrap_nat (by omega) (by omega)
    have w3 : IntKind.i64.wrap ((i : Int) + 1) = ((i + 1 : Nat) : Int) := wrap_nat (by omega) (by omega)
    have p0 : decide ((i : Int) < n) = true := by simpa using c
    have pn : ∀ m : Nat, decide ((0 : Int) ≤ (m : Int)) = true := fun m => by simp
    have t1 : (((b + i : Nat) : Int)).toNat < (swR l a b i).length := q1
    have t2 : (((a + i : Nat) : Int)).toNat < (swR l a b i).length := q2
    have u1 : 0 + (((b + i : Nat) : Int)).toNat < (swR l a b i).length := by rw [Nat.zero_add]; exact q1
    have u2 : 0 + (((a + i : Nat) : Int)).toNat < (swR l a b i).length := by rw [Nat.zero_add]; exact q2
    rw [w1, w2, w3]
    simp only [p0, pn, decide_eq_true t1, decide_eq_true t2, decide_eq_true u1, decide_eq_true u2, dif_pos u1, dif_pos u2, cond_true, Bool.and_self]
    refine norm1 (sw_arr _ _ _ q2 q1 (x := 0 + (((a + i : Nat) : Int)).toNat) (y := 0 + (((b + i : Nat) : Int)).toNat) (Nat.zero_add _) (Nat.zero_add _) u2 u1) ?_
    refine hn' _ (i + 1) (by show i + 1 ≤ n; omega) (by show n - (i + 1) < n - i; omega) ?_
    unfold S95
    rw [swR_succ, sw_len]
    rfl
  · have p0 : decide ((i : Int) < n) = false := by simpa using c
    have hin : i = n := by omega
    subst hin
    rw [p0]
    simp only [cond_false]
    rw [hx _ _ (by simp)]
    exact ⟨_, e95 (lpR Try.prog polK (denA Try.prog polK ext0) (i + 1) 95 (loopsOf (bodyOf Try.prog 95))) _ a b i i, rfl⟩
end Go.Proofs

/- Link: what a stable sort comes to (no program). -/
namespace Go.Proofs
open Go.Den
set_option maxRecDepth 100000
theorem bl_irr : ∀ s : Str, bytesLess s s = false
  | [] => rfl
  | a :: s => by simp [bytesLess, bl_irr s]
theorem bl_tri : ∀ {s t : Str}, bytesLess s t = false → bytesLess t s = false → s = t
  | [], [], _, _ => rfl
  | [], b :: t, h, _ => by simp [bytesLess] at h
  | a :: s, [], _, h => by simp [bytesLess] at h
  | a :: s, b :: t, h, h2 => by
    simp only [bytesLess, Bool.or_eq_false_iff, decide_eq_false_iff_not, UInt8.not_lt, Bool.and_eq_false_iff, beq_eq_false_iff_ne] at h h2
    have hab : a = b := UInt8.le_antisymm h2.1 h.1
    subst hab
    have e1 : bytesLess s t = false := by simpa using h.2
    have e2 : bytesLess t s = false := by simpa using h2.2
    rw [bl_tri e1 e2]
theorem bl_trans : ∀ {s t u : Str}, bytesLess s t = true → bytesLess t u = true → bytesLess s u = true
  | [], t, [], h, h2 => by cases t <;> simp [bytesLess] at h h2
  | [], _, c :: u, _, _ => by simp [bytesLess]
  | a :: s, [], _, h, _ => by simp [bytesLess] at h
  | a :: s, b :: t, [], _, h2 => by simp [bytesLess] at h2
  | a :: s, b :: t, c :: u, h, h2 => by
    simp only [bytesLess, Bool.or_eq_true, decide_eq_true_eq, Bool.and_eq_true, beq_iff_eq] at h h2 ⊢
    rcases h with h | ⟨rfl, h⟩
    · rcases h2 with h2 | ⟨rfl, h2⟩
      · exact .inl (UInt8.lt_trans h h2)
      · exact .inl h
    · rcases h2 with h2 | ⟨rfl, h2⟩
      · exact .inl h2
      · exact .inr ⟨rfl, bl_trans h h2⟩
theorem bl_as {s t : Str} (h : bytesLess s t = true) : bytesLess t s = false := by
  cases e : bytesLess t s with
  | false => rfl
  | true => have := bl_trans h e; rw [bl_irr] at this; cases this
/-- not after -/
def Le (x y : Rw) : Prop := bytesLess y.key x.key = false
/-- before -/
def Lt (x y : Rw) : Prop := bytesLess x.key y.key = true
theorem Lt.le {x y : Rw} (h : Lt x y) : Le x y := bl_as h
theorem Le.refl (x : Rw) : Le x x := bl_irr _
theorem Le.trans {x y z : Rw} (h : Le x y) (h2 : Le y z) : Le x z := by
  cases e : bytesLess z.key x.key with
  | false => exact e
  | true =>
    cases e2 : bytesLess x.key y.key with
    | true => have := bl_trans e e2; rw [show bytesLess z.key y.key = false from h2] at this; cases this
    | false =>
      have hk := bl_tri e2 h
      have h2' : bytesLess z.key y.key = false := h2
      rw [hk] at e
      rw [h2'] at e
      cases e
theorem Le.lt_trans {x y z : Rw} (h : Le x y) (h2 : Lt y z) : Lt x z := by
  cases e : bytesLess x.key z.key with
  | true => exact e
  | false =>
    have h3 : Le z x := e
    have h4 : bytesLess y.key z.key = false := h3.trans h
    rw [show bytesLess y.key z.key = true from h2] at h4
    cases h4
theorem Lt.le_trans {x y z : Rw} (h : Lt x y) (h2 : Le y z) : Lt x z := by
  cases e : bytesLess x.key z.key with
  | true => exact e
  | false =>
    have h3 : Le z x := e
    have h4 : bytesLess x.key y.key = false := h2.trans h3
    rw [show bytesLess x.key y.key = true from h] at h4
    cases h4
theorem Lt.ne {x y : Rw} (h : Lt x y) : x.key ≠ y.key := fun e => by
  have h' : bytesLess x.key y.key = true := h
  rw [e, bl_irr] at h'
  cases h'
theorem not_le {x y : Rw} (h : ¬ Le x y) : Lt y x := by
  cases e : bytesLess y.key x.key with
  | true => exact e
  | false => exact absurd e h
def Srt (l : List Rw) : Prop := l.Pairwise Le
noncomputable def kf (k : Str) (l : List Rw) : List Rw := l.filter fun x => decide (x.key = k)
/-- the same rows, those of one key in the same order -/
def Stb (l l' : List Rw) : Prop := l.length = l'.length ∧ ∀ k, kf k l = kf k l'
theorem Stb.refl (l : List Rw) : Stb l l := ⟨rfl, fun _ => rfl⟩
theorem Stb.symm {l l' : List Rw} (h : Stb l l') : Stb l' l := ⟨h.1.symm, fun k => (h.2 k).symm⟩
theorem Stb.trans {l m n : List Rw} (h : Stb l m) (h2 : Stb m n) : Stb l n := ⟨h.1.trans h2.1, fun k => (h.2 k).trans (h2.2 k)⟩
theorem kf_app (k : Str) (l m : List Rw) : kf k (l ++ m) = kf k l ++ kf k m := List.filter_append ..
theorem Stb.app {l l' m m' : List Rw} (h : Stb l l') (h2 : Stb m m') : Stb (l ++ m) (l' ++ m') := ⟨by simp [h.1, h2.1], fun k => by rw [kf_app, kf_app, h.2, h2.2]⟩
theorem mem_kf {x : Rw} {l : List Rw} : x ∈ l ↔ x ∈ kf x.key l := by simp [kf]
theorem Stb.mem {l l' : List Rw} (h : Stb l l') (x : Rw) : x ∈ l ↔ x ∈ l' := by rw [mem_kf, h.2, ← mem_kf]
theorem kf_none {k : Str} {l : List Rw} (h : ∀ x ∈ l, x.key ≠ k) : kf k l = [] := by
  simp only [kf, List.filter_eq_nil_iff, decide_eq_true_eq]
  exact h
theorem Stb.swap {u v : List Rw} (h : ∀ x ∈ u, ∀ y ∈ v, x.key ≠ y.key) : Stb (u ++ v) (v ++ u) := by
  refine ⟨by simp; omega, fun k => ?_⟩
  rw [kf_app, kf_app]
  by_cases hu : ∃ x ∈ u, x.key = k
  · obtain ⟨x, hx, rfl⟩ := hu
    rw [kf_none (l := v) fun y hy => (h x hx y hy).symm]
    simp
  · rw [kf_none (l := u) fun y hy e => hu ⟨y, hy, e⟩]
    simp
/-- there is but one such order -/
theorem Srt.uniq : ∀ {l l' : List Rw}, Srt l → Srt l' → Stb l l' → l = l'
  | [], l', _, _, h => (List.length_eq_zero_iff.1 h.1.symm).symm
  | x :: l, [], _, _, h => by cases h.1
  | x :: l, y :: l', h, h', hs => by
    have hy : y ∈ x :: l := (hs.mem y).2 (List.mem_cons_self ..)
    have hx : x ∈ y :: l' := (hs.mem x).1 (List.mem_cons_self ..)
    have h1 : Le x y := by
      rcases List.mem_cons.1 hy with rfl | hy
      · exact Le.refl _
      · exact (List.pairwise_cons.1 h).1 y hy
    have h2 : Le y x := by
      rcases List.mem_cons.1 hx with rfl | hx
      · exact Le.refl _
      · exact (List.pairwise_cons.1 h').1 x hx
    have hk : x.key = y.key := bl_tri h2 h1
    have := hs.2 x.key
    simp only [kf, List.filter_cons, hk, decide_true, if_true, List.cons.injEq] at this
    obtain ⟨rfl, _⟩ := this
    rw [Srt.uniq (List.pairwise_cons.1 h).2 (List.pairwise_cons.1 h').2 ⟨by simpa using hs.1, fun k => ?_⟩]
    have := hs.2 k
    simp only [kf, List.filter_cons] at this
    split at this
    · exact (List.cons.inj this).2
    · exact this
/-- parts of so many rows, each sorted; the last may be shorter -/
inductive Blk (z : Nat) : List Rw → Prop
  | last {l : List Rw} : l.length ≤ z → Srt l → Blk z l
  | more {l m : List Rw} : l.length = z → Srt l → Blk z m → Blk z (l ++ m)
inductive Full (z : Nat) : List Rw → Prop
  | nil : Full z []
  | snoc {l m : List Rw} : Full z l → m.length = z → Srt m → Full z (l ++ m)
theorem Full.app {z : Nat} {l m : List Rw} (h : Full z l) (h2 : Blk z m) : Blk z (l ++ m) := by
  induction h generalizing m with
  | nil => exact h2
  | snoc _ hl hs ih => rw [List.append_assoc]; exact ih (.more hl hs h2)
theorem srt_nil : Srt [] := List.Pairwise.nil
theorem Blk.head {z : Nat} {l : List Rw} (h : Blk z l) (hl : z ≤ l.length) : ∃ x m, l = x ++ m ∧ x.length = z ∧ Srt x ∧ Blk z m := by
  cases h with
  | last h1 h2 => exact ⟨l, [], by simp, by omega, h2, .last (by simp) srt_nil⟩
  | more h1 h2 h3 => exact ⟨_, _, rfl, h1, h2, h3⟩
theorem Blk.small {z : Nat} {l : List Rw} (h : Blk z l) (hl : l.length ≤ z) : Srt l := by
  cases h with
  | last _ h2 => exact h2
  | more h1 h2 h3 =>
    rename_i x m
    have : m = [] := List.length_eq_zero_iff.1 (by simp at hl; omega)
    subst this
    simpa using h2
end Go.Proofs

/- Link: turning ranges round. -/
namespace Go.Proofs
open Go.Den
set_option maxRecDepth 100000
theorem sw_at (p m s : List Rw) (x y : Rw) {i j : Nat} (hi : i = p.length) (hj : j = p.length + 1 + m.length) : sw (p ++ x :: m ++ y :: s) i j = p ++ y :: m ++ x :: s := by
  subst hi hj
  have h1 : p.length < (p ++ x :: m ++ y :: s).length := by simp
  have h2 : p.length + 1 + m.length < (p ++ x :: m ++ y :: s).length := by simp; omega
  have g1 : (p ++ x :: m ++ y :: s)[p.length] = x := by simp
  have g2 : (p ++ x :: m ++ y :: s)[p.length + 1 + m.length] = y := by
    rw [List.getElem_append_right (by simp; omega)]
    simp [show p.length + 1 + m.length - (p.length + (m.length + 1)) = 0 by omega]
  unfold sw
  rw [dif_pos ⟨h1, h2⟩, g1, g2]
  have e1 : (p ++ x :: m ++ y :: s).set p.length y = p ++ y :: m ++ y :: s := by simp
  rw [e1, List.set_append_right _ _ (by simp; omega)]
  simp [show p.length + 1 + m.length - (p.length + (m.length + 1)) = 0 by omega]
theorem swR_at : ∀ (x y p m s : List Rw) {i j n : Nat}, x.length = n → y.length = n → i = p.length → j = p.length + x.length + m.length → swR (p ++ x ++ m ++ y ++ s) i j n = p ++ y ++ m ++ x ++ s
  | [], y, p, m, s, i, j, n, hx, hy, hi, hj => by
    subst hx
    have : y = [] := List.length_eq_zero_iff.1 hy
    subst this
    simp [swR]
  | a :: x, [], p, m, s, i, j, n, hx, hy, hi, hj => by subst hy; cases hx
  | a :: x, b :: y, p, m, s, i, j, 0, hx, hy, hi, hj => by cases hx
  | a :: x, b :: y, p, m, s, i, j, n + 1, hx, hy, hi, hj => by
    have e : p ++ (a :: x) ++ m ++ (b :: y) ++ s = p ++ a :: (x ++ m) ++ b :: (y ++ s) := by simp
    rw [e, swR, sw_at _ _ _ _ _ hi (by simp at hj ⊢; omega)]
    have e2 : p ++ b :: (x ++ m) ++ a :: (y ++ s) = (p ++ [b]) ++ x ++ (m ++ [a]) ++ y ++ s := by simp
    rw [e2, swR_at x y (p ++ [b]) (m ++ [a]) s (n := n) (by simpa using hx) (by simpa using hy) (by simp [hi]) (by simp at hj ⊢; omega)]
    simp
theorem rwR_inj {x y : Rw} (h : rwR x = rwR y) : x = y := by
  cases x
  cases y
  simp only [rwR, List.cons.injEq, AV.str.injEq, AV.sl.injEq, true_and, and_true] at h
  obtain ⟨rfl, ⟨rfl, h1⟩, ⟨rfl, h2⟩, rfl, h3⟩ := h
  cases h1
  cases h2
  cases h3
  rfl
theorem arL_inj {l l' : List Rw} (h : [arL 4 0 rwR l] = [arL 4 0 rwR l']) : l = l' := by
  simp only [arL, List.cons.injEq, Den.Obj.arr.injEq, true_and, and_true] at h
  obtain ⟨h1, h2⟩ := h
  refine List.ext_getElem h1 fun i a b => rwR_inj ?_
  have key : ∀ {n m : Nat} (f : Fin n → List AV) (g : Fin m → List AV), n = m → HEq f g → ∀ (a : i < n) (b : i < m), f ⟨i, a⟩ = g ⟨i, b⟩ := by
    intro n m f g e hh a b
    subst e
    cases hh
    rfl
  exact key _ _ h1 h2 a b
theorem u84_le : CallLeK u84 dK := by
  intro f args h ps kk o x
  unfold u84 at x
  split at x
  · obtain ⟨l, ⟨rfl, rfl, rfl, hk⟩, x'⟩ := pickX_some x
    exact ⟨_, x', v95 hk⟩
  · cases x
theorem Tot.eq {r r' : R} {Q : Out → Prop} (h : r = r') (H : Tot r' Q) : Tot r Q := by rw [h]; exact H
structure Q84 where (p x y s : List Rw)
def Q84.l (q : Q84) : List Rw := q.p ++ q.x ++ q.y ++ q.s
theorem v84 {p x y s : List Rw} {a m b : Int} (hx : x ≠ []) (hy : y ≠ []) (hl : (p ++ x ++ y ++ s).length < 1000000000) (ha : a = p.length) (hm : m = (p.length + x.length : Nat)) (hb : b = (p.length + x.length + y.length : Nat)) :
    dK 84 [.sr 0 0 0 (p ++ x ++ y ++ s).length, .int .i64 a, .int .i64 m, .int .i64 b, .fn 38 []] [arL 4 0 rwR (p ++ x ++ y ++ s)] .plain = some (.ret (.tup []) [arL 4 0 rwR (p ++ y ++ x ++ s)] .plain) := by
  subst ha hm hb
  have hx0 : 0 < x.length := List.length_pos_iff.2 hx
  have hy0 : 0 < y.length := List.length_pos_iff.2 hy
  have hl' : p.length + x.length + y.length + s.length < 1000000000 := by simpa [Nat.add_assoc] using hl
  generalize hn : x.length + y.length + 1 = n
  refine Tot.of_eq (denA_tot n u84_le rfl (by kernel_rfl) ?_)
  have w1 : IntKind.i64.wrap (((p.length + x.length : Nat) : Int) - (p.length : Int)) = (x.length : Int) := wrap_nat (by omega) (by omega)
  have w2 : IntKind.i64.wrap (((p.length + x.length + y.length : Nat) : Int) - ((p.length + x.length : Nat) : Int)) = (y.length : Int) := wrap_nat (by omega) (by omega)
  rw [b84, lpR_at (x := Code.part (bodyOf Try.prog 84) [1, 1, 0, 0, 0]) (by kernel_rfl), w1, w2]
  generalize hM : p.length + x.length = M
  generalize hT : p ++ y ++ x ++ s = T
  refine loop_meas (α := Q84) (calls := fun _ => u84) (fun _ => u84_le) (keep := false) rfl (inner := noLoops) no_loops (fun q => S84 q.l M q.x.length q.y.length)
    (fun q => q.l.length < 1000000000 ∧ 0 < q.x.length ∧ 0 < q.y.length ∧ q.p.length + q.x.length = M ∧ q.p ++ q.y ++ q.x ++ q.s = T) (fun q => q.x.length + q.y.length) ⟨p, x, y, s⟩ (by simp only; omega) ⟨hl, hx0, hy0, hM, hT⟩ rfl (H := 1) rfl ?_
  rintro ⟨p, x, y, s⟩ ⟨hl, hx0, hy0, hM, hT⟩ K hn' hk
  simp only [Q84.l] at *
  have hl' : p.length + x.length + y.length + s.length < 1000000000 := by simpa [Nat.add_assoc] using hl
  rw [r84]
  have w1 : IntKind.i64.wrap ((M : Int) - (x.length : Int)) = (p.length : Int) := wrap_nat (by omega) (by omega)
  by_cases c : x.length = y.length
  · have c0 : ((x.length : Int) != (y.length : Int)) = false := by rw [c]; simp
    rw [c0, cond_false, hk _ _ (by simp)]
    have e := e84 (lpR Try.prog polK dK n 84 (loopsOf (bodyOf Try.prog 84))) (p ++ x ++ y ++ s) M x.length y.length
    rw [w1] at e
    unfold S84e at e
    rw [c0] at e
    refine Tot.eq e (Tot.pickX ⟨p ++ x ++ y ++ s, rfl, rfl, rfl, ?_⟩ ?_)
    · exact ⟨by omega, by omega, by omega, by simp; omega, by simp; omega⟩
    · rintro l' ⟨_, hh, _, _⟩
      obtain rfl := arL_inj hh
      refine Tot.some ?_
      rw [← hT]
      have := swR_at x y p [] s (i := p.length) (j := M) (n := x.length) rfl c.symm rfl (by simp; omega)
      simp only [List.append_nil] at this
      show Out.ret (.tup []) [arL 4 0 rwR (swR (p ++ x ++ y ++ s) p.length M x.length)] .plain = _
      rw [this]
  · have c0 : ((x.length : Int) != (y.length : Int)) = true := bne_iff_ne.2 (by omega)
    rw [c0, cond_true]
    refine Tot.cond (fun d => ?_) fun d => ?_
    · have d' : y.length < x.length := by simpa using d
      rw [w1]
      refine Tot.pickX ⟨p ++ x ++ y ++ s, rfl, rfl, rfl, ?_⟩ ?_
      · exact ⟨by omega, by omega, by omega, by simp; omega, by simp; omega⟩
      rintro l' ⟨_, hh, _, _⟩
      obtain rfl := arL_inj hh
      have w2 : IntKind.i64.wrap ((x.length : Int) - (y.length : Int)) = ((x.length - y.length : Nat) : Int) := wrap_nat (by omega) (by omega)
      rw [w2]
      obtain ⟨x1, x2, rfl, h1⟩ : ∃ x1 x2, x = x1 ++ x2 ∧ x1.length = y.length := ⟨x.take y.length, x.drop y.length, (List.take_append_drop ..).symm, by simp; omega⟩
      have h2 : (x1 ++ x2).length = x1.length + x2.length := List.length_append ..
      have hs := swR_at x1 y p x2 s (i := p.length) (j := M) (n := y.length) h1 rfl rfl (by omega)
      have e1 : p ++ x1 ++ x2 ++ y ++ s = p ++ (x1 ++ x2) ++ y ++ s := by simp
      rw [e1] at hs
      have hlen : (p ++ (x1 ++ x2) ++ y ++ s).length = (p ++ y ++ x2 ++ x1 ++ s).length := by simp; omega
      refine norm1 (o' := arL 4 0 rwR (p ++ y ++ x2 ++ x1 ++ s)) (by
        show arL 4 0 rwR (swR (p ++ (x1 ++ x2) ++ y ++ s) p.length M y.length) = _
        rw [hs]) ?_
      rw [hlen, show (x1 ++ x2).length - y.length = x2.length by omega, ← h1]
      refine hn' _ ⟨p ++ y, x2, x1, s⟩ ⟨by rw [← hlen]; exact hl, by show 0 < x2.length; omega, by show 0 < x1.length; omega, by simp; omega, by rw [← hT]; simp⟩ (by simp only; omega) ?_
      rfl
    · have d' : ¬ y.length < x.length := by simpa using d
      have w3 : IntKind.i64.wrap ((M : Int) + (y.length : Int)) = ((M + y.length : Nat) : Int) := wrap_nat (by omega) (by omega)
      have w4 : IntKind.i64.wrap (((M + y.length : Nat) : Int) - (x.length : Int)) = ((M + y.length - x.length : Nat) : Int) := wrap_nat (by omega) (by omega)
      have w2 : IntKind.i64.wrap ((y.length : Int) - (x.length : Int)) = ((y.length - x.length : Nat) : Int) := wrap_nat (by omega) (by omega)
      rw [w1, w3, w4, w2]
      refine Tot.pickX ⟨p ++ x ++ y ++ s, rfl, rfl, rfl, ?_⟩ ?_
      · exact ⟨by omega, by omega, by omega, by simp; omega, by simp; omega⟩
      rintro l' ⟨_, hh, _, _⟩
      obtain rfl := arL_inj hh
      obtain ⟨y1, y2, rfl, h1⟩ : ∃ y1 y2, y = y1 ++ y2 ∧ y2.length = x.length := ⟨y.take (y.length - x.length), y.drop (y.length - x.length), (List.take_append_drop ..).symm, by simp; omega⟩
      have h2 : (y1 ++ y2).length = y1.length + y2.length := List.length_append ..
      have hs := swR_at x y2 p y1 s (i := p.length) (j := M + (y1 ++ y2).length - x.length) (n := x.length) rfl h1 rfl (by omega)
      have e1 : p ++ x ++ y1 ++ y2 ++ s = p ++ x ++ (y1 ++ y2) ++ s := by simp
      rw [e1] at hs
      have hlen : (p ++ x ++ (y1 ++ y2) ++ s).length = (p ++ y2 ++ y1 ++ x ++ s).length := by simp; omega
      refine norm1 (o' := arL 4 0 rwR (p ++ y2 ++ y1 ++ x ++ s)) (by
        show arL 4 0 rwR (swR (p ++ x ++ (y1 ++ y2) ++ s) p.length (M + (y1 ++ y2).length - x.length) x.length) = _
        rw [hs]) ?_
      rw [hlen, show (y1 ++ y2).length - x.length = y1.length by omega, ← h1]
      have e2 : p ++ y2 ++ y1 ++ x ++ s = p ++ y2 ++ y1 ++ (x ++ s) := by simp
      rw [e2]
      refine hn' _ ⟨p, y2, y1, x ++ s⟩ ⟨by show (p ++ y2 ++ y1 ++ (x ++ s)).length < _; rw [← e2, ← hlen]; exact hl, by show 0 < y2.length; omega, by show 0 < y1.length; omega, by show p.length + y2.length = M; omega, by rw [← hT]; simp⟩ (by simp only; omega) ?_
      rfl
end Go.Proofs

/- Link: sorting by insertion. -/
namespace Go.Proofs
open Go.Den
set_option maxRecDepth 100000
/-- a row put in behind those that it is not before -/
noncomputable def insR (y : Rw) : List Rw → List Rw
  | [] => [y]
  | x :: l => if bytesLess y.key x.key then y :: x :: l else x :: insR y l
/-- rows in order -/
noncomputable def isort : List Rw → List Rw := fun l => l.foldl (fun o y => insR y o) []
theorem insR_srt {y : Rw} : ∀ {l : List Rw}, Srt l → Srt (insR y l) ∧ ∀ z, z ∈ insR y l → z = y ∨ z ∈ l
  | [], _ => ⟨List.pairwise_singleton _ _, fun z hz => by simpa [insR] using hz⟩
  | x :: l, h => by
    have ⟨h1, h2⟩ := List.pairwise_cons.1 h
    unfold insR
    split
    · rename_i hlt
      have hlt' : Lt y x := hlt
      refine ⟨List.pairwise_cons.2 ⟨fun z hz => ?_, h⟩, fun z hz => by simpa using hz⟩
      rcases List.mem_cons.1 hz with rfl | hz
      · exact hlt'.le
      · exact (hlt'.le_trans (h1 z hz)).le
    · rename_i hlt
      have hle : Le x y := by simpa [Le] using hlt
      obtain ⟨i1, i2⟩ := insR_srt (y := y) h2
      refine ⟨List.pairwise_cons.2 ⟨fun z hz => ?_, i1⟩, fun z hz => ?_⟩
      · rcases i2 z hz with rfl | hz
        · exact hle
        · exact h1 z hz
      · rcases List.mem_cons.1 hz with rfl | hz
        · simp
        · rcases i2 z hz with rfl | hz
          · simp
          · simp [hz]
theorem insR_stb {y : Rw} : ∀ {l : List Rw}, Srt l → Stb (l ++ [y]) (insR y l)
  | [], _ => Stb.refl _
  | x :: l, h => by
    have ⟨h1, h2⟩ := List.pairwise_cons.1 h
    unfold insR
    split
    · rename_i hlt
      have hlt' : Lt y x := hlt
      refine Stb.swap (u := x :: l) (v := [y]) fun z hz w hw => ?_
      rw [List.mem_singleton.1 hw]
      rcases List.mem_cons.1 hz with rfl | hz
      · exact (hlt'.ne).symm
      · exact (hlt'.le_trans (h1 z hz)).ne.symm
    · exact Stb.app (Stb.refl [x]) (insR_stb h2)
theorem isort_app {l m : List Rw} : isort (l ++ m) = m.foldl (fun o y => insR y o) (isort l) := by simp [isort]
theorem isort_ok (l : List Rw) : Srt (isort l) ∧ Stb l (isort l) := by
  have key : ∀ (m o q : List Rw), Srt o → Stb q o → Srt (m.foldl (fun o y => insR y o) o) ∧ Stb (q ++ m) (m.foldl (fun o y => insR y o) o) := by
    intro m
    induction m with
    | nil => intro o q h1 h2; simpa using ⟨h1, h2⟩
    | cons y m ih =>
      intro o q h1 h2
      have := ih (insR y o) (q ++ [y]) (insR_srt h1).1 ((Stb.app h2 (Stb.refl [y])).trans (insR_stb h1))
      simpa using this
  exact key l [] [] srt_nil (Stb.refl [])
theorem isort_eq {l m : List Rw} (h : Srt m) (h2 : Stb l m) : m = isort l := h.uniq (isort_ok l).1 (h2.symm.trans (isort_ok l).2)

theorem cmp_lt {x y : Rw} : decide (cmpS x.key y.key < 0) = bytesLess x.key y.key := by
  unfold cmpS
  cases bytesLess x.key y.key <;> simp
  cases (x.key == y.key) <;> simp
end Go.Proofs

/- Link: sorting by insertion: the walk. -/
namespace Go.Proofs
open Go.Den
set_option maxRecDepth 100000
theorem sw_comm (l : List Rw) (i j : Nat) : sw l i j = sw l j i := by
  unfold sw
  by_cases h : i < l.length ∧ j < l.length
  · rw [dif_pos h, dif_pos ⟨h.2, h.1⟩]
    by_cases e : i = j
    · subst e; rfl
    · rw [List.set_comm _ _ e]
  · rw [dif_neg h, dif_neg fun h2 => h ⟨h2.2, h2.1⟩]
theorem nil_snoc {α : Type} (c : List α) : c = [] ∨ ∃ c' z, c = c' ++ [z] := by
  rcases List.eq_nil_or_concat c with rfl | ⟨c', z, rfl⟩
  · exact .inl rfl
  · exact .inr ⟨c', z, by simp⟩
theorem get_at {α : Type} {l p s : List α} {x : α} {i : Nat} {h : i < l.length} (e : l = p ++ x :: s) (hi : i = p.length) : l.get ⟨i, h⟩ = x := by
  subst e hi
  simp
structure Q58i where (c y2 : List Rw)
theorem ins_loop {p c0 r s x : List Rw} {y : Rw} {i n : Nat} (hl : (p ++ x ++ s).length < 1000000000) (h1 : Srt c0) (h2 : Stb (c0 ++ y :: r) x) (hi : i = p.length + c0.length) (hn : c0.length < n)
    {Q : Out → Prop} {k : Den.Exit → St → R}
    (hk : ∀ c, Srt c → c.length = c0.length + 1 → Stb (c ++ r) x → ∀ j w, Tot (k (.exit 2) (S58j (p ++ c ++ r ++ s) p.length (p.length + x.length : Nat) i j w)) Q) :
    Tot (codeD Try.prog polK (bindK dK) n 58 (.loop (Code.part (bodyOf Try.prog 58) [1, 0, 0, 1, 0, 0, 1, 0, 0])) (S58i (p ++ c0 ++ [y] ++ r ++ s) p.length (p.length + x.length : Nat) i i) k) Q := by
  have hx : c0.length + r.length + 1 = x.length := by have := h2.1; simp at this; omega
  have hl0 : p.length + x.length + s.length < 1000000000 := by simpa [Nat.add_assoc] using hl
  refine loop_meas (α := Q58i) (calls := fun _ => uS) (fun _ => uS_le) (keep := false) rfl (inner := noLoops) no_loops (fun q => S58i (p ++ q.c ++ (y :: q.y2) ++ r ++ s) p.length (p.length + x.length : Nat) i (p.length + q.c.length : Nat))
    (fun q => Srt (q.c ++ q.y2) ∧ (∀ z ∈ q.y2, Lt y z) ∧ (q.c ++ q.y2).length = c0.length ∧ Stb (q.c ++ y :: q.y2 ++ r) x) (fun q => q.c.length) ⟨c0, []⟩ (by simpa using hn) ⟨by simpa using h1, by simp, by simp, by simpa using h2⟩ (by subst hi; rfl) (H := 1) rfl ?_
  rintro ⟨c, d⟩ ⟨hs, hd, hlen, hst⟩ K hn' hx'
  simp only at hs hd hlen hst
  have hlen' : c.length + d.length = c0.length := by simpa using hlen
  have hll : (p ++ c ++ (y :: d) ++ r ++ s).length = p.length + x.length + s.length := by simp; omega
  rcases nil_snoc c with rfl | ⟨c', z, rfl⟩
  · rw [r58i]
    have c1 : decide (((p.length + ([] : List Rw).length : Nat) : Int) > (p.length : Int)) = false := by simp
    have t1 : ((p.length + ([] : List Rw).length : Nat) : Int).toNat < (p ++ [] ++ (y :: d) ++ r ++ s).length := by rw [hll]; simp; omega
    have t2 : 0 + ((p.length + ([] : List Rw).length : Nat) : Int).toNat < (p ++ [] ++ (y :: d) ++ r ++ s).length := by rw [Nat.zero_add]; exact t1
    have t0 : decide ((0 : Int) ≤ ((p.length + ([] : List Rw).length : Nat) : Int)) = true := by simp
    have fin : ∀ w, Tot (K (.exit 2) (S58j (p ++ [] ++ (y :: d) ++ r ++ s) p.length (p.length + x.length : Nat) i ((p.length + ([] : List Rw).length : Nat) : Int) w)) Q := fun w => by
      rw [hx' _ _ (by simp)]
      have e : p ++ [] ++ (y :: d) ++ r ++ s = p ++ (y :: d) ++ r ++ s := by simp
      rw [e]
      refine hk (y :: d) (List.pairwise_cons.2 ⟨fun z hz => (hd z hz).le, hs⟩) (by simp at hlen ⊢; omega) (by simpa using hst) _ w
    simp only [c1, t0, decide_eq_true t1, dif_pos t2, cond_true, cond_false, Bool.and_self, Bool.and_true, show (false == true) = false from rfl]
    exact fin false
  · generalize hJ : p.length + c'.length = J
    have hc' : (c' ++ [z]).length = c'.length + 1 := by simp
    have hj : p.length + (c' ++ [z]).length = J + 1 := by omega
    have hl2 : (p ++ (c' ++ [z]) ++ (y :: d) ++ r ++ s).length = p.length + x.length + s.length := hll
    rw [hj, r58i]
    have c1 : decide (((J + 1 : Nat) : Int) > (p.length : Int)) = true := by simp; omega
    have t0 : ∀ m : Nat, decide ((0 : Int) ≤ ((m : Nat) : Int)) = true := by simp
    have w1 : IntKind.i64.wrap (((J + 1 : Nat) : Int) - 1) = ((J : Nat) : Int) := wrap_nat (by omega) (by omega)
    have t1 : ((J + 1 : Nat) : Int).toNat < (p ++ (c' ++ [z]) ++ (y :: d) ++ r ++ s).length := by rw [hl2]; simp; omega
    have t2 : 0 + ((J + 1 : Nat) : Int).toNat < (p ++ (c' ++ [z]) ++ (y :: d) ++ r ++ s).length := by rw [Nat.zero_add]; exact t1
    have t3 : ((J : Nat) : Int).toNat < (p ++ (c' ++ [z]) ++ (y :: d) ++ r ++ s).length := by rw [hl2]; simp; omega
    have t4 : 0 + ((J : Nat) : Int).toNat < (p ++ (c' ++ [z]) ++ (y :: d) ++ r ++ s).length := by rw [Nat.zero_add]; exact t3
    have g1 : (p ++ (c' ++ [z]) ++ (y :: d) ++ r ++ s).get ⟨0 + ((J + 1 : Nat) : Int).toNat, t2⟩ = y := by
      refine get_at (p := p ++ c' ++ [z]) (s := d ++ r ++ s) (by simp) (by simp; omega)
    have g2 : (p ++ (c' ++ [z]) ++ (y :: d) ++ r ++ s).get ⟨0 + ((J : Nat) : Int).toNat, t4⟩ = z := by
      refine get_at (p := p ++ c') (s := (y :: d) ++ r ++ s) (by simp) (by simp; omega)
    rw [w1]
    simp only [c1, t0, decide_eq_true t1, decide_eq_true t2, decide_eq_true t3, decide_eq_true t4, dif_pos t2, dif_pos t4, cond_true, Bool.and_self, show (true == true) = true from rfl]
    refine Tot.chk (by simp) (Tot.cond (fun hc => ?_) fun hc => ?_)
    · rw [g1, g2, cmp_lt] at hc
      have hsw : sw (p ++ (c' ++ [z]) ++ (y :: d) ++ r ++ s) (J + 1) J = p ++ c' ++ (y :: z :: d) ++ r ++ s := by
        rw [sw_comm]
        have := sw_at (p ++ c') [] (d ++ r ++ s) z y (i := J) (j := J + 1) (by simp; omega) (by simp; omega)
        have e1 : p ++ (c' ++ [z]) ++ (y :: d) ++ r ++ s = p ++ c' ++ z :: [] ++ y :: (d ++ r ++ s) := by simp
        rw [e1, this]
        simp
      have hlen3 : (p ++ (c' ++ [z]) ++ (y :: d) ++ r ++ s).length = (p ++ c' ++ (y :: z :: d) ++ r ++ s).length := by simp
      refine norm1 (sw_arr _ (J + 1) J (by rw [hl2]; omega) (by rw [hl2]; omega) (x := 0 + ((J + 1 : Nat) : Int).toNat) (y := 0 + ((J : Nat) : Int).toNat) (Nat.zero_add _) (Nat.zero_add _) t2 t4) ?_
      rw [hsw, hlen3, ← hJ]
      have hlt : Lt y z := hc
      refine hn' _ ⟨c', z :: d⟩ ⟨by simpa using hs, ?_, by simp at hlen ⊢; omega, ?_⟩ (by simp) ?_
      · intro w hw
        rcases List.mem_cons.1 hw with rfl | hw
        · exact hlt
        · exact hd w hw
      · refine Stb.trans ?_ hst
        have e1 : c' ++ (y :: z :: d) ++ r = c' ++ ([y] ++ [z]) ++ (d ++ r) := by simp
        have e2 : (c' ++ [z]) ++ (y :: d) ++ r = c' ++ ([z] ++ [y]) ++ (d ++ r) := by simp
        show Stb (c' ++ (y :: z :: d) ++ r) ((c' ++ [z]) ++ (y :: d) ++ r)
        rw [e1, e2]
        refine Stb.app (Stb.app (Stb.refl _) (Stb.swap fun a ha b hb => ?_)) (Stb.refl _)
        rw [List.mem_singleton.1 ha, List.mem_singleton.1 hb]
        exact hlt.ne
      · rfl
    · have hc0 := hc
      rw [g1, g2, cmp_lt] at hc
      have hle : Le z y := hc
      rw [hx' _ _ (by simp), hc0]
      have e : p ++ (c' ++ [z]) ++ (y :: d) ++ r ++ s = p ++ (c' ++ [z] ++ y :: d) ++ r ++ s := by simp
      rw [e]
      have hs' : Srt (c' ++ [z] ++ d) := hs
      have ⟨s1, s2, s3⟩ := List.pairwise_append.1 hs'
      refine hk (c' ++ [z] ++ y :: d) (List.pairwise_append.2 ⟨s1, List.pairwise_cons.2 ⟨fun w hw => (hd w hw).le, s2⟩, fun a ha b hb => ?_⟩) (by simp at hlen ⊢; omega) hst _ _
      have haz : Le a z := by
        rcases List.mem_append.1 ha with ha | ha
        · exact (List.pairwise_append.1 s1).2.2 a ha z (by simp)
        · rw [List.mem_singleton.1 ha]; exact Le.refl _
      rcases List.mem_cons.1 hb with rfl | hb
      · exact haz.trans hle
      · exact (haz.trans hle).trans (hd b hb).le
end Go.Proofs

/- Link: sorting by insertion: the whole. -/
namespace Go.Proofs
open Go.Den
set_option maxRecDepth 100000
structure Q58 where (c r : List Rw) (i : Nat)
theorem v58 {p x s : List Rw} {a b : Int} (hl : (p ++ x ++ s).length < 1000000000) (ha : a = p.length) (hb : b = (p.length + x.length : Nat)) :
    dK 58 [.sr 0 0 0 (p ++ x ++ s).length, .int .i64 a, .int .i64 b, .fn 38 []] [arL 4 0 rwR (p ++ x ++ s)] .plain = some (.ret (.tup []) [arL 4 0 rwR (p ++ isort x ++ s)] .plain) := by
  subst ha hb
  have hl0 : p.length + x.length + s.length < 1000000000 := by simpa [Nat.add_assoc] using hl
  refine Tot.of_eq (denA_tot (x.length + 2) uS_le rfl (by kernel_rfl) ?_)
  have w1 : IntKind.i64.wrap ((p.length : Int) + 1) = ((p.length + 1 : Nat) : Int) := wrap_nat (by omega) (by omega)
  rw [b58, lpR_at (x := Code.part (bodyOf Try.prog 58) [1, 0, 0]) (by kernel_rfl), w1]
  have start : ∃ c r, c ++ r = x ∧ Srt c ∧ (p.length + 1 = p.length + c.length ∨ (r = [] ∧ p.length + 1 = p.length + c.length + 1)) := by
    cases x with
    | nil => exact ⟨[], [], rfl, srt_nil, .inr ⟨rfl, rfl⟩⟩
    | cons y x => exact ⟨[y], x, rfl, List.pairwise_singleton _ _, .inl rfl⟩
  obtain ⟨c, r, hcr, hc, hi⟩ := start
  refine loop_meas (α := Q58) (calls := fun _ => uS) (fun _ => uS_le) (keep := false) rfl (inner := lpR Try.prog polK dK (x.length + 2) 58 (loopsOf (Code.part (bodyOf Try.prog 58) [1, 0, 0]))) (lpR_ok (by kernel_rfl)) (fun q => S58 (p ++ q.c ++ q.r ++ s) p.length (p.length + x.length : Nat) q.i)
    (fun q => Srt q.c ∧ Stb (q.c ++ q.r) x ∧ (q.i = p.length + q.c.length ∨ (q.r = [] ∧ q.i = p.length + q.c.length + 1))) (fun q => q.r.length) ⟨c, r, p.length + 1⟩ (by subst hcr; simp; omega) ⟨hc, hcr ▸ Stb.refl _, hi⟩ (by
      subst hcr
      show _ = S58 (p ++ c ++ r ++ s) _ _ _
      rw [show p ++ c ++ r ++ s = p ++ (c ++ r) ++ s by simp]
      rfl) (H := 1) rfl ?_
  clear hi hc hcr c r
  rintro ⟨c, r, i⟩ ⟨hc, hst, hi⟩ K hn' hx'
  simp only at hc hst hi
  have hx : c.length + r.length = x.length := by have := hst.1; simpa using this
  rw [r58]
  cases r with
  | nil =>
    have c0 : decide ((i : Int) < (p.length + x.length : Nat)) = false := by
      simp at hx ⊢; omega
    rw [c0, cond_false, hx' _ _ (by simp)]
    have e := e58 (lpR Try.prog polK dK (x.length + 2) 58 (loopsOf (bodyOf Try.prog 58))) (p ++ c ++ [] ++ s) p.length (p.length + x.length : Nat) i
    unfold S58e at e
    rw [c0] at e
    refine Tot.eq e (Tot.some ?_)
    rw [← isort_eq hc (by simpa using hst.symm)]
    show Out.ret (.tup []) [arL 4 0 rwR (p ++ c ++ [] ++ s)] .plain = _
    rw [List.append_nil]
  | cons y r =>
    have c0 : decide ((i : Int) < (p.length + x.length : Nat)) = true := by
      simp at hx hi ⊢; omega
    have hi' : i = p.length + c.length := by simpa using hi
    rw [c0, cond_true, lpR_at (x := Code.part (bodyOf Try.prog 58) [1, 0, 0, 1, 0, 0, 1, 0, 0]) (by kernel_rfl)]
    have e1 : p ++ c ++ y :: r ++ s = p ++ c ++ [y] ++ r ++ s := by simp
    rw [e1]
    refine ins_loop hl hc hst hi' (by simp at hx; omega) fun c' h1 h2 h3 j w => ?_
    refine Tot.eq (e58i (lpR Try.prog polK dK (x.length + 2) 58 (loopsOf (Code.part (bodyOf Try.prog 58) [1, 0, 0]))) (p ++ c' ++ r ++ s) p.length (p.length + x.length : Nat) i j w K) ?_
    have w2 : IntKind.i64.wrap ((i : Int) + 1) = ((i + 1 : Nat) : Int) := wrap_nat (by simp at hx; omega) (by simp at hx; omega)
    rw [w2]
    exact hn' _ ⟨c', r, i + 1⟩ ⟨h1, h3, .inl (by simp only; omega)⟩ (by simp) rfl
end Go.Proofs
