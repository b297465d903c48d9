/- What the objects of a Link row look like, being of bulk at most 1048576. -/
import Derived.Test.YtaojlamnfnkdbaaDenKi
import Derived.Test.YtaojlamnfnkdbaaDenLawRow2
import Derived.Test.YtaojlamnfnkdbaaRows
set_option linter.unusedSimpArgs false
set_option linter.unusedVariables false
set_option linter.unnecessarySimpa false
namespace Go.Proofs.Ytaojlamnfnkdbaa
open Go.Den Go.ChangeShapes Go.WideShapes Go.ChangeAt Go.RowKit
set_option maxRecDepth 100000
theorem Try.own : ownKnob Try.prog.godebug = none := by kernel_rfl
theorem Try.laidOut : laidOutB Try.prog = true := by kernel_rfl
theorem okNames : (Try.prog.funcs.toList.all fun fn => !(fn.name == "runtime.NumGoroutine")) = true := by kernel_rfl
theorem okay : Okay Try.prog where
  names := fun f fn h => by
    have := List.all_eq_true.1 okNames fn (by simpa using Array.mem_of_getElem? h)
    simpa using this
  mixed := by kernel_rfl
theorem bulkB {H : Type} : BulkB (H := H) Rows.uptoBulk Rows.uptoBulkAll where
  one := fun d => by
    cases d with
    | lit l => cases l <;> simp [Rows.uptoBulk]
    | nil => simp [Rows.uptoBulk]
    | ptr d => simp [Rows.uptoBulk]
    | slice elems spare => simp only [Rows.uptoBulk]; omega
    | agg parts => simp [Rows.uptoBulk]
    | iface t d => simp [Rows.uptoBulk]
    | map entries => simp [Rows.uptoBulk]
    | held h => simp [Rows.uptoBulk]
  str := fun s => by simp [Rows.uptoBulk]
  slice := fun es sp => by simp only [Rows.uptoBulk]; omega
  agg := fun ps => by simp [Rows.uptoBulk]
  nil := by simp [Rows.uptoBulkAll]
  cons := fun d l => by simp [Rows.uptoBulkAll]
theorem small {H : Type} (ds : List (DataW H)) (h : Rows.uptoSmall H ds = true) : Rows.uptoBulkAll ds ≤ 1048576 := of_decide_eq_true h
theorem sum_one {n : Nat} {g : Fin n → Nat} (h : ∀ i, 1 ≤ g i) : n ≤ (List.ofFn g).sum := by
  induction n with
  | zero => exact Nat.zero_le _
  | succ n ih =>
    rw [List.ofFn_succ, List.sum_cons]
    have := h 0
    have := ih (g := fun i => g i.succ) fun i => h i.succ
    omega
theorem le_sum {n : Nat} {g : Fin n → Nat} (i : Fin n) : g i ≤ (List.ofFn g).sum := by
  induction n with
  | zero => exact i.elim0
  | succ n ih =>
    rw [List.ofFn_succ, List.sum_cons]
    cases i using Fin.cases with
    | zero => omega
    | succ i => have := ih (g := fun i => g i.succ) i; omega
theorem sl_list {α : Type} (rw' : α → List AV) {n z : Nat} {f : Fin n → List AV} {Q : α → Prop} (h : ∀ i, ∃ x, f i = rw' x ∧ Q x) :
    ∃ xs : List α, AV.sl z .no n f = slL z .no rw' xs ∧ xs.length = n ∧ ∀ x ∈ xs, Q x := by
  classical
  obtain ⟨y, hc⟩ : ∃ y : Fin n → α, ∀ i, f i = rw' (y i) ∧ Q (y i) := ⟨fun i => Classical.choose (h i), fun i => Classical.choose_spec (h i)⟩
  refine ⟨List.ofFn y, sl_ext (by simp) fun i h1 h2 => ?_, by simp, fun x hx => ?_⟩
  · rw [(hc ⟨i, h1⟩).1]; simp
  · obtain ⟨i, rfl⟩ := List.mem_ofFn.1 hx
    exact (hc i).2
theorem tSl {t e : TypeId} {z : Nat} (hu : Try.prog.underlying t = some (.slice e)) (hz : Try.prog.cellsOf e = z) {α : Type} (row : α → List AV) {Q : α → Prop}
    (hel : ∀ fuel b p, Typed Try.prog fuel e b p → b ≤ 1048576 → ∃ x, p = row x ∧ Q x) {fuel b : Nat} {p : List AV} (h : Typed Try.prog fuel t b p) (hb : b ≤ 1048576) :
    ∃ xs : List α, p = [slL z .no row xs] ∧ xs.length + 1 ≤ b ∧ ∀ x ∈ xs, Q x := by
  cases fuel with
  | zero => exact h.elim
  | succ fuel =>
    unfold Typed at h
    rw [hu] at h
    obtain ⟨n, f, g, rfl, _, hs, h⟩ := h
    have hn := sum_one fun i => (h i).1
    obtain ⟨xs, h1, h2, h3⟩ := sl_list row (z := z) (f := f) (Q := Q) fun i => by
      have := le_sum (g := g) i
      exact hel _ _ _ (h i).2 (by omega)
    exact ⟨xs, by rw [hz, h1], by omega, h3⟩
theorem tStr {fuel b : Nat} {p : List AV} (h : Typed Try.prog fuel 9 b p) : ∃ s, p = [.str s] ∧ s.length + 1 ≤ b := by
  cases fuel with
  | zero => exact h.elim
  | succ fuel => unfold Typed at h; rw [Try.underlying9] at h; obtain ⟨s, rfl, _, h⟩ := h; exact ⟨s, rfl, h⟩
theorem tInt {fuel b : Nat} {p : List AV} (h : Typed Try.prog fuel 3 b p) : ∃ n, p = [.int .i64 n] := by
  cases fuel with
  | zero => exact h.elim
  | succ fuel => unfold Typed at h; rw [Try.underlying3] at h; obtain ⟨s, rfl, _⟩ := h; exact ⟨s, rfl⟩
theorem tU64 {fuel b : Nat} {p : List AV} (h : Typed Try.prog fuel 59 b p) : ∃ n, p = [.int .u64 n] := by
  cases fuel with
  | zero => exact h.elim
  | succ fuel => unfold Typed at h; rw [Try.underlying59] at h; obtain ⟨s, rfl, _⟩ := h; exact ⟨s, rfl⟩
theorem tVal {fuel b : Nat} {p : List AV} (h : Typed Try.prog fuel 61 b p) : ∃ t v, p = [.int .i64 t, .int .u64 v] := by
  cases fuel with
  | zero => exact h.elim
  | succ fuel =>
    unfold Typed at h
    rw [Try.underlying61] at h
    obtain ⟨parts, bs, rfl, hp, hb, _, h⟩ := h
    match parts, hp, bs, hb with
    | [p0, p1], _, [b0, b1], _ =>
      obtain ⟨t, rfl⟩ := tInt (h 0 _ _ _ rfl rfl rfl)
      obtain ⟨v, rfl⟩ := tU64 (h 1 _ _ _ rfl rfl rfl)
      exact ⟨t, v, rfl⟩
theorem tVr (fuel b : Nat) (p : List AV) (h : Typed Try.prog fuel 78 b p) (_ : b ≤ 1048576) : ∃ v : Vr, p = vrR v ∧ True := by
  cases fuel with
  | zero => exact h.elim
  | succ fuel =>
    unfold Typed at h
    rw [Try.underlying78] at h
    obtain ⟨parts, bs, rfl, hp, hb, _, h⟩ := h
    match parts, hp, bs, hb with
    | [p0, p1], _, [b0, b1], _ =>
      obtain ⟨s, rfl, _⟩ := tStr (h 0 _ _ _ rfl rfl rfl)
      obtain ⟨t, v, rfl⟩ := tVal (h 1 _ _ _ rfl rfl rfl)
      exact ⟨⟨s, t, v⟩, rfl, trivial⟩
theorem tIns (fuel b : Nat) (p : List AV) (h : Typed Try.prog fuel 115 b p) (_ : b ≤ 1048576) : ∃ v : Ins, p = inR v ∧ True := by
  cases fuel with
  | zero => exact h.elim
  | succ fuel =>
    unfold Typed at h
    rw [Try.underlying115] at h
    obtain ⟨parts, bs, rfl, hp, hb, _, h⟩ := h
    match parts, hp, bs, hb with
    | [p0, p1, p2], _, [b0, b1, b2], _ =>
      obtain ⟨o, rfl⟩ := tInt (h 0 _ _ _ rfl rfl rfl)
      obtain ⟨n, rfl⟩ := tInt (h 1 _ _ _ rfl rfl rfl)
      obtain ⟨t, v, rfl⟩ := tVal (h 2 _ _ _ rfl rfl rfl)
      exact ⟨⟨o, n, t, v⟩, rfl, trivial⟩
theorem tIt (fuel b : Nat) (p : List AV) (h : Typed Try.prog fuel 3 b p) (_ : b ≤ 1048576) : ∃ v : Int, p = itR v ∧ True := by
  obtain ⟨n, rfl⟩ := tInt h
  exact ⟨n, rfl, trivial⟩
theorem tRe (fuel b : Nat) (p : List AV) (h : Typed Try.prog fuel 57 b p) (_ : b ≤ 1048576) : ∃ v : Re, p = reR v ∧ True := by
  cases fuel with
  | zero => exact h.elim
  | succ fuel =>
    unfold Typed at h
    rw [Try.underlying57] at h
    obtain ⟨parts, bs, rfl, hp, hb, _, h⟩ := h
    match parts, hp, bs, hb with
    | [p0, p1, p2, p3, p4], _, [b0, b1, b2, b3, b4], _ =>
      obtain ⟨x, rfl⟩ := tInt (h 0 _ _ _ rfl rfl rfl)
      obtain ⟨y, rfl⟩ := tInt (h 1 _ _ _ rfl rfl rfl)
      obtain ⟨z, rfl⟩ := tInt (h 2 _ _ _ rfl rfl rfl)
      obtain ⟨s, rfl, _⟩ := tStr (h 3 _ _ _ rfl rfl rfl)
      obtain ⟨t, rfl, _⟩ := tStr (h 4 _ _ _ rfl rfl rfl)
      exact ⟨⟨x, y, z, s, t⟩, rfl, trivial⟩
theorem tSig {fuel b : Nat} {p : List AV} (h : Typed Try.prog fuel 79 b p) (hb : b ≤ 1048576) : ∃ (ps : List Int) (r : Int), p = [slL 1 .no itR ps, .int .i64 r] ∧ ps.length < BB := by
  cases fuel with
  | zero => exact h.elim
  | succ fuel =>
    unfold Typed at h
    rw [Try.underlying79] at h
    obtain ⟨parts, bs, rfl, hp, hbl, hs, h⟩ := h
    match parts, hp, bs, hbl with
    | [p0, p1], _, [b0, b1], _ =>
      simp at hs
      obtain ⟨ps, rfl, h1, _⟩ := tSl Try.underlying65 (z := 1) (by kernel_rfl) itR tIt (h 0 _ _ _ rfl rfl rfl) (by omega)
      obtain ⟨r, rfl⟩ := tInt (h 1 _ _ _ rfl rfl rfl)
      exact ⟨ps, r, rfl, by simp only [BB]; omega⟩
theorem tFu (fuel b : Nat) (p : List AV) (h : Typed Try.prog fuel 84 b p) (hb : b ≤ 1048576) : ∃ v : Fu, p = fuR v ∧ SmF v := by
  cases fuel with
  | zero => exact h.elim
  | succ fuel =>
    unfold Typed at h
    rw [Try.underlying84] at h
    obtain ⟨parts, bs, rfl, hp, hbl, hs, h⟩ := h
    match parts, hp, bs, hbl with
    | [p0, p1], _, [b0, b1], _ =>
      simp at hs
      obtain ⟨s, rfl, _⟩ := tStr (h 0 _ _ _ rfl rfl rfl)
      have h1 : Typed Try.prog fuel 82 b1 p1 := h 1 _ _ _ rfl rfl rfl
      cases fuel with
      | zero => exact h1.elim
      | succ fuel =>
        unfold Typed at h1
        rw [Try.underlying82] at h1
        obtain ⟨parts, bs, rfl, hp, hbl, hs', h1⟩ := h1
        match parts, hp, bs, hbl with
        | [q0, q1, q2], _, [c0, c1, c2], _ =>
          simp at hs'
          obtain ⟨ps, r, rfl, g1⟩ := tSig (h1 0 _ _ _ rfl rfl rfl) (by omega)
          obtain ⟨lo, rfl, g2, _⟩ := tSl Try.underlying65 (z := 1) (by kernel_rfl) itR tIt (h1 1 _ _ _ rfl rfl rfl) (by omega)
          obtain ⟨co, rfl, g3, _⟩ := tSl Try.underlying80 (z := 4) (by kernel_rfl) inR tIns (h1 2 _ _ _ rfl rfl rfl) (by omega)
          exact ⟨⟨s, ps, r, lo, co⟩, rfl, g1, by simp only [BB]; omega, by simp only [BB]; omega⟩
theorem tOb (fuel b : Nat) (p : List AV) (h : Typed Try.prog fuel 38 b p) (hb : b ≤ 1048576) : ∃ v : Ob, p = obR v ∧ SmO v ∧ SmS v ∧ v.mod.length < 1000000000 := by
  cases fuel with
  | zero => exact h.elim
  | succ fuel =>
    unfold Typed at h
    rw [Try.underlying38] at h
    obtain ⟨parts, bs, rfl, hp, hbl, hs, h⟩ := h
    match parts, hp, bs, hbl with
    | [p0, p1, p2, p3], _, [b0, b1, b2, b3], _ =>
      simp at hs
      obtain ⟨s, rfl, g0⟩ := tStr (h 0 _ _ _ rfl rfl rfl)
      obtain ⟨vs, rfl, g1, _⟩ := tSl Try.underlying34 (z := 3) (by kernel_rfl) vrR tVr (h 1 _ _ _ rfl rfl rfl) (by omega)
      obtain ⟨fs, rfl, g2, hf⟩ := tSl Try.underlying35 (z := 5) (by kernel_rfl) fuR tFu (h 2 _ _ _ rfl rfl rfl) (by omega)
      obtain ⟨rs, rfl, g3, _⟩ := tSl Try.underlying36 (z := 5) (by kernel_rfl) reR tRe (h 3 _ _ _ rfl rfl rfl) (by omega)
      refine ⟨⟨s, vs, fs, rs⟩, rfl, ⟨?_, ?_, ?_, hf⟩, ?_, ?_⟩
      · show vs.length < 200000000; omega
      · show fs.length < 200000000; omega
      · show rs.length < 200000000; omega
      · show vs.length + fs.length < 1048576; omega
      · show s.length < 1000000000; omega
theorem flatX : flatSet Try.prog [22, 38, 9, 34, 78, 61, 3, 59, 35, 84, 82, 79, 65, 80, 115, 36, 57] = true := by kernel_rfl
theorem ext0_sound : CallSound Try.prog (extCall ext0) := by
  intro f args h ps out e
  unfold extCall ext0 at e
  cases e
end Go.Proofs.Ytaojlamnfnkdbaa
