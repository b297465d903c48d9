/- The row of FoldFars: what it reads being of bulk at most 1048576: it returns true. -/
import Derived.Test.YtndanoiaheknaaaDenF3
import Derived.Test.YtndanoiaheknaaaDenLawRow2
import Derived.Test.YtndanoiaheknaaaRows
set_option linter.unusedSimpArgs false
set_option linter.unusedVariables false
namespace Go.Proofs.Ytndanoiaheknaaa
open Go.Den Go.ChangeShapes Go.WideShapes Go.ChangeAt Go.RowKit
set_option maxRecDepth 100000
theorem Try.own : ownKnob Try.prog.godebug = none := by kernel_rfl
theorem Try.laidOut : laidOutB Try.prog = true := by kernel_rfl
theorem okNames : (Try.prog.funcs.toList.all fun fn => !(fn.name == "runtime.NumGoroutine")) = true := by kernel_rfl
theorem okay : Okay Try.prog where
  names := fun f fn h => by
    have := List.all_eq_true.1 okNames fn (by simpa using Array.mem_of_getElem? h)
    simpa using this
  mixed := by kernel_rfl
theorem bulkB {H : Type} : BulkB (H := H) Rows.uptoBulk Rows.uptoBulkAll where
  one := fun d => by
    cases d with
    | lit l => cases l <;> simp [Rows.uptoBulk]
    | nil => simp [Rows.uptoBulk]
    | ptr d => simp [Rows.uptoBulk]
    | slice elems spare => simp only [Rows.uptoBulk]; omega
    | agg parts => simp [Rows.uptoBulk]
    | iface t d => simp [Rows.uptoBulk]
    | map entries => simp [Rows.uptoBulk]
    | held h => simp [Rows.uptoBulk]
  str := fun s => by simp [Rows.uptoBulk]
  slice := fun es sp => by simp only [Rows.uptoBulk]; omega
  agg := fun ps => by simp [Rows.uptoBulk]
  nil := by simp [Rows.uptoBulkAll]
  cons := fun d l => by simp [Rows.uptoBulkAll]
theorem small {H : Type} (ds : List (DataW H)) (h : Rows.uptoSmall H ds = true) : Rows.uptoBulkAll ds ≤ 1048576 := of_decide_eq_true h

theorem pick_slice {α : Type} (row : α → List AV) (w : α → Nat) {n : Nat} {z : Nat} {f : Fin n → List AV} {g : Fin n → Nat} (h : ∀ i, ∃ x, f i = row x ∧ w x ≤ g i) :
    ∃ xs : List α, AV.sl z .no n f = .sl z .no xs.length (fun j => row (xs.get j)) ∧ (xs.map w).sum ≤ (List.ofFn g).sum := by
  classical
  obtain ⟨y, hc⟩ : ∃ y : Fin n → α, ∀ i, f i = row (y i) ∧ w (y i) ≤ g i := ⟨fun i => Classical.choose (h i), fun i => Classical.choose_spec (h i)⟩
  refine ⟨List.ofFn y, sl_ext (by simp) fun i h1 h2 => ?_, ?_⟩
  · rw [(hc ⟨i, h1⟩).1]; simp
  · rw [List.map_ofFn]
    have : ∀ i, w (y i) ≤ g i := fun i => (hc i).2
    clear hc h
    induction n with
    | zero => simp
    | succ n ih =>
      rw [List.ofFn_succ, List.ofFn_succ, List.sum_cons, List.sum_cons]
      have h0 := this 0
      have := ih (f := fun i => f i.succ) (g := fun i => g i.succ) (y := fun i => y i.succ) fun i => this i.succ
      simp only [Function.comp_def] at this ⊢
      omega

section
variable {fuel b : Nat} {p : List AV}
theorem tStr (h : Typed Try.prog fuel 9 b p) : ∃ s, p = [.str s] ∧ s.length + 1 ≤ b := by
  cases fuel with
  | zero => exact h.elim
  | succ fuel => unfold Typed at h; rw [Try.underlying9] at h; obtain ⟨s, rfl, _, h⟩ := h; exact ⟨s, rfl, h⟩
theorem tInt (h : Typed Try.prog fuel 3 b p) : ∃ n, p = [.int .i64 n] := by
  cases fuel with
  | zero => exact h.elim
  | succ fuel => unfold Typed at h; rw [Try.underlying3] at h; obtain ⟨s, rfl, _⟩ := h; exact ⟨s, rfl⟩
theorem tU64 (h : Typed Try.prog fuel 22 b p) : ∃ n, p = [.int .u64 n] := by
  cases fuel with
  | zero => exact h.elim
  | succ fuel => unfold Typed at h; rw [Try.underlying22] at h; obtain ⟨s, rfl, _⟩ := h; exact ⟨s, rfl⟩
theorem tInts {t : TypeId} (ht : Try.prog.underlying t = some (.slice 3)) (h : Typed Try.prog fuel t b p) : ∃ n f, p = [.sl 1 .no n f] := by
  cases fuel with
  | zero => exact h.elim
  | succ fuel =>
    unfold Typed at h; rw [ht] at h; obtain ⟨n, f, g, rfl, _⟩ := h
    exact ⟨n, f, by rw [show Try.prog.cellsOf 3 = 1 from by kernel_rfl]⟩
theorem tItem (h : Typed Try.prog fuel 68 b p) : ∃ x : Itm, p = itR x := by
  cases fuel with
  | zero => exact h.elim
  | succ fuel =>
    unfold Typed at h
    rw [Try.underlying68] at h
    obtain ⟨parts, bs, rfl, hp, hb, _, h⟩ := h
    match parts, hp, bs, hb with
    | [p0, p1, p2, p3, p4], _, [b0, b1, b2, b3, b4], _ =>
      obtain ⟨k, rfl⟩ := tInt (h 0 _ _ _ rfl rfl rfl)
      obtain ⟨s, rfl, _⟩ := tStr (h 1 _ _ _ rfl rfl rfl)
      obtain ⟨t, rfl⟩ := tInt (h 2 _ _ _ rfl rfl rfl)
      obtain ⟨v, rfl⟩ := tU64 (h 3 _ _ _ rfl rfl rfl)
      obtain ⟨n, f, rfl⟩ := tInts (by kernel_rfl) (h 4 _ _ _ rfl rfl rfl)
      exact ⟨⟨k, s, t, v, n, f⟩, rfl⟩
theorem tItems (h : Typed Try.prog fuel 63 b p) : ∃ xs : List Itm, p = [itL xs] ∧ xs.length + 1 ≤ b := by
  cases fuel with
  | zero => exact h.elim
  | succ fuel =>
    unfold Typed at h
    rw [Try.underlying63] at h
    obtain ⟨n, f, g, rfl, _, hs, h⟩ := h
    obtain ⟨xs, h1, h2⟩ := pick_slice itR (fun _ => 1) (z := 5) (f := f) (g := g) fun i => by
      obtain ⟨x, hx⟩ := tItem (h i).2
      exact ⟨x, hx, (h i).1⟩
    refine ⟨xs, by rw [show Try.prog.cellsOf 68 = 5 from by kernel_rfl, h1]; rfl, ?_⟩
    have : (xs.map fun _ => 1).sum = xs.length := by
      clear h1 h2
      induction xs with
      | nil => rfl
      | cons x xs ih => rw [List.map_cons, List.sum_cons, ih, List.length_cons]; omega
    omega
theorem tIfc (h : Typed Try.prog fuel 65 b p) : ∃ x : Ifc, p = ifR x ∧ 1 + x.items.length ≤ b := by
  cases fuel with
  | zero => exact h.elim
  | succ fuel =>
    unfold Typed at h
    rw [Try.underlying65] at h
    obtain ⟨parts, bs, rfl, hp, hb, hs, h⟩ := h
    match parts, hp, bs, hb with
    | [p0, p1], _, [b0, b1], _ =>
      obtain ⟨s, rfl, _⟩ := tStr (h 0 _ _ _ rfl rfl rfl)
      obtain ⟨xs, rfl, hx⟩ := tItems (h 1 _ _ _ rfl rfl rfl)
      refine ⟨⟨s, xs⟩, rfl, ?_⟩
      simp at hs
      show 1 + xs.length ≤ b
      omega
theorem tIfcs (h : Typed Try.prog fuel 48 b p) : ∃ xs : List Ifc, p = [ifL xs] ∧ size xs ≤ b := by
  cases fuel with
  | zero => exact h.elim
  | succ fuel =>
    unfold Typed at h
    rw [Try.underlying48] at h
    obtain ⟨n, f, g, rfl, _, hs, h⟩ := h
    obtain ⟨xs, h1, h2⟩ := pick_slice ifR (fun x => 1 + x.items.length) (z := 2) (f := f) (g := g) fun i => tIfc (h i).2
    refine ⟨xs, by rw [show Try.prog.cellsOf 65 = 2 from by kernel_rfl, h1]; rfl, ?_⟩
    have : (xs.map fun x => 1 + x.items.length).sum = size xs := by
      clear h1 h2
      unfold size
      induction xs with
      | nil => rfl
      | cons x xs ih => simp only [List.map_cons, List.sum_cons, List.length_cons] at ih ⊢; omega
    omega
end
theorem flat48 : flatSet Try.prog [48, 65, 63, 68, 9, 3, 22, 66] = true := by kernel_rfl
theorem fars_law (xs : List AV) (M : Nat) (hM : M ≤ 1048576) (h : TypedArgs Try.prog Try.f6.params.toList M xs) : dF 6 xs [] .plain = some (.ret (.bool true) [] .plain) := by
  rw [Try.params6] at h
  match xs, h with
  | [a], ⟨b, M', ⟨fuel, l, ht, ha⟩, _, hb⟩ =>
    subst ha
    obtain ⟨xs, rfl, hx⟩ := tIfcs ht
    rw [show mkA Try.prog 48 [ifL xs] = ifL xs from by kernel_rfl]
    exact fars_true xs (by omega)
theorem ext_none : CallSound Try.prog (extCall ext0) := fun f args h ps out e => by cases e
theorem fars_lifted (os : Os) (started : os.Started) (H : Type) (enc : TypeId × Value → H) (F : Stop.Interp) :
    ReturnsInHanded {} Try.checked os 6 .any ((Rows.OpenSpec.upto Rows.foldFarsSpec).pre6 enc Try.prog Try.f6 Rows.foldFarsUptoRow.domain false) (((Rows.OpenSpec.upto Rows.foldFarsSpec).at F).post enc Try.prog Try.f6 false true false false) :=
  law_upto (C := Try.checked) (tb := 4) bulkB rfl small Try.own started (by kernel_rfl) Try.func6
    (OpenSpec.witness (enc := enc) (C := Try.checked) (s := Rows.OpenSpec.upto Rows.foldFarsSpec) (k := Rows.uptoSmall) rfl false ⟨#[], #[.slice none 0 0], []⟩ 8 (by kernel_rfl) (by kernel_rfl) (by kernel_rfl)
      (x := ([.nil], [], [])) (by kernel_rfl) rfl (by kernel_rfl))
    okay (denA_sound okay polF ext_none) fars_law (fun t ht => ⟨_, flat48, by rw [Try.params6] at ht; have : t = 48 := by simpa using ht
                                                                              subst this; simp⟩) Try.laidOut
    (fun t ht => by rw [Try.params6] at ht; have : t = 48 := by simpa using ht
                    subst this; exact ⟨by kernel_rfl, of_decide_eq_true (by kernel_rfl)⟩) rfl
    (fun ds hl => by
      rw [Try.params6] at hl
      match ds, hl with
      | [x], _ => rfl) (by kernel_rfl) (by kernel_rfl)
theorem fars_holds : Rows.FoldFarsUptoSaid :=
  OpenClaim.holds_of_cond 6 Try.f6 rfl rfl rfl rfl rfl rfl rfl ⟨rfl, rfl, rfl, rfl, rfl⟩ rfl rfl rfl rfl rfl (by kernel_rfl) Try.func6 (by kernel_rfl)
    (of_decide_eq_true (by kernel_rfl)) (by unfold Func.isWrapper; first | (rw [if_pos (by decide +kernel)]; kernel_rfl) | (rw [if_neg (by decide +kernel)]; exact ⟨rfl, rfl⟩))
    (fun os started H enc _ F => fars_lifted os started H enc F)
#print axioms fars_holds
end Go.Proofs.Ytndanoiaheknaaa
