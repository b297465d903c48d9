/- The row of FoldLifts: what it reads being of bulk at most 1048576: it returns true. -/
import Derived.Test.YtndanoiaheknaaaDenLg
import Derived.Test.YtndanoiaheknaaaDenLawRow2
import Derived.Test.YtndanoiaheknaaaRows
set_option linter.unusedSimpArgs false
set_option linter.unusedVariables false
namespace Go.Proofs.Ytndanoiaheknaaa
open Go.Den Go.ChangeShapes Go.WideShapes Go.ChangeAt Go.RowKit
set_option maxRecDepth 100000
theorem Try.own : ownKnob Try.prog.godebug = none := by kernel_rfl
theorem Try.laidOut : laidOutB Try.prog = true := by kernel_rfl
theorem okNames : (Try.prog.funcs.toList.all fun fn => !(fn.name == "runtime.NumGoroutine")) = true := by kernel_rfl
theorem okay : Okay Try.prog where
  names := fun f fn h => by
    have := List.all_eq_true.1 okNames fn (by simpa using Array.mem_of_getElem? h)
    simpa using this
  mixed := by kernel_rfl
theorem bulkB {H : Type} : BulkB (H := H) Rows.uptoBulk Rows.uptoBulkAll where
  one := fun d => by
    cases d with
    | lit l => cases l <;> simp [Rows.uptoBulk]
    | nil => simp [Rows.uptoBulk]
    | ptr d => simp [Rows.uptoBulk]
    | slice elems spare => simp only [Rows.uptoBulk]; omega
    | agg parts => simp [Rows.uptoBulk]
    | iface t d => simp [Rows.uptoBulk]
    | map entries => simp [Rows.uptoBulk]
    | held h => simp [Rows.uptoBulk]
  str := fun s => by simp [Rows.uptoBulk]
  slice := fun es sp => by simp only [Rows.uptoBulk]; omega
  agg := fun ps => by simp [Rows.uptoBulk]
  nil := by simp [Rows.uptoBulkAll]
  cons := fun d l => by simp [Rows.uptoBulkAll]
theorem small {H : Type} (ds : List (DataW H)) (h : Rows.uptoSmall H ds = true) : Rows.uptoBulkAll ds ≤ 1048576 := of_decide_eq_true h


section
variable {fuel b : Nat} {p : List AV}
theorem tStr (h : Typed Try.prog fuel 9 b p) : ∃ s, p = [.str s] ∧ s.length + 1 ≤ b := by
  cases fuel with
  | zero => exact h.elim
  | succ fuel => unfold Typed at h; rw [Try.underlying9] at h; obtain ⟨s, rfl, _, h⟩ := h; exact ⟨s, rfl, h⟩
theorem tInt (h : Typed Try.prog fuel 3 b p) : ∃ n, p = [.int .i64 n] := by
  cases fuel with
  | zero => exact h.elim
  | succ fuel => unfold Typed at h; rw [Try.underlying3] at h; obtain ⟨s, rfl, _⟩ := h; exact ⟨s, rfl⟩
theorem tU64 (h : Typed Try.prog fuel 22 b p) : ∃ n, p = [.int .u64 n] := by
  cases fuel with
  | zero => exact h.elim
  | succ fuel => unfold Typed at h; rw [Try.underlying22] at h; obtain ⟨s, rfl, _⟩ := h; exact ⟨s, rfl⟩
theorem tVal (h : Typed Try.prog fuel 24 b p) : ∃ t v, p = [.int .i64 t, .int .u64 v] := by
  cases fuel with
  | zero => exact h.elim
  | succ fuel =>
    unfold Typed at h
    rw [Try.underlying24] at h
    obtain ⟨parts, bs, rfl, hp, hb, _, h⟩ := h
    match parts, hp, bs, hb with
    | [p0, p1], _, [b0, b1], _ =>
      obtain ⟨t, rfl⟩ := tInt (h 0 _ _ _ rfl rfl rfl)
      obtain ⟨v, rfl⟩ := tU64 (h 1 _ _ _ rfl rfl rfl)
      exact ⟨t, v, rfl⟩
theorem tCon (h : Typed Try.prog fuel 39 b p) : ∃ c : Con, p = conR c ∧ c.mod.length + c.name.length ≤ b := by
  cases fuel with
  | zero => exact h.elim
  | succ fuel =>
    unfold Typed at h
    rw [Try.underlying39] at h
    obtain ⟨parts, bs, rfl, hp, hb, hs, h⟩ := h
    match parts, hp, bs, hb with
    | [p0, p1, p2], _, [b0, b1, b2], _ =>
      obtain ⟨m, rfl, h0⟩ := tStr (h 0 _ _ _ rfl rfl rfl)
      obtain ⟨s, rfl, h1⟩ := tStr (h 1 _ _ _ rfl rfl rfl)
      obtain ⟨t, v, rfl⟩ := tVal (h 2 _ _ _ rfl rfl rfl)
      refine ⟨⟨m, s, t, v⟩, rfl, ?_⟩
      simp at hs
      show m.length + s.length ≤ b
      omega
end
theorem sum_one {n : Nat} {g : Fin n → Nat} (h : ∀ i, 1 ≤ g i) : n ≤ (List.ofFn g).sum := by
  induction n with
  | zero => exact Nat.zero_le _
  | succ n ih =>
    rw [List.ofFn_succ, List.sum_cons]
    have := h 0
    have := ih (g := fun i => g i.succ) fun i => h i.succ
    omega
theorem le_sum {n : Nat} {g : Fin n → Nat} (i : Fin n) : g i ≤ (List.ofFn g).sum := by
  induction n with
  | zero => exact i.elim0
  | succ n ih =>
    rw [List.ofFn_succ, List.sum_cons]
    cases i using Fin.cases with
    | zero => omega
    | succ i => have := ih (g := fun i => g i.succ) i; omega
theorem sl_list {α : Type} (rw' : α → List AV) {n z : Nat} {f : Fin n → List AV} {Q : α → Prop} (h : ∀ i, ∃ x, f i = rw' x ∧ Q x) :
    ∃ xs : List α, AV.sl z .no n f = .sl z .no xs.length (fun j => rw' (xs.get j)) ∧ xs.length = n ∧ ∀ x ∈ xs, Q x := by
  classical
  obtain ⟨y, hc⟩ : ∃ y : Fin n → α, ∀ i, f i = rw' (y i) ∧ Q (y i) := ⟨fun i => Classical.choose (h i), fun i => Classical.choose_spec (h i)⟩
  refine ⟨List.ofFn y, sl_ext (by simp) fun i h1 h2 => ?_, by simp, fun x hx => ?_⟩
  · rw [(hc ⟨i, h1⟩).1]; simp
  · obtain ⟨i, rfl⟩ := List.mem_ofFn.1 hx
    exact (hc i).2
theorem tCons {t : TypeId} (hu : Try.prog.underlying t = some (.slice 39)) {fuel b : Nat} {p : List AV} (h : Typed Try.prog fuel t b p) (hb : b ≤ 1048576) : ∃ xs : List Con, p = [conL xs] ∧ xs.length ≤ b ∧ ∀ x ∈ xs, x.mod.length < 1000000000 := by
  cases fuel with
  | zero => exact h.elim
  | succ fuel =>
    unfold Typed at h
    rw [hu] at h
    obtain ⟨n, f, g, rfl, _, hs, h⟩ := h
    have hn := sum_one fun i => (h i).1
    obtain ⟨xs, h1, h2, h3⟩ := sl_list conR (z := 4) (f := f) (Q := fun c => c.mod.length < 1000000000) fun i => by
      obtain ⟨x, hx, hl⟩ := tCon (h i).2
      have := le_sum (g := g) i
      exact ⟨x, hx, by omega⟩
    exact ⟨xs, by rw [show Try.prog.cellsOf 39 = 4 from by kernel_rfl, h1]; rfl, by omega, h3⟩
theorem tEx : ∀ (fuel : Nat) {b : Nat} {p : List AV}, Typed Try.prog fuel 32 b p → b ≤ 1048576 → ∃ e : Ex, p = row e ∧ Small e := by
  intro fuel
  induction fuel using Nat.strongRecOn with
  | _ fuel ih =>
    intro b p h hb
    cases fuel with
    | zero => exact h.elim
    | succ fuel =>
      unfold Typed at h
      rw [Try.underlying32] at h
      obtain ⟨parts, bs, rfl, hp, hbl, hs, h⟩ := h
      match parts, hp, bs, hbl with
      | [p0, p1, p2, p3, p4, p5], _, [b0, b1, b2, b3, b4, b5], _ =>
        obtain ⟨k, rfl⟩ := tInt (h 0 _ _ _ rfl rfl rfl)
        obtain ⟨o, rfl⟩ := tInt (h 1 _ _ _ rfl rfl rfl)
        obtain ⟨m, rfl, h2⟩ := tStr (h 2 _ _ _ rfl rfl rfl)
        obtain ⟨s, rfl, h3⟩ := tStr (h 3 _ _ _ rfl rfl rfl)
        obtain ⟨t, v, rfl⟩ := tVal (h 4 _ _ _ rfl rfl rfl)
        have h5 : Typed Try.prog fuel 30 b5 p5 := h 5 _ _ _ rfl rfl rfl
        simp at hs
        cases fuel with
        | zero => exact h5.elim
        | succ fuel =>
          unfold Typed at h5
          rw [show Try.prog.underlying 30 = some (.slice 32) from by kernel_rfl] at h5
          obtain ⟨n, f, g, rfl, _, hg, h5⟩ := h5
          have hn := sum_one fun i => (h5 i).1
          obtain ⟨xs, e1, e2, e3⟩ := sl_list row (z := 7) (f := f) (Q := Small) fun i => by
            have := le_sum (g := g) i
            exact ih fuel (by omega) (h5 i).2 (by omega)
          refine ⟨.mk k o m s t v xs, ?_, .mk _ (show m.length < _ by omega) (show s.length < _ by omega) (show xs.length < _ by omega) fun j => e3 _ (List.get_mem ..)⟩
          rw [row_eq, show Try.prog.cellsOf 32 = 7 from by kernel_rfl, e1]
          rfl
theorem tBools {fuel b : Nat} {p : List AV} (h : Typed Try.prog fuel 34 b p) (hb : b ≤ 1048576) : ∃ xs : List Bool, p = [boolL xs] ∧ xs.length ≤ b := by
  cases fuel with
  | zero => exact h.elim
  | succ fuel =>
    unfold Typed at h
    rw [show Try.prog.underlying 34 = some (.slice 4) from by kernel_rfl] at h
    obtain ⟨n, f, g, rfl, _, hs, h⟩ := h
    have hn := sum_one fun i => (h i).1
    obtain ⟨xs, h1, h2, _⟩ := sl_list (fun x : Bool => [AV.bool x]) (z := 1) (f := f) (Q := fun _ => True) fun i => by
      have h' := (h i).2
      cases fuel with
      | zero => exact h'.elim
      | succ fuel =>
        unfold Typed at h'
        rw [show Try.prog.underlying 4 = some .bool from by kernel_rfl] at h'
        obtain ⟨x, hx⟩ := h'
        exact ⟨x, hx, trivial⟩
    exact ⟨xs, by rw [show Try.prog.cellsOf 4 = 1 from by kernel_rfl, h1]; rfl, by omega⟩
theorem extL_sound : CallSound Try.prog (extCall extL) := by
  intro f args h ps out e
  unfold extCall at e
  cases hf : (f == 4 || f == 10 || f == 11 || f == 13) with
  | true =>
    have : extL f = none := by unfold extL; rw [hf]; rfl
    rw [this] at e
    cases e
  | false =>
    have : extL f = some fun f args h ps => dX f args h ps := by unfold extL; rw [hf]; rfl
    rw [this] at e
    exact denA_sound okay polX extT_sound f args h ps out e
theorem flatX : flatSet Try.prog [32, 30, 33, 39, 24, 9, 3, 22, 34, 4] = true := by kernel_rfl
theorem lifts_rows (xs : List AV) (M : Nat) (hM : M ≤ 1048576) (h : TypedArgs Try.prog Try.f4.params.toList M xs) : dL 4 xs [] .plain = some (.ret (.bool true) [] .plain) := by
  rw [Try.params4] at h
  match xs, h with
  | [a0, a1, a2], ⟨b0, M0, ⟨f0, l0, ht0, ha0⟩, ⟨b1, M1, ⟨f1, l1, ht1, ha1⟩, ⟨b2, M2, ⟨f2, l2, ht2, ha2⟩, _, hb2⟩, hb1⟩, hb0⟩ =>
    subst ha0; subst ha1; subst ha2
    obtain ⟨e, rfl, hs⟩ := tEx f0 ht0 (by omega)
    obtain ⟨l, rfl, hl, _⟩ := tCons (by kernel_rfl) ht1 (by omega)
    obtain ⟨way, rfl, hw⟩ := tBools ht2 (by omega)
    have e0 : mkA Try.prog 32 (row e) = agE e := by
      rw [row_eq, ← agS]
      unfold mkA
      rw [show isAggD Try.prog 32 = true from by kernel_rfl]
      rfl
    have e1 : ∀ l, mkA Try.prog 33 [conL l] = conL l := fun l => by kernel_rfl
    have e2 : ∀ l, mkA Try.prog 34 [boolL l] = boolL l := fun l => by kernel_rfl
    rw [e0, e1, e2]
    refine lifts_true e l way hs ?_ ?_
    · omega
    · omega
theorem lifts_lifted (os : Os) (started : os.Started) (H : Type) (enc : TypeId × Value → H) (F : Stop.Interp) :
    ReturnsInHanded {} Try.checked os 4 .any ((Rows.OpenSpec.upto Rows.foldLiftsSpec).pre6 enc Try.prog Try.f4 Rows.foldLiftsUptoRow.domain false) (((Rows.OpenSpec.upto Rows.foldLiftsSpec).at F).post enc Try.prog Try.f4 false true false false) :=
  law_upto (C := Try.checked) (tb := 4) bulkB rfl small Try.own started (by kernel_rfl) Try.func4
    (OpenSpec.witness (enc := enc) (C := Try.checked) (s := Rows.OpenSpec.upto Rows.foldLiftsSpec) (k := Rows.uptoSmall) rfl false ⟨#[], #[.agg #[.int .i64 0, .int .i64 0, .string ⟨#[]⟩, .string ⟨#[]⟩, .int .i64 0, .int .u64 0, .slice none 0 0], .slice none 0 0, .slice none 0 0], []⟩ 8 (by kernel_rfl) (by kernel_rfl) (by kernel_rfl)
      (x := ([.agg [.lit (.int .i64 0), .lit (.int .i64 0), .lit (.string []), .lit (.string []), .agg [.lit (.int .i64 0), .lit (.int .u64 0)], .nil], .nil, .nil], [], [])) (by kernel_rfl) rfl (by kernel_rfl))
    okay (denA_sound okay polL extL_sound) lifts_rows (fun t ht => ⟨_, flatX, by rw [Try.params4] at ht; simp at ht; rcases ht with rfl | rfl | rfl <;> simp⟩) Try.laidOut
    (fun t ht => by rw [Try.params4] at ht; simp at ht; rcases ht with rfl | rfl | rfl
                    · exact ⟨by kernel_rfl, of_decide_eq_true (by kernel_rfl)⟩
                    · exact ⟨by kernel_rfl, of_decide_eq_true (by kernel_rfl)⟩
                    · exact ⟨by kernel_rfl, of_decide_eq_true (by kernel_rfl)⟩) rfl
    (fun ds hl => by
      rw [Try.params4] at hl
      match ds, hl with
      | [x, y, z], _ => rfl) (by kernel_rfl) (by kernel_rfl)
theorem lifts_holds : Rows.FoldLiftsUptoSaid :=
  OpenClaim.holds_of_cond 4 Try.f4 rfl rfl rfl rfl rfl rfl rfl ⟨rfl, rfl, rfl, rfl, rfl⟩ rfl rfl rfl rfl rfl (by kernel_rfl) Try.func4 (by kernel_rfl)
    (of_decide_eq_true (by kernel_rfl)) (by unfold Func.isWrapper; first | (rw [if_pos (by decide +kernel)]; kernel_rfl) | (rw [if_neg (by decide +kernel)]; exact ⟨rfl, rfl⟩))
    (fun os started H enc _ F => lifts_lifted os started H enc F)
#print axioms lifts_holds
end Go.Proofs.Ytndanoiaheknaaa
