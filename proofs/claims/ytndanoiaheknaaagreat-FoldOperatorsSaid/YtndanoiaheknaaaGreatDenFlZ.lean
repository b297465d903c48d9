/- A part of the second reading: contracts of functions. -/
import Derived.Test.YtndanoiaheknaaaGreatDenDen
import Derived.Test.YtndanoiaheknaaaGreatProg
import Derived.KernelRfl
import Derived.Test.YtndanoiaheknaaaGreatDenFl
import Derived.Laws.FloatBits
set_option linter.unusedSimpArgs false
set_option linter.unusedVariables false

/- Floats of the second seat: walks. -/
namespace Go.Proofs
open Go.Den Go.ChangeShapes Go.WideShapes Go.ChangeAt Go.RowKit
set_option maxRecDepth 100000
theorem h68 (a : Int) (w : World) : Sem.run Tryz.prog (callFunc 78 #[Value.int .u64 a]) w = .ok (.value (.float .f64 a.toNat)) w := by
  rw [run_callFunc_extern (P := Tryz.prog) (e := Extern.MathFloatBits.float64frombits) Tryz.func78 (by kernel_rfl) rfl (by kernel_rfl) (by kernel_rfl)]
  rfl
theorem h67 (b : Nat) (w : World) : Sem.run Tryz.prog (callFunc 50 #[Value.float .f64 b]) w = .ok (.value (.int .u64 b)) w := by
  rw [run_callFunc_extern (P := Tryz.prog) (e := Extern.MathFloatBits.float64bits) Tryz.func50 (by kernel_rfl) rfl (by kernel_rfl) (by kernel_rfl)]
  rfl
theorem w54 (r : Nat) (w : World) : Calls Tryz.prog 43 #[.float .f64 r] w fun e w' => e = .returned (.int .u64 (cnI r)) ∧ Same w w' := by
  have he := h67
  go_enter Tryz.func43, Tryz.ntmps43
  go_wp2
  all_goals go_ret
  all_goals refine ⟨?_, Same.refl _⟩
  all_goals simp_all [cnI, nanC]
  all_goals omega
theorem w_add (a b : Int) (w : World) : Calls Tryz.prog 56 #[.int .u64 a, .int .u64 b] w fun e w' => e = .returned (.int .u64 (arI .add a b)) ∧ Same w w' := by
  have hd := h68
  cases hr : arF .add a.toNat b.toNat with
  | some r =>
    have hs := fun w => run_arS (P := Tryz.prog) (ft := 62) (.inl rfl) hr w
    have hc := w54 r
    go_enter Tryz.func56, Tryz.ntmps56
    go_wp2_with (first | (go_at_call 43; refine (hc _).mono ?_; rintro e w' ⟨rfl, h⟩) | go_in)
    all_goals go_ret
    exact ⟨by simp [arI, hr], h⟩
  | none =>
    obtain ⟨t, hs⟩ := run_arN (P := Tryz.prog) (ft := 62) (.inl rfl) hr w
    have hc := w54 (nanW t)
    go_enter Tryz.func56, Tryz.ntmps56
    go_wp2_with (first | (go_at_call 43; refine (hc _).mono ?_; rintro e w' ⟨rfl, h⟩) | go_in)
    all_goals go_ret
    exact ⟨by simp [arI, hr, cn_nan], h⟩
theorem w_sub (a b : Int) (w : World) : Calls Tryz.prog 57 #[.int .u64 a, .int .u64 b] w fun e w' => e = .returned (.int .u64 (arI .sub a b)) ∧ Same w w' := by
  have hd := h68
  cases hr : arF .sub a.toNat b.toNat with
  | some r =>
    have hs := fun w => run_arS (P := Tryz.prog) (ft := 62) (.inr (.inl rfl)) hr w
    have hc := w54 r
    go_enter Tryz.func57, Tryz.ntmps57
    go_wp2_with (first | (go_at_call 43; refine (hc _).mono ?_; rintro e w' ⟨rfl, h⟩) | go_in)
    all_goals go_ret
    exact ⟨by simp [arI, hr], h⟩
  | none =>
    obtain ⟨t, hs⟩ := run_arN (P := Tryz.prog) (ft := 62) (.inr (.inl rfl)) hr w
    have hc := w54 (nanW t)
    go_enter Tryz.func57, Tryz.ntmps57
    go_wp2_with (first | (go_at_call 43; refine (hc _).mono ?_; rintro e w' ⟨rfl, h⟩) | go_in)
    all_goals go_ret
    exact ⟨by simp [arI, hr, cn_nan], h⟩
theorem w_mul (a b : Int) (w : World) : Calls Tryz.prog 58 #[.int .u64 a, .int .u64 b] w fun e w' => e = .returned (.int .u64 (arI .mul a b)) ∧ Same w w' := by
  have hd := h68
  cases hr : arF .mul a.toNat b.toNat with
  | some r =>
    have hs := fun w => run_arS (P := Tryz.prog) (ft := 62) (.inr (.inr (.inl rfl))) hr w
    have hc := w54 r
    go_enter Tryz.func58, Tryz.ntmps58
    go_wp2_with (first | (go_at_call 43; refine (hc _).mono ?_; rintro e w' ⟨rfl, h⟩) | go_in)
    all_goals go_ret
    exact ⟨by simp [arI, hr], h⟩
  | none =>
    obtain ⟨t, hs⟩ := run_arN (P := Tryz.prog) (ft := 62) (.inr (.inr (.inl rfl))) hr w
    have hc := w54 (nanW t)
    go_enter Tryz.func58, Tryz.ntmps58
    go_wp2_with (first | (go_at_call 43; refine (hc _).mono ?_; rintro e w' ⟨rfl, h⟩) | go_in)
    all_goals go_ret
    exact ⟨by simp [arI, hr, cn_nan], h⟩
theorem w_quo (a b : Int) (w : World) : Calls Tryz.prog 59 #[.int .u64 a, .int .u64 b] w fun e w' => e = .returned (.int .u64 (arI .quo a b)) ∧ Same w w' := by
  have hd := h68
  cases hr : arF .quo a.toNat b.toNat with
  | some r =>
    have hs := fun w => run_arS (P := Tryz.prog) (ft := 62) (.inr (.inr (.inr rfl))) hr w
    have hc := w54 r
    go_enter Tryz.func59, Tryz.ntmps59
    go_wp2_with (first | (go_at_call 43; refine (hc _).mono ?_; rintro e w' ⟨rfl, h⟩) | go_in)
    all_goals go_ret
    exact ⟨by simp [arI, hr], h⟩
  | none =>
    obtain ⟨t, hs⟩ := run_arN (P := Tryz.prog) (ft := 62) (.inr (.inr (.inr rfl))) hr w
    have hc := w54 (nanW t)
    go_enter Tryz.func59, Tryz.ntmps59
    go_wp2_with (first | (go_at_call 43; refine (hc _).mono ?_; rintro e w' ⟨rfl, h⟩) | go_in)
    all_goals go_ret
    exact ⟨by simp [arI, hr, cn_nan], h⟩
theorem w_eq (a b : Int) (w : World) : Calls Tryz.prog 60 #[.int .u64 a, .int .u64 b] w fun e w' => e = .returned (.bool (eqF a b)) ∧ Same w w' := by
  have hd := h68
  have hs := fun w => run_cmp (P := Tryz.prog) (ft := 62) (op := .eql) (x := a.toNat) (y := b.toNat) (b := eqF a b) rfl (.inl rfl) w
  go_enter Tryz.func60, Tryz.ntmps60
  go_wp2
  all_goals go_ret
  exact ⟨by simp, Same.refl _⟩
theorem w_lt (a b : Int) (w : World) : Calls Tryz.prog 61 #[.int .u64 a, .int .u64 b] w fun e w' => e = .returned (.bool (ltF a b)) ∧ Same w w' := by
  have hd := h68
  have hs := fun w => run_cmp (P := Tryz.prog) (ft := 62) (op := .lss) (x := a.toNat) (y := b.toNat) (b := ltF a b) rfl (.inr (.inl rfl)) w
  go_enter Tryz.func61, Tryz.ntmps61
  go_wp2
  all_goals go_ret
  exact ⟨by simp, Same.refl _⟩
theorem w_from (n : Int) (w : World) : Calls Tryz.prog 17 #[.int .i64 n] w fun e w' => e = .returned (.int .u64 (fromI n)) ∧ Same w w' := by
  have hc := w54 (FloatKind.f64.nearest n)
  have hs : ∀ w, Sem.run Tryz.prog (convert 2 62 (.int .i64 n)) w = .ok (.float .f64 (FloatKind.f64.nearest n)) w := fun w => by
    simp [convert, Tryz.underlying2, Tryz.underlying62, Conv.intToFloat]
  go_enter Tryz.func17, Tryz.ntmps17
  go_wp2_with (first | (go_at_call 43; refine (hc _).mono ?_; rintro e w' ⟨rfl, h⟩) | go_in)
  all_goals go_ret
  exact ⟨by simp [fromI], h⟩
theorem h73 {x y : Nat} (h : truncF x = some y) (w : World) : Sem.run Tryz.prog (callFunc 76 #[Value.float .f64 x]) w = .ok (.value (.float .f64 y)) w := by
  rw [run_callFunc_extern (P := Tryz.prog) (e := Extern.MathFloor.toIntegral "math.archTrunc" .zero) Tryz.func76 (by kernel_rfl) rfl (by kernel_rfl) (by kernel_rfl)]
  unfold truncF at h
  cases hd : Ieee.double.read x with
  | nan s t => rw [hd] at h; cases h
  | number s m i => rw [hd] at h; cases h; rw [trunc_num hd (fun _ _ => by simp)]; rfl
  | infinity s => rw [hd] at h; cases h; rw [trunc_num hd (fun _ _ => by simp)]; rfl
theorem h73n {x : Nat} (h : truncF x = none) (w : World) : ∃ y w', Sem.run Tryz.prog (callFunc 76 #[Value.float .f64 x]) w = .ok (.value (.float .f64 y)) w' ∧ inR y = false ∧ Same w w' := by
  rw [run_callFunc_extern (P := Tryz.prog) (e := Extern.MathFloor.toIntegral "math.archTrunc" .zero) Tryz.func76 (by kernel_rfl) rfl (by kernel_rfl) (by kernel_rfl)]
  unfold truncF at h
  cases hd : Ieee.double.read x with
  | number s m i => rw [hd] at h; cases h
  | infinity s => rw [hd] at h; cases h
  | nan s t =>
    rw [trunc_run hd]
    by_cases hq : Ieee.double.quiet t = t
    · rw [if_pos hq]
      exact ⟨x, w, rfl, nan_out ⟨s, t, hd⟩, Same.refl w⟩
    · rw [if_neg hq]
      refine ⟨if ((Question.extern "math.Floor,Ceil,Trunc,RoundToEven.signallingNaN kept" 2).cut (w.tape w.drawn (Question.extern "math.Floor,Ceil,Trunc,RoundToEven.signallingNaN kept" 2)) == 1) then x else Ieee.double.write (.nan s (Ieee.double.quiet t)), w.drew, ?_, ?_, Same.drew w⟩
      · simp [Sem.run, choose, Question.forced]
      · split
        · exact nan_out ⟨s, t, hd⟩
        · exact nan_out (write_nan s t)
set_option maxHeartbeats 2000000 in
theorem w_to (a : Int) (w : World) : Calls Tryz.prog 15 #[.int .u64 a] w fun e w' => e = .returned (.tuple #[.int .i64 ((toI a).getD 0), .int .i64 (if (toI a).isSome then 0 else 82)]) ∧ Same w w' := by
  have hd := h68
  have core : ∀ (y : Nat) (w' : World), Sem.run Tryz.prog (callFunc 76 #[Value.float .f64 a.toNat]) w = .ok (.value (.float .f64 y)) w' → Same w w' → toI a = (if inR y then (Ieee.double.read y).toInt .zero else none) →
      Calls Tryz.prog 15 #[.int .u64 a] w fun e w' => e = .returned (.tuple #[.int .i64 ((toI a).getD 0), .int .i64 (if (toI a).isSome then 0 else 82)]) ∧ Same w w' := by
    intro y w' ht hs hto
    have hg := fun w => run_cmp (P := Tryz.prog) (ft := 62) (op := .geq) (x := y) (y := m63) (b := Ieee.double.order y m63 == some .gt || Ieee.double.order y m63 == some .eq) rfl (.inr (.inr rfl)) w
    have hl := fun w => run_cmp (P := Tryz.prog) (ft := 62) (op := .lss) (x := y) (y := c63) (b := Ieee.double.order y c63 == some .lt) rfl (.inr (.inl rfl)) w
    unfold m63 at hg
    unfold c63 at hl
    cases hi : inR y with
    | true =>
      obtain ⟨n, hn, hb1, hb2⟩ := inR_int hi
      rw [hi, if_pos rfl, hn] at hto
      rw [hto]
      unfold inR m63 c63 at hi
      have hcv : ∀ w, Sem.run Tryz.prog (convert 62 2 (.float .f64 y)) w = .ok (.int .i64 n) w := fun w => by
        have h1 : IntKind.i64.min ≤ n ∧ n ≤ IntKind.i64.max := ⟨hb1, hb2⟩
        have h2 : Conv.floatToInt .f64 y .i64 = pure (.int .i64 n) := by
          unfold Conv.floatToInt
          have : (FloatKind.f64.decode y).toInt .zero = some n := hn
          rw [this]
          simp only [if_pos h1]
        simp [convert, Tryz.underlying2, Tryz.underlying62, h2]
      generalize (Ieee.double.order y 14114281232179134464 == some .gt || Ieee.double.order y 14114281232179134464 == some .eq) = b1 at *
      generalize (Ieee.double.order y 4890909195324358656 == some .lt) = b2 at *
      simp only [Bool.and_eq_true] at hi
      obtain ⟨rfl, rfl⟩ := hi
      go_enter Tryz.func15, Tryz.ntmps15
      go_wp2
      all_goals go_ret2
      exact ⟨by simp, hs⟩
    | false =>
      rw [hi] at hto
      simp only [Bool.false_eq_true, if_false] at hto
      rw [hto]
      unfold inR m63 c63 at hi
      generalize (Ieee.double.order y 14114281232179134464 == some .gt || Ieee.double.order y 14114281232179134464 == some .eq) = b1 at *
      generalize (Ieee.double.order y 4890909195324358656 == some .lt) = b2 at *
      cases b1 <;> cases b2 <;> simp at hi
      all_goals go_enter Tryz.func15, Tryz.ntmps15
      all_goals go_wp2
      all_goals go_ret2
      all_goals exact ⟨by simp, hs⟩
  cases ht : truncF a.toNat with
  | some y => exact core y w (h73 ht w) (Same.refl w) (by simp [toI, ht])
  | none =>
    obtain ⟨y, w', h1, h2, h3⟩ := h73n ht w
    exact core y w' h1 h3 (by simp [toI, ht, h2])
end Go.Proofs

/- Floats of the second seat: the document's, walks. -/
namespace Go.Proofs
open Go.Den Go.ChangeShapes Go.WideShapes Go.ChangeAt Go.RowKit
set_option maxRecDepth 100000
/-- the document's way to tell what is no number -/
theorem cn_ref (r : Nat) (h : r < 2 ^ 64) : cnI r = if bits .and .u64 ((r : Int) / 2 ^ 52) 2047 = 2047 ∧ IntKind.u64.wrap ((r : Int) * 2 ^ 12) ≠ 0 then nanC else r := by
  have e1 : bits .and .u64 ((r : Int) / 2 ^ 52) 2047 = ((r / 2 ^ 52 % 2048 : Nat) : Int) := by
    have hq : ((r : Int) / 2 ^ 52) = ((r / 2 ^ 52 : Nat) : Int) := rfl
    rw [hq]
    have hlt : r / 2 ^ 52 < 2 ^ 12 := by omega
    generalize r / 2 ^ 52 = q at *
    have e : (BitVec.ofInt 64 (q : Int) &&& BitVec.ofInt 64 2047).toNat = q % 2048 := by
      have h1 : BitVec.ofInt 64 2047 = BitVec.ofNat 64 (2 ^ 11 - 1) := by decide
      rw [h1, BitVec.toNat_and, BitVec.toNat_ofNat, Nat.mod_eq_of_lt (by decide : 2 ^ 11 - 1 < 2 ^ 64)]
      have h2 : (BitVec.ofInt 64 (q : Int)).toNat = q := by simp only [BitVec.toNat_ofInt]; omega
      rw [h2, Nat.and_two_pow_sub_one_eq_mod]
    have e2 : bits .and .u64 (q : Int) 2047 = IntKind.u64.wrap ((q % 2048 : Nat) : Int) := by rw [← e]; rfl
    rw [e2]
    simp only [IntKind.wrap, IntKind.bits, IntKind.signed]
    have : q % 2048 < 2048 := Nat.mod_lt _ (by decide)
    simp
    omega
  have e2 : IntKind.u64.wrap ((r : Int) * 2 ^ 12) = ((r % 2 ^ 52 * 2 ^ 12 : Nat) : Int) := by
    simp only [IntKind.wrap, IntKind.bits, IntKind.signed]
    simp
    omega
  rw [e1, e2]
  unfold cnI
  rw [low63 r h]
  by_cases hc : 9218868437227405312 < ((r % 2 ^ 63 : Nat) : Int)
  · rw [if_pos hc, if_pos]
    omega
  · rw [if_neg hc, if_neg]
    omega
theorem w83 (r : Nat) (h : r < 2 ^ 64) (w : World) : Calls Tryz.prog 83 #[.float .f64 r] w fun e w' => e = .returned (.int .u64 (cnI r)) ∧ Same w w' := by
  have he := h67
  rw [cn_ref r h]
  go_enter Tryz.func83, Tryz.ntmps83
  go_wp2
  all_goals go_ret
  all_goals refine ⟨?_, Same.refl _⟩
  all_goals simp_all [nanC]
theorem ar_lt {op : BinOp} {x y r : Nat} (h : arF op x y = some r) : r < 2 ^ 64 := by
  unfold arF at h
  split at h
  · exact Ieee.Format.add_lt _ h
  · exact Ieee.Format.sub_lt _ h
  · exact Ieee.Format.mul_lt _ h
  · exact Ieee.Format.div_lt _ h
theorem nanW_lt (t : Nat) : nanW t < 2 ^ 64 := by
  have h1 : (t / 2) % (2 ^ 52 - 1) < 2 ^ 52 - 1 := Nat.mod_lt _ (by decide)
  have h2 : t % 2 < 2 := Nat.mod_lt _ (by decide)
  unfold nanW
  omega
theorem x_add (a b : Int) (w : World) : Calls Tryz.prog 65 #[.int .u64 a, .int .u64 b] w fun e w' => e = .returned (.int .u64 (arI .add a b)) ∧ Same w w' := by
  have hd := h68
  cases hr : arF .add a.toNat b.toNat with
  | some r =>
    have hs := fun w => run_arS (P := Tryz.prog) (ft := 62) (.inl rfl) hr w
    have hc := w83 r (ar_lt hr)
    go_enter Tryz.func65, Tryz.ntmps65
    go_wp2_with (first | (go_at_call 83; refine (hc _).mono ?_; rintro e w' ⟨rfl, h⟩) | go_in)
    all_goals go_ret
    exact ⟨by simp [arI, hr], h⟩
  | none =>
    obtain ⟨t, hs⟩ := run_arN (P := Tryz.prog) (ft := 62) (.inl rfl) hr w
    have hc := w83 (nanW t) (nanW_lt t)
    go_enter Tryz.func65, Tryz.ntmps65
    go_wp2_with (first | (go_at_call 83; refine (hc _).mono ?_; rintro e w' ⟨rfl, h⟩) | go_in)
    all_goals go_ret
    exact ⟨by simp [arI, hr, cn_nan], h⟩
theorem x_sub (a b : Int) (w : World) : Calls Tryz.prog 66 #[.int .u64 a, .int .u64 b] w fun e w' => e = .returned (.int .u64 (arI .sub a b)) ∧ Same w w' := by
  have hd := h68
  cases hr : arF .sub a.toNat b.toNat with
  | some r =>
    have hs := fun w => run_arS (P := Tryz.prog) (ft := 62) (.inr (.inl rfl)) hr w
    have hc := w83 r (ar_lt hr)
    go_enter Tryz.func66, Tryz.ntmps66
    go_wp2_with (first | (go_at_call 83; refine (hc _).mono ?_; rintro e w' ⟨rfl, h⟩) | go_in)
    all_goals go_ret
    exact ⟨by simp [arI, hr], h⟩
  | none =>
    obtain ⟨t, hs⟩ := run_arN (P := Tryz.prog) (ft := 62) (.inr (.inl rfl)) hr w
    have hc := w83 (nanW t) (nanW_lt t)
    go_enter Tryz.func66, Tryz.ntmps66
    go_wp2_with (first | (go_at_call 83; refine (hc _).mono ?_; rintro e w' ⟨rfl, h⟩) | go_in)
    all_goals go_ret
    exact ⟨by simp [arI, hr, cn_nan], h⟩
theorem x_mul (a b : Int) (w : World) : Calls Tryz.prog 67 #[.int .u64 a, .int .u64 b] w fun e w' => e = .returned (.int .u64 (arI .mul a b)) ∧ Same w w' := by
  have hd := h68
  cases hr : arF .mul a.toNat b.toNat with
  | some r =>
    have hs := fun w => run_arS (P := Tryz.prog) (ft := 62) (.inr (.inr (.inl rfl))) hr w
    have hc := w83 r (ar_lt hr)
    go_enter Tryz.func67, Tryz.ntmps67
    go_wp2_with (first | (go_at_call 83; refine (hc _).mono ?_; rintro e w' ⟨rfl, h⟩) | go_in)
    all_goals go_ret
    exact ⟨by simp [arI, hr], h⟩
  | none =>
    obtain ⟨t, hs⟩ := run_arN (P := Tryz.prog) (ft := 62) (.inr (.inr (.inl rfl))) hr w
    have hc := w83 (nanW t) (nanW_lt t)
    go_enter Tryz.func67, Tryz.ntmps67
    go_wp2_with (first | (go_at_call 83; refine (hc _).mono ?_; rintro e w' ⟨rfl, h⟩) | go_in)
    all_goals go_ret
    exact ⟨by simp [arI, hr, cn_nan], h⟩
theorem x_quo (a b : Int) (w : World) : Calls Tryz.prog 68 #[.int .u64 a, .int .u64 b] w fun e w' => e = .returned (.int .u64 (arI .quo a b)) ∧ Same w w' := by
  have hd := h68
  cases hr : arF .quo a.toNat b.toNat with
  | some r =>
    have hs := fun w => run_arS (P := Tryz.prog) (ft := 62) (.inr (.inr (.inr rfl))) hr w
    have hc := w83 r (ar_lt hr)
    go_enter Tryz.func68, Tryz.ntmps68
    go_wp2_with (first | (go_at_call 83; refine (hc _).mono ?_; rintro e w' ⟨rfl, h⟩) | go_in)
    all_goals go_ret
    exact ⟨by simp [arI, hr], h⟩
  | none =>
    obtain ⟨t, hs⟩ := run_arN (P := Tryz.prog) (ft := 62) (.inr (.inr (.inr rfl))) hr w
    have hc := w83 (nanW t) (nanW_lt t)
    go_enter Tryz.func68, Tryz.ntmps68
    go_wp2_with (first | (go_at_call 83; refine (hc _).mono ?_; rintro e w' ⟨rfl, h⟩) | go_in)
    all_goals go_ret
    exact ⟨by simp [arI, hr, cn_nan], h⟩
theorem near_cn (n : Int) : cnI (FloatKind.f64.nearest n) = FloatKind.f64.nearest n := by
  have h1 : FloatKind.f64.nearest n < 2 ^ 64 := by
    have := Ieee.Format.write_lt Ieee.double (.number (n < 0) n.natAbs 0)
    rw [show Ieee.double.width = 64 from by decide] at this
    exact this
  have h2 : FloatKind.f64.nearest n % 2 ^ 63 ≤ 9218868437227405312 := by
    have e1 : Ieee.double.signWeight = 2 ^ 63 := by decide
    have e3 : Ieee.double.infRung = 9218868437227405312 := by decide
    have hw : ∀ s k, k ≤ 9218868437227405312 → Ieee.double.word s k % 2 ^ 63 ≤ 9218868437227405312 := by
      intro s k hk
      unfold Ieee.Format.word
      rw [e1]
      split <;> omega
    show Ieee.double.nearest _ _ _ % 2 ^ 63 ≤ _
    unfold Ieee.Format.nearest
    dsimp only
    split
    · exact hw _ _ (by omega)
    · refine hw _ _ ?_
      rw [e3]
      exact Nat.min_le_right ..
  unfold cnI
  rw [low63 _ h1, if_neg (by omega)]
theorem x_from (n : Int) (w : World) : Calls Tryz.prog 29 #[.int .i64 n] w fun e w' => e = .returned (.int .u64 (fromI n)) ∧ Same w w' := by
  have he := h67
  have hs : ∀ w, Sem.run Tryz.prog (convert 2 62 (.int .i64 n)) w = .ok (.float .f64 (FloatKind.f64.nearest n)) w := fun w => by
    simp [convert, Tryz.underlying2, Tryz.underlying62, Conv.intToFloat]
  go_enter Tryz.func29, Tryz.ntmps29
  go_wp2
  all_goals go_ret
  exact ⟨by simp [fromI, near_cn], Same.refl _⟩
end Go.Proofs

/- Floats of the second seat: what the second reading is told of them. -/
namespace Go.Proofs
open Go.Den
theorem args2 {c : Cx} {k k' : IntKind} {a b : Int} {xs : Array Value} (h : ArgsR c [.int k a, .int k' b] xs) : xs = #[.int k a, .int k' b] := by
  obtain ⟨hs, hr⟩ := h
  match xs, hs with
  | ⟨[x, y]⟩, _ =>
    have h0 := hr 0 _ x rfl rfl
    have h1 := hr 1 _ y rfl rfl
    cases h0; cases h1
    rfl
theorem args1 {c : Cx} {k : IntKind} {a : Int} {xs : Array Value} (h : ArgsR c [.int k a] xs) : xs = #[.int k a] := by
  obtain ⟨hs, hr⟩ := h
  match xs, hs with
  | ⟨[x]⟩, _ =>
    have h0 := hr 0 _ x rfl rfl
    cases h0
    rfl
def arE (op : BinOp) : CallO := fun _ args h ps => match args, ps with
  | [.int .u64 a, .int .u64 b], .plain => ok1 (.int .u64 (arI op a b)) h
  | _, _ => none
def cmE (g : Int → Int → Bool) : CallO := fun _ args h ps => match args, ps with
  | [.int .u64 a, .int .u64 b], .plain => ok1 (.bool (g a b)) h
  | _, _ => none
def toE : CallO := fun _ args h ps => match args, ps with
  | [.int .u64 a], .plain => ok1 (.tup [.int .i64 ((toI a).getD 0), .int .i64 (if (toI a).isSome then 0 else 82)]) h
  | _, _ => none
def frE : CallO := fun _ args h ps => match args, ps with
  | [.int .i64 n], .plain => ok1 (.int .u64 (fromI n)) h
  | _, _ => none
def extZ : FuncId → Option CallO := fun f => match f with
  | 56 => some (arE .add)
  | 57 => some (arE .sub)
  | 58 => some (arE .mul)
  | 59 => some (arE .quo)
  | 60 => some (cmE eqF)
  | 61 => some (cmE ltF)
  | 15 => some toE
  | 17 => some frE
  | 65 => some (arE .add)
  | 66 => some (arE .sub)
  | 67 => some (arE .mul)
  | 68 => some (arE .quo)
  | 29 => some frE
  | _ => none
section
variable {P : Program} {f : FuncId} {fn : Func}
theorem arE_sound {op : BinOp} (hfn : P.funcs[f]? = some fn) (hb : fn.body.isSome = true) (hw : ∀ a b w, Calls P f #[.int .u64 a, .int .u64 b] w fun e w' => e = .returned (.int .u64 (arI op a b)) ∧ Same w w') :
    ∀ {args h ps out}, arE op f args h ps = some out → (∃ fn, P.funcs[f]? = some fn ∧ fn.body.isSome = true) ∧
      ∀ (c : Cx) (xs : Array Value), RelH c → c.h = h → ArgsR c args xs →
      (ps = .plain → Calls P f xs c.w fun e w' => ∃ c', c'.w = w' ∧ Evol c c' ∧ RelH c' ∧ OutR c' out e) ∧
      ∀ u v h' ps', ModeR c ps u → out = .ret v h' ps' → CallsD P f xs u c.w fun e u' w' => ∃ c', c'.w = w' ∧ Evol c c' ∧ RelH c' ∧ c'.h = h' ∧ ModeR c' ps' u' ∧ ∃ x, e = .returned x := by
  intro args h ps out e
  unfold arE at e
  split at e
  · cases e
    exact ext_one hfn hb fun c xs ha => by rw [args2 ha]; exact ⟨_, .int _ _, hw _ _ _⟩
  · cases e
theorem cmE_sound {g : Int → Int → Bool} (hfn : P.funcs[f]? = some fn) (hb : fn.body.isSome = true) (hw : ∀ a b w, Calls P f #[.int .u64 a, .int .u64 b] w fun e w' => e = .returned (.bool (g a b)) ∧ Same w w') :
    ∀ {args h ps out}, cmE g f args h ps = some out → (∃ fn, P.funcs[f]? = some fn ∧ fn.body.isSome = true) ∧
      ∀ (c : Cx) (xs : Array Value), RelH c → c.h = h → ArgsR c args xs →
      (ps = .plain → Calls P f xs c.w fun e w' => ∃ c', c'.w = w' ∧ Evol c c' ∧ RelH c' ∧ OutR c' out e) ∧
      ∀ u v h' ps', ModeR c ps u → out = .ret v h' ps' → CallsD P f xs u c.w fun e u' w' => ∃ c', c'.w = w' ∧ Evol c c' ∧ RelH c' ∧ c'.h = h' ∧ ModeR c' ps' u' ∧ ∃ x, e = .returned x := by
  intro args h ps out e
  unfold cmE at e
  split at e
  · cases e
    exact ext_one hfn hb fun c xs ha => by rw [args2 ha]; exact ⟨_, .bool _, hw _ _ _⟩
  · cases e
theorem toE_sound (hfn : P.funcs[f]? = some fn) (hb : fn.body.isSome = true) (hw : ∀ a w, Calls P f #[.int .u64 a] w fun e w' => e = .returned (.tuple #[.int .i64 ((toI a).getD 0), .int .i64 (if (toI a).isSome then 0 else 82)]) ∧ Same w w') :
    ∀ {args h ps out}, toE f args h ps = some out → (∃ fn, P.funcs[f]? = some fn ∧ fn.body.isSome = true) ∧
      ∀ (c : Cx) (xs : Array Value), RelH c → c.h = h → ArgsR c args xs →
      (ps = .plain → Calls P f xs c.w fun e w' => ∃ c', c'.w = w' ∧ Evol c c' ∧ RelH c' ∧ OutR c' out e) ∧
      ∀ u v h' ps', ModeR c ps u → out = .ret v h' ps' → CallsD P f xs u c.w fun e u' w' => ∃ c', c'.w = w' ∧ Evol c c' ∧ RelH c' ∧ c'.h = h' ∧ ModeR c' ps' u' ∧ ∃ x, e = .returned x := by
  intro args h ps out e
  unfold toE at e
  split at e
  · cases e
    refine ext_one hfn hb fun c xs ha => ?_
    rw [args1 ha]
    refine ⟨_, ?_, hw _ _⟩
    refine .tup _ _ rfl fun j u v e1 e2 => ?_
    match j, e1, e2 with
    | 0, e1, e2 => cases e1; cases e2; exact .int _ _
    | 1, e1, e2 => cases e1; cases e2; exact .int _ _
  · cases e
theorem frE_sound (hfn : P.funcs[f]? = some fn) (hb : fn.body.isSome = true) (hw : ∀ n w, Calls P f #[.int .i64 n] w fun e w' => e = .returned (.int .u64 (fromI n)) ∧ Same w w') :
    ∀ {args h ps out}, frE f args h ps = some out → (∃ fn, P.funcs[f]? = some fn ∧ fn.body.isSome = true) ∧
      ∀ (c : Cx) (xs : Array Value), RelH c → c.h = h → ArgsR c args xs →
      (ps = .plain → Calls P f xs c.w fun e w' => ∃ c', c'.w = w' ∧ Evol c c' ∧ RelH c' ∧ OutR c' out e) ∧
      ∀ u v h' ps', ModeR c ps u → out = .ret v h' ps' → CallsD P f xs u c.w fun e u' w' => ∃ c', c'.w = w' ∧ Evol c c' ∧ RelH c' ∧ c'.h = h' ∧ ModeR c' ps' u' ∧ ∃ x, e = .returned x := by
  intro args h ps out e
  unfold frE at e
  split at e
  · cases e
    exact ext_one hfn hb fun c xs ha => by rw [args1 ha]; exact ⟨_, .int _ _, hw _ _⟩
  · cases e
end
theorem extZ_sound : CallSound Tryz.prog (extCall extZ) := by
  intro f args h ps out e
  unfold extCall at e
  split at e
  · rename_i g hg
    unfold extZ at hg
    split at hg <;> cases hg
    · exact arE_sound Tryz.func56 rfl w_add e
    · exact arE_sound Tryz.func57 rfl w_sub e
    · exact arE_sound Tryz.func58 rfl w_mul e
    · exact arE_sound Tryz.func59 rfl w_quo e
    · exact cmE_sound Tryz.func60 rfl w_eq e
    · exact cmE_sound Tryz.func61 rfl w_lt e
    · exact toE_sound Tryz.func15 rfl w_to e
    · exact frE_sound Tryz.func17 rfl w_from e
    · exact arE_sound Tryz.func65 rfl x_add e
    · exact arE_sound Tryz.func66 rfl x_sub e
    · exact arE_sound Tryz.func67 rfl x_mul e
    · exact arE_sound Tryz.func68 rfl x_quo e
    · exact frE_sound Tryz.func29 rfl x_from e
  · cases e
end Go.Proofs
