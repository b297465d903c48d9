/- The plain law of FoldLaws. -/
import Derived.Test.YtndanoiaheknaaaDenL5
import Derived.Lib.Mul64
set_option linter.unusedSimpArgs false
set_option linter.unusedVariables false
namespace Go.Proofs
open Go.Den
theorem wi_eq (n : Int) : wi n = if n % 18446744073709551616 ≥ 9223372036854775808 then n % 18446744073709551616 - 18446744073709551616 else n % 18446744073709551616 := by
  simp [wi, Go.IntKind.wrap, Go.IntKind.bits, Go.IntKind.signed]
theorem wu_eq (n : Int) : wu n = n % 18446744073709551616 := by
  simp [wu, Go.IntKind.wrap, Go.IntKind.bits, Go.IntKind.signed]
def I64 (n : Int) : Prop := -9223372036854775808 ≤ n ∧ n ≤ 9223372036854775807
theorem wi_wu {a : Int} (h : I64 a) : wi (wu a) = a := by
  rw [wi_eq, wu_eq]; unfold I64 at h; split <;> omega
theorem addC_iff {a b : Int} (ha : I64 a) (hb : I64 b) : addC a b = true ↔ ¬ I64 (a + b) := by
  have hw := wi_eq (a + b)
  unfold I64 at *
  unfold addC
  generalize wi (a + b) = w at *
  by_cases h1 : w > a <;> by_cases h2 : b > 0 <;> by_cases h3 : b = 0 <;> simp [h1, h2, h3] <;> split at hw <;> omega
theorem shr32_eq {a : Int} : shr32 a = a / 4294967296 := by
  have : (2 : Int) ^ (min (32 : Int).toNat 64) = 4294967296 := by decide
  rw [shr32, this, Int.fdiv_eq_ediv_of_nonneg _ (by decide)]
theorem and32_eq {a : Int} (h : 0 ≤ a ∧ a < 18446744073709551616) : and32 a = a % 4294967296 := by
  obtain ⟨n, rfl⟩ := Int.eq_ofNat_of_zero_le h.1
  have e : (BitVec.ofInt 64 (n : Int) &&& BitVec.ofInt 64 4294967295).toNat = n % 4294967296 := by
    have h1 : (BitVec.ofInt 64 (n : Int)).toNat = n := by
      simp [BitVec.toNat_ofInt]; omega
    have h2 : (BitVec.ofInt 64 4294967295).toNat = 2 ^ 32 - 1 := by decide
    rw [BitVec.toNat_and, h1, h2, Nat.and_two_pow_sub_one_eq_mod]
  rw [and32, e, wu_eq]
  omega
theorem wuN {n : Nat} (h : n < 18446744073709551616) : wu (n : Int) = n := by rw [wu_eq]; omega
theorem shrN (n : Nat) : shr32 (n : Int) = ((n / 4294967296 : Nat) : Int) := by rw [shr32_eq]; omega
theorem andN {n : Nat} (h : n < 18446744073709551616) : and32 (n : Int) = ((n % 4294967296 : Nat) : Int) := by rw [and32_eq ⟨by omega, by omega⟩]; omega
theorem mulHi_eq {x y : Nat} (hx : x < 18446744073709551616) (hy : y < 18446744073709551616) : mulHi x y = ((x * y / 18446744073709551616 : Nat) : Int) := by
  obtain ⟨h1, h2, h3, h4⟩ := Go.Lib.mul64_hi x y hx hy
  have hA := Go.Lib.half_mul_le (a := x / 4294967296) (b := y / 4294967296) (by omega) (by omega)
  have hB := Go.Lib.half_mul_le (a := x / 4294967296) (b := y % 4294967296) (by omega) (by omega)
  have hC := Go.Lib.half_mul_le (a := x % 4294967296) (b := y / 4294967296) (by omega) (by omega)
  have hT : mulT x y = (((x / 4294967296) * (y % 4294967296) + (x % 4294967296) * (y % 4294967296) / 4294967296 : Nat) : Int) := by
    unfold mulT
    rw [shrN, andN hy, andN hx, ← Int.natCast_mul, ← Int.natCast_mul, wuN (by omega), wuN h1, shrN, ← Int.natCast_add, wuN h2]
  unfold mulHi
  rw [hT, shrN x, shrN y, andN hx, shrN, andN h2, ← Int.natCast_mul, ← Int.natCast_mul, wuN (by omega), wuN (n := x % 4294967296 * (y / 4294967296)) (by omega), ← Int.natCast_add, ← Int.natCast_add, wuN (by omega), wuN h3, shrN, ← Int.natCast_add, h4]
  rw [wuN]
  have : x * y < 18446744073709551616 * 18446744073709551616 := Nat.mul_lt_mul'' hx hy
  omega
theorem amt_eq {a : Int} (h : I64 a) : amt a = (a.natAbs : Int) := by
  unfold I64 at h
  unfold amt
  simp only [wu_eq]
  by_cases h0 : a < 0 <;> simp [h0] <;> omega
theorem hi_comm {a b : Int} (ha : I64 a) (hb : I64 b) : mulHi (amt a) (amt b) = mulHi (amt b) (amt a) := by
  rw [amt_eq ha, amt_eq hb]
  unfold I64 at ha hb
  rw [mulHi_eq (by omega) (by omega), mulHi_eq (by omega) (by omega), Nat.mul_comm]
theorem mulP_comm {a b : Int} (ha : I64 a) (hb : I64 b) : mulP a b = mulP b a := by unfold mulP; rw [hi_comm ha hb]
theorem sgn_comm (a b : Int) : (decide (a < 0) == decide (b < 0)) = (decide (b < 0) == decide (a < 0)) := by cases decide (a < 0) <;> cases decide (b < 0) <;> rfl
theorem mulQ_comm (a b : Int) : mulQ a b = mulQ b a := by unfold mulQ; rw [sgn_comm a b, Int.mul_comm (amt a)]
theorem mulS_comm (a b : Int) : mulS a b = mulS b a := by unfold mulS; rw [sgn_comm a b, Int.mul_comm (amt a)]
theorem mulB_comm {a b : Int} (ha : I64 a) (hb : I64 b) : mulB a b = mulB b a := by unfold mulB; rw [mulP_comm ha hb, mulQ_comm a b, mulS_comm a b]
theorem mulV_comm {a b : Int} (ha : I64 a) (hb : I64 b) : mulV a b = mulV b a := by unfold mulV; rw [mulP_comm ha hb, mulQ_comm a b, mulS_comm a b, Int.mul_comm (amt a)]
theorem addC_comm {a b : Int} (ha : I64 a) (hb : I64 b) : addC a b = addC b a := by
  have h1 := addC_iff ha hb
  have h2 := addC_iff hb ha
  rw [Int.add_comm b a] at h2
  cases e1 : addC a b <;> cases e2 : addC b a <;> simp_all
theorem lp_true {C : Bool} {s : Int} {L : R} (h : L = rB true) : lp C C s s L = rB true := by
  unfold lp; cases C <;> simp [h]
theorem laws_tree {a b : Int} (ha : I64 a) (hb : I64 b) (h : core a b = rB true) : bodyD Try.prog pol0 t5 5 3 [.int .i64 a, .int .i64 b] [] .plain = rB true := by
  rw [laws_s]
  have ea := wi_wu ha
  have eb := wi_wu hb
  rw [ea, eb, addC_comm hb ha, Int.add_comm b a, mulB_comm hb ha, mulV_comm hb ha]
  exact lp_true (lp_true h)
theorem fin_rest {a b c4 c5 : Int} {rest : R} (ha : I64 a) (hb : I64 b) (h4 : (c4 == 2) = (b == 0)) (h5 : (c5 == 2) = (b == 0)) : fin a b c4 c5 rest = rest := by
  unfold fin p1
  rw [wi_wu ha, wi_wu hb, h4, h5]
  by_cases h : a < b
  · have h1 : ¬ a > b := by omega
    have h2 : (a == b) = false := by simp; omega
    simp [h, h1, h2]
  · by_cases h1 : a > b
    · simp [h, h1]
    · have h2 : (a == b) = true := by simp; omega
      simp [h, h1, h2]
theorem fin1_zero {a : Int} : fin1 a 0 = rB true := by simp [fin1]
theorem ovf_iff {a b : Int} (ha : I64 a) : ovf a b = true ↔ b = -1 ∧ a = -9223372036854775808 := by
  have hw := wi_eq (0 - a)
  unfold I64 at ha
  unfold ovf subC
  generalize wi (0 - a) = w at *
  by_cases h1 : b = -1 <;> by_cases h2 : a > 0 <;> by_cases h3 : a = 0 <;> by_cases h4 : w < 0 <;> simp [h1, h2, h3, h4] <;> split at hw <;> omega
theorem core_true {a b : Int} (ha : I64 a) (hb : I64 b) (h2 : b ≠ 0 → ovf a b = false → fin2 a b = rB true) : core a b = rB true := by
  unfold core
  rw [wi_wu ha, wi_wu hb]
  by_cases h0 : b = 0
  · subst h0
    simp only [beq_self_eq_true, cond_true]
    rw [fin_rest ha hb (by simp) (by simp), fin1_zero]
  · have hz : (b == 0) = false := by simp [h0]
    rw [hz]
    simp only [cond_false]
    cases ho : ovf a b with
    | true =>
      obtain ⟨rfl, rfl⟩ := (ovf_iff ha).1 ho
      simp only [cond_true]
      rw [fin_rest ha hb (by simp) (by simp)]
      simp [fin1]
    | false =>
      simp only [cond_false]
      rw [fin_rest ha hb (by rw [hz]; rfl) (by rw [hz]; rfl)]
      exact h2 h0 ho
theorem mul_ok {a b : Int} (ha : I64 a) (hb : I64 b) (hab : I64 (a * b)) : mulB a b = false ∧ mulV a b = a * b := by
  have hn : ((a * b).natAbs : Int) = (a.natAbs : Int) * (b.natAbs : Int) := by rw [Int.natAbs_mul, Int.natCast_mul]
  have hp : mulP a b = false := by
    unfold mulP
    have h1 : a.natAbs < 18446744073709551616 := by unfold I64 at ha; omega
    have h2 : b.natAbs < 18446744073709551616 := by unfold I64 at hb; omega
    rw [amt_eq ha, amt_eq hb, mulHi_eq h1 h2, ← Int.natAbs_mul]
    have h3 : (a * b).natAbs < 18446744073709551616 := by unfold I64 at hab; omega
    simp [Nat.div_eq_of_lt h3]
  have hq : amt a * amt b = ((a * b).natAbs : Int) := by rw [amt_eq ha, amt_eq hb, hn]
  have hneg : (decide (a < 0) == decide (b < 0)) = true → 0 ≤ a * b := by
    intro h
    by_cases h1 : a < 0
    · have h2 : b < 0 := by simpa [h1] using h
      exact Int.mul_nonneg_of_nonpos_of_nonpos (by omega) (by omega)
    · have h2 : ¬ b < 0 := by simpa [h1] using h
      exact Int.mul_nonneg (by omega) (by omega)
  have hpos : (decide (a < 0) == decide (b < 0)) = false → a * b ≤ 0 := by
    intro h
    by_cases h1 : a < 0
    · have h2 : ¬ b < 0 := by simpa [h1] using h
      exact Int.mul_nonpos_of_nonpos_of_nonneg (by omega) (by omega)
    · have h2 : b < 0 := by simpa [h1] using h
      exact Int.mul_nonpos_of_nonneg_of_nonpos (by omega) (by omega)
  unfold mulB mulV mulQ mulS
  rw [hp, hq]
  generalize a * b = p at *
  unfold I64 at hab
  have hw : wu (p.natAbs : Int) = p.natAbs := wuN (by omega)
  rw [hw]
  cases hs : (decide (a < 0) == decide (b < 0)) with
  | true =>
    have := hneg hs
    have h1 : decide ((p.natAbs : Int) < 9223372036854775808) = true := by simp; omega
    simp only [Bool.not_true, cond_false, Bool.not_false, cond_true, h1]
    refine ⟨trivial, ?_⟩
    rw [wi_eq]; split <;> omega
  | false =>
    have := hpos hs
    have h1 : decide ((p.natAbs : Int) ≤ 9223372036854775808) = true := by simp; omega
    simp only [Bool.not_false, cond_true, cond_false, h1]
    refine ⟨trivial, ?_⟩
    rw [wi_eq, wi_eq]; split <;> split <;> omega
theorem fin2_true {a b : Int} (ha : I64 a) (hb : I64 b) (h0 : b ≠ 0) (ho : ovf a b = false) : fin2 a b = rB true := by
  have hno : ¬ (b = -1 ∧ a = -9223372036854775808) := fun h => by rw [(ovf_iff ha).2 h] at ho; cases ho
  have hz : (b == 0) = false := by simp [h0]
  have hsum : a.tdiv b * b + a.tmod b = a := by rw [Int.mul_comm]; exact Int.mul_tdiv_add_tmod a b
  have hqa : (a.tdiv b).natAbs ≤ a.natAbs := by rw [Int.natAbs_tdiv]; exact Nat.div_le_self _ _
  have hmm : (a.tdiv b * b).natAbs ≤ a.natAbs := by
    rw [Int.natAbs_mul, Int.natAbs_tdiv]; exact Nat.div_mul_le_self _ _
  have hrr : (a.tmod b).natAbs ≤ a.natAbs := by rw [Int.natAbs_tmod]; exact Nat.mod_le _ _
  have hq1 : b = -1 → a.tdiv b = -a := by rintro rfl; simp
  have hr1 : b = -1 → a.tmod b = 0 := by rintro rfl; simp
  have hq : I64 (a.tdiv b) := by
    unfold I64 at *
    by_cases hm : b = -1
    · rw [hq1 hm]; omega
    · by_cases hone : a = -9223372036854775808
      · by_cases hb1 : b = 1
        · subst hb1; simp [hone]
        · have h2 : 2 ≤ b.natAbs := by omega
          have h3 : (a.tdiv b).natAbs ≤ a.natAbs / 2 := by rw [Int.natAbs_tdiv]; exact Nat.div_le_div_left h2 (by omega)
          omega
      · omega
  have hdv : wi (wu (divV a b)) = a.tdiv b := by
    unfold divV
    rw [hz]
    simp only [cond_false]
    by_cases hm : b = -1
    · have hs : subC 0 a = false := by
        have : ovf a b = subC 0 a := by simp [ovf, hm]
        rw [← this]; exact ho
      have : (b == -1) = true := by simp [hm]
      rw [this]
      simp only [cond_true, negV, hs, cond_false]
      rw [hq1 hm] at hq ⊢
      rw [Int.zero_sub, show wi (-a) = -a from by rw [wi_eq]; unfold I64 at hq; split <;> omega]
      exact wi_wu hq
    · have : (b == -1) = false := by simp [hm]
      rw [this]
      simp only [cond_false]
      rw [show wi (a.tdiv b) = a.tdiv b from by rw [wi_eq]; unfold I64 at hq; split <;> omega]
      exact wi_wu hq
  have hr : I64 (a.tmod b) := by
    unfold I64 at *
    by_cases hb1 : b = -1
    · rw [hr1 hb1]; omega
    · omega
  have hrv : wi (wu (remV a b)) = a.tmod b := by
    unfold remV
    rw [hz]
    simp only [cond_false]
    by_cases hm : b = -1
    · have : (b == -1) = true := by simp [hm]
      rw [this, hr1 hm]
      simp only [cond_true]
      exact wi_wu (by unfold I64; omega)
    · have : (b == -1) = false := by simp [hm]
      rw [this]
      exact wi_wu hr
  have hsg : a < 0 → a.tmod b ≤ 0 := fun h => by
    have := Int.tmod_nonneg (a := -a) b (by omega)
    rw [Int.neg_tmod] at this
    omega
  have hpb : I64 (a.tdiv b * b) := by
    unfold I64 at *
    generalize a.tdiv b * b = p at *
    generalize a.tmod b = r at *
    omega
  obtain ⟨hB, hV⟩ := mul_ok hq hb hpb
  have hq' : wi (q1 a b) = a.tdiv b := by unfold q1; rw [wi_wu ha, wi_wu hb]; exact hdv
  have hr' : wi (r5 a b) = a.tmod b := by unfold r5; rw [wi_wu ha, wi_wu hb]; exact hrv
  have hP : wi (P5 a b) = a.tdiv b * b := by unfold P5; rw [hq', wi_wu hb, hV]; exact wi_wu hpb
  unfold fin2
  rw [hq', wi_wu hb, hB, hP, hr', hsum]
  simp only [cond_false]
  have hc : addC (a.tdiv b * b) (a.tmod b) = false := by
    cases h : addC (a.tdiv b * b) (a.tmod b) with
    | false => rfl
    | true => exact absurd (by rw [hsum]; exact ha) ((addC_iff hpb hr).1 h)
  rw [hc]
  rw [show wi a = a from by rw [wi_eq]; unfold I64 at ha; split <;> omega]
  simp
theorem laws_true {a b : Int} (ha : I64 a) (hb : I64 b) (K : Nat) : dn (K + 41) 3 [.int .i64 a, .int .i64 b] [] .plain = rB true :=
  den_of_body (t5_le K) (by omega) rfl (laws_tree ha hb (core_true ha hb (fin2_true ha hb)))
end Go.Proofs
