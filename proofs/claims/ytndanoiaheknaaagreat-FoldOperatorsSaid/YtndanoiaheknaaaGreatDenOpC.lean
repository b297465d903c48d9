/- FoldOperators: what the functions of floats come to. -/
import Derived.Test.YtndanoiaheknaaaGreatDenOpA
import Derived.Test.YtndanoiaheknaaaGreatDenFl
set_option linter.unusedSimpArgs false
set_option linter.unusedVariables false
namespace Go.Proofs
open Go Go.Den Ieee
set_option maxRecDepth 100000
/-! words, bit by bit -/
theorem t52 {r : Nat} (h : r < 2 ^ 64) : IntKind.u64.wrap (↑(BitVec.ofInt IntKind.u64.bits ((r : Int).fdiv ((2 : Int) ^ min (Int.toNat (52 : Int)) IntKind.u64.bits)) &&& BitVec.ofInt IntKind.u64.bits (2047 : Int)).toNat : Int) = ((r / 2 ^ 52 % 2048 : Nat) : Int) := by
  have hq : (r : Int).fdiv ((2 : Int) ^ min (Int.toNat (52 : Int)) IntKind.u64.bits) = ((r / 2 ^ 52 : Nat) : Int) := by
    have : (2 : Int) ^ min (Int.toNat (52 : Int)) IntKind.u64.bits = 2 ^ 52 := by decide
    rw [this, Int.fdiv_eq_ediv_of_nonneg _ (by decide)]
    rfl
  rw [hq]
  have hlt : r / 2 ^ 52 < 2 ^ 12 := by omega
  generalize r / 2 ^ 52 = q at *
  have e : (BitVec.ofInt 64 (q : Int) &&& BitVec.ofInt 64 2047).toNat = q % 2048 := by
    have h1 : BitVec.ofInt 64 2047 = BitVec.ofNat 64 (2 ^ 11 - 1) := by decide
    rw [h1, BitVec.toNat_and, BitVec.toNat_ofNat, Nat.mod_eq_of_lt (by decide : 2 ^ 11 - 1 < 2 ^ 64)]
    have h2 : (BitVec.ofInt 64 (q : Int)).toNat = q := by simp only [BitVec.toNat_ofInt]; omega
    rw [h2, Nat.and_two_pow_sub_one_eq_mod]
  show IntKind.u64.wrap (↑(BitVec.ofInt 64 (q : Int) &&& BitVec.ofInt 64 2047).toNat : Int) = _
  rw [e]
  exact wu_of ⟨by omega, by have : q % 2048 < 2048 := Nat.mod_lt _ (by decide); omega⟩
theorem t12 {r : Nat} (_ : r < 2 ^ 64) : IntKind.u64.wrap ((r : Int) * (2 : Int) ^ min (Int.toNat (12 : Int)) IntKind.u64.bits) = ((r % 2 ^ 52 * 2 ^ 12 : Nat) : Int) := by
  have : (2 : Int) ^ min (Int.toNat (12 : Int)) IntKind.u64.bits = 4096 := by decide
  rw [this, wu_eq]
  omega
theorem t1 {r : Nat} (_ : r < 2 ^ 64) : IntKind.u64.wrap ((r : Int) * (2 : Int) ^ min (Int.toNat (1 : Int)) IntKind.u64.bits) = ((r % 2 ^ 63 * 2 : Nat) : Int) := by
  have : (2 : Int) ^ min (Int.toNat (1 : Int)) IntKind.u64.bits = 2 := by decide
  rw [this, wu_eq]
  omega
theorem t63 {r : Nat} (_ : r < 2 ^ 64) : (r : Int).fdiv ((2 : Int) ^ min (Int.toNat (63 : Int)) IntKind.u64.bits) = ((r / 2 ^ 63 : Nat) : Int) := by
  have : (2 : Int) ^ min (Int.toNat (63 : Int)) IntKind.u64.bits = 2 ^ 63 := by decide
  rw [this, Int.fdiv_eq_ediv_of_nonneg _ (by decide)]
  rfl
theorem tm {r : Nat} (h : r < 2 ^ 64) : IntKind.u64.wrap (↑(BitVec.ofInt IntKind.u64.bits (r : Int) &&& BitVec.ofInt IntKind.u64.bits (4503599627370495 : Int)).toNat : Int) = ((r % 2 ^ 52 : Nat) : Int) := by
  have e : (BitVec.ofInt 64 (r : Int) &&& BitVec.ofInt 64 4503599627370495).toNat = r % 2 ^ 52 := by
    have h1 : BitVec.ofInt 64 4503599627370495 = BitVec.ofNat 64 (2 ^ 52 - 1) := by decide
    rw [h1, BitVec.toNat_and, BitVec.toNat_ofNat, Nat.mod_eq_of_lt (by decide : 2 ^ 52 - 1 < 2 ^ 64)]
    have h2 : (BitVec.ofInt 64 (r : Int)).toNat = r := by simp only [BitVec.toNat_ofInt]; omega
    rw [h2, Nat.and_two_pow_sub_one_eq_mod]
  show IntKind.u64.wrap (↑(BitVec.ofInt 64 (r : Int) &&& BitVec.ofInt 64 4503599627370495).toNat : Int) = _
  rw [e]
  exact wu_of ⟨by omega, by have : r % 2 ^ 52 < 2 ^ 52 := Nat.mod_lt _ (by decide); omega⟩
theorem tor {f : Nat} (hf : f < 2 ^ 52) : IntKind.u64.wrap (↑(BitVec.ofInt IntKind.u64.bits (f : Int) ||| BitVec.ofInt IntKind.u64.bits (4503599627370496 : Int)).toNat : Int) = ((2 ^ 52 + f : Nat) : Int) := by
  have e : (BitVec.ofInt 64 (f : Int) ||| BitVec.ofInt 64 4503599627370496).toNat = 2 ^ 52 + f := by
    have h1 : BitVec.ofInt 64 4503599627370496 = BitVec.ofNat 64 (2 ^ 52) := by decide
    rw [h1, BitVec.toNat_or, BitVec.toNat_ofNat, Nat.mod_eq_of_lt (by decide : 2 ^ 52 < 2 ^ 64)]
    have h2 : (BitVec.ofInt 64 (f : Int)).toNat = f := by simp only [BitVec.toNat_ofInt]; omega
    rw [h2, Nat.or_comm]
    have := Nat.two_pow_add_eq_or_of_lt hf 1
    simpa using this.symm
  show IntKind.u64.wrap (↑(BitVec.ofInt 64 (f : Int) ||| BitVec.ofInt 64 4503599627370496).toNat : Int) = _
  rw [e]
  exact wu_of ⟨by omega, by omega⟩
theorem u64_nat {a : Int} (h : U64 a) : ∃ r : Nat, a = r ∧ r < 2 ^ 64 := by
  obtain ⟨r, rfl⟩ := Int.eq_ofNat_of_zero_le h.1
  exact ⟨r, rfl, by have := h.2; omega⟩
theorem v40 {a : Int} : dZ 40 [.int .u64 a] [] .plain = some (.ret (.int .u64 (cnI a)) [] .plain) :=
  valZ noCall_le rfl (by kernel_rfl) fun loops => by
    rw [b_can]
    unfold cnI
    show Tot (cond (decide (bits .andNot .u64 a 9223372036854775808 > 9218868437227405312)) _ _) _
    by_cases hc : 9218868437227405312 < bits .andNot .u64 a 9223372036854775808
    · rw [if_pos hc, decide_eq_true hc]; exact Tot.some rfl
    · rw [if_neg hc, decide_eq_false hc]; exact Tot.some rfl
theorem v45 {a : Int} (ha : U64 a) : dZ 45 [.int .u64 a] [] .plain = some (.ret (.int .u64 (cnI a)) [] .plain) :=
  valZ noCall_le rfl (by kernel_rfl) fun loops => by
    obtain ⟨r, rfl, h⟩ := u64_nat ha
    rw [b_rCan, t52 h, t12 h]
    unfold cnI
    rw [low63 r h]
    have e1 : ((((r / 2 ^ 52 % 2048 : Nat) : Int) == 2047) == true) = decide (r / 2 ^ 52 % 2048 = 2047) := by
      rw [Bool.eq_iff_iff]
      simp only [beq_iff_eq, decide_eq_true_eq]
      omega
    have e2 : (((r % 2 ^ 52 * 2 ^ 12 : Nat) : Int) != 0) = decide (r % 2 ^ 52 ≠ 0) := by
      rw [Bool.eq_iff_iff]
      simp only [bne_iff_ne, ne_eq, decide_eq_true_eq]
      omega
    rw [e1, e2]
    by_cases h1 : r / 2 ^ 52 % 2048 = 2047
    · rw [decide_eq_true h1, cond_true, cond_true]
      by_cases h2 : r % 2 ^ 52 ≠ 0
      · rw [decide_eq_true h2, if_pos (by omega)]; exact Tot.some rfl
      · rw [decide_eq_false h2, if_neg (by omega)]; exact Tot.some rfl
    · rw [decide_eq_false h1, if_neg (by omega)]; exact Tot.some rfl
theorem cls_eq {r : Nat} (h : r < 2 ^ 64) : clsF r = if r / 2 ^ 52 % 2048 = 2047 then (if r % 2 ^ 52 = 0 then 2 else 1) else if r / 2 ^ 52 % 2048 = 0 then (if r % 2 ^ 52 = 0 then 3 else 4) else 5 := by
  unfold clsF
  rw [Int.toNat_natCast, read_eq r h]
  by_cases h1 : r % 2 ^ 63 < 2 ^ 52
  · rw [if_pos h1, if_neg (by omega), if_pos (by omega)]
    simp only
    by_cases h2 : r % 2 ^ 52 = 0
    · rw [if_pos h2]
      have : r % 2 ^ 63 = 0 := by omega
      rw [this]; rfl
    · rw [if_neg h2]
      have e1 : (r % 2 ^ 63 == 0) = false := by rw [beq_eq_false_iff_ne]; omega
      have e2 : decide (r % 2 ^ 63 < 4503599627370496) = true := decide_eq_true (by omega)
      rw [e1, e2]; rfl
  · rw [if_neg h1]
    by_cases h2 : r % 2 ^ 63 < 2047 * 2 ^ 52
    · rw [if_pos h2, if_neg (by omega), if_neg (by omega)]
      simp only
      have e1 : (2 ^ 52 + r % 2 ^ 63 % 2 ^ 52 == 0) = false := by rw [beq_eq_false_iff_ne]; omega
      have e2 : decide (2 ^ 52 + r % 2 ^ 63 % 2 ^ 52 < 4503599627370496) = false := decide_eq_false (by omega)
      rw [e1, e2]; rfl
    · rw [if_neg h2]
      by_cases h3 : r % 2 ^ 63 = 2047 * 2 ^ 52
      · rw [if_pos h3, if_pos (by omega), if_pos (by omega)]
      · rw [if_neg h3, if_pos (by omega), if_neg (by omega)]
theorem v48 {a : Int} (ha : U64 a) : dZ 48 [.int .u64 a] [] .plain = some (.ret (.int .i64 (clsF a)) [] .plain) :=
  valZ noCall_le rfl (by kernel_rfl) fun loops => by
    obtain ⟨r, rfl, h⟩ := u64_nat ha
    rw [b_cls, t52 h, t12 h, cls_eq h]
    have e1 : (((r / 2 ^ 52 % 2048 : Nat) : Int) == 2047) = decide (r / 2 ^ 52 % 2048 = 2047) := by
      rw [Bool.eq_iff_iff]; simp only [beq_iff_eq, decide_eq_true_eq]; omega
    have e2 : (((r % 2 ^ 52 * 2 ^ 12 : Nat) : Int) != 0) = decide (¬ r % 2 ^ 52 = 0) := by
      rw [Bool.eq_iff_iff]; simp only [bne_iff_ne, ne_eq, decide_eq_true_eq]; omega
    have e3 : (((r / 2 ^ 52 % 2048 : Nat) : Int) == 0) = decide (r / 2 ^ 52 % 2048 = 0) := by
      rw [Bool.eq_iff_iff]; simp only [beq_iff_eq, decide_eq_true_eq]; omega
    have e4 : (((r % 2 ^ 52 * 2 ^ 12 : Nat) : Int) == 0) = decide (r % 2 ^ 52 = 0) := by
      rw [Bool.eq_iff_iff]; simp only [beq_iff_eq, decide_eq_true_eq]; omega
    rw [e1, e2, e3, e4]
    by_cases h1 : r / 2 ^ 52 % 2048 = 2047 <;> by_cases h2 : r % 2 ^ 52 = 0 <;> by_cases h3 : r / 2 ^ 52 % 2048 = 0 <;> simp only [h1, h2, h3, decide_true, decide_false, if_true, if_false, cond_true, cond_false, not_true, not_false_iff] <;> exact Tot.some rfl
theorem u48_le : CallLeK u48 dZ := by
  intro f args h ps kk o e
  unfold u48 at e
  split at e
  · obtain ⟨h1, e⟩ := chk_some e
    exact ⟨_, e, v48 h1⟩
  · cases e
theorem uB_le : CallLeK uB dZ := inlK_le u48_le (fun f hf => by have hf : (f == 81 || f == 82) = true := hf; simp only [Bool.or_eq_true, beq_iff_eq] at hf; rcases hf with rfl | rfl <;> rfl) 1
theorem v49 {a : Int} (ha : U64 a) : dZ 49 [.int .u64 a] [] .plain = some (.ret (.tup [.bool (sgF a), .int .u64 (mtF a), .int .i64 (exF a)]) [] .plain) :=
  valZ u48_le rfl (by kernel_rfl) fun loops => by
    rw [b_par]
    refine Tot.chk ha ?_
    obtain ⟨r, rfl, h⟩ := u64_nat ha
    rw [t52 h, tm h, t63 h, tor (Nat.mod_lt _ (by decide)), cls_eq h]
    have e5 : (((r / 2 ^ 63 : Nat) : Int) == 1) = (r / 2 ^ 63 == 1) := by
      rw [Bool.eq_iff_iff]; simp only [beq_iff_eq]; omega
    have e6 : IntKind.i64.wrap (IntKind.i64.wrap ((r / 2 ^ 52 % 2048 : Nat) : Int) - 1075) = ((r / 2 ^ 52 % 2048 : Nat) : Int) - 1075 := by
      have : r / 2 ^ 52 % 2048 < 2048 := Nat.mod_lt _ (by decide)
      rw [wi_of (n := ((r / 2 ^ 52 % 2048 : Nat) : Int)) ⟨by omega, by omega⟩, wi_of ⟨by omega, by omega⟩]
    rw [e5, e6]
    unfold sgF mtF exF
    rw [Int.toNat_natCast, read_eq r h]
    by_cases h1 : r % 2 ^ 63 < 2 ^ 52
    · rw [if_pos h1, if_neg (by omega), if_pos (by omega)]
      have e7 : r % 2 ^ 52 = r % 2 ^ 63 := by omega
      by_cases h2 : r % 2 ^ 52 = 0
      · rw [if_pos h2, e7]; exact Tot.some rfl
      · rw [if_neg h2, e7]; exact Tot.some rfl
    · rw [if_neg h1]
      by_cases h2 : r % 2 ^ 63 < 2047 * 2 ^ 52
      · rw [if_pos h2, if_neg (by omega), if_neg (by omega)]
        have e7 : 2 ^ 52 + r % 2 ^ 63 % 2 ^ 52 = 2 ^ 52 + r % 2 ^ 52 := by omega
        have e8 : (-1074 : Int) + ((r % 2 ^ 63 / 2 ^ 52 - 1 : Nat) : Int) = ((r / 2 ^ 52 % 2048 : Nat) : Int) - 1075 := by omega
        rw [e7, e8]
        exact Tot.some rfl
      · rw [if_neg h2, if_pos (by omega)]
        by_cases h3 : r % 2 ^ 63 = 2047 * 2 ^ 52
        · rw [if_pos h3, if_pos (by omega)]; exact Tot.some rfl
        · rw [if_neg h3, if_neg (by omega)]; exact Tot.some rfl
theorem uP_le : CallLeK uP dZ := by
  intro f args h ps kk o e
  unfold uP at e
  split at e
  · obtain ⟨h1, e⟩ := chk_some e
    exact ⟨_, e, v48 h1⟩
  · obtain ⟨h1, e⟩ := chk_some e
    exact ⟨_, e, v49 h1⟩
  · cases e
/-! how two stand to each other -/
theorem nan_cls {r : Nat} (h : r < 2 ^ 64) : (clsF r == 1) = nanW? r := by
  rw [cls_eq h]
  unfold nanW?
  by_cases h1 : 2047 * 2 ^ 52 < r % 2 ^ 63
  · rw [decide_eq_true h1, if_pos (by omega), if_neg (by omega)]; rfl
  · rw [decide_eq_false h1]
    split
    · rw [if_pos (by omega)]; rfl
    · split
      · split <;> rfl
      · rfl
theorem rank_zero {r : Nat} : rankF r = 0 ↔ r % 2 ^ 63 = 0 := by unfold rankF; split <;> omega
theorem v63 {a b : Int} (ha : U64 a) (hb : U64 b) : dZ 63 [.int .u64 a, .int .u64 b] [] .plain = some (.ret (.bool (eqF a b)) [] .plain) :=
  valZ uB_le rfl (by kernel_rfl) fun loops => by
    rw [b_rEq]
    refine Tot.chk ha ?_
    obtain ⟨r, rfl, h⟩ := u64_nat ha
    obtain ⟨q, rfl, h'⟩ := u64_nat hb
    have hE : eqF (r : Int) q = (!(nanW? r || nanW? q) && decide (rankF r = rankF q)) := by
      unfold eqF
      rw [Int.toNat_natCast, Int.toNat_natCast, order_eq r q h h']
      cases nanW? r || nanW? q with
      | true => rfl
      | false =>
        simp only [Bool.false_eq_true, if_false, Bool.not_false, Bool.true_and]
        rw [Bool.eq_iff_iff]
        simp only [beq_iff_eq, Option.some.injEq, icmp_eq, decide_eq_true_eq]
    have hr : rankF r = rankF q ↔ r = q ∨ (r % 2 ^ 63 = 0 ∧ q % 2 ^ 63 = 0) := by
      unfold rankF; split <;> split <;> omega
    rw [nan_cls h, nan_cls h', t1 h, t1 h', hE]
    have e1 : (((r % 2 ^ 63 * 2 : Nat) : Int) == 0) = decide (r % 2 ^ 63 = 0) := by rw [Bool.eq_iff_iff]; simp only [beq_iff_eq, decide_eq_true_eq]; omega
    have e2 : (((q % 2 ^ 63 * 2 : Nat) : Int) == 0) = decide (q % 2 ^ 63 = 0) := by rw [Bool.eq_iff_iff]; simp only [beq_iff_eq, decide_eq_true_eq]; omega
    have e3 : ((r : Int) == (q : Int)) = decide (r = q) := by rw [Bool.eq_iff_iff]; simp only [beq_iff_eq, decide_eq_true_eq]; omega
    have e4 : decide (rankF r = rankF q) = (decide (r = q) || (decide (r % 2 ^ 63 = 0) && decide (q % 2 ^ 63 = 0))) := by
      rw [Bool.eq_iff_iff]; simp only [Bool.or_eq_true, Bool.and_eq_true, decide_eq_true_eq]; exact hr
    rw [e1, e2, e3, e4]
    generalize nanW? r = n1
    generalize nanW? q = n2
    generalize decide (r = q) = d1
    generalize decide (r % 2 ^ 63 = 0) = d2
    generalize decide (q % 2 ^ 63 = 0) = d3
    cases n1 with
    | true => exact Tot.some rfl
    | false => refine Tot.chk hb ?_; cases n2 <;> cases d1 <;> cases d2 <;> cases d3 <;> exact Tot.some rfl
theorem v64 {a b : Int} (ha : U64 a) (hb : U64 b) : dZ 64 [.int .u64 a, .int .u64 b] [] .plain = some (.ret (.bool (ltF a b)) [] .plain) :=
  valZ uB_le rfl (by kernel_rfl) fun loops => by
    rw [b_rLt]
    refine Tot.chk ha ?_
    obtain ⟨r, rfl, h⟩ := u64_nat ha
    obtain ⟨q, rfl, h'⟩ := u64_nat hb
    have hE : ltF (r : Int) q = (!(nanW? r || nanW? q) && decide (rankF r < rankF q)) := by
      unfold ltF
      rw [Int.toNat_natCast, Int.toNat_natCast, order_eq r q h h']
      cases nanW? r || nanW? q with
      | true => rfl
      | false =>
        simp only [Bool.false_eq_true, if_false, Bool.not_false, Bool.true_and]
        rw [Bool.eq_iff_iff]
        simp only [beq_iff_eq, Option.some.injEq, icmp_lt, decide_eq_true_eq]
    rw [nan_cls h, nan_cls h', t1 h, t1 h', t63 h, t63 h', hE]
    have e1 : (((r % 2 ^ 63 * 2 : Nat) : Int) == 0) = decide (r % 2 ^ 63 = 0) := by rw [Bool.eq_iff_iff]; simp only [beq_iff_eq, decide_eq_true_eq]; omega
    have e2 : (((q % 2 ^ 63 * 2 : Nat) : Int) == 0) = decide (q % 2 ^ 63 = 0) := by rw [Bool.eq_iff_iff]; simp only [beq_iff_eq, decide_eq_true_eq]; omega
    have e3 : (((r / 2 ^ 63 : Nat) : Int) == 1) = decide (r / 2 ^ 63 = 1) := by rw [Bool.eq_iff_iff]; simp only [beq_iff_eq, decide_eq_true_eq]; omega
    have e4 : (((q / 2 ^ 63 : Nat) : Int) == 1) = decide (q / 2 ^ 63 = 1) := by rw [Bool.eq_iff_iff]; simp only [beq_iff_eq, decide_eq_true_eq]; omega
    have p1 : (2 : Int) ^ min (Int.toNat (1 : Int)) IntKind.u64.bits = 2 := by decide
    have rk : ∀ {s : Nat}, s < 2 ^ 64 → IntKind.i64.wrap ((-1 : Int) - IntKind.i64.wrap ((((s % 2 ^ 63 * 2 : Nat) : Int)).fdiv ((2 : Int) ^ min (Int.toNat (1 : Int)) IntKind.u64.bits))) = -1 - ((s % 2 ^ 63 : Nat) : Int) := by
      intro s hs
      rw [p1, Int.fdiv_eq_ediv_of_nonneg _ (by decide)]
      have : (((s % 2 ^ 63 * 2 : Nat) : Int)) / 2 = ((s % 2 ^ 63 : Nat) : Int) := by omega
      rw [this, wi_of (n := ((s % 2 ^ 63 : Nat) : Int)) ⟨by omega, by omega⟩, wi_of ⟨by omega, by omega⟩]
    rw [e1, e2, e3, e4, rk h, rk h']
    have pos : ∀ {s : Nat}, s < 2 ^ 64 → ¬ s / 2 ^ 63 = 1 → IntKind.i64.wrap (s : Int) = ((s % 2 ^ 63 : Nat) : Int) := fun {s} hs hn => by
      rw [wi_of ⟨by omega, by omega⟩]; omega
    generalize nanW? r = n1
    generalize nanW? q = n2
    have fin : ∀ {X : R}, (X = cond (decide (r / 2 ^ 63 = 1)) (cond (decide (q / 2 ^ 63 = 1)) (some (.ret (.bool (decide (-1 - ((r % 2 ^ 63 : Nat) : Int) < -1 - ((q % 2 ^ 63 : Nat) : Int)))) [] .plain)) (some (.ret (.bool (decide (-1 - ((r % 2 ^ 63 : Nat) : Int) < IntKind.i64.wrap q))) [] .plain)))
        (cond (decide (q / 2 ^ 63 = 1)) (some (.ret (.bool (decide (IntKind.i64.wrap r < -1 - ((q % 2 ^ 63 : Nat) : Int)))) [] .plain)) (some (.ret (.bool (decide (IntKind.i64.wrap r < IntKind.i64.wrap q))) [] .plain)))) →
        ¬ (r % 2 ^ 63 = 0 ∧ q % 2 ^ 63 = 0) → Tot X (· = .ret (.bool (decide (rankF r < rankF q))) [] .plain) := by
      rintro X rfl hz
      unfold rankF
      by_cases h1 : r / 2 ^ 63 = 1 <;> by_cases h2 : q / 2 ^ 63 = 1
      · rw [decide_eq_true h1, decide_eq_true h2, if_pos h1, if_pos h2]
        refine Tot.some ?_
        congr 2
        rw [decide_eq_decide]
        omega
      · rw [decide_eq_true h1, decide_eq_false h2, if_pos h1, if_neg h2, pos h' h2]
        refine Tot.some ?_
        congr 2
        rw [decide_eq_decide]
        omega
      · rw [decide_eq_false h1, decide_eq_true h2, if_neg h1, if_pos h2, pos h h1]
        refine Tot.some ?_
        congr 2
        rw [decide_eq_decide]
        omega
      · rw [decide_eq_false h1, decide_eq_false h2, if_neg h1, if_neg h2, pos h h1, pos h' h2]
        exact Tot.some rfl
    cases n1 with
    | true => exact Tot.some rfl
    | false =>
      refine Tot.chk hb ?_
      cases n2 with
      | true => exact Tot.some rfl
      | false =>
        by_cases h1 : r % 2 ^ 63 = 0
        · rw [decide_eq_true h1]
          by_cases h2 : q % 2 ^ 63 = 0
          · rw [decide_eq_true h2]
            have : decide (rankF r < rankF q) = false := decide_eq_false (by rw [rank_zero.2 h1, rank_zero.2 h2]; omega)
            rw [this]
            exact Tot.some rfl
          · rw [decide_eq_false h2]
            exact fin rfl (fun h => h2 h.2)
        · rw [decide_eq_false h1]
          exact fin rfl (fun h => h1 h.1)
end Go.Proofs

/- FoldOperators: floats made whole numbers. -/
namespace Go.Proofs
open Go Go.Den Ieee
set_option maxRecDepth 100000
theorem read_cases {r : Nat} (h : r < 2 ^ 64) : (∃ s t, double.read r = .nan s t) ∨ (∃ s, double.read r = .infinity s) ∨
    ∃ s m i, double.read r = .number s m i ∧ m < 2 ^ 53 ∧ -1074 ≤ i ∧ i ≤ 971 ∧ (-1074 < i → 2 ^ 52 ≤ m) := by
  rw [read_eq r h]
  by_cases h1 : r % 2 ^ 63 < 2 ^ 52
  · rw [if_pos h1]
    exact .inr (.inr ⟨_, _, _, rfl, by omega, by omega, by omega, by omega⟩)
  · rw [if_neg h1]
    by_cases h2 : r % 2 ^ 63 < 2047 * 2 ^ 52
    · rw [if_pos h2]
      exact .inr (.inr ⟨_, _, _, rfl, by omega, by omega, by omega, by omega⟩)
    · rw [if_neg h2]
      by_cases h3 : r % 2 ^ 63 = 2047 * 2 ^ 52
      · rw [if_pos h3]; exact .inr (.inl ⟨_, rfl⟩)
      · rw [if_neg h3]; exact .inl ⟨_, _, rfl⟩
theorem whole_eq (s : Bool) (m : Nat) (i : Int) : wholeF s m i = if 0 ≤ i then m * 2 ^ i.toNat else m / 2 ^ (-i).toNat := by
  by_cases h : 0 ≤ i
  · rw [if_pos h]
    unfold wholeF
    rw [show (-i).toNat = 0 from by omega]
    exact cut_exact (by simp)
  · rw [if_neg h]
    unfold wholeF
    rw [show i.toNat = 0 from by omega, Nat.pow_zero, Nat.mul_one]
    unfold Toward.cut
    simp only [Bool.toNat_false, Nat.add_zero, Nat.shiftLeft_eq, Nat.one_mul]
    generalize (-i).toNat = d
    by_cases hd : d ≤ m.log2 + 2
    · rw [Nat.min_eq_left hd]
    · rw [Nat.min_eq_right (by omega)]
      have h1 : m < 2 ^ (m.log2 + 1) := Nat.lt_log2_self
      have h2 : 2 ^ (m.log2 + 1) < 2 ^ (m.log2 + 2) := Nat.pow_lt_pow_right (by decide) (by omega)
      have h3 : 2 ^ (m.log2 + 2) ≤ 2 ^ d := Nat.pow_le_pow_right (by decide) (by omega)
      rw [Nat.div_eq_of_lt (by omega), Nat.div_eq_of_lt (by omega)]
def toA (a : Int) : AV := .tup [.int .i64 ((toI a).getD 0), .int .i64 (if (toI a).isSome then 0 else 82)]
theorem toA_some {a v : Int} (h : toI a = some v) : toA a = .tup [.int .i64 v, .int .i64 0] := by unfold toA; rw [h]; rfl
theorem toA_none {a : Int} (h : toI a = none) : toA a = .tup [.int .i64 0, .int .i64 82] := by unfold toA; rw [h]; rfl
theorem v28 {a : Int} (ha : U64 a) : dZ 28 [.int .u64 a] [] .plain = some (.ret (toA a) [] .plain) :=
  valZ uP_le rfl (by kernel_rfl) fun loops => by
    rw [b_rTo]
    refine Tot.chk ha ?_
    obtain ⟨r, rfl, h⟩ := u64_nat ha
    rcases read_cases h with ⟨s, t, e⟩ | ⟨s, e⟩ | ⟨s, m, i, e, hm, hi1, hi2, hi3⟩
    · have : clsF (r : Int) = 1 := by unfold clsF; rw [Int.toNat_natCast, e]
      rw [this, toA_none (toI_nan e)]
      exact Tot.some rfl
    · have : clsF (r : Int) = 2 := by unfold clsF; rw [Int.toNat_natCast, e]
      rw [this, toA_none (toI_inf e)]
      exact Tot.some rfl
    · have hc : decide (clsF (r : Int) < 3) = false := decide_eq_false (by
        unfold clsF
        rw [Int.toNat_natCast, e]
        simp only
        cases m == 0 <;> cases decide (m < 4503599627370496) <;> decide)
      have hs : sgF (r : Int) = s := by unfold sgF; rw [Int.toNat_natCast, e]
      have hmt : mtF (r : Int) = m := by unfold mtF; rw [Int.toNat_natCast, e]
      have hex : exF (r : Int) = i := by unfold exF; rw [Int.toNat_natCast, e]
      rw [hc, cond_false, hs, hmt, hex]
      refine Tot.chk ha ?_
      have hto := toI_num e hm hi2
      have hq := whole_eq s m i
      generalize wholeF s m i = q at *
      have inr : ∀ {v : Int}, (if s then -(q : Int) else (q : Int)) = v → I64 v → toI (r : Int) = some v := fun {v} hv hI => by
        have h2 : v ≤ 9223372036854775807 := hI.2
        rw [hto, hv, if_pos ⟨hI.1, by omega⟩]
      have outr : 9223372036854775808 < q ∨ (s = false ∧ 9223372036854775808 ≤ q) → toI (r : Int) = none := fun ho => by
        rw [hto, if_neg]
        rintro ⟨h1, h2⟩
        rcases ho with ho | ⟨rfl, ho⟩
        · cases s <;> simp only [if_true, Bool.false_eq_true, if_false] at h1 h2 <;> omega
        · simp only [Bool.false_eq_true, if_false] at h1 h2; omega
      have zero : q = 0 → toA (r : Int) = .tup [.int .i64 0, .int .i64 0] := fun h0 => toA_some (inr (by rw [h0]; cases s <;> rfl) (by decide))
      have val : (q : Int) < 9223372036854775808 → ∀ {w : Int}, w = q → Tot (cond s (some (.ret (.tup [.int .i64 (IntKind.i64.wrap (0 - IntKind.i64.wrap w)), .int .i64 0]) [] .plain)) (some (.ret (.tup [.int .i64 (IntKind.i64.wrap w), .int .i64 0]) [] .plain))) (· = .ret (toA (r : Int)) [] .plain) := by
        intro hlt w hw
        subst hw
        rw [wi_of (n := (q : Int)) ⟨by omega, by omega⟩]
        cases s with
        | true =>
          have : IntKind.i64.wrap (0 - (q : Int)) = -(q : Int) := by rw [wi_of ⟨by omega, by omega⟩]; omega
          rw [this, toA_some (inr (v := -(q : Int)) rfl ⟨by omega, by omega⟩)]
          exact Tot.some rfl
        | false =>
          rw [toA_some (inr (v := (q : Int)) rfl ⟨by omega, by omega⟩)]
          exact Tot.some rfl
      refine Tot.cond (fun hA => ?_) fun hA => ?_
      · have : q = 0 := by
          by_cases h0 : m = 0
          · subst h0; rw [hq]; split <;> simp
          · have h0' : ((m : Int) == 0) = false := by rw [beq_eq_false_iff_ne]; omega
            have hi : i < -1000 := by rw [h0', cond_false] at hA; exact of_decide_eq_true hA
            rw [hq, if_neg (by omega)]
            refine Nat.div_eq_of_lt (Nat.lt_of_lt_of_le hm ?_)
            exact Nat.pow_le_pow_right (by decide) (by omega)
        rw [zero this]
        exact Tot.some rfl
      have hA : m ≠ 0 ∧ -1000 ≤ i := by
        constructor
        · rintro rfl; simp at hA
        · rcases Int.lt_or_le i (-1000) with h | h
          · rw [decide_eq_true h] at hA
            cases hb : ((m : Int) == 0) <;> rw [hb] at hA <;> cases hA
          · exact h
      have hm2 := hi3 (by omega)
      refine Tot.cond (fun hB => ?_) fun hB => ?_
      · have hi : 11 < i := of_decide_eq_true hB
        rw [toA_none (outr (.inl ?_))]
        · exact Tot.some rfl
        · rw [hq, if_pos (by omega)]
          have : 2 ^ 52 * 2 ^ 12 ≤ m * 2 ^ i.toNat := Nat.mul_le_mul hm2 (Nat.pow_le_pow_right (by decide) (by omega))
          omega
      have hB : i ≤ 11 := by have := of_decide_eq_false hB; omega
      refine Tot.cond (fun hC => ?_) fun hC => ?_
      · have hC : s = true ∧ m = 4503599627370496 ∧ i = 11 := by
          cases s with
          | false => cases hC
          | true =>
            by_cases h1 : m = 4503599627370496
            · by_cases h2 : i = 11
              · exact ⟨rfl, h1, h2⟩
              · have : (i == 11) = false := by rw [beq_eq_false_iff_ne]; exact h2
                rw [this] at hC
                cases hb : ((m : Int) == 4503599627370496) <;> rw [hb] at hC <;> cases hC
            · have : ((m : Int) == 4503599627370496) = false := by rw [beq_eq_false_iff_ne]; omega
              rw [this] at hC; cases hC
        obtain ⟨rfl, rfl, rfl⟩ := hC
        have : q = 9223372036854775808 := by rw [hq]; decide
        rw [toA_some (inr (v := -9223372036854775808) (by rw [this]; rfl) (by decide))]
        exact Tot.some rfl
      refine Tot.cond (fun hD => ?_) fun hD => ?_
      · have hi : i = 11 := by simpa using hD
        subst hi
        have hqv : q = m * 2048 := by rw [hq]; rfl
        have : 9223372036854775808 < q ∨ (s = false ∧ 9223372036854775808 ≤ q) := by
          cases s with
          | false => exact .inr ⟨rfl, by omega⟩
          | true =>
            left
            have : m ≠ 4503599627370496 := by rintro rfl; simp at hC
            omega
        rw [toA_none (outr this)]
        exact Tot.some rfl
      have hD : i ≤ 10 := by
        have : i ≠ 11 := by simpa using hD
        omega
      have wui : ∀ {j : Int}, 0 ≤ j → j ≤ 2000 → IntKind.u64.wrap j = j := fun h1 h2 => wu_of ⟨h1, by omega⟩
      refine Tot.cond (fun hE => ?_) fun hE => ?_
      · have hi : 0 < i := of_decide_eq_true hE
        have e1 : decide (IntKind.u64.wrap i < 0) = false := decide_eq_false (by rw [wui (by omega) (by omega)]; omega)
        have e2 : decide (i < 0) = false := decide_eq_false (by omega)
        rw [e1, cond_false, e2, cond_false]
        have hqv : q = m * 2 ^ i.toNat := by rw [hq, if_pos (by omega)]
        have hlt : q < 2 ^ 63 := by
          rw [hqv]
          calc m * 2 ^ i.toNat < 2 ^ 53 * 2 ^ i.toNat := Nat.mul_lt_mul_of_pos_right hm (Nat.pow_pos (by decide))
            _ ≤ 2 ^ 53 * 2 ^ 10 := Nat.mul_le_mul_left _ (Nat.pow_le_pow_right (by decide) (by omega))
            _ = 2 ^ 63 := by decide
        refine val (by omega) ?_
        have e3 : min (IntKind.u64.wrap i).toNat IntKind.u64.bits = i.toNat := by
          rw [wui (by omega) (by omega)]
          show min i.toNat 64 = _
          omega
        rw [e3]
        have e4 : (m : Int) * 2 ^ i.toNat = (q : Int) := by rw [hqv, Int.natCast_mul, Int.natCast_pow]; rfl
        rw [e4]
        exact wu_of ⟨by omega, by omega⟩
      · have hE : i ≤ 0 := by have := of_decide_eq_false hE; omega
        refine Tot.cond (fun hF => ?_) fun hF => ?_
        · have hi : i < 0 := of_decide_eq_true hF
          have hqv : q = m / 2 ^ (-i).toNat := by rw [hq, if_neg (by omega)]
          refine Tot.cond (fun hG => ?_) fun hG => ?_
          · have hi : i < -60 := of_decide_eq_true hG
            rw [zero ?_]
            · exact Tot.some rfl
            · rw [hqv]
              refine Nat.div_eq_of_lt (Nat.lt_of_lt_of_le hm ?_)
              exact Nat.pow_le_pow_right (by decide) (by omega)
          · have hG : -60 ≤ i := by have := of_decide_eq_false hG; omega
            have e0 : IntKind.i64.wrap (0 - i) = -i := by rw [wi_of ⟨by omega, by omega⟩]; omega
            rw [e0, wui (by omega) (by omega)]
            have e1 : decide (-i < 0) = false := decide_eq_false (by omega)
            rw [e1, cond_false]
            have hlt : q ≤ m := by rw [hqv]; exact Nat.div_le_self _ _
            refine val (by omega) ?_
            have e3 : min (-i).toNat IntKind.u64.bits = (-i).toNat := by
              show min (-i).toNat 64 = _
              omega
            rw [e3, Int.fdiv_eq_ediv_of_nonneg _ (Int.pow_nonneg (by decide)), hqv]
            have : (2 : Int) ^ (-i).toNat = ((2 ^ (-i).toNat : Nat) : Int) := by rw [Int.natCast_pow]; rfl
            rw [this, ← Int.natCast_ediv]
        · have hi : i = 0 := by have := of_decide_eq_false hF; omega
          subst hi
          have hqv : q = m := by rw [hq]; simp
          exact val (by omega) (by rw [hqv])
end Go.Proofs
