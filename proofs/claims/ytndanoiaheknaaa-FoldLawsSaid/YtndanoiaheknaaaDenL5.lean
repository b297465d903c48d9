/- A part of the second reading: contracts of functions. -/
import Derived.Test.YtndanoiaheknaaaDenL4
set_option linter.unusedSimpArgs false
set_option linter.unusedVariables false
namespace Go.Proofs
open Go.Den
set_option maxRecDepth 100000
def mulB (a b : Int) : Bool := cond (mulP a b) true (cond (mulQ a b) false (cond (mulS a b) false true))
def ovf (a b : Int) : Bool := cond (b == -1) (subC 0 a) false
def t5 : CallK := fun f args h ps K => match f, args, h, ps with
  | 7, [.int .i64 a], [], .plain => K (oV 1 (wu a))
  | 9, [], [], .plain => K (oB true)
  | 8, [.int .i64 1, .agg [.int .i64 1, .int .u64 x], .agg [.int .i64 1, .int .u64 y]], [], .plain => cond (addC (wi x) (wi y)) (K (oT 0 0 1)) (K (oT 1 (wu (wi (wi x + wi y))) 0))
  | 8, [.int .i64 3, .agg [.int .i64 1, .int .u64 x], .agg [.int .i64 1, .int .u64 y]], [], .plain => cond (mulB (wi x) (wi y)) (K (oT 0 0 1)) (K (oT 1 (wu (mulV (wi x) (wi y))) 0))
  | 8, [.int .i64 4, .agg [.int .i64 1, .int .u64 x], .agg [.int .i64 1, .int .u64 y]], [], .plain =>
      cond (wi y == 0) (K (oT 0 0 2)) (cond (ovf (wi x) (wi y)) (K (oT 0 0 1)) (K (oT 1 (wu (divV (wi x) (wi y))) 0)))
  | 8, [.int .i64 5, .agg [.int .i64 1, .int .u64 x], .agg [.int .i64 1, .int .u64 y]], [], .plain => cond (wi y == 0) (K (oT 0 0 2)) (K (oT 1 (wu (remV (wi x) (wi y))) 0))
  | 8, [.int .i64 8, .agg [.int .i64 1, .int .u64 x], .agg [.int .i64 1, .int .u64 y]], [], .plain => K (oT 3 (cond (decide (wi x < wi y)) 1 0) 0)
  | 8, [.int .i64 11, .agg [.int .i64 1, .int .u64 x], .agg [.int .i64 1, .int .u64 y]], [], .plain => K (oT 3 (cond (cond (decide (wi x > wi y)) true (wi x == wi y)) 1 0) 0)
  | _, _, _, _ => none
theorem t5_le (K : Nat) : CallLeK t5 (dn (K + 40)) := by
  intro f args h ps kk o e
  unfold t5 at e
  split at e
  · exact ⟨_, e, law_whole (K + 39) _⟩
  · exact ⟨_, e, den_mono pol0 ext0 (Nat.le_add_left 40 K) _ _ _ _ _ alive40⟩
  · rename_i x y
    cases hc : addC (wi x) (wi y) with
    | true => rw [hc] at e; refine ⟨_, e, (bin_add (K + 35) x y).trans ?_⟩; simp only [addE, addV, hc]; rfl
    | false => rw [hc] at e; refine ⟨_, e, (bin_add (K + 35) x y).trans ?_⟩; simp only [addE, addV, hc]; rfl
  · rename_i x y
    have hm : mulE (wi x) (wi y) = cond (mulB (wi x) (wi y)) 80 0 := by
      simp only [mulE, mulB]; cases mulP (wi x) (wi y) <;> cases mulQ (wi x) (wi y) <;> cases mulS (wi x) (wi y) <;> rfl
    cases hc : mulB (wi x) (wi y) with
    | true => rw [hc] at e hm; refine ⟨_, e, (bin_mul (K + 35) x y).trans ?_⟩; rw [hm]; rfl
    | false => rw [hc] at e hm; refine ⟨_, e, (bin_mul (K + 35) x y).trans ?_⟩; rw [hm]; rfl
  · rename_i x y
    have hd : divE (wi x) (wi y) = cond (wi y == 0) 81 (cond (ovf (wi x) (wi y)) 80 0) := by
      simp only [divE, ovf, negE]; cases wi y == 0 <;> cases wi y == -1 <;> rfl
    cases hz : wi y == 0 with
    | true => rw [hz] at e hd; refine ⟨_, e, (bin_div (K + 35) x y).trans ?_⟩; rw [hd]; rfl
    | false =>
      rw [hz] at e hd
      cases ho : ovf (wi x) (wi y) with
      | true => rw [ho] at e hd; refine ⟨_, e, (bin_div (K + 35) x y).trans ?_⟩; rw [hd]; rfl
      | false => rw [ho] at e hd; refine ⟨_, e, (bin_div (K + 35) x y).trans ?_⟩; rw [hd]; rfl
  · rename_i x y
    cases hz : wi y == 0 with
    | true => rw [hz] at e; refine ⟨_, e, (bin_rem (K + 35) x y).trans ?_⟩; simp only [remE, hz]; rfl
    | false => rw [hz] at e; refine ⟨_, e, (bin_rem (K + 35) x y).trans ?_⟩; simp only [remE, hz]; rfl
  · exact ⟨_, e, bin_lt (K + 35) _ _⟩
  · exact ⟨_, e, bin_ge (K + 35) _ _⟩
  · cases e
def lp (C C' : Bool) (s s' : Int) (L : R) : R := cond C (cond C' L (rB false)) (cond C' (rB false) (cond (cond (!((s == s') && true)) true false) (rB false) L))
def p1 (c : Int) (b : Int) : Bool := !((c == 2) == (b == 0))
def fin (a b c4 c5 : Int) (rest : R) : R :=
  cond (cond (cond (cond (p1 c4 b) true (p1 c5 b)) true ((cond (decide (wi (wu a) < wi (wu b))) 1 0 : Int) == cond (cond (decide (wi (wu a) > wi (wu b))) true (wi (wu a) == wi (wu b))) 1 0)) true
    (!(((cond (decide (wi (wu a) < wi (wu b))) 1 0 : Int) == 1) == decide (a < b))) == false) rest (rB false)
def fin1 (a b : Int) : R := rB (cond (b == 0) true (cond (a == -9223372036854775808) (b == -1) false))
def q1 (a b : Int) : Int := wu (divV (wi (wu a)) (wi (wu b)))
def r5 (a b : Int) : Int := wu (remV (wi (wu a)) (wi (wu b)))
def P5 (a b : Int) : Int := wu (mulV (wi (q1 a b)) (wi (wu b)))
def fin2 (a b : Int) : R := cond (mulB (wi (q1 a b)) (wi (wu b))) none (cond (addC (wi (P5 a b)) (wi (r5 a b))) (rB false) (rB (cond ((wu (wi (wi (P5 a b) + wi (r5 a b))) == wu a) && true) true false)))
def core (a b : Int) : R :=
  (cond (wi (wu b) == 0) (cond (wi (wu b) == 0) (fin a b 2 2 (fin1 a b)) (fin a b 2 0 (fin1 a b)))
        (cond (ovf (wi (wu a)) (wi (wu b))) (cond (wi (wu b) == 0) (fin a b 1 2 (fin1 a b)) (fin a b 1 0 (fin1 a b)))
          (cond (wi (wu b) == 0) (fin a b 0 2 (cond (mulB (wi (q1 a b)) (wi (wu b))) none none)) (fin a b 0 0 (fin2 a b)))))
theorem laws_s (a b : Int) : bodyD Try.prog pol0 t5 5 3 [.int .i64 a, .int .i64 b] [] .plain =
  lp (addC (wi (wu a)) (wi (wu b))) (addC (wi (wu b)) (wi (wu a))) (wu (wi (wi (wu a) + wi (wu b)))) (wu (wi (wi (wu b) + wi (wu a))))
    (lp (mulB (wi (wu a)) (wi (wu b))) (mulB (wi (wu b)) (wi (wu a))) (wu (mulV (wi (wu a)) (wi (wu b)))) (wu (mulV (wi (wu b)) (wi (wu a)))) (core a b)) := by kernel_rfl
end Go.Proofs
