/- What proofs of functions share: tables, slices as lists, rounds. -/
import Derived.Test.YtbiklmpkkbncgaaGreatDenInl
import Derived.KernelRfl
set_option linter.unusedSimpArgs false
set_option linter.unusedVariables false
set_option linter.unnecessarySimpa false
namespace Go.Den
open Go
def lkT {α : Type} (d : α) : Nat → List (Nat × α) → α
  | _, [] => d
  | f, (g, x) :: l => cond (f == g) x (lkT d f l)
def noCall : CallK := fun _ _ _ _ _ => none
theorem noCall_le {c : CallO} : CallLeK noCall c := fun _ _ _ _ _ _ h => by cases h
theorem self_le {c : CallO} : CallLeK (bindK c) c := CallLeK.of_le fun _ _ _ _ _ h => h
def noLoops : LoopK := fun _ _ _ => none
theorem no_loops {P : Program} {pol : Pol} {c : CallO} {n : Nat} {fn : FuncId} {l : List (Nat × Code)} : LoopsOk P pol c n fn noLoops l := fun _ _ _ _ _ h => by cases h

theorem sl_ext {z : Nat} {t : Tok} {n m : Nat} {f : Fin n → List AV} {g : Fin m → List AV} (h : n = m) (hf : ∀ i (h1 : i < n) (h2 : i < m), f ⟨i, h1⟩ = g ⟨i, h2⟩) : AV.sl z t n f = AV.sl z t m g := by
  subst h
  congr 1
  funext i
  exact hf i.1 i.2 i.2
theorem arr_ext {z g n m : Nat} {f : Fin n → List AV} {f' : Fin m → List AV} (h : n = m) (hf : ∀ i (h1 : i < n) (h2 : i < m), f ⟨i, h1⟩ = f' ⟨i, h2⟩) : Den.Obj.arr z g n f = .arr z g m f' := by
  subst h
  congr 1
  funext i
  exact hf i.1 i.2 i.2

/-- a list as a slice -/
def slL {α : Type} (z : Nat) (t : Tok) (row : α → List AV) (l : List α) : AV := .sl z t l.length fun j => row (l.get j)
def arL {α : Type} (z g : Nat) (row : α → List AV) (l : List α) : Den.Obj := .arr z g l.length fun j => row (l.get j)

theorem sl_app {α : Type} (row : α → List AV) {z : Nat} {t : Tok} (o : List α) (x : α) {g : Fin 1 → List AV} (hg : g 0 = row x) :
    AV.sl z t (o.length + 1) (appRows (fun q => row (o.get q)) g) = AV.sl z t (o ++ [x]).length fun q => row ((o ++ [x]).get q) := by
  refine sl_ext (by simp) fun i h1 h2 => ?_
  unfold appRows
  by_cases hi : i < o.length
  · rw [dif_pos hi]; simp [List.getElem_append_left hi]
  · have : i = o.length := by omega
    subst this
    rw [dif_neg (by simp)]
    have : (⟨o.length - o.length, by omega⟩ : Fin 1) = 0 := by apply Fin.ext; simp
    simp only [this, hg]
    simp
theorem take_snoc {α : Type} {l : List α} {i : Nat} (h : i < l.length) : l.take (i + 1) = l.take i ++ [l.get ⟨i, h⟩] := by
  rw [List.take_add_one]
  simp [List.getElem?_eq_getElem h]
theorem wrap_id {n : Int} (h1 : -9223372036854775808 ≤ n) (h2 : n < 9223372036854775808) : IntKind.i64.wrap n = n := by
  have e1 : (2 : Int) ^ 64 = 18446744073709551616 := by decide
  have e2 : (2 : Int) ^ (64 - 1) = 9223372036854775808 := by decide
  simp only [IntKind.wrap, IntKind.bits, IntKind.signed, e1, e2]
  by_cases h : n % 18446744073709551616 ≥ 9223372036854775808
  · simp only [h, decide_true, Bool.and_self, if_true]; omega
  · simp only [h, decide_false, Bool.and_false, Bool.false_eq_true, if_false]; omega
theorem wrap_succ {n : Nat} (h : n < 4611686018427387904) : IntKind.i64.wrap ((n : Int) + 1) = ((n + 1 : Nat) : Int) := by
  have h1 : -9223372036854775808 ≤ (n : Int) + 1 := by omega
  have h2 : (n : Int) + 1 < 9223372036854775808 := by omega
  rw [wrap_id h1 h2]
  rfl

section
variable {P : Program} {pol : Pol} {c : CallO} {n : Nat} {fn : FuncId}
/-- rounds, by a measure; what the calls of a round come to may hang on its state -/
theorem loop_meas {α : Type} {Q : Out → Prop} (calls : α → CallK) (hle : ∀ a, CallLeK (calls a) c) {keep : Bool} (hkeep : pol.keep fn = keep) {inner : LoopK} {x : Code} {st : St} {k : Exit → St → R}
    (hin : LoopsOk P pol c n fn inner (loopsOf x)) (S : α → St) (Inv : α → Prop) (μ : α → Nat) (a₀ : α) (hm : μ a₀ < n) (hI : Inv a₀) (h0 : promote (pol.prom fn (regOf x)) st = S a₀) {H : Nat} (hH : (S a₀).s.h.length = H)
    (next : ∀ a, Inv a → ∀ K : Exit → St → R, (∀ st' a', Inv a' → μ a' < μ a → _root_.cond keep st' (st'.cut H) = S a' → Tot (K .normal st') Q) → (∀ e st', e ≠ .normal → K e st' = k e st') →
      Tot (codeL P pol (calls a) inner fn x (S a) K) Q) : Tot (codeD P pol (bindK c) n fn (.loop x) st k) Q := by
  simp only [codeD, hkeep, h0, hH]
  have key : ∀ (f : Nat) (a : α), Inv a → μ a < f → f ≤ n → Tot (loopD keep H (codeD P pol (bindK c) n fn x) f (S a) k) Q := by
    intro f
    induction f with
    | zero => intro a _ h; omega
    | succ f ih =>
      intro a hIa hf hn
      simp only [loopD]
      have := next a hIa (fun e st' => match e with | .normal => loopD keep H (codeD P pol (bindK c) n fn x) f (_root_.cond keep st' (st'.cut H)) k | e => k e st')
        (fun st' a' hI' hlt h2 => by simp only; rw [h2]; exact ih a' hI' (by omega) (by omega)) (fun e st' he => by cases e <;> first | exact absurd rfl he | rfl)
      obtain ⟨o, h1, h2⟩ := this
      exact ⟨o, codeL_le (hle a) x hin (fun e st h => h) h1, h2⟩
  exact key n a₀ hI hm (Nat.le_refl _)
end
end Go.Den
