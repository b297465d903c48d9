/- Operations that may fail; slices. -/
import Derived.Test.YtbiklmpkkbncgaaGreatDenOps4
import Derived.Laws.Strings
set_option linter.unusedSimpArgs false
set_option linter.unusedVariables false
set_option linter.unnecessarySimpa false
namespace Go.Den
open Go

section
variable {P : Program} {c : Cx} {s : Hs} {ρ : Operand → Value}

theorem castC_eq {kd : Kd} {v : AV} {K : AV → R} {o : Out} (h : castC kd v K = some o) : K v = some o := by
  unfold castC at h
  split at h
  · split at h
    · split at h
      · rename_i e; subst e; exact h
      · cases h
    · cases h
  · split at h
    · exact h
    · cases h
  · split at h
    · exact h
    · cases h
  · split at h
    · exact h
    · cases h
  · split at h
    · split at h
      · rename_i e; subst e; exact h
      · cases h
    · exact h
    · cases h
  · exact h

theorem castCs_eq : ∀ {kds : List Kd} {vs : List AV} {K : List AV → R} {o : Out}, castCs kds vs K = some o → K vs = some o
  | [], [], K, o, h => h
  | [], _ :: _, K, o, h => by cases h
  | _ :: _, [], K, o, h => by cases h
  | kd :: kds, v :: vs, K, o, h => by
    simp only [castCs] at h
    exact castCs_eq (K := fun vs' => K (v :: vs')) (castC_eq h)

theorem castV_eq {t : TypeId} {v : AV} {K : AV → R} {o : Out} (h : castV P t v K = some o) : K v = some o := by
  unfold castV at h
  cases hg : isAggD P t with
  | true =>
    rw [hg] at h
    simp only [cond_true] at h
    split at h
    · exact castCs_eq (K := fun cs' => K (.agg cs')) h
    · cases h
  | false =>
    rw [hg] at h
    exact castC_eq h

theorem castVs_eq : ∀ {ts : List TypeId} {vs : List AV} {K : List AV → R} {o : Out}, castVs P ts vs K = some o → K vs = some o
  | [], [], K, o, h => h
  | [], _ :: _, K, o, h => by cases h
  | _ :: _, [], K, o, h => by cases h
  | t :: ts, v :: vs, K, o, h => by
    simp only [castVs] at h
    exact castVs_eq (K := fun vs' => K (v :: vs')) (castV_eq h)

theorem castR_eq {ts : List TypeId} {v : AV} {K : AV → R} {o : Out} (h : castR P ts v K = some o) : K v = some o := by
  unfold castR at h
  split at h
  · exact castV_eq h
  · split at h
    · exact castVs_eq (K := fun vs' => K (.tup vs')) h
    · cases h

theorem purify_sound {u : AV} {x : Value} (h : VR c u x) (ha : AtomA u) : VR c (purify u) x ∧ PureA (purify u) ∧ AtomA (purify u) := by
  cases h with
  | top => exact ha.elim
  | agg => exact ha.elim
  | tup => exact ha.elim
  | dk _ h => exact ⟨.dk _ h, .dk, trivial⟩
  | int k n => exact ⟨.int k n, .int k n, trivial⟩
  | bool b => exact ⟨.bool b, .bool b, trivial⟩
  | str l s h => exact ⟨.str l s h, .str l, trivial⟩
  | flt b => exact ⟨.flt b, .flt b, trivial⟩
  | nil => exact ⟨.nil, .nil, trivial⟩
  | ptr _ _ _ _ _ _ h _ => exact ⟨.dk _ h, .dk, trivial⟩
  | pp => exact ⟨.dk _ trivial, .dk, trivial⟩
  | nils => exact ⟨.nils, .nils, trivial⟩
  | sl z t n f a cap val h1 h2 h3 h4 h5 h6 h7 h8 h9 =>
    cases t with
    | no => exact ⟨.sl z .no n f a cap val h1 h2 h3 h4 h5 h6 h7 h8 h9, .sl z .no n f (fun i e => by cases e) (fun i u hu => (h4 i u hu).1) (fun i u hu => (h4 i u hu).2), trivial⟩
    | tight => exact ⟨.sl z .tight n f a cap val h1 h2 h3 h4 h5 h6 h7 h8 h9, .sl z .tight n f (fun i e => by cases e) (fun i u hu => (h4 i u hu).1) (fun i u hu => (h4 i u hu).2), trivial⟩
    | id i => exact ⟨.sl z .no n f a cap val h1 (fun e => by cases e) h3 h4 h5 h6 h7 h8 (fun i e => by cases e), .sl z .no n f (fun i e => by cases e) (fun i u hu => (h4 i u hu).1) (fun i u hu => (h4 i u hu).2), trivial⟩
  | sr => exact ⟨.dk _ trivial, .dk, trivial⟩
  | fn f cap arr h1 h2 =>
    cases cap with
    | nil => exact ⟨.fn f [] arr h1 h2, .fn f, trivial⟩
    | cons => exact ⟨.dk _ trivial, .dk, trivial⟩
  | nilfn => exact ⟨.nilfn, .nilfn, trivial⟩
  | ifc t v x h =>
    simp only [purify]
    cases hp : plainA v with
    | true => exact ⟨.ifc t v x h, .ifc t v hp, trivial⟩
    | false => exact ⟨.dk _ trivial, .dk, trivial⟩
  | nilifc => exact ⟨.nilifc, .nilifc, trivial⟩
  | map _ _ _ h _ => exact ⟨.dk _ h, .dk, trivial⟩
  | nilmap => exact ⟨.nilmap, .nilmap, trivial⟩

/-! partial arithmetic -/
theorem eqGuard_other (op : BinOp) (t : TypeId) (x y : Operand) (a b : Value) (w : World) (h : op ≠ .eql) (h' : op ≠ .neq) : (eqGuard op t x y a b).run P w = .ok () w := by
  unfold eqGuard; cases op <;> first | rfl | contradiction

/-! addresses -/
theorem asIntOf_of {v : AV} {x : Value} {i : Int} {w : World} (h : idxOf v = some i) (hv : VR c v x) : ∃ k, (asIntOf x).run P w = .ok (k, i) w := by
  unfold idxOf at h
  split at h
  · cases h; rw [hv.int_inv]; exact ⟨_, rfl⟩
  · cases h

theorem run_sized {t : TypeId} {z : Nat} {w : World} (h : sized P t z = true) : (sizeOf t).run P w = .ok z w := by
  unfold sized at h
  cases hi : P.info? t with
  | none => rw [hi] at h; cases h
  | some i =>
    rw [hi] at h
    simp only [beq_iff_eq] at h
    simp [sizeOf, run_typeInfo hi, h]

theorem indexAddr_sl (hr : RelH c) (hs : c.h = s.h) {o : Oper} {t el : TypeId} {x ix : Operand} {vi : AV} {z n : Nat} {tk : Tok} {f : Fin n → Row} {i : Int} (ho : o.op = .indexAddr t x ix)
    (ht : P.underlying t = some (.slice el)) (hx : VR c (.sl z tk n f) (ρ x)) (hi : VR c vi (ρ ix)) (ei : idxOf vi = some i) (hb : 0 ≤ i ∧ i.toNat < n) (hz : sized P el z = true) :
    Gives P ρ o c s (.pp (f ⟨i.toNat, hb.2⟩) 0) s := by
  obtain ⟨k, hk⟩ := asIntOf_of (P := P) (w := c.w) ei hi
  generalize hρ : ρ x = y at hx
  cases hx with
  | sl _ _ _ _ a cap val h1 h2 h3 h4 h5 h6 h7 h8 h9 =>
    cases a with
    | none => exact absurd (h5 rfl).1 (by omega)
    | some ad =>
      have hsp := h6 ad rfl (by omega)
      have hdiv : i < (n : Int) := by omega
      obtain ⟨b, q, sp⟩ := ad
      simp only at hsp
      subst hsp
      refine ⟨.pointer (some ⟨b, q + i.toNat * z + 0, none⟩), c, ?_, Step.refl hr hs, .pp _ 0 b (q + i.toNat * z) (val i.toNat) (h4 _) (fun j hj => ?_) (h8 ⟨i.toNat, hb.2⟩)⟩
      · simp only [execOp, ho, Sem.run_bind, Instr.indexAt, hk, Result.andThen_ok, run_underlying ht, hρ, Sem.run_pure, run_sized hz, add_addr]
        rw [if_pos ⟨hb.1, hdiv⟩]
        simp only [Sem.run_bind, run_sized hz, Result.andThen_ok, Sem.run_pure, add_addr, Nat.add_zero]
      · rw [h3] at hj
        exact h7 ⟨i.toNat, hb.2⟩ j hj _ rfl

theorem indexAddr_sr (hr : RelH c) (hs : c.h = s.h) {o : Oper} {t el : TypeId} {x ix : Operand} {vi : AV} {z gen n id off len : Nat} {f : Fin n → Row} {i : Int} (ho : o.op = .indexAddr t x ix)
    (ht : P.underlying t = some (.slice el)) (hx : VR c (.sr id gen off len) (ρ x)) (hi : VR c vi (ρ ix)) (ei : idxOf vi = some i) (hb : 0 ≤ i ∧ i.toNat < len) (hz : sized P el z = true)
    (hob : s.h[id]? = some (.arr z gen n f)) : Gives P ρ o c s (.ptr id gen (off + i.toNat) 0) s := by
  rw [← hs] at hob
  obtain ⟨k, hk⟩ := asIntOf_of (P := P) (w := c.w) ei hi
  have hgi : id < c.g.length := by rw [hr.len]; exact (List.getElem?_eq_some_iff.1 hob).1
  have hg : c.g[id]? = some c.g[id] := List.getElem?_eq_getElem hgi
  generalize c.g[id] = gh at hg
  have hO := hr.obj id _ gh hob hg
  cases gh with
  | blk b =>
    generalize hρ : ρ x = y at hx
    cases hx with
    | sr _ _ _ _ a cap hl hc _ ha _ =>
      have e := ha b (off * z + 0) (by simp [Cx.adr, hob, hg]) (by omega)
      subst e
      have hdiv : i < (len : Int) := by omega
      refine ⟨.pointer (some ⟨b, off * z + i.toNat * z, none⟩), c, ?_, Step.refl hr hs, .ptr _ _ _ _ _ hl trivial fun b' o' e => ?_⟩
      · simp only [execOp, ho, Sem.run_bind, Instr.indexAt, hk, Result.andThen_ok, run_underlying ht, hρ, Sem.run_pure]
        rw [if_pos ⟨hb.1, hdiv⟩]
        simp only [Sem.run_bind, run_sized hz, Result.andThen_ok, Sem.run_pure, add_addr, Nat.add_zero]
      · simp [Cx.adr, hob, hg] at e
        obtain ⟨rfl, rfl⟩ := e
        simp [Nat.add_mul]
  | none => exact hO.elim
  | tk => exact hO.elim

theorem indexAddr_arr (hr : RelH c) (hs : c.h = s.h) {o : Oper} {t el : TypeId} {x ix : Operand} {vi : AV} {n id gen row q : Nat} {i : Int} (ho : o.op = .indexAddr t x ix)
    (ht : P.underlying t = some (.array n el)) (hx : VR c (.ptr id gen row q) (ρ x)) (hi : VR c vi (ρ ix)) (ei : idxOf vi = some i) (hb : 0 ≤ i ∧ i.toNat < n) (hz : sized P el (P.cellsOf el) = true)
    (hst : standing s.h (.ptr id gen row q) = true) : Gives P ρ o c s (.ptr id gen row (q + i.toNat * P.cellsOf el)) s := by
  rw [← hs] at hst
  obtain ⟨k, hk⟩ := asIntOf_of (P := P) (w := c.w) ei hi
  obtain ⟨b, p, e1, e2⟩ := hx.ptr_add (off := i.toNat * P.cellsOf el) hr hst
  have hdiv : i < (n : Int) := by omega
  refine ⟨_, c, ?_, Step.refl hr hs, e2⟩
  simp only [execOp, ho, Sem.run_bind, Instr.indexAt, hk, Result.andThen_ok, run_underlying ht, e1, Instr.sureAddr, Sem.run_pure]
  rw [if_pos ⟨hb.1, hdiv⟩]
  simp only [Sem.run_bind, run_sized hz, Result.andThen_ok, Sem.run_pure, add_addr]

theorem indexAddr_pp (hr : RelH c) (hs : c.h = s.h) {o : Oper} {t el : TypeId} {x ix : Operand} {vi : AV} {n q : Nat} {row : Row} {i : Int} (ho : o.op = .indexAddr t x ix)
    (ht : P.underlying t = some (.array n el)) (hx : VR c (.pp row q) (ρ x)) (hi : VR c vi (ρ ix)) (ei : idxOf vi = some i) (hb : 0 ≤ i ∧ i.toNat < n) (hz : sized P el (P.cellsOf el) = true) :
    Gives P ρ o c s (.pp row (q + i.toNat * P.cellsOf el)) s := by
  obtain ⟨k, hk⟩ := asIntOf_of (P := P) (w := c.w) ei hi
  generalize hρ : ρ x = y at hx
  have hdiv : i < (n : Int) := by omega
  cases hx with
  | pp _ _ b p val h1 h2 h3 =>
    refine ⟨.pointer (some ⟨b, p + (q + i.toNat * P.cellsOf el), none⟩), c, ?_, Step.refl hr hs, .pp _ _ b p val h1 h2 h3⟩
    simp only [execOp, ho, Sem.run_bind, Instr.indexAt, hk, Result.andThen_ok, run_underlying ht, hρ, Instr.sureAddr, Sem.run_pure]
    rw [if_pos ⟨hb.1, hdiv⟩]
    simp only [Sem.run_bind, run_sized hz, Result.andThen_ok, Sem.run_pure, add_addr, Nat.add_assoc]

theorem index_str (hr : RelH c) (hs : c.h = s.h) {o : Oper} {t : TypeId} {x ix : Operand} {vi : AV} {l : List UInt8} {i : Int} (ho : o.op = .index t x ix)
    (ht : P.underlying t = some .string) (hx : VR c (.str l) (ρ x)) (hi : VR c vi (ρ ix)) (ei : idxOf vi = some i) (hb : 0 ≤ i ∧ i.toNat < l.length) :
    Gives P ρ o c s (.int .u8 (l[i.toNat]'hb.2).toNat) s := by
  obtain ⟨k, hk⟩ := asIntOf_of (P := P) (w := c.w) ei hi
  obtain ⟨b, e, hl⟩ := hx.str_inv
  subst hl
  refine ⟨_, c, ?_, Step.refl hr hs, .int _ _⟩
  have hsz : i.toNat < b.size := by simpa using hb.2
  have hget : b[i.toNat]? = some (b.data.toList[i.toNat]'hb.2) := by
    have e : b[i.toNat]? = some (b[i.toNat]'hsz) := by
      show (if h : i.toNat < b.size then some (b[i.toNat]'h) else none) = _
      rw [dif_pos hsz]
    rw [e]
    rfl
  simp only [execOp, ho, Sem.run_bind, Instr.index, hk, Result.andThen_ok, run_underlying ht, e]
  rw [if_pos hb.1, hget]
  rfl

theorem index_arr (hr : RelH c) (hs : c.h = s.h) {o : Oper} {t el : TypeId} {x ix : Operand} {vi : AV} {n : Nat} {cs : List AV} {i : Int} {v : AV} (ho : o.op = .index t x ix)
    (ht : P.underlying t = some (.array n el)) (hx : VR c (.agg cs) (ρ x)) (hi : VR c vi (ρ ix)) (ei : idxOf vi = some i) (hb : 0 ≤ i ∧ i.toNat < n) (hz : sized P el (P.cellsOf el) = true)
    (hv : partD P el cs (i.toNat * P.cellsOf el) = some v) : Gives P ρ o c s v s := by
  obtain ⟨k, hk⟩ := asIntOf_of (P := P) (w := c.w) ei hi
  generalize hρ : ρ x = y at hx
  have hdiv : i < (n : Int) := by omega
  cases hx with
  | agg _ arr h1 h2 h3 =>
    obtain ⟨w, e1, e2⟩ := partD_sound (w := c.w) hv (.agg cs arr h1 h2 h3)
    refine ⟨w, c, ?_, Step.refl hr hs, e2⟩
    simp only [execOp, ho, Sem.run_bind, Instr.index, hk, Result.andThen_ok, run_underlying ht, hρ]
    rw [if_pos ⟨hb.1, hdiv⟩]
    simp only [Sem.run_bind, run_sized hz, Result.andThen_ok, e1, Sem.run_pure]

end
end Go.Den
