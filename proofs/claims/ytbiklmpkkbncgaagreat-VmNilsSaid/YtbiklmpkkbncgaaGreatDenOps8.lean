/- 'append'. -/
import Derived.Test.YtbiklmpkkbncgaaGreatDenOps7
set_option linter.unusedSimpArgs false
set_option linter.unusedVariables false
set_option linter.unnecessarySimpa false
namespace Go.Den
open Go

section
variable {P : Program} {c : Cx} {s : Hs} {ρ : Operand → Value}

/-- the cells of what is appended -/
structure Src (P : Program) (c : Cx) (z m : Nat) (g : Fin m → Row) (x : Value) (vals : List Value) : Prop where
  len : vals.length = m * z
  row : ∀ i, (g i).length = z
  atomA : ∀ i, ∀ u ∈ g i, AtomA u
  val : ∀ (i : Fin m) (j : Nat) (u : AV), (g i)[j]? = some u → ∃ v, vals[i.1 * z + j]? = some v ∧ VR c u v
  atom : ∀ v ∈ vals, Atom v
  lenOf : ∀ w, (Builtin.lenOf x).run P w = .ok m w
  cells : ∀ w : World, (∀ a, w.cell? a = c.w.cell? a) → (Builtin.firstCells z m x).run P w = .ok vals.toArray w

/-- row by row: from a function of two numbers -/
theorem flat_get {z m : Nat} {val : Nat → Nat → Value} {q : Nat} (hq : q < m * z) :
    ((List.range (m * z)).map fun q => val (q / z) (q % z))[q]? = some (val (q / z) (q % z)) := by simp [hq]

theorem flat_at {z m i j : Nat} (hi : i < m) (hj : j < z) : i * z + j < m * z ∧ (i * z + j) / z = i ∧ (i * z + j) % z = j := by
  have : (i + 1) * z ≤ m * z := Nat.mul_le_mul_right _ hi
  rw [Nat.add_mul] at this
  refine ⟨by omega, ?_, ?_⟩
  · rw [Nat.add_comm, Nat.add_mul_div_right _ _ (by omega), Nat.div_eq_of_lt hj, Nat.zero_add]
  · rw [Nat.add_comm, Nat.add_mul_mod_self_right]; exact Nat.mod_eq_of_lt hj

theorem flat_div {z m q : Nat} (hq : q < m * z) : 0 < z ∧ q / z < m ∧ q % z < z ∧ q / z * z + q % z = q := by
  have hz : 0 < z := by
    rcases Nat.eq_zero_or_pos z with h | h
    · subst h; simp at hq
    · exact h
  exact ⟨hz, Nat.div_lt_of_lt_mul (by rw [Nat.mul_comm]; exact hq), Nat.mod_lt _ hz, Nat.div_add_mod' q z⟩

/-- the cells of a slice that is not written -/
theorem src_sl {z m : Nat} {t : Tok} {g : Fin m → Row} {x : Value} (h : VR c (.sl z t m g) x) : ∃ vals, Src P c z m g x vals ∧ ∀ i, ∀ u ∈ g i, PureA u := by
  cases h with
  | sl _ _ _ _ a cap val h1 h2 h3 h4 h5 h6 h7 h8 h9 =>
    have hval : ∀ (i : Fin m) (j : Nat), j < z → ∃ u, (g i)[j]? = some u ∧ VR c u (val i.1 j) ∧ AtomA u := by
      intro i j hj
      have hlt : j < (g i).length := by rw [h3]; exact hj
      exact ⟨(g i)[j], List.getElem?_eq_getElem hlt, h8 i j _ (List.getElem?_eq_getElem hlt), (h4 i _ (List.getElem_mem hlt)).2⟩
    refine ⟨(List.range (m * z)).map fun q => val (q / z) (q % z), ⟨by simp, h3, fun i u hu => (h4 i u hu).2, fun i j u hu => ?_, fun v hv => ?_, fun w => rfl, fun w hw => ?_⟩, fun i u hu => (h4 i u hu).1⟩
    · have hj : j < z := by rw [← h3 i]; exact (List.getElem?_eq_some_iff.1 hu).1
      obtain ⟨e1, e2, e3⟩ := flat_at (z := z) i.2 hj
      exact ⟨_, by rw [flat_get e1, e2, e3], h8 i j u hu⟩
    · obtain ⟨q, hq, rfl⟩ := List.mem_map.1 hv
      obtain ⟨_, e1, e2, _⟩ := flat_div (z := z) (List.mem_range.1 hq)
      obtain ⟨u, _, hV, hA⟩ := hval ⟨q / z, e1⟩ (q % z) e2
      exact hV.atom hA
    · cases a with
      | none =>
        have := (h5 rfl).1
        subst this
        simp [Builtin.firstCells]
      | some ad =>
        by_cases hmz : m * z = 0
        · simp [Builtin.firstCells, hmz, loadCells, loadCellsFrom]
        have hm0 : 0 < m := Nat.pos_of_ne_zero fun e => hmz (by simp [e])
        have hsp := h6 ad rfl (by omega)
        obtain ⟨b, o, sp⟩ := ad
        simp only at hsp
        subst hsp
        simp only [Builtin.firstCells]
        rw [run_loadCells (val := fun q => val (q / z) (q % z)) fun q hq => ?_]
        obtain ⟨_, e1, e2, e3⟩ := flat_div hq
        rw [hw]
        have := (h7 ⟨q / z, e1⟩ (q % z) e2 _ rfl).2
        simp only at this
        rw [← this]
        congr 2
        omega

theorem src_sound (hr : RelH c) {raw : Bool} {el : TypeId} {v : AV} {m : Nat} {g : Fin m → Row} {x : Value} (h : rowsOf P raw el c.h v = some ⟨m, g⟩) (hv : VR c v x) (hel : sized P el (P.cellsOf el) = true) :
    ∃ vals, Src P c (P.cellsOf el) m g x vals ∧ (raw = false → ∀ i, ∀ u ∈ g i, PureA u) := by
  have szeq : ∀ {z}, sized P el z = true → z = P.cellsOf el := by
    intro z hz
    unfold sized at hz hel
    cases hi : P.info? el with
    | none => rw [hi] at hz; cases hz
    | some i => rw [hi] at hz hel; simp only [beq_iff_eq] at hz hel; omega
  cases v with
  | sl z t n f =>
    simp only [rowsOf] at h
    cases hz : sized P el z with
    | false => rw [hz] at h; cases h
    | true =>
      rw [hz] at h
      cases h
      rw [← szeq hz]
      obtain ⟨vals, h1, h2⟩ := src_sl (P := P) hv
      exact ⟨vals, h1, fun _ => h2⟩
  | nils =>
    simp only [rowsOf, Option.some.injEq, Rows.mk.injEq] at h
    obtain ⟨rfl, h⟩ := h
    have := eq_of_heq h
    subst this
    cases hv
    exact ⟨[], ⟨by simp, fun i => i.elim0, fun i => i.elim0, fun i => i.elim0, by simp, fun w => rfl, fun w _ => rfl⟩, fun _ i => i.elim0⟩
  | sr i gen off len =>
    simp only [rowsOf] at h
    split at h
    · rename_i z gen' n f hob
      split at h
      · rename_i hle
        cases hz : (gen == gen' && sized P el z) with
        | false => rw [hz] at h; cases h
        | true =>
          rw [hz] at h
          cases h
          simp only [Bool.and_eq_true, beq_iff_eq] at hz
          obtain ⟨rfl, hz⟩ := hz
          rw [← szeq hz]
          have hgi : i < c.g.length := by rw [hr.len]; exact (List.getElem?_eq_some_iff.1 hob).1
          have hg : c.g[i]? = some c.g[i] := List.getElem?_eq_getElem hgi
          generalize c.g[i] = gh at hg
          have hO := hr.obj i _ gh hob hg
          cases gh with
          | blk b =>
            obtain ⟨arr, ty, hb, hsz, hz', hA, hV⟩ := hO
            cases hv with
            | sr _ _ _ _ a cap hlt hcap _ ha _ =>
              have harr : ∀ (i : Fin n) (j : Nat), j < z → ∃ y, arr[i.1 * z + j]? = some y := by
                intro i j hj
                obtain ⟨e1, _, _⟩ := flat_at (z := z) i.2 hj
                exact ⟨arr[i.1 * z + j]'(by omega), by simp [show i.1 * z + j < arr.size from by omega]⟩
              have hval : ∀ (r : Fin n) (j : Nat), j < z → ∃ u y, (f r)[j]? = some u ∧ arr[r.1 * z + j]? = some y ∧ VR c u y ∧ AtomA u := by
                intro r j hj
                have hl : j < (f r).length := by rw [hz']; exact hj
                obtain ⟨y, hy⟩ := harr r j hj
                exact ⟨(f r)[j], y, List.getElem?_eq_getElem hl, hy, hV r j _ y (List.getElem?_eq_getElem hl) hy, hA r _ (List.getElem_mem hl)⟩
              have hpure : ∀ (r : Fin m) (u : AV), u ∈ (f ⟨off + r.1, by omega⟩).map purify → PureA u ∧ AtomA u := by
                intro r u hu
                obtain ⟨u', hu', rfl⟩ := List.mem_map.1 hu
                obtain ⟨k, hk, rfl⟩ := List.getElem_of_mem hu'
                obtain ⟨u, y, e1, _, e3, e4⟩ := hval ⟨off + r.1, by omega⟩ k (by rw [hz'] at hk; exact hk)
                rw [List.getElem?_eq_getElem hk] at e1
                cases e1
                exact (purify_sound e3 e4).2
              refine ⟨(List.range (m * z)).map fun q => arr.getD (off * z + q) undef, ⟨by simp, fun j => ?_, fun r u hu => ?_, fun r j u hu => ?_, fun v hv => ?_, fun w => rfl, fun w hw => ?_⟩, fun hraw r u hu => ?_⟩
              · cases raw <;> simp [hz']
              · cases raw with
                | true => exact hA _ u hu
                | false => exact (hpure r u hu).2
              · have hu2 : ∃ u', (f ⟨off + r.1, by omega⟩)[j]? = some u' ∧ ((raw = true ∧ u = u') ∨ u = purify u') := by
                  cases raw with
                  | true => exact ⟨u, hu, .inl ⟨rfl, rfl⟩⟩
                  | false =>
                    simp only [cond_false, List.getElem?_map, Option.map_eq_some_iff] at hu
                    obtain ⟨u', hu', rfl⟩ := hu
                    exact ⟨u', hu', .inr rfl⟩
                obtain ⟨u', hu', hcase⟩ := hu2
                have hj : j < z := by rw [← hz' ⟨off + r.1, by omega⟩]; exact (List.getElem?_eq_some_iff.1 hu').1
                obtain ⟨u'', y, e1, e2, e3, e4⟩ := hval ⟨off + r.1, by omega⟩ j hj
                rw [hu'] at e1
                cases e1
                obtain ⟨f1, _, _⟩ := flat_at (z := z) r.2 hj
                have : off * z + (r.1 * z + j) = (off + r.1) * z + j := by rw [Nat.add_mul]; omega
                refine ⟨y, by simp [f1, this, Array.getD_eq_getD_getElem?, e2], ?_⟩
                rcases hcase with ⟨_, rfl⟩ | rfl
                · exact e3
                · exact (purify_sound e3 e4).1
              · obtain ⟨q, hq, rfl⟩ := List.mem_map.1 hv
                obtain ⟨_, e1, e2, e3⟩ := flat_div (List.mem_range.1 hq)
                obtain ⟨u, y, _, f2, f3, f4⟩ := hval ⟨off + q / z, by omega⟩ (q % z) e2
                have : off * z + q = (off + q / z) * z + q % z := by rw [Nat.add_mul]; omega
                rw [this, Array.getD_eq_getD_getElem?, f2]
                exact f3.atom f4
              · rcases Nat.eq_zero_or_pos m with h0 | h0
                · subst h0
                  have hrun : ∀ (a : Option Addr) (cap : Nat), (Builtin.firstCells z 0 (.slice a 0 cap)).run P w = .ok #[] w := by
                    intro a cap
                    cases a with
                    | none => rfl
                    | some ad => simp [Builtin.firstCells, loadCells, loadCellsFrom]
                  rw [hrun]
                  simp
                · have e := ha b (off * z + 0) (by simp [Cx.adr, hob, hg]) (by omega)
                  subst e
                  simp only [Builtin.firstCells]
                  rw [run_loadCells (val := fun q => arr.getD (off * z + q) undef) fun q hq => ?_]
                  obtain ⟨_, e1, e2, e3⟩ := flat_div hq
                  obtain ⟨u, y, _, f2, _, _⟩ := hval ⟨off + q / z, by omega⟩ (q % z) e2
                  have e4 : off * z + q = (off + q / z) * z + q % z := by rw [Nat.add_mul]; omega
                  rw [hw]
                  simp only [World.cell?, hb, Nat.add_zero, Option.isSome_none, Bool.false_eq_true, if_false, e4, f2, Array.getD_eq_getD_getElem?, Option.getD_some]
              · subst hraw
                exact (hpure r u hu).1
          | none => exact hO.elim
          | tk => exact hO.elim
      · cases h
    · cases h
  | _ => simp [rowsOf] at h

end
end Go.Den
