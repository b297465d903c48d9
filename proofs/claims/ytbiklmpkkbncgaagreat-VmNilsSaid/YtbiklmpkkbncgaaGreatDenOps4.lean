/- Operations that turn the heap of objects, or may fail. -/
import Derived.Test.YtbiklmpkkbncgaaGreatDenOps3
set_option linter.unusedSimpArgs false
set_option linter.unusedVariables false
set_option linter.unnecessarySimpa false
namespace Go.Den
open Go

structure Step (c c' : Cx) (s s' : Hs) : Prop where
  ev : Evol c c'
  rel : RelH c'
  h : c'.h = s'.h
  ds : s'.ds = s.ds
  ps : s'.ps = s.ps

/-- an operation yields a value -/
def Gives (P : Program) (ρ : Operand → Value) (o : Oper) (c : Cx) (s : Hs) (v : AV) (s' : Hs) : Prop :=
  ∃ x c', (execOp ρ o).run P c.w = .ok (.value x) c'.w ∧ Step c c' s s' ∧ VR c' v x

/-- an operation is done, and yields nothing -/
def GivesU (P : Program) (ρ : Operand → Value) (o : Oper) (c : Cx) (s s' : Hs) : Prop :=
  ∃ c', (execOp ρ o).run P c.w = .ok .skip c'.w ∧ Step c c' s s'

section
variable {P : Program} {c : Cx} {s : Hs} {ρ : Operand → Value}

theorem Step.refl (hr : RelH c) (hs : c.h = s.h) : Step c c s s := ⟨Evol.refl c, hr, hs, rfl, rfl⟩

theorem heap_push_lt {w : World} {o : Go.Obj} {b : Nat} (h : b < w.heap.size) : (w.heap.push o)[b]? = w.heap[b]? := by
  rw [Array.getElem?_push, if_neg (by omega)]

/-- a new variable -/
theorem new_var (hr : RelH c) (hs : c.h = s.h) {cs : List AV} {arr : Array Value} (ty : TypeId) {nw : Option Nat} {i : Nat} {h' : List Den.Obj} (hn : NewAt nw s.h (.var cs) i h') (hl : arr.size = cs.length) (ha : ∀ u ∈ cs, AtomA u)
    (hv : ∀ (j : Nat) (u : AV) (y : Value), cs[j]? = some u → arr[j]? = some y → VR c u y) :
    ∃ c', c'.w = { c.w with heap := c.w.heap.push (.cells arr ty) } ∧ Step c c' s { s with h := h' } ∧ VR c' (.ptr i 0 0 0) (.pointer (some ⟨c.w.heap.size, 0, none⟩)) := by
  have hb : (c.w.heap.push (.cells arr ty))[c.w.heap.size]? = some (.cells arr ty (0, 0)) := by simp
  rw [← hs] at hn
  obtain ⟨g', hg, hh, hE, hR, _⟩ := evol_new hr (w' := { c.w with heap := c.w.heap.push (.cells arr ty) }) rfl rfl rfl (by simp) (fun b h => heap_push_lt h) hn
    (.blk c.w.heap.size) (fun b off h => by simp only [ownI] at h; omega)
    (fun g' _ _ hE => ⟨arr, ty, hb, hl, ha, fun j u y e1 e2 => (hv j u y e1 e2).ext hE.ext⟩)
  refine ⟨_, rfl, ⟨hE, hR, rfl, rfl, rfl⟩, ?_⟩
  refine .ptr _ _ _ _ _ ⟨⟨_, hh, trivial⟩, fun _ _ _ _ _ => Nat.zero_le _⟩ trivial fun b o e => ?_
  simp [Cx.adr, hg, hh] at e
  obtain ⟨rfl, rfl⟩ := e
  rfl

theorem alloc_sound (hr : RelH c) (hs : c.h = s.h) {o : Oper} {t : TypeId} {cs : List AV} (ho : o.op = .alloc t) (hz : zeroT P t = some cs) {nw : Option Nat} {i : Nat} {h' : List Den.Obj} (hn : NewAt nw s.h (.var cs) i h') :
    Gives P ρ o c s (.ptr i 0 0 0) { s with h := h' } := by
  obtain ⟨zv, h1, h2, h3, h4, h5⟩ := zeroT_sound (c := c) (w := c.w) hz
  obtain ⟨c', e1, e2, e3⟩ := new_var hr hs t hn h3 h4 h5
  refine ⟨_, c', ?_, e2, e3⟩
  simp only [execOp, ho, Sem.run_bind, Instr.alloc, h1, Result.andThen_ok, newVar, newRow, run_newObj, Sem.run_pure, e1]

theorem box_sound (hr : RelH c) (hs : c.h = s.h) {o : Oper} {t : TypeId} {x : Operand} {cs : List AV} {v : AV} (ho : o.op = .box t x) (hx : VR c v (ρ x)) (hz : cellsT P t v = some cs) {nw : Option Nat} {i : Nat} {h' : List Den.Obj} (hn : NewAt nw s.h (.var cs) i h') :
    Gives P ρ o c s (.ptr i 0 0 0) { s with h := h' } := by
  obtain ⟨h2, h3, h4, h5⟩ := cellsT_sound hz hx
  obtain ⟨c', e1, e2, e3⟩ := new_var hr hs t hn h3 h4 h5
  refine ⟨_, c', ?_, e2, e3⟩
  simp only [execOp, ho, Sem.run_bind, Instr.box, newVar, newRow, run_newObj, Result.andThen_ok, Sem.run_pure, e1]

/-! stores -/
/-- cells of a block set -/
def putCells (arr : Array Value) (off : Nat) (vs : List Value) : Array Value := (arr.toList.take off ++ vs ++ arr.toList.drop (off + vs.length)).toArray

theorem putCells_get {arr : Array Value} {off : Nat} {vs : List Value} (h : off + vs.length ≤ arr.size) (j : Nat) :
    (putCells arr off vs)[j]? = if off ≤ j ∧ j < off + vs.length then vs[j - off]? else arr[j]? := by
  have := setRow_get (cs := arr.toList) (vs := vs) (off := off) (by simpa using h) j
  simpa [putCells] using this

theorem putCells_size {arr : Array Value} {off : Nat} {vs : List Value} (h : off + vs.length ≤ arr.size) : (putCells arr off vs).size = arr.size := by
  simp [putCells]; omega

theorem run_storeCells {ty : TypeId} (b o : Nat) : ∀ (vs : List Value) (i : Nat) (w : World) (arr : Array Value), w.heap[b]? = some (.cells arr ty (0, 0)) → o + i + vs.length ≤ arr.size →
    (∀ v ∈ vs, Atom v) → (storeCells ⟨b, o, none⟩ vs i).run P w = .ok () { w with heap := w.heap.setIfInBounds b (.cells (putCells arr (o + i) vs) ty (0, 0)) } := by
  intro vs
  induction vs with
  | nil =>
    intro i w arr hb _ _
    have hlt := lt_of_heap hb
    have e : putCells arr (o + i) [] = arr := by apply Array.ext'; simp [putCells]
    simp only [storeCells, Sem.run_pure, e]
    congr 1
    have : w.heap.setIfInBounds b (.cells arr ty (0, 0)) = w.heap := by
      apply Array.ext_getElem?
      intro j
      rw [Array.getElem?_setIfInBounds]
      by_cases hj : b = j
      · subst hj; rw [if_pos rfl, if_pos hlt, hb]
      · rw [if_neg hj]
    rw [this]
  | cons v vs ih =>
    intro i w arr hb hl ha
    have hlt := lt_of_heap hb
    simp only [List.length_cons] at hl
    have hcell : w.cell? ⟨b, o + i, none⟩ = some (arr[o + i]'(by omega)) := by
      simp [World.cell?, hb, show o + i < arr.size from by omega]
    have hfro : w.frozen? ⟨b, o + i, none⟩ = false := by
      simp [World.frozen?, hb]
    have hone : v.oneCell' = true := by
      have := ha v (List.mem_cons_self ..)
      cases v <;> first | rfl | exact this.elim
    have hset : (w.setCell ⟨b, o + i, none⟩ v).heap[b]? = some (.cells (arr.setIfInBounds (o + i) v) ty (0, 0)) := by
      simp [World.setCell, Array.getElem?_modify, hb]
    simp only [storeCells, Sem.run_bind, add_addr, run_store P w _ v .plain hone, hcell, hfro, Bool.false_eq_true, if_false, Result.andThen_ok]
    have hput := ih (i + 1) (w.setCell ⟨b, o + i, none⟩ v) (arr.setIfInBounds (o + i) v) hset (by simp; omega) (fun u hu => ha u (List.mem_cons_of_mem _ hu))
    rw [hput]
    have harr : putCells (arr.setIfInBounds (o + i) v) (o + (i + 1)) vs = putCells arr (o + i) (v :: vs) := by
      apply Array.ext_getElem?
      intro j
      rw [putCells_get (by simp; omega), putCells_get (by simp; omega)]
      simp only [List.length_cons, Array.getElem?_setIfInBounds]
      by_cases h1 : o + (i + 1) ≤ j ∧ j < o + (i + 1) + vs.length
      · rw [if_pos h1, if_pos (by omega)]
        have : j - (o + i) = (j - (o + (i + 1))) + 1 := by omega
        rw [this]; simp
      · rw [if_neg h1]
        by_cases h2 : o + i = j
        · subst h2
          rw [if_pos rfl, if_pos (by omega), if_pos (by omega)]
          simp
        · rw [if_neg h2, if_neg (by omega)]
    rw [harr]
    congr 1
    simp only [World.setCell, World.mk.injEq, and_true]
    apply Array.ext_getElem?
    intro j
    simp only [Array.getElem?_setIfInBounds, Array.getElem?_modify, Array.size_modify]
    by_cases hj : b = j
    · subst hj; simp [hlt]
    · simp [hj]

/-- a store, by what the address reads as -/
theorem store_sound (hr : RelH c) (hs : c.h = s.h) {o : Oper} {t : TypeId} {a x : Operand} {va v : AV} {cs : List AV} {h' : List Den.Obj} (ho : o.op = .store t a x)
    (ha : VR c va (ρ a)) (hx : VR c v (ρ x)) (hz : cellsT P t v = some cs) (hst : storeD s.h va cs = some h') : GivesU P ρ o c s { s with h := h' } := by
  obtain ⟨h2, h3, h4, h5⟩ := cellsT_sound hz hx
  have hcat : ∀ y ∈ (ρ x).cells.toList, Atom y := by
    intro y hy
    obtain ⟨j, hj, rfl⟩ := List.getElem_of_mem hy
    have hj' : j < cs.length := by rw [← h3]; simpa using hj
    have := h5 j cs[j] (ρ x).cells.toList[j] (by simp) (by simp)
    exact this.atom (h4 _ (List.getElem_mem _))
  obtain ⟨ti, hti⟩ := cellsT_info hz
  -- the run, at an address within a block of cells
  have run : ∀ {b q : Nat} {arr : Array Value} {ty : TypeId}, ρ a = .pointer (some ⟨b, q, none⟩) → c.w.heap[b]? = some (.cells arr ty (0, 0)) → q + cs.length ≤ arr.size →
      (execOp ρ o).run P c.w = .ok .skip { c.w with heap := c.w.heap.setIfInBounds b (.cells (putCells arr q (ρ x).cells.toList) ty (0, 0)) } := by
    intro b q arr ty e1 e2 e3
    have hr := run_storeCells (P := P) (ty := ty) b q (ρ x).cells.toList 0 c.w arr e2 (by simp; omega) hcat
    have hsz : (sizeOf t).run P c.w = .ok (P.cellsOf t) c.w := by simp [sizeOf, run_typeInfo hti, Program.cellsOf, hti]
    simp only [execOp, ho, Sem.run_bind, Instr.storeAt, e1, Instr.sureAddr, Sem.run_pure, Result.andThen_ok, storeVar, hsz]
    rw [if_neg (by simp [h3, h2]), hr]
    rfl
  cases va with
  | ptr i gen row off =>
    simp only [storeD] at hst
    rw [← hs] at hst
    cases hob : c.h[i]? with
    | none => rw [hob] at hst; cases hst
    | some ob =>
      rw [hob] at hst
      have hgi : i < c.g.length := by rw [hr.len]; exact (List.getElem?_eq_some_iff.1 hob).1
      have hg : c.g[i]? = some c.g[i] := List.getElem?_eq_getElem hgi
      generalize c.g[i] = gh at hg
      have hO := hr.obj i ob gh hob hg
      have hgset : ∀ b, gh = .blk b → c.g.set i (.blk b) = c.g := by
        intro b e
        subst e
        apply List.ext_getElem?
        intro j
        by_cases hj : i = j
        · subst hj; rw [List.getElem?_set_self hgi, hg]
        · rw [List.getElem?_set_ne hj]
      cases ob with
      | var l =>
        simp only at hst
        cases hcond : (gen == 0 && row == 0 && decide (off + cs.length ≤ l.length)) with
        | false => rw [hcond] at hst; cases hst
        | true =>
          rw [hcond] at hst
          simp only [cond_true, Option.some.injEq] at hst
          simp only [Bool.and_eq_true, beq_iff_eq, decide_eq_true_eq] at hcond
          obtain ⟨⟨rfl, rfl⟩, hle⟩ := hcond
          cases gh with
          | blk b =>
            obtain ⟨arr, ty, hb, hsz, hA, hV⟩ := hO
            have hlt := lt_of_heap hb
            generalize hρ : ρ a = y at ha
            cases ha with
            | ptr _ _ _ _ _ _ _ hxa =>
              have e := hxa b off (by simp [Cx.adr, hob, hg])
              subst e
              have hput : ∀ j, (putCells arr off (ρ x).cells.toList)[j]? = if off ≤ j ∧ j < off + cs.length then (ρ x).cells[j - off]? else arr[j]? := by
                intro j
                rw [putCells_get (by simp; omega)]
                simp [h3]
              obtain ⟨hE, hR⟩ := evol_set hr (w' := { c.w with heap := c.w.heap.setIfInBounds b (.cells (putCells arr off (ρ x).cells.toList) ty (0, 0)) }) rfl rfl rfl (by simp)
                hob hg (.var (setRow l off cs)) (.blk b)
                (fun b' _ hn => by
                  have : b ≠ b' := fun e => hn 0 (by simp [ownI, e])
                  simp [this])
                (fun b' off' _ hn => by
                  have : b ≠ b' := fun e => hn (by simp [ownI, e])
                  exact World.cell?_of_block (by simp [this]))
                (fun b' off' h => .inl ⟨⟨0, h⟩, fun h' => h' h⟩)
                (fun z g n f e => by cases e) (fun gen row off' p _ h => by
                  have hlt' : i < c.h.length := (List.getElem?_eq_some_iff.1 hob).1
                  simp only [Cx.adr, List.getElem?_set_self hlt', List.getElem?_set_self hgi] at h
                  simpa only [Cx.adr, hob, hg] using h)
                (fun N a cap z e => by cases e) (fun b e => by cases e) (fun gen p _ h => by
                  have hlt' : i < c.h.length := (List.getElem?_eq_some_iff.1 hob).1
                  simp [Cx.siz, List.getElem?_set_self hlt'] at h)
                (fun hE => ⟨putCells arr off (ρ x).cells.toList, ty, by simp [hlt], by rw [putCells_size (by simp; omega), setRow_length hle, hsz], setRow_mem hA h4, by
                  intro j u v e1 e2
                  simp only [setRow] at e1
                  rw [setRow_get hle] at e1
                  rw [hput] at e2
                  by_cases hj : off ≤ j ∧ j < off + cs.length
                  · rw [if_pos hj] at e1 e2; exact (h5 _ _ _ e1 e2).ext hE.ext
                  · rw [if_neg hj] at e1 e2; exact (hV _ _ _ e1 e2).ext hE.ext⟩)
              refine ⟨_, run hρ hb (by omega), hE, hR, ?_, rfl, rfl⟩
              exact hst
          | none => exact hO.elim
          | tk => exact hO.elim
      | arr z' gen' n f =>
        simp only at hst
        · cases hcond : (gen == gen' && decide (row < n) && decide (off + cs.length ≤ z')) with
          | false => rw [hcond] at hst; cases hst
          | true =>
            rw [hcond] at hst
            simp only [cond_true, Option.some.injEq] at hst
            simp only [Bool.and_eq_true, beq_iff_eq, decide_eq_true_eq] at hcond
            obtain ⟨⟨rfl, hrow⟩, hle⟩ := hcond
            cases gh with
            | blk b =>
              obtain ⟨arr, ty, hb, hsz, hz', hA, hV⟩ := hO
              have hlt := lt_of_heap hb
              generalize hρ : ρ a = y at ha
              cases ha with
              | ptr _ _ _ _ _ _ _ hxa =>
                have e := hxa b (row * z' + off) (by simp [Cx.adr, hob, hg])
                subst e
                have hbound : ∀ r, r < n → r * z' + z' ≤ n * z' := by
                  intro r hr
                  have : (r + 1) * z' ≤ n * z' := Nat.mul_le_mul_right _ hr
                  rw [Nat.add_mul] at this; omega
                have hb0 := hbound row hrow
                have hput : ∀ j, (putCells arr (row * z' + off) (ρ x).cells.toList)[j]? = if row * z' + off ≤ j ∧ j < row * z' + off + cs.length then (ρ x).cells[j - (row * z' + off)]? else arr[j]? := by
                  intro j
                  rw [putCells_get (by simp only [Array.length_toList]; omega)]
                  simp [h3]
                obtain ⟨hE, hR⟩ := evol_set hr (w' := { c.w with heap := c.w.heap.setIfInBounds b (.cells (putCells arr (row * z' + off) (ρ x).cells.toList) ty (0, 0)) }) rfl rfl rfl (by simp)
                  hob hg (.arr z' gen n fun j => if j.1 = row then setRow (f j) off cs else f j) (.blk b)
                  (fun b' _ hn => by
                    have : b ≠ b' := fun e => hn 0 (by simp [ownI, e])
                    simp [this])
                  (fun b' off' _ hn => by
                    have : b ≠ b' := fun e => hn (by simp [ownI, e])
                    exact World.cell?_of_block (by simp [this]))
                  (fun b' off' h => .inl ⟨⟨0, h⟩, fun h' => h' h⟩)
                  (fun z g n f e => by cases e; exact ⟨_, _, _, _, rfl, Nat.le_refl _⟩) (fun gen row off' p _ h => by
                    have hlt' : i < c.h.length := (List.getElem?_eq_some_iff.1 hob).1
                    simp only [Cx.adr, List.getElem?_set_self hlt', List.getElem?_set_self hgi] at h
                    simpa only [Cx.adr, hob, hg] using h)
                  (fun N a cap z e => by cases e) (fun b e => by cases e) (fun gen p _ h => by
                    have hlt' : i < c.h.length := (List.getElem?_eq_some_iff.1 hob).1
                    have hput : (putCells arr (row * z' + off) (ρ x).cells.toList).size = arr.size := putCells_size (by simp only [Array.length_toList]; omega)
                    simp only [Cx.siz, List.getElem?_set_self hlt', List.getElem?_set_self hgi, Array.getElem?_setIfInBounds_self_of_lt hlt, hput] at h
                    simpa only [Cx.siz, hob, hg, hb] using h)
                  (fun hE => ⟨putCells arr (row * z' + off) (ρ x).cells.toList, ty, by simp [hlt], by rw [putCells_size (by simp only [Array.length_toList]; omega)]; exact hsz, (by
                    intro r
                    dsimp only
                    split
                    · rw [setRow_length (by rw [hz']; exact hle), hz']
                    · exact hz' r), (by
                    intro r
                    dsimp only
                    split
                    · exact setRow_mem (hA r) h4
                    · exact hA r), by
                    intro r j u v e1 e2
                    rw [hput] at e2
                    dsimp only at e1
                    by_cases hrr : r.1 = row
                    · rw [if_pos hrr] at e1
                      simp only [setRow] at e1
                      have hjl : j < z' := by
                        have := (List.getElem?_eq_some_iff.1 e1).1
                        have h0 := setRow_length (cs := f r) (vs := cs) (off := off) (by rw [hz']; exact hle)
                        simp only [setRow] at h0
                        rw [h0, hz'] at this
                        exact this
                      rw [setRow_get (by rw [hz']; exact hle)] at e1
                      by_cases hj : off ≤ j ∧ j < off + cs.length
                      · rw [if_pos hj] at e1
                        rw [hrr, if_pos (by omega)] at e2
                        have : row * z' + j - (row * z' + off) = j - off := by omega
                        rw [this] at e2
                        exact (h5 _ _ _ e1 e2).ext hE.ext
                      · rw [if_neg hj] at e1
                        rw [hrr, if_neg (by omega)] at e2
                        exact (hV r j u v e1 (by rw [hrr]; exact e2)).ext hE.ext
                    · rw [if_neg hrr] at e1
                      have hjl : j < z' := by
                        have := (List.getElem?_eq_some_iff.1 e1).1
                        rw [hz'] at this; exact this
                      have hne : ¬ (row * z' + off ≤ r.1 * z' + j ∧ r.1 * z' + j < row * z' + off + cs.length) := by
                        rcases Nat.lt_or_gt_of_ne hrr with h | h
                        · have : (r.1 + 1) * z' ≤ row * z' := Nat.mul_le_mul_right _ h
                          rw [Nat.add_mul] at this; omega
                        · have : (row + 1) * z' ≤ r.1 * z' := Nat.mul_le_mul_right _ h
                          rw [Nat.add_mul] at this; omega
                      rw [if_neg hne] at e2
                      exact (hV _ _ _ _ e1 e2).ext hE.ext⟩)
                refine ⟨_, run hρ hb (by omega), hE, hR, ?_, rfl, rfl⟩
                exact hst
            | none => exact hO.elim
            | tk => exact hO.elim
      | dead => cases hst
      | unborn => cases hst
      | tok => cases hst
      | map => cases hst
      | sit => cases hst
  | _ => simp [storeD] at hst

end
end Go.Den
