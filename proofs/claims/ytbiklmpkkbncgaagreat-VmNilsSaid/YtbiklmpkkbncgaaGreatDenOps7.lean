/- Slices that are made; assertions; arithmetic that may fail. -/
import Derived.Test.YtbiklmpkkbncgaaGreatDenOps6
set_option linter.unusedSimpArgs false
set_option linter.unusedVariables false
set_option linter.unnecessarySimpa false
namespace Go.Den
open Go

section
variable {P : Program} {c : Cx} {s : Hs} {ρ : Operand → Value}

theorem Cx.stable_new (hr : RelH c) {w' : World} {b off : Nat} (hb : c.w.heap.size ≤ b) : ({ c with w := w' } : Cx).stable b off :=
  ⟨fun h => by have := hr.bd b off h; omega, fun h => by
    obtain ⟨i, o, gh, h1, h2, h3⟩ := h
    have := ownI_lt (hr.obj i o gh h1 h2) h3
    omega⟩

theorem rowIn_length {z : List AV} {i m : Nat} : ∀ {ps : List (Nat × List AV)}, z.length = m → (∀ p ∈ ps, p.2.length = m) → (rowIn z i ps).length = m := by
  intro ps
  induction ps generalizing z with
  | nil => intro h _; exact h
  | cons p ps ih =>
    intro h hp
    obtain ⟨j, vs⟩ := p
    simp only [rowIn]
    cases hji : j == i with
    | true => exact ih (hp (j, vs) (List.mem_cons_self ..)) fun q hq => hp q (List.mem_cons_of_mem _ hq)
    | false => exact ih h fun q hq => hp q (List.mem_cons_of_mem _ hq)

theorem rowIn_mem {Q : AV → Prop} {z : List AV} {i : Nat} : ∀ {ps : List (Nat × List AV)}, (∀ u ∈ z, Q u) → (∀ p ∈ ps, ∀ u ∈ p.2, Q u) → ∀ u ∈ rowIn z i ps, Q u := by
  intro ps
  induction ps generalizing z with
  | nil => intro h _; exact h
  | cons p ps ih =>
    intro h hp
    obtain ⟨j, vs⟩ := p
    simp only [rowIn]
    cases hji : j == i with
    | true => exact ih (hp (j, vs) (List.mem_cons_self ..)) fun q hq => hp q (List.mem_cons_of_mem _ hq)
    | false => exact ih h fun q hq => hp q (List.mem_cons_of_mem _ hq)

/-- the elements, row by row, in one row of cells -/
theorem fill_rows {m len : Nat} : ∀ (ps : List (Nat × List AV)) (Z : List AV) (R : Nat → List AV), Z.length = len * m → (∀ p ∈ ps, p.1 < len ∧ p.2.length = m) →
    (∀ j k, j < len → k < m → Z[j * m + k]? = (R j)[k]?) →
    ∃ zs, fillD Z (ps.map fun p => (p.1 * m, p.2)) = some zs ∧ zs.length = len * m ∧ ∀ j k, j < len → k < m → zs[j * m + k]? = (rowIn (R j) j ps)[k]? := by
  intro ps
  induction ps with
  | nil => intro Z R h1 _ h2; exact ⟨Z, rfl, h1, h2⟩
  | cons p ps ih =>
    intro Z R h1 hp h2
    obtain ⟨i, vs⟩ := p
    obtain ⟨hi, hvs⟩ := hp (i, vs) (List.mem_cons_self ..)
    simp only at hi hvs
    have hbound : i * m + m ≤ len * m := by
      have : (i + 1) * m ≤ len * m := Nat.mul_le_mul_right _ hi
      rw [Nat.add_mul] at this; omega
    simp only [List.map_cons, fillD]
    rw [show decide (i * m + vs.length ≤ Z.length) = true from by simp [hvs, h1]; exact hbound]
    simp only [cond_true]
    obtain ⟨zs, e1, e2, e3⟩ := ih (setRow Z (i * m) vs) (fun j => if i = j then vs else R j) (by rw [setRow_length (by rw [hvs, h1]; exact hbound), h1])
      (fun q hq => hp q (List.mem_cons_of_mem _ hq)) (by
        intro j k hj hk
        simp only [setRow]
        rw [setRow_get (by rw [hvs, h1]; exact hbound)]
        by_cases hij : i = j
        · subst hij
          rw [if_pos (by omega), if_pos rfl]
          congr 1; omega
        · rw [if_neg hij, if_neg, h2 j k hj hk]
          intro ⟨g1, g2⟩
          rcases Nat.lt_or_gt_of_ne hij with h | h
          · have : (i + 1) * m ≤ j * m := Nat.mul_le_mul_right _ h
            rw [Nat.add_mul] at this; omega
          · have : (j + 1) * m ≤ i * m := Nat.mul_le_mul_right _ h
            rw [Nat.add_mul] at this; omega)
    refine ⟨zs, e1, e2, fun j k hj hk => ?_⟩
    rw [e3 j k hj hk]
    simp only [rowIn]
    by_cases hij : i = j
    · subst hij; simp
    · rw [if_neg hij]
      have : (i == j) = false := by simpa using hij
      rw [this]; rfl

theorem buildSlice_run (hr : RelH c) (hs : c.h = s.h) {o : Oper} {t el : TypeId} {len : Nat} {parts : Array (Nat × Operand)} {e : Operand → AV} {z : List AV} {ps : List (Nat × List AV)}
    (ho : o.op = .buildSlice t len parts) (ht : P.underlying t = some (.slice el)) (hz : zeroT P el = some z) (hp : parts.toList.mapM (fun (i, x) => (cellsT P el (e x)).map fun vs => (i, vs)) = some ps)
    (hall : (ps.all (fun p => decide (p.1 < len)) && decide (len * P.cellsOf el ≤ 16777216)) = true) (he : ∀ (k : Nat) (i : Nat) (x : Operand), parts[k]? = some (i, x) → VR c (e x) (ρ x)) : ∃ cells' : Array Value, (execOp ρ o).run P c.w = .ok (.value (.slice (some ⟨c.w.heap.size, 0, none⟩) len len)) (c.w.alloc (.cells cells' el)) ∧ cells'.size = len * P.cellsOf el ∧
      (∀ j, (rowIn z j ps).length = P.cellsOf el) ∧ (∀ j k, j < len → k < P.cellsOf el → ∃ v, cells'[j * P.cellsOf el + k]? = some v) ∧
      ∀ (i : Fin len) (j : Nat) (u : AV), (rowIn z i.1 ps)[j]? = some u → AtomA u ∧ VR c u (cells'.getD (i.1 * P.cellsOf el + j) undef) := by
  obtain ⟨zv, hzv, hzl, hzs, hza, hzr⟩ := zeroT_sound (c := c) (w := c.w) hz
  obtain ⟨hpl, hpe⟩ := forall_mapM hp
  simp only [Bool.and_eq_true, List.all_eq_true, decide_eq_true_eq] at hall
  generalize hm : P.cellsOf el = m at *
  have hinfo : ∃ i, P.info? el = some i := by
    unfold zeroT at hz
    cases hz' : zeroD P 12 el with
    | none => rw [hz'] at hz; cases hz
    | some z' => exact zeroD_info hz'
  obtain ⟨ti, hti⟩ := hinfo
  have hsz : ∀ w, (sizeOf el).run P w = .ok m w := fun w => by simp [sizeOf, run_typeInfo hti, ← hm, Program.cellsOf, hti]
  -- each part: its cells
  have hparts : ∀ (k : Nat) (i : Nat) (vs : List AV), ps[k]? = some (i, vs) → ∃ x, parts[k]? = some (i, x) ∧ cellsT P el (e x) = some vs := by
    intro k i vs hk
    have hlt : k < parts.toList.length := by rw [← hpl]; exact (List.getElem?_eq_some_iff.1 hk).1
    have h1 : parts.toList[k]? = some parts.toList[k] := List.getElem?_eq_getElem hlt
    generalize parts.toList[k] = q at h1
    obtain ⟨i', x⟩ := q
    have h2 := hpe k (i', x) (i, vs) h1 hk
    simp only [Option.map_eq_some_iff, Prod.mk.injEq] at h2
    obtain ⟨vs', h3, rfl, rfl⟩ := h2
    exact ⟨x, by simpa using h1, h3⟩
  have hps : ∀ p ∈ ps, p.1 < len ∧ p.2.length = m := by
    intro p hpm
    obtain ⟨k, hk, rfl⟩ := List.getElem_of_mem hpm
    obtain ⟨x, h1, h2⟩ := hparts k ps[k].1 ps[k].2 (by rw [List.getElem?_eq_getElem hk])
    exact ⟨hall.1 _ hpm, by have := (cellsT_sound h2 (he k _ x h1)).1; rw [hm] at this; exact this⟩
  have hpA : ∀ p ∈ ps, ∀ u ∈ p.2, AtomA u := by
    intro p hpm
    obtain ⟨k, hk, rfl⟩ := List.getElem_of_mem hpm
    obtain ⟨x, h1, h2⟩ := hparts k ps[k].1 ps[k].2 (by rw [List.getElem?_eq_getElem hk])
    exact (cellsT_sound h2 (he k _ x h1)).2.2.1
  -- the zero cells
  let Z : List AV := (List.range (len * m)).map fun i => (z[i % m]?).getD .top
  let Zv : Array Value := if len * m = 0 then #[] else (Array.range (len * m)).map fun i => zv.cells[i % zv.cells.size]!
  have hZl : Z.length = len * m := by simp [Z]
  have hzvm : zv.cells.size = m := by rw [hzs, hzl]
  have hZget : ∀ j k, j < len → k < m → Z[j * m + k]? = z[k]? := by
    intro j k hj hk
    have hlt : j * m + k < len * m := by
      have : (j + 1) * m ≤ len * m := Nat.mul_le_mul_right _ hj
      rw [Nat.add_mul] at this; omega
    have hmod : (j * m + k) % m = k := by rw [Nat.add_comm, Nat.add_mul_mod_self_right]; exact Nat.mod_eq_of_lt hk
    have hk' : k < z.length := by rw [hzl]; exact hk
    simp [Z, hlt, hmod, hk']
  obtain ⟨zs, f1, f2, f3⟩ := fill_rows (m := m) (len := len) ps Z (fun _ => z) hZl hps (fun j k hj hk => hZget j k hj hk)
  have hZvs : Zv.size = Z.length := by
    simp only [Zv, hZl]; split <;> simp_all
  have hdivmod : ∀ q, q < len * m → 0 < m ∧ q / m < len ∧ q % m < m ∧ q / m * m + q % m = q := by
    intro q hq
    have hm0 : 0 < m := by
      rcases Nat.eq_zero_or_pos m with h | h
      · subst h; simp at hq
      · exact h
    exact ⟨hm0, Nat.div_lt_of_lt_mul (by rw [Nat.mul_comm]; exact hq), Nat.mod_lt _ hm0, Nat.div_add_mod' q m⟩
  have hZA : ∀ u ∈ Z, AtomA u := by
    intro u hu
    obtain ⟨q, hq, rfl⟩ := List.getElem_of_mem hu
    rw [hZl] at hq
    obtain ⟨h0, h1, h2, h3⟩ := hdivmod q hq
    have e1 := hZget (q / m) (q % m) h1 h2
    rw [h3] at e1
    have hk' : q % m < z.length := by rw [hzl]; exact h2
    rw [List.getElem?_eq_getElem (by rw [hZl]; exact hq), List.getElem?_eq_getElem hk'] at e1
    rw [Option.some.inj e1]
    exact hza _ (List.getElem_mem _)
  have hZV : ∀ (q : Nat) (u : AV) (y : Value), Z[q]? = some u → Zv[q]? = some y → VR c u y := by
    intro q u y e1 e2
    have hq : q < len * m := by rw [← hZl]; exact (List.getElem?_eq_some_iff.1 e1).1
    obtain ⟨h0, h1, h2, h3⟩ := hdivmod q hq
    have e3 := hZget (q / m) (q % m) h1 h2
    rw [h3, e1] at e3
    have hne : ¬ len * m = 0 := by omega
    have hk : q % m < zv.cells.size := by rw [hzvm]; exact h2
    simp only [Zv, if_neg hne, hzvm] at e2
    simp [hq, getElem!_pos zv.cells (q % m) hk] at e2
    exact hzr (q % m) u y e3.symm (by rw [← e2]; simp [hk])
  obtain ⟨cells', g1, g2, g3, g4, g5⟩ := fill_sound (c := c) (fun i => some (i * m, m)) (ps.map fun p => (p.1 * m, p.2)) (parts.map fun (i, x) => (i, ρ x)).toList Z Zv f1 hZvs hZA hZV
    (by simp [hpl]) (by
      intro k off vs i v h1 h2
      simp only [List.getElem?_map, Option.map_eq_some_iff, Prod.mk.injEq] at h1
      obtain ⟨⟨i1, vs1⟩, h3, rfl, rfl⟩ := h1
      simp only [Array.toList_map, List.getElem?_map, Option.map_eq_some_iff] at h2
      obtain ⟨⟨i', x⟩, h4, h5⟩ := h2
      simp only [Prod.mk.injEq] at h5
      obtain ⟨rfl, rfl⟩ := h5
      obtain ⟨x', h6, h7⟩ := hparts k i1 vs1 h3
      have h8 : parts[k]? = some (i', x) := by simpa using h4
      rw [h8] at h6
      simp only [Option.some.injEq, Prod.mk.injEq] at h6
      obtain ⟨rfl, rfl⟩ := h6
      obtain ⟨q1, q2, q3, q4⟩ := cellsT_sound h7 (he k i' x h8)
      rw [hm] at q1
      exact ⟨by simp [q1], q2, q3, q4⟩)
  have hcells : ∀ j k, j < len → k < m → ∃ v, cells'[j * m + k]? = some v := by
    intro j k hj hk
    have hlt : j * m + k < len * m := by
      have : (j + 1) * m ≤ len * m := Nat.mul_le_mul_right _ hj
      rw [Nat.add_mul] at this; omega
    have : j * m + k < cells'.size := by rw [g2, f2]; exact hlt
    exact ⟨cells'[j * m + k], by simp [this]⟩
  have hrl : ∀ j, (rowIn z j ps).length = m := fun j => rowIn_length (by rw [hzl]) fun p hp => (hps p hp).2
  have hrv : ∀ (i : Fin len) (j : Nat) (u : AV), (rowIn z i.1 ps)[j]? = some u → AtomA u ∧ VR c u (cells'.getD (i.1 * m + j) undef) := by
    intro i j u e1
    have hj : j < m := by rw [← hrl i.1]; exact (List.getElem?_eq_some_iff.1 e1).1
    have e2 := f3 i.1 j i.2 hj
    rw [e1] at e2
    obtain ⟨v, hv⟩ := hcells i.1 j i.2 hj
    refine ⟨g4 u (List.mem_of_getElem? e2), ?_⟩
    simp only [Array.getD_eq_getD_getElem?, hv, Option.getD_some]
    exact g5 _ u v e2 hv
  refine ⟨cells', ?_, by rw [g2, f2], hrl, hcells, hrv⟩
  · simp only [execOp, ho, Sem.run_bind, Instr.buildSlice, run_underlying ht, Result.andThen_ok, hsz]
    rw [if_neg (by omega)]
    by_cases h0 : len * m = 0
    · have e0 : Zv = (Array.range (len * m)).map fun x => (#[] : Array Value)[x % (#[] : Array Value).size]! := by simp [Zv, h0]
      rw [if_pos h0, Sem.run_bind, Sem.run_pure, Result.andThen_ok, ← e0, g1]
      simp only [Sem.run_bind, newRow, run_newObj, Result.andThen_ok, Sem.run_pure]
      rfl
    · have e0 : Zv = (Array.range (len * m)).map fun x => zv.cells[x % zv.cells.size]! := by simp only [Zv, if_neg h0]
      rw [if_neg h0, Sem.run_bind, hzv, Result.andThen_ok, Sem.run_bind, Sem.run_pure, Result.andThen_ok, ← e0, g1]
      simp only [Sem.run_bind, newRow, run_newObj, Result.andThen_ok, Sem.run_pure]
      rfl

theorem buildSlice_sound (hr : RelH c) (hs : c.h = s.h) {o : Oper} {t el : TypeId} {len : Nat} {parts : Array (Nat × Operand)} {e : Operand → AV} {z : List AV} {ps : List (Nat × List AV)}
    (ho : o.op = .buildSlice t len parts) (ht : P.underlying t = some (.slice el)) (hz : zeroT P el = some z) (hp : parts.toList.mapM (fun (i, x) => (cellsT P el (e x)).map fun vs => (i, vs)) = some ps)
    (hall : (ps.all (fun p => decide (p.1 < len)) && decide (len * P.cellsOf el ≤ 16777216)) = true) (he : ∀ (k : Nat) (i : Nat) (x : Operand), parts[k]? = some (i, x) → VR c (e x) (ρ x)) :
    Gives P ρ o c s (.sl (P.cellsOf el) .tight len fun j => (rowIn z j.1 ps).map purify) s := by
  obtain ⟨cells', hrun, hcs, hrl, hcells, hrv⟩ := buildSlice_run (c := c) (ρ := ρ) hr hs ho ht hz hp hall he
  generalize hm : P.cellsOf el = m at *
  obtain ⟨hE, hR⟩ := evol_alloc hr (.cells cells' el)
  refine ⟨.slice (some ⟨c.w.heap.size, 0, none⟩) len len, _, hrun, ⟨hE, hR, hs, rfl, rfl⟩, ?_⟩
  have hb : (c.w.alloc (.cells cells' el)).heap[c.w.heap.size]? = some (.cells cells' el (0, 0)) := by show (c.w.heap.push (.cells cells' el))[c.w.heap.size]? = _; simp
  refine .sl m .tight len _ _ len (fun i j => cells'.getD (i * m + j) undef) (Nat.le_refl _) (fun _ => rfl) (fun i => by simp [hrl]) (fun i u hu => ?_) (fun e => by cases e) (fun ad e _ => by cases e; rfl)
    (fun i j hj ad e => ?_) (fun i j u hu => ?_) (fun i e => by cases e)
  · obtain ⟨u', hu', rfl⟩ := List.mem_map.1 hu
    obtain ⟨k, hk, rfl⟩ := List.getElem_of_mem hu'
    obtain ⟨a1, a2⟩ := hrv i k _ (List.getElem?_eq_getElem hk)
    exact (purify_sound a2 a1).2
  · cases e
    refine ⟨Cx.stable_new hr (Nat.le_refl _), ?_⟩
    obtain ⟨v, hv⟩ := hcells i.1 j i.2 hj
    simp only [World.cell?, hb, Nat.zero_add, Option.isSome_none, Bool.false_eq_true, if_false, Array.getD_eq_getD_getElem?, hv, Option.getD_some]
  · simp only [List.getElem?_map, Option.map_eq_some_iff] at hu
    obtain ⟨u', hu', rfl⟩ := hu
    obtain ⟨a1, a2⟩ := hrv i j _ hu'
    exact (purify_sound a2 a1).1.ext hE.ext


theorem buildSlice_arr (hr : RelH c) (hs : c.h = s.h) {o : Oper} {t el : TypeId} {len : Nat} {parts : Array (Nat × Operand)} {e : Operand → AV} {z : List AV} {ps : List (Nat × List AV)}
    (ho : o.op = .buildSlice t len parts) (ht : P.underlying t = some (.slice el)) (hz : zeroT P el = some z) (hp : parts.toList.mapM (fun (i, x) => (cellsT P el (e x)).map fun vs => (i, vs)) = some ps)
    (hall : (ps.all (fun p => decide (p.1 < len)) && decide (len * P.cellsOf el ≤ 16777216)) = true) (he : ∀ (k : Nat) (i : Nat) (x : Operand), parts[k]? = some (i, x) → VR c (e x) (ρ x)) {nw : Option Nat} {i : Nat} {h' : List Den.Obj} (hnw : NewAt nw s.h (.arr (P.cellsOf el) 0 len fun j => rowIn z j.1 ps) i h') :
    Gives P ρ o c s (.sr i 0 0 len) { s with h := h' } := by
  obtain ⟨cells', hrun, hcs, hrl, hcells, hrv⟩ := buildSlice_run (c := c) (ρ := ρ) hr hs ho ht hz hp hall he
  generalize hm : P.cellsOf el = m at *
  rw [← hs] at hnw
  have hb : (c.w.alloc (.cells cells' el)).heap[c.w.heap.size]? = some (.cells cells' el (0, 0)) := by show (c.w.heap.push (.cells cells' el))[c.w.heap.size]? = _; simp
  obtain ⟨g', hg, hh, hE, hR, _⟩ := evol_new hr (w' := c.w.alloc (.cells cells' el)) rfl rfl rfl (by show c.w.heap.size ≤ (c.w.heap.push _).size; simp) (fun b h => by show (c.w.heap.push _)[b]? = _; exact heap_push_lt h)
    hnw (.blk c.w.heap.size) (fun b off h => by simp only [ownI] at h; omega)
    (fun g' _ _ hE => ⟨cells', el, hb, by rw [hcs]; exact Nat.le_refl _, fun j => hrl j.1, fun j u hu => by
      obtain ⟨k, hk, rfl⟩ := List.getElem_of_mem hu
      exact (hrv j k _ (List.getElem?_eq_getElem hk)).1, fun j k u v e1 e2 => by
      have := (hrv j k u e1).2
      rw [Array.getD_eq_getD_getElem?, e2] at this
      exact this.ext hE.ext⟩)
  refine ⟨.slice (some ⟨c.w.heap.size, 0, none⟩) len len, _, hrun, ⟨hE, hR, rfl, rfl, rfl⟩, ?_⟩
  refine .sr _ _ _ _ _ _ ⟨⟨_, hh, trivial⟩, fun _ _ _ _ _ => Nat.zero_le _⟩ (Nat.le_refl _) ⟨fun e => (by cases e), fun ad e => (by cases e; rfl)⟩ (fun b o e _ => ?_) fun z' s' e => ?_
  · simp [Cx.adr, hg, hh] at e
    obtain ⟨rfl, rfl⟩ := e
    rfl
  · simp only [Cx.siz, hh, hg, if_true, hb, Option.some.injEq, Prod.mk.injEq] at e
    obtain ⟨rfl, rfl⟩ := e
    rw [hcs, Nat.zero_add]
    exact Nat.le_refl _

theorem wrap_small {n : Int} (h0 : 0 ≤ n) (h : n ≤ 70368744177664) : IntKind.i64.wrap n = n := by
  have e : (2 : Int) ^ (64 : Nat) = 18446744073709551616 := by decide
  have e' : (2 : Int) ^ (63 : Nat) = 9223372036854775808 := by decide
  simp only [IntKind.wrap, IntKind.bits, IntKind.signed, e]
  have hm : n % 18446744073709551616 = n := Int.emod_eq_of_lt h0 (by omega)
  rw [hm, e']
  simp
  omega

theorem makeSlice_sound (hr : RelH c) (hs : c.h = s.h) {o : Oper} {t el : TypeId} {l cp : Operand} {v : AV} {z : List AV} {n : Int} (ho : o.op = .makeSlice t l cp) (ht : P.underlying t = some (.slice el))
    (hv : VR c v (ρ l)) (hi : idxOf v = some n) (hsame : ρ cp = ρ l) (hz : zeroT P el = some z) (hn : 0 ≤ n) (hroom : roomy n.toNat (P.bytesOf el) = true)
    {nw : Option Nat} {i : Nat} {h' : List Den.Obj} (hnw : NewAt nw s.h (.arr (P.cellsOf el) 0 n.toNat fun _ => z) i h') : Gives P ρ o c s (.sr i 0 0 n.toNat) { s with h := h' } := by
  obtain ⟨zv, hzv, hzl, hzs, hza, hzr⟩ := zeroT_sound (c := c) (w := c.w) hz
  have hinfo : ∃ i, P.info? el = some i := by
    unfold zeroT at hz
    cases hz' : zeroD P 12 el with
    | none => rw [hz'] at hz; cases hz
    | some z' => exact zeroD_info hz'
  obtain ⟨ti, hti⟩ := hinfo
  generalize hm : P.cellsOf el = m at *
  have hsz : ∀ w, (sizeOf el).run P w = .ok m w := fun w => by simp [sizeOf, run_typeInfo hti, ← hm, Program.cellsOf, hti]
  have hbytes : ti.bytes = P.bytesOf el := by simp [Program.bytesOf, hti]
  obtain ⟨k, hk⟩ := asIntOf_of (P := P) (w := c.w) hi hv
  have hint : (asInt (ρ l)).run P c.w = .ok n c.w := by simp [asInt, hk]
  simp only [roomy, Bool.and_eq_true, decide_eq_true_eq] at hroom
  let cells : Array Value := (Array.range (n.toNat * m)).map fun x => (if n.toNat * m = 0 then (#[] : Array Value) else zv.cells)[x % (if n.toNat * m = 0 then (#[] : Array Value) else zv.cells).size]!
  have hcs : cells.size = n.toNat * m := by simp [cells]
  have hzvm : zv.cells.size = m := by rw [hzs, hzl]
  have hb : (c.w.heap.push (.cells cells el))[c.w.heap.size]? = some (.cells cells el (0, 0)) := by simp
  rw [← hs] at hnw
  obtain ⟨g', hg, hh, hE, hR, _⟩ := evol_new hr (w' := { c.w with heap := c.w.heap.push (.cells cells el) }) rfl rfl rfl (by simp) (fun b h => heap_push_lt h)
    hnw (.blk c.w.heap.size) (fun b off h => by simp only [ownI] at h; omega)
    (fun g' _ _ hE => ⟨cells, el, hb, by rw [hcs]; exact Nat.le_refl _, fun _ => hzl, fun _ => hza, fun i j u v e1 e2 => by
      have hj : j < m := by rw [← hzl]; exact (List.getElem?_eq_some_iff.1 e1).1
      have hlt : i.1 * m + j < n.toNat * m := by
        have : (i.1 + 1) * m ≤ n.toNat * m := Nat.mul_le_mul_right _ i.2
        rw [Nat.add_mul] at this; omega
      have hmod : (i.1 * m + j) % m = j := by rw [Nat.add_comm, Nat.add_mul_mod_self_right]; exact Nat.mod_eq_of_lt hj
      have hne : ¬ n.toNat * m = 0 := by omega
      have hk' : j < zv.cells.size := by rw [hzvm]; exact hj
      simp only [cells, if_neg hne, hzvm] at e2
      simp [hlt, hmod, getElem!_pos zv.cells j hk'] at e2
      exact (hzr j u v e1 (by rw [← e2]; simp [hk'])).ext hE.ext⟩)
  refine ⟨.slice (some ⟨c.w.heap.size, 0, none⟩) n.toNat n.toNat, _, ?_, ⟨hE, hR, rfl, rfl, rfl⟩, ?_⟩
  · have h48 : ¬ (↑ti.bytes * n > (2 : Int) ^ 48) := by
      have h1 : (ti.bytes : Int) * n = ((n.toNat * P.bytesOf el : Nat) : Int) := by rw [hbytes, Int.natCast_mul, Int.mul_comm]; congr 1; omega
      rw [h1]; have : (2 : Int) ^ 48 = 281474976710656 := by decide
      omega
    have hw : IntKind.i64.wrap n = n := wrap_small hn (by omega)
    have hdec : (decide (n < 0) || decide (↑ti.bytes * n > (2 : Int) ^ 48) || decide (n < 0) || decide (n > n)) = false := by
      simp only [Bool.or_eq_false_iff, decide_eq_false_iff_not]
      omega
    simp only [execOp, ho, Sem.run_bind, Instr.makeSlice, run_underlying ht, Result.andThen_ok, hint, hsame, run_typeInfo hti, hw, hdec, Bool.false_eq_true, if_false, Sem.run_pure, run_askRoom, hsz]
    by_cases h0 : n.toNat * m = 0
    · have e0 : cells = (Array.range (n.toNat * m)).map fun x => (#[] : Array Value)[x % (#[] : Array Value).size]! := by simp [cells, h0]
      rw [if_pos h0, Sem.run_bind, Sem.run_pure, Result.andThen_ok, ← e0]
      simp only [Sem.run_bind, newRow, run_newObj, Result.andThen_ok, Sem.run_pure]
    · have e0 : cells = (Array.range (n.toNat * m)).map fun x => zv.cells[x % zv.cells.size]! := by simp only [cells, if_neg h0]
      rw [if_neg h0, Sem.run_bind, hzv, Result.andThen_ok, Sem.run_bind, Sem.run_pure, Result.andThen_ok, ← e0]
      simp only [Sem.run_bind, newRow, run_newObj, Result.andThen_ok, Sem.run_pure]
  · refine .sr _ _ _ _ _ _ ⟨⟨_, hh, trivial⟩, fun _ _ _ _ _ => Nat.zero_le _⟩ (Nat.le_refl _) ⟨fun e => (by cases e), fun ad e => (by cases e; rfl)⟩ (fun b o e _ => ?_) fun z' s' e => ?_
    · simp [Cx.adr, hg, hh] at e
      obtain ⟨rfl, rfl⟩ := e
      rfl
    · simp only [Cx.siz, hh, hg, if_true, hb, Option.some.injEq, Prod.mk.injEq] at e
      obtain ⟨rfl, rfl⟩ := e
      rw [hcs, Nat.zero_add]
      exact Nat.le_refl _

end
end Go.Den
