/- Operations that leave the world alone: the theorem. -/
import Derived.Test.YtbiklmpkkbncgaaGreatDenOps
set_option linter.unusedSimpArgs false
set_option linter.unusedVariables false
set_option linter.unnecessarySimpa false
namespace Go.Den
open Go

section
variable {P : Program} {c : Cx}

theorem agree1_sound {a : AV} {v : Value} (h : agree1 a v = true) : VR c a v ∧ AtomA a := by
  unfold agree1 at h
  split at h
  · simp only [beq_iff_eq] at h; subst h; exact ⟨.bool _, trivial⟩
  · simp only [Bool.and_eq_true, decide_eq_true_eq, beq_iff_eq] at h; obtain ⟨rfl, rfl⟩ := h; exact ⟨.int _ _, trivial⟩
  · simp only [beq_iff_eq] at h; exact ⟨.str _ _ h.symm, trivial⟩
  · simp only [beq_iff_eq] at h; subst h; exact ⟨.flt _, trivial⟩
  · exact ⟨.nil, trivial⟩
  · exact ⟨.sl _ .tight 0 _ none 0 (fun _ _ => undef) (Nat.le_refl _) (fun _ => rfl) (fun i => i.elim0) (fun i => i.elim0) (fun _ => ⟨rfl, rfl⟩) (fun _ e => by cases e)
      (fun i => i.elim0) (fun i => i.elim0) (fun i e => by cases e), trivial⟩
  · exact ⟨.nilmap, trivial⟩
  · exact ⟨.nilfn, trivial⟩
  · exact ⟨.nilifc, trivial⟩
  · cases h

theorem agreeZ_sound : ∀ {l : List AV} {m : List Value}, agreeZ l m = true → m.length = l.length ∧ (∀ u ∈ l, AtomA u) ∧ ∀ (j : Nat) (u : AV) (y : Value), l[j]? = some u → m[j]? = some y → VR c u y
  | [], [], _ => ⟨rfl, by simp, fun j u y e => by simp at e⟩
  | [], _ :: _, h => by cases h
  | _ :: _, [], h => by cases h
  | a :: l, v :: m, h => by
    simp only [agreeZ, Bool.and_eq_true] at h
    obtain ⟨h1, h2⟩ := h
    obtain ⟨e1, e2, e3⟩ := agreeZ_sound (l := l) (m := m) h2
    obtain ⟨f1, f2⟩ := agree1_sound (c := c) h1
    refine ⟨by simp [e1], by simpa using ⟨f2, e2⟩, fun j u y g1 g2 => ?_⟩
    cases j with
    | zero => simp at g1 g2; subst g1 g2; exact f1
    | succ j => exact e3 j u y (by simpa using g1) (by simpa using g2)

theorem zeroT_sound {t : TypeId} {z : List AV} {w : World} (h : zeroT P t = some z) : ∃ v, (zeroValue t).run P w = .ok v w ∧ z.length = P.cellsOf t ∧ v.cells.size = z.length ∧
    (∀ u ∈ z, AtomA u) ∧ ∀ (j : Nat) (u : AV) (y : Value), z[j]? = some u → v.cells[j]? = some y → VR c u y := by
  unfold zeroT at h
  cases hz : zeroD P 12 t with
  | none => rw [hz] at h; cases h
  | some z' =>
    cases hi : P.info? t with
    | none => rw [hz, hi] at h; cases h
    | some i =>
      cases hv : i.zero with
      | none => rw [hz, hi] at h; simp [hv] at h
      | some v =>
        rw [hz, hi] at h
        simp only [Option.bind_some, hv] at h
        cases ha : (agreeZ z' v.cells.toList && z'.length == P.cellsOf t) with
        | false => rw [ha] at h; cases h
        | true =>
          rw [ha] at h
          simp only [cond_true, Option.some.injEq] at h
          subst h
          simp only [Bool.and_eq_true, beq_iff_eq] at ha
          obtain ⟨e1, e2, e3⟩ := agreeZ_sound (c := c) ha.1
          refine ⟨v, by simp [zeroValue, run_typeInfo hi, hv], ha.2, by simpa using e1, e2, fun j u y g1 g2 => e3 j u y g1 (by simpa using g2)⟩

/-- cells set into cells -/
theorem setRow_length {cs vs : List AV} {off : Nat} (h : off + vs.length ≤ cs.length) : (setRow cs off vs).length = cs.length := by
  simp [setRow]; omega

theorem setRow_get {α : Type} {cs vs : List α} {off : Nat} (h : off + vs.length ≤ cs.length) (j : Nat) :
    (cs.take off ++ vs ++ cs.drop (off + vs.length))[j]? = if off ≤ j ∧ j < off + vs.length then vs[j - off]? else cs[j]? := by
  by_cases h1 : j < off
  · rw [if_neg (by omega), List.append_assoc, List.getElem?_append_left (by simp; omega), List.getElem?_take_of_lt h1]
  · by_cases h2 : j < off + vs.length
    · rw [if_pos (by omega), List.append_assoc, List.getElem?_append_right (by simp; omega), List.getElem?_append_left (by simp; omega)]
      congr 1; simp; omega
    · rw [if_neg (by omega), List.getElem?_append_right (by simp; omega), List.getElem?_drop]
      congr 1; simp; omega

theorem setRow_mem {cs vs : List AV} {off : Nat} {Q : AV → Prop} (h1 : ∀ u ∈ cs, Q u) (h2 : ∀ u ∈ vs, Q u) : ∀ u ∈ setRow cs off vs, Q u := by
  intro u hu
  simp only [setRow, List.mem_append] at hu
  rcases hu with (hu | hu) | hu
  · exact h1 u (List.mem_of_mem_take hu)
  · exact h2 u hu
  · exact h1 u (List.mem_of_mem_drop hu)

theorem foldl_set (vs : List Value) : ∀ (off k : Nat) (cs : Array Value), ∀ j, ((vs.zipIdx k).foldl (fun cs (p : Value × Nat) => cs.setIfInBounds (off + p.2) p.1) cs)[j]? =
    if off + k ≤ j ∧ j < off + k + vs.length ∧ j < cs.size then vs[j - (off + k)]? else cs[j]? := by
  induction vs with
  | nil => intro off k cs j; simp; omega
  | cons v vs ih =>
    intro off k cs j
    simp only [List.zipIdx_cons, List.foldl_cons]
    rw [ih off (k + 1)]
    simp only [Array.size_setIfInBounds, List.length_cons, Array.getElem?_setIfInBounds]
    by_cases h1 : off + k = j
    · subst h1
      rw [if_neg (by omega)]
      by_cases h2 : off + k < cs.size
      · simp [h2]
      · simp [h2]
    · by_cases h2 : off + k + 1 ≤ j ∧ j < off + (k + 1) + vs.length ∧ j < cs.size
      · rw [if_pos (by omega), if_pos (by omega)]
        have : j - (off + k) = (j - (off + (k + 1))) + 1 := by omega
        rw [this]; simp
      · rw [if_neg (by omega)]
        by_cases h3 : off + k ≤ j ∧ j < off + k + (vs.length + 1) ∧ j < cs.size
        · omega
        · rw [if_neg h3]; simp [h1]

theorem foldl_size (off : Nat) : ∀ (l : List (Value × Nat)) (cs : Array Value), (l.foldl (fun cs (p : Value × Nat) => cs.setIfInBounds (off + p.2) p.1) cs).size = cs.size := by
  intro l
  induction l with
  | nil => intro cs; rfl
  | cons x l ih => intro cs; simp only [List.foldl_cons]; rw [ih]; simp

/-- the machine's 'fill' -/
theorem fill_sound (place : Nat → Option (Nat × Nat)) : ∀ (ps : List (Nat × List AV)) (qs : List (Nat × Value)) (z : List AV) (cells : Array Value) {z' : List AV},
    fillD z ps = some z' → cells.size = z.length → (∀ u ∈ z, AtomA u) → (∀ (j : Nat) (u : AV) (y : Value), z[j]? = some u → cells[j]? = some y → VR c u y) →
    ps.length = qs.length →
    (∀ (k : Nat) (off : Nat) (vs : List AV) (i : Nat) (v : Value), ps[k]? = some (off, vs) → qs[k]? = some (i, v) →
      place i = some (off, vs.length) ∧ v.cells.size = vs.length ∧ (∀ u ∈ vs, AtomA u) ∧ ∀ (j : Nat) (u : AV) (y : Value), vs[j]? = some u → v.cells[j]? = some y → VR c u y) →
    ∃ cells', Instr.fill place cells qs = some cells' ∧ cells'.size = z'.length ∧ z'.length = z.length ∧ (∀ u ∈ z', AtomA u) ∧
      ∀ (j : Nat) (u : AV) (y : Value), z'[j]? = some u → cells'[j]? = some y → VR c u y := by
  intro ps
  induction ps with
  | nil =>
    intro qs z cells z' h hs ha hv hl _
    cases qs with
    | nil => simp only [fillD, Option.some.injEq] at h; subst h; exact ⟨cells, rfl, hs, rfl, ha, hv⟩
    | cons _ _ => simp at hl
  | cons p ps ih =>
    intro qs z cells z' h hs ha hv hl hq
    obtain ⟨off, vs⟩ := p
    cases qs with
    | nil => simp at hl
    | cons q qs =>
      obtain ⟨i, v⟩ := q
      simp only [fillD] at h
      cases hc : decide (off + vs.length ≤ z.length) with
      | false => rw [hc] at h; cases h
      | true =>
        rw [hc] at h
        simp only [cond_true] at h
        simp only [decide_eq_true_eq] at hc
        obtain ⟨h1, h2, h3, h4⟩ := hq 0 off vs i v rfl rfl
        have hget : ∀ j, ((v.cells.zipIdx).foldl (fun cs (p : Value × Nat) => cs.setIfInBounds (off + p.2) p.1) cells)[j]? =
            if off ≤ j ∧ j < off + vs.length ∧ j < cells.size then v.cells[j - off]? else cells[j]? := by
          intro j
          have := foldl_set v.cells.toList off 0 cells j
          simp only [Nat.add_zero, Array.length_toList, h2] at this
          rw [← Array.foldl_toList, Array.toList_zipIdx]
          simpa using this
        have hsz : ((v.cells.zipIdx).foldl (fun cs (p : Value × Nat) => cs.setIfInBounds (off + p.2) p.1) cells).size = cells.size := by
          rw [← Array.foldl_toList]
          exact foldl_size off _ _
        obtain ⟨cells', e1, e2, e3, e4, e5⟩ := ih qs (setRow z off vs) ((v.cells.zipIdx).foldl (fun cs (p : Value × Nat) => cs.setIfInBounds (off + p.2) p.1) cells) h
          (by rw [hsz, setRow_length hc, hs]) (setRow_mem ha h3) (by
            intro j u y g1 g2
            simp only [setRow] at g1
            rw [setRow_get hc] at g1
            rw [hget] at g2
            by_cases hj : off ≤ j ∧ j < off + vs.length
            · rw [if_pos hj] at g1
              rw [if_pos ⟨hj.1, hj.2, by omega⟩] at g2
              exact h4 _ _ _ g1 g2
            · rw [if_neg hj] at g1
              rw [if_neg (by omega)] at g2
              exact hv _ _ _ g1 g2) (by simpa using hl) fun k off vs i v g1 g2 => hq (k + 1) off vs i v (by simpa using g1) (by simpa using g2)
        refine ⟨cells', ?_, e2, by rw [e3, setRow_length hc], e4, e5⟩
        simp only [Instr.fill, h1]
        rw [if_neg (by simp [h2, hs]; omega)]
        exact e1

theorem forall_mapM {α β : Type} {f : α → Option β} : ∀ {l : List α} {r : List β}, l.mapM f = some r → r.length = l.length ∧ ∀ (k : Nat) (x : α) (y : β), l[k]? = some x → r[k]? = some y → f x = some y := by
  intro l
  induction l with
  | nil => intro r h; simp at h; subst h; exact ⟨rfl, fun k x y e => by simp at e⟩
  | cons a l ih =>
    intro r h
    rw [List.mapM_cons] at h
    cases ha : f a with
    | none => rw [ha] at h; cases h
    | some b =>
      rw [ha] at h
      cases hm : l.mapM f with
      | none => rw [hm] at h; cases h
      | some r' =>
        rw [hm] at h
        cases h
        obtain ⟨h1, h2⟩ := ih hm
        refine ⟨by simp [h1], fun k x y e1 e2 => ?_⟩
        cases k with
        | zero => simp at e1 e2; subst e1 e2; exact ha
        | succ k => exact h2 k x y (by simpa using e1) (by simpa using e2)

theorem run_mapM_ok {α β : Type} {f : α → Sem β} {g : α → β} {w : World} : ∀ (l : List α), (∀ x ∈ l, (f x).run P w = .ok (g x) w) → (l.mapM f).run P w = .ok (l.map g) w := by
  intro l
  induction l with
  | nil => intro _; simp
  | cons a l ih =>
    intro h
    rw [List.mapM_cons]
    simp only [Sem.run_bind, h a (List.mem_cons_self ..), Result.andThen_ok, ih fun x hx => h x (List.mem_cons_of_mem _ hx), Sem.run_pure, List.map_cons]

theorem zeroD_info {d : Nat} {t : TypeId} {z : List AV} (h : zeroD P d t = some z) : ∃ i, P.info? t = some i := by
  cases d with
  | zero => cases h
  | succ d =>
    unfold zeroD at h
    cases hu : P.underlying t with
    | none => rw [hu] at h; cases h
    | some u => exact info_of_underlying hu

theorem zeroT_fields {t : TypeId} {z : List AV} {fs : Array Field} (h : zeroT P t = some z) (ht : P.underlying t = some (.struct fs)) : ∀ f ∈ fs.toList, ∃ i, P.info? f.type = some i := by
  unfold zeroT at h
  cases hz : zeroD P 12 t with
  | none => rw [hz] at h; cases h
  | some z' =>
    unfold zeroD at hz
    rw [ht] at hz
    simp only at hz
    clear h ht
    generalize fs.toList = l at hz
    induction l generalizing z' with
    | nil => simp
    | cons f l ih =>
      simp only [List.foldr_cons] at hz
      split at hz
      · rename_i a b h1 h2
        intro g hg
        rcases List.mem_cons.1 hg with rfl | hg
        · exact zeroD_info h2
        · exact ih _ h1 g hg
      · cases hz

/-- a struct or an array that is built -/
theorem build_struct {t : TypeId} {fs : Array Field} {parts : Array (Nat × Operand)} {e : Operand → AV} {ρ : Operand → Value} {z : List AV} {ps : List (Nat × List AV)} {zs : List AV} {w : World}
    (ht : P.underlying t = some (.struct fs)) (hz : zeroT P t = some z)
    (hp : parts.toList.mapM (fun (i, x) => match fs[i]? with
          | some f => (cellsT P f.type (e x)).map fun vs => (f.offset, vs)
          | none => none) = some ps) (hf : fillD z ps = some zs)
    (he : ∀ (k : Nat) (i : Nat) (x : Operand), parts[k]? = some (i, x) → VR c (e x) (ρ x)) :
    ∃ v, (Instr.build t (parts.map fun (i, x) => (i, ρ x))).run P w = .ok v w ∧ VR c (.agg zs) v := by
  obtain ⟨zv, hzv, hzl, hzs, hza, hzr⟩ := zeroT_sound (c := c) (w := w) hz
  obtain ⟨hpl, hpe⟩ := forall_mapM hp
  have hplaces : (fs.mapM fun (f : Field) => (do pure (f.offset, ← sizeOf f.type) : Sem (Nat × Nat))).run P w = .ok (fs.map fun f => (f.offset, P.cellsOf f.type)) w := by
    rw [Array.mapM_eq_mapM_toList, Sem.run_map, run_mapM_ok (g := fun f : Field => (f.offset, P.cellsOf f.type)) fs.toList ?_]
    · simp only [Result.andThen_ok]
      congr 1
      apply Array.ext'
      simp
    · intro f hf
      obtain ⟨i, hi⟩ := zeroT_fields hz ht f hf
      simp [sizeOf, run_typeInfo hi, Program.cellsOf, hi]
  obtain ⟨cells', h1, h2, h3, h4, h5⟩ := fill_sound (c := c) ((fs.map fun f => (f.offset, P.cellsOf f.type))[·]?) ps (parts.map fun (i, x) => (i, ρ x)).toList z zv.cells hf hzs hza hzr
    (by simp [hpl]) (by
      intro k off vs i v g1 g2
      simp only [Array.toList_map, List.getElem?_map, Option.map_eq_some_iff] at g2
      obtain ⟨⟨i', x⟩, g3, g4⟩ := g2
      simp only [Prod.mk.injEq] at g4
      obtain ⟨rfl, rfl⟩ := g4
      have g5 := hpe k (i', x) (off, vs) g3 g1
      simp only at g5
      cases hfi : fs[i']? with
      | none => rw [hfi] at g5; cases g5
      | some f =>
        rw [hfi] at g5
        simp only [Option.map_eq_some_iff, Prod.mk.injEq] at g5
        obtain ⟨vs', g6, g7, g8⟩ := g5
        subst g7 g8
        obtain ⟨q1, q2, q3, q4⟩ := cellsT_sound g6 (he k i' x (by simpa using g3))
        exact ⟨by simp [hfi, q1], q2, q3, q4⟩)
  refine ⟨.agg cells', ?_, .agg _ _ h2 h4 h5⟩
  simp only [Instr.build, Sem.run_bind, hzv, Result.andThen_ok, run_underlying ht, hplaces, h1, Sem.run_pure]

theorem build_array {t el : TypeId} {n : Nat} {parts : Array (Nat × Operand)} {e : Operand → AV} {ρ : Operand → Value} {z : List AV} {ps : List (Nat × List AV)} {zs : List AV} {w : World}
    (ht : P.underlying t = some (.array n el)) (hz : zeroT P t = some z)
    (hp : parts.toList.mapM (fun (i, x) => (cellsT P el (e x)).map fun vs => (i * P.cellsOf el, vs)) = some ps) (hf : fillD z ps = some zs)
    (he : ∀ (k : Nat) (i : Nat) (x : Operand), parts[k]? = some (i, x) → VR c (e x) (ρ x)) :
    ∃ v, (Instr.build t (parts.map fun (i, x) => (i, ρ x))).run P w = .ok v w ∧ VR c (.agg zs) v := by
  obtain ⟨zv, hzv, hzl, hzs, hza, hzr⟩ := zeroT_sound (c := c) (w := w) hz
  obtain ⟨hpl, hpe⟩ := forall_mapM hp
  obtain ⟨i, hi⟩ : ∃ i, P.info? el = some i := by
    unfold zeroT at hz
    cases hz' : zeroD P 12 t with
    | none => rw [hz'] at hz; cases hz
    | some z' =>
      unfold zeroD at hz'
      rw [ht] at hz'
      simp only at hz'
      split at hz'
      · rename_i h1; exact zeroD_info h1
      · cases hz'
  have hsz : ∀ w, (sizeOf el).run P w = .ok (P.cellsOf el) w := fun w => by simp [sizeOf, run_typeInfo hi, Program.cellsOf, hi]
  obtain ⟨cells', h1, h2, h3, h4, h5⟩ := fill_sound (c := c) (fun i => some (i * P.cellsOf el, P.cellsOf el)) ps (parts.map fun (i, x) => (i, ρ x)).toList z zv.cells hf hzs hza hzr
    (by simp [hpl]) (by
      intro k off vs i v g1 g2
      simp only [Array.toList_map, List.getElem?_map, Option.map_eq_some_iff] at g2
      obtain ⟨⟨i', x⟩, g3, g4⟩ := g2
      simp only [Prod.mk.injEq] at g4
      obtain ⟨rfl, rfl⟩ := g4
      have g5 := hpe k (i', x) (off, vs) g3 g1
      simp only [Option.map_eq_some_iff, Prod.mk.injEq] at g5
      obtain ⟨vs', g6, g7, g8⟩ := g5
      subst g7 g8
      obtain ⟨q1, q2, q3, q4⟩ := cellsT_sound g6 (he k i' x (by simpa using g3))
      exact ⟨by simp [q1], q2, q3, q4⟩)
  refine ⟨.agg cells', ?_, .agg _ _ h2 h4 h5⟩
  simp only [Instr.build, Sem.run_bind, hzv, Result.andThen_ok, run_underlying ht, hsz, h1, Sem.run_pure]

theorem field_sound {t : TypeId} {i off : Nat} {ft : TypeId} (h : fieldOf P t i = some (off, ft)) : ∃ fs f, P.underlying t = some (.struct fs) ∧ fs[i]? = some f ∧ f.offset = off ∧ f.type = ft ∧ P.cellsOf ft ≠ 0 := by
  unfold fieldOf at h
  cases hu : P.underlying t with
  | none => rw [hu] at h; cases h
  | some d =>
    rw [hu] at h
    cases d with
    | struct fs =>
      simp only at h
      cases hf : fs[i]? with
      | none => rw [hf] at h; cases h
      | some f =>
        rw [hf] at h
        simp only at h
        cases hz : P.cellsOf f.type == 0 with
        | true => rw [hz] at h; cases h
        | false =>
          rw [hz] at h
          simp only [cond_false, Option.some.injEq, Prod.mk.injEq] at h
          obtain ⟨rfl, rfl⟩ := h
          exact ⟨fs, f, rfl, hf, rfl, rfl, by simpa using hz⟩
    | _ => cases h

theorem run_fieldPlace {f : Field} (h : P.cellsOf f.type ≠ 0) (a : Addr) (w : World) : (fieldPlace a f).run P w = .ok (a.add f.offset) w := by
  cases hi : P.info? f.type with
  | none => simp [Program.cellsOf, hi] at h
  | some i =>
    have : (sizeOf f.type).run P w = .ok (P.cellsOf f.type) w := by simp [sizeOf, run_typeInfo hi, Program.cellsOf, hi]
    simp [fieldPlace, this, h]

end
end Go.Den
