/- Maps: look-ups, and entries that are laid. -/
import Derived.Test.YtbiklmpkkbncgaaGreatDenOps10
import Derived.MapKept
set_option linter.unusedSimpArgs false
set_option linter.unusedVariables false
set_option linter.unnecessarySimpa false
namespace Go.Den
open Go

theorem firstB_some : ∀ {n : Nat} {p : Fin n → Bool} {i : Fin n}, firstB n p = some i → p i = true ∧ ∀ j : Fin n, j.1 < i.1 → p j = false
  | 0, _, i, _ => i.elim0
  | n + 1, p, i, h => by
    unfold firstB at h
    cases hp : p ⟨0, Nat.succ_pos n⟩ with
    | true =>
      rw [hp] at h
      cases h
      exact ⟨hp, fun j hj => by simp at hj⟩
    | false =>
      rw [hp] at h
      simp only [cond_false, Option.map_eq_some_iff] at h
      · obtain ⟨q, e, rfl⟩ := h
        obtain ⟨h1, h2⟩ := firstB_some e
        refine ⟨h1, fun j hj => ?_⟩
        obtain ⟨j, hlt⟩ := j
        cases j with
        | zero => exact hp
        | succ j => exact h2 ⟨j, by omega⟩ (by simpa using hj)

theorem firstB_none : ∀ {n : Nat} {p : Fin n → Bool}, firstB n p = none → ∀ j, p j = false
  | 0, _, _, j => j.elim0
  | n + 1, p, h, ⟨j, hlt⟩ => by
    unfold firstB at h
    cases hp : p ⟨0, Nat.succ_pos n⟩ with
    | true => rw [hp] at h; cases h
    | false =>
      rw [hp] at h
      simp only [cond_false, Option.map_eq_none_iff] at h
      cases j with
      | zero => exact hp
      | succ j => exact firstB_none h ⟨j, by omega⟩

theorem firstB_succ (n : Nat) (p : Fin (n + 1) → Bool) : firstB (n + 1) p = cond (p ⟨0, Nat.succ_pos n⟩) (some ⟨0, Nat.succ_pos n⟩) ((firstB n fun i => p i.succ).map Fin.succ) := rfl

/-- what a search among entries answers -/
def hitOf (es : List MapEntry) (i : Nat) : Option (Fin es.length) → Option (Nat × Value)
  | some j => some (i + j.1, (es.get j).val)
  | none => none

section
variable {P : Program} {c : Cx} {w : World}

theorem hit_cons {e : MapEntry} {es : List MapEntry} {i : Nat} {p : Fin (e :: es).length → Bool} :
    hitOf (e :: es) i (firstB (e :: es).length p) = if p ⟨0, Nat.succ_pos _⟩ = true then some (i, e.val) else hitOf es (i + 1) (firstB es.length fun j => p j.succ) := by
  have hfb : firstB (e :: es).length p = cond (p ⟨0, Nat.succ_pos _⟩) (some ⟨0, Nat.succ_pos _⟩) ((firstB es.length fun i => p i.succ).map Fin.succ) := firstB_succ es.length p
  rw [hfb]
  cases hp : p ⟨0, Nat.succ_pos _⟩ with
  | true => rfl
  | false =>
    simp only [cond_false, Bool.false_eq_true, if_false]
    cases hf : firstB es.length (fun j => p j.succ) with
    | none => rfl
    | some j =>
      show some (i + (j.1 + 1), _) = some (i + 1 + j.1, _)
      rw [show i + (j.1 + 1) = i + 1 + j.1 by omega]
      rfl

theorem run_asking {kt : TypeId} {x : Value} : ∀ (es : List MapEntry) (i : Nat) (p : Fin es.length → Bool), (∀ j : Fin es.length, (Op.equal kt x (es.get j).key).run P w = .ok (p j) w) →
    (Instr.findAsking kt x es i).run P w = .ok (hitOf es i (firstB es.length p)) w
  | [], i, p, _ => rfl
  | e :: es, i, p, h => by
    rw [hit_cons]
    unfold Instr.findAsking
    have h0 := h ⟨0, Nat.succ_pos _⟩
    simp only [List.get_eq_getElem, List.getElem_cons_zero] at h0
    have ih := run_asking es (i + 1) (fun j => p j.succ) fun j => h j.succ
    simp only [Sem.run_bind, h0, Result.andThen_ok, Sem.run_ite, Sem.run_pure]
    split
    · rfl
    · exact ih

theorem find_now {d : TypeDesc} {x : Value} : ∀ (es : List MapEntry) (i : Nat) (p : Fin es.length → Bool) {r : Option (Nat × Value)}, (∀ j : Fin es.length, ∀ b, Instr.sameNow d x (es.get j).key = some b → b = p j) →
    Instr.findNow d x es i = some r → r = hitOf es i (firstB es.length p)
  | [], i, p, r, _, h => by simp [Instr.findNow] at h; rw [← h]; rfl
  | e :: es, i, p, r, hs, h => by
    rw [hit_cons]
    unfold Instr.findNow at h
    have h0 := hs ⟨0, Nat.succ_pos _⟩
    simp only [List.get_eq_getElem, List.getElem_cons_zero] at h0
    split at h
    · rename_i hb
      rw [← h0 _ hb, if_pos rfl]
      exact (Option.some.inj h).symm
    · rename_i hb
      rw [← h0 _ hb, if_neg (by simp)]
      exact find_now es (i + 1) (fun j => p j.succ) (fun j b hb => hs j.succ b hb) h
    · cases h

theorem run_find {kt : TypeId} {d : TypeDesc} {x : Value} (es : List MapEntry) (p : Fin es.length → Bool) (hd : P.underlying kt = some d) (h1 : ∀ j : Fin es.length, (Op.equal kt x (es.get j).key).run P w = .ok (p j) w)
    (h2 : ∀ j : Fin es.length, ∀ b, Instr.sameNow d x (es.get j).key = some b → b = p j) : (Instr.findKey kt x es).run P w = .ok (hitOf es 0 (firstB es.length p)) w := by
  unfold Instr.findKey
  simp only [Sem.run_bind, run_underlying hd, Result.andThen_ok]
  split
  · rename_i r hr
    rw [find_now es 0 p h2 hr]; rfl
  · exact run_asking es 0 p h1

/-! keys -/
def atomTy (P : Program) (t : TypeId) : Bool :=
  match P.underlying t with
  | some (.int _) | some .string | some .bool => true
  | _ => false

theorem atom_eq {t : TypeId} (h : atomTy P t = true) {u v : AV} {d e : Nat} (hu : kdsOK (kindsOf P (d + 1) t) [u] = true) (hv : kdsOK (kindsOf P (d + 1) t) [v] = true) :
    eqT P (e + 1) t u v = some (atomEq u v) := by
  unfold atomTy at h
  unfold kindsOf at hu hv
  split at h
  · rename_i k hk
    simp only [hk, kdsOK, Bool.and_true] at hu hv
    cases u <;> simp only [kdOK, Bool.false_eq_true, decide_eq_true_eq] at hu
    cases v <;> simp only [kdOK, Bool.false_eq_true, decide_eq_true_eq] at hv
    subst hu
    subst hv
    simp [eqT, hk, atomEq]
  · rename_i hk
    simp only [hk, kdsOK, Bool.and_true] at hu hv
    cases u <;> simp only [kdOK, Bool.false_eq_true] at hu
    cases v <;> simp only [kdOK, Bool.false_eq_true] at hv
    simp [eqT, hk, atomEq]
  · rename_i hk
    simp only [hk, kdsOK, Bool.and_true] at hu hv
    cases u <;> simp only [kdOK, Bool.false_eq_true] at hu
    cases v <;> simp only [kdOK, Bool.false_eq_true] at hv
    simp [eqT, hk, atomEq]
  · cases h

theorem kinds_one {t : TypeId} (h : atomTy P t = true) (d : Nat) : ∃ k, kindsOf P (d + 1) t = [k] := by
  unfold atomTy at h
  unfold kindsOf
  split at h
  · rename_i k hk; exact ⟨.int k, by simp only [hk]⟩
  · rename_i hk; exact ⟨.str, by simp only [hk]⟩
  · rename_i hk; exact ⟨.bool, by simp only [hk]⟩
  · cases h

theorem part_one {t : TypeId} (h : atomTy P t = true) (hc : P.cellsOf t = 1) {cs : List AV} {i : Nat} {u : AV} {rest : List AV} (hd : cs.drop i = u :: rest) : partD P t cs i = some u := by
  have hlt : i + 1 ≤ cs.length := by
    have : (cs.drop i).length = rest.length + 1 := by rw [hd]; rfl
    simp at this
    omega
  unfold partD
  rw [hc, decide_eq_true hlt, hd]
  unfold mkVal
  unfold atomTy at h
  split at h <;> rename_i hk <;> first | (simp only [hk]; rfl) | cases h

structure GoodF (P : Program) (f : Field) : Prop where
  name : f.name ≠ "_"
  atom : atomTy P f.type = true
  one : P.cellsOf f.type = 1

theorem fields_eq {xs ys : List AV} {d e : Nat} : ∀ (l : List Field) (i : Nat), l.map (·.offset) = List.range' i l.length → (∀ f ∈ l, GoodF P f) →
    kdsOK ((l.map fun f => kindsOf P (d + 1) f.type).flatten) (xs.drop i) = true → kdsOK ((l.map fun f => kindsOf P (d + 1) f.type).flatten) (ys.drop i) = true →
    eqFs P (eqT P (e + 1)) xs ys l = some (rowEq (xs.drop i) (ys.drop i))
  | [], i, _, _, hx, hy => by
    simp only [List.map_nil, List.flatten_nil] at hx hy
    cases h1 : xs.drop i with
    | nil => cases h2 : ys.drop i with
      | nil => rfl
      | cons => rw [h2] at hy; cases hy
    | cons => rw [h1] at hx; cases hx
  | f :: l, i, ho, hg, hx, hy => by
    have hf := hg f (List.mem_cons_self ..)
    obtain ⟨k, hk⟩ := kinds_one hf.atom d
    simp only [List.map_cons, List.flatten_cons, hk, List.singleton_append] at hx hy
    simp only [List.map_cons, List.length_cons, List.range'_succ, List.cons.injEq] at ho
    cases h1 : xs.drop i with
    | nil => rw [h1] at hx; cases hx
    | cons u us =>
      cases h2 : ys.drop i with
      | nil => rw [h2] at hy; cases hy
      | cons v vs =>
        rw [h1] at hx
        rw [h2] at hy
        simp only [kdsOK, Bool.and_eq_true] at hx hy
        have d1 : xs.drop (i + 1) = us := by rw [← List.drop_drop, h1]; rfl
        have d2 : ys.drop (i + 1) = vs := by rw [← List.drop_drop, h2]; rfl
        have ih := fields_eq (e := e) l (i + 1) ho.2 (fun f hf => hg f (List.mem_cons_of_mem _ hf)) (by rw [d1]; exact hx.2) (by rw [d2]; exact hy.2)
        have ha := atom_eq (d := d) (e := e) hf.atom (u := u) (v := v) (by rw [hk]; simp [kdsOK, hx.1]) (by rw [hk]; simp [kdsOK, hy.1])
        unfold eqFs
        rw [if_pos hf.name, ho.1, part_one hf.atom hf.one h1, part_one hf.atom hf.one h2]
        simp only [ha, ih, rowEq, d1, d2]

theorem key_ty {t : TypeId} (h : keyTy P t = true) : (atomTy P t = true ∧ isAggD P t = false) ∨
    ∃ fs, P.underlying t = some (.struct fs) ∧ isAggD P t = true ∧ P.stoodInHeld t = false ∧ fs.toList.map (·.offset) = List.range' 0 fs.toList.length ∧ ∀ f ∈ fs.toList, GoodF P f := by
  unfold keyTy at h
  split at h
  · rename_i k hk; exact .inl ⟨by simp [atomTy, hk], by simp [isAggD, hk, aggDesc]⟩
  · rename_i hk; exact .inl ⟨by simp [atomTy, hk], by simp [isAggD, hk, aggDesc]⟩
  · rename_i hk; exact .inl ⟨by simp [atomTy, hk], by simp [isAggD, hk, aggDesc]⟩
  · rename_i fs hk
    simp only [Bool.and_eq_true, Bool.not_eq_true', List.all_eq_true, decide_eq_true_eq, beq_iff_eq] at h
    refine .inr ⟨fs, hk, by simp [isAggD, hk, aggDesc], h.1.1, ?_, fun f hf => ?_⟩
    · rw [h.1.2, List.range_eq_range']; simp
    · obtain ⟨⟨h1, h2⟩, h3⟩ := h.2 f hf
      exact ⟨h1, by unfold atomTy; exact h2, h3⟩
  · cases h

theorem keyKd_atom {ks : List Kd} {u : AV} (h : keyKd false ks u = true) : kdsOK ks [u] = true := by
  cases u <;> simp only [keyKd, Bool.and_eq_true, Bool.false_eq_true, false_and] at h
  all_goals exact h.2
theorem keyKd_agg {ks : List Kd} {u : AV} (h : keyKd true ks u = true) : ∃ cs, u = .agg cs ∧ kdsOK ks cs = true := by
  cases u <;> simp only [keyKd, Bool.and_eq_true, Bool.not_true, Bool.false_eq_true, false_and] at h
  exact ⟨_, rfl, h.2⟩
theorem kdsOK_atom {ks : List Kd} {u v : AV} (hu : kdsOK ks [u] = true) (hv : kdsOK ks [v] = true) : keyEq u v = atomEq u v := by
  cases u <;> cases v <;> first | rfl | (cases ks <;> simp [kdsOK, kdOK] at hu)

theorem key_eq {t : TypeId} (h : keyTy P t = true) {u v : AV} (hu : keyKd (isAggD P t) (kindsOf P 12 t) u = true) (hv : keyKd (isAggD P t) (kindsOf P 12 t) v = true) :
    eqT P 12 t u v = some (keyEq u v) := by
  rcases key_ty h with ⟨ha, hg⟩ | ⟨fs, hk, hg, hst, ho, hf⟩
  · rw [hg] at hu hv
    have hu := keyKd_atom hu
    have hv := keyKd_atom hv
    rw [kdsOK_atom hu hv]
    exact atom_eq (d := 11) (e := 11) ha hu hv
  · rw [hg] at hu hv
    obtain ⟨xs, rfl, hu⟩ := keyKd_agg hu
    obtain ⟨ys, rfl, hv⟩ := keyKd_agg hv
    have hkk : kindsOf P 12 t = ((fs.toList.map fun f => kindsOf P 11 f.type).flatten) := by rw [kindsOf]; simp only [hk]
    rw [hkk] at hu hv
    have := fields_eq (P := P) (xs := xs) (ys := ys) (d := 10) (e := 10) fs.toList 0 ho hf hu hv
    unfold eqT
    simp only [hk, hst, cond_false]
    exact this

theorem run_equal_key {t : TypeId} (h : keyTy P t = true) {u v : AV} {x y : Value} (hu : keyKd (isAggD P t) (kindsOf P 12 t) u = true) (hv : keyKd (isAggD P t) (kindsOf P 12 t) v = true)
    (hx : VR c u x) (hy : VR c v y) : (Op.equal t x y).run P w = .ok (keyEq u v) w :=
  eqT_sound 12 Op.maxDepth (by unfold Op.maxDepth; omega) (key_eq h hu hv) hx hy

theorem str_beq {s t : ByteArray} : (s == t) = (s.data.toList == t.data.toList) := by
  rw [beq_toListBytes, toList_data, toList_data]

theorem sameNow_key {d : TypeDesc} {u v : AV} {x y : Value} {b : Bool} (hx : VR c u x) (hy : VR c v y) {a : Bool} {ks : List Kd} (hu : keyKd a ks u = true) (hv : keyKd a ks v = true) (h : Instr.sameNow d x y = some b) : b = keyEq u v := by
  have key : ∀ {u v : AV}, kdsOK ks [u] = true → kdsOK ks [v] = true → VR c u x → VR c v y → b = keyEq u v := by
    intro u v hu hv hx hy
    cases ks with
    | nil => simp [kdsOK] at hu
    | cons k ks =>
      simp only [kdsOK, Bool.and_eq_true] at hu hv
      have hu := hu.1
      have hv := hv.1
      cases u <;> cases k <;> simp only [kdOK, Bool.false_eq_true, decide_eq_true_eq] at hu
      · cases v <;> simp only [kdOK, Bool.false_eq_true, decide_eq_true_eq] at hv
        rw [hx.int_inv, hy.int_inv] at h
        subst hu
        cases d <;> simp only [Instr.sameNow, reduceCtorEq] at h
        rw [if_pos hv] at h
        exact (Option.some.inj h).symm
      · cases v <;> simp only [kdOK, Bool.false_eq_true] at hv
        rw [hx.bool_inv, hy.bool_inv] at h
        cases d <;> simp only [Instr.sameNow, reduceCtorEq] at h
        exact (Option.some.inj h).symm
      · cases v <;> simp only [kdOK, Bool.false_eq_true] at hv
        obtain ⟨s, rfl, hs⟩ := hx.str_inv
        obtain ⟨s', rfl, hs'⟩ := hy.str_inv
        cases d <;> simp only [Instr.sameNow, reduceCtorEq] at h
        rw [← Option.some.inj h, str_beq, hs, hs']
        rfl
  cases a with
  | false => exact key (keyKd_atom hu) (keyKd_atom hv) hx hy
  | true =>
    obtain ⟨xs, rfl, _⟩ := keyKd_agg hu
    cases hx
    cases d <;> simp [Instr.sameNow] at h

theorem run_part_check {t : TypeId} {cs : List AV} {arr : Array Value} (hV : VR c (.agg cs) (.agg arr)) {em : Bool} {n d : Nat} : ∀ (l : List Field) (i : Nat), l.map (·.offset) = List.range' i l.length → (∀ f ∈ l, GoodF P f) →
    kdsOK ((l.map fun f => kindsOf P (d + 1) f.type).flatten) (cs.drop i) = true →
    (forIn (m := Sem) l PUnit.unit (fun (f : Field) (_ : PUnit) => do
      if f.name ≠ "_" then
        Instr.checkKey em (n + 1) f.type (← part f.type arr f.offset)
      pure (ForInStep.yield PUnit.unit))).run P w = .ok PUnit.unit w
  | [], i, _, _, _ => rfl
  | f :: l, i, ho, hg, hx => by
    have hf := hg f (List.mem_cons_self ..)
    obtain ⟨k, hk⟩ := kinds_one hf.atom d
    simp only [List.map_cons, List.flatten_cons, hk, List.singleton_append] at hx
    simp only [List.map_cons, List.length_cons, List.range'_succ, List.cons.injEq] at ho
    cases h1 : cs.drop i with
    | nil => rw [h1] at hx; cases hx
    | cons u us =>
      rw [h1] at hx
      simp only [kdsOK, Bool.and_eq_true] at hx
      have d1 : cs.drop (i + 1) = us := by rw [← List.drop_drop, h1]; rfl
      have ih := run_part_check (t := t) (em := em) (n := n) hV l (i + 1) ho.2 (fun f hf => hg f (List.mem_cons_of_mem _ hf)) (by rw [d1]; exact hx.2)
      obtain ⟨va, hva, hVa⟩ := partD_sound (w := w) (part_one hf.atom hf.one (cs := cs) (i := f.offset) (by rw [ho.1]; exact h1)) hV
      have hck : (Instr.checkKey em (n + 1) f.type va).run P w = .ok () w := by
        have hat := hf.atom
        unfold atomTy at hat
        unfold Instr.checkKey
        split at hat
        · rename_i hu; simp [run_underlying hu]
        · rename_i hu; simp [run_underlying hu]
        · rename_i hu; simp [run_underlying hu]
        · cases hat
      rw [List.forIn_cons]
      simp only [Sem.run_bind, hf.name, ne_eq, not_false_eq_true, if_true, Result.andThen_ok, hva, hck, Sem.run_pure]
      exact ih

theorem run_key_check {t : TypeId} (h : keyTy P t = true) {u : AV} {x : Value} (hu : keyKd (isAggD P t) (kindsOf P 12 t) u = true) (hx : VR c u x) (em : Bool) :
    (Instr.checkKey em 10000 t x).run P w = .ok () w := by
  rw [show (10000 : Nat) = 9998 + 1 + 1 from rfl]
  rcases key_ty h with ⟨ha, hg⟩ | ⟨fs, hk, hg, hst, ho, hf⟩
  · unfold atomTy at ha
    unfold Instr.checkKey
    split at ha
    · rename_i hu; simp [run_underlying hu]
    · rename_i hu; simp [run_underlying hu]
    · rename_i hu; simp [run_underlying hu]
    · cases ha
  · rw [hg] at hu
    obtain ⟨cs, rfl, hu⟩ := keyKd_agg hu
    have hkk : kindsOf P 12 t = ((fs.toList.map fun f => kindsOf P 11 f.type).flatten) := by rw [kindsOf]; simp only [hk]
    rw [hkk] at hu
    cases hx with
    | agg _ arr h1 h2 h3 =>
      have := run_part_check (P := P) (w := w) (t := t) (VR.agg cs arr h1 h2 h3) (em := em) (n := 9998) (d := 10) fs.toList 0 ho hf hu
      rw [Instr.checkKey]
      simp only [Sem.run_bind, run_underlying hk, Result.andThen_ok]
      rw [← Array.forIn_toList]
      simp only [Sem.run_bind] at this ⊢
      rw [this]
      rfl
end

section
variable {P : Program} {c : Cx} {s : Hs} {ρ : Operand → Value}

theorem makeMap_sound (hr : RelH c) (hs : c.h = s.h) {o : Oper} {t kt el : TypeId} {r : Option Operand} (ho : o.op = .makeMap t r) (ht : P.underlying t = some (.map kt el))
    (hv : ∀ x, r = some x → ∃ v n, VR c v (ρ x) ∧ idxOf v = some n) {nw : Option Nat} {i : Nat} {h' : List Den.Obj} (hnw : NewAt nw s.h (.map (isAggD P kt) (kindsOf P 12 kt) 0 fun i => i.elim0) i h') :
    Gives P ρ o c s (.map i) { s with h := h' } := by
  rw [← hs] at hnw
  have hb : (c.w.heap.push (.map #[] 0))[c.w.heap.size]? = some (.map #[] 0) := by simp
  obtain ⟨g', hg, hh, hE, hR, _⟩ := evol_new hr (w' := { c.w with heap := c.w.heap.push (.map #[] 0) }) rfl rfl rfl (by simp) (fun b h => heap_push_lt h)
    hnw (.blk c.w.heap.size) (fun b off h => by simp only [ownI] at h; omega)
    (fun g' _ _ hE => ⟨#[], 0, hb, rfl, fun i => i.elim0, fun i => i.elim0⟩)
  refine ⟨.map (some c.w.heap.size), _, ?_, ⟨hE, hR, rfl, rfl, rfl⟩, ?_⟩
  · simp only [execOp, ho, Sem.run_bind, Instr.makeMap]
    cases r with
    | none => simp only [Option.map_none, Sem.run_bind, run_newObj, Result.andThen_ok, Sem.run_pure]
    | some x =>
      obtain ⟨v, n, h1, h2⟩ := hv x rfl
      obtain ⟨k, hk⟩ := asIntOf_of (P := P) (w := c.w) h2 h1
      have hint : (asInt (ρ x)).run P c.w = .ok n c.w := by simp [asInt, hk]
      simp only [Option.map_some, Sem.run_bind, run_underlying ht, hint, run_newObj, Result.andThen_ok, Sem.run_pure]
  · refine .map _ _ ⟨_, hh, trivial⟩ trivial fun o b e1 _ e2 => ?_
    dsimp only at e2
    rw [hg] at e2
    cases e2
    rfl

theorem map_at (hr : RelH c) {i : Nat} {a : Bool} {ks : List Kd} {n : Nat} {f : Fin n → AV × AV} {x : Value} (hi : c.h[i]? = some (.map a ks n f)) (hx : VR c (.map i) x) :
    ∃ b ents clock, c.g[i]? = some (.blk b) ∧ x = .map (some b) ∧ c.w.heap[b]? = some (.map ents clock) ∧ ents.size = n ∧ (∀ i, keyKd a ks (f i).1 = true) ∧
      ∀ (i : Fin n) (e : MapEntry), ents[i.1]? = some e → VR c (f i).1 e.key ∧ VR c (f i).2 e.val := by
  have hgi : i < c.g.length := by rw [hr.len]; exact (List.getElem?_eq_some_iff.1 hi).1
  have hg : c.g[i]? = some c.g[i] := List.getElem?_eq_getElem hgi
  generalize c.g[i] = gh at hg
  have hO := hr.obj i _ gh hi hg
  cases gh with
  | blk b =>
    obtain ⟨ents, clock, h1, h2, h3, h4⟩ := hO
    cases hx with
    | map _ _ _ _ h => exact ⟨b, ents, clock, hg, h _ b hi rfl hg, h1, h2, h3, h4⟩
  | none => exact hO.elim
  | tk => exact hO.elim

theorem keyAs_inv {kt : TypeId} {a : Bool} {ks : List Kd} (h : keyAs P kt a ks = true) : keyTy P kt = true ∧ a = isAggD P kt ∧ ks = kindsOf P 12 kt := by
  simp only [keyAs, Bool.and_eq_true, beq_iff_eq, decide_eq_true_eq] at h
  exact ⟨h.1.1, h.1.2.symm, h.2.symm⟩

/-- the search that the model makes -/
theorem find_at {kt : TypeId} {d : TypeDesc} (hd : P.underlying kt = some d) (hk : keyTy P kt = true) {n : Nat} {f : Fin n → AV × AV} {u : AV} {x : Value} {ents : Array MapEntry} (hn : ents.size = n)
    (hu : keyKd (isAggD P kt) (kindsOf P 12 kt) u = true) (hx : VR c u x) (hf : ∀ i, keyKd (isAggD P kt) (kindsOf P 12 kt) (f i).1 = true) (hv : ∀ (i : Fin n) (e : MapEntry), ents[i.1]? = some e → VR c (f i).1 e.key ∧ VR c (f i).2 e.val) :
    (∃ j, firstB n (fun j => keyEq u (f j).1) = some j ∧ ∃ hj : j.1 < ents.size, (Instr.findKey kt x ents.toList).run P c.w = .ok (some (j.1, ents[j.1].val)) c.w) ∨
    (firstB n (fun j => keyEq u (f j).1) = none ∧ (Instr.findKey kt x ents.toList).run P c.w = .ok none c.w) := by
  subst hn
  have hget : ∀ j : Fin ents.toList.length, ∃ h : j.1 < ents.size, ents.toList.get j = ents[j.1] := fun j => ⟨by simpa using j.2, by simp⟩
  have hrun := run_find (P := P) (w := c.w) (kt := kt) (d := d) (x := x) ents.toList (fun j => keyEq u (f ⟨j.1, by simpa using j.2⟩).1) hd
    (fun j => by
      obtain ⟨h, e⟩ := hget j
      rw [e]
      exact run_equal_key hk hu (hf _) hx (hv ⟨j.1, h⟩ _ (Array.getElem?_eq_getElem h)).1)
    (fun j b hb => by
      obtain ⟨h, e⟩ := hget j
      rw [e] at hb
      exact sameNow_key hx (hv ⟨j.1, h⟩ _ (Array.getElem?_eq_getElem h)).1 hu (hf _) hb)
  have hlen : ents.toList.length = ents.size := by simp
  have key : ∀ (m : Nat) (hm : m = ents.size) (p : Fin m → Bool) (q : Fin ents.size → Bool), (∀ j : Fin m, p j = q ⟨j.1, by omega⟩) → ∀ l : List MapEntry, (hl : l.length = m) →
      (∃ j : Fin ents.size, firstB ents.size q = some j ∧ ∃ hj : j.1 < l.length, hitOf l 0 (firstB l.length fun j => p ⟨j.1, by omega⟩) = some (j.1, l[j.1].val)) ∨ (firstB ents.size q = none ∧ hitOf l 0 (firstB l.length fun j => p ⟨j.1, by omega⟩) = none) := by
    intro m hm p q hpq l hl
    subst hl
    have e1 : (fun j : Fin l.length => p ⟨j.1, by omega⟩) = p := rfl
    have e2 : ∀ (a b : Nat) (h : a = b) (p : Fin a → Bool) (q : Fin b → Bool), (∀ j : Fin a, p j = q ⟨j.1, by omega⟩) → (firstB b q).map (·.1) = (firstB a p).map (·.1) := by
      intro a b h p q hpq
      subst h
      have : p = q := funext hpq
      rw [this]
    have e3 := e2 l.length ents.size hm p q hpq
    cases h1 : firstB l.length p with
    | none =>
      rw [h1] at e3
      cases h2 : firstB ents.size q with
      | none => exact .inr ⟨rfl, rfl⟩
      | some j => rw [h2] at e3; cases e3
    | some j =>
      rw [h1] at e3
      cases h2 : firstB ents.size q with
      | none => rw [h2] at e3; cases e3
      | some j' =>
        rw [h2] at e3
        simp only [Option.map_some, Option.some.injEq] at e3
        refine .inl ⟨j', rfl, by rw [e3]; exact j.2, ?_⟩
        have hv : ∀ (q : Nat) (hq : q < l.length), q = j.1 → (l.get j).val = (l[q]'hq).val := by intro q hq e; subst e; rfl
        show hitOf l 0 (firstB l.length p) = _
        rw [h1]
        show some (0 + j.1, (l.get j).val) = some (j'.1, _)
        rw [hv j'.1 (by rw [e3]; exact j.2) e3]
        congr 2
        omega
  rcases key ents.toList.length hlen (fun j => keyEq u (f ⟨j.1, by simpa using j.2⟩).1) (fun j => keyEq u (f j).1) (fun j => rfl) ents.toList rfl with ⟨j, h1, hj, h2⟩ | ⟨h1, h2⟩
  · refine .inl ⟨j, h1, j.2, ?_⟩
    rw [hrun]
    have : hitOf ents.toList 0 (firstB ents.toList.length fun j => keyEq u (f ⟨j.1, by simpa using j.2⟩).1) = some (j.1, ents[j.1].val) := by rw [h2]; simp
    rw [this]
  · refine .inr ⟨h1, ?_⟩
    rw [hrun]
    have : hitOf ents.toList 0 (firstB ents.toList.length fun j => keyEq u (f ⟨j.1, by simpa using j.2⟩).1) = none := h2
    rw [this]

theorem keyTy_desc {kt : TypeId} (h : keyTy P kt = true) : ∃ d, P.underlying kt = some d := by
  unfold keyTy at h
  split at h <;> first | exact ⟨_, by assumption⟩ | cases h

theorem findD_sound (hr : RelH c) {t kt el : TypeId} {m x : Operand} {vm vx z : AV} {zv : Value} {ok : Bool} {dst : Option Nat} {ty : TypeId} {pos : String} {af : Array Edge} {gd : Option (Nat × Bool)} (ht : P.underlying t = some (.map kt el))
    (hz : (zeroValue el).run P c.w = .ok zv c.w) (hzv : VR c z zv) (hm : VR c vm (ρ m)) (hx : VR c vx (ρ x)) {yes : AV → R} {no : R} {out : Out} (h : findD P c.h kt vm vx yes no = some out) :
    (∃ u y, yes u = some out ∧ (execOp ρ ⟨dst, .lookup t m x ok, ty, pos, af, gd⟩).run P c.w = .ok (.value (if ok then .tuple #[y, .bool true] else y)) c.w ∧ VR c u y) ∨
    (no = some out ∧ (execOp ρ ⟨dst, .lookup t m x ok, ty, pos, af, gd⟩).run P c.w = .ok (.value (if ok then .tuple #[zv, .bool false] else zv)) c.w) := by
  unfold findD at h
  split at h
  · cases hc : (keyTy P kt && keyKd (isAggD P kt) (kindsOf P 12 kt) vx) with
    | false => rw [hc] at h; cases h
    | true =>
      rw [hc] at h
      simp only [Bool.and_eq_true] at hc
      right
      refine ⟨h, ?_⟩
      obtain ⟨d, hd⟩ := keyTy_desc hc.1
      have hck := run_key_check (P := P) (w := c.w) hc.1 hc.2 hx true
      have hfk : (Instr.findKey kt (ρ x) []).run P c.w = .ok none c.w := run_find (P := P) (w := c.w) [] (fun j => j.elim0) hd (fun j => j.elim0) (fun j => j.elim0)
      have e : ρ m = .map none := by
        generalize ρ m = y at hm
        cases hm
        rfl
      simp only [execOp, Instr.lookup, e, Sem.run_bind, run_underlying ht, Result.andThen_ok, Sem.run_pure]
      show (((Instr.checkKey true 10000 kt (ρ x)).run P c.w).andThen _).andThen _ = _
      simp only [hck, Result.andThen_ok, hfk, Sem.run_bind, hz, Sem.run_pure]
  · rename_i i
    split at h
    · rename_i a ks n f hi
      cases hc : (keyAs P kt a ks && keyKd a ks vx) with
      | false => rw [hc] at h; cases h
      | true =>
        rw [hc] at h
        simp only [Bool.and_eq_true] at hc
        obtain ⟨hka, hkd⟩ := hc
        obtain ⟨hkt, rfl, rfl⟩ := keyAs_inv hka
        obtain ⟨b, ents, clock, hg, hρ, hb, hn, hf, hv⟩ := map_at hr hi hm
        obtain ⟨d, hd⟩ := keyTy_desc hkt
        have hck := run_key_check (P := P) (w := c.w) hkt hkd hx ents.isEmpty
        simp only [cond_true] at h
        rcases find_at hd hkt hn hkd hx hf hv with ⟨j, h1, hj, h2⟩ | ⟨h1, h2⟩
        · rw [h1] at h
          left
          refine ⟨_, ents[j.1].val, h, ?_, (hv j _ (Array.getElem?_eq_getElem hj)).2⟩
          simp only [execOp, Instr.lookup, hρ, Sem.run_bind, run_underlying ht, Result.andThen_ok, Sem.run_pure, MapKept.run_getObj_map hb, hck, h2]
        · rw [h1] at h
          right
          refine ⟨h, ?_⟩
          simp only [execOp, Instr.lookup, hρ, Sem.run_bind, run_underlying ht, Result.andThen_ok, Sem.run_pure, MapKept.run_getObj_map hb, hck, h2, hz]
    · cases h
  · cases h

/-! keys that are equal are one -/
theorem kd_inj {k : Kd} {u v : AV} (hu : kdOK k u = true) (hv : kdOK k v = true) (h : atomEq u v = true) : u = v := by
  cases u <;> cases k <;> simp only [kdOK, Bool.false_eq_true, decide_eq_true_eq] at hu <;> cases v <;> simp only [kdOK, Bool.false_eq_true, decide_eq_true_eq] at hv <;>
    simp only [atomEq, beq_iff_eq] at h
  · rw [h, ← hu, ← hv]
  · rw [h]
  · rw [h]
theorem kds_inj : ∀ {ks : List Kd} {l m : List AV}, kdsOK ks l = true → kdsOK ks m = true → rowEq l m = true → l = m
  | [], [], [], _, _, _ => rfl
  | [], [], _ :: _, _, h, _ => by simp [kdsOK] at h
  | [], _ :: _, _, h, _, _ => by simp [kdsOK] at h
  | _ :: _, [], _, h, _, _ => by simp [kdsOK] at h
  | _ :: _, _ :: _, [], _, h, _ => by simp [kdsOK] at h
  | k :: ks, u :: l, v :: m, h1, h2, h3 => by
    simp only [kdsOK, Bool.and_eq_true] at h1 h2
    simp only [rowEq, Bool.and_eq_true] at h3
    rw [kd_inj h1.1 h2.1 h3.1, kds_inj h1.2 h2.2 h3.2]
theorem key_inj {a : Bool} {ks : List Kd} {u v : AV} (hu : keyKd a ks u = true) (hv : keyKd a ks v = true) (h : keyEq u v = true) : u = v := by
  cases a with
  | true =>
    obtain ⟨l, rfl, hl⟩ := keyKd_agg hu
    obtain ⟨m, rfl, hm⟩ := keyKd_agg hv
    rw [kds_inj hl hm h]
  | false =>
    have h1 := keyKd_atom hu
    have h2 := keyKd_atom hv
    rw [kdsOK_atom h1 h2] at h
    cases ks with
    | nil => simp [kdsOK] at h1
    | cons k ks =>
      simp only [kdsOK, Bool.and_eq_true] at h1 h2
      exact kd_inj h1.1 h2.1 h

theorem kd_det {k : Kd} {u : AV} {x y : Value} (hu : kdOK k u = true) (hx : VR c u x) (hy : VR c u y) : x = y ∧ ∀ m, Instr.sameBits m x x = true := by
  cases u <;> cases k <;> simp only [kdOK, Bool.false_eq_true] at hu
  · rw [hx.int_inv, hy.int_inv]; exact ⟨rfl, fun m => by simp [Instr.sameBits]⟩
  · rw [hx.bool_inv, hy.bool_inv]; exact ⟨rfl, fun m => by simp [Instr.sameBits]⟩
  · obtain ⟨s, rfl, hs⟩ := hx.str_inv
    obtain ⟨t, rfl, ht⟩ := hy.str_inv
    have : s = t := ByteArray.ext (Array.toList_inj.1 (hs.trans ht.symm))
    rw [this]
    exact ⟨rfl, fun m => by simp [Instr.sameBits, beq_toListBytes]⟩
theorem kdsOK_len : ∀ {ks : List Kd} {l : List AV}, kdsOK ks l = true → ∀ (j : Nat) (u : AV), l[j]? = some u → ∃ k, kdOK k u = true
  | [], [], _, j, u, h => by simp at h
  | [], _ :: _, h, _, _, _ => by simp [kdsOK] at h
  | _ :: _, [], h, _, _, _ => by simp [kdsOK] at h
  | k :: ks, v :: l, h, 0, u, e => by
    simp only [kdsOK, Bool.and_eq_true] at h
    simp at e
    subst e
    exact ⟨k, h.1⟩
  | k :: ks, v :: l, h, j + 1, u, e => by
    simp only [kdsOK, Bool.and_eq_true] at h
    exact kdsOK_len h.2 j u (by simpa using e)
theorem key_det {a : Bool} {ks : List Kd} {u : AV} {x y : Value} (hu : keyKd a ks u = true) (hx : VR c u x) (hy : VR c u y) : x = y ∧ Instr.sameBits 10000 x x = true := by
  cases a with
  | true =>
    obtain ⟨l, rfl, hl⟩ := keyKd_agg hu
    cases hx with
    | agg _ ax h1 h2 h3 =>
      cases hy with
      | agg _ ay k1 k2 k3 =>
        have hat : ∀ (j : Nat) (h : j < l.length), ax[j]? = ay[j]? ∧ ∀ v, ax[j]? = some v → ∀ m, Instr.sameBits m v v = true := by
          intro j h
          obtain ⟨k, hk⟩ := kdsOK_len hl j l[j] (List.getElem?_eq_getElem h)
          have e1 : ax[j]? = some (ax[j]'(by omega)) := Array.getElem?_eq_getElem (by omega)
          have e2 : ay[j]? = some (ay[j]'(by omega)) := Array.getElem?_eq_getElem (by omega)
          obtain ⟨h4, h5⟩ := kd_det hk (h3 j _ _ (List.getElem?_eq_getElem h) e1) (k3 j _ _ (List.getElem?_eq_getElem h) e2)
          refine ⟨by rw [e1, e2, h4], fun v e m => ?_⟩
          rw [e1] at e
          cases e
          exact h5 m
        have : ax = ay := by
          apply Array.ext_getElem?
          intro j
          by_cases h : j < l.length
          · exact (hat j h).1
          · rw [Array.getElem?_eq_none (by omega), Array.getElem?_eq_none (by omega)]
        subst this
        refine ⟨rfl, ?_⟩
        show Instr.sameBits (9999 + 1) (.agg ax) (.agg ax) = true
        simp only [Instr.sameBits, beq_self_eq_true, Bool.true_and, List.all_eq_true]
        intro p hp
        obtain ⟨j, hj⟩ := List.getElem?_of_mem hp
        rw [List.getElem?_zip_eq_some] at hj
        have hj' : ax[j]? = some p.1 := by simpa using hj.1
        have he : p.1 = p.2 := by
          have := hj.1.symm.trans hj.2
          exact Option.some.inj this
        have hlt : j < l.length := by
          have := (Array.getElem?_eq_some_iff.1 hj').1
          omega
        rw [← he]
        exact (hat j hlt).2 p.1 hj' 9999
  | false =>
    have h1 := keyKd_atom hu
    cases ks with
    | nil => simp [kdsOK] at h1
    | cons k ks =>
      simp only [kdsOK, Bool.and_eq_true] at h1
      obtain ⟨h2, h3⟩ := kd_det h1.1 hx hy
      exact ⟨h2, h3 _⟩

theorem evol_map (hr : RelH c) {i : Nat} {a : Bool} {ks : List Kd} {n : Nat} {f : Fin n → AV × AV} {b : Nat} {ents : Array MapEntry} {clock : Nat} (hi : c.h[i]? = some (.map a ks n f)) (hg : c.g[i]? = some (.blk b))
    (hb : c.w.heap[b]? = some (.map ents clock)) {n' : Nat} {f' : Fin n' → AV × AV} {ents' : Array MapEntry} {clock' : Nat} (hn : ents'.size = n') (hk : ∀ i, keyKd a ks (f' i).1 = true)
    (hv : ∀ (i : Fin n') (e : MapEntry), ents'[i.1]? = some e → VR c (f' i).1 e.key ∧ VR c (f' i).2 e.val) :
    ∃ c' : Cx, c'.w = { c.w with heap := c.w.heap.setIfInBounds b (.map ents' clock') } ∧ c'.h = c.h.set i (.map a ks n' f') ∧ Evol c c' ∧ RelH c' := by
  have hlt := lt_of_heap hb
  have hgi : i < c.g.length := (List.getElem?_eq_some_iff.1 hg).1
  have hhi : i < c.h.length := (List.getElem?_eq_some_iff.1 hi).1
  obtain ⟨hE, hR⟩ := evol_set hr (w' := { c.w with heap := c.w.heap.setIfInBounds b (.map ents' clock') }) rfl rfl rfl (by simp)
    hi hg (.map a ks n' f') (.blk b)
    (fun b' _ hn => by
      have : b ≠ b' := fun e => hn 0 (by simp [ownI, e])
      simp [this])
    (fun b' off' _ hn => by
      have : b ≠ b' := fun e => hn (by simp [ownI, e])
      exact World.cell?_of_block (by simp [this]))
    (fun b' off' h => .inl ⟨⟨0, h⟩, fun h' => h' h⟩)
    (fun z g n f e => by cases e) (fun gen row off' p _ h => by simp [Cx.adr, List.getElem?_set_self hhi] at h)
    (fun N a cap z e => by cases e) (fun b' _ e => ⟨rfl, e⟩) (fun gen p _ h => by simp [Cx.siz, List.getElem?_set_self hhi] at h)
    (fun hE => ⟨ents', clock', by simp [hlt], hn, hk, fun i e he => ⟨(hv i e he).1.ext hE.ext, (hv i e he).2.ext hE.ext⟩⟩)
  exact ⟨_, rfl, rfl, hE, hR⟩

theorem layD_sound (hr : RelH c) (hs : c.h = s.h) {o : Oper} {t kt el : TypeId} {m x y : Operand} {vm vx vy : AV} (ho : o.op = .mapUpdate t m x y ∨ o.op = .insert t m x y) (ht : P.underlying t = some (.map kt el))
    (hm : VR c vm (ρ m)) (hx : VR c vx (ρ x)) (hy : VR c vy (ρ y)) {K : List Den.Obj → R} {out : Out} (h : layD P c.h kt vm vx vy K = some out) :
    ∃ h', K h' = some out ∧ GivesU P ρ o c s { s with h := h' } := by
  unfold layD at h
  split at h
  · rename_i i
    split at h
    · rename_i a ks n f hi
      cases hc : (keyAs P kt a ks && keyKd a ks vx) with
      | false => rw [hc] at h; cases h
      | true =>
        rw [hc] at h
        simp only [Bool.and_eq_true] at hc
        obtain ⟨hka, hkd⟩ := hc
        obtain ⟨hkt, rfl, rfl⟩ := keyAs_inv hka
        obtain ⟨b, ents, clock, hg, hρ, hb, hn, hf, hv⟩ := map_at hr hi hm
        obtain ⟨d, hd⟩ := keyTy_desc hkt
        have hck := run_key_check (P := P) (w := c.w) hkt hkd hx false
        simp only [cond_true] at h
        have hex : execOp ρ o = (do Instr.mapUpdate t (ρ m) (ρ x) (ρ y); pure .skip) := by
          rcases ho with ho | ho <;> simp only [execOp, ho]
        rcases find_at hd hkt hn hkd hx hf hv with ⟨j, h1, hj, h2⟩ | ⟨h1, h2⟩
        · rw [h1] at h
          have hej := hv j _ (Array.getElem?_eq_getElem hj)
          have huv : vx = (f j).1 := key_inj hkd (hf j) (firstB_some h1).1
          have hkx := hej.1
          rw [← huv] at hkx
          obtain ⟨hdet, hbits⟩ := key_det hkd hkx hx
          rw [hdet] at hbits
          obtain ⟨c', hw', hh', hE, hR⟩ := evol_map hr hi hg hb (n' := n) (f' := fun q => cond (decide (q.1 = j.1)) ((f q).1, vy) (f q))
            (ents' := ents.modify j.1 fun e => { e with key := ρ x, val := ρ y }) (clock' := clock) (by simp [hn])
            (fun q => by cases hq : decide (q.1 = j.1) <;> exact hf q)
            (fun q e he => by
              rw [Array.getElem?_modify] at he
              by_cases hq : j.1 = q.1
              · rw [if_pos hq, Option.map_eq_some_iff] at he
                obtain ⟨e', he', rfl⟩ := he
                rw [decide_eq_true hq.symm]
                have : q = j := Fin.ext hq.symm
                subst this
                exact ⟨by rw [← huv]; exact hx, hy⟩
              · rw [if_neg hq] at he
                rw [decide_eq_false (fun e => hq e.symm)]
                exact hv q e he)
          refine ⟨_, h, c', ?_, ⟨hE, hR, by rw [hh', hs], rfl, rfl⟩⟩
          have hkey : ((ents[j.1]?).map (·.key)).getD (ρ x) = ρ x := by rw [Array.getElem?_eq_getElem hj]; exact hdet
          have hstay : (Instr.keyThatStays (ρ x) (ρ x)).run P c.w = .ok (ρ x) c.w := by simp [Instr.keyThatStays, hbits]
          simp only [hex, Instr.mapUpdate, hρ, Sem.run_bind, run_underlying ht, Result.andThen_ok, Sem.run_pure, MapKept.run_getObj_map hb, hck, h2, hkey, hstay, MapKept.run_setObj_map _ hb, hw']
        · rw [h1] at h
          obtain ⟨c', hw', hh', hE, hR⟩ := evol_map hr hi hg hb (n' := n + 1) (f' := fun q => if hq : q.1 < n then f ⟨q.1, hq⟩ else (vx, vy))
            (ents' := ents.push { key := ρ x, val := ρ y, born := clock }) (clock' := clock + 1) (by simp [hn])
            (fun q => by
              split
              · exact hf _
              · exact hkd)
            (fun q e he => by
              split
              · rename_i hq
                rw [Array.getElem?_push, if_neg (by omega)] at he
                exact hv ⟨q.1, hq⟩ e he
              · rename_i hq
                rw [Array.getElem?_push, if_pos (by have := q.2; omega)] at he
                cases he
                exact ⟨hx, hy⟩)
          refine ⟨_, h, c', ?_, ⟨hE, hR, by rw [hh', hs], rfl, rfl⟩⟩
          simp only [hex, Instr.mapUpdate, hρ, Sem.run_bind, run_underlying ht, Result.andThen_ok, Sem.run_pure, MapKept.run_getObj_map hb, hck, h2, MapKept.run_setObj_map _ hb, hw']
    · cases h
  · cases h

theorem findD_eq {h : List Den.Obj} {kt : TypeId} {m k : AV} {yes : AV → R} {no : R} {out : Out} (e : findD P h kt m k yes no = some out) :
    (∃ u, yes u = some out ∧ ∀ yes' no', findD P h kt m k yes' no' = yes' u) ∨ (no = some out ∧ ∀ yes' no', findD P h kt m k yes' no' = no') := by
  unfold findD at e
  split at e
  · generalize hc : (keyTy P kt && _) = b at e
    cases b with
    | false => cases e
    | true => exact .inr ⟨e, fun _ _ => by simp only [findD, hc, cond_true]⟩
  · rename_i i
    split at e
    · rename_i a ks n f hi
      generalize hc : (keyAs P kt a ks && _) = b at e
      cases b with
      | false => cases e
      | true =>
        simp only [cond_true] at e
        cases hf : firstB n (fun j => keyEq k (f j).1) with
        | some j => rw [hf] at e; exact .inl ⟨_, e, fun _ _ => by simp only [findD, hi, hc, hf, cond_true]⟩
        | none => rw [hf] at e; exact .inr ⟨e, fun _ _ => by simp only [findD, hi, hc, hf, cond_true]⟩
    · cases e
  · cases e
theorem layD_eq {h : List Den.Obj} {kt : TypeId} {m k v : AV} {K : List Den.Obj → R} {out : Out} (e : layD P h kt m k v K = some out) :
    ∃ i o₀ o, m = .map i ∧ h[i]? = some o₀ ∧ mapO o₀ = true ∧ mapO o = true ∧ K (h.set i o) = some out ∧ ∀ (h₂ : List Den.Obj), h₂[i]? = some o₀ → ∀ K', layD P h₂ kt m k v K' = K' (h₂.set i o) := by
  unfold layD at e
  split at e
  · rename_i i
    split at e
    · rename_i a ks n f hi
      generalize hc : (keyAs P kt a ks && _) = b at e
      cases b with
      | false => cases e
      | true =>
        simp only [cond_true] at e
        cases hf : firstB n (fun j => keyEq k (f j).1) with
        | some j => rw [hf] at e; exact ⟨i, _, _, rfl, hi, rfl, rfl, e, fun h₂ e2 _ => by simp only [layD, e2, hc, hf, cond_true]⟩
        | none => rw [hf] at e; exact ⟨i, _, _, rfl, hi, rfl, rfl, e, fun h₂ e2 _ => by simp only [layD, e2, hc, hf, cond_true]⟩
    · cases e
  · cases e

theorem loadK_det {h : List Den.Obj} {a : AV} {t : TypeId} {k : AV → R} {out : Out} (e : loadK P h a t k = some out) : ∃ i gen row off o v, a = .ptr i gen row off ∧ h[i]? = some o ∧ k v = some out ∧
    ∀ (h₂ : List Den.Obj), h₂[i]? = some o → ∀ k' : AV → R, loadK P h₂ a t k' = k' v := by
  unfold loadK at e
  split at e
  · rename_i i gen row off
    split at e
    · rename_i z gen' n f hob
      split at e
      · rename_i hrow
        cases hc : (gen == gen' && decide (off + P.cellsOf t ≤ z)) with
        | false => rw [hc] at e; cases e
        | true =>
          rw [hc] at e
          simp only [cond_true] at e
          split at e
          · rename_i v hm
            exact ⟨i, gen, row, off, _, v, rfl, hob, e, fun h₂ h2 k' => by simp only [loadK, h2]; rw [dif_pos hrow, hc]; simp only [cond_true, hm]⟩
          · cases e
      · cases e
    · cases e
  · cases e
end
end Go.Den
