/- Results of calls; bodies; the theorem. -/
import Derived.Test.YtbiklmpkkbncgaaGreatDenOps17
set_option linter.unusedSimpArgs false
set_option linter.unusedVariables false
set_option linter.unnecessarySimpa false
namespace Go.Den
open Go

section
variable {P : Program} {c : Cx} {n : Nat}

theorem freezeC_sound (hr : RelH c) (hl : n ≤ c.h.length) : ∀ (d : Nat) {u : AV} {x : Value}, VR c u x → AtomA u →
    VR (c.cut n) (freezeC n c.h d u) x ∧ PureA (freezeC n c.h d u) ∧ AtomA (freezeC n c.h d u) := by
  have hx := cut_cell (c := c) (n := n)
  have hpur : ∀ {u : AV} {x : Value}, VR c u x → AtomA u → VR (c.cut n) (purify u) x ∧ PureA (purify u) ∧ AtomA (purify u) := fun h ha =>
    ⟨purify_to hx h, (purify_sound h ha).2⟩
  intro d
  induction d with
  | zero => intro u x h ha; cases u <;> exact hpur h ha
  | succ d ih =>
    intro u x h ha
    cases u
    case sr i gen off len =>
      have hdk : VR (c.cut n) .dk x ∧ PureA .dk ∧ AtomA .dk := ⟨.dk x (h.atom ha), .dk, trivial⟩
      simp only [freezeC]
      split
      · rename_i z gen' m f hob
        split
        · rename_i hle
          cases hc : (gen == gen' && decide (n ≤ i)) with
          | false => exact hdk
          | true =>
            simp only [Bool.and_eq_true, beq_iff_eq, decide_eq_true_eq] at hc
            obtain ⟨rfl, hni⟩ := hc
            simp only [cond_true]
            have hgi : i < c.g.length := by rw [hr.len]; exact (List.getElem?_eq_some_iff.1 hob).1
            have hg : c.g[i]? = some c.g[i] := List.getElem?_eq_getElem hgi
            generalize c.g[i] = gh at hg
            have hO := hr.obj i _ gh hob hg
            cases gh with
            | blk b =>
              obtain ⟨arr, ty, hb, hsz, hz', hA, hV⟩ := hO
              cases h with
              | sr _ _ _ _ a cap hlt hcap hn hadr hsiz =>
                have hcells : ∀ (r : Fin m) (j : Nat), j < z → ∃ u y, (f r)[j]? = some u ∧ arr[r.1 * z + j]? = some y ∧ VR c u y ∧ AtomA u := by
                  intro r j hj
                  have hl : j < (f r).length := by rw [hz']; exact hj
                  obtain ⟨e1, _, _⟩ := flat_at (z := z) r.2 hj
                  have hy : arr[r.1 * z + j]? = some (arr[r.1 * z + j]'(by omega)) := by simp [show r.1 * z + j < arr.size from by omega]
                  exact ⟨(f r)[j], _, List.getElem?_eq_getElem hl, hy, hV r j _ _ (List.getElem?_eq_getElem hl) hy, hA r _ (List.getElem_mem hl)⟩
                have hmem : ∀ (r : Fin m) (u : AV), u ∈ f r → ∃ y, VR c u y ∧ AtomA u := by
                  intro r u hu
                  obtain ⟨j, hj, rfl⟩ := List.getElem_of_mem hu
                  obtain ⟨u, y, e1, _, e3, e4⟩ := hcells r j (by rw [hz'] at hj; exact hj)
                  rw [List.getElem?_eq_getElem hj] at e1
                  cases e1
                  exact ⟨y, e3, e4⟩
                have hrows : ∀ (j : Fin len), ∀ u ∈ (f ⟨off + j.1, by omega⟩).map (freezeC n c.h d), PureA u ∧ AtomA u := by
                  intro j u hu
                  obtain ⟨u', hu', rfl⟩ := List.mem_map.1 hu
                  obtain ⟨y, e3, e4⟩ := hmem _ u' hu'
                  exact (ih e3 e4).2
                refine ⟨.sl z .no len _ a cap (fun r j => arr.getD ((off + r) * z + j) undef) hcap (fun e => by cases e) (fun j => by simp [hz']) hrows
                  (fun e => ⟨by have := hn.1 e; omega, hn.1 e⟩) (fun ad e _ => hn.2 ad e) ?_ ?_ (fun i e => by cases e), .sl z .no len _ (fun i e => by cases e) (fun j u hu => (hrows j u hu).1) (fun j u hu => (hrows j u hu).2), trivial⟩
                · intro r j hj ad e
                  have e1 := hadr b (off * z + 0) (by simp [Cx.adr, hob, hg]) (by have := r.2; omega)
                  rw [e] at e1
                  cases e1
                  obtain ⟨u, y, f1, f2, f3, f4⟩ := hcells ⟨off + r.1, by omega⟩ j hj
                  have harith : off * z + 0 + r.1 * z + j = (off + r.1) * z + j := by rw [Nat.add_mul]; omega
                  rw [harith]
                  refine ⟨⟨fun hF => hr.fr b _ ⟨i, _, _, hob, hg, rfl⟩ hF, fun ho => ?_⟩, ?_⟩
                  · obtain ⟨i', o', gh', h1, h2, h3⟩ := ho
                    obtain ⟨hi', o₁, e1, rfl⟩ := cut_get h1
                    exact hr.dis i' i o₁ gh' _ _ b ((off + r.1) * z + j) 0 (by omega) e1 (cut_gh h2) hob hg (ownI_sweep h3) rfl
                  · show c.w.cell? ⟨b, (off + r.1) * z + j, none⟩ = _
                    simp only at f2
                    simp only [World.cell?, hb, Option.isSome_none, Bool.false_eq_true, if_false, f2, Array.getD_eq_getD_getElem?, Option.getD_some]
                · intro r j u hu
                  rw [List.getElem?_map, Option.map_eq_some_iff] at hu
                  obtain ⟨u', hu', rfl⟩ := hu
                  have hj : j < z := by rw [← hz' ⟨off + r.1, by omega⟩]; exact (List.getElem?_eq_some_iff.1 hu').1
                  obtain ⟨u, y, f1, f2, f3, f4⟩ := hcells ⟨off + r.1, by omega⟩ j hj
                  rw [hu'] at f1
                  cases f1
                  simp only at f2
                  simp only [Array.getD_eq_getD_getElem?, f2, Option.getD_some]
                  exact (ih f3 f4).1
            | none => exact hO.elim
            | tk => exact hO.elim
        · exact hdk
      · exact hdk
    all_goals exact hpur h ha

theorem freezeC_any (hr : RelH c) (hl : n ≤ c.h.length) (d : Nat) {u : AV} {x : Value} (h : VR c u x) : VR (c.cut n) (freezeC n c.h d u) x := by
  by_cases ha : AtomA u
  · exact (freezeC_sound hr hl d h ha).1
  · cases u <;> simp only [AtomA, not_true_eq_false] at ha <;> (cases d <;> exact .top x)

theorem freezeCs_sound (hr : RelH c) (hl : n ≤ c.h.length) (d : Nat) {cs : List AV} {x : Value} (h : VR c (.agg cs) x) : VR (c.cut n) (.agg (cs.map (freezeC n c.h d))) x := by
  cases h with
  | agg _ arr hs ha hv =>
    refine .agg _ _ (by simp [hs]) (fun u hu => ?_) fun j u v e1 e2 => ?_
    · obtain ⟨u', hu', rfl⟩ := List.mem_map.1 hu
      obtain ⟨j, hj, rfl⟩ := List.getElem_of_mem hu'
      have hj' : j < arr.size := by omega
      exact (freezeC_sound hr hl d (hv j _ (arr[j]) (List.getElem?_eq_getElem hj) (by simp [hj'])) (ha _ (List.getElem_mem hj))).2.2
    · rw [List.getElem?_map, Option.map_eq_some_iff] at e1
      obtain ⟨u', e1, rfl⟩ := e1
      exact freezeC_any hr hl d (hv j u' v e1 e2)

theorem freeze_sound (hr : RelH c) (hl : n ≤ c.h.length) {u : AV} {x : Value} (h : VR c u x) : VR (c.cut n) (freeze n c.h u) x := by
  cases u
  case agg cs => exact agg_loose (freezeCs_sound hr hl 4 h)
  case tup vs =>
    simp only [freeze]
    cases h with
    | tup _ arr hs hv =>
      refine .tup _ _ (by simp [hs]) fun j u v e1 e2 => ?_
      rw [List.getElem?_map, Option.map_eq_some_iff] at e1
      obtain ⟨u', e1, rfl⟩ := e1
      have := hv j u' v e1 e2
      split
      · exact agg_loose (freezeCs_sound hr hl 4 this)
      · exact freezeC_any hr hl 4 this
  all_goals exact freezeC_any hr hl 4 h

/-- what is left of a call -/
theorem shut_sound {c₀ c' : Cx} {full hold : Bool} {out₀ out : Out} {e : Ending} (hE : Evol c₀ c') (hR : RelH c') (hO : OutR c' out₀ e) (h : shut full hold c₀.h.length (some out₀) = some out) :
    ∃ c'', c''.w = c'.w ∧ Evol c₀ c'' ∧ RelH c'' ∧ OutR c'' out e := by
  have hl := hE.len
  cases out₀ with
  | ret v h₀ ps =>
    cases e with
    | returned x =>
      obtain ⟨rfl, hv⟩ := hO
      simp only [shut] at h
      cases hf : (full && (hold || leadsIn v)) with
      | true => rw [hf] at h; cases h; exact ⟨c', rfl, hE, hR, rfl, hv⟩
      | false =>
        rw [hf] at h; cases h
        exact ⟨c'.cut c₀.h.length, rfl, cut_evol hE (Nat.le_refl _) hl, cut_rel hR hl, rfl, freeze_sound hR hl hv⟩
    | panicked => exact hO.elim
    | outgrown => exact hO.elim
  | pan v h₀ ps =>
    cases e with
    | returned x => exact hO.elim
    | outgrown => exact hO.elim
    | panicked chain =>
      obtain ⟨rfl, x, rfl, hv⟩ := hO
      simp only [shut] at h
      cases h
      exact ⟨c'.cut c₀.h.length, rfl, cut_evol hE (Nat.le_refl _) hl, cut_rel hR hl, rfl, x, rfl, sweep_sound hl hv⟩

theorem resultsD_sound {fn : Func} {st : St} {v : AV} {tm : Array Value} (hr : RelH c) (hh : c.h = st.s.h) (hS : SlotsR c st.T tm) (h : resultsD P fn st = some v) :
    ∃ x, (results fn tm).run P c.w = .ok x c.w ∧ VR c v x := by
  let act : ResultVar → Sem Value := fun
    | .tmp t => pure (tm.getD t undef)
    | .cell a t => do loadVar t (← asAddr (tm.getD a undef))
  let g : ResultVar → Value := fun r => match (act r).run P c.w with
    | .ok x _ => x
    | _ => undef
  let den1 : ResultVar → Option AV := fun r => match r with
    | .tmp t => some (getT st.T t)
    | .cell a t => (loadD st.s.h (getT st.T a) (P.cellsOf t)).bind (mkVal P t)
  have hget : ∀ t, VR c (getT st.T t) (tm.getD t undef) := fun t => by
    unfold getT
    by_cases ht : t < st.T.length
    · rw [List.getElem?_eq_getElem ht]
      have ht' : t < tm.size := by rw [hS.size]; exact ht
      have := hS.at' t st.T[t] tm[t] (List.getElem?_eq_getElem ht) (Array.getElem?_eq_getElem ht')
      simpa [Array.getD_eq_getD_getElem?, ht'] using this
    · rw [List.getElem?_eq_none (by omega)]
      have ht' : ¬ t < tm.size := by rw [hS.size]; exact ht
      simp only [Option.getD_none, Array.getD_eq_getD_getElem?, Array.getElem?_eq_none (by omega : tm.size ≤ t)]
      exact .undef
  have one : ∀ r u, den1 r = some u → (act r).run P c.w = .ok (g r) c.w ∧ VR c u (g r) := by
    intro r u hu
    have : ∃ x, (act r).run P c.w = .ok x c.w ∧ VR c u x := by
      cases r with
      | tmp t => simp only [den1, Option.some.injEq] at hu; subst hu; exact ⟨_, rfl, hget t⟩
      | cell a t =>
        simp only [den1, Option.bind_eq_some_iff] at hu
        obtain ⟨cs, e1, e2⟩ := hu
        rw [← hh] at e1
        obtain ⟨b, o, val, h1, h2, h3, h4, h5⟩ := loadD_sound hr e1 (hget a)
        obtain ⟨x, hx, hv⟩ := run_loadVar e2 h2 h3 h4 h5
        exact ⟨x, by simp only [act, Sem.run_bind, h1, asAddr, Sem.run_pure, Result.andThen_ok, hx], hv⟩
    obtain ⟨x, h1, h2⟩ := this
    have hg : g r = x := by simp only [g, h1]
    rw [hg]; exact ⟨h1, h2⟩
  unfold resultsD at h
  have key : ∀ (us : List AV), fn.results.toList.mapM den1 = some us → (fn.results.mapM act).run P c.w = .ok (fn.results.map g) c.w ∧ us.length = fn.results.size ∧
      ∀ (j : Nat) (u : AV) (x : Value), us[j]? = some u → (fn.results.map g)[j]? = some x → VR c u x := by
    intro us hus
    obtain ⟨h1, h2⟩ := forall_mapM hus
    have hmem : ∀ r ∈ fn.results.toList, (act r).run P c.w = .ok (g r) c.w := by
      intro r hrm
      obtain ⟨j, hj, rfl⟩ := List.getElem_of_mem hrm
      have hj' : j < us.length := by rw [h1]; exact hj
      exact (one _ _ (h2 j _ _ (List.getElem?_eq_getElem hj) (List.getElem?_eq_getElem hj'))).1
    refine ⟨?_, by simpa using h1, fun j u x e1 e2 => ?_⟩
    · rw [Array.mapM_eq_mapM_toList]
      simp only [Sem.run_map, run_mapM_ok fn.results.toList hmem]
      have : (List.map g fn.results.toList).toArray = Array.map g fn.results := by apply Array.ext'; simp
      rw [← this]
      rfl
    · rw [Array.getElem?_map, Option.map_eq_some_iff] at e2
      obtain ⟨r, e2, rfl⟩ := e2
      exact (one r u (h2 j r u (by simpa using e2) e1)).2
  have hrun : (results fn tm).run P c.w = (fn.results.mapM act >>= fun vs => pure (if h : vs.size = 1 then vs[0] else .tuple vs)).run P c.w := rfl
  change (match fn.results.toList.mapM den1 with
    | some [v] => some v
    | some vs => some (.tup vs)
    | none => none) = some v at h
  split at h
  · rename_i u hus
    cases h
    obtain ⟨k1, k2, k3⟩ := key _ hus
    have hsz : (fn.results.map g).size = 1 := by simp; simpa using k2.symm
    refine ⟨(fn.results.map g)[0], ?_, k3 0 _ _ rfl (Array.getElem?_eq_getElem (by omega))⟩
    rw [hrun]
    simp only [Sem.run_bind, k1, Result.andThen_ok, Sem.run_pure]
    rw [dif_pos hsz]
  · rename_i us hne hus
    cases h
    obtain ⟨k1, k2, k3⟩ := key _ hus
    have hsz : ¬ (fn.results.map g).size = 1 := by
      intro e
      have : us.length = 1 := by rw [k2]; simpa using e
      match us, this with
      | [u], _ => exact hne u rfl
    refine ⟨.tuple (fn.results.map g), ?_, .tup _ _ (by simpa using k2.symm) k3⟩
    rw [hrun]
    simp only [Sem.run_bind, k1, Result.andThen_ok, Sem.run_pure]
    rw [dif_neg hsz]
  · cases h

end
end Go.Den
