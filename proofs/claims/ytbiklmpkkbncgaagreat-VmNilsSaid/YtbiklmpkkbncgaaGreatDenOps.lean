/- Operations that leave the world alone. -/
import Derived.Test.YtbiklmpkkbncgaaGreatDenRun
import Derived.Laws.StructEq
set_option linter.unusedSimpArgs false
set_option linter.unusedVariables false
set_option linter.unnecessarySimpa false
namespace Go.Den
open Go

section
variable {P : Program} {c : Cx}

theorem VR.const (v : Value) : VR c (ofConst v) v := by
  unfold ofConst
  split <;> first
    | exact .bool _
    | exact .int _ _
    | exact .str _ _ rfl
    | exact .flt _
    | exact .nil
    | exact .nils
    | exact .nilmap
    | exact .nilfn
    | exact .nilifc
    | exact .top _
    | skip
  rename_i vs
  cases h : vs.size == 0 with
  | false => exact .top _
  | true => exact .tup [] vs (by simpa using h) fun j u v e => by simp at e

theorem VR.nilSl (z : Nat) : VR c (nilSl z) (.slice none 0 0) :=
  .sl z .tight 0 _ none 0 (fun _ _ => undef) (Nat.le_refl _) (fun _ => rfl) (fun i => i.elim0) (fun i => i.elim0) (fun _ => ⟨rfl, rfl⟩) (fun _ e => by cases e)
    (fun i => i.elim0) (fun i => i.elim0) (fun i e => by cases e)

theorem VR.coerce {t : TypeId} {v : AV} {x : Value} (h : VR c v x) : VR c (coerce P t v) x := by
  unfold Den.coerce
  split
  · split
    · cases h; exact VR.nilSl _
    · exact h
  · exact h

theorem VR.int_inv {k : IntKind} {n : Int} {x : Value} (h : VR c (.int k n) x) : x = .int k n := by cases h; rfl
theorem VR.bool_inv {b : Bool} {x : Value} (h : VR c (.bool b) x) : x = .bool b := by cases h; rfl
theorem VR.str_inv {l : List UInt8} {x : Value} (h : VR c (.str l) x) : ∃ s, x = .string s ∧ s.data.toList = l := by cases h; exact ⟨_, rfl, ‹_›⟩

/-- the cells of a value -/
theorem cellsO_sound {v : AV} {x : Value} {vs : List AV} (h : cellsO v = some vs) (hv : VR c v x) :
    x.cells.size = vs.length ∧ (∀ u ∈ vs, AtomA u) ∧ ∀ (j : Nat) (u : AV) (y : Value), vs[j]? = some u → x.cells[j]? = some y → VR c u y := by
  have one : ∀ {v : AV} {x : Value}, VR c v x → AtomA v → x.cells.size = [v].length ∧ (∀ u ∈ [v], AtomA u) ∧ ∀ (j : Nat) (u : AV) (y : Value), [v][j]? = some u → x.cells[j]? = some y → VR c u y := by
    intro v x hv ha
    have hx := hv.atom ha
    have e : x.cells = #[x] := by cases x <;> first | rfl | exact hx.elim
    rw [e]
    refine ⟨rfl, by simpa using ha, fun j u y e1 e2 => ?_⟩
    cases j with
    | zero => simp at e1 e2; subst e1 e2; exact hv
    | succ j => simp at e1
  cases v with
  | agg cs =>
    simp only [cellsO, Option.some.injEq] at h
    subst h
    cases hv with
    | agg _ arr hs ha hv => exact ⟨hs, ha, hv⟩
  | top => cases h
  | tup => cases h
  | gd => cases h
  | _ =>
    simp only [cellsO, Option.some.injEq] at h
    subst h
    exact one hv trivial

theorem cellsT_sound {t : TypeId} {v : AV} {x : Value} {vs : List AV} (h : cellsT P t v = some vs) (hv : VR c v x) :
    vs.length = P.cellsOf t ∧ x.cells.size = vs.length ∧ (∀ u ∈ vs, AtomA u) ∧ ∀ (j : Nat) (u : AV) (y : Value), vs[j]? = some u → x.cells[j]? = some y → VR c u y := by
  unfold cellsT at h
  cases hc : cellsO (coerce P t v) with
  | none => rw [hc] at h; cases h
  | some ws =>
    rw [hc] at h
    simp only at h
    cases hl : ((P.info? t).isSome && ws.length == P.cellsOf t) with
    | false => rw [hl] at h; cases h
    | true =>
      rw [hl] at h
      simp only [cond_true, Option.some.injEq] at h
      subst h
      simp only [Bool.and_eq_true, beq_iff_eq] at hl
      exact ⟨hl.2, cellsO_sound hc hv.coerce⟩

theorem cellsT_info {t : TypeId} {v : AV} {vs : List AV} (h : cellsT P t v = some vs) : ∃ i, P.info? t = some i := by
  unfold cellsT at h
  cases hc : cellsO (coerce P t v) with
  | none => rw [hc] at h; cases h
  | some ws =>
    rw [hc] at h
    cases hi : P.info? t with
    | some i => exact ⟨i, rfl⟩
    | none => simp [hi] at h

/-- what is made of cells -/
theorem mkVal_sound {t : TypeId} {cs : List AV} {v : AV} {vals : List Value} (hm : mkVal P t cs = some v) (hl : vals.length = cs.length) (ha : ∀ u ∈ cs, AtomA u)
    (hv : ∀ (j : Nat) (u : AV) (y : Value), cs[j]? = some u → vals[j]? = some y → VR c u y) :
    ∃ d, P.underlying t = some d ∧ ((aggDesc d = true ∧ VR c v (.agg vals.toArray)) ∨ (aggDesc d = false ∧ ∃ u y, cs = [u] ∧ vals = [y] ∧ v = u ∧ VR c v y)) := by
  unfold mkVal at hm
  cases hd : P.underlying t with
  | none => rw [hd] at hm; cases hm
  | some d =>
    rw [hd] at hm
    simp only at hm
    refine ⟨d, rfl, ?_⟩
    cases hg : aggDesc d with
    | true =>
      rw [hg] at hm
      simp only [cond_true, Option.some.injEq] at hm
      subst hm
      exact .inl ⟨rfl, .agg _ _ (by simp [hl]) ha fun j u y e1 e2 => hv j u y e1 (by simpa using e2)⟩
    | false =>
      rw [hg] at hm
      simp only [cond_false] at hm
      match cs, hm, hl, hv with
      | [u], hm, hl, hv =>
        simp only [Option.some.injEq] at hm
        subst hm
        match vals, hl with
        | [y], _ => exact .inr ⟨rfl, u, y, rfl, rfl, rfl, hv 0 u y rfl rfl⟩

/-- a part of an aggregate -/
theorem partD_sound {t : TypeId} {cs : List AV} {arr : Array Value} {off : Nat} {v : AV} {w : World} (h : partD P t cs off = some v) (hv : VR c (.agg cs) (.agg arr)) :
    ∃ x, (part t arr off).run P w = .ok x w ∧ VR c v x := by
  unfold partD at h
  cases hl : decide (off + P.cellsOf t ≤ cs.length) with
  | false => rw [hl] at h; cases h
  | true =>
    rw [hl] at h
    simp only [cond_true] at h
    simp only [decide_eq_true_eq] at hl
    cases hv with
    | agg _ _ hs ha hv =>
      obtain ⟨d, hd, h1⟩ := mkVal_sound (c := c) (vals := (arr.toList.drop off).take (P.cellsOf t)) h (by simp [hs]) (fun u hu => ha u (List.mem_of_mem_drop (List.mem_of_mem_take hu)))
        (fun j u y e1 e2 => by
          have hj : j < P.cellsOf t := by
            have := (List.getElem?_eq_some_iff.1 e1).1
            simp at this; omega
          rw [List.getElem?_take_of_lt hj, List.getElem?_drop] at e1 e2
          exact hv _ _ _ e1 (by simpa using e2))
      rcases h1 with ⟨hg, hV⟩ | ⟨hg, u, y, e1, e2, rfl, hV⟩
      · refine ⟨_, ?_, hV⟩
        simp only [part, Sem.run_bind, run_isAgg hd, hg, Result.andThen_ok, if_true, run_sizeOf hd, Sem.run_pure]
        congr 2
        apply Array.ext'
        simp [List.extract_eq_take_drop]
      · refine ⟨y, ?_, hV⟩
        have e3 : arr[off]? = some y := by
          have : ((arr.toList.drop off).take (P.cellsOf t))[0]? = some y := by rw [e2]; rfl
          have h0 : 0 < P.cellsOf t := by
            rcases Nat.eq_zero_or_pos (P.cellsOf t) with h0 | h0
            · rw [h0] at e2; simp at e2
            · exact h0
          rw [List.getElem?_take_of_lt h0, List.getElem?_drop] at this
          simpa using this
        simp [part, run_isAgg hd, hg, e3]

theorem bytesLess_eq : ∀ a b, Den.bytesLess a b = Op.bytesLess a b
  | _, [] => by cases ‹List UInt8› <;> rfl
  | [], _ :: _ => rfl
  | a :: x, b :: y => by simp only [Den.bytesLess, Op.bytesLess, bytesLess_eq x y]

theorem toList_data (s : ByteArray) : s.toList = s.data.toList := ByteArray.toList_eq s

/-- equality, by the type -/
theorem eqT_sound : ∀ (d D : Nat), d ≤ D → ∀ {t : TypeId} {x y : AV} {x' y' : Value} {r : Bool} {w : World}, eqT P d t x y = some r → VR c x x' → VR c y y' →
    (Op.equalIn D t x' y').run P w = .ok r w := by
  intro d
  induction d with
  | zero => intro D _ t x y x' y' r w h; simp [eqT] at h
  | succ d ih =>
    intro D hD t x y x' y' r w h hx hy
    obtain ⟨D, rfl⟩ : ∃ E, D = E + 1 := ⟨D - 1, by omega⟩
    unfold eqT at h
    split at h
    · rename_i a b ht
      cases hx.bool_inv; cases hy.bool_inv
      cases h
      exact run_equalIn_bool w D t a b ht
    · rename_i k a k' b ht
      cases hx.int_inv; cases hy.int_inv
      split at h
      · rename_i e
        subst e
        cases h
        exact run_equalIn_int w D t _ _ a b ht
      · cases h
    · rename_i a b ht
      obtain ⟨s, rfl, hs⟩ := hx.str_inv
      obtain ⟨s', rfl, hs'⟩ := hy.str_inv
      cases h
      rw [run_equalIn_string w D t s s' ht, toList_data, toList_data, hs, hs']
    · rename_i fs xs ys ht
      cases hst : P.stoodInHeld t with
      | true => rw [hst] at h; cases h
      | false =>
        rw [hst] at h
        simp only [cond_false] at h
        cases hx with
        | agg _ ax hsx hax hvx =>
          cases hy with
          | agg _ ay hsy hay hvy =>
            have hf : P.fieldsOf t = fs := by simp [Program.fieldsOf, ht]
            rw [run_equalIn_struct w D t ax ay (by rw [hf]; exact ht) hst, hf]
            clear ht hf hst
            generalize fs.toList = l at h
            induction l generalizing r with
            | nil => simp only [eqFs, Option.some.injEq] at h; subst h; rfl
            | cons f l ihl =>
              simp only [eqFs] at h
              simp only [Op.eqFields]
              split at h
              · rename_i hn
                rw [if_pos hn]
                cases ha : partD P f.type xs f.offset with
                | none => rw [ha] at h; cases h
                | some a =>
                  cases hb : partD P f.type ys f.offset with
                  | none => rw [ha, hb] at h; cases h
                  | some b =>
                    rw [ha, hb] at h
                    simp only at h
                    obtain ⟨va, hva, hVa⟩ := partD_sound (w := w) ha (.agg xs ax hsx hax hvx)
                    obtain ⟨vb, hvb, hVb⟩ := partD_sound (w := w) hb (.agg ys ay hsy hay hvy)
                    cases hp : eqT P d f.type a b with
                    | none => rw [hp] at h; cases h
                    | some p =>
                      cases hq : eqFs P (eqT P d) xs ys l with
                      | none => rw [hp, hq] at h; cases h
                      | some q =>
                        rw [hp, hq] at h
                        simp only [Option.some.injEq] at h
                        have e1 := ih D (by omega) (w := w) hp hVa hVb
                        have e2 := ihl hq
                        simp only [Sem.run_bind, hva, hvb, Result.andThen_ok, e1, Sem.run_ite, Sem.run_pure]
                        subst h
                        cases p
                        · rfl
                        · simpa using e2
              · rename_i hn
                rw [if_neg hn]
                exact ihl h
    · cases h

theorem standing_sound (hr : RelH c) {a : AV} {x : Value} (h : standing c.h a = true) (hv : VR c a x) : ∃ ad, x = .pointer (some ad) := by
  unfold standing at h
  split at h
  · rename_i i gen row off
    split at h
    · rename_i cs hi
      simp only [Bool.and_eq_true, beq_iff_eq] at h
      obtain ⟨rfl, rfl⟩ := h
      have hgi : i < c.g.length := by rw [hr.len]; exact (List.getElem?_eq_some_iff.1 hi).1
      have hg : c.g[i]? = some c.g[i] := List.getElem?_eq_getElem hgi
      generalize c.g[i] = gh at hg
      have hO := hr.obj i _ gh hi hg
      cases gh with
      | blk b =>
        cases hv with
        | ptr _ _ _ _ _ _ _ hx => exact ⟨_, hx b off (by simp [Cx.adr, hi, hg])⟩
      | none => exact hO.elim
      | tk => exact hO.elim
    · rename_i z gen' n f hi
      simp only [beq_iff_eq] at h
      subst h
      have hgi : i < c.g.length := by rw [hr.len]; exact (List.getElem?_eq_some_iff.1 hi).1
      have hg : c.g[i]? = some c.g[i] := List.getElem?_eq_getElem hgi
      generalize c.g[i] = gh at hg
      have hO := hr.obj i _ gh hi hg
      cases gh with
      | blk b =>
        cases hv with
        | ptr _ _ _ _ _ _ _ hx => exact ⟨_, hx b (row * z + off) (by simp [Cx.adr, hi, hg])⟩
      | none => exact hO.elim
      | tk => exact hO.elim
    · cases h
  · cases hv; exact ⟨_, rfl⟩
  · cases h

section
variable {t : TypeId} (d : Nat) (w : World)
theorem eqIn_pn {el : TypeId} (h : P.underlying t = some (.pointer el)) (p : Option Addr) : (Op.equalIn (d + 1) t (.pointer none) (.pointer p)).run P w = .ok p.isNone w := by
  cases p <;> simp [Op.equalIn, run_underlying h]
theorem eqIn_np {el : TypeId} (h : P.underlying t = some (.pointer el)) (a : Addr) : (Op.equalIn (d + 1) t (.pointer (some a)) (.pointer none)).run P w = .ok false w := by
  simp [Op.equalIn, run_underlying h]
theorem eqIn_ii {ms : Array (String × TypeId)} (h : P.underlying t = some (.interface ms)) : (Op.equalIn (d + 1) t .nilIface .nilIface).run P w = .ok true w := by
  simp [Op.equalIn, run_underlying h]
theorem eqIn_ij {ms : Array (String × TypeId)} (h : P.underlying t = some (.interface ms)) (u : TypeId) (v : Value) : (Op.equalIn (d + 1) t .nilIface (.iface u v)).run P w = .ok false w := by
  simp [Op.equalIn, run_underlying h]
theorem eqIn_ji {ms : Array (String × TypeId)} (h : P.underlying t = some (.interface ms)) (u : TypeId) (v : Value) : (Op.equalIn (d + 1) t (.iface u v) .nilIface).run P w = .ok false w := by
  simp [Op.equalIn, run_underlying h]
theorem eqIn_ff {ps rs : Array TypeId} {v : Bool} (h : P.underlying t = some (.func ps rs v)) : (Op.equalIn (d + 1) t .nilFunc .nilFunc).run P w = .ok true w := by
  simp [Op.equalIn, run_underlying h]
theorem eqIn_fg {ps rs : Array TypeId} {v : Bool} (h : P.underlying t = some (.func ps rs v)) (f : Fn) (a b : Array Value) : (Op.equalIn (d + 1) t .nilFunc (.func f a b)).run P w = .ok false w := by
  simp [Op.equalIn, run_underlying h]
theorem eqIn_gf {ps rs : Array TypeId} {v : Bool} (h : P.underlying t = some (.func ps rs v)) (f : Fn) (a b : Array Value) : (Op.equalIn (d + 1) t (.func f a b) .nilFunc).run P w = .ok false w := by
  simp [Op.equalIn, run_underlying h]
end

theorem eqT_struct {d : Nat} {t : TypeId} {fs : Array Field} {x y : AV} {r : Bool} (ht : P.underlying t = some (.struct fs)) (h : eqT P d t x y = some r) :
    ∃ xs ys, x = .agg xs ∧ y = .agg ys := by
  cases d with
  | zero => cases h
  | succ d =>
    unfold eqT at h
    rw [ht] at h
    cases x with
    | agg xs =>
      cases y with
      | agg ys => exact ⟨xs, ys, rfl, rfl⟩
      | _ => cases h
    | _ => cases h

theorem eqT_bool {d : Nat} {t : TypeId} {x y : AV} {r : Bool} (ht : P.underlying t = some .bool) (h : eqT P d t x y = some r) : ∃ a b, x = .bool a ∧ y = .bool b := by
  cases d with
  | zero => cases h
  | succ d =>
    unfold eqT at h
    rw [ht] at h
    cases x with
    | bool a =>
      cases y with
      | bool b => exact ⟨a, b, rfl, rfl⟩
      | _ => cases h
    | _ => cases h

/-- '==' at the top -/
theorem eqTop_sound (hr : RelH c) {t : TypeId} {x y : AV} {x' y' : Value} {k : Bool} {r : Bool} (h : eqTop P c.h t x y k = some r) (hx : VR c x x') (hy : VR c y y') :
    (Op.equal t x' y').run P c.w = .ok r c.w ∧ (∀ (op : BinOp) (ox oy : Operand), (k = true → (isConstO ox || isConstO oy) = true) → (eqGuard op t ox oy x' y').run P c.w = .ok () c.w) ∧
      binOp .eql t x' y' = (do pure (.bool (← Op.equal t x' y'))) ∧ binOp .neq t x' y' = (do pure (.bool (!(← Op.equal t x' y')))) := by
  have guard0 : ∀ (op : BinOp) (ox oy : Operand) (a b : Value), (∀ xs ys, ¬ (a = .agg xs ∧ b = .agg ys)) → ¬ (a = .nilIface ∧ b = .nilIface) → (eqGuard op t ox oy a b).run P c.w = .ok () c.w := by
    intro op ox oy a b h1 h2
    unfold eqGuard
    cases hop : (!(op matches .eql | .neq)) with
    | true => cases op <;> simp at hop ⊢
    | false =>
      cases op <;> simp at hop ⊢ <;> (cases a <;> cases b <;> first | rfl | exact absurd ⟨rfl, rfl⟩ h2 | exact absurd ⟨rfl, rfl⟩ (h1 _ _))
  unfold eqTop at h
  cases ht : P.underlying t with
  | none => rw [ht] at h; cases h
  | some d =>
    rw [ht] at h
    cases d with
    | pointer el =>
      simp only at h
      split at h
      · cases h; cases hx; cases hy
        exact ⟨by first | exact eqIn_pn 9999 c.w ht _ | exact eqIn_np 9999 c.w ht _ | exact eqIn_ij 9999 c.w ht _ _ | exact eqIn_ji 9999 c.w ht _ _ | exact eqIn_ff 9999 c.w ht | exact eqIn_fg 9999 c.w ht _ _ _ | exact eqIn_gf 9999 c.w ht _ _ _, fun op ox oy _ => guard0 op ox oy _ _ (by rintro xs ys ⟨h, _⟩; cases h) (by rintro ⟨h, _⟩; cases h), rfl, rfl⟩
      · cases hs : standing c.h y with
        | false => rw [hs] at h; cases h
        | true =>
          rw [hs] at h
          obtain ⟨ad, rfl⟩ := standing_sound hr hs hy
          cases h; cases hx
          exact ⟨by first | exact eqIn_pn 9999 c.w ht _ | exact eqIn_np 9999 c.w ht _ | exact eqIn_ij 9999 c.w ht _ _ | exact eqIn_ji 9999 c.w ht _ _ | exact eqIn_ff 9999 c.w ht | exact eqIn_fg 9999 c.w ht _ _ _ | exact eqIn_gf 9999 c.w ht _ _ _, fun op ox oy _ => guard0 op ox oy _ _ (by rintro xs ys ⟨h, _⟩; cases h) (by rintro ⟨h, _⟩; cases h), rfl, rfl⟩
      · cases hs : standing c.h x with
        | false => rw [hs] at h; cases h
        | true =>
          rw [hs] at h
          obtain ⟨ad, rfl⟩ := standing_sound hr hs hx
          cases h; cases hy
          exact ⟨by first | exact eqIn_pn 9999 c.w ht _ | exact eqIn_np 9999 c.w ht _ | exact eqIn_ij 9999 c.w ht _ _ | exact eqIn_ji 9999 c.w ht _ _ | exact eqIn_ff 9999 c.w ht | exact eqIn_fg 9999 c.w ht _ _ _ | exact eqIn_gf 9999 c.w ht _ _ _, fun op ox oy _ => guard0 op ox oy _ _ (by rintro xs ys ⟨h, _⟩; cases h) (by rintro ⟨h, _⟩; cases h), rfl, rfl⟩
      · cases h
    | interface ms =>
      simp only at h
      split at h
      · cases hk : k with
        | false => rw [hk] at h; cases h
        | true =>
          rw [hk] at h
          cases h; cases hx; cases hy
          refine ⟨eqIn_ii 9999 c.w ht, fun op ox oy hc => ?_, rfl, rfl⟩
          have hc := hc rfl
          unfold eqGuard
          cases op <;> simp <;> (cases ox <;> cases oy <;> simp [isConstO] at hc ⊢)
      · cases h; cases hx; cases hy
        exact ⟨by first | exact eqIn_pn 9999 c.w ht _ | exact eqIn_np 9999 c.w ht _ | exact eqIn_ij 9999 c.w ht _ _ | exact eqIn_ji 9999 c.w ht _ _ | exact eqIn_ff 9999 c.w ht | exact eqIn_fg 9999 c.w ht _ _ _ | exact eqIn_gf 9999 c.w ht _ _ _, fun op ox oy _ => guard0 op ox oy _ _ (by rintro xs ys ⟨h, _⟩; cases h) (by rintro ⟨_, h⟩; cases h), rfl, rfl⟩
      · cases h; cases hx; cases hy
        exact ⟨by first | exact eqIn_pn 9999 c.w ht _ | exact eqIn_np 9999 c.w ht _ | exact eqIn_ij 9999 c.w ht _ _ | exact eqIn_ji 9999 c.w ht _ _ | exact eqIn_ff 9999 c.w ht | exact eqIn_fg 9999 c.w ht _ _ _ | exact eqIn_gf 9999 c.w ht _ _ _, fun op ox oy _ => guard0 op ox oy _ _ (by rintro xs ys ⟨h, _⟩; cases h) (by rintro ⟨h, _⟩; cases h), rfl, rfl⟩
      · cases h
    | func ps rs v =>
      simp only at h
      split at h
      · cases h; cases hx; cases hy
        exact ⟨by first | exact eqIn_pn 9999 c.w ht _ | exact eqIn_np 9999 c.w ht _ | exact eqIn_ij 9999 c.w ht _ _ | exact eqIn_ji 9999 c.w ht _ _ | exact eqIn_ff 9999 c.w ht | exact eqIn_fg 9999 c.w ht _ _ _ | exact eqIn_gf 9999 c.w ht _ _ _, fun op ox oy _ => guard0 op ox oy _ _ (by rintro xs ys ⟨h, _⟩; cases h) (by rintro ⟨h, _⟩; cases h), rfl, rfl⟩
      · cases h; cases hx; cases hy
        exact ⟨by first | exact eqIn_pn 9999 c.w ht _ | exact eqIn_np 9999 c.w ht _ | exact eqIn_ij 9999 c.w ht _ _ | exact eqIn_ji 9999 c.w ht _ _ | exact eqIn_ff 9999 c.w ht | exact eqIn_fg 9999 c.w ht _ _ _ | exact eqIn_gf 9999 c.w ht _ _ _, fun op ox oy _ => guard0 op ox oy _ _ (by rintro xs ys ⟨h, _⟩; cases h) (by rintro ⟨h, _⟩; cases h), rfl, rfl⟩
      · cases h; cases hx; cases hy
        exact ⟨by first | exact eqIn_pn 9999 c.w ht _ | exact eqIn_np 9999 c.w ht _ | exact eqIn_ij 9999 c.w ht _ _ | exact eqIn_ji 9999 c.w ht _ _ | exact eqIn_ff 9999 c.w ht | exact eqIn_fg 9999 c.w ht _ _ _ | exact eqIn_gf 9999 c.w ht _ _ _, fun op ox oy _ => guard0 op ox oy _ _ (by rintro xs ys ⟨h, _⟩; cases h) (by rintro ⟨h, _⟩; cases h), rfl, rfl⟩
      · cases h
    | bool =>
      simp only at h
      have e := eqT_sound 12 Op.maxDepth (by unfold Op.maxDepth; omega) (w := c.w) h hx hy
      obtain ⟨a, b, rfl, rfl⟩ := eqT_bool ht h
      cases hx; cases hy
      exact ⟨e, fun op ox oy _ => guard0 op ox oy _ _ (by rintro xs ys ⟨h, _⟩; cases h) (by rintro ⟨h, _⟩; cases h), rfl, rfl⟩
    | struct fs =>
      simp only at h
      cases hgd : P.eqGuardType P.depth t with
      | true => rw [hgd] at h; cases h
      | false =>
        rw [hgd] at h
        simp only [cond_false] at h
        have e := eqT_sound 12 Op.maxDepth (by unfold Op.maxDepth; omega) (w := c.w) h hx hy
        refine ⟨e, fun op ox oy _ => ?_, ?_⟩
        · obtain ⟨xs, ys, rfl, rfl⟩ := eqT_struct ht h
          cases hx; cases hy
          exact run_eqGuard_agg c.w op t ox oy _ _ hgd
        · obtain ⟨xs, ys, rfl, rfl⟩ := eqT_struct ht h
          cases hx; cases hy
          exact ⟨rfl, rfl⟩
    | _ => cases h

end
end Go.Den