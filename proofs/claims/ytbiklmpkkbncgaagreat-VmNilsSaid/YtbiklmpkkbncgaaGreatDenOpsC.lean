/- Go's slices.Clone, known by its text: what a call of it comes to. -/
import Derived.Test.YtbiklmpkkbncgaaGreatDenOps12
set_option linter.unusedSimpArgs false
set_option linter.unusedVariables false
set_option linter.unnecessarySimpa false
namespace Go.Den
open Go

/-- in new memory, or nil -/
def CloneR (w : World) (z m : Nat) (vals : List Value) (e : Ending) (w' : World) : Prop :=
  ∃ base cap, e = .returned (.slice base m cap) ∧ m ≤ cap ∧ (m = 0 → cap = 0) ∧ w'.os = w.os ∧ w'.tape = w.tape ∧ w'.output = w.output ∧ w.heap.size ≤ w'.heap.size ∧ (∀ b, b < w.heap.size → w'.heap[b]? = w.heap[b]?) ∧
    ((base = none ∧ m = 0 ∧ cap = 0) ∨
      ∃ b arr ty, base = some ⟨b, 0, none⟩ ∧ w.heap.size ≤ b ∧ w'.heap[b]? = some (.cells arr ty (0, 0)) ∧ cap * z ≤ arr.size ∧ ∀ (q : Nat) (v : Value), vals[q]? = some v → (arr : Array Value)[q]? = some v)

section
variable {P : Program} {c : Cx}

theorem isO_inv {d : Nat} {p : Op → Bool} {o : Oper} (h : isO d p o = true) : o.guard = none ∧ o.dst = some d ∧ p o.op = true := by
  simp only [isO, Bool.and_eq_true, Option.isNone_iff_eq_none, beq_iff_eq] at h
  exact ⟨h.1.1, h.1.2, h.2⟩

theorem pNil_inv {o : Op} (h : pNil o = true) : o = .assign (.const (.slice none 0 0)) := by
  unfold pNil at h; split at h
  · rfl
  · cases h
theorem pMove_inv {o : Op} (h : pMove o = true) : o = .move (.tmp 0) := by
  unfold pMove at h; split at h
  · rfl
  · cases h
theorem pEq_inv {t : TypeId} {o : Op} (h : pEq t o = true) : ∃ rt, o = .binOp .eql t (.tmp 3) (.const (.slice none 0 0)) rt := by
  unfold pEq at h; split at h
  · rw [beq_iff_eq] at h; subst h; exact ⟨_, rfl⟩
  · cases h
theorem pBuild_inv {t : TypeId} {o : Op} (h : pBuild t o = true) : o = .buildSlice t 0 #[] := by
  unfold pBuild at h; split at h
  · simp only [Bool.and_eq_true, beq_iff_eq] at h
    obtain ⟨rfl, h⟩ := h
    rw [Array.size_eq_zero_iff.1 h]
  · cases h
theorem pApp_inv {t : TypeId} {o : Op} (h : pApp t o = true) : o = .call ⟨.builtin .append, #[.tmp 5, .tmp 6], #[t, t]⟩ := by
  unfold pApp at h; split at h
  · rename_i as ts
    split at h
    · rename_i a b e1 e2
      simp only [Bool.and_eq_true, beq_iff_eq] at h
      obtain ⟨rfl, rfl⟩ := h
      have h1 : as = #[Operand.tmp 5, Operand.tmp 6] := by rw [← e1]
      have h2 : ts = #[b, b] := by rw [← e2]
      rw [h1, h2]
    · cases h
  · cases h
theorem pLast_inv {o : Op} (h : pLast o = true) : o = .assign (.tmp 7) := by
  unfold pLast at h; split at h
  · rfl
  · cases h

theorem range1 : List.range 1 = [0] := rfl
theorem range2 : List.range 2 = [0, 1] := rfl
theorem range4 : List.range 4 = [0, 1, 2, 3] := rfl

theorem eqIn_slice {t el : TypeId} (ht : P.underlying t = some (.slice el)) (d : Nat) (base : Option Addr) (n cap : Nat) (w : World) : (Op.equalIn (d + 1) t (.slice base n cap) (.slice none 0 0)).run P w = .ok base.isNone w := by
  cases base <;> simp [Op.equalIn, run_underlying ht]

theorem run_eq_nil {t el : TypeId} (ht : P.underlying t = some (.slice el)) {x y : Operand} (base : Option Addr) (n cap : Nat) (w : World) :
    (do eqGuard .eql t x y (.slice base n cap) (.slice none 0 0); binOp .eql t (.slice base n cap) (.slice none 0 0) : Sem Value).run P w = .ok (.bool base.isNone) w := by
  have h1 : (eqGuard .eql t x y (.slice base n cap) (.slice none 0 0)).run P w = .ok () w := rfl
  have h2 : binOp .eql t (.slice base n cap) (.slice none 0 0) = (do pure (.bool (← Op.equal t (.slice base n cap) (.slice none 0 0)))) := rfl
  have h3 : (Op.equal t (.slice base n cap) (.slice none 0 0)).run P w = .ok base.isNone w := eqIn_slice ht _ base n cap w
  rw [h2]
  simp only [Sem.run_bind, h1, Result.andThen_ok, h3, Sem.run_pure]

theorem wanted_none {o : Oper} {y : Nat → Option Bool} (h : o.guard = none) : Region.wanted o y = true := by simp [Region.wanted, h]

theorem clone_calls (hr : RelH c) {g : FuncId} {el : TypeId} (hc : isClone P g = some el) {m : Nat} {rows : Fin m → Row} {base : Option Addr} {cap : Nat} {vals : List Value} (hz : sized P el (P.cellsOf el) = true) (hzero : ∃ zs, zeroT P el = some zs)
    (hsrc : Src P c (P.cellsOf el) m rows (.slice base m cap) vals) (hb0 : base = none → m = 0) (hroom : roomy m (P.bytesOf el) = true) :
    (∃ fn, P.funcs[g]? = some fn ∧ fn.body.isSome = true) ∧ Calls P g #[.slice base m cap] c.w (CloneR c.w (P.cellsOf el) m vals) := by
  unfold isClone at hc
  split at hc
  · rename_i fn hfn
    split at hc
    · rename_i code t hbody hpar hres
      cases hcd : (fn.ntmps == 8 && cloneCode t code) with
      | false => rw [hcd] at hc; cases hc
      | true =>
        rw [hcd] at hc
        simp only [cond_true] at hc
        simp only [Bool.and_eq_true, beq_iff_eq] at hcd
        obtain ⟨hnt, hcode⟩ := hcd
        have ht : P.underlying t = some (.slice el) := elemOf_some hc
        refine ⟨⟨fn, hfn, by simp [hbody]⟩, calls_of_runs hfn hbody fun cs => ?_⟩
        unfold cloneCode at hcode
        split at hcode
        · rename_i i1 ra i2 rb i3 rc i4 rd
          split at hcode
          · rename_i o1 o2 o3 o4 o5 o6 o7 o8 e1 e2 e3 e4
            have e1 : ra = #[o1] := by rw [← e1]
            have e2 : rb = #[o2, o3] := by rw [← e2]
            have e3 : rc = #[o4] := by rw [← e3]
            have e4 : rd = #[o5, o6, o7, o8] := by rw [← e4]
            subst e1 e2 e3 e4
            simp only [Bool.and_eq_true] at hcode
            obtain ⟨⟨⟨⟨⟨⟨⟨h1, h2⟩, h3⟩, h4⟩, h5⟩, h6⟩, h7⟩, h8⟩ := hcode
            obtain ⟨g1, d1, p1⟩ := isO_inv h1
            obtain ⟨g2, d2, p2⟩ := isO_inv h2
            obtain ⟨g3, d3, p3⟩ := isO_inv h3
            obtain ⟨g4, d4, p4⟩ := isO_inv h4
            obtain ⟨g5, d5, p5⟩ := isO_inv h5
            obtain ⟨g6, d6, p6⟩ := isO_inv h6
            obtain ⟨g7, d7, p7⟩ := isO_inv h7
            obtain ⟨g8, d8, p8⟩ := isO_inv h8
            have hresults : ∀ (tm : Array Value) (v : Value) (w : World), tm[2]? = some v → (results fn tm).run P w = .ok v w := by
              intro tm v w hv
              have : fn.results = #[.tmp 2] := by rw [← hres]
              simp [results, this, hv]
            let T0 : Act := { tmps := #[.slice base m cap] ++ Array.replicate (fn.ntmps - (#[Value.slice base m cap] : Array Value).size) undef, defers := [] }
            have hT0 : T0 = { tmps := #[.slice base m cap, undef, undef, undef, undef, undef, undef, undef], defers := [] } := by
              simp only [T0, hnt]; rfl
            show Runs P .normal _ _ T0 cs c.w
            rw [hT0]
            have p1 := pNil_inv p1
            have p2 := pMove_inv p2
            obtain ⟨rt, p3⟩ := pEq_inv p3
            have p4 := pNil_inv p4
            have p5 := pBuild_inv p5
            have p6 := pMove_inv p6
            have p7 := pApp_inv p7
            have p8 := pLast_inv p8
            have q1 : ∀ (a : Act) w, (execOp a.eval o1).run P w = .ok (.value (.slice none 0 0)) w := fun a w => by simp [execOp, Act.eval, p1]
            have q2 : ∀ (a : Act) (v : Value) w, a.tmps[0]? = some v → (execOp a.eval o2).run P w = .ok (.value v) w := fun a v w hv => by simp [execOp, Act.eval, p2, hv]
            have q3 : ∀ (a : Act) b n cp w, a.tmps[3]? = some (.slice b n cp) → (execOp a.eval o3).run P w = .ok (.value (.bool b.isNone)) w := by
              intro a b n cp w hv
              have h3 := run_eq_nil (P := P) ht (x := .tmp 3) (y := .const (.slice none 0 0)) b n cp w
              have e : a.eval (.tmp 3) = .slice b n cp := by simp [Act.eval, hv]
              have e' : a.eval (.const (.slice none 0 0)) = .slice none 0 0 := rfl
              simp only [execOp, p3, e, e', Sem.run_bind] at h3 ⊢
              rw [h3]
              rfl
            have q4 : ∀ (a : Act) w, (execOp a.eval o4).run P w = .ok (.value (.slice none 0 0)) w := fun a w => by simp [execOp, Act.eval, p4]
            have q6 : ∀ (a : Act) (v : Value) w, a.tmps[0]? = some v → (execOp a.eval o6).run P w = .ok (.value v) w := fun a v w hv => by simp [execOp, Act.eval, p6, hv]
            have q8 : ∀ (a : Act) (v : Value) w, a.tmps[7]? = some v → (execOp a.eval o8).run P w = .ok (.value v) w := fun a v w hv => by simp [execOp, Act.eval, p8, hv]
            have ret : ∀ (a : Act) (b : Option Addr) (cp : Nat) (w' : World), a.defers = [] → a.tmps[2]? = some (.slice b m cp) → CloneR c.w (P.cellsOf el) m vals (.returned (.slice b m cp)) w' →
                bodyPostD P fn (CloneR c.w (P.cellsOf el) m vals) .ret a w' := by
              intro a b cp w' hd hv hR
              show Leaves P fn a.tmps _ a.defers .returning w'
              rw [hd]
              exact ⟨_, hresults _ _ _ hv, hR⟩
            refine Runs.seq (Runs.region ?_)
            rw [show List.range (#[o1] : Array Oper).size = [0] from rfl]
            refine Runs.op_value (o := o1) rfl (wanted_none g1) (q1 _ _) (Runs.op_nil ?_)
            simp only [d1, Act.put, onNormal]
            refine Runs.seq (Runs.seq (Runs.region ?_))
            rw [show List.range (#[o2, o3] : Array Oper).size = [0, 1] from rfl]
            refine Runs.op_value (o := o2) rfl (wanted_none g2) (q2 _ (.slice base m cap) _ rfl) (Runs.op_value (o := o3) rfl (wanted_none g3) (q3 _ base m cap _ (by simp [d2, Act.put])) (Runs.op_nil ?_))
            refine Runs.cond (t := base.isNone) (by simp [d2, d3, Act.put, Act.eval]) ?_
            cases base with
            | none =>
              have hm0 := hb0 rfl
              subst hm0
              simp only [Option.isNone_none, if_true]
              refine Runs.seq (Runs.region ?_)
              rw [show List.range (#[o4] : Array Oper).size = [0] from rfl]
              refine Runs.op_value (o := o4) rfl (wanted_none g4) (q4 _ _) (Runs.op_nil ?_)
              simp only [d4, Act.put, onNormal]
              refine Runs.ret ⟨rfl, ret _ none 0 _ ?_ ?_ ⟨none, 0, rfl, Nat.le_refl _, fun _ => rfl, rfl, rfl, rfl, Nat.le_refl _, fun _ _ => rfl, .inl ⟨rfl, rfl, rfl⟩⟩⟩
              · simp [Act.put, d2, d3]
              · simp [Act.put, d2, d3]
            | some ad =>
              simp only [Option.isNone_some, Bool.false_eq_true, if_false]
              refine Runs.skip ?_
              simp only [onNormal]
              refine Runs.seq (Runs.region ?_)
              rw [show List.range (#[o5, o6, o7, o8] : Array Oper).size = [0, 1, 2, 3] from rfl]
              -- an empty row
              obtain ⟨zs, hzs⟩ := hzero
              obtain ⟨ti, hti⟩ : ∃ i, P.info? el = some i := by
                unfold sized at hz
                cases hi : P.info? el with
                | none => rw [hi] at hz; cases hz
                | some i => exact ⟨i, rfl⟩
              have hbuild : ∀ a : Act, (execOp a.eval o5).run P c.w = .ok (.value (.slice (some ⟨c.w.heap.size, 0, none⟩) 0 0)) (c.w.alloc (.cells #[] el)) := by
                intro a
                have hsz : (sizeOf el).run P c.w = .ok ti.size c.w := by simp [sizeOf, run_typeInfo hti]
                simp only [execOp, p5, Instr.buildSlice, Sem.run_bind, run_underlying ht, Result.andThen_ok, hsz, Nat.zero_mul]
                simp [Instr.fill, newRow, show Array.range 0 = #[] from rfl]
              let w1 := c.w.alloc (.cells #[] el)
              have hw1 : w1.heap.size = c.w.heap.size + 1 := by show (c.w.heap.push _).size = _; simp
              have hold1 : ∀ b, b < c.w.heap.size → w1.heap[b]? = c.w.heap[b]? := fun b hb => by show (c.w.heap.push _)[b]? = _; exact heap_push_lt hb
              refine Runs.op_value (o := o5) rfl (wanted_none g5) (hbuild _) ?_
              refine Runs.op_value (o := o6) rfl (wanted_none g6) (q6 _ (.slice (some ad) m cap) _ (by simp [d2, d3, d5, Act.put])) ?_
              -- what is appended
              have hcell1 : ∀ a, w1.cell? a = c.w.cell? a := by
                intro a
                unfold World.cell?
                by_cases h : a.block = c.w.heap.size
                · have h1 : w1.heap[a.block]? = some (.cells #[] el (0, 0)) := by
                    show (c.w.heap.push _)[a.block]? = _
                    rw [h]; simp
                  have h2 : c.w.heap[a.block]? = none := by rw [h]; simp
                  rw [h1, h2]
                  simp
                · have : w1.heap[a.block]? = c.w.heap[a.block]? := by
                    show (c.w.heap.push _)[a.block]? = _
                    rw [Array.getElem?_push, if_neg h]
                  rw [this]
              have hE1 := (evol_alloc hr (.cells #[] el)).1.ext
              have hsrc1 : Src P { c with w := w1 } (P.cellsOf el) m rows (.slice (some ad) m cap) vals :=
                ⟨hsrc.len, hsrc.row, hsrc.atomA, fun i j u hu => let ⟨v, e1, e2⟩ := hsrc.val i j u hu; ⟨v, e1, e2.ext hE1⟩, hsrc.atom, hsrc.lenOf, fun w hw => hsrc.cells w fun a => (hw a).trans (hcell1 a)⟩
              obtain ⟨R1, R2⟩ := run_append (P := P) (c := { c with w := w1 }) (ty := o7.type) (base := some ⟨c.w.heap.size, 0, none⟩) (n := 0) (cap := 0) (olds := []) ht ht hz hsrc1
                (fun w hw => by simp [Builtin.firstCells, loadCells, loadCellsFrom]) (by rw [Nat.zero_add]; exact hroom) ⟨zs, hzs⟩
              have hex : ∀ {a : Act} {v : Value} {w' : World}, a.tmps[5]? = some (.slice (some ⟨c.w.heap.size, 0, none⟩) 0 0) → a.tmps[6]? = some (.slice (some ad) m cap) →
                  (Builtin.append_ #[t, t] o7.type #[.slice (some ⟨c.w.heap.size, 0, none⟩) 0 0, .slice (some ad) m cap]).run P w1 = .ok v w' → (execOp a.eval o7).run P w1 = .ok (.value v) w' := by
                intro a v w' h5 h6 hx
                rw [execOp_builtin p7 rfl]
                have e5 : a.eval (.tmp 5) = .slice (some ⟨c.w.heap.size, 0, none⟩) 0 0 := by simp [Act.eval, h5]
                have e6 : a.eval (.tmp 6) = .slice (some ad) m cap := by simp [Act.eval, h6]
                simp only [builtin, List.map_toArray, List.map_cons, List.map_nil, e5, e6]
                simp [hx]
              have key : ∃ b cp w', (Builtin.append_ #[t, t] o7.type #[.slice (some ⟨c.w.heap.size, 0, none⟩) 0 0, .slice (some ad) m cap]).run P w1 = .ok (.slice (some b) m cp) w' ∧
                  CloneR c.w (P.cellsOf el) m vals (.returned (.slice (some b) m cp)) w' := by
                by_cases hm0 : m = 0
                · subst hm0
                  have hv0 : vals = [] := by have := hsrc.len; simpa using this
                  refine ⟨_, _, w1, R1 (by omega) w1 (by rw [hv0]; simp [storeCells]), ?_⟩
                  exact ⟨_, _, rfl, Nat.le_refl _, fun _ => rfl, rfl, rfl, rfl, by omega, hold1, .inr ⟨c.w.heap.size, #[], el, rfl, Nat.le_refl _, by show (c.w.heap.push _)[c.w.heap.size]? = _; simp, by simp, fun q v hq => by rw [hv0] at hq; simp at hq⟩⟩
                · obtain ⟨newCap, rest, h1, h2, h3⟩ := R2 (by omega)
                  rw [Nat.zero_add] at h1 h2 h3
                  refine ⟨_, _, _, h3, ?_⟩
                  refine ⟨_, _, rfl, h1, fun e => absurd e hm0, rfl, rfl, rfl, ?_, ?_, .inr ⟨w1.heap.size, ([] : List Value).toArray ++ vals.toArray ++ rest.toArray, el, rfl, by omega, by show (w1.heap.push _)[w1.heap.size]? = _; simp, ?_, ?_⟩⟩
                  · show c.w.heap.size ≤ (w1.heap.push _).size
                    simp only [Array.size_push]; omega
                  · intro b hb
                    show (w1.heap.push _)[b]? = _
                    rw [heap_push_lt (by omega)]
                    exact hold1 b hb
                  · simp only [Array.size_append, List.size_toArray, List.length_nil, hsrc.len, h2]
                    have : newCap * P.cellsOf el = m * P.cellsOf el + (newCap - m) * P.cellsOf el := by rw [← Nat.add_mul]; congr 1; omega
                    omega
                  · intro q v hq
                    have hlt := (List.getElem?_eq_some_iff.1 hq).1
                    have hh : ([] : List Value).toArray ++ vals.toArray ++ rest.toArray = (vals ++ rest).toArray := by simp
                    rw [hh, List.getElem?_toArray, List.getElem?_append_left hlt]
                    exact hq
              obtain ⟨b, cp, w', k1, k2⟩ := key
              refine Runs.op_value (o := o7) rfl (wanted_none g7) (hex (by simp [Act.put, d2, d3, d5, d6]) (by simp [Act.put, d2, d3, d5, d6]) k1) ?_
              refine Runs.op_value (o := o8) rfl (wanted_none g8) (q8 _ (.slice (some b) m cp) _ (by simp [Act.put, d2, d3, d5, d6, d7])) (Runs.op_nil ?_)
              refine Runs.ret ⟨rfl, ret _ (some b) cp _ ?_ ?_ k2⟩
              · simp [Act.put, d2, d3, d5, d6, d7, d8]
              · simp [Act.put, d2, d3, d5, d6, d7, d8]
          · cases hcode
        · cases hcode
    · cases hc
  · cases hc

/-- what comes of a copy, as the second reading has it -/
theorem cloneD_sound (hr : RelH c) {z m bytes : Nat} {g : Fin m → Row} {x : Value} {vals : List Value} {mt : Bool} {nw : Option Nat} {k : AV → List Den.Obj → R} {out : Out} (hsrc : Src P c z m g x vals) (hpure : ∀ i, ∀ u ∈ g i, PureA u)
    (h : cloneD nw c.h mt z bytes m g k = some out) {e : Ending} {w' : World} (hR : CloneR c.w z m vals e w') :
    ∃ v h' c' y, k v h' = some out ∧ c'.w = w' ∧ c'.h = h' ∧ Evol c c' ∧ RelH c' ∧ e = .returned y ∧ VR c' v y := by
  obtain ⟨base, cap, rfl, hle, hz0, ho, ht, hu, hs, hb, hcase⟩ := hR
  unfold cloneD at h
  cases hroom : roomy m bytes with
  | false => rw [hroom] at h; cases h
  | true =>
    rw [hroom] at h
    simp only [cond_true] at h
    have hcells : ∀ {b : Nat} {arr : Array Value} {ty : TypeId}, base = some ⟨b, 0, none⟩ → w'.heap[b]? = some (.cells arr ty (0, 0)) → (∀ (q : Nat) (v : Value), vals[q]? = some v → arr[q]? = some v) →
        ∀ q, q < m * z → w'.cell? ⟨b, 0 + q, none⟩ = vals[q]? := by
      intro b arr ty _ h1 h2 q hq
      have hv : vals[q]? = some (vals[q]'(by rw [hsrc.len]; exact hq)) := List.getElem?_eq_getElem _
      simp only [World.cell?, h1, Option.isSome_none, Bool.false_eq_true, if_false, Nat.zero_add]
      rw [hv]
      exact h2 q _ hv
    cases mt with
    | false =>
      simp only [cond_false] at h
      obtain ⟨i, h', hn, hk, _⟩ := newD_eq h
      have hnoown : ∀ b off, ownI (.tok m) (.tk base cap z) b off → c.w.heap.size ≤ b := by
        intro b off h
        cases base with
        | none => exact h.elim
        | some ad =>
          rcases hcase with ⟨e, _, _⟩ | ⟨b', arr, ty, e, h1, _⟩
          · cases e
          · cases e
            simp only [ownI] at h
            omega
      have htokR : ∀ {c' : Cx}, c'.w = w' → ObjR c' (.tok m) (.tk base cap z) := by
        intro c' hw
        refine ⟨hle, fun e => ?_, fun ad e => ?_⟩
        · rcases hcase with ⟨_, _, h⟩ | ⟨b, arr, ty, e', _⟩
          · exact h
          · rw [e] at e'; cases e'
        · rcases hcase with ⟨e', _⟩ | ⟨b, arr, ty, e', h1, h2, h3, _⟩
          · rw [e] at e'; cases e'
          · rw [e] at e'; cases e'
            exact ⟨fun _ => rfl, fun _ _ => ⟨arr, ty, by rw [hw]; exact h2, by simpa using h3⟩⟩
      obtain ⟨g', hg, hh, hE, hR, hoth⟩ := evol_new hr (w' := w') ho ht hu hs hb hn (.tk base cap z) hnoown
        (fun g' _ _ hE => htokR rfl)
      refine ⟨_, _, _, _, hk, rfl, rfl, hE, hR, rfl, ?_⟩
      refine .sl z _ m g base cap (fun i j => vals.getD (i * z + j) undef) hle (fun e => by cases e) hsrc.row (fun i u hu => ⟨hpure i u hu, hsrc.atomA i u hu⟩) (fun e => ?_) (fun ad e _ => ?_) ?_ ?_ ?_
      · rcases hcase with ⟨_, h1, h2⟩ | ⟨b, arr, ty, e', _⟩
        · exact ⟨h1, h2⟩
        · rw [e] at e'; cases e'
      · rcases hcase with ⟨e', _⟩ | ⟨b, arr, ty, e', _⟩
        · rw [e] at e'; cases e'
        · rw [e] at e'; cases e'; rfl
      · intro r j hj ad e
        rcases hcase with ⟨e', _⟩ | ⟨b, arr, ty, e', h1, h2, h3, h4⟩
        · rw [e] at e'; cases e'
        · rw [e] at e'
          cases e'
          obtain ⟨hq, _, _⟩ := flat_at (z := z) r.2 hj
          rw [Nat.add_assoc]
          refine ⟨⟨fun hF => ?_, ?_⟩, ?_⟩
          · have hF' : c.Fr b (0 + (r.1 * z + j)) := hF
            have := hr.bd _ _ hF'; omega
          · rintro ⟨i', o', gh, f1, f2, f3⟩
            by_cases hi : i' = i
            · subst hi
              have f1 : h'[i']? = some o' := f1
              have f2 : g'[i']? = some gh := f2
              rw [hh] at f1; rw [hg] at f2
              cases f1; cases f2
              rw [e] at f3
              simp only [ownI] at f3
              omega
            · obtain ⟨e1, e2⟩ := hoth i' hi
              have : b < c.w.heap.size := ownI_lt (hr.obj i' o' gh (e1.symm.trans f1) (e2.symm.trans f2)) f3
              omega
          · rw [hcells e h2 h4 _ hq, List.getD_eq_getElem?_getD, List.getElem?_eq_getElem (by rw [hsrc.len]; exact hq)]
            rfl
      · intro r j u hu
        obtain ⟨v, e1, e2⟩ := hsrc.val r j u hu
        simp only [List.getD_eq_getElem?_getD, e1, Option.getD_some]
        exact e2.ext hE.ext
      · intro i' e
        cases e
        refine ⟨⟨_, hh, trivial⟩, fun N a' cap' z' e1 e2 => ?_⟩
        rw [hg] at e2
        cases e2
        rw [hh] at e1
        cases e1
        exact ⟨Nat.le_refl _, fun _ => ⟨rfl, rfl, rfl⟩⟩
    | true =>
      simp only [cond_true] at h
      cases hm : m == 0 with
      | true =>
        rw [hm] at h
        simp only [cond_true] at h
        rw [beq_iff_eq] at hm
        subst hm
        obtain ⟨hE, hR⟩ := evol_world hr ho ht hu hs hb
        refine ⟨_, _, { c with w := w' }, _, h, rfl, rfl, hE, hR, rfl, ?_⟩
        refine .sl z _ 0 g base cap (fun _ _ => undef) hle (fun _ => hz0 rfl) hsrc.row (fun i u hu => ⟨hpure i u hu, hsrc.atomA i u hu⟩) (fun e => ⟨rfl, ?_⟩) (fun ad e _ => ?_) (fun i => i.elim0) (fun i => i.elim0) (fun i e => by cases e)
        · rcases hcase with ⟨_, _, h⟩ | ⟨b, arr, ty, e', _⟩
          · exact h
          · rw [e] at e'; cases e'
        · rcases hcase with ⟨e', _⟩ | ⟨b, arr, ty, e', _⟩
          · rw [e] at e'; cases e'
          · rw [e] at e'; cases e'; rfl
      | false =>
        rw [hm] at h
        simp only [cond_false] at h
        have hm : m ≠ 0 := by simpa using hm
        obtain ⟨i, h', hn, hk, _⟩ := newD_eq h
        rcases hcase with ⟨_, h0, _⟩ | ⟨b, arr, ty, rfl, h1, h2, h3, h4⟩
        · exact absurd h0 hm
        obtain ⟨g', hg, hh, hE, hR, hoth⟩ := evol_new hr (w' := w') ho ht hu hs hb hn (.blk b) (fun b' off h => by simp only [ownI] at h; omega)
          (fun g' _ _ hE => ⟨arr, ty, h2, Nat.le_trans (Nat.mul_le_mul_right _ hle) h3, hsrc.row, hsrc.atomA, fun r j u v e1 e2 => by
            obtain ⟨v', f1, f2⟩ := hsrc.val r j u e1
            have := h4 _ _ f1
            rw [e2] at this
            cases this
            exact f2.ext hE.ext⟩)
        refine ⟨_, _, _, _, hk, rfl, rfl, hE, hR, rfl, ?_⟩
        refine .sr _ _ _ _ _ _ ⟨⟨_, hh, trivial⟩, fun _ _ _ _ _ => Nat.zero_le _⟩ hle ⟨fun e => (by cases e), fun ad e => (by cases e; rfl)⟩ (fun b' o' e _ => ?_) fun z' s' e => ?_
        · simp [Cx.adr, hg, hh] at e
          obtain ⟨rfl, rfl⟩ := e
          rfl
        · simp only [Cx.siz, hh, hg, if_true, h2, Option.some.injEq, Prod.mk.injEq] at e
          obtain ⟨rfl, rfl⟩ := e
          rw [Nat.zero_add]
          exact h3

theorem cloneD_det {nw : Option Nat} {h : List Den.Obj} {mt : Bool} {z bytes m : Nat} {g : Fin m → Row} {k : AV → List Den.Obj → R} {out : Out} (e : cloneD nw h mt z bytes m g k = some out) :
    ∃ v h', k v h' = some out ∧ ∀ k' : AV → List Den.Obj → R, cloneD nw h mt z bytes m g k' = k' v h' := by
  unfold cloneD at e
  cases hr : roomy m bytes with
  | false => rw [hr] at e; cases e
  | true =>
    rw [hr] at e
    simp only [cond_true] at e
    cases mt with
    | false =>
      simp only [cond_false] at e
      obtain ⟨i, h', _, hk, hd⟩ := newD_eq e
      exact ⟨_, _, hk, fun k' => by simp only [cloneD, hr, cond_true, cond_false, hd]⟩
    | true =>
      simp only [cond_true] at e
      cases hm : m == 0 with
      | true => rw [hm] at e; exact ⟨_, _, e, fun k' => by simp only [cloneD, hr, hm, cond_true]⟩
      | false =>
        rw [hm] at e
        simp only [cond_false] at e
        obtain ⟨i, h', _, hk, hd⟩ := newD_eq e
        exact ⟨_, _, hk, fun k' => by simp only [cloneD, hr, hm, cond_true, cond_false, hd]⟩

theorem rows_slice {raw : Bool} {el : TypeId} {h : List Den.Obj} {v : AV} {m : Nat} {g : Fin m → Row} {x : Value} (e : rowsOf P raw el h v = some ⟨m, g⟩) (hv : VR c v x) : ∃ base cap, x = .slice base m cap ∧ (base = none → m = 0) := by
  cases v with
  | sl z t n f =>
    simp only [rowsOf] at e
    cases hz : sized P el z with
    | false => rw [hz] at e; cases e
    | true =>
      rw [hz] at e
      cases e
      cases hv with
      | sl _ _ _ _ a cap val h1 h2 h3 h4 h5 => exact ⟨a, cap, rfl, fun e => (h5 e).1⟩
  | nils =>
    simp only [rowsOf, Option.some.injEq, Rows.mk.injEq] at e
    obtain ⟨rfl, _⟩ := e
    cases hv
    exact ⟨none, 0, rfl, fun _ => rfl⟩
  | sr i gen off len =>
    simp only [rowsOf] at e
    split at e
    · split at e
      · rename_i z gen' n f _ _
        generalize hz : (gen == gen' && sized P el z) = b at e
        cases b with
        | false => cases e
        | true =>
          cases e
          cases hv with
          | sr _ _ _ _ a cap hi hl hn => exact ⟨a, cap, rfl, fun e => by have := hn.1 e; omega⟩
      · cases e
    · cases e
  | _ => simp [rowsOf] at e
end
end Go.Den
