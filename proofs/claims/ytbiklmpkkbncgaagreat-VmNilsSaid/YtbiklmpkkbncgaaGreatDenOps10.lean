/- 'append', as the second reading has it. -/
import Derived.Test.YtbiklmpkkbncgaaGreatDenOps9
set_option linter.unusedSimpArgs false
set_option linter.unusedVariables false
set_option linter.unnecessarySimpa false
namespace Go.Den
open Go

section
variable {P : Program} {c : Cx} {s : Hs} {ρ : Operand → Value}

theorem src_slice {z n : Nat} {t : Tok} {f : Fin n → Row} {base : Option Addr} {cap : Nat} (h : VR c (.sl z t n f) (.slice base n cap)) :
    ∃ olds, Src P c z n f (.slice base n cap) olds ∧ (∀ q, q < n * z → ∀ ad, base = some ad → c.stable ad.block (ad.off + q) ∧ c.w.cell? ⟨ad.block, ad.off + q, none⟩ = olds[q]?) ∧ ∀ i, ∀ u ∈ f i, PureA u := by
  obtain ⟨olds, hs, hpu⟩ := src_sl (P := P) h
  refine ⟨olds, hs, fun q hq ad e => ?_, hpu⟩
  subst e
  cases h with
  | sl _ _ _ _ _ _ val h1 h2 h3 h4 h5 h6 h7 h8 h9 =>
    obtain ⟨_, e1, e2, e3⟩ := flat_div hq
    have hn0 : 0 < n := Nat.pos_of_ne_zero fun e => by subst e; simp at hq
    have hsp := h6 ad rfl (by omega)
    obtain ⟨b, o, sp⟩ := ad
    simp only at hsp
    subst hsp
    have hc := hs.cells c.w fun _ => rfl
    simp only [Builtin.firstCells] at hc
    have hval : ∀ q, q < n * z → c.w.cell? ⟨b, o + q, none⟩ = some (val (q / z) (q % z)) := by
      intro q hq
      obtain ⟨_, e1, e2, e3⟩ := flat_div hq
      rw [← (h7 ⟨q / z, e1⟩ (q % z) e2 _ rfl).2]
      simp only
      congr 2
      omega
    rw [run_loadCells (val := fun q => val (q / z) (q % z)) hval] at hc
    have hv : olds = (List.range (n * z)).map fun q => val (q / z) (q % z) := by
      have := (Result.ok.inj hc).1
      have := congrArg Array.toList this
      simpa using this.symm
    refine ⟨?_, ?_⟩
    · have := (h7 ⟨q / z, e1⟩ (q % z) e2 _ rfl).1
      simp only at this
      rwa [show o + q / z * z + q % z = o + q from by omega] at this
    · simp only
      rw [hval q hq, hv]
      simp [hq]

/-- the rows of both, one behind the other -/
theorem app_val {z n m : Nat} {f : Fin n → Row} {g : Fin m → Row} {xs xx : Value} {olds vals : List Value} (h1 : Src P c z n f xs olds) (h2 : Src P c z m g xx vals) :
    (∀ i, (appRows f g i).length = z) ∧ (∀ i, ∀ u ∈ appRows f g i, AtomA u) ∧
    ∀ (i : Fin (n + m)) (j : Nat) (u : AV), (appRows f g i)[j]? = some u → ∃ v, (olds ++ vals)[i.1 * z + j]? = some v ∧ VR c u v := by
  refine ⟨fun i => ?_, fun i u hu => ?_, fun i j u hu => ?_⟩
  · simp only [appRows]; split
    · exact h1.row _
    · exact h2.row _
  · simp only [appRows] at hu; split at hu
    · exact h1.atomA _ u hu
    · exact h2.atomA _ u hu
  · simp only [appRows] at hu
    split at hu
    · rename_i hi
      obtain ⟨v, e1, e2⟩ := h1.val ⟨i.1, hi⟩ j u hu
      refine ⟨v, ?_, e2⟩
      rw [List.getElem?_append_left (by have := (List.getElem?_eq_some_iff.1 e1).1; exact this)]
      exact e1
    · rename_i hi
      obtain ⟨v, e1, e2⟩ := h2.val ⟨i.1 - n, by omega⟩ j u hu
      refine ⟨v, ?_, e2⟩
      have e1' : vals[(i.1 - n) * z + j]? = some v := e1
      have : (i.1 - n) * z + n * z = i.1 * z := by rw [← Nat.add_mul]; congr 1; omega
      rw [List.getElem?_append_right (by rw [h1.len]; omega), h1.len]
      rw [← e1']; congr 1; omega

theorem app_pure {n m : Nat} {f : Fin n → Row} {g : Fin m → Row} (h1 : ∀ i, ∀ u ∈ f i, PureA u) (h2 : ∀ i, ∀ u ∈ g i, PureA u) : ∀ i, ∀ u ∈ appRows f g i, PureA u := by
  intro i u hu
  simp only [appRows] at hu; split at hu
  · exact h1 _ u hu
  · exact h2 _ u hu

theorem VR.app {c' : Cx} (hE : Ext c c') {z n m : Nat} {f : Fin n → Row} {g : Fin m → Row} {xs xx : Value} {olds vals : List Value} (h1 : Src P c z n f xs olds) (h2 : Src P c z m g xx vals) (hp1 : ∀ i, ∀ u ∈ f i, PureA u) (hp2 : ∀ i, ∀ u ∈ g i, PureA u)
    {base : Option Addr} {cap : Nat} {t : Tok} (hcap : n + m ≤ cap) (ht : t ≠ .tight) (hnone : base = none → n + m = 0 ∧ cap = 0) (hsp : ∀ ad, base = some ad → 0 < cap → ad.spot = none)
    (hcell : ∀ q, q < (n + m) * z → ∀ ad, base = some ad → c'.stable ad.block (ad.off + q) ∧ c'.w.cell? ⟨ad.block, ad.off + q, none⟩ = (olds ++ vals)[q]?)
    (hid : ∀ i, t = .id i → c'.born i ∧ ∀ N a' cap' z', c'.h[i]? = some (.tok N) → c'.g[i]? = some (.tk a' cap' z') → n + m ≤ N ∧ (n + m = N → a' = base ∧ cap' = cap ∧ z' = z)) :
    VR c' (.sl z t (n + m) (appRows f g)) (.slice base (n + m) cap) := by
  obtain ⟨a1, a2, a3⟩ := app_val h1 h2
  have hlen : (olds ++ vals).length = (n + m) * z := by rw [List.length_append, h1.len, h2.len, Nat.add_mul]
  refine .sl z t (n + m) _ base cap (fun i j => (olds ++ vals).getD (i * z + j) undef) hcap (fun e => absurd e ht) a1 (fun i u hu => ⟨app_pure hp1 hp2 i u hu, a2 i u hu⟩) hnone hsp ?_ ?_ hid
  · intro i j hj ad e
    obtain ⟨e1, _, _⟩ := flat_at (z := z) i.2 hj
    obtain ⟨k1, k2⟩ := hcell _ e1 ad e
    rw [Nat.add_assoc]
    refine ⟨k1, ?_⟩
    rw [k2, List.getD_eq_getElem?_getD, List.getElem?_eq_getElem (by omega)]
    rfl
  · intro i j u hu
    obtain ⟨v, e1, e2⟩ := a3 i j u hu
    simp only [List.getD_eq_getElem?_getD, e1, Option.getD_some]
    exact e2.ext hE

theorem execOp_builtin {o : Oper} {cl : Call} {b : Builtin} (ho : o.op = .call cl) (hc : cl.callee = .builtin b) {w : World} :
    (execOp ρ o).run P w = (builtin b cl.argTypes o.type (cl.args.map fun | .const _ => true | _ => false) (cl.args.map ρ)).run P w := by
  simp only [execOp, ho, Sem.run_bind, Go.resolve, hc, Sem.run_pure, Result.andThen_ok, invoke]
  rfl

/-- the new block of an 'append' that grows -/
theorem new_cells {olds vals rest : List Value} {el : TypeId} {w : World} (q : Nat) (hq : q < (olds ++ vals).length) :
    (w.drew.alloc (.cells (olds.toArray ++ vals.toArray ++ rest.toArray) el)).cell? ⟨w.heap.size, 0 + q, none⟩ = (olds ++ vals)[q]? := by
  have hb : (w.drew.alloc (.cells (olds.toArray ++ vals.toArray ++ rest.toArray) el)).heap[w.heap.size]? = some (.cells (olds.toArray ++ vals.toArray ++ rest.toArray) el (0, 0)) := by
    show (w.heap.push _)[w.heap.size]? = _
    simp
  simp only [World.cell?, hb, Option.isSome_none, Bool.false_eq_true, if_false, Nat.zero_add]
  rw [show olds.toArray ++ vals.toArray ++ rest.toArray = (olds ++ vals ++ rest).toArray from by simp, List.getElem?_toArray, List.getElem?_append_left hq]

theorem append_sound (hr : RelH c) (hs : c.h = s.h) {o : Oper} {cl : Call} {sx xx : Operand} {ts tx el ex : TypeId} {vs : AV} {m : Nat} {g : Fin m → Row} {mt : Bool} {vals : List Value}
    {nw : Option Nat} {k : AV → List Den.Obj → R} {out : Out} (ho : o.op = .call cl) (hcal : cl.callee = .builtin .append) (hargs : cl.args.toList = [sx, xx]) (htys : cl.argTypes.toList = [ts, tx])
    (hts : P.underlying ts = some (.slice el)) (htx : P.underlying tx = some (.slice ex)) (hz : sized P el (P.cellsOf el) = true) (hzero : ∃ zs, zeroT P el = some zs)
    (hsrc : Src P c (P.cellsOf el) m g (ρ xx) vals) (hpure : rawT mt vs = false → ∀ i, ∀ u ∈ g i, PureA u) (hS : VR c vs (ρ sx)) (h : appendD nw s.h mt (P.cellsOf el) (P.bytesOf el) vs m g k = some out) :
    ∃ v h', k v h' = some out ∧ Gives P ρ o c s v { s with h := h' } := by
  generalize hzz : P.cellsOf el = z at hz hsrc h
  cases vs with
  | sl z' t n f =>
    simp only [appendD] at h
    cases hcond : (z' == z && roomy (n + m) (P.bytesOf el)) with
    | false => rw [hcond] at h; cases h
    | true =>
      rw [hcond] at h
      simp only [cond_true] at h
      simp only [Bool.and_eq_true, beq_iff_eq] at hcond
      obtain ⟨rfl, hroom⟩ := hcond
      generalize hρ : ρ sx = y at hS
      have hS0 := hS
      cases hS with
      | sl _ _ _ _ base cap val k1 k2 k3 k4 k5 k6 k7 k8 k9 =>
        obtain ⟨olds, hold, hcell, hpo⟩ := src_slice (P := P) hS0
        have hargs' : cl.args = #[sx, xx] := by rw [← hargs]
        have htys' : cl.argTypes = #[ts, tx] := by rw [← htys]
        obtain ⟨R1, R2⟩ := run_append (ty := o.type) hts htx hz hsrc hold.cells hroom hzero
        have hex : ∀ {x : Value} {w' : World}, (Builtin.append_ #[ts, tx] o.type #[.slice base n cap, ρ xx]).run P c.w = .ok x w' → (execOp ρ o).run P c.w = .ok (.value x) w' := by
          intro x w' hx
          rw [execOp_builtin ho hcal]
          simp only [builtin, hargs', htys', List.map_toArray, List.map_cons, List.map_nil, hρ]
          simp [hx]
        have hlen : (olds ++ vals).length = (n + m) * z' := by rw [List.length_append, hold.len, hsrc.len, Nat.add_mul]
        obtain ⟨a1, a2, a3⟩ := app_val hold hsrc
        -- in new memory
        have grown : ∀ {newCap : Nat} {rest : List Value}, rest.length = (newCap - (n + m)) * z' → n + m ≤ newCap →
            (c.w.drew.alloc (.cells (olds.toArray ++ vals.toArray ++ rest.toArray) el)).heap[c.w.heap.size]? = some (.cells (olds.toArray ++ vals.toArray ++ rest.toArray) el (0, 0)) ∧
            newCap * z' ≤ (olds.toArray ++ vals.toArray ++ rest.toArray).size := by
          intro newCap rest h1 h2
          refine ⟨by show (c.w.heap.push _)[c.w.heap.size]? = _; simp, ?_⟩
          have : newCap * z' = (n + m) * z' + (newCap - (n + m)) * z' := by rw [← Nat.add_mul]; congr 1; omega
          simp only [Array.size_append, List.size_toArray, h1]
          rw [List.length_append] at hlen
          omega
        cases t with
        | no => cases h
        | tight =>
          have hcap := (k2 rfl).symm
          subst hcap
          cases hm : mt with
          | true =>
            rw [hm] at h
            simp only [cond_true] at h
            cases hm0 : m == 0 with
            | true =>
              rw [hm0] at h
              simp only [cond_true] at h
              rw [beq_iff_eq] at hm0
              subst hm0
              refine ⟨_, _, h, _, c, hex (R1 (by omega) c.w ?_), Step.refl hr hs, hS0⟩
              cases base with
              | none => rfl
              | some ad =>
                have : vals = [] := by have := hsrc.len; simpa using this
                subst this
                simp [storeCells]
            | false =>
              rw [hm0] at h
              simp only [cond_false] at h
              have hm0' : m ≠ 0 := by simpa using hm0
              obtain ⟨newCap, rest, g1, g2, g3⟩ := R2 (by omega)
              obtain ⟨b1, b2⟩ := grown g2 g1
              obtain ⟨i, h', hn, hk, _⟩ := newD_eq h
              rw [← hs] at hn
              obtain ⟨g', hg, hh, hE, hR, _⟩ := evol_new hr (w' := c.w.drew.alloc (.cells (olds.toArray ++ vals.toArray ++ rest.toArray) el)) rfl rfl rfl
                (by show c.w.heap.size ≤ (c.w.heap.push _).size; simp) (fun b hb => by show (c.w.heap.push _)[b]? = _; exact heap_push_lt hb)
                hn (.blk c.w.heap.size) (fun b off h => by simp only [ownI] at h; omega)
                (fun g' _ _ hE => ⟨_, el, b1, Nat.le_trans (Nat.mul_le_mul_right _ g1) b2, a1, a2, fun i j u v e1 e2 => by
                  obtain ⟨v', f1, f2⟩ := a3 i j u e1
                  rw [show olds.toArray ++ vals.toArray ++ rest.toArray = (olds ++ vals ++ rest).toArray from by simp, List.getElem?_toArray,
                    List.getElem?_append_left (List.getElem?_eq_some_iff.1 f1).1, f1] at e2
                  cases e2
                  exact f2.ext hE.ext⟩)
              refine ⟨_, _, hk, _, _, hex g3, ⟨hE, hR, rfl, rfl, rfl⟩, ?_⟩
              refine .sr _ _ _ _ _ _ ⟨⟨_, hh, trivial⟩, fun _ _ _ _ _ => Nat.zero_le _⟩ g1 ⟨fun e => (by cases e), fun ad e => (by cases e; rfl)⟩ (fun b o' e _ => ?_) fun z₁ s₁ e => ?_
              · simp [Cx.adr, hg, hh] at e
                obtain ⟨rfl, rfl⟩ := e
                rfl
              · simp only [Cx.siz, hh, hg, if_true, b1, Option.some.injEq, Prod.mk.injEq] at e
                obtain ⟨rfl, rfl⟩ := e
                rw [Nat.zero_add]
                exact b2
          | false =>
            have hpg := hpure (by rw [hm]; rfl)
            rw [hm] at h
            simp only [cond_false] at h
            obtain ⟨i, h', hn, hk, _⟩ := newD_eq h
            rw [← hs] at hn
            by_cases hm0 : m = 0
            · subst hm0
              obtain ⟨g', hg, hh, hE, hR, _⟩ := evol_new hr (w' := c.w) rfl rfl rfl (Nat.le_refl _) (fun b hb => rfl) hn (.tk base n z')
                (fun b off h => by
                  cases base with
                  | none => exact h.elim
                  | some ad => simp only [ownI, Nat.add_zero] at h; omega)
                (fun g' _ _ hE => ⟨Nat.le_refl _, fun e => (k5 e).2, fun ad e => ⟨k6 ad e, fun h _ => by omega⟩⟩)
              have hvals : vals = [] := by have := hsrc.len; simpa using this
              refine ⟨_, _, hk, _, { c with h := h', g := g', w := c.w }, hex (R1 (by omega) c.w ?_), ⟨hE, hR, rfl, rfl, rfl⟩, ?_⟩
              · cases base with
                | none => rfl
                | some ad => subst hvals; simp [storeCells]
              · refine VR.app hE.ext hold hsrc hpo hpg (Nat.le_refl _) (by simp) (fun e => ⟨by have := (k5 e).1; omega, (k5 e).2⟩) k6 ?_ ?_
                · intro q hq ad e
                  obtain ⟨e1, e2⟩ := hcell q (by simpa using hq) ad e
                  have hv : c.w.cell? ⟨ad.block, ad.off + q, none⟩ = some (olds[q]'(by rw [hold.len]; simpa using hq)) := by rw [e2]; simp
                  obtain ⟨f1, f2⟩ := hE.ext.cell _ _ e1 _ hv
                  refine ⟨f1, ?_⟩
                  rw [f2, hvals, List.append_nil]
                  simp
                · intro i e
                  cases e
                  refine ⟨⟨_, hh, trivial⟩, fun N a' cap' z'' e1 e2 => ?_⟩
                  rw [hg] at e2
                  cases e2
                  rw [hh] at e1
                  cases e1
                  exact ⟨Nat.le_refl _, fun _ => ⟨rfl, rfl, rfl⟩⟩
            · obtain ⟨newCap, rest, g1, g2, g3⟩ := R2 (by omega)
              obtain ⟨b1, b2⟩ := grown g2 g1
              obtain ⟨g', hg, hh, hE, hR, hoth⟩ := evol_new hr (w' := c.w.drew.alloc (.cells (olds.toArray ++ vals.toArray ++ rest.toArray) el)) rfl rfl rfl
                (by show c.w.heap.size ≤ (c.w.heap.push _).size; simp) (fun b hb => by show (c.w.heap.push _)[b]? = _; exact heap_push_lt hb)
                hn (.tk (some ⟨c.w.heap.size, 0, none⟩) newCap z') (fun b off h => by simp only [ownI] at h; omega)
                (fun g' _ _ hE => ⟨g1, fun e => (by cases e), fun ad e => by cases e; exact ⟨fun _ => rfl, fun _ _ => ⟨_, el, b1, by simpa using b2⟩⟩⟩)
              refine ⟨_, _, hk, _, _, hex g3, ⟨hE, hR, rfl, rfl, rfl⟩, ?_⟩
              refine VR.app hE.ext hold hsrc hpo hpg g1 (by simp) (fun e => by cases e) (fun ad e _ => by cases e; rfl) ?_ ?_
              · intro q hq ad e
                cases e
                refine ⟨⟨fun hF => ?_, ?_⟩, new_cells q (by omega)⟩
                · have hF' : c.Fr c.w.heap.size (0 + q) := hF
                  have := hr.bd _ _ hF'; omega
                · rintro ⟨i', o', gh, h1, h2, h3⟩
                  by_cases hi : i' = i
                  · subst hi
                    have h1 : h'[i']? = some o' := h1
                    have h2 : g'[i']? = some gh := h2
                    rw [hh] at h1; rw [hg] at h2
                    cases h1; cases h2
                    simp only [ownI] at h3
                    omega
                  · obtain ⟨e1, e2⟩ := hoth i' hi
                    exact absurd (ownI_lt (hr.obj i' o' gh (e1.symm.trans h1) (e2.symm.trans h2)) h3) (Nat.lt_irrefl _)
              · intro i e
                cases e
                refine ⟨⟨_, hh, trivial⟩, fun N a' cap' z'' e1 e2 => ?_⟩
                rw [hg] at e2
                cases e2
                rw [hh] at e1
                cases e1
                exact ⟨Nat.le_refl _, fun _ => ⟨rfl, rfl, rfl⟩⟩
        | id i =>
          have hpg := hpure rfl
          simp only at h
          rw [← hs] at h
          split at h
          · rename_i n' hob
            cases hn : n' == n with
            | false => rw [hn] at h; cases h
            | true =>
              rw [hn] at h
              simp only [cond_true] at h
              rw [beq_iff_eq] at hn
              subst hn
              have hgi : i < c.g.length := by rw [hr.len]; exact (List.getElem?_eq_some_iff.1 hob).1
              have hil : i < c.h.length := (List.getElem?_eq_some_iff.1 hob).1
              have hg : c.g[i]? = some c.g[i] := List.getElem?_eq_getElem hgi
              generalize c.g[i] = gh at hg
              have hO := hr.obj i _ gh hob hg
              cases gh with
              | none => exact hO.elim
              | blk b => exact hO.elim
              | tk a' cap' z'' =>
                obtain ⟨_, hid⟩ := k9 i rfl
                obtain ⟨_, hid⟩ := hid _ _ _ _ hob hg
                obtain ⟨rfl, rfl, rfl⟩ := hid rfl
                obtain ⟨o1, o2, o3⟩ := hO
                have hnotadr : ∀ {w' : World} {gh'} (gen row off : Nat) p, ({ c with h := c.h.set i (.tok (n' + m)), g := c.g.set i gh', w := w' } : Cx).adr i gen row off = some p → c.adr i gen row off = some p := by
                  intro w' gh' gen row off p h
                  simp [Cx.adr, List.getElem?_set_self hil] at h
                have split : ∀ {gh' : Gh} (j : Nat) o₁ g₁, (c.h.set i (.tok (n' + m)))[j]? = some o₁ → (c.g.set i gh')[j]? = some g₁ →
                    (j ≠ i ∧ c.h[j]? = some o₁ ∧ c.g[j]? = some g₁) ∨ (j = i ∧ o₁ = .tok (n' + m) ∧ g₁ = gh') := by
                  intro gh' j o₁ g₁ h1 h2
                  by_cases hj : j = i
                  · subst hj
                    rw [List.getElem?_set_self hil] at h1
                    rw [List.getElem?_set_self hgi] at h2
                    exact .inr ⟨rfl, (Option.some.inj h1).symm, (Option.some.inj h2).symm⟩
                  · rw [List.getElem?_set_ne (Ne.symm hj)] at h1 h2
                    exact .inl ⟨hj, h1, h2⟩
                by_cases hfit : n' + m ≤ cap'
                · -- within the room behind it
                  have key : ∃ w', (match a' with
                      | some a => (storeCells (a.add (n' * z'')) vals).run P c.w = .ok () w'
                      | none => w' = c.w) ∧ w'.os = c.w.os ∧ w'.tape = c.w.tape ∧ w'.output = c.w.output ∧ w'.heap.size = c.w.heap.size ∧
                      (∀ b, (∀ off, ¬ ownI (.tok n') (.tk a' cap' z'') b off) → w'.heap[b]? = c.w.heap[b]?) ∧
                      (∀ b off, ¬ ownI (.tok n') (.tk a' cap' z'') b off → w'.cell? ⟨b, off, none⟩ = c.w.cell? ⟨b, off, none⟩) ∧
                      (∀ ad, a' = some ad → ∀ q, q < m * z'' → w'.cell? ⟨ad.block, ad.off + (n' * z'' + q), none⟩ = vals[q]?) ∧
                      (∀ ad, a' = some ad → n' + m < cap' → 0 < z'' → ∃ arr ty, w'.heap[ad.block]? = some (.cells arr ty (0, 0)) ∧ ad.off + cap' * z'' ≤ arr.size) := by
                    cases a' with
                    | none =>
                      have := o2 rfl
                      exact ⟨c.w, rfl, rfl, rfl, rfl, rfl, fun _ _ => rfl, fun _ _ _ => rfl, fun ad e => (by cases e), fun ad e => (by cases e)⟩
                    | some ad =>
                      obtain ⟨hsp, hblk⟩ := o3 ad rfl
                      by_cases hmz : m * z'' = 0
                      · have hv0 : vals = [] := by have := hsrc.len; rw [hmz] at this; exact List.length_eq_zero_iff.1 this
                        refine ⟨c.w, by rw [hv0]; simp [storeCells], rfl, rfl, rfl, rfl, fun _ _ => rfl, fun _ _ _ => rfl, fun ad' e q hq => by omega, fun ad' e hn hz => ?_⟩
                        cases e
                        exact hblk (by omega) hz
                      · have hz0 : 0 < z'' := Nat.pos_of_ne_zero fun e => hmz (by simp [e])
                        have hm0 : 0 < m := Nat.pos_of_ne_zero fun e => hmz (by simp [e])
                        obtain ⟨arr, ty, hb, hsz⟩ := hblk (by omega) hz0
                        obtain ⟨b, o, sp⟩ := ad
                        simp only at hsp hb hsz
                        have hsp := hsp (by omega)
                        subst hsp
                        have hlt := lt_of_heap hb
                        have hle : n' * z'' + m * z'' ≤ cap' * z'' := by rw [← Nat.add_mul]; exact Nat.mul_le_mul_right _ hfit
                        have hrun := run_storeCells (P := P) b (o + n' * z'') vals 0 c.w arr hb (by rw [hsrc.len]; omega) hsrc.atom
                        rw [Nat.add_zero] at hrun
                        refine ⟨{ c.w with heap := c.w.heap.setIfInBounds b (.cells (putCells arr (o + n' * z'') vals) ty (0, 0)) }, (by simpa only [add_addr] using hrun), rfl, rfl, rfl, by simp, fun b' hb' => ?_, fun b' off hb' => ?_, fun ad e q hq => ?_, fun ad e hn hz => ?_⟩
                        · have : b ≠ b' := fun e => by
                            subst e
                            refine hb' (o + n' * z'') ⟨rfl, Nat.le_refl _, ?_⟩
                            simp only
                            have : 0 < m * z'' := Nat.pos_of_ne_zero hmz
                            omega
                          simp [this]
                        · by_cases e : b = b'
                          · subst e
                            have hput := putCells_get (arr := arr) (off := o + n' * z'') (vs := vals) (by rw [hsrc.len]; omega) off
                            have hb2 : (c.w.heap.setIfInBounds b (.cells (putCells arr (o + n' * z'') vals) ty (0, 0)))[b]? = some (.cells (putCells arr (o + n' * z'') vals) ty (0, 0)) := by simp [hlt]
                            simp only [World.cell?, hb2, hb, hput, Option.isSome_none, Bool.false_eq_true, if_false]
                            rw [if_neg]
                            rintro ⟨q1, q2⟩
                            refine hb' ⟨rfl, q1, ?_⟩
                            simp only
                            rw [hsrc.len] at q2
                            omega
                          · exact World.cell?_of_block (by simp [e])
                        · cases e
                          have hput := putCells_get (arr := arr) (off := o + n' * z'') (vs := vals) (by rw [hsrc.len]; omega) (o + (n' * z'' + q))
                          have hb2 : (c.w.heap.setIfInBounds b (.cells (putCells arr (o + n' * z'') vals) ty (0, 0)))[b]? = some (.cells (putCells arr (o + n' * z'') vals) ty (0, 0)) := by simp [hlt]
                          simp only [World.cell?, hb2, hput, Option.isSome_none, Bool.false_eq_true, if_false]
                          rw [if_pos (by rw [hsrc.len]; omega)]
                          congr 1
                          omega
                        · cases e
                          exact ⟨putCells arr (o + n' * z'') vals, ty, by simp [hlt], by rw [putCells_size (by rw [hsrc.len]; omega)]; exact hsz⟩
                  obtain ⟨w', w0, w1, w2, w3, w4, w5, w6, w7, w8⟩ := key
                  obtain ⟨hE, hR⟩ := evol_set hr (w' := w') w1 w2 w3 (by omega) hob hg (.tok (n' + m)) (.tk a' cap' z'') (fun b _ => w5 b) (fun b off _ => w6 b off)
                    (fun b off h => by
                      cases a' with
                      | none => exact h.elim
                      | some ad =>
                        simp only [ownI, Nat.add_mul] at h ⊢
                        exact .inl ⟨⟨off, h.1, by omega, h.2.2⟩, fun h' => h' ⟨h.1, by omega, h.2.2⟩⟩)
                    (fun z g n f e => by cases e) (fun gen row off p _ h => hnotadr gen row off p h) (fun N a cap z e1 e2 => by cases e1; cases e2; exact ⟨n', a', cap', z'', rfl, rfl, by omega, fun _ => ⟨rfl, rfl, rfl⟩⟩) (fun b e => by cases e) (fun gen p _ h => by simp [Cx.siz, List.getElem?_set_self hil] at h)
                    (fun hE => ⟨hfit, o2, fun ad e => ⟨(o3 ad e).1, fun hn hz => w8 ad e hn hz⟩⟩)
                  refine ⟨_, _, h, _, _, hex (R1 hfit w' w0), ⟨hE, hR, rfl, rfl, rfl⟩, ?_⟩
                  refine VR.app hE.ext hold hsrc hpo hpg hfit (by simp) (fun e => ⟨by have := o2 e; omega, o2 e⟩) k6 ?_ ?_
                  · intro q hq ad e
                    by_cases hqn : q < n' * z''
                    · obtain ⟨e1, e2⟩ := hcell q hqn ad e
                      rw [List.getElem?_append_left (by rw [hold.len]; exact hqn)]
                      have hv : c.w.cell? ⟨ad.block, ad.off + q, none⟩ = some (olds[q]'(by rw [hold.len]; exact hqn)) := by rw [e2]; simp
                      obtain ⟨f1, f2⟩ := hE.ext.cell _ _ e1 _ hv
                      refine ⟨f1, ?_⟩
                      rw [f2]
                      simp
                    · have hq' : q - n' * z'' < m * z'' := by rw [Nat.add_mul] at hq; omega
                      have hc1 := w7 ad e (q - n' * z'') hq'
                      rw [show n' * z'' + (q - n' * z'') = q from by omega] at hc1
                      rw [List.getElem?_append_right (by rw [hold.len]; omega), hold.len]
                      refine ⟨⟨fun hF => ?_, ?_⟩, hc1⟩
                      · refine hr.fr ad.block (ad.off + q) ⟨i, _, _, hob, hg, ?_⟩ hF
                        subst e
                        refine ⟨rfl, by omega, ?_⟩
                        have : (n' + m) * z'' ≤ cap' * z'' := Nat.mul_le_mul_right _ hfit
                        omega
                      · rintro ⟨j, o₁, g₁, h1, h2, h3⟩
                        rcases split j o₁ g₁ h1 h2 with ⟨hj, e1, e2⟩ | ⟨_, rfl, rfl⟩
                        · refine hr.dis j i o₁ g₁ _ _ ad.block (ad.off + q) (ad.off + q) hj e1 e2 hob hg h3 ?_
                          subst e
                          refine ⟨rfl, by omega, ?_⟩
                          have : (n' + m) * z'' ≤ cap' * z'' := Nat.mul_le_mul_right _ hfit
                          omega
                        · subst e
                          simp only [ownI] at h3
                          omega
                  · intro i' e
                    cases e
                    refine ⟨⟨_, List.getElem?_set_self hil, trivial⟩, fun N a₁ cap₁ z₁ e1 e2 => ?_⟩
                    simp only [List.getElem?_set_self hil, List.getElem?_set_self hgi] at e1 e2
                    cases e1; cases e2
                    exact ⟨Nat.le_refl _, fun _ => ⟨rfl, rfl, rfl⟩⟩
                · -- in new memory
                  obtain ⟨newCap, rest, g1, g2, g3⟩ := R2 hfit
                  obtain ⟨b1, b2⟩ := grown g2 g1
                  obtain ⟨hE, hR⟩ := evol_set hr (w' := c.w.drew.alloc (.cells (olds.toArray ++ vals.toArray ++ rest.toArray) el)) rfl rfl rfl
                    (by show c.w.heap.size ≤ (c.w.heap.push _).size; simp) hob hg (.tok (n' + m)) (.tk (some ⟨c.w.heap.size, 0, none⟩) newCap z'')
                    (fun b hb _ => by show (c.w.heap.push _)[b]? = _; exact heap_push_lt hb)
                    (fun b off hb _ => World.cell?_of_block (w := c.w) (by show (c.w.heap.push _)[b]? = _; exact heap_push_lt hb))
                    (fun b off h => by simp only [ownI] at h; exact .inr (by omega)) (fun z g n f e => by cases e) (fun gen row off p _ h => hnotadr gen row off p h)
                    (fun N a cap z e1 e2 => by cases e1; cases e2; exact ⟨n', a', cap', z'', rfl, rfl, by omega, fun e => by omega⟩) (fun b e => by cases e) (fun gen p _ h => by simp [Cx.siz, List.getElem?_set_self hil] at h)
                    (fun hE => ⟨g1, fun e => (by cases e), fun ad e => by cases e; exact ⟨fun _ => rfl, fun _ _ => ⟨_, el, b1, by simpa using b2⟩⟩⟩)
                  refine ⟨_, _, h, _, _, hex g3, ⟨hE, hR, rfl, rfl, rfl⟩, ?_⟩
                  refine VR.app hE.ext hold hsrc hpo hpg g1 (by simp) (fun e => by cases e) (fun ad e _ => by cases e; rfl) ?_ ?_
                  · intro q hq ad e
                    cases e
                    refine ⟨⟨fun hF => ?_, ?_⟩, new_cells q (by omega)⟩
                    · have hF' : c.Fr c.w.heap.size (0 + q) := hF
                      have := hr.bd _ _ hF'; omega
                    · rintro ⟨j, o₁, g₁, h1, h2, h3⟩
                      rcases split j o₁ g₁ h1 h2 with ⟨hj, e1, e2⟩ | ⟨_, rfl, rfl⟩
                      · exact absurd (ownI_lt (hr.obj j o₁ g₁ e1 e2) h3) (Nat.lt_irrefl _)
                      · simp only [ownI] at h3
                        omega
                  · intro i' e
                    cases e
                    refine ⟨⟨_, List.getElem?_set_self hil, trivial⟩, fun N a₁ cap₁ z₁ e1 e2 => ?_⟩
                    simp only [List.getElem?_set_self hil, List.getElem?_set_self hgi] at e1 e2
                    cases e1; cases e2
                    exact ⟨Nat.le_refl _, fun _ => ⟨rfl, rfl, rfl⟩⟩
          · cases h
  | sr i gen off n =>
    simp only [appendD] at h
    rw [← hs] at h
    split at h
    · rename_i z' gen' N f hob
      split at h
      · rename_i hl
        cases hcond : (z' == z && gen == gen' && off == 0 && roomy (n + m) (P.bytesOf el)) with
        | false => rw [hcond] at h; cases h
        | true =>
          rw [hcond] at h
          simp only [cond_true] at h
          simp only [Bool.and_eq_true, beq_iff_eq] at hcond
          obtain ⟨⟨⟨rfl, rfl⟩, rfl⟩, hroom⟩ := hcond
          have hhi : i < c.h.length := (List.getElem?_eq_some_iff.1 hob).1
          have hgi : i < c.g.length := by rw [hr.len]; exact hhi
          have hg : c.g[i]? = some c.g[i] := List.getElem?_eq_getElem hgi
          generalize c.g[i] = gh at hg
          have hO := hr.obj i _ gh hob hg
          cases gh with
          | none => exact hO.elim
          | tk => exact hO.elim
          | blk b =>
            obtain ⟨arr, ty, hb, hsz, hlen, hA, hV⟩ := hO
            have hlt := lt_of_heap hb
            generalize hρ : ρ sx = y at hS
            have hS0 := hS
            cases hS with
            | sr _ _ _ _ base cap hi hle hn ha hcp =>
              have hrow : rowsOf P true el c.h (.sr i gen 0 n) = some ⟨n, fun j => f ⟨0 + j.1, by omega⟩⟩ := by
                simp only [rowsOf, hob]
                rw [dif_pos (by omega)]
                simp [hz]
              obtain ⟨olds, hold, _⟩ := src_sound hr hrow hS0 (by rw [hzz]; exact hz)
              rw [hzz] at hold
              have hfun : (fun j : Fin n => f ⟨0 + j.1, by omega⟩) = fun j : Fin n => f ⟨j.1, by omega⟩ := funext fun j => by congr 1; exact Fin.ext (Nat.zero_add _)
              rw [hfun] at hold
              have hcap : (0 + cap) * z' ≤ arr.size := hcp z' arr.size (by simp [Cx.siz, hob, hg, hb])
              rw [Nat.zero_add] at hcap
              have hbase : 0 < cap → base = some ⟨b, 0, none⟩ := fun h => by
                have := ha b (0 * z' + 0) (by simp [Cx.adr, hob, hg]) h
                simpa using this
              have hargs' : cl.args = #[sx, xx] := by rw [← hargs]
              have htys' : cl.argTypes = #[ts, tx] := by rw [← htys]
              obtain ⟨R1, R2⟩ := run_append (ty := o.type) hts htx hz hsrc hold.cells hroom hzero
              have hex : ∀ {x : Value} {w' : World}, (Builtin.append_ #[ts, tx] o.type #[.slice base n cap, ρ xx]).run P c.w = .ok x w' → (execOp ρ o).run P c.w = .ok (.value x) w' := by
                intro x w' hx
                rw [execOp_builtin ho hcal]
                simp only [builtin, hargs', htys', List.map_toArray, List.map_cons, List.map_nil, hρ]
                simp [hx]
              have hlenv : (olds ++ vals).length = (n + m) * z' := by rw [List.length_append, hold.len, hsrc.len, Nat.add_mul]
              obtain ⟨a1, a2, a3⟩ := app_val hold hsrc
              have holds : ∀ q, q < n * z' → arr[q]? = olds[q]? := by
                intro q hq
                have hn0 : 0 < n := Nat.pos_of_ne_zero fun e => by subst e; simp at hq
                have e := hbase (by omega)
                subst e
                have hle' : n * z' ≤ arr.size := Nat.le_trans (Nat.mul_le_mul_right _ hle) hcap
                have hval : ∀ j, j < n * z' → c.w.cell? ⟨b, 0 + j, none⟩ = some (arr.getD j undef) := by
                  intro j hj
                  have : arr[j]? = some (arr[j]'(by omega)) := Array.getElem?_eq_getElem (by omega)
                  simp only [World.cell?, hb, Option.isSome_none, Bool.false_eq_true, if_false, Nat.zero_add, Array.getD_eq_getD_getElem?, this, Option.getD_some]
                have hc := hold.cells c.w fun _ => rfl
                simp only [Builtin.firstCells] at hc
                rw [run_loadCells (val := fun q => arr.getD q undef) hval] at hc
                have hv : olds = (List.range (n * z')).map fun q => arr.getD q undef := by
                  have := (Result.ok.inj hc).1
                  have := congrArg Array.toList this
                  simpa using this.symm
                have : arr[q]? = some (arr[q]'(by omega)) := Array.getElem?_eq_getElem (by omega)
                rw [hv]
                simp [hq, Array.getD_eq_getD_getElem?, this]
              -- what becomes of the object
              have fin : ∀ (w' : World) (b' cap' : Nat) (base' : Option Addr) (arr' : Array Value) (ty' : TypeId), w'.os = c.w.os → w'.tape = c.w.tape → w'.output = c.w.output → c.w.heap.size ≤ w'.heap.size →
                  (∀ q, q < c.w.heap.size → q ≠ b → w'.heap[q]? = c.w.heap[q]?) → (b' = b ∨ (c.w.heap.size ≤ b' ∧ w'.heap[b]? = c.w.heap[b]?)) → w'.heap[b']? = some (.cells arr' ty' (0, 0)) → n + m ≤ cap' → cap' * z' ≤ arr'.size →
                  (∀ q, q < (n + m) * z' → arr'[q]? = (olds ++ vals)[q]?) → ((base' = none → cap' = 0) ∧ ∀ ad, base' = some ad → ad.spot = none) → (0 < cap' → base' = some ⟨b', 0, none⟩) →
                  (execOp ρ o).run P c.w = .ok (.value (.slice base' (n + m) cap')) w' → ∃ v h', k v h' = some out ∧ Gives P ρ o c s v { s with h := h' } := by
                intro w' b' cap' base' arr' ty' e1 e2 e3 e4 e5 e6 e7 e8 e9 e10 e11 e12 e13
                obtain ⟨hE, hR⟩ := evol_set hr (w' := w') e1 e2 e3 e4 hob hg (.arr z' (gen + 1) (n + m) (appRows (fun j : Fin n => f ⟨j.1, by omega⟩) g)) (.blk b')
                  (fun q hq hno => e5 q hq fun e => by subst e; exact hno 0 rfl)
                  (fun q off hq hno => World.cell?_of_block (w := c.w) (e5 q hq fun e => by subst e; exact hno rfl))
                  (fun q off h => by
                    simp only [ownI] at h
                    subst h
                    rcases e6 with rfl | ⟨h, _⟩
                    · exact .inl ⟨⟨0, rfl⟩, fun h => h rfl⟩
                    · exact .inr h)
                  (fun z g n f e => by cases e; exact ⟨_, _, _, _, rfl, Nat.le_succ _⟩)
                  (fun gen' row off p hok h => by
                    have : gen' ≤ gen := hok.2 _ _ _ _ hob
                    simp only [Cx.adr, List.getElem?_set_self hhi, List.getElem?_set_self hgi] at h
                    rw [if_neg (by omega)] at h
                    cases h)
                  (fun N a cap z e => by cases e) (fun b e => by cases e)
                  (fun gen' p hok h => by
                    have : gen' ≤ gen := hok.2 _ _ _ _ hob
                    simp only [Cx.siz, List.getElem?_set_self hhi, List.getElem?_set_self hgi] at h
                    rw [if_neg (by omega)] at h
                    cases h)
                  (fun hE => ⟨arr', ty', e7, Nat.le_trans (Nat.mul_le_mul_right _ e8) e9, a1, a2, fun r j u v f1 f2 => by
                    obtain ⟨v', g1, g2⟩ := a3 r j u f1
                    have hj : j < z' := by rw [← a1 r]; exact (List.getElem?_eq_some_iff.1 f1).1
                    obtain ⟨hq, _, _⟩ := flat_at (z := z') r.2 hj
                    rw [e10 _ hq, g1] at f2
                    cases f2
                    exact g2.ext hE.ext⟩)
                refine ⟨_, _, h, _, _, e13, ⟨hE, hR, rfl, rfl, rfl⟩, ?_⟩
                refine .sr _ _ _ _ _ _ ⟨⟨_, List.getElem?_set_self hhi, trivial⟩, fun z g n f e => ?_⟩ e8 e11 (fun q o' e hpos => ?_) fun z₁ s₁ e => ?_
                · dsimp only at e
                  rw [List.getElem?_set_self hhi] at e
                  cases e
                  exact Nat.le_refl _
                · simp only [Cx.adr, List.getElem?_set_self hhi, List.getElem?_set_self hgi, if_true, Nat.zero_mul, Nat.add_zero, Option.some.injEq, Prod.mk.injEq] at e
                  obtain ⟨rfl, rfl⟩ := e
                  exact e12 hpos
                · simp only [Cx.siz, List.getElem?_set_self hhi, List.getElem?_set_self hgi, if_true, e7, Option.some.injEq, Prod.mk.injEq] at e
                  obtain ⟨rfl, rfl⟩ := e
                  rw [Nat.zero_add]
                  exact e9
              by_cases hfit : n + m ≤ cap
              · -- within the room behind it
                by_cases hmz : m * z' = 0
                · have hv0 : vals = [] := by have := hsrc.len; rw [hmz] at this; exact List.length_eq_zero_iff.1 this
                  refine fin c.w b cap base arr ty rfl rfl rfl (Nat.le_refl _) (fun _ _ _ => rfl) (.inl rfl) hb hfit hcap (fun q hq => ?_) hn hbase (hex (R1 hfit c.w ?_))
                  · rw [Nat.add_mul, hmz, Nat.add_zero] at hq
                    rw [hv0, List.append_nil]
                    exact holds q hq
                  · cases base with
                    | none => rfl
                    | some ad => rw [hv0]; simp [storeCells]
                · have hm0 : 0 < m := Nat.pos_of_ne_zero fun e => hmz (by simp [e])
                  have hcap0 : 0 < cap := by omega
                  have e := hbase hcap0
                  subst e
                  have hle2 : n * z' + m * z' ≤ cap * z' := by rw [← Nat.add_mul]; exact Nat.mul_le_mul_right _ hfit
                  have hrun := run_storeCells (P := P) b (0 + n * z') vals 0 c.w arr hb (by rw [hsrc.len]; omega) hsrc.atom
                  rw [Nat.add_zero, Nat.zero_add] at hrun
                  refine fin { c.w with heap := c.w.heap.setIfInBounds b (.cells (putCells arr (n * z') vals) ty (0, 0)) } b cap _ (putCells arr (n * z') vals) ty rfl rfl rfl (by simp)
                    (fun q hq hne => by simp [Ne.symm hne]) (.inl rfl) (by simp [hlt]) hfit (by rw [putCells_size (by rw [hsrc.len]; omega)]; exact hcap) (fun q hq => ?_) hn hbase
                    (hex (R1 hfit _ (by simpa only [add_addr, Nat.zero_add] using hrun)))
                  rw [putCells_get (by rw [hsrc.len]; omega)]
                  rw [Nat.add_mul] at hq
                  by_cases hqn : q < n * z'
                  · rw [if_neg (by omega), List.getElem?_append_left (by rw [hold.len]; exact hqn)]
                    exact holds q hqn
                  · rw [if_pos (by rw [hsrc.len]; omega), List.getElem?_append_right (by rw [hold.len]; omega), hold.len]
              · -- in new memory
                obtain ⟨newCap, rest, g1, g2, g3⟩ := R2 hfit
                refine fin (c.w.drew.alloc (.cells (olds.toArray ++ vals.toArray ++ rest.toArray) el)) c.w.heap.size newCap (some ⟨c.w.heap.size, 0, none⟩) (olds.toArray ++ vals.toArray ++ rest.toArray) el rfl rfl rfl
                  (by show c.w.heap.size ≤ (c.w.heap.push _).size; simp) (fun q hq _ => by show (c.w.heap.push _)[q]? = _; exact heap_push_lt hq) (.inr ⟨Nat.le_refl _, by show (c.w.heap.push _)[b]? = _; exact heap_push_lt hlt⟩)
                  (by show (c.w.heap.push _)[c.w.heap.size]? = _; simp) g1 ?_ (fun q hq => ?_) ⟨fun e => (by cases e), fun ad e => (by cases e; rfl)⟩ (fun _ => rfl) (hex g3)
                · have : newCap * z' = (n + m) * z' + (newCap - (n + m)) * z' := by rw [← Nat.add_mul]; congr 1; omega
                  rw [List.length_append] at hlenv
                  simp only [Array.size_append, List.size_toArray, g2]
                  omega
                · have hh : olds.toArray ++ vals.toArray ++ rest.toArray = (olds ++ vals ++ rest).toArray := by simp
                  rw [hh, List.getElem?_toArray, List.getElem?_append_left (by rw [hlenv]; exact hq)]
      · cases h
    · cases h
  | _ => simp [appendD] at h

end
end Go.Den
