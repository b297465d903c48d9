/- Objects that are dropped; slices that get a right to grow. -/
import Derived.Test.YtbiklmpkkbncgaaGreatDenOps15
set_option linter.unusedSimpArgs false
set_option linter.unusedVariables false
set_option linter.unnecessarySimpa false
namespace Go.Den
open Go

def Cx.cut (c : Cx) (n : Nat) : Cx := { c with h := (c.h.take n).map (sweepO n), g := c.g.take n }

section
variable {c c' : Cx} {n : Nat}

theorem cut_h (hl : n ≤ c.h.length) : (c.cut n).h.length = n := by simp [Cx.cut, hl]

theorem cut_get {i : Nat} {o : Den.Obj} (h : (c.cut n).h[i]? = some o) : i < n ∧ ∃ o', c.h[i]? = some o' ∧ o = sweepO n o' := by
  simp only [Cx.cut, List.getElem?_map, Option.map_eq_some_iff] at h
  obtain ⟨o', h1, h2⟩ := h
  rw [List.getElem?_take] at h1
  split at h1
  · rename_i hi; exact ⟨hi, o', h1, h2.symm⟩
  · cases h1

theorem bornO_sweep {o : Den.Obj} (h : bornO o) : bornO (sweepO n o) := by cases o <;> first | exact h | trivial

theorem cut_born {i : Nat} (hi : i < n) (h : c.born i) : (c.cut n).born i := by
  obtain ⟨o, h1, h2⟩ := h
  refine ⟨sweepO n o, ?_, bornO_sweep h2⟩
  simp only [Cx.cut, List.getElem?_map]
  rw [List.getElem?_take, if_pos hi, h1]
  rfl

theorem cut_okr {i gen : Nat} (hi : i < n) (h : c.okr i gen) : (c.cut n).okr i gen := by
  refine ⟨cut_born hi h.1, fun z g m f e => ?_⟩
  obtain ⟨_, o', f1, f2⟩ := cut_get e
  cases o' <;> simp only [sweepO] at f2 <;> cases f2
  exact h.2 _ _ _ _ f1

theorem cut_gh {i : Nat} {gh : Gh} (h : (c.cut n).g[i]? = some gh) : c.g[i]? = some gh := by
  simp only [Cx.cut] at h
  rw [List.getElem?_take] at h
  split at h
  · exact h
  · cases h

theorem ownI_sweep {o : Den.Obj} {gh : Gh} {b off : Nat} (h : ownI (sweepO n o) gh b off) : ownI o gh b off := by
  cases o <;> simp only [sweepO] at h
  all_goals (cases gh <;> exact h)

theorem cut_own {b off : Nat} (h : (c.cut n).own b off) : c.own b off := by
  obtain ⟨i, o, gh, h1, h2, h3⟩ := h
  obtain ⟨_, o', e1, rfl⟩ := cut_get h1
  exact ⟨i, o', gh, e1, cut_gh h2, ownI_sweep h3⟩

theorem cut_cell : ∀ b off, c.stable b off → ∀ v, c.w.cell? ⟨b, off, none⟩ = some v → (c.cut n).stable b off ∧ (c.cut n).w.cell? ⟨b, off, none⟩ = some v :=
  fun _ _ hs _ hv => ⟨⟨hs.1, fun h => hs.2 (cut_own h)⟩, hv⟩

theorem cut_adr {i gen row off : Nat} {p : Nat × Nat} (h : (c.cut n).adr i gen row off = some p) : c.adr i gen row off = some p := by
  unfold Cx.adr at h ⊢
  split at h
  · rename_i cs b e1 e2
    obtain ⟨_, o', f1, f2⟩ := cut_get e1
    have f3 := cut_gh e2
    cases o' <;> simp only [sweepO] at f2 <;> cases f2
    simpa only [f1, f3] using h
  · rename_i z g m f b e1 e2
    obtain ⟨_, o', f1, f2⟩ := cut_get e1
    have f3 := cut_gh e2
    cases o' <;> simp only [sweepO] at f2 <;> cases f2
    simpa only [f1, f3] using h
  · cases h

theorem cut_siz {i gen : Nat} {p : Nat × Nat} (h : (c.cut n).siz i gen = some p) : c.siz i gen = some p := by
  unfold Cx.siz at h ⊢
  split at h
  · rename_i z g m f b e1 e2
    obtain ⟨_, o', f1, f2⟩ := cut_get e1
    have f3 := cut_gh e2
    cases o' <;> simp only [sweepO] at f2 <;> cases f2
    rw [f1, f3]
    exact h
  · cases h

theorem cut_tok {i N : Nat} (h : (c.cut n).h[i]? = some (.tok N)) : c.h[i]? = some (.tok N) := by
  obtain ⟨_, o', f1, f2⟩ := cut_get h
  cases o' <;> simp only [sweepO] at f2 <;> cases f2
  exact f1

theorem cut_map {i : Nat} {o : Den.Obj} (h : (c.cut n).h[i]? = some o) (hm : mapO o = true) : ∃ o', c.h[i]? = some o' ∧ mapO o' = true := by
  obtain ⟨_, o', f1, f2⟩ := cut_get h
  refine ⟨o', f1, ?_⟩
  subst f2
  cases o' <;> simp only [sweepO] at hm <;> first | rfl | exact hm

theorem sweepC_atom {u : AV} (h : AtomA u) : AtomA (sweepC n u) := by
  cases u <;> simp only [sweepC]
  case ptr i gen row off => cases decide (i < n) <;> trivial
  case sr i gen off len => cases decide (i < n) <;> trivial
  case map i => cases decide (i < n) <;> trivial
  case ifc t v => cases plainA v <;> trivial
  case fn f cap => cases cap <;> trivial
  case sl z t m f => cases t <;> trivial
  all_goals first | trivial | exact h

theorem sweepC_sound (_hl : n ≤ c.h.length) {u : AV} {x : Value} (h : VR c u x) : VR (c.cut n) (sweepC n u) x := by
  have hx := cut_cell (c := c) (n := n)
  have hsl : ∀ {z : Nat} {t t' : Tok} {m : Nat} {f : Fin m → List AV} {x : Value}, VR c (.sl z t m f) x → (t' = .tight → t = .tight) → (∀ i, t' = .id i → t = .id i ∧ i < n) → VR (c.cut n) (.sl z t' m f) x := by
    intro z t t' m f x h ht hid
    cases h with
    | sl _ _ _ _ a cap val h1 h2 h3 h4 h5 h6 h7 h8 h9 =>
      refine .sl z t' m f a cap val h1 (fun e => h2 (ht e)) h3 h4 h5 h6 (fun i j hj ad e => hx _ _ (h7 i j hj ad e).1 _ (h7 i j hj ad e).2) (fun i j u e => (h8 i j u e).pure hx (h4 i u (List.mem_of_getElem? e)).1) fun i e => ?_
      obtain ⟨e1, e2⟩ := hid i e
      obtain ⟨h10', h10⟩ := h9 i e1
      exact ⟨cut_born e2 h10', fun N a' cap' z' f1 f2 => h10 N a' cap' z' (cut_tok f1) (cut_gh f2)⟩
  cases h with
  | top x => exact .top x
  | dk x h => exact .dk x h
  | int k n => exact .int k n
  | bool b => exact .bool b
  | str l s h => exact .str l s h
  | flt b => exact .flt b
  | nil => exact .nil
  | ptr i gen row off x hi ha h =>
    simp only [sweepC]
    cases hd : decide (i < n) with
    | true => exact .ptr i gen row off x (cut_okr (by simpa using hd) hi) ha fun b o e => h b o (cut_adr e)
    | false => exact .dk x ha
  | pp row off b o val hp hc hv => exact .pp row off b o val hp (fun j hj => hx _ _ (hc j hj).1 _ (hc j hj).2) fun j u e => (hv j u e).pure hx (hp u (List.mem_of_getElem? e)).1
  | nils => exact .nils
  | sl z t m f a cap val h1 h2 h3 h4 h5 h6 h7 h8 h9 =>
    have h := VR.sl z t m f a cap val h1 h2 h3 h4 h5 h6 h7 h8 h9
    cases t with
    | no => exact hsl h id fun i e => by cases e
    | tight => exact hsl h id fun i e => by cases e
    | id i =>
      simp only [sweepC]
      cases hd : decide (i < n) with
      | true => exact hsl h (fun e => by cases e) fun j e => by cases e; exact ⟨rfl, by simpa using hd⟩
      | false => exact hsl h (fun e => by cases e) fun j e => by cases e
  | sr i gen off len a cap hi hlc hn h hz =>
    simp only [sweepC]
    cases hd : decide (i < n) with
    | true => exact .sr i gen off len a cap (cut_okr (by simpa using hd) hi) hlc hn (fun b o e => h b o (cut_adr e)) fun z s e => hz z s (cut_siz e)
    | false => exact .dk _ trivial
  | fn f cap arr hs hv =>
    cases cap with
    | nil => exact .fn f [] arr hs fun j u v e => by simp at e
    | cons v cap => exact .dk _ trivial
  | nilfn => exact .nilfn
  | ifc t v x hv =>
    simp only [sweepC]
    cases hp : plainA v with
    | false => exact .dk _ trivial
    | true => exact (VR.ifc t v x hv).pure hx (.ifc t v hp)
  | nilifc => exact .nilifc
  | agg => exact .top _
  | tup => exact .top _
  | map i x hi ha h =>
    simp only [sweepC]
    cases hd : decide (i < n) with
    | true =>
      refine .map i x (cut_born (by simpa using hd) hi) ha fun o b e hm eg => ?_
      obtain ⟨o', e', hm'⟩ := cut_map e hm
      exact h o' b e' hm' (cut_gh eg)
    | false => exact .dk x ha
  | nilmap => exact .nilmap

theorem sweepCs_sound (hl : n ≤ c.h.length) {cs : List AV} {arr : Array Value} (hv : ∀ (j : Nat) (u : AV) (v : Value), cs[j]? = some u → arr[j]? = some v → VR c u v) :
    ∀ (j : Nat) (u : AV) (v : Value), (cs.map (sweepC n))[j]? = some u → arr[j]? = some v → VR (c.cut n) u v := by
  intro j u v e1 e2
  rw [List.getElem?_map, Option.map_eq_some_iff] at e1
  obtain ⟨u', e1, rfl⟩ := e1
  exact sweepC_sound hl (hv j u' v e1 e2)

theorem sweepCs_atom {cs : List AV} (ha : ∀ u ∈ cs, AtomA u) : ∀ u ∈ cs.map (sweepC n), AtomA u := by
  intro u hu
  obtain ⟨u', hu', rfl⟩ := List.mem_map.1 hu
  exact sweepC_atom (ha u' hu')

theorem sweep_sound (hl : n ≤ c.h.length) {u : AV} {x : Value} (h : VR c u x) : VR (c.cut n) (sweep n u) x := by
  cases u
  case agg cs => cases h with | agg _ arr hs ha hv => exact .agg _ _ (by simp [hs]) (sweepCs_atom ha) (sweepCs_sound hl hv)
  case tup vs => cases h with | tup _ arr hs hv => exact .tup _ _ (by simp [hs]) (sweepCs_sound hl hv)
  case fn f cap => cases h with | fn _ _ arr hs hv => exact .fn f _ arr (by simp [hs]) (sweepCs_sound hl hv)
  all_goals exact sweepC_sound hl h

theorem cut_rel (hr : RelH c) (hl : n ≤ c.h.length) : RelH (c.cut n) := by
  refine ⟨by simp [Cx.cut, hr.len], fun i o gh h1 h2 => ?_, fun i j o gh o' gh' b off off' hij h1 h2 h3 h4 h5 h6 => ?_, fun b off h => hr.fr b off (cut_own h), hr.bd⟩
  · obtain ⟨_, o', f1, rfl⟩ := cut_get h1
    have hO := hr.obj i o' gh f1 (cut_gh h2)
    cases o' <;> cases gh <;> simp only [sweepO, ObjR] at hO ⊢
    · obtain ⟨arr, ty, h1, h2, h3, h4⟩ := hO
      exact ⟨arr, ty, h1, by simp [h2], sweepCs_atom h3, sweepCs_sound hl h4⟩
    · obtain ⟨arr, ty, h1, h2, h3, h4, h5⟩ := hO
      refine ⟨arr, ty, h1, h2, fun i => by simp [h3], fun i => sweepCs_atom (h4 i), fun i j u v e1 e2 => ?_⟩
      rw [List.getElem?_map, Option.map_eq_some_iff] at e1
      obtain ⟨u', e1, rfl⟩ := e1
      exact sweepC_sound hl (h5 i j u' v e1 e2)
    · exact hO
    · obtain ⟨ents, clock, h1, h2, h3, h4⟩ := hO
      exact ⟨ents, clock, h1, h2, h3, fun i e e1 => ⟨(h4 i e e1).1.key (h3 i), sweep_sound hl (h4 i e e1).2⟩⟩
    · exact hO
  · obtain ⟨_, o₁, f1, rfl⟩ := cut_get h1
    obtain ⟨_, o₂, f2, rfl⟩ := cut_get h3
    exact hr.dis i j o₁ gh o₂ gh' b off off' hij f1 (cut_gh h2) f2 (cut_gh h4) (ownI_sweep h5) (ownI_sweep h6)

theorem cut_evol {c₀ : Cx} (hE : Evol c₀ c) (hn : c₀.h.length ≤ n) (hl : n ≤ c.h.length) : Evol c₀ (c.cut n) where
  fr := hE.fr
  os := hE.os
  tape := hE.tape
  output := hE.output
  size := hE.size
  block := hE.block
  cell := hE.cell
  own := fun b off h => hE.own b off (cut_own h)
  len := by rw [cut_h hl]; exact hn
  born := fun i hi => cut_born (by have := hi.lt; omega) (hE.born i hi)
  old := fun i gen hi => cut_okr (by have := hi.lt; omega) (hE.old i gen hi)
  adr := fun i gen row off p hi h => hE.adr i gen row off p hi (cut_adr h)
  tok := fun i N a cap z hi h1 h2 => hE.tok i N a cap z hi (cut_tok h1) (cut_gh h2)
  map := fun i o b hi h1 hm h2 => by
    obtain ⟨o', e', hm'⟩ := cut_map h1 hm
    exact hE.map i o' b hi e' hm' (cut_gh h2)
  siz := fun i gen p hi h => hE.siz i gen p hi (cut_siz h)

theorem cut_ds (hl : n ≤ c.h.length) : ∀ {vs : List AV} {ds : List Deferred}, DsR c vs ds → DsR (c.cut n) (vs.map (sweep n)) ds
  | [], [], _ => trivial
  | v :: vs, d :: ds, h => by
    obtain ⟨⟨g, cap, arr, rfl, e2, e3⟩, h2⟩ := h
    exact ⟨⟨g, cap.map (sweepC n), arr, rfl, e2, sweep_sound hl e3⟩, cut_ds hl h2⟩
  | [], _ :: _, h => h.elim
  | _ :: _, [], h => h.elim

theorem cut_mode (hl : n ≤ c.h.length) {ps : PS} {u : FrameMode} (h : ModeR c ps u) : ModeR (c.cut n) (ps.cut n) u := by
  cases ps with
  | pan v => obtain ⟨x, e, hv⟩ := h; exact ⟨x, e, sweep_sound hl hv⟩
  | _ => exact h

theorem psr_deferred {c₀ : Frame} {rest cs : List Frame} {ps : PS} : PSR c (.deferred c₀ rest) ps cs ↔ ∃ u, ModeR c ps u ∧ cs = { c₀ with mode := u } :: rest := by
  cases ps <;> exact Iff.rfl

theorem cut_ps (hl : n ≤ c.h.length) {base : Base} {ps : PS} {cs : List Frame} (h : PSR c base ps cs) : PSR (c.cut n) base (ps.cut n) cs := by
  cases base with
  | plain cs₀ => cases ps <;> exact h
  | deferred c₀ rest =>
    rw [psr_deferred] at h ⊢
    obtain ⟨u, h1, h2⟩ := h
    exact ⟨u, cut_mode hl h1, h2⟩

theorem cut_fr {base : Base} {s : Hs} {ds : List Deferred} {cs : List Frame} (h : Fr base c s ds cs) (hl : n ≤ s.h.length) : Fr base (c.cut n) (s.cut n) ds cs := by
  have hl' : n ≤ c.h.length := by rw [h.h]; exact hl
  exact ⟨cut_rel h.rel hl', by simp only [Cx.cut, Hs.cut, h.h], cut_ds hl' h.ds, cut_ps hl' h.ps⟩

theorem cut_slots {T : List AV} {tm : Array Value} (h : SlotsR c T tm) (hl : n ≤ c.h.length) : SlotsR (c.cut n) (T.map (sweep n)) tm := by
  refine ⟨by simp [h.size], fun j u x e1 e2 => ?_⟩
  rw [List.getElem?_map, Option.map_eq_some_iff] at e1
  obtain ⟨u', e1, rfl⟩ := e1
  exact sweep_sound hl (h.at' j u' x e1 e2)

/-! a right to grow -/
structure FrS (base : Base) (c : Cx) (st : St) (a : Act) (cs : List Frame) : Prop where
  fr : Fr base c st.s a.defers cs
  slots : SlotsR c st.T a.tmps

theorem promote1_sound {base : Base} {st : St} {a : Act} {cs : List Frame} (h : FrS base c st a cs) (d : Nat) :
    ∃ c', c'.w = c.w ∧ Evol c c' ∧ FrS base c' (promote1 st d) a cs := by
  unfold promote1
  split
  · rename_i z m f e
    have hd : st.T[d]? = some (.sl z .tight m f) := by
      unfold getT at e
      cases hx : st.T[d]? with
      | none => rw [hx] at e; simp [undefA] at e
      | some y => rw [hx] at e; simp at e; rw [e]
    have hlt : d < st.T.length := (List.getElem?_eq_some_iff.1 hd).1
    have hlt' : d < a.tmps.size := by rw [h.slots.size]; exact hlt
    have hV := h.slots.at' d _ _ hd (Array.getElem?_eq_getElem hlt')
    generalize hx : a.tmps[d] = x at hV
    cases hV with
    | sl _ _ _ _ b cap val h1 h2 h3 h4 h5 h6 h7 h8 h9 =>
      have hcap := (h2 rfl).symm
      subst hcap
      obtain ⟨hE, hR⟩ := evol_push h.fr.rel (w' := c.w) rfl rfl rfl (Nat.le_refl _) (fun b hb => rfl) (.tok m) (.tk b m z)
        (fun b' off h => by
          cases b with
          | none => exact h.elim
          | some ad => simp only [ownI] at h; omega)
        (fun hE => ⟨Nat.le_refl _, fun e => (h5 e).2, fun ad e => ⟨h6 ad e, fun h _ => by omega⟩⟩)
      refine ⟨{ c with h := c.h ++ [.tok m], g := c.g ++ [.tk b m z], w := c.w }, rfl, hE, ⟨⟨hR, by rw [h.fr.h], h.fr.ds.ext hE.ext, h.fr.ps.ext hE.ext⟩, ?_⟩⟩
      refine ⟨by simp [h.slots.size], fun j u y e1 e2 => ?_⟩
      by_cases hj : d = j
      · subst hj
        rw [List.getElem?_set_self hlt] at e1
        cases e1
        rw [Array.getElem?_eq_getElem hlt', hx] at e2
        cases e2
        have hE := hE.ext
        refine .sl z _ m f b m val h1 (fun e => by cases e) h3 h4 h5 h6 (fun i j hj ad e => hE.cell _ _ (h7 i j hj ad e).1 _ (h7 i j hj ad e).2) (fun i j u e => (h8 i j u e).ext hE) fun i e => ?_
        cases e
        rw [← h.fr.h]
        refine ⟨⟨.tok m, by simp, trivial⟩, fun N a' cap' z' f1 f2 => ?_⟩
        have hg : (c.g ++ [Gh.tk b m z])[c.h.length]? = some (.tk b m z) := by rw [← h.fr.rel.len]; simp
        rw [hg] at f2
        cases f2
        simp at f1
        subst f1
        exact ⟨Nat.le_refl _, fun _ => ⟨rfl, rfl, rfl⟩⟩
      · rw [List.getElem?_set_ne hj] at e1
        exact (h.slots.at' j u y e1 e2).ext hE.ext
  · exact ⟨c, rfl, Evol.refl c, h⟩

theorem promoteC_sound {base : Base} {st : St} {a : Act} {cs : List Frame} (h : FrS base c st a cs) (d j : Nat) :
    ∃ c', c'.w = c.w ∧ Evol c c' ∧ FrS base c' (promoteC st d j) a cs := by
  unfold promoteC
  split
  · rename_i i _ _ _ _
    split
    · rename_i cs0 hi
      split
      · rename_i z m f hcj
        have hi : c.h[i]? = some (.var cs0) := by rw [h.fr.h]; exact hi
        have hil : i < c.h.length := (List.getElem?_eq_some_iff.1 hi).1
        have hlen := h.fr.rel.len
        obtain ⟨gh, hg⟩ : ∃ gh, c.g[i]? = some gh := ⟨c.g[i]'(by omega), List.getElem?_eq_getElem _⟩
        have hO := h.fr.rel.obj i _ _ hi hg
        cases gh with
        | none => exact hO.elim
        | tk => exact hO.elim
        | blk bk =>
          obtain ⟨arr, ty, hb, hsz, hA, hV⟩ := hO
          have hjl : j < cs0.length := (List.getElem?_eq_some_iff.1 hcj).1
          have hja : j < arr.size := by rw [hsz]; exact hjl
          have hVx := hV j _ _ hcj (Array.getElem?_eq_getElem hja)
          generalize hx : arr[j] = x at hVx
          cases hVx with
          | sl _ _ _ _ b cap val h1 h2 h3 h4 h5 h6 h7 h8 h9 =>
            have hcap := (h2 rfl).symm
            subst hcap
            obtain ⟨hE, hR⟩ := evol_push h.fr.rel (w' := c.w) rfl rfl rfl (Nat.le_refl _) (fun b hb => rfl) (.tok m) (.tk b m z)
              (fun b' off h => by
                cases b with
                | none => exact h.elim
                | some ad => simp only [ownI] at h; omega)
              (fun hE => ⟨Nat.le_refl _, fun e => (h5 e).2, fun ad e => ⟨h6 ad e, fun h _ => by omega⟩⟩)
            have hi' : (c.h ++ [Den.Obj.tok m])[i]? = some (.var cs0) := by rw [List.getElem?_append_left hil]; exact hi
            have hg' : (c.g ++ [Gh.tk b m z])[i]? = some (.blk bk) := by rw [List.getElem?_append_left (by omega)]; exact hg
            have hil' : i < (c.h ++ [Den.Obj.tok m]).length := by simp; omega
            have hgl' : i < (c.g ++ [Gh.tk b m z]).length := by simp; omega
            obtain ⟨hE2, hR2⟩ := evol_set hR (w' := c.w) rfl rfl rfl (Nat.le_refl _) hi' hg' (.var (cs0.set j (.sl z (.id c.h.length) m f))) (.blk bk)
              (fun _ _ _ => rfl) (fun _ _ _ _ => rfl) (fun b' off' h => .inl ⟨⟨0, h⟩, fun h' => h' h⟩)
              (fun z g n f e => by cases e) (fun gen row off' p _ h => by
                simp only [Cx.adr, List.getElem?_set_self hil', List.getElem?_set_self hgl'] at h
                simpa only [Cx.adr, hi', hg'] using h)
              (fun N a cap z e => by cases e) (fun b e => by cases e) (fun gen p _ h => by
                simp [Cx.siz, List.getElem?_set_self hil'] at h)
              (fun hE2 => ⟨arr, ty, hb, by simp [hsz], fun u hu => by
                  rcases List.mem_or_eq_of_mem_set hu with hu | rfl
                  · exact hA u hu
                  · exact trivial, fun k u v e1 e2 => by
                  by_cases hk : j = k
                  · subst hk
                    rw [List.getElem?_set_self hjl] at e1
                    cases e1
                    rw [Array.getElem?_eq_getElem hja, hx] at e2
                    cases e2
                    have hE3 := (hE.trans hE2).ext
                    refine .sl z _ m f b m val h1 (fun e => by cases e) h3 h4 h5 h6 (fun i j hj ad e => hE3.cell _ _ (h7 i j hj ad e).1 _ (h7 i j hj ad e).2) (fun i j u e => (h8 i j u e).ext hE3) fun q e => ?_
                    cases e
                    have hne : i ≠ c.h.length := by omega
                    refine ⟨⟨.tok m, by rw [List.getElem?_set_ne hne]; simp, trivial⟩, fun N a' cap' z' f1 f2 => ?_⟩
                    have g2 : (((c.g ++ [Gh.tk b m z]).set i (.blk bk)) : List Gh)[c.h.length]? = some (.tk b m z) := by
                      rw [List.getElem?_set_ne hne, ← hlen]; simp
                    have g1 : (((c.h ++ [Den.Obj.tok m]).set i (.var (cs0.set j (.sl z (.id c.h.length) m f)))) : List Den.Obj)[c.h.length]? = some (.tok m) := by
                      rw [List.getElem?_set_ne hne]; simp
                    simp only [g1] at f1
                    simp only [g2] at f2
                    cases f1
                    cases f2
                    exact ⟨Nat.le_refl _, fun _ => ⟨rfl, rfl, rfl⟩⟩
                  · rw [List.getElem?_set_ne hk] at e1
                    exact (hV k u v e1 e2).ext (hE.trans hE2).ext⟩)
            have hE3 := hE.trans hE2
            refine ⟨_, ?w, hE3, ?f⟩
            case w => rfl
            case f => exact ⟨⟨hR2, by simp only [h.fr.h], h.fr.ds.ext hE3.ext, h.fr.ps.ext hE3.ext⟩, ⟨h.slots.size, fun j u y e1 e2 => (h.slots.at' j u y e1 e2).ext hE3.ext⟩⟩
      · exact ⟨c, rfl, Evol.refl c, h⟩
    · exact ⟨c, rfl, Evol.refl c, h⟩
  · exact ⟨c, rfl, Evol.refl c, h⟩
theorem promoteN_sound {base : Base} {st : St} {a : Act} {cs : List Frame} (h : FrS base c st a cs) (d : Nat) :
    ∃ c', c'.w = c.w ∧ Evol c c' ∧ FrS base c' (promoteN st d) a cs := by
  unfold promoteN
  cases decide (d < 1024) with
  | true => exact promote1_sound h d
  | false => exact promoteC_sound h _ _

theorem promote_sound {base : Base} {a : Act} {cs : List Frame} : ∀ (l : List Nat) {c : Cx} {st : St}, FrS base c st a cs → ∃ c', c'.w = c.w ∧ Evol c c' ∧ FrS base c' (promote l st) a cs := by
  intro l
  induction l with
  | nil => intro c st h; exact ⟨c, rfl, Evol.refl c, h⟩
  | cons d l ih =>
    intro c st h
    obtain ⟨c₁, w1, e1, h1⟩ := promoteN_sound h d
    obtain ⟨c₂, w2, e2, h2⟩ := ih h1
    exact ⟨c₂, w2.trans w1, e1.trans e2, h2⟩

end
end Go.Den
