/- From a row's words on its arguments to abstract values, with a bound on how much they hold. -/
import Derived.Test.YtbiklmpkkbncgaaGreatDenOps20
import Derived.ProofKit
set_option linter.unusedSimpArgs false
set_option linter.unusedVariables false
set_option linter.unnecessarySimpa false
namespace Go.Den
open Go

/-- abstract values of a type of plain data, that hold at most N -/
def Typed (P : Program) : Nat → TypeId → Nat → List AV → Prop
  | 0, _, _, _ => False
  | d + 1, t, N, l =>
    match P.underlying t with
    | some .bool => ∃ b, l = [.bool b]
    | some (.int k) => ∃ n, l = [.int k n] ∧ (Lit.int k n).wf = true
    | some (.float .f64) => ∃ b, l = [.flt b] ∧ (Lit.float .f64 b).wf = true
    | some .string => ∃ s, l = [.str s] ∧ s.length ≤ maxLen ∧ s.length + 1 ≤ N
    | some (.slice e) => ∃ (n : Nat) (f : Fin n → List AV) (g : Fin n → Nat), l = [.sl (P.cellsOf e) .no n f] ∧ n ≤ maxLen ∧ (List.ofFn g).sum + 1 ≤ N ∧ ∀ i, 1 ≤ g i ∧ Typed P d e (g i) (f i)
    | some (.struct fs) => ∃ (parts : List (List AV)) (bs : List Nat), l = parts.flatten ∧ parts.length = fs.size ∧ bs.length = fs.size ∧ bs.sum + 1 ≤ N ∧
        ∀ (i : Nat) (f : Field) (p : List AV) (b : Nat), fs[i]? = some f → parts[i]? = some p → bs[i]? = some b → Typed P d f.type b p
    | some (.array n e) => ∃ (parts : List (List AV)) (bs : List Nat), l = parts.flatten ∧ parts.length = n ∧ bs.length = n ∧ bs.sum + 1 ≤ N ∧ ∀ (i : Nat) (p : List AV) (b : Nat), parts[i]? = some p → bs[i]? = some b → Typed P d e b p
    | _ => False

/-- how much data holds -/
structure BulkB {H : Type} (B : DataW H → Nat) (BA : List (DataW H) → Nat) : Prop where
  one : ∀ d, 1 ≤ B d
  str : ∀ s, B (.lit (.string s)) = s.length + 1
  slice : ∀ es sp, BA es + 1 ≤ B (.slice es sp)
  agg : ∀ ps, BA ps + 1 ≤ B (.agg ps)
  nil : BA [] = 0
  cons : ∀ d l, BA (d :: l) = B d + BA l

theorem BulkB.sum {H : Type} {B : DataW H → Nat} {BA : List (DataW H) → Nat} (h : BulkB B BA) : ∀ l, BA l = (l.map B).sum
  | [] => h.nil
  | d :: l => by rw [h.cons, h.sum l]; rfl

def contig (P : Program) : Nat → List Field → Option Nat
  | off, [] => some off
  | off, f :: fs => if f.offset = off then contig P (off + P.cellsOf f.type) fs else none

/-- types of plain data, closed -/
def flatSet (P : Program) (S : List TypeId) : Bool := S.all fun t =>
  match P.underlying t with
  | some .bool | some (.int _) | some (.float .f64) | some .string => true
  | some (.slice e) => S.contains e && decide (0 < P.cellsOf e)
  | some (.struct fs) => fs.toList.all (fun f => S.contains f.type) && contig P 0 fs.toList == some (P.cellsOf t)
  | some (.array n e) => S.contains e && n * P.cellsOf e == P.cellsOf t
  | _ => false

structure CellsR (c : Cx) (l : List AV) (cs : List Value) : Prop where
  len : l.length = cs.length
  pure : ∀ u ∈ l, PureA u ∧ AtomA u
  rel : ∀ (j : Nat) (u : AV) (x : Value), l[j]? = some u → cs[j]? = some x → VR c u x

def bare (w : World) : Cx := { Fr := fun _ _ => False, h := [], g := [], w }

theorem bare_stable (w : World) (b off : Nat) : (bare w).stable b off := ⟨id, fun ⟨i, o, gh, h, _⟩ => by simp [bare] at h⟩
theorem bare_rel (w : World) : RelH (bare w) := ⟨rfl, fun i o gh h => by simp [bare] at h, fun i j o gh o' gh' b off off' _ h => by simp [bare] at h, fun b off ⟨i, o, gh, h, _⟩ => by simp [bare] at h, fun b off h => h.elim⟩

theorem CellsR.one {c : Cx} {u : AV} {x : Value} (h : VR c u x) (hp : PureA u) (ha : AtomA u) : CellsR c [u] [x] :=
  ⟨rfl, fun v hv => by rw [List.mem_singleton] at hv; subst hv; exact ⟨hp, ha⟩, fun j v y e1 e2 => by
    cases j with
    | zero => simp at e1 e2; subst e1; subst e2; exact h
    | succ j => simp at e1⟩

theorem CellsR.append {c : Cx} {l m : List AV} {cs ds : List Value} (h : CellsR c l cs) (k : CellsR c m ds) : CellsR c (l ++ m) (cs ++ ds) := by
  refine ⟨by simp [h.len, k.len], fun u hu => ?_, fun j u x e1 e2 => ?_⟩
  · rcases List.mem_append.1 hu with hu | hu
    · exact h.pure u hu
    · exact k.pure u hu
  · by_cases hj : j < l.length
    · rw [List.getElem?_append_left hj] at e1
      rw [List.getElem?_append_left (by rw [← h.len]; exact hj)] at e2
      exact h.rel j u x e1 e2
    · rw [List.getElem?_append_right (by omega)] at e1
      rw [List.getElem?_append_right (by rw [← h.len]; omega)] at e2
      rw [h.len] at e1
      exact k.rel _ u x e1 e2

theorem CellsR.nil {c : Cx} : CellsR c [] [] := ⟨rfl, fun u hu => (by cases hu), fun j u x e => (by simp at e)⟩

section
variable {H : Type} {enc : TypeId × Value → H} {P : Program} {w : World} {held : Bool} {B : DataW H → Nat} {BA : List (DataW H) → Nat}

theorem fields_av {cs : List Value} {d : Nat} {r : TypeId → List Value → Option (DataW H × List MemPlace)}
    (ih : ∀ {t : TypeId} {cs : List Value} {x : DataW H × List MemPlace}, r t cs = some x → (∃ S, flatSet P S = true ∧ t ∈ S) → ∃ l, Typed P d t (B x.1) l ∧ CellsR (bare w) l cs) {S : List TypeId} (hS : flatSet P S = true) :
    ∀ (fs : List Field) (off tot : Nat) (xs : List (DataW H × List MemPlace)), contig P off fs = some tot → (∀ f ∈ fs, f.type ∈ S) → tot ≤ cs.length →
      fs.mapM (fun f => r f.type ((cs.drop f.offset).take (P.cellsOf f.type))) = some xs →
      off ≤ tot ∧ ∃ parts : List (List AV), parts.length = fs.length ∧ (xs.map fun x => B x.1).length = fs.length ∧
        (∀ (i : Nat) (f : Field) (p : List AV) (b : Nat), fs[i]? = some f → parts[i]? = some p → (xs.map fun x => B x.1)[i]? = some b → Typed P d f.type b p) ∧
        CellsR (bare w) parts.flatten ((cs.drop off).take (tot - off)) := by
  intro fs
  induction fs with
  | nil =>
    intro off tot xs h _ _ hx
    simp only [contig, Option.some.injEq] at h
    subst h
    simp only [List.mapM_nil, Option.pure_def, Option.some.injEq] at hx
    subst hx
    exact ⟨Nat.le_refl _, [], rfl, rfl, fun i f p b e => by simp at e, by simpa using CellsR.nil⟩
  | cons f fs ihf =>
    intro off tot xs h hm hl hx
    simp only [contig] at h
    split at h
    · rename_i hoff
      simp only [List.mapM_cons, Option.pure_def, Option.bind_eq_bind, Option.bind_eq_some_iff, Option.some.injEq] at hx
      obtain ⟨x, hx1, xs', hx2, rfl⟩ := hx
      obtain ⟨hle, parts, hp1, hb1, hp2, hp3⟩ := ihf _ _ _ h (fun g hg => hm g (List.mem_cons_of_mem _ hg)) hl hx2
      obtain ⟨l, hl1, hl2⟩ := ih hx1 ⟨S, hS, hm f (List.mem_cons_self ..)⟩
      refine ⟨by omega, l :: parts, by simp [hp1], by simpa using hb1, fun i g p b e1 e2 e3 => ?_, ?_⟩
      · cases i with
        | zero => simp at e1 e2 e3; subst e1; subst e2; subst e3; exact hl1
        | succ i => exact hp2 i g p b (by simpa using e1) (by simpa using e2) (by simpa using e3)
      · simp only [List.flatten_cons]
        rw [hoff] at hl2
        have : (cs.drop off).take (tot - off) = (cs.drop off).take (P.cellsOf f.type) ++ (cs.drop (off + P.cellsOf f.type)).take (tot - (off + P.cellsOf f.type)) := by
          rw [show tot - off = P.cellsOf f.type + (tot - (off + P.cellsOf f.type)) from by omega, List.take_add, List.drop_drop]
        rw [this]
        exact hl2.append hp3
    · cases h

theorem array_av {cs : List Value} {d : Nat} {e : TypeId} {r : List Value → Option (DataW H × List MemPlace)}
    (ih : ∀ {cs : List Value} {x : DataW H × List MemPlace}, r cs = some x → ∃ l, Typed P d e (B x.1) l ∧ CellsR (bare w) l cs) :
    ∀ (n k : Nat) (xs : List (DataW H × List MemPlace)), (k + n) * P.cellsOf e ≤ cs.length → (List.range' k n).mapM (fun i => r ((cs.drop (i * P.cellsOf e)).take (P.cellsOf e))) = some xs →
      ∃ parts : List (List AV), parts.length = n ∧ (xs.map fun x => B x.1).length = n ∧ (∀ (i : Nat) (p : List AV) (b : Nat), parts[i]? = some p → (xs.map fun x => B x.1)[i]? = some b → Typed P d e b p) ∧
        CellsR (bare w) parts.flatten ((cs.drop (k * P.cellsOf e)).take (n * P.cellsOf e)) := by
  intro n
  induction n with
  | zero =>
    intro k xs _ hx
    simp only [List.range'_zero, List.mapM_nil, Option.pure_def, Option.some.injEq] at hx
    subst hx
    exact ⟨[], rfl, rfl, fun i p b e => by simp at e, by simpa using CellsR.nil⟩
  | succ n ihn =>
    intro k xs hl hx
    rw [show List.range' k (n + 1) = k :: List.range' (k + 1) n from rfl] at hx
    simp only [List.mapM_cons, Option.pure_def, Option.bind_eq_bind, Option.bind_eq_some_iff, Option.some.injEq] at hx
    obtain ⟨x, hx1, xs', hx2, rfl⟩ := hx
    obtain ⟨parts, hp1, hb1, hp2, hp3⟩ := ihn (k + 1) xs' (by rw [show k + 1 + n = k + (n + 1) from by omega]; exact hl) hx2
    obtain ⟨l, hl1, hl2⟩ := ih hx1
    refine ⟨l :: parts, by simp [hp1], by simpa using hb1, fun i p b e2 e3 => ?_, ?_⟩
    · cases i with
      | zero => simp at e2 e3; subst e2; subst e3; exact hl1
      | succ i => exact hp2 i p b (by simpa using e2) (by simpa using e3)
    · simp only [List.flatten_cons]
      have : (cs.drop (k * P.cellsOf e)).take ((n + 1) * P.cellsOf e) = (cs.drop (k * P.cellsOf e)).take (P.cellsOf e) ++ (cs.drop ((k + 1) * P.cellsOf e)).take (n * P.cellsOf e) := by
        rw [show (n + 1) * P.cellsOf e = P.cellsOf e + n * P.cellsOf e from by rw [Nat.add_mul]; omega, List.take_add, List.drop_drop, show k * P.cellsOf e + P.cellsOf e = (k + 1) * P.cellsOf e from by rw [Nat.add_mul]; omega]
      rw [this]
      exact hl2.append hp3

theorem mapM_exists {β : Type} {n : Nat} {Q : Nat → β → Prop} (h : ∀ i, i < n → ∃ l, Q i l) : ∃ f : Fin n → β, ∀ i : Fin n, Q i.1 (f i) := by
  classical
  exact ⟨fun i => Classical.choose (h i.1 i.2), fun i => Classical.choose_spec (h i.1 i.2)⟩

theorem trod_typed (hB : BulkB B BA) : ∀ (fuel : Nat) {t : TypeId} {cs : List Value} {x : DataW H × List MemPlace}, DataW.trod enc P w 0 (fun _ => true) held fuel t cs = some x → (∃ S, flatSet P S = true ∧ t ∈ S) →
    ∃ l, Typed P fuel t (B x.1) l ∧ CellsR (bare w) l cs := by
  intro fuel
  induction fuel with
  | zero => intro t cs x h; cases h
  | succ fuel ih =>
    intro t cs x h hS
    obtain ⟨S, hS, htS⟩ := hS
    have hflat := List.all_eq_true.1 hS t htS
    unfold DataW.trod at h
    unfold Typed
    split at h
    · rename_i b hu
      rw [hu]
      exact ⟨[.bool b], ⟨b, rfl⟩, .one (.bool b) (.bool b) trivial⟩
    · rename_i k k' n hu
      rw [hu]
      split at h
      · rename_i hc
        obtain ⟨rfl, hw⟩ := hc
        exact ⟨[.int k' n], ⟨n, rfl, hw⟩, .one (.int k' n) (.int k' n) trivial⟩
      · cases h
    · rename_i k k' b hu
      rw [hu] at hflat ⊢
      cases k with
      | f32 => cases hflat
      | f64 =>
        split at h
        · rename_i hc
          obtain ⟨rfl, hw⟩ := hc
          exact ⟨[.flt b], ⟨b, rfl, hw⟩, .one (.flt b) (.flt b) trivial⟩
        · cases h
    · rename_i s hu
      rw [hu]
      split at h
      · rename_i hc
        cases h
        exact ⟨[.str s.data.toList], ⟨_, rfl, by simpa using hc, by simp [hB.str]⟩, .one (.str _ s rfl) (.str _) trivial⟩
      · cases h
    · rename_i hu; rw [hu] at hflat; cases hflat
    · rename_i hu; rw [hu] at hflat; cases hflat
    · rename_i e hu
      rw [hu]
      exact ⟨[.sl (P.cellsOf e) .no 0 (fun i => i.elim0)], ⟨0, _, fun i => i.elim0, rfl, by simp, by have := hB.one x.1; simpa using this, fun i => i.elim0⟩,
        .one (.sl _ .no 0 _ none 0 (fun _ _ => undef) (Nat.le_refl _) (fun e => by cases e) (fun i => i.elim0) (fun i => i.elim0) (fun _ => ⟨rfl, rfl⟩) (fun ad e => by cases e) (fun i => i.elim0) (fun i => i.elim0) (fun i e => by cases e))
          (.sl _ _ _ _ (fun i e => (by cases e)) (fun i => i.elim0) (fun i => i.elim0)) trivial⟩
    · rename_i e a len cap hu
      rw [hu] at hflat ⊢
      simp only at h
      split at h
      · rename_i hc
        simp only [Option.bind_eq_some_iff, Option.map_eq_some_iff, if_true] at h
        obtain ⟨elems, he, rest, hrest, hx⟩ := h
        obtain ⟨hl, hm⟩ := forall_mapM he
        obtain ⟨hl2, hm2⟩ := forall_mapM hrest
        simp only [Bool.and_eq_true, decide_eq_true_eq] at hflat
        have heS : e ∈ S := by simpa using hflat.1
        have hz := hflat.2
        have helem : ∀ i, i < cap → ∃ y, (w.cells? 0 (a.add (i * P.cellsOf e)) (P.cellsOf e)).bind (DataW.trod enc P w 0 (fun _ => true) held fuel e) = some y ∧ ∀ h : i < elems.length, y = elems[i] := by
          intro i hi
          by_cases hil : i < len
          · have hi' : i < elems.length := by rw [hl]; simpa using hil
            exact ⟨_, hm i i _ (by simp [hil]) (List.getElem?_eq_getElem hi'), fun _ => rfl⟩
          · have hi' : i - len < rest.length := by rw [hl2]; simp; omega
            have := hm2 (i - len) (i - len) _ (List.getElem?_range (by omega)) (List.getElem?_eq_getElem hi')
            rw [show len + (i - len) = i from by omega] at this
            exact ⟨_, this, fun h => absurd h (by rw [hl]; simpa using hil)⟩
        have hcell : ∀ i, i < cap → ∃ l cs₁, (∀ h : i < elems.length, Typed P fuel e (B elems[i].1) l) ∧ CellsR (bare w) l cs₁ ∧ cs₁.length = P.cellsOf e ∧ ∀ j, j < P.cellsOf e → w.cell? ((a.add (i * P.cellsOf e)).add j) = cs₁[j]? := by
          intro i hi
          obtain ⟨y, hy, hye⟩ := helem i hi
          simp only [Option.bind_eq_some_iff] at hy
          obtain ⟨cs₁, h1, h2⟩ := hy
          obtain ⟨l, h3, h4⟩ := ih h2 ⟨S, hS, heS⟩
          simp only [World.cells?, Nat.zero_le, if_true] at h1
          obtain ⟨h5, h6⟩ := forall_mapM h1
          refine ⟨l, cs₁, fun h => by rw [← hye h]; exact h3, h4, by simpa using h5, fun j hj => ?_⟩
          have hj' : j < cs₁.length := by rw [h5]; simpa using hj
          rw [h6 j j _ (by simp [hj]) (List.getElem?_eq_getElem hj'), List.getElem?_eq_getElem hj']
        have hspot : 0 < cap → a.spot = none := by
          intro hpos
          obtain ⟨l, cs₁, _, _, h5, h6⟩ := hcell 0 hpos
          have := h6 0 hz
          rw [List.getElem?_eq_getElem (by omega)] at this
          have ha : (a.add (0 * P.cellsOf e)).add 0 = a := by simp [Addr.add]
          rw [ha] at this
          unfold World.cell? at this
          split at this
          · split at this
            · cases this
            · rename_i hn; simpa using hn
          · cases this
        have hcl : ∀ i, i < len → ∃ lc : List AV × List Value, (∀ h : i < elems.length, Typed P fuel e (B elems[i].1) lc.1) ∧ CellsR (bare w) lc.1 lc.2 ∧ lc.2.length = P.cellsOf e ∧ ∀ j, j < P.cellsOf e → w.cell? ((a.add (i * P.cellsOf e)).add j) = lc.2[j]? := fun i hi =>
          let ⟨l, cs₁, h⟩ := hcell i (by omega); ⟨(l, cs₁), h⟩
        obtain ⟨f, hf⟩ := mapM_exists hcl
        have hpa : ∀ i, ∀ u ∈ (f i).1, PureA u ∧ AtomA u := fun i => (hf i).2.1.pure
        have hle : elems.length = len := by rw [hl]; simp
        have hg : (List.ofFn fun i : Fin len => B (elems[i.1]'(by rw [hle]; exact i.2)).1) = (elems.map (·.1)).map B := by
          apply List.ext_getElem
          · simp [hle]
          · intro i h1 h2
            simp
        refine ⟨[.sl (P.cellsOf e) .no len fun i => (f i).1], ⟨len, _, fun i => B (elems[i.1]'(by rw [hle]; exact i.2)).1, rfl, by omega, by rw [hg, ← hB.sum, ← hx]; exact hB.slice _ _, fun i => ⟨hB.one _, (hf i).1 (by rw [hle]; exact i.2)⟩⟩,
          .one (.sl _ .no len _ (some a) cap (fun i j => if h : i < len then ((f ⟨i, h⟩).2[j]?).getD undef else undef) hc.2.1 (fun e => by cases e) (fun i => by rw [(hf i).2.1.len, (hf i).2.2.1]) hpa (fun e => by cases e)
            (fun ad e hpos => by cases e; exact hspot hpos) (fun i j hj ad e => ?_) (fun i j u hu => ?_) (fun i e => by cases e))
            (.sl _ _ _ _ (fun i e => (by cases e)) (fun i u hu => (hpa i u hu).1) (fun i u hu => (hpa i u hu).2)) trivial⟩
        · cases e
          refine ⟨bare_stable w _ _, ?_⟩
          have hsp := hspot (by have := i.2; omega)
          obtain ⟨b, o, sp⟩ := a
          simp only at hsp
          subst hsp
          have := (hf i).2.2.2 j hj
          rw [add_addr, add_addr] at this
          have hj' : j < (f i).2.length := by rw [(hf i).2.2.1]; exact hj
          rw [dif_pos i.2]
          show w.cell? _ = _
          rw [this, List.getElem?_eq_getElem hj']
          rfl
        · rw [dif_pos i.2]
          have hj : j < (f i).1.length := (List.getElem?_eq_some_iff.1 hu).1
          have hj' : j < (f i).2.length := by rw [← (hf i).2.1.len]; exact hj
          have := (hf i).2.1.rel j u _ hu (List.getElem?_eq_getElem hj')
          rw [show ((f ⟨i.1, i.2⟩).2[j]?).getD undef = (f i).2[j] from by simp [List.getElem?_eq_getElem hj']]
          exact this
      · cases h
    · rename_i cs' c1 c2 fs hu
      rw [hu] at hflat ⊢
      split at h
      · rename_i hl
        simp only [Option.map_eq_some_iff] at h
        obtain ⟨xs, hx, rfl⟩ := h
        simp only [Bool.and_eq_true, beq_iff_eq] at hflat
        obtain ⟨_, parts, hp1, hb1, hp2, hp3⟩ := fields_av (B := B) (w := w) (d := fuel) (cs := cs') ih hS fs.toList 0 _ xs hflat.2 (fun f hf => by
          have := List.all_eq_true.1 hflat.1 f hf
          simpa using this) (by omega) hx
        have hsum : (xs.map fun x => B x.1).sum + 1 ≤ B (.agg (xs.map (·.1))) := by
          have := hB.agg (xs.map (·.1))
          rw [hB.sum, List.map_map] at this
          exact this
        refine ⟨parts.flatten, ⟨parts, _, rfl, by simpa using hp1, by simpa using hb1, hsum, fun i f p b e1 e2 e3 => hp2 i f p b (by simpa using e1) e2 e3⟩, ?_⟩
        rw [List.drop_zero, Nat.sub_zero, ← hl, List.take_length] at hp3
        exact hp3
      · cases h
    · rename_i cs' c1 c2 n e hu
      rw [hu] at hflat ⊢
      split at h
      · rename_i hl
        simp only [Option.map_eq_some_iff] at h
        obtain ⟨xs, hx, rfl⟩ := h
        simp only [Bool.and_eq_true, beq_iff_eq] at hflat
        rw [List.range_eq_range'] at hx
        obtain ⟨parts, hp1, hb1, hp2, hp3⟩ := array_av (B := B) (w := w) (d := fuel) (e := e) (cs := cs') (r := DataW.trod enc P w 0 (fun _ => true) held fuel e) (fun hr => ih hr ⟨S, hS, by simpa using hflat.1⟩) n 0 xs (by rw [Nat.zero_add, hflat.2, hl]; exact Nat.le_refl _) hx
        have hsum : (xs.map fun x => B x.1).sum + 1 ≤ B (.agg (xs.map (·.1))) := by
          have := hB.agg (xs.map (·.1))
          rw [hB.sum, List.map_map] at this
          exact this
        refine ⟨parts.flatten, ⟨parts, _, rfl, hp1, hb1, hsum, hp2⟩, ?_⟩
        rw [Nat.zero_mul, List.drop_zero, hflat.2, ← hl, List.take_length] at hp3
        exact hp3
      · cases h
    · rename_i hu; rw [hu] at hflat; cases hflat
    · rename_i hu; rw [hu] at hflat; cases hflat
    · rename_i hu; rw [hu] at hflat; cases hflat
    · rename_i hu; rw [hu] at hflat; cases hflat
    · rename_i hu; rw [hu] at hflat; cases hflat
    · rename_i hu; rw [hu] at hflat; cases hflat
    · rename_i hu; rw [hu] at hflat; cases hflat
    · rename_i hu; rw [hu] at hflat; cases hflat
    · rename_i hu; rw [hu] at hflat; cases hflat
    · rename_i hu; rw [hu] at hflat; cases hflat
    · cases h

def mkA (P : Program) (t : TypeId) (l : List AV) : AV := cond (isAggD P t) (.agg l) (l.headD .top)

theorem arg_av (hB : BulkB B BA) {base : Nat} {t : TypeId} {v : Value} {d : DataW H} {ps : List MemPlace} (hS : ∃ S, flatSet P S = true ∧ t ∈ S) (hval : Value.okWide P w .any base t v)
    (h : DataW.Trod enc P w 0 (fun _ => true) held t v d ps) : ∃ fuel l, Typed P fuel t (B d) l ∧ VR (bare w) (mkA P t l) v := by
  obtain ⟨fuel, h⟩ := h
  obtain ⟨l, hT, hC⟩ := trod_typed hB fuel h hS
  refine ⟨fuel, l, hT, ?_⟩
  obtain ⟨S, hfl, htS⟩ := hS
  have hflat := List.all_eq_true.1 hfl t htS
  unfold Value.okWide at hval
  cases hu : P.underlying t with
  | none => rw [hu] at hflat; cases hflat
  | some ty =>
    rw [hu] at hflat hval
    have hagg : aggDesc ty = true → VR (bare w) (mkA P t l) v := by
      intro ha
      have : ∃ cs, v = .agg cs := by
        cases ty <;> simp [aggDesc] at ha
        · obtain ⟨cs, e, _⟩ := hval; exact ⟨cs, e⟩
        · obtain ⟨cs, e, _⟩ := hval; exact ⟨cs, e⟩
      obtain ⟨cs, rfl⟩ := this
      simp only [mkA, isAggD, hu, ha, cond_true]
      simp only [Value.cells] at hC
      exact .agg l cs (by have := hC.len; simpa using this.symm) (fun u hu => (hC.pure u hu).2) (fun j u x e1 e2 => hC.rel j u x e1 (by simpa using e2))
    have hone : aggDesc ty = false → (∀ cs, v ≠ .agg cs) → VR (bare w) (mkA P t l) v := by
      intro ha hn
      simp only [mkA, isAggD, hu, ha, cond_false]
      have hc : v.cells.toList = [v] := by cases v <;> first | rfl | exact absurd rfl (hn _)
      rw [hc] at hC
      have hlen := hC.len
      match l, hlen with
      | [u], _ => exact hC.rel 0 u v rfl rfl
    cases ty
    case struct fs => exact hagg rfl
    case array n e => exact hagg rfl
    all_goals first | (exfalso; simp at hflat; done) | exact hone rfl fun cs e => by subst e; simp [Cell.okWide, Cell.ok, hu] at hval

/-- arguments of parameters' types that hold at most N together -/
def TypedArgs (P : Program) : List TypeId → Nat → List AV → Prop
  | [], _, [] => True
  | t :: ts, N, a :: as => ∃ b M, (∃ fuel l, Typed P fuel t b l ∧ a = mkA P t l) ∧ TypedArgs P ts M as ∧ b + M ≤ N
  | _, _, _ => False

theorem args_av (hB : BulkB B BA) {base : Nat} : ∀ {ts : List TypeId} {vs : List Value} {ds : List (DataW H)} {ps : List MemPlace}, DataW.TrodAll enc P w 0 (fun _ => true) held ts vs ds ps →
    (∀ (j : Nat) t v, ts[j]? = some t → vs[j]? = some v → Value.okWide P w .any base t v) → (∀ t ∈ ts, ∃ S, flatSet P S = true ∧ t ∈ S) →
    ∃ as, TypedArgs P ts (BA ds) as ∧ vs.length = as.length ∧ ∀ (j : Nat) (u : AV) (v : Value), as[j]? = some u → vs[j]? = some v → VR (bare w) u v
  | [], [], [], _, _, _, _ => ⟨[], trivial, rfl, fun j u v e => by simp at e⟩
  | t :: ts, v :: vs, d :: ds, _, h, hv, hs => by
    obtain ⟨p, q, h1, h2, _⟩ := h
    obtain ⟨fuel, l, hT, hV⟩ := arg_av hB (hs t (List.mem_cons_self ..)) (hv 0 t v rfl rfl) h1
    obtain ⟨as, hA, hl, hR⟩ := args_av hB h2 (fun j t v e1 e2 => hv (j + 1) t v e1 e2) fun t ht => hs t (List.mem_cons_of_mem _ ht)
    refine ⟨mkA P t l :: as, ⟨_, _, ⟨fuel, l, hT, rfl⟩, hA, by rw [hB.cons]; exact Nat.le_refl _⟩, by simp [hl], fun j u v e1 e2 => ?_⟩
    cases j with
    | zero => simp at e1 e2; subst e1; subst e2; exact hV
    | succ j => exact hR j u v (by simpa using e1) (by simpa using e2)
  | [], [], _ :: _, _, h, _, _ => h.elim
  | [], _ :: _, _, _, h, _, _ => h.elim
  | _ :: _, [], _, _, h, _, _ => h.elim
  | _ :: _, _ :: _, [], _, h, _, _ => h.elim

/-- A law, from what the second reading says of it at all abstract values of its parameters' types. -/
theorem law_calls (hB : BulkB B BA) (hok : Okay P) {call : CallO} (hcall : CallSound P call) {f : FuncId} {ts : List TypeId} {args : Array Value} {ds : List (DataW H)} {ps : List MemPlace} {base : Nat}
    (hlaw : ∀ as, TypedArgs P ts (BA ds) as → call f as [] .plain = some (.ret (.bool true) [] .plain)) (hA : DataW.TrodAll enc P w 0 (fun _ => true) held ts args.toList ds ps)
    (hv : ∀ (j : Nat) t v, ts[j]? = some t → args[j]? = some v → Value.okWide P w .any base t v) (hs : ∀ t ∈ ts, ∃ S, flatSet P S = true ∧ t ∈ S) :
    Calls P f args w fun e w' => e = .returned (.bool true) ∧ RowKit.Below w.heap.size w w' := by
  obtain ⟨as, hT, hl, hR⟩ := args_av hB hA (fun j t v e1 e2 => hv j t v e1 (by simpa using e2)) hs
  obtain ⟨_, hsound⟩ := hcall _ _ _ _ _ (hlaw as hT)
  have hargs : ArgsR (bare w) as args := ⟨by simpa using hl, fun j u v e1 e2 => hR j u v e1 (by simpa using e2)⟩
  refine Calls.mono ((hsound (bare w) args (bare_rel w) rfl hargs).1 rfl) ?_
  rintro e w' ⟨c', rfl, hE, hR', hO⟩
  cases e with
  | returned x =>
    obtain ⟨_, hv⟩ := hO
    refine ⟨by rw [hv.bool_inv], hE.os, hE.tape, hE.output, hE.size, fun k hk => hE.block k hk fun off ho => (bare_stable w k off).2 ho⟩
  | panicked => exact hO.elim
  | outgrown => exact hO.elim

end
end Go.Den
