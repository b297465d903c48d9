/- The heap of objects, related to the world; loads; what a step may turn. -/
import Derived.Test.YtbiklmpkkbncgaaGreatDenRel
set_option linter.unusedSimpArgs false
set_option linter.unusedVariables false
set_option linter.unnecessarySimpa false
namespace Go.Den
open Go

def ObjR (c : Cx) : Den.Obj → Gh → Prop
  | .dead, _ => True
  | .unborn, _ => True
  | .var cs, .blk b => ∃ arr ty, c.w.heap[b]? = some (.cells arr ty (0, 0)) ∧ arr.size = cs.length ∧ (∀ u ∈ cs, AtomA u) ∧
      ∀ (j : Nat) (u : AV) (v : Value), cs[j]? = some u → arr[j]? = some v → VR c u v
  | .arr z _ n f, .blk b => ∃ arr ty, c.w.heap[b]? = some (.cells arr ty (0, 0)) ∧ n * z ≤ arr.size ∧ (∀ i, (f i).length = z) ∧ (∀ i, ∀ u ∈ f i, AtomA u) ∧
      ∀ (i : Fin n) (j : Nat) (u : AV) (v : Value), (f i)[j]? = some u → arr[i.1 * z + j]? = some v → VR c u v
  | .tok N, .tk a cap z => N ≤ cap ∧ (a = none → cap = 0) ∧ ∀ ad, a = some ad → (0 < cap → ad.spot = none) ∧
      (N < cap → 0 < z → ∃ arr ty, c.w.heap[ad.block]? = some (.cells arr ty (0, 0)) ∧ ad.off + cap * z ≤ arr.size)
  | .map a ks n f, .blk b => ∃ ents clock, c.w.heap[b]? = some (.map ents clock) ∧ ents.size = n ∧ (∀ i, keyKd a ks (f i).1 = true) ∧
      ∀ (i : Fin n) (e : MapEntry), ents[i.1]? = some e → VR c (f i).1 e.key ∧ VR c (f i).2 e.val
  | .sit s pos, .blk b => ∃ bs : ByteArray, c.w.heap[b]? = some (.stringIter bs pos) ∧ bs.data.toList = s
  | _, _ => False

structure RelH (c : Cx) : Prop where
  len : c.g.length = c.h.length
  obj : ∀ (i : Nat) o gh, c.h[i]? = some o → c.g[i]? = some gh → ObjR c o gh
  dis : ∀ (i j : Nat) o gh o' gh' b off off', i ≠ j → c.h[i]? = some o → c.g[i]? = some gh → c.h[j]? = some o' → c.g[j]? = some gh' → ownI o gh b off → ¬ ownI o' gh' b off'
  fr : ∀ b off, c.own b off → ¬ c.Fr b off
  bd : ∀ b off, c.Fr b off → b < c.w.heap.size

theorem Cx.born.lt {c : Cx} {i : Nat} (h : c.born i) : i < c.h.length := by
  obtain ⟨o, h, _⟩ := h
  exact (List.getElem?_eq_some_iff.1 h).1

theorem Cx.okr.lt {c : Cx} {i gen : Nat} (h : c.okr i gen) : i < c.h.length := Cx.born.lt h.1

theorem lt_of_heap {w : World} {b : Nat} {o : Go.Obj} (h : w.heap[b]? = some o) : b < w.heap.size := by
  rcases Nat.lt_or_ge b w.heap.size with h' | h'
  · exact h'
  · simp [Array.getElem?_eq_none h'] at h

theorem ownI_lt {c : Cx} {o : Den.Obj} {gh : Gh} {b off : Nat} (h : ObjR c o gh) (ho : ownI o gh b off) : b < c.w.heap.size := by
  cases o <;> cases gh <;> simp only [ownI, ObjR] at h ho
  · obtain ⟨arr, ty, hb, _⟩ := h; subst ho; exact lt_of_heap hb
  · obtain ⟨arr, ty, hb, _⟩ := h; subst ho; exact lt_of_heap hb
  · rename_i N a cap z
    cases a with
    | none => exact ho.elim
    | some ad =>
      obtain ⟨rfl, h1, h2⟩ := ho
      obtain ⟨_, _, h3⟩ := h
      have hlt : N * z < cap * z := by omega
      have hz : 0 < z := by
        rcases Nat.eq_zero_or_pos z with h | h
        · subst h; simp at hlt
        · exact h
      have hN : N < cap := Nat.lt_of_mul_lt_mul_right hlt
      obtain ⟨arr, ty, hb, _⟩ := (h3 ad rfl).2 hN hz
      exact lt_of_heap hb
  · obtain ⟨arr, ty, hb, _⟩ := h; subst ho; exact lt_of_heap hb
  · obtain ⟨bs, hb, _⟩ := h; subst ho; exact lt_of_heap hb

theorem RelH.own_lt {c : Cx} (h : RelH c) {b off : Nat} (ho : c.own b off) : b < c.w.heap.size := by
  obtain ⟨i, o, gh, h1, h2, h3⟩ := ho
  exact ownI_lt (h.obj i o gh h1 h2) h3

/-- What a piece of work may turn. -/
structure Evol (c c' : Cx) : Prop where
  fr : c'.Fr = c.Fr
  os : c'.w.os = c.w.os
  tape : c'.w.tape = c.w.tape
  output : c'.w.output = c.w.output
  size : c.w.heap.size ≤ c'.w.heap.size
  block : ∀ b, b < c.w.heap.size → (∀ off, ¬ c.own b off) → c'.w.heap[b]? = c.w.heap[b]?
  cell : ∀ b off, b < c.w.heap.size → ¬ c.own b off → c'.w.cell? ⟨b, off, none⟩ = c.w.cell? ⟨b, off, none⟩
  own : ∀ b off, c'.own b off → c.own b off ∨ c.w.heap.size ≤ b
  len : c.h.length ≤ c'.h.length
  born : ∀ i, c.born i → c'.born i
  old : ∀ i gen, c.okr i gen → c'.okr i gen
  adr : ∀ (i gen row off : Nat) p, c.okr i gen → c'.adr i gen row off = some p → c.adr i gen row off = some p
  tok : ∀ (i N : Nat) a cap z, c.born i → c'.h[i]? = some (.tok N) → c'.g[i]? = some (.tk a cap z) →
    ∃ N₀ a₀ cap₀ z₀, c.h[i]? = some (.tok N₀) ∧ c.g[i]? = some (.tk a₀ cap₀ z₀) ∧ N₀ ≤ N ∧ (N₀ = N → a = a₀ ∧ cap = cap₀ ∧ z = z₀)
  map : ∀ (i : Nat) o b, c.born i → c'.h[i]? = some o → mapO o = true → c'.g[i]? = some (.blk b) → ∃ o₀, c.h[i]? = some o₀ ∧ mapO o₀ = true ∧ c.g[i]? = some (.blk b)
  siz : ∀ (i gen : Nat) p, c.okr i gen → c'.siz i gen = some p → c.siz i gen = some p

theorem cell_lt {w : World} {b off : Nat} {v : Value} (h : w.cell? ⟨b, off, none⟩ = some v) : b < w.heap.size := by
  unfold World.cell? at h
  split at h
  · rename_i hb; exact lt_of_heap hb
  · cases h

theorem Evol.ext {c c' : Cx} (h : Evol c c') : Ext c c' where
  cell := fun b off hs v hv => by
    have hlt := cell_lt hv
    refine ⟨⟨by rw [h.fr]; exact hs.1, fun ho => ?_⟩, by rw [h.cell b off hlt hs.2]; exact hv⟩
    rcases h.own b off ho with h1 | h1
    · exact hs.2 h1
    · omega
  len := h.len
  born := h.born
  old := h.old
  adr := h.adr
  tok := h.tok
  map := h.map
  siz := h.siz

theorem Evol.refl (c : Cx) : Evol c c :=
  ⟨rfl, rfl, rfl, rfl, Nat.le_refl _, fun _ _ _ => rfl, fun _ _ _ _ => rfl, fun _ _ h => .inl h, Nat.le_refl _, fun _ h => h, fun _ _ h => h, fun _ _ _ _ _ _ h => h,
    (Ext.refl c).tok, (Ext.refl c).map, fun _ _ _ _ h => h⟩

theorem Evol.trans {a b c : Cx} (h : Evol a b) (k : Evol b c) : Evol a c where
  fr := k.fr.trans h.fr
  os := k.os.trans h.os
  tape := k.tape.trans h.tape
  output := k.output.trans h.output
  size := Nat.le_trans h.size k.size
  block := fun p hp ho => by
    rw [k.block p (Nat.lt_of_lt_of_le hp h.size) fun off hb => (h.own p off hb).elim (ho off) (by omega), h.block p hp ho]
  cell := fun p off hp ho => by
    rw [k.cell p off (Nat.lt_of_lt_of_le hp h.size) fun hb => (h.own p off hb).elim ho (by omega), h.cell p off hp ho]
  own := fun p off ho => by
    rcases k.own p off ho with h1 | h1
    · exact h.own p off h1
    · exact .inr (Nat.le_trans h.size h1)
  len := (h.ext.trans k.ext).len
  born := (h.ext.trans k.ext).born
  old := (h.ext.trans k.ext).old
  adr := (h.ext.trans k.ext).adr
  tok := (h.ext.trans k.ext).tok
  map := (h.ext.trans k.ext).map
  siz := (h.ext.trans k.ext).siz

/-- an object whose place is left alone -/
theorem ObjR.ext {c c' : Cx} (hx : Ext c c') {o : Den.Obj} {gh : Gh} (h : ObjR c o gh) (hb : ∀ b off, ownI o gh b off → c'.w.heap[b]? = c.w.heap[b]?) : ObjR c' o gh := by
  cases o <;> cases gh <;> simp only [ObjR] at h ⊢
  · obtain ⟨arr, ty, h1, h2, h3, h4⟩ := h
    exact ⟨arr, ty, by rw [hb _ 0 rfl]; exact h1, h2, h3, fun j u v e1 e2 => (h4 j u v e1 e2).ext hx⟩
  · obtain ⟨arr, ty, h1, h2, h3, h4, h5⟩ := h
    exact ⟨arr, ty, by rw [hb _ 0 rfl]; exact h1, h2, h3, h4, fun i j u v e1 e2 => (h5 i j u v e1 e2).ext hx⟩
  · rename_i N a cap z
    obtain ⟨h1, h2, h3⟩ := h
    refine ⟨h1, h2, fun ad e => ⟨(h3 ad e).1, fun hN hz => ?_⟩⟩
    obtain ⟨arr, ty, h4, h5⟩ := (h3 ad e).2 hN hz
    subst e
    refine ⟨arr, ty, ?_, h5⟩
    rw [hb ad.block (ad.off + N * z) ⟨rfl, Nat.le_refl _, by
      have : N * z < cap * z := Nat.mul_lt_mul_of_pos_right hN hz
      omega⟩]
    exact h4
  · obtain ⟨ents, clock, h1, h2, h4, h3⟩ := h
    exact ⟨ents, clock, by rw [hb _ 0 rfl]; exact h1, h2, h4, fun j e e1 => ⟨(h3 j e e1).1.ext hx, (h3 j e e1).2.ext hx⟩⟩
  · obtain ⟨bs, h1, h2⟩ := h
    exact ⟨bs, by rw [hb _ 0 rfl]; exact h1, h2⟩

/-- the size of an object whose block is left alone -/
theorem siz_same {c c' : Cx} (hr : RelH c) {i gen : Nat} {p : Nat × Nat} (hh : c'.h[i]? = c.h[i]?) (hg : c'.g[i]? = c.g[i]?)
    (hb : ∀ (o : Den.Obj) gh b, c.h[i]? = some o → c.g[i]? = some gh → b < c.w.heap.size → (∀ off, ownI o gh b off) → c'.w.heap[b]? = c.w.heap[b]?) (h : c'.siz i gen = some p) : c.siz i gen = some p := by
  unfold Cx.siz at h ⊢
  rw [hh, hg] at h
  split at h
  · rename_i z gen' n f b e1 e2
    have hO := hr.obj i _ _ e1 e2
    have hlt : b < c.w.heap.size := ownI_lt (off := 0) hO rfl
    rw [hb _ _ b e1 e2 hlt fun off => rfl] at h
    simpa only [e1, e2] using h
  · cases h

/-- the world alone has turned, at no block that was there -/
theorem evol_world {c : Cx} (hr : RelH c) {w' : World} (ho : w'.os = c.w.os) (ht : w'.tape = c.w.tape) (hu : w'.output = c.w.output) (hs : c.w.heap.size ≤ w'.heap.size)
    (hb : ∀ b, b < c.w.heap.size → w'.heap[b]? = c.w.heap[b]?) : Evol c { c with w := w' } ∧ RelH { c with w := w' } := by
  have hE : Evol c { c with w := w' } :=
    ⟨rfl, ho, ht, hu, hs, fun b h _ => hb b h, fun b off h _ => World.cell?_of_block (w := c.w) (hb b h), fun b off h => .inl h, Nat.le_refl _, fun _ h => h, fun _ _ h => h, fun _ _ _ _ _ _ h => h,
      (Ext.refl c).tok, (Ext.refl c).map, fun i gen p _ h => siz_same (c' := { c with w := w' }) hr rfl rfl (fun _ _ b _ _ hlt _ => hb b hlt) h⟩
  refine ⟨hE, hr.len, fun i o gh h1 h2 => (hr.obj i o gh h1 h2).ext hE.ext fun b off h3 => hb b (ownI_lt (hr.obj i o gh h1 h2) h3), hr.dis, hr.fr,
    fun b off h => Nat.lt_of_lt_of_le (hr.bd b off h) hs⟩

theorem evol_drew {c : Cx} (hr : RelH c) : Evol c { c with w := c.w.drew } ∧ RelH { c with w := c.w.drew } :=
  evol_world hr rfl rfl rfl (Nat.le_refl _) fun _ _ => rfl

theorem evol_alloc {c : Cx} (hr : RelH c) (o : Go.Obj) : Evol c { c with w := c.w.alloc o } ∧ RelH { c with w := c.w.alloc o } :=
  evol_world hr rfl rfl rfl (by show c.w.heap.size ≤ (c.w.heap.push o).size; simp) fun b h => RowKit.Below.heap_alloc _ _ _ h

theorem getElem?_snoc {α : Type} (l : List α) (x : α) (i : Nat) : (l ++ [x])[i]? = if i < l.length then l[i]? else if i = l.length then some x else none := by
  by_cases h : i < l.length
  · simp [h, List.getElem?_append_left h]
  · rw [List.getElem?_append_right (by omega), if_neg h]
    by_cases h' : i = l.length
    · simp [h']
    · rw [if_neg h']
      have : 0 < i - l.length := by omega
      simp [List.getElem?_cons, show i - l.length ≠ 0 from by omega]

/-- a new object -/
theorem evol_push {c : Cx} (hr : RelH c) {w' : World} (ho : w'.os = c.w.os) (ht : w'.tape = c.w.tape) (hu : w'.output = c.w.output) (hs : c.w.heap.size ≤ w'.heap.size)
    (hb : ∀ b, b < c.w.heap.size → w'.heap[b]? = c.w.heap[b]?) (o : Den.Obj) (gh : Gh) (hown : ∀ b off, ownI o gh b off → c.w.heap.size ≤ b)
    (hobj : Evol c { c with h := c.h ++ [o], g := c.g ++ [gh], w := w' } → ObjR { c with h := c.h ++ [o], g := c.g ++ [gh], w := w' } o gh) :
    Evol c { c with h := c.h ++ [o], g := c.g ++ [gh], w := w' } ∧ RelH { c with h := c.h ++ [o], g := c.g ++ [gh], w := w' } := by
  have hl := hr.len
  have hh : ∀ i, i < c.h.length → (c.h ++ [o])[i]? = c.h[i]? := fun i hi => by rw [getElem?_snoc, if_pos hi]
  have hg : ∀ i, i < c.h.length → (c.g ++ [gh])[i]? = c.g[i]? := fun i hi => by rw [getElem?_snoc, if_pos (by omega)]
  have split : ∀ (i : Nat) o' gh', (c.h ++ [o])[i]? = some o' → (c.g ++ [gh])[i]? = some gh' →
      (i < c.h.length ∧ c.h[i]? = some o' ∧ c.g[i]? = some gh') ∨ (i = c.h.length ∧ o' = o ∧ gh' = gh) := by
    intro i o' gh' h1 h2
    rw [getElem?_snoc] at h1 h2
    by_cases hi : i < c.h.length
    · rw [if_pos hi] at h1; rw [if_pos (by omega)] at h2; exact .inl ⟨hi, h1, h2⟩
    · rw [if_neg hi] at h1; rw [if_neg (by omega)] at h2
      by_cases hi' : i = c.h.length
      · rw [if_pos hi'] at h1; rw [if_pos (by omega)] at h2
        exact .inr ⟨hi', (Option.some.inj h1).symm, (Option.some.inj h2).symm⟩
      · rw [if_neg hi'] at h1; cases h1
  have hO : ∀ b off, ({ c with h := c.h ++ [o], g := c.g ++ [gh], w := w' } : Cx).own b off → c.own b off ∨ c.w.heap.size ≤ b := by
    rintro b off ⟨i, o', gh', h1, h2, h3⟩
    rcases split i o' gh' h1 h2 with ⟨_, e1, e2⟩ | ⟨_, rfl, rfl⟩
    · exact .inl ⟨i, o', gh', e1, e2, h3⟩
    · exact .inr (hown b off h3)
  have hE : Evol c { c with h := c.h ++ [o], g := c.g ++ [gh], w := w' } :=
    { fr := rfl, os := ho, tape := ht, output := hu, size := hs
      block := fun b h _ => hb b h
      cell := fun b off h _ => World.cell?_of_block (w := c.w) (hb b h)
      own := hO
      len := by simp
      born := fun i hi => let ⟨o', h1, h2⟩ := hi; ⟨o', (hh i hi.lt).trans h1, h2⟩
      old := fun i gen hi => ⟨let ⟨o', h1, h2⟩ := hi.1; ⟨o', (hh i hi.lt).trans h1, h2⟩, fun z g n f e => hi.2 z g n f ((hh i hi.lt).symm.trans e)⟩
      adr := fun i gen row off p hi h => by simpa only [Cx.adr, hh i hi.lt, hg i hi.lt] using h
      tok := fun i N a cap z hi h1 h2 => ⟨N, a, cap, z, by rw [← hh i hi.lt]; exact h1, by rw [← hg i hi.lt]; exact h2, Nat.le_refl _, fun _ => ⟨rfl, rfl, rfl⟩⟩
      map := fun i o b hi h1 hm h2 => ⟨o, by rw [← hh i hi.lt]; exact h1, hm, by rw [← hg i hi.lt]; exact h2⟩
      siz := fun i gen p hi h => siz_same hr (hh i hi.lt) (hg i hi.lt) (fun _ _ b _ _ hlt _ => hb b hlt) h }
  refine ⟨hE, ?_, ?_, ?_, ?_, ?_⟩
  · simp [hl]
  · intro i o' gh' h1 h2
    rcases split i o' gh' h1 h2 with ⟨_, e1, e2⟩ | ⟨_, rfl, rfl⟩
    · exact (hr.obj i o' gh' e1 e2).ext hE.ext fun b off h3 => hb b (ownI_lt (hr.obj i o' gh' e1 e2) h3)
    · exact hobj hE
  · intro i j o₁ g₁ o₂ g₂ b off off' hij h1 h2 h3 h4 h5 h6
    rcases split i o₁ g₁ h1 h2 with ⟨_, e1, e2⟩ | ⟨ei, rfl, rfl⟩ <;> rcases split j o₂ g₂ h3 h4 with ⟨_, e3, e4⟩ | ⟨ej, rfl, rfl⟩
    · exact hr.dis i j o₁ g₁ o₂ g₂ b off off' hij e1 e2 e3 e4 h5 h6
    · have := ownI_lt (hr.obj i o₁ g₁ e1 e2) h5
      have := hown b off' h6
      omega
    · have := ownI_lt (hr.obj j o₂ g₂ e3 e4) h6
      have := hown b off h5
      omega
    · exact hij (ei.trans ej.symm)
  · intro b off h hF
    rcases hO b off h with h1 | h1
    · exact hr.fr b off h1 hF
    · have := hr.bd b off hF
      omega
  · intro b off h
    exact Nat.lt_of_lt_of_le (hr.bd b off h) hs

/-- an object is another one in its place, or is born -/
theorem evol_put {c : Cx} (hr : RelH c) {w' : World} (ho : w'.os = c.w.os) (ht : w'.tape = c.w.tape) (hu : w'.output = c.w.output) (hs : c.w.heap.size ≤ w'.heap.size)
    {i : Nat} {o : Den.Obj} {gh : Gh} (hi : c.h[i]? = some o) (hgi : c.g[i]? = some gh) (o' : Den.Obj) (gh' : Gh)
    (hb : ∀ b, b < c.w.heap.size → (∀ off, ¬ ownI o gh b off) → w'.heap[b]? = c.w.heap[b]?)
    (hc : ∀ b off, b < c.w.heap.size → ¬ ownI o gh b off → w'.cell? ⟨b, off, none⟩ = c.w.cell? ⟨b, off, none⟩)
    (hown : ∀ b off, ownI o' gh' b off → (∃ off', ownI o gh b off') ∧ (¬ ownI o gh b off → False) ∨ c.w.heap.size ≤ b)
    (hbo : bornO o → bornO o')
    (hold : bornO o → ∀ z g n f, o' = .arr z g n f → ∃ z₀ g₀ n₀ f₀, o = .arr z₀ g₀ n₀ f₀ ∧ g₀ ≤ g)
    (hadr : bornO o → ∀ (gen row off : Nat) p, c.okr i gen → ({ c with h := c.h.set i o', g := c.g.set i gh', w := w' } : Cx).adr i gen row off = some p → c.adr i gen row off = some p)
    (htok : bornO o → ∀ (N : Nat) a cap z, o' = .tok N → gh' = .tk a cap z → ∃ N₀ a₀ cap₀ z₀, o = .tok N₀ ∧ gh = .tk a₀ cap₀ z₀ ∧ N₀ ≤ N ∧ (N₀ = N → a = a₀ ∧ cap = cap₀ ∧ z = z₀))
    (hmap : bornO o → ∀ b, mapO o' = true → gh' = .blk b → mapO o = true ∧ gh = .blk b)
    (hsiz : bornO o → ∀ (gen : Nat) p, c.okr i gen → ({ c with h := c.h.set i o', g := c.g.set i gh', w := w' } : Cx).siz i gen = some p → c.siz i gen = some p)
    (hobj : Evol c { c with h := c.h.set i o', g := c.g.set i gh', w := w' } → ObjR { c with h := c.h.set i o', g := c.g.set i gh', w := w' } o' gh') :
    Evol c { c with h := c.h.set i o', g := c.g.set i gh', w := w' } ∧ RelH { c with h := c.h.set i o', g := c.g.set i gh', w := w' } := by
  have hl := hr.len
  have hil : i < c.h.length := (List.getElem?_eq_some_iff.1 hi).1
  have bo : c.born i → bornO o := fun ⟨o₁, h1, h2⟩ => by rw [hi] at h1; cases h1; exact h2
  have split : ∀ (j : Nat) o₁ g₁, (c.h.set i o')[j]? = some o₁ → (c.g.set i gh')[j]? = some g₁ →
      (j ≠ i ∧ c.h[j]? = some o₁ ∧ c.g[j]? = some g₁) ∨ (j = i ∧ o₁ = o' ∧ g₁ = gh') := by
    intro j o₁ g₁ h1 h2
    by_cases hj : j = i
    · subst hj
      rw [List.getElem?_set_self hil] at h1
      rw [List.getElem?_set_self (by omega)] at h2
      exact .inr ⟨rfl, (Option.some.inj h1).symm, (Option.some.inj h2).symm⟩
    · rw [List.getElem?_set_ne (Ne.symm hj)] at h1 h2
      exact .inl ⟨hj, h1, h2⟩
  have hO : ∀ b off, ({ c with h := c.h.set i o', g := c.g.set i gh', w := w' } : Cx).own b off → c.own b off ∨ c.w.heap.size ≤ b := by
    rintro b off ⟨j, o₁, g₁, h1, h2, h3⟩
    rcases split j o₁ g₁ h1 h2 with ⟨_, e1, e2⟩ | ⟨_, rfl, rfl⟩
    · exact .inl ⟨j, o₁, g₁, e1, e2, h3⟩
    · rcases hown b off h3 with ⟨_, h4⟩ | h4
      · exact .inl ⟨i, o, gh, hi, hgi, Classical.byContradiction h4⟩
      · exact .inr h4
  have notOwn : ∀ b, (∀ off, ¬ c.own b off) → ∀ off, ¬ ownI o gh b off := fun b h off hx => h off ⟨i, o, gh, hi, hgi, hx⟩
  have hE : Evol c { c with h := c.h.set i o', g := c.g.set i gh', w := w' } :=
    { fr := rfl, os := ho, tape := ht, output := hu, size := hs
      block := fun b h h' => hb b h (notOwn b h')
      cell := fun b off h h' => hc b off h fun hx => h' ⟨i, o, gh, hi, hgi, hx⟩
      own := hO
      len := by simp
      born := fun j hj => by
        obtain ⟨o₁, h1, h2⟩ := hj
        by_cases e : j = i
        · subst e
          rw [hi] at h1
          cases h1
          exact ⟨o', List.getElem?_set_self hil, hbo h2⟩
        · exact ⟨o₁, by simpa only [List.getElem?_set_ne (Ne.symm e)] using h1, h2⟩
      old := fun j gen hj => by
        obtain ⟨⟨o₁, h1, h2⟩, h3⟩ := hj
        by_cases e : j = i
        · subst e
          rw [hi] at h1
          cases h1
          refine ⟨⟨o', List.getElem?_set_self hil, hbo h2⟩, fun z g n f e => ?_⟩
          dsimp only at e
          rw [List.getElem?_set_self hil] at e
          obtain ⟨z₀, g₀, n₀, f₀, rfl, hle⟩ := hold h2 z g n f (Option.some.inj e)
          exact Nat.le_trans (h3 z₀ g₀ n₀ f₀ hi) hle
        · exact ⟨⟨o₁, by simpa only [List.getElem?_set_ne (Ne.symm e)] using h1, h2⟩, fun z g n f e' => h3 z g n f (by simpa only [List.getElem?_set_ne (Ne.symm e)] using e')⟩
      adr := fun j gen row off p hj h => by
        by_cases e : j = i
        · subst e; exact hadr (bo hj.1) gen row off p hj h
        · simpa only [Cx.adr, List.getElem?_set_ne (Ne.symm e)] using h
      tok := fun j N a cap z hj h1 h2 => by
        rcases split j _ _ h1 h2 with ⟨_, e1, e2⟩ | ⟨rfl, e1, e2⟩
        · exact ⟨N, a, cap, z, e1, e2, Nat.le_refl _, fun _ => ⟨rfl, rfl, rfl⟩⟩
        · obtain ⟨N₀, a₀, cap₀, z₀, rfl, rfl, h3, h4⟩ := htok (bo hj) N a cap z e1.symm e2.symm
          exact ⟨N₀, a₀, cap₀, z₀, hi, hgi, h3, h4⟩
      map := fun j o₁ b hj h1 hm h2 => by
        rcases split j _ _ h1 h2 with ⟨_, e1, e2⟩ | ⟨rfl, e1, e2⟩
        · exact ⟨o₁, e1, hm, e2⟩
        · subst e1
          obtain ⟨hm₀, rfl⟩ := hmap (bo hj) b hm e2.symm
          exact ⟨o, hi, hm₀, hgi⟩
      siz := fun j gen p hj h => by
        by_cases e : j = i
        · subst e; exact hsiz (bo hj.1) gen p hj h
        · refine siz_same hr (List.getElem?_set_ne (Ne.symm e)) (List.getElem?_set_ne (Ne.symm e)) (fun o₁ g₁ b h1 h2 hlt how => hb b hlt fun off h4 => ?_) h
          exact hr.dis j i o₁ g₁ o gh b off off e h1 h2 hi hgi (how off) h4 }
  refine ⟨hE, ?_, ?_, ?_, ?_, ?_⟩
  · simp [hl]
  · intro j o₁ g₁ h1 h2
    rcases split j o₁ g₁ h1 h2 with ⟨hne, e1, e2⟩ | ⟨_, rfl, rfl⟩
    · refine (hr.obj j o₁ g₁ e1 e2).ext hE.ext fun b off h3 => hb b (ownI_lt (hr.obj j o₁ g₁ e1 e2) h3) fun off' h4 => ?_
      exact hr.dis j i o₁ g₁ o gh b off off' hne e1 e2 hi hgi h3 h4
    · exact hobj hE
  · intro j k o₁ g₁ o₂ g₂ b off off' hjk h1 h2 h3 h4 h5 h6
    rcases split j o₁ g₁ h1 h2 with ⟨hj, e1, e2⟩ | ⟨ej, rfl, rfl⟩ <;> rcases split k o₂ g₂ h3 h4 with ⟨hk, e3, e4⟩ | ⟨ek, rfl, rfl⟩
    · exact hr.dis j k o₁ g₁ o₂ g₂ b off off' hjk e1 e2 e3 e4 h5 h6
    · rcases hown b off' h6 with ⟨⟨x, hx⟩, _⟩ | h7
      · exact hr.dis j i o₁ g₁ o gh b off x hj e1 e2 hi hgi h5 hx
      · have := ownI_lt (hr.obj j o₁ g₁ e1 e2) h5
        omega
    · rcases hown b off h5 with ⟨⟨x, hx⟩, _⟩ | h7
      · exact hr.dis k i o₂ g₂ o gh b off' x hk e3 e4 hi hgi h6 hx
      · have := ownI_lt (hr.obj k o₂ g₂ e3 e4) h6
        omega
    · exact hjk (ej.trans ek.symm)
  · intro b off h hF
    rcases hO b off h with h1 | h1
    · exact hr.fr b off h1 hF
    · have := hr.bd b off hF
      omega
  · intro b off h
    exact Nat.lt_of_lt_of_le (hr.bd b off h) hs

/-- an object is another one in its place -/
theorem evol_set {c : Cx} (hr : RelH c) {w' : World} (ho : w'.os = c.w.os) (ht : w'.tape = c.w.tape) (hu : w'.output = c.w.output) (hs : c.w.heap.size ≤ w'.heap.size)
    {i : Nat} {o : Den.Obj} {gh : Gh} (hi : c.h[i]? = some o) (hgi : c.g[i]? = some gh) (o' : Den.Obj) (gh' : Gh)
    (hb : ∀ b, b < c.w.heap.size → (∀ off, ¬ ownI o gh b off) → w'.heap[b]? = c.w.heap[b]?)
    (hc : ∀ b off, b < c.w.heap.size → ¬ ownI o gh b off → w'.cell? ⟨b, off, none⟩ = c.w.cell? ⟨b, off, none⟩)
    (hown : ∀ b off, ownI o' gh' b off → (∃ off', ownI o gh b off') ∧ (¬ ownI o gh b off → False) ∨ c.w.heap.size ≤ b)
    (hold : ∀ z g n f, o' = .arr z g n f → ∃ z₀ g₀ n₀ f₀, o = .arr z₀ g₀ n₀ f₀ ∧ g₀ ≤ g)
    (hadr : ∀ (gen row off : Nat) p, c.okr i gen → ({ c with h := c.h.set i o', g := c.g.set i gh', w := w' } : Cx).adr i gen row off = some p → c.adr i gen row off = some p)
    (htok : ∀ (N : Nat) a cap z, o' = .tok N → gh' = .tk a cap z → ∃ N₀ a₀ cap₀ z₀, o = .tok N₀ ∧ gh = .tk a₀ cap₀ z₀ ∧ N₀ ≤ N ∧ (N₀ = N → a = a₀ ∧ cap = cap₀ ∧ z = z₀))
    (hmap : ∀ b, mapO o' = true → gh' = .blk b → mapO o = true ∧ gh = .blk b)
    (hsiz : ∀ (gen : Nat) p, c.okr i gen → ({ c with h := c.h.set i o', g := c.g.set i gh', w := w' } : Cx).siz i gen = some p → c.siz i gen = some p)
    (hobj : Evol c { c with h := c.h.set i o', g := c.g.set i gh', w := w' } → ObjR { c with h := c.h.set i o', g := c.g.set i gh', w := w' } o' gh') (hbo : bornO o' := by trivial) :
    Evol c { c with h := c.h.set i o', g := c.g.set i gh', w := w' } ∧ RelH { c with h := c.h.set i o', g := c.g.set i gh', w := w' } :=
  evol_put hr ho ht hu hs hi hgi o' gh' hb hc hown (fun _ => hbo) (fun _ => hold) (fun _ => hadr) (fun _ => htok) (fun _ => hmap) (fun _ => hsiz) hobj

/-- where a new object goes -/
def NewAt (nw : Option Nat) (h : List Den.Obj) (o : Den.Obj) (i : Nat) (h' : List Den.Obj) : Prop :=
  (nw = none ∧ i = h.length ∧ h' = h ++ [o]) ∨ (nw = some i ∧ h[i]? = some .unborn ∧ h' = h.set i o)

theorem newD_eq {nw : Option Nat} {h : List Den.Obj} {o : Den.Obj} {k : Nat → List Den.Obj → R} {out : Out} (e : newD nw h o k = some out) :
    ∃ i h', NewAt nw h o i h' ∧ k i h' = some out ∧ ∀ k', newD nw h o k' = k' i h' := by
  unfold newD at e
  split at e
  · exact ⟨_, _, .inl ⟨rfl, rfl, rfl⟩, e, fun k' => rfl⟩
  · rename_i n
    split at e
    · rename_i hu
      exact ⟨n, _, .inr ⟨rfl, hu, rfl⟩, e, fun k' => by simp only [newD, hu]⟩
    · cases e

theorem storeK_of {h hh : List Den.Obj} {a : AV} {vs : List AV} (e : storeD h a vs = some hh) (k : List Den.Obj → R) : storeK h a vs k = k hh := by
  cases a
  case ptr i gen row off =>
    simp only [storeD] at e
    simp only [storeK]
    split at e
    · rename_i cs ei
      cases hc : (gen == 0 && row == 0 && decide (off + vs.length ≤ cs.length)) with
      | false => rw [hc] at e; cases e
      | true => rw [hc] at e; cases e; rfl
    · rename_i z gen' n f ei
      cases hc : (gen == gen' && decide (row < n) && decide (off + vs.length ≤ z)) with
      | false => rw [hc] at e; cases e
      | true => rw [hc] at e; cases e; rfl
    · cases e
  all_goals cases e

theorem storeK_eq {h : List Den.Obj} {a : AV} {vs : List AV} {k : List Den.Obj → R} {out : Out} (e : storeK h a vs k = some out) : ∃ hh, storeD h a vs = some hh ∧ k hh = some out := by
  cases a
  case ptr i gen row off =>
    simp only [storeK] at e
    simp only [storeD]
    split at e
    · rename_i cs ei
      cases hc : (gen == 0 && row == 0 && decide (off + vs.length ≤ cs.length)) with
      | false => rw [hc] at e; cases e
      | true => rw [hc] at e; exact ⟨_, rfl, e⟩
    · rename_i z gen' n f ei
      cases hc : (gen == gen' && decide (row < n) && decide (off + vs.length ≤ z)) with
      | false => rw [hc] at e; cases e
      | true => rw [hc] at e; exact ⟨_, rfl, e⟩
    · cases e
  all_goals cases e

/-- a new object, at the end or in its place -/
theorem evol_new {c : Cx} (hr : RelH c) {w' : World} (ho : w'.os = c.w.os) (ht : w'.tape = c.w.tape) (hu : w'.output = c.w.output) (hs : c.w.heap.size ≤ w'.heap.size)
    (hb : ∀ b, b < c.w.heap.size → w'.heap[b]? = c.w.heap[b]?) {nw : Option Nat} {o : Den.Obj} {i : Nat} {h' : List Den.Obj} (hn : NewAt nw c.h o i h') (gh : Gh) (hown : ∀ b off, ownI o gh b off → c.w.heap.size ≤ b)
    (hobj : ∀ g', g'[i]? = some gh → h'[i]? = some o → Evol c { c with h := h', g := g', w := w' } → ObjR { c with h := h', g := g', w := w' } o gh) (hbo : bornO o := by trivial) :
    ∃ g', g'[i]? = some gh ∧ h'[i]? = some o ∧ Evol c { c with h := h', g := g', w := w' } ∧ RelH { c with h := h', g := g', w := w' } ∧ ∀ j, j ≠ i → h'[j]? = c.h[j]? ∧ g'[j]? = c.g[j]? := by
  rcases hn with ⟨rfl, rfl, rfl⟩ | ⟨rfl, hi, rfl⟩
  · have h1 : (c.g ++ [gh])[c.h.length]? = some gh := by rw [← hr.len]; simp
    have h2 : (c.h ++ [o])[c.h.length]? = some o := by simp
    obtain ⟨h3, h4⟩ := evol_push hr ho ht hu hs hb o gh hown (hobj _ h1 h2)
    refine ⟨_, h1, h2, h3, h4, fun j hj => ?_⟩
    rw [getElem?_snoc, getElem?_snoc, hr.len]
    by_cases hl : j < c.h.length
    · rw [if_pos hl, if_pos hl]; exact ⟨rfl, rfl⟩
    · rw [if_neg hl, if_neg hl, if_neg hj, if_neg hj, List.getElem?_eq_none (by omega), List.getElem?_eq_none (by rw [hr.len]; omega)]; exact ⟨rfl, rfl⟩
  · have hil : i < c.h.length := (List.getElem?_eq_some_iff.1 hi).1
    obtain ⟨gi, hgi⟩ : ∃ gi, c.g[i]? = some gi := ⟨c.g[i]'(by rw [hr.len]; exact hil), List.getElem?_eq_getElem _⟩
    have h1 : (c.g.set i gh)[i]? = some gh := List.getElem?_set_self (by rw [hr.len]; exact hil)
    have h2 : (c.h.set i o)[i]? = some o := List.getElem?_set_self hil
    obtain ⟨h3, h4⟩ := evol_put hr ho ht hu hs hi hgi o gh (fun b hlt _ => hb b hlt) (fun b off hlt _ => World.cell?_of_block (w := c.w) (hb b hlt)) (fun b off h => .inr (hown b off h))
      (fun h => h.elim) (fun h => h.elim) (fun h => h.elim) (fun h => h.elim) (fun h => h.elim) (fun h => h.elim) (hobj _ h1 h2)
    exact ⟨_, h1, h2, h3, h4, fun j hj => ⟨List.getElem?_set_ne (Ne.symm hj), List.getElem?_set_ne (Ne.symm hj)⟩⟩

end Go.Den
