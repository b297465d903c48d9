/- Regions whose order is open. -/
import Derived.Test.YtbiklmpkkbncgaaGreatDenLoc
import Derived.Orders
set_option linter.unusedSimpArgs false
set_option linter.unusedVariables false
set_option linter.unnecessarySimpa false
namespace Go.Den
open Go

/-! what is ahead of an operation -/
theorem or_fold {α : Type} (f : α → Nat) (j : Nat) : ∀ (l : List α) (m : Nat), (l.foldl (fun m e => m ||| f e) m).testBit j = true → m.testBit j = true ∨ ∃ e ∈ l, (f e).testBit j = true
  | [], m, h => .inl h
  | e :: l, m, h => by
    rcases or_fold f j l _ h with h | ⟨e', he, h⟩
    · rw [Nat.testBit_or, Bool.or_eq_true] at h
      rcases h with h | h
      · exact .inl h
      · exact .inr ⟨e, List.mem_cons_self .., h⟩
    · exact .inr ⟨e', List.mem_cons_of_mem _ he, h⟩

theorem fold_ahead : ∀ (l : List Oper) (acc : List Nat), ∃ L, l.foldl (fun acc o => acc ++ [aheadStep acc o]) acc = acc ++ L ∧ L.length = l.length ∧
    ∀ (i : Nat) o, l[i]? = some o → L[i]? = some (aheadStep (acc ++ L.take i) o) := by
  intro l
  induction l with
  | nil => intro acc; exact ⟨[], by simp, rfl, fun i o h => by simp at h⟩
  | cons q l ih =>
    intro acc
    obtain ⟨L, h1, h2, h3⟩ := ih (acc ++ [aheadStep acc q])
    refine ⟨aheadStep acc q :: L, by simp only [List.foldl_cons, h1]; simp, by simp [h2], fun i o h => ?_⟩
    cases i with
    | zero => simp only [List.getElem?_cons_zero, Option.some.injEq] at h; subst h; simp
    | succ i =>
      simp only [List.getElem?_cons_succ] at h ⊢
      rw [h3 i o h]
      simp

structure Ahs where
  m : Nat
instance : Membership Nat Ahs := ⟨fun M j => M.m.testBit j = true⟩
def ahAt (all : Array Oper) (i : Nat) : Ahs := ⟨((aheadOf all)[i]?).getD 0⟩
theorem isAhead_iff {all : Array Oper} {i j : Nat} : isAhead (aheadOf all) i j = true ↔ j ∈ ahAt all i := Iff.rfl

theorem ahAt_mem {all : Array Oper} {i j : Nat} {o : Oper} (ho : all[i]? = some o) (h : j ∈ ahAt all i) : ∃ e ∈ o.after, Region.binds .any e = true ∧ (j = e.on ∨ j ∈ ahAt all e.on) := by
  obtain ⟨L, h1, h2, h3⟩ := fold_ahead all.toList []
  have hL : aheadOf all = L := by
    have : aheadOf all = all.toList.foldl (fun acc o => acc ++ [aheadStep acc o]) [] := rfl
    rw [this, h1]; rfl
  have hi := h3 i o (by simpa using ho)
  have h' : (aheadStep ([] ++ L.take i) o).testBit j = true := by
    have : (((aheadOf all)[i]?).getD 0).testBit j = true := h
    rw [hL, hi] at this
    exact this
  unfold aheadStep at h'
  rcases or_fold (fun e : Edge => 2 ^ e.on ||| ((([] : List Nat) ++ L.take i)[e.on]?).getD 0) j _ _ h' with h0 | ⟨e, he, hb⟩
  · simp at h0
  · obtain ⟨he, hbd⟩ := List.mem_filter.1 he
    refine ⟨e, by simpa using he, hbd, ?_⟩
    rw [Nat.testBit_or, Bool.or_eq_true, Nat.testBit_two_pow] at hb
    rcases hb with hb | hb
    · exact .inl (of_decide_eq_true hb).symm
    · refine .inr ?_
      show (((aheadOf all)[e.on]?).getD 0).testBit j = true
      rw [hL]
      rw [List.nil_append, List.getElem?_take] at hb
      split at hb
      · exact hb
      · simp at hb

/-! the order of the text, step by step -/
def StepF (P : Program) (pol : Pol) (call : CallO) (fn : FuncId) (all : Array Oper) (i n : Nat) (o : Oper) (T : List AV) (s : Hs) (ps : List Fp) (u : AV) (s' : Hs) (q : Option Fp) : Prop :=
  (guardOf all T o = .skip ∧ u = undefA ∧ s' = s ∧ q = none) ∨
  ∃ js hid, guardOf all T o = .run js ∧ freeOf (aheadOf all) ps (fpOf P pol fn i n hid (evalG T js) o) = true ∧
    ((∃ v, pureG P T js s.h o = some v ∧ u = gdOf js v ∧ s' = s ∧ q = some (fpOf P pol fn i n hid (evalG T js) o)) ∨
     (holdsJ T [] js = some true ∧ ∃ v, u = gdOf js v ∧ q = some (fpOf P pol fn i n hid (evalG T js) o) ∧ keptB (fpOf P pol fn i n hid (evalG T js) o) s.h s'.h = true ∧ ∀ k kp, opD P pol (bindK call) fn (some n) (evalG T js) o s k kp = k v s') ∨
     (holdsJ T [] js = some false ∧ u = undefA ∧ s' = s ∧ q = none))

def addF (q : Option Fp) (ps : List Fp) : List Fp :=
  match q with
  | some p => p :: ps
  | none => ps

structure Trace (P : Program) (pol : Pol) (call : CallO) (fn : FuncId) (all : Array Oper) (E i : Nat) (T : Nat → List AV) (s : Nat → Hs) (u : Nat → AV) (ps : Nat → List Fp) (q : Nat → Option Fp) (n : Nat → Nat) : Prop where
  step : ∀ j o, i ≤ j → j < E → all[j]? = some o → T (j + 1) = (St.put ⟨T j, s j⟩ o.dst (u j)).T ∧ ps (j + 1) = addF (q j) (ps j) ∧ StepF P pol call fn all j (n j) o (T j) (s j) (ps j) (u j) (s (j + 1)) (q j)

/-- the text ends with a panic of operation E -/
def PanAt (P : Program) (pol : Pol) (call : CallO) (fn : FuncId) (all : Array Oper) (kp : AV → St → R) (out : Out) (E : Nat) (T : Nat → List AV) (s : Nat → Hs) (n : Nat → Nat) : Prop :=
  ∃ o js v s', all[E]? = some o ∧ mayPan o = true ∧ guardOf all (T E) o = .run js ∧ holdsJ (T E) [] js = some true ∧ kp v ⟨T E, s'⟩ = some out ∧
    ∀ k kp, opD P pol (bindK call) fn (some (n E)) (evalG (T E) js) o (s E) k kp = kp v s'

section
variable {P : Program} {pol : Pol} {call : CallO} {fn : FuncId} {all : Array Oper} {k : St → R} {kp : AV → St → R} {out : Out}

theorem trace_exists : ∀ (m i : Nat), i + m = all.size → ∀ {T₀ : List AV} {s₀ : Hs} {n₀ : Nat} {ps₀ : List Fp}, opsW P pol (bindK call) fn all (aheadOf all) (all.toList.drop i) i n₀ ps₀ ⟨T₀, s₀⟩ k kp = some out →
    ∃ E T s u ps q n, i ≤ E ∧ E ≤ all.size ∧ T i = T₀ ∧ s i = s₀ ∧ ps i = ps₀ ∧ n i = n₀ ∧ Trace P pol call fn all E i T s u ps q n ∧ ((E = all.size ∧ k ⟨T E, s E⟩ = some out) ∨ (E < all.size ∧ PanAt P pol call fn all kp out E T s n)) := by
  intro m
  induction m with
  | zero =>
    intro i hi T₀ s₀ n₀ ps₀ h
    have : all.toList.drop i = [] := by apply List.drop_eq_nil_of_le; simp; omega
    rw [this] at h
    exact ⟨all.size, fun _ => T₀, fun _ => s₀, fun _ => undefA, fun _ => ps₀, fun _ => none, fun _ => n₀, by omega, Nat.le_refl _, rfl, rfl, rfl, rfl, ⟨fun j o hj hl _ => by omega⟩, .inl ⟨rfl, h⟩⟩
  | succ m ih =>
    intro i hi T₀ s₀ n₀ ps₀ h
    have hlt : i < all.size := by omega
    have hdrop : all.toList.drop i = all[i] :: all.toList.drop (i + 1) := by
      rw [List.drop_eq_getElem_cons (by simpa using hlt)]
      simp
    have ho : all[i]? = some all[i] := Array.getElem?_eq_getElem hlt
    rw [hdrop] at h
    generalize all[i] = o at h ho
    have go : ∀ {u₀ : AV} {s₁ : Hs} {q₀ : Option Fp} {n₁ : Nat}, opsW P pol (bindK call) fn all (aheadOf all) (all.toList.drop (i + 1)) (i + 1) n₁ (addF q₀ ps₀) (St.put ⟨T₀, s₁⟩ o.dst u₀) k kp = some out →
        StepF P pol call fn all i n₀ o T₀ s₀ ps₀ u₀ s₁ q₀ →
        ∃ E T s u ps q n, i ≤ E ∧ E ≤ all.size ∧ T i = T₀ ∧ s i = s₀ ∧ ps i = ps₀ ∧ n i = n₀ ∧ Trace P pol call fn all E i T s u ps q n ∧ ((E = all.size ∧ k ⟨T E, s E⟩ = some out) ∨ (E < all.size ∧ PanAt P pol call fn all kp out E T s n)) := by
      intro u₀ s₁ q₀ n₁ h' hst
      rw [put_eta] at h'
      obtain ⟨E, T, s, u, ps, q, n, e0, eE, e1, e2, e5, e6, e3, e4⟩ := ih (i + 1) (by omega) h'
      refine ⟨E, fun j => if j = i then T₀ else T j, fun j => if j = i then s₀ else s j, fun j => if j = i then u₀ else u j, fun j => if j = i then ps₀ else ps j, fun j => if j = i then q₀ else q j,
        fun j => if j = i then n₀ else n j, by omega, eE, by simp, by simp, by simp, by simp, ⟨fun j o' hj hl ho' => ?_⟩, ?_⟩
      · by_cases hji : j = i
        · subst hji
          rw [ho] at ho'
          cases ho'
          simp only [if_pos, if_neg (show ¬ j + 1 = j by omega)]
          rw [e1, e2, e5]
          exact ⟨by cases o.dst <;> rfl, rfl, hst⟩
        · simp only [if_neg hji, if_neg (show ¬ j + 1 = i by omega)]
          exact e3.step j o' (by omega) hl ho'
      · have hne : ¬ E = i := by omega
        unfold PanAt at e4 ⊢
        simp only [if_neg hne]
        exact e4
    simp only [opsW] at h
    split at h
    · rename_i hg
      exact go (q₀ := none) h (.inl ⟨hg, rfl, rfl, rfl⟩)
    · cases h
    · rename_i js hg
      generalize hidGo P pol fn (aheadOf all) i s₀.h all.toList 0 T₀ = hid at h
      cases hf : freeOf (aheadOf all) ps₀ (fpOf P pol fn i n₀ hid (evalG T₀ js) o) with
      | false => rw [hf] at h; cases h
      | true =>
      rw [hf] at h
      simp only [cond_true] at h
      cases hp : pureG P T₀ js s₀.h o with
      | some v =>
        rw [hp] at h
        exact go (q₀ := some _) h (.inr ⟨js, hid, hg, hf, .inl ⟨v, hp, rfl, rfl, rfl⟩⟩)
      | none =>
        rw [hp] at h
        simp only at h
        cases hh : holdsJ T₀ [] js with
        | none => rw [hh] at h; cases h
        | some b =>
          rw [hh] at h
          cases b with
          | true =>
            simp only [cond_true] at h
            rcases opD_either h with ⟨v, s', hk, hd⟩ | ⟨hm, v, s', hk, hd⟩
            · cases hkp : keptB (fpOf P pol fn i n₀ hid (evalG T₀ js) o) s₀.h s'.h with
              | false => rw [hkp] at hk; cases hk
              | true =>
                rw [hkp] at hk
                exact go (q₀ := some _) hk (.inr ⟨js, hid, hg, hf, .inr (.inl ⟨hh, v, rfl, rfl, hkp, hd⟩)⟩)
            · exact ⟨i, fun _ => T₀, fun _ => s₀, fun _ => undefA, fun _ => ps₀, fun _ => none, fun _ => n₀, Nat.le_refl _, by omega, rfl, rfl, rfl, rfl, ⟨fun j o hj hl _ => by omega⟩, .inr ⟨hlt, o, js, v, s', ho, hm, hg, hh, hk, hd⟩⟩
          | false => exact go (q₀ := none) h (.inr ⟨js, hid, hg, hf, .inr (.inr ⟨hh, rfl, rfl, rfl⟩)⟩)

/-! what 'drawOK' says -/
structure DrawSpec (all : Array Oper) : Prop where
  edge : ∀ i o, all[i]? = some o → ∀ e ∈ o.after, Region.binds .any e = true → e.on < i
  guard : ∀ i o j w, all[i]? = some o → o.guard = some (j, w) → j ∈ ahAt all i ∧ j < i
  uniq : ∀ i j d, dstAt all i = some d → dstAt all j = some d → i = j
  slot : ∀ i o j d, all[i]? = some o → dstAt all j = some d → d ∈ slotsOf o → (j ∈ ahAt all i ∧ j < i) ∨ (i ∈ ahAt all j ∧ i < j)

theorem drawOK_spec (h : drawOK all = true) : DrawSpec all := by
  have main : ∀ i o, all[i]? = some o → (∀ e ∈ o.after, Region.binds .any e = true → e.on < i) ∧ (∀ j w, o.guard = some (j, w) → j ∈ ahAt all i ∧ j < i) ∧
      ∀ j, j < all.size → drawPair all (aheadOf all) i j o = true := by
    intro i o ho
    have hi : i < all.size := (Array.getElem?_eq_some_iff.1 ho).1
    unfold drawOK at h
    have := List.all_eq_true.1 h i (List.mem_range.2 hi)
    simp only [ho, Bool.and_eq_true] at this
    obtain ⟨⟨h1, h2⟩, h3⟩ := this
    refine ⟨fun e he hb => ?_, fun j w hg => ?_, fun j hj => List.all_eq_true.1 h3 j (List.mem_range.2 hj)⟩
    · have := List.all_eq_true.1 h1 e (by simpa using he)
      simpa [hb] using this
    · rw [hg] at h2
      simp only [Bool.and_eq_true, decide_eq_true_eq] at h2
      exact ⟨isAhead_iff.1 h2.1, h2.2⟩
  have lt : ∀ {i d}, dstAt all i = some d → ∃ o, all[i]? = some o ∧ o.dst = some d ∧ i < all.size := by
    intro i d hd
    obtain ⟨o, h1, h2⟩ := Option.bind_eq_some_iff.1 hd
    exact ⟨o, h1, h2, (Array.getElem?_eq_some_iff.1 h1).1⟩
  refine ⟨fun i o ho => (main i o ho).1, fun i o j w ho => (main i o ho).2.1 j w, fun i j d hi hj => ?_, fun i o j d ho hj hd => ?_⟩
  · obtain ⟨o, ho, hod, _⟩ := lt hi
    obtain ⟨_, _, _, hjs⟩ := lt hj
    have := (main i o ho).2.2 j hjs
    simp only [drawPair, Bool.and_eq_true, Bool.or_eq_true, beq_iff_eq, Bool.not_eq_true'] at this
    rcases this.1 with h | h
    · exact h.symm
    · simp [hod, hj] at h
  · obtain ⟨_, _, _, hjs⟩ := lt hj
    have := (main i o ho).2.2 j hjs
    simp only [drawPair, hj, Bool.and_eq_true, Bool.or_eq_true, Bool.not_eq_true'] at this
    rcases this.2 with (h | h) | h
    · have : (slotsOf o).contains d = true := by simpa using hd
      rw [this] at h; cases h
    · left; simp only [decide_eq_true_eq] at h; exact ⟨isAhead_iff.1 h.1, h.2⟩
    · right; simp only [decide_eq_true_eq] at h; exact ⟨isAhead_iff.1 h.1, h.2⟩

/-! any order -/
theorem cnt_lt {p p' : Nat → Bool} : ∀ {l : List Nat}, (∀ x ∈ l, p' x = true → p x = true) → (∃ x ∈ l, p x = true ∧ p' x = false) → (l.filter p').length < (l.filter p).length := by
  intro l
  induction l with
  | nil => rintro _ ⟨x, hx, _⟩; cases hx
  | cons y l ih =>
    intro h1 h2
    have hle : ∀ {l : List Nat}, (∀ x ∈ l, p' x = true → p x = true) → (l.filter p').length ≤ (l.filter p).length := by
      intro l
      induction l with
      | nil => intro _; exact Nat.le_refl _
      | cons z l ih' =>
        intro h
        have := ih' fun x hx => h x (List.mem_cons_of_mem _ hx)
        have hz := h z (List.mem_cons_self ..)
        simp only [List.filter_cons]
        cases e1 : p' z <;> cases e2 : p z <;> simp_all <;> omega
    have hl := hle fun x hx => h1 x (List.mem_cons_of_mem _ hx)
    simp only [List.filter_cons]
    obtain ⟨x, hx, hp, hp'⟩ := h2
    rcases List.mem_cons.1 hx with rfl | hx
    · simp [hp, hp']; omega
    · have := ih (fun x hx => h1 x (List.mem_cons_of_mem _ hx)) ⟨x, hx, hp, hp'⟩
      have hy := h1 y (List.mem_cons_self ..)
      cases e1 : p' y <;> cases e2 : p y <;> simp_all <;> omega

def Li (L : Array Bool) (i : Nat) : Prop := L.getD i false = true

def Touch (p : Fp) (m : Nat) : Prop := m ∈ p.f.ws ++ nwL p.f ∨ ∃ M, p.bar = some M ∧ inFull M m = false
def Bear (p : Fp) (m : Nat) : Prop := m ∈ nwL p.f ∨ ∃ M, p.bar = some M ∧ inKd M m = false
def touch (q : Nat → Option Fp) (e m : Nat) : Prop := ∃ p, q e = some p ∧ Touch p m
def bear (q : Nat → Option Fp) (e m : Nat) : Prop := ∃ p, q e = some p ∧ Bear p m
theorem Bear.touch {p : Fp} {m : Nat} (h : Bear p m) : Touch p m := by
  rcases h with h | ⟨M, h1, h2⟩
  · exact .inl (List.mem_append_right _ h)
  · refine .inr ⟨M, h1, ?_⟩
    cases hf : inFull M m with
    | false => rfl
    | true =>
      obtain ⟨q, hq, hp⟩ := List.any_eq_true.1 hf
      rw [Bool.and_eq_true] at hp
      have : inKd M m = true := List.any_eq_true.2 ⟨q, hq, hp.1⟩
      rw [h2] at this
      cases this

/-- the heap, as far as it has come -/
structure Near (q : Nat → Option Fp) (E : Nat) (s : Nat → Hs) (L : Array Bool) (sD : Hs) : Prop where
  ds : sD.ds = (s 0).ds
  ps : sD.ps = (s 0).ps
  at' : ∀ m i, i ≤ E → (∀ e, e < E → touch q e m → (e < i ↔ Li L e)) → (s i).h[m]? = sD.h[m]?
  kd : ∀ m i, i ≤ E → (∀ e, e < E → bear q e m → (e < i ↔ Li L e)) → kindAt (s i).h m = kindAt sD.h m

structure Inv (base : Base) (all : Array Oper) (E : Nat) (T₀ : List AV) (s : Nat → Hs) (u : Nat → AV) (q : Nat → Option Fp) (c₀ : Cx) (L : Array Bool) (c : Cx) (a : Act) (cs : List Frame) : Prop where
  ev : Evol c₀ c
  sz : L.size = all.size
  cl : ∀ i, Li L i → ∀ j ∈ ahAt all i, Li L j
  sl : ∃ TL, SlotsG c TL a.tmps ∧ TL.length = T₀.length ∧ (∀ j d, Li L j → dstAt all j = some d → d < T₀.length → TL[d]? = some (u j)) ∧
    ∀ d, (∀ j, dstAt all j = some d → ¬ Li L j) → TL[d]? = T₀[d]?
  gd : ∀ j, Li L j → ∀ js w, u j = .gd js w → anyGuard all.toList = true ∧ ∀ p ∈ js, ∃ j', j' < j ∧ Li L j' ∧ dstAt all j' = some p.1
  lt : ∀ i, Li L i → i < E
  st : ∃ sD, Fr base c sD a.defers cs ∧ Near q E s L sD

theorem li_lt {L : Array Bool} {i : Nat} (h : Li L i) : i < L.size := by
  unfold Li at h
  rcases Nat.lt_or_ge i L.size with h' | h'
  · exact h'
  · simp [Array.getD_eq_getD_getElem?, Array.getElem?_eq_none h'] at h

theorem li_set {L : Array Bool} {i j : Nat} (hi : i < L.size) : Li (L.setIfInBounds i true) j ↔ j = i ∨ Li L j := by
  unfold Li
  simp only [Array.getD_eq_getD_getElem?, Array.getElem?_setIfInBounds]
  by_cases e : i = j
  · subst e; simp [hi]
  · rw [if_neg e]
    constructor
    · exact .inr
    · rintro (h | h)
      · exact absurd h.symm e
      · exact h

section
variable {base : Base} {T : Nat → List AV} {s : Nat → Hs} {u : Nat → AV} {ps : Nat → List Fp} {q : Nat → Option Fp} {n : Nat → Nat} {E : Nat}

/-- the slots, in the order of the text -/
theorem text_slots (hs : DrawSpec all) (hEs : E ≤ all.size) (ht : Trace P pol call fn all E 0 T s u ps q n) : ∀ i, i ≤ E → (T i).length = (T 0).length ∧
    (∀ j d, j < i → dstAt all j = some d → d < (T 0).length → (T i)[d]? = some (u j)) ∧ ∀ d, (∀ j, j < i → dstAt all j ≠ some d) → (T i)[d]? = (T 0)[d]? := by
  intro i
  induction i with
  | zero => intro _; exact ⟨rfl, fun j d hj => by omega, fun d _ => rfl⟩
  | succ i ih =>
    intro hi
    obtain ⟨h1, h2, h3⟩ := ih (by omega)
    have ho : all[i]? = some all[i] := Array.getElem?_eq_getElem (by omega)
    obtain ⟨hT, _, _⟩ := ht.step i _ (Nat.zero_le _) (by omega) ho
    have hd : dstAt all i = (all[i]).dst := by simp [dstAt, ho]
    generalize all[i] = o at hT hd ho
    cases hod : o.dst with
    | none =>
      rw [hod] at hT hd
      simp only [St.put] at hT
      rw [hT]
      refine ⟨h1, fun j d hj e hl => ?_, fun d hn => h3 d fun j hj => hn j (by omega)⟩
      rcases Nat.lt_or_ge j i with hji | hji
      · exact h2 j d hji e hl
      · rw [show j = i from by omega, hd] at e; cases e
    | some d₀ =>
      rw [hod] at hT hd
      simp only [St.put] at hT
      rw [hT]
      refine ⟨by simp [h1], fun j d hj e hl => ?_, fun d hn => ?_⟩
      · rcases Nat.lt_or_ge j i with hji | hji
        · have hne : d₀ ≠ d := fun he => by
            subst he
            have := hs.uniq i j d₀ hd e
            omega
          rw [List.getElem?_set_ne hne]
          exact h2 j d hji e hl
        · have : j = i := by omega
          subst this
          rw [hd] at e
          cases e
          rw [List.getElem?_set_self (by rw [h1]; exact hl)]
      · have hne : d₀ ≠ d := fun he => hn i (by omega) (by rw [hd, he])
        rw [List.getElem?_set_ne hne]
        exact h3 d fun j hj => hn j (by omega)

theorem Tch.off {p : Fp} {h h' h₂ h₂' : List Den.Obj} (ht : Tch p h h' h₂ h₂') {m : Nat} (hm : ¬ Touch p m) : h'[m]? = h[m]? ∧ h₂'[m]? = h₂[m]? := by
  cases ht with
  | same e1 e2 => subst e1; subst e2; exact ⟨rfl, rfl⟩
  | put n o₀ o hn h1 h2 hk e1 e2 =>
    subst e1; subst e2
    have hne : n ≠ m := fun e => hm (.inl (e ▸ hn))
    exact ⟨List.getElem?_set_ne hne, List.getElem?_set_ne hne⟩
  | bar M hb e1 e2 k1 k2 =>
    subst e1; subst e2
    have : inFull M m = true := by
      cases hf : inFull M m with
      | true => rfl
      | false => exact absurd (.inr ⟨M, hb, hf⟩) hm
    exact ⟨k1 m this, k1 m this⟩

theorem Tch.on {p : Fp} {h h' h₂ h₂' : List Den.Obj} (ht : Tch p h h' h₂ h₂') {m : Nat} (hm : h[m]? = h₂[m]?) : h'[m]? = h₂'[m]? := by
  cases ht with
  | same e1 e2 => subst e1; subst e2; exact hm
  | put n o₀ o hn h1 h2 hk e1 e2 =>
    subst e1; subst e2
    by_cases e : n = m
    · subst e
      rw [List.getElem?_set_self (List.getElem?_eq_some_iff.1 h1).1, List.getElem?_set_self (List.getElem?_eq_some_iff.1 h2).1]
    · rw [List.getElem?_set_ne e, List.getElem?_set_ne e]; exact hm
  | bar M hb e1 e2 k1 k2 => subst e2; rfl

theorem Tch.kindOff {p : Fp} {h h' h₂ h₂' : List Den.Obj} (ht : Tch p h h' h₂ h₂') {m : Nat} (hm : ¬ Bear p m) : kindAt h' m = kindAt h m ∧ kindAt h₂' m = kindAt h₂ m := by
  cases ht with
  | same e1 e2 => subst e1; subst e2; exact ⟨rfl, rfl⟩
  | put n o₀ o hn h1 h2 hk e1 e2 =>
    subst e1; subst e2
    unfold kindAt
    by_cases e : n = m
    · subst e
      rw [List.getElem?_set_self (List.getElem?_eq_some_iff.1 h1).1, List.getElem?_set_self (List.getElem?_eq_some_iff.1 h2).1, h1, h2]
      rcases hk with hk | hk
      · exact absurd (.inl hk) hm
      · simp [hk]
    · rw [List.getElem?_set_ne e, List.getElem?_set_ne e]; exact ⟨rfl, rfl⟩
  | bar M hb e1 e2 k1 k2 =>
    subst e1; subst e2
    have : inKd M m = true := by
      cases hf : inKd M m with
      | true => rfl
      | false => exact absurd (.inr ⟨M, hb, hf⟩) hm
    exact ⟨k2 m this, k2 m this⟩

theorem Tch.kindOn {p : Fp} {h h' h₂ h₂' : List Den.Obj} (ht : Tch p h h' h₂ h₂') {m : Nat} (hm : kindAt h m = kindAt h₂ m) : kindAt h' m = kindAt h₂' m := by
  cases ht with
  | same e1 e2 => subst e1; subst e2; exact hm
  | put n o₀ o hn h1 h2 hk e1 e2 =>
    subst e1; subst e2
    unfold kindAt at hm ⊢
    by_cases e : n = m
    · subst e
      rw [List.getElem?_set_self (List.getElem?_eq_some_iff.1 h1).1, List.getElem?_set_self (List.getElem?_eq_some_iff.1 h2).1]
    · rw [List.getElem?_set_ne e, List.getElem?_set_ne e]; exact hm
  | bar M hb e1 e2 k1 k2 => subst e2; rfl

theorem Agr.refl (h : List Den.Obj) (p : Fp) : Agr h h p := ⟨fun _ _ => rfl, fun _ _ => rfl, fun _ => rfl⟩

/-- one step of the text: what it leaves -/
theorem text_step (hEs : E ≤ all.size) (ht : Trace P pol call fn all E 0 T s u ps q n) {j : Nat} (hj : j < E) :
    (s (j + 1)).ds = (s j).ds ∧ (s (j + 1)).ps = (s j).ps ∧ (∀ m, ¬ touch q j m → (s (j + 1)).h[m]? = (s j).h[m]?) ∧ ∀ m, ¬ bear q j m → kindAt (s (j + 1)).h m = kindAt (s j).h m := by
  have ho : all[j]? = some all[j] := Array.getElem?_eq_getElem (by omega)
  obtain ⟨_, _, hst⟩ := ht.step j _ (Nat.zero_le _) hj ho
  have same : s (j + 1) = s j → (s (j + 1)).ds = (s j).ds ∧ (s (j + 1)).ps = (s j).ps ∧ (∀ m, ¬ touch q j m → (s (j + 1)).h[m]? = (s j).h[m]?) ∧ ∀ m, ¬ bear q j m → kindAt (s (j + 1)).h m = kindAt (s j).h m :=
    fun e => by rw [e]; exact ⟨rfl, rfl, fun _ _ => rfl, fun _ _ => rfl⟩
  rcases hst with ⟨_, _, h, _⟩ | ⟨js, hid, _, _, ⟨v, _, _, h, _⟩ | ⟨_, v, _, hq, hkp, hd⟩ | ⟨_, _, h, _⟩⟩
  · exact same h
  · exact same h
  · obtain ⟨h₂', e1, _, e2⟩ := op_local (s₂ := s j) (Agr.refl _ _) hd hkp
    refine ⟨by rw [e1], by rw [e1], fun m hm => ?_, fun m hm => ?_⟩
    · exact (e2.off fun ht => hm ⟨_, hq, ht⟩).1
    · exact (e2.kindOff fun ht => hm ⟨_, hq, ht⟩).1
  · exact same h

theorem text_ds (hEs : E ≤ all.size) (ht : Trace P pol call fn all E 0 T s u ps q n) : ∀ j, j ≤ E → (s j).ds = (s 0).ds ∧ (s j).ps = (s 0).ps := by
  intro j
  induction j with
  | zero => intro _; exact ⟨rfl, rfl⟩
  | succ j ih =>
    intro hj
    obtain ⟨h1, h2, _, _⟩ := text_step hEs ht (j := j) (by omega)
    obtain ⟨h3, h4⟩ := ih (by omega)
    exact ⟨h1.trans h3, h2.trans h4⟩

/-- an object stays until an operation turns it -/
theorem text_at (hEs : E ≤ all.size) (ht : Trace P pol call fn all E 0 T s u ps q n) (i m : Nat) : ∀ j, i ≤ j → j ≤ E → (∀ e, i ≤ e → e < j → ¬ touch q e m) → (s j).h[m]? = (s i).h[m]? := by
  intro j
  induction j with
  | zero => intro h _ _; rw [show i = 0 from by omega]
  | succ j ih =>
    intro h1 h2 h3
    rcases Nat.lt_or_ge j i with hji | hji
    · rw [show i = j + 1 from by omega]
    · rw [← ih hji (by omega) fun e he hej => h3 e he (by omega)]
      exact (text_step hEs ht (j := j) (by omega)).2.2.1 m (h3 j hji (by omega))

theorem text_kd (hEs : E ≤ all.size) (ht : Trace P pol call fn all E 0 T s u ps q n) (i m : Nat) : ∀ j, i ≤ j → j ≤ E → (∀ e, i ≤ e → e < j → ¬ bear q e m) → kindAt (s j).h m = kindAt (s i).h m := by
  intro j
  induction j with
  | zero => intro h _ _; rw [show i = 0 from by omega]
  | succ j ih =>
    intro h1 h2 h3
    rcases Nat.lt_or_ge j i with hji | hji
    · rw [show i = j + 1 from by omega]
    · rw [← ih hji (by omega) fun e he hej => h3 e he (by omega)]
      exact (text_step hEs ht (j := j) (by omega)).2.2.2 m (h3 j hji (by omega))

theorem text_q (hEs : E ≤ all.size) (ht : Trace P pol call fn all E 0 T s u ps q n) {j : Nat} (hj : j < E) {p : Fp} (hq : q j = some p) :
    ∃ o js hid, all[j]? = some o ∧ p = fpOf P pol fn j (n j) hid (evalG (T j) js) o ∧ freeOf (aheadOf all) (ps j) p = true := by
  have ho : all[j]? = some all[j] := Array.getElem?_eq_getElem (by omega)
  obtain ⟨_, _, hst⟩ := ht.step j _ (Nat.zero_le _) hj ho
  rcases hst with ⟨_, _, _, h⟩ | ⟨js, hid, _, hf, ⟨v, _, _, _, h⟩ | ⟨_, v, _, h, _⟩ | ⟨_, _, _, h⟩⟩
  · rw [hq] at h; cases h
  · rw [hq] at h; cases h; exact ⟨_, js, hid, ho, rfl, hf⟩
  · rw [hq] at h; cases h; exact ⟨_, js, hid, ho, rfl, hf⟩
  · rw [hq] at h; cases h

theorem text_ps (hEs : E ≤ all.size) (ht : Trace P pol call fn all E 0 T s u ps q n) : ∀ i, i ≤ E → ∀ a p, a < i → q a = some p → p ∈ ps i := by
  intro i
  induction i with
  | zero => intro _ a p h; omega
  | succ i ih =>
    intro hi a p ha hq
    have ho : all[i]? = some all[i] := Array.getElem?_eq_getElem (by omega)
    obtain ⟨_, hps, _⟩ := ht.step i _ (Nat.zero_le _) (by omega) ho
    rw [hps]
    rcases Nat.lt_or_ge a i with h | h
    · have := ih (by omega) a p h hq
      unfold addF
      split
      · exact List.mem_cons_of_mem _ this
      · exact this
    · have : a = i := by omega
      subst this
      simp only [addF, hq]
      exact List.mem_cons_self ..

/-- operations that are in each other's way are in order -/
theorem text_free (hEs : E ≤ all.size) (ht : Trace P pol call fn all E 0 T s u ps q n) {a b : Nat} {pa pb : Fp} (hab : a < b) (hb : b < E) (ha : q a = some pa) (hqb : q b = some pb) (hc : clash pa pb = true) : a ∈ ahAt all b := by
  obtain ⟨oa, jsa, hida, _, ea, _⟩ := text_q hEs ht (by omega) ha
  obtain ⟨ob, jsb, hidb, _, eb, hf⟩ := text_q hEs ht hb hqb
  have := List.all_eq_true.1 hf pa (text_ps hEs ht b (by omega) a pa hab ha)
  rw [hc] at this
  have ia : pa.f.ix = a := by rw [ea]; rfl
  have ib : pb.f.ix = b := by rw [eb]; rfl
  rw [ia, ib] at this
  exact isAhead_iff.1 (by simpa using this)

theorem meets_of {l m : List Nat} {x : Nat} (h1 : x ∈ l) (h2 : x ∈ m) : meets l m = true := List.any_eq_true.2 ⟨x, h1, by simpa using h2⟩

theorem touch_bear {e m : Nat} (h : bear q e m) : touch q e m := let ⟨p, h1, h2⟩ := h; ⟨p, h1, h2.touch⟩

theorem not_empty {l : List Nat} {m : Nat} (h : m ∈ l) : (!l.isEmpty) = true := by
  cases l with
  | nil => cases h
  | cons => rfl
theorem barred_ws {a b : Fp} {M : List (Nat × Bool)} {m : Nat} (ha : a.bar = some M) (h : m ∈ b.f.ws ++ nwL b.f) : barred a b = true := by
  simp only [barred, ha, not_empty h, Bool.or_true, Bool.true_or]
theorem barred_bar {a b : Fp} {M : List (Nat × Bool)} (ha : a.bar = some M) (h : b.bar.isSome = true) : barred a b = true := by
  simp only [barred, ha, h, Bool.true_or]
theorem barred_full {a b : Fp} {M : List (Nat × Bool)} {m : Nat} (ha : a.bar = some M) (hm : inFull M m = false) (h : m ∈ b.full) : barred a b = true := by
  have : b.full.any (fun m => !inFull M m) = true := List.any_eq_true.2 ⟨m, h, by rw [hm]; rfl⟩
  simp only [barred, ha, this, Bool.or_true, Bool.true_or]
theorem barred_rs {a b : Fp} {M : List (Nat × Bool)} {m : Nat} (ha : a.bar = some M) (hm : inKd M m = false) (h : m ∈ b.f.rs) : barred a b = true := by
  have : b.f.rs.any (fun m => !inKd M m) = true := List.any_eq_true.2 ⟨m, h, by rw [hm]; rfl⟩
  simp only [barred, ha, this, Bool.or_true]
theorem clash_l {a b : Fp} (h : barred a b = true) : clash a b = true ∧ clash b a = true := by simp [clash, h]

theorem clash_touch {a b : Fp} {m : Nat} (ha : Touch a m) (hb : Touch b m) : clash a b = true := by
  rcases ha with ha | ⟨M, ha, hm⟩
  · rcases hb with hb | ⟨M, hb, hm⟩
    · simp only [clash, Bool.or_eq_true]
      refine .inl (.inl (.inl (.inl (meets_of ha ?_))))
      rw [List.append_assoc]
      exact List.mem_append_right _ hb
    · exact (clash_l (barred_ws hb ha)).2
  · rcases hb with hb | ⟨M', hb, _⟩
    · exact (clash_l (barred_ws ha hb)).1
    · exact (clash_l (barred_bar ha (by rw [hb]; rfl))).1

theorem clash_full {a b : Fp} {m : Nat} (ha : Touch a m) (hb : m ∈ b.full) : clash a b = true ∧ clash b a = true := by
  rcases ha with ha | ⟨M, ha, hm⟩
  · simp only [clash, Bool.or_eq_true]
    refine ⟨.inl (.inl (.inl (.inl (meets_of ha ?_)))), .inl (.inl (.inl (.inr (meets_of hb ha))))⟩
    rw [List.append_assoc]
    exact List.mem_append_left _ hb
  · exact clash_l (barred_full ha hm hb)

theorem clash_rs {a b : Fp} {m : Nat} (ha : Bear a m) (hb : m ∈ b.f.rs) : clash a b = true ∧ clash b a = true := by
  rcases ha with ha | ⟨M, ha, hm⟩
  · simp only [clash, Bool.or_eq_true]
    exact ⟨.inl (.inl (.inr (meets_of ha hb))), .inl (.inr (meets_of hb ha))⟩
  · exact clash_l (barred_rs ha hm hb)

theorem clash_bar {a b : Fp} {m : Nat} (ha : Touch a m) (hb : b.bar.isSome = true) : clash a b = true ∧ clash b a = true := by
  obtain ⟨M, hM⟩ := Option.isSome_iff_exists.1 hb
  rcases ha with ha | ⟨M', ha, _⟩
  · exact (clash_l (barred_ws hM ha)).symm
  · exact clash_l (barred_bar ha hb)

/-- where an operation looks, the heap is as in the text -/
theorem near_agr (hEs : E ≤ all.size) (ht : Trace P pol call fn all E 0 T s u ps q n) {L : Array Bool} {sD : Hs} (hN : Near q E s L sD) {i : Nat} (hiE : i < E) (hni : ¬ Li L i) (hah : ∀ j ∈ ahAt all i, Li L j)
    (hcl : ∀ i, Li L i → ∀ j ∈ ahAt all i, Li L j) {p : Fp} (hq : q i = some p) : Agr (s i).h sD.h p := by
  have key : ∀ {e pe}, e < E → q e = some pe → clash pe p = true ∧ clash p pe = true → (e < i ↔ Li L e) := by
    intro e pe he hqe ⟨h1, h2⟩
    refine ⟨fun hlt => hah e (text_free hEs ht hlt hiE hqe hq h1), fun hLe => ?_⟩
    rcases Nat.lt_trichotomy e i with h | h | h
    · exact h
    · subst h; exact absurd hLe hni
    · exact absurd (hcl e hLe i (text_free hEs ht h he hq hqe h2)) hni
  refine ⟨fun m hm => hN.at' m i (by omega) fun e he ⟨pe, hqe, hme⟩ => key he hqe ?_, fun m hm => hN.kd m i (by omega) fun e he ⟨pe, hqe, hme⟩ => key he hqe (clash_rs hme hm), fun hb => ?_⟩
  · rcases List.mem_append.1 hm with hm | hm
    · exact clash_full hme hm
    · exact ⟨clash_touch hme (.inl hm), clash_touch (.inl hm) hme⟩
  · apply List.ext_getElem?
    intro m
    exact hN.at' m i (by omega) fun e he ⟨pe, hqe, hme⟩ => key he hqe (clash_bar hme hb)

/-- one step more -/
theorem near_step (hEs : E ≤ all.size) (ht : Trace P pol call fn all E 0 T s u ps q n) {L : Array Bool} {sD sD' : Hs} (hN : Near q E s L sD) {i : Nat} (hiE : i < E) (hiL : i < L.size) (hni : ¬ Li L i)
    (hcl : ∀ i, Li L i → ∀ j ∈ ahAt all i, Li L j) (hds : sD'.ds = sD.ds) (hps : sD'.ps = sD.ps)
    (h1 : ∀ m, touch q i m → (s (i + 1)).h[m]? = sD'.h[m]?) (h2 : ∀ m, ¬ touch q i m → sD'.h[m]? = sD.h[m]?)
    (h3 : ∀ m, bear q i m → kindAt (s (i + 1)).h m = kindAt sD'.h m) (h4 : ∀ m, ¬ bear q i m → kindAt sD'.h m = kindAt sD.h m) : Near q E s (L.setIfInBounds i true) sD' := by
  have away : ∀ {e m}, i < e → e < E → touch q i m → touch q e m → Li L e → False := fun {e m} hlt he ⟨p, hq, hm⟩ ⟨pe, hqe, hme⟩ hLe =>
    hni (hcl e hLe i (text_free hEs ht hlt he hq hqe (clash_touch hm hme)))
  refine ⟨hds.trans hN.ds, hps.trans hN.ps, fun m i' hi' hc => ?_, fun m i' hi' hc => ?_⟩
  · by_cases hm : touch q i m
    · have hlt : i < i' := (hc i hiE hm).2 ((li_set hiL).2 (.inl rfl))
      rw [← h1 m hm]
      refine text_at hEs ht (i + 1) m i' (by omega) hi' fun e he hlt' hme => ?_
      rcases (li_set hiL).1 ((hc e (by omega) hme).1 hlt') with h | h
      · omega
      · exact away (by omega) (by omega) hm hme h
    · rw [h2 m hm]
      refine hN.at' m i' hi' fun e he hme => ?_
      rw [hc e he hme, li_set hiL]
      exact ⟨fun h => h.elim (fun h => by subst h; exact absurd hme hm) id, .inr⟩
  · by_cases hm : bear q i m
    · have hlt : i < i' := (hc i hiE hm).2 ((li_set hiL).2 (.inl rfl))
      rw [← h3 m hm]
      refine text_kd hEs ht (i + 1) m i' (by omega) hi' fun e he hlt' hme => ?_
      rcases (li_set hiL).1 ((hc e (by omega) hme).1 hlt') with h | h
      · omega
      · exact away (by omega) (by omega) (touch_bear hm) (touch_bear hme) h
    · rw [h4 m hm]
      refine hN.kd m i' hi' fun e he hme => ?_
      rw [hc e he hme, li_set hiL]
      exact ⟨fun h => h.elim (fun h => by subst h; exact absurd hme hm) id, .inr⟩

theorem near_all (hEs : E ≤ all.size) (ht : Trace P pol call fn all E 0 T s u ps q n) {L : Array Bool} {sD : Hs} (hN : Near q E s L sD) (h : ∀ e, e < E → (∃ m, touch q e m) → Li L e) : s E = sD := by
  have hh : (s E).h = sD.h := by
    apply List.ext_getElem?
    intro m
    exact hN.at' m E (Nat.le_refl _) fun e he hm => ⟨fun _ => h e he ⟨m, hm⟩, fun _ => he⟩
  obtain ⟨h1, h2⟩ := text_ds hEs ht E (Nat.le_refl _)
  have e1 := h1.trans hN.ds.symm
  have e2 := h2.trans hN.ps.symm
  generalize s E = x at hh e1 e2
  obtain ⟨xh, xd, xp⟩ := x
  obtain ⟨yh, yd, yp⟩ := sD
  simp only at hh e1 e2
  subst hh; subst e1; subst e2
  rfl

theorem mem_slots {o : Oper} {t : Nat} (h : Operand.tmp t ∈ o.op.operands) : t ∈ slotsOf o := by
  unfold slotsOf
  exact List.mem_filterMap.2 ⟨.tmp t, by simpa using h, rfl⟩

theorem evalG_agree {T TL : List AV} {o : Oper} (hag : ∀ t ∈ slotsOf o, getT T t = getT TL t) (js : Js) : ∀ x ∈ o.op.operands, evalG T js x = evalG TL js x := by
  intro x hx
  cases x with
  | tmp t => simp only [evalG, eval, hag t (mem_slots hx)]
  | _ => rfl

theorem holdsJ_agree {T TL : List AV} : ∀ {js acc : Js}, (∀ p ∈ js, getT T p.1 = getT TL p.1) → holdsJ T acc js = holdsJ TL acc js := by
  intro js
  induction js with
  | nil => intro acc _; rfl
  | cons p js ih =>
    intro acc h
    obtain ⟨d, w⟩ := p
    simp only [holdsJ, h (d, w) (List.mem_cons_self ..), ih fun p hp => h p (List.mem_cons_of_mem _ hp)]

theorem pureG_agree {c : Cx} {T TL : List AV} {a : Act} {o : Oper} {js : Js} {v : AV} (hr : RelH c) (hag : ∀ t ∈ slotsOf o, getT T t = getT TL t) (hS : SlotsG c TL a.tmps) (hh : Hold a.tmps js) (h : pureG P T js c.h o = some v) :
    ∃ x, (execOp a.eval o).run P c.w = .ok (.value x) c.w ∧ VR c v x := by
  unfold pureG at h
  have h' : opPure P (evalG T js) (evalG T (js ++ pickJ o true)) (evalG T (js ++ pickJ o false)) c.h o = some v := by
    unfold solid at h
    split at h
    · exact h
    · split at h
      · cases h
      · cases h
      · cases h
      · exact h
  refine opPure_sound hr (fun x hx => by rw [evalG_agree hag js x hx]; exact evalG_sound hS hh x) (fun d x y ho => ?_) h'
  have key : ∀ w, a.eval d = .bool w → Hold a.tmps (js ++ pickJ o w) := by
    intro w hd p hp
    rcases List.mem_append.1 hp with hp | hp
    · exact hh p hp
    · simp only [pickJ, ho] at hp
      cases d with
      | tmp t =>
        simp only [List.mem_singleton] at hp
        subst hp
        simp only [Act.eval, Array.getD_eq_getD_getElem?] at hd
        cases hx : a.tmps[t]? with
        | none => rw [hx] at hd; simp [undef] at hd
        | some z => rw [hx] at hd; simp at hd; subst hd; rfl
      | _ => cases hp
  have hops : ∀ z, z = x ∨ z = y → z ∈ o.op.operands := by
    intro z hz
    rw [ho]
    rcases hz with rfl | rfl <;> simp [Op.operands]
  exact ⟨fun hd => by rw [evalG_agree hag _ x (hops x (.inl rfl))]; exact evalG_sound hS (key true hd) x,
    fun hd => by rw [evalG_agree hag _ y (hops y (.inr rfl))]; exact evalG_sound hS (key false hd) y⟩

theorem guardOf_agree {T TL : List AV} {o : Oper} (hag : ∀ j w d, o.guard = some (j, w) → dstAt all j = some d → getT T d = getT TL d) : guardOf all T o = guardOf all TL o := by
  unfold guardOf
  split
  · rfl
  · rename_i j w e
    split
    · rename_i d ed
      rw [hag j w d e ed]
    · rfl

theorem draw_step (hok : Okay P) (hcall : CallSound P call) (hs : DrawSpec all) (hEs : E ≤ all.size) (ht : Trace P pol call fn all E 0 T s u ps q n) (hT0 : ∀ (j : Nat) js v, (T 0)[j]? ≠ some (.gd js v))
    {c₀ c : Cx} {L : Array Bool} {a : Act} {cs : List Frame} (hI : Inv base all E (T 0) s u q c₀ L c a cs) {i : Nat} {o : Oper} (ho : all[i]? = some o) (hiE : i < E) (hni : ¬ Li L i)
    (hrd : ∀ e ∈ o.after, Region.binds .any e = true → Li L e.on) (rest : List Nat) (Q : Post)
    (hQ : ∀ c' a' cs', Inv base all E (T 0) s u q c₀ (L.setIfInBounds i true) c' a' cs' → Runs P base.kind [.inRegion all rest] Q a' cs' c'.w) : Runs P base.kind [.inRegion all (i :: rest)] Q a cs c.w := by
  have hi : i < all.size := (Array.getElem?_eq_some_iff.1 ho).1
  have hiL : i < L.size := by rw [hI.sz]; exact hi
  have hdi : dstAt all i = o.dst := by simp [dstAt, ho]
  have hah : ∀ j ∈ ahAt all i, Li L j := by
    intro j hj
    obtain ⟨e, he, hb, hje⟩ := ahAt_mem ho hj
    rcases hje with rfl | hje
    · exact hrd e he hb
    · exact hI.cl _ (hrd e he hb) j hje
  obtain ⟨TL, hS, hTl, hW, hN⟩ := hI.sl
  obtain ⟨sD, hF, hsD⟩ := hI.st
  obtain ⟨x1, x2, x3⟩ := text_slots hs hEs ht i (by omega)
  have agree : ∀ d, (∀ j, dstAt all j = some d → (j < i ∧ Li L j) ∨ (¬ j < i ∧ ¬ Li L j)) → getT (T i) d = getT TL d := by
    intro d hd
    have : (T i)[d]? = TL[d]? := by
      by_cases hex : ∃ j, dstAt all j = some d
      · obtain ⟨j, hj⟩ := hex
        rcases hd j hj with ⟨h1, h2⟩ | ⟨h1, h2⟩
        · rcases Nat.lt_or_ge d (T 0).length with hl | hl
          · rw [x2 j d h1 hj hl, hW j d h2 hj hl]
          · rw [List.getElem?_eq_none (by omega), List.getElem?_eq_none (by omega)]
        · rw [x3 d fun j' hj' he => by have := hs.uniq j' j d he hj; subst this; exact h1 hj', hN d fun j' he => by have := hs.uniq j' j d he hj; subst this; exact h2]
      · rw [x3 d fun j _ hj => hex ⟨j, hj⟩, hN d fun j hj => absurd ⟨j, hj⟩ hex]
    simp only [getT, this]
  have hag : ∀ t ∈ slotsOf o, getT (T i) t = getT TL t := fun t h => agree t fun j hj => by
    rcases hs.slot i o j t ho hj h with ⟨h1, h2⟩ | ⟨h1, h2⟩
    · exact .inl ⟨h2, hah j h1⟩
    · exact .inr ⟨by omega, fun hL => hni (hI.cl j hL i h1)⟩
  obtain ⟨hTs, _, hstep⟩ := ht.step i o (Nat.zero_le _) hiE ho
  have hfresh : ∀ d, o.dst = some d → ∀ (j : Nat) js v, TL[j]? = some (.gd js v) → ∀ p ∈ js, p.1 ≠ d := by
    intro d hd j js v e p hp hpe
    by_cases hex : ∃ j', dstAt all j' = some j ∧ Li L j'
    · obtain ⟨j', h1, h2⟩ := hex
      have hl : j < (T 0).length := by rw [← hTl]; exact (List.getElem?_eq_some_iff.1 e).1
      rw [hW j' j h2 h1 hl] at e
      obtain ⟨_, h3⟩ := hI.gd j' h2 js v (Option.some.inj e)
      obtain ⟨j'', _, h4, h5⟩ := h3 p hp
      have := hs.uniq j'' i d (by rw [h5, hpe]) (by rw [hdi, hd])
      subst this
      exact hni h4
    · rw [hN j fun j' h1 h2 => hex ⟨j', h1, h2⟩] at e
      exact hT0 j js v e
  have next : ∀ {c' : Cx} {ds' : List Deferred} {cs' : List Frame} {x : Value} {sD' : Hs}, Evol c c' → Fr base c' sD' ds' cs' → Near q E s (L.setIfInBounds i true) sD' → (∀ d, o.dst = some d → TR c' (a.tmps.setIfInBounds d x) (u i) x) →
      (∀ js w, u i = .gd js w → anyGuard all.toList = true ∧ ∀ p ∈ js, ∃ j', j' < i ∧ Li L j' ∧ dstAt all j' = some p.1) →
      Inv base all E (T 0) s u q c₀ (L.setIfInBounds i true) c' (Act.put { a with defers := ds' } o.dst x) cs' := by
    intro c' ds' cs' x sD' hE hF' hN' hTR hgd
    have up : ∀ {j}, Li L j → Li (L.setIfInBounds i true) j := fun h => (li_set hiL).2 (.inr h)
    refine ⟨hI.ev.trans hE, by simp [hI.sz], fun j hj j' hj' => ?_, ⟨(St.put ⟨TL, sD⟩ o.dst (u i)).T, hS.put hE.ext hfresh hTR, ?_, ?_, ?_⟩, fun j hj js w e => ?_, fun j hj => ((li_set hiL).1 hj).elim (fun h => by rw [h]; exact hiE) (hI.lt j), ⟨sD', by rw [put_defers]; exact hF', hN'⟩⟩
    · rcases (li_set hiL).1 hj with rfl | hj
      · exact up (hah j' hj')
      · exact up (hI.cl j hj j' hj')
    · cases o.dst <;> simp [St.put, hTl]
    · intro j d hj hd hl
      cases hod : o.dst with
      | none =>
        simp only [St.put]
        rcases (li_set hiL).1 hj with rfl | hj
        · rw [hdi, hod] at hd; cases hd
        · exact hW j d hj hd hl
      | some d₀ =>
        simp only [St.put]
        rcases (li_set hiL).1 hj with rfl | hj
        · rw [hdi, hod] at hd
          cases hd
          rw [List.getElem?_set_self (by rw [hTl]; exact hl)]
        · have hne : d₀ ≠ d := fun he => by
            subst he
            have := hs.uniq i j d₀ (by rw [hdi, hod]) hd
            subst this
            exact hni hj
          rw [List.getElem?_set_ne hne]
          exact hW j d hj hd hl
    · intro d hd
      have hN' := hN d fun j hj hLj => hd j hj (up hLj)
      cases hod : o.dst with
      | none => exact hN'
      | some d₀ =>
        simp only [St.put]
        have hne : d₀ ≠ d := fun he => hd i (by rw [hdi, hod, he]) ((li_set hiL).2 (.inl rfl))
        rw [List.getElem?_set_ne hne]
        exact hN'
    · rcases (li_set hiL).1 hj with rfl | hj
      · obtain ⟨h1, h2⟩ := hgd js w e
        exact ⟨h1, fun p hp => let ⟨j', g1, g2, g3⟩ := h2 p hp; ⟨j', g1, up g2, g3⟩⟩
      · obtain ⟨h1, h2⟩ := hI.gd j hj js w e
        exact ⟨h1, fun p hp => let ⟨j', g1, g2, g3⟩ := h2 p hp; ⟨j', g1, up g2, g3⟩⟩
  have agr : ∀ {p : Fp}, q i = some p → Agr (s i).h sD.h p := fun hq => near_agr hEs ht hsD hiE hni hah hI.cl hq
  have stay : s (i + 1) = s i → Near q E s (L.setIfInBounds i true) sD := fun e => by
    have h1 : ∀ m, touch q i m → (s (i + 1)).h[m]? = sD.h[m]? := fun m hm => by
      obtain ⟨p, hq, hm⟩ := hm
      rw [e]
      rcases hm with hm | ⟨M, hb, _⟩
      · exact (agr hq).full m (List.mem_append_right _ hm)
      · rw [(agr hq).bar (by rw [hb]; rfl)]
    refine near_step hEs ht hsD hiE hiL hni hI.cl rfl rfl h1 (fun _ _ => rfl) (fun m hm => ?_) (fun _ _ => rfl)
    simp only [kindAt, h1 m (touch_bear hm)]
  have hga : guardOf all (T i) o = guardOf all TL o := guardOf_agree fun j w d hg hd => agree d fun j' hj' => by
    obtain ⟨h1, h2⟩ := hs.guard i o j w ho hg
    have := hs.uniq j' j d hj' hd
    subst this
    exact .inl ⟨h2, hah j' h1⟩
  have skip : Region.wanted o (yielded all a.tmps) = false → s (i + 1) = s i → (∀ d, o.dst = some d → TR c (a.tmps.setIfInBounds d undef) (u i) undef) →
      (∀ js w, u i = .gd js w → anyGuard all.toList = true ∧ ∀ p ∈ js, ∃ j', j' < i ∧ Li L j' ∧ dstAt all j' = some p.1) → Runs P base.kind [.inRegion all (i :: rest)] Q a cs c.w := by
    intro hw hs1 hTR hgd
    exact Runs.op_skip ho hw (hQ c _ cs (next (ds' := a.defers) (Evol.refl c) hF (stay hs1) hTR hgd))
  rcases hstep with ⟨hg, hu, hs1, _⟩ | ⟨js, hid, hg, _, hcase⟩
  · rw [hga] at hg
    refine skip (guard_skip hS hg) hs1 (fun d _ => ?_) fun js w e => ?_
    · rw [hu]; exact .of_vr .undef
    · rw [hu] at e; cases e
  · have hg' := hg
    rw [hga] at hg'
    have hw := guard_run hS hg'
    -- the slots of the guards
    have hjs : (js ≠ [] → anyGuard all.toList = true) ∧ ∀ p ∈ js, ∃ j', j' < i ∧ Li L j' ∧ dstAt all j' = some p.1 := by
      unfold guardOf at hg'
      split at hg'
      · cases hg'
        exact ⟨fun h => absurd rfl h, fun p hp => by cases hp⟩
      · rename_i j want e
        have hany : anyGuard all.toList = true := List.any_eq_true.2 ⟨o, by simpa using Array.mem_of_getElem? ho, by simp [e]⟩
        obtain ⟨hja, hji⟩ := hs.guard i o j want ho e
        refine ⟨fun _ => hany, ?_⟩
        split at hg'
        · rename_i d ed
          have hjd : dstAt all j = some d := ed
          split at hg'
          · cases hg'
            intro p hp
            simp only [List.mem_singleton] at hp
            subst hp
            exact ⟨j, hji, hah j hja, hjd⟩
          · rename_i js' b eb
            cases hg'
            have hdl : d < (T 0).length := by
              rw [← hTl]
              rcases Nat.lt_or_ge d TL.length with h | h
              · exact h
              · simp [getT, List.getElem?_eq_none h, undefA] at eb
            have huj : u j = .gd js' (.bool b) := by
              have := hW j d (hah j hja) hjd hdl
              simpa [getT, this] using eb
            obtain ⟨_, h2⟩ := hI.gd j (hah j hja) js' _ huj
            intro p hp
            rcases List.mem_append.1 hp with hp | hp
            · obtain ⟨j', g1, g2, g3⟩ := h2 p hp
              exact ⟨j', by omega, g2, g3⟩
            · simp only [List.mem_singleton] at hp
              subst hp
              exact ⟨j, hji, hah j hja, hjd⟩
          · cases hg'
          · cases hg'
        · cases hg'
    have hjf : ∀ d, o.dst = some d → ∀ p ∈ js, p.1 ≠ d := by
      intro d hd p hp he
      obtain ⟨j', _, g2, g3⟩ := hjs.2 p hp
      have := hs.uniq j' i d (by rw [g3, he]) (by rw [hdi, hd])
      subst this
      exact hni g2
    have hjag : ∀ p ∈ js, getT (T i) p.1 = getT TL p.1 := fun p hp => by
      obtain ⟨j', g1, g2, g3⟩ := hjs.2 p hp
      refine agree p.1 fun j hj => ?_
      have := hs.uniq j j' p.1 hj g3
      subst this
      exact .inl ⟨g1, g2⟩
    have notw : ¬ Hold a.tmps js → Region.wanted o (yielded all a.tmps) = false := fun hn => by
      cases hx : Region.wanted o (yielded all a.tmps) with
      | false => rfl
      | true => exact absurd (hw.1 hx) hn
    have gdu : ∀ {v : AV}, u i = gdOf js v → (js = [] → ∀ js' w, v ≠ .gd js' w) → ∀ js' w, u i = .gd js' w → anyGuard all.toList = true ∧ ∀ p ∈ js', ∃ j', j' < i ∧ Li L j' ∧ dstAt all j' = some p.1 := by
      intro v hu hnv js' w e
      rw [hu] at e
      cases js with
      | nil => exact absurd e (hnv rfl js' w)
      | cons q l =>
        simp only [gdOf] at e
        cases e
        exact ⟨hjs.1 (by simp), hjs.2⟩
    rcases hcase with ⟨v, hp, hu, hs1, hq⟩ | ⟨hh, v, hu, hq, hkp, hdet⟩ | ⟨hh, hu, hs1, _⟩
    · rw [pureG_agr (agr hq), ← hF.h] at hp
      by_cases hH : Hold a.tmps js
      · obtain ⟨x, hrun, hv⟩ := pureG_agree hF.rel hag hS hH hp
        refine Runs.op_value ho (hw.2 hH) hrun (hQ c _ cs (next (ds' := a.defers) (Evol.refl c) hF (stay hs1) (fun d hd => ?_) (gdu hu fun _ js' w e => by subst e; exact VR.not_gd hv)))
        rw [hu]
        exact gdOf_sound (fun _ => hv) fun hn => absurd ((hold_put (hjf d hd)).2 hH) hn
      · refine skip (notw hH) hs1 (fun d hd => ?_) (gdu hu fun e => ?_)
        · rw [hu]
          exact gdOf_sound (fun hn => absurd ((hold_put (hjf d hd)).1 hn) hH) fun _ => rfl
        · subst e
          exact absurd (fun p hp => by cases hp) hH
    · rw [holdsJ_agree hjag] at hh
      have hH : Hold a.tmps js := (holdsJ_sound hS hh (fun p hp => by cases hp)).1 rfl
      obtain ⟨h₂', es, hdet₂, htc⟩ := op_local (s₂ := sD) (agr hq) hdet hkp
      have hN' : Near q E s (L.setIfInBounds i true) { sD with h := h₂' } := by
        have h1 : ∀ m, touch q i m → (s (i + 1)).h[m]? = h₂'[m]? := fun m hm => by
          obtain ⟨p, hq', hm⟩ := hm
          rw [hq] at hq'
          cases hq'
          rcases hm with hm | ⟨M, hb, _⟩
          · exact htc.on ((agr hq).full m (List.mem_append_right _ hm))
          · exact htc.on (by rw [(agr hq).bar (by rw [hb]; rfl)])
        refine near_step hEs ht hsD hiE hiL hni hI.cl rfl rfl h1 (fun m hm => ?_) (fun m hm => ?_) (fun m hm => ?_)
        · exact (htc.off fun ht => hm ⟨_, hq, ht⟩).2
        · simp only [kindAt, h1 m (touch_bear hm)]
        · exact (htc.kindOff fun ht => hm ⟨_, hq, ht⟩).2
      have hd1 : opD P pol (bindK call) fn (some (n i)) (evalG (T i) js) o sD (tst v { sD with h := h₂' }) (fun _ _ => none) = some (.ret .nil [] .plain) := by
        rw [hdet₂]; exact tst_self
      rcases opD_runs hok hcall ho (hw.2 hH) hF (fun x hx => by rw [evalG_agree hag js x hx]; exact evalG_sound hS hH x) hd1 with ⟨v', s', hk, hD⟩ | ⟨v', s', hk, _⟩
      · obtain ⟨rfl, rfl⟩ := tst_inv hk
        refine hD rest Q fun c' x ds' cs' hE hF' hv => hQ c' _ cs' (next hE hF' hN' (fun d hd => ?_) (gdu hu fun _ js' w e => by subst e; exact VR.not_gd hv))
        rw [hu]
        exact gdOf_sound (fun _ => hv) fun hn => absurd ((hold_put (hjf d hd)).2 hH) hn
      · cases hk
    · rw [holdsJ_agree hjag] at hh
      have hH : ¬ Hold a.tmps js := fun h => by
        have := (holdsJ_sound hS hh (fun p hp => by cases hp)).2 h
        cases this
      refine skip (notw hH) hs1 (fun d hd => ?_) fun js w e => ?_
      · rw [hu]; exact .of_vr .undef
      · rw [hu] at e; cases e

theorem draw_pan (hok : Okay P) (hcall : CallSound P call) (hs : DrawSpec all) (hEs : E ≤ all.size) (ht : Trace P pol call fn all E 0 T s u ps q n)
    {c₀ c : Cx} {L : Array Bool} {a : Act} {cs : List Frame} (hI : Inv base all E (T 0) s u q c₀ L c a cs) {i : Nat} {o : Oper} (hiE : i = E) (ho : all[i]? = some o) (hni : ¬ Li L i)
    (hrd : ∀ e ∈ o.after, Region.binds .any e = true → Li L e.on) (rest : List Nat) (Q : Post) {js : Js} {v : AV} {s' : Hs} (hg : guardOf all (T i) o = .run js) (hh : holdsJ (T i) [] js = some true)
    (hdet : ∀ k kp, opD P pol (bindK call) fn (some (n i)) (evalG (T i) js) o (s i) k kp = kp v s')
    (hpan : ∀ e, e < i → (∃ m, touch q e m) → e ∈ ahAt all i)
    (hQ : ∀ c' x a' cs', Evol c₀ c' → Fr base c' s' a'.defers cs' → (∃ TL, SlotsG c' TL a'.tmps ∧ TL.length = (T 0).length ∧ ∀ d, (∀ j, dstAt all j ≠ some d) → TL[d]? = (T 0)[d]?) → VR c' v x →
      Q (.panic [{ v := x, recovered := false }]) a' cs' c'.w) : Runs P base.kind [.inRegion all (i :: rest)] Q a cs c.w := by
  have hi : i < all.size := (Array.getElem?_eq_some_iff.1 ho).1
  have hiL : i < L.size := by rw [hI.sz]; exact hi
  have hdi : dstAt all i = o.dst := by simp [dstAt, ho]
  have hah : ∀ j ∈ ahAt all i, Li L j := by
    intro j hj
    obtain ⟨e, he, hb, hje⟩ := ahAt_mem ho hj
    rcases hje with rfl | hje
    · exact hrd e he hb
    · exact hI.cl _ (hrd e he hb) j hje
  obtain ⟨TL, hS, hTl, hW, hN⟩ := hI.sl
  obtain ⟨sD, hF, hsD⟩ := hI.st
  obtain ⟨x1, x2, x3⟩ := text_slots hs hEs ht i (by omega)
  have agree : ∀ d, (∀ j, dstAt all j = some d → (j < i ∧ Li L j) ∨ (¬ j < i ∧ ¬ Li L j)) → getT (T i) d = getT TL d := by
    intro d hd
    have : (T i)[d]? = TL[d]? := by
      by_cases hex : ∃ j, dstAt all j = some d
      · obtain ⟨j, hj⟩ := hex
        rcases hd j hj with ⟨h1, h2⟩ | ⟨h1, h2⟩
        · rcases Nat.lt_or_ge d (T 0).length with hl | hl
          · rw [x2 j d h1 hj hl, hW j d h2 hj hl]
          · rw [List.getElem?_eq_none (by omega), List.getElem?_eq_none (by omega)]
        · rw [x3 d fun j' hj' he => by have := hs.uniq j' j d he hj; subst this; exact h1 hj', hN d fun j' he => by have := hs.uniq j' j d he hj; subst this; exact h2]
      · rw [x3 d fun j _ hj => hex ⟨j, hj⟩, hN d fun j hj => absurd ⟨j, hj⟩ hex]
    simp only [getT, this]
  have hag : ∀ t ∈ slotsOf o, getT (T i) t = getT TL t := fun t h => agree t fun j hj => by
    rcases hs.slot i o j t ho hj h with ⟨h1, h2⟩ | ⟨h1, h2⟩
    · exact .inl ⟨h2, hah j h1⟩
    · exact .inr ⟨by omega, fun hL => hni (hI.cl j hL i h1)⟩
  have hsi : s i = sD := by
    subst hiE
    exact near_all hEs ht hsD fun e he h0 => hah e (hpan e he h0)
  have hga : guardOf all (T i) o = guardOf all TL o := guardOf_agree fun j w d hg hd => agree d fun j' hj' => by
    obtain ⟨h1, h2⟩ := hs.guard i o j w ho hg
    have := hs.uniq j' j d hj' hd
    subst this
    exact .inl ⟨h2, hah j' h1⟩
  have hg' := hg
  rw [hga] at hg'
  have hw := guard_run hS hg'
  -- the slots of the guards
  have hjs : (js ≠ [] → anyGuard all.toList = true) ∧ ∀ p ∈ js, ∃ j', j' < i ∧ Li L j' ∧ dstAt all j' = some p.1 := by
    unfold guardOf at hg'
    split at hg'
    · cases hg'
      exact ⟨fun h => absurd rfl h, fun p hp => by cases hp⟩
    · rename_i j want e
      have hany : anyGuard all.toList = true := List.any_eq_true.2 ⟨o, by simpa using Array.mem_of_getElem? ho, by simp [e]⟩
      obtain ⟨hja, hji⟩ := hs.guard i o j want ho e
      refine ⟨fun _ => hany, ?_⟩
      split at hg'
      · rename_i d ed
        have hjd : dstAt all j = some d := ed
        split at hg'
        · cases hg'
          intro p hp
          simp only [List.mem_singleton] at hp
          subst hp
          exact ⟨j, hji, hah j hja, hjd⟩
        · rename_i js' b eb
          cases hg'
          have hdl : d < (T 0).length := by
            rw [← hTl]
            rcases Nat.lt_or_ge d TL.length with h | h
            · exact h
            · simp [getT, List.getElem?_eq_none h, undefA] at eb
          have huj : u j = .gd js' (.bool b) := by
            have := hW j d (hah j hja) hjd hdl
            simpa [getT, this] using eb
          obtain ⟨_, h2⟩ := hI.gd j (hah j hja) js' _ huj
          intro p hp
          rcases List.mem_append.1 hp with hp | hp
          · obtain ⟨j', g1, g2, g3⟩ := h2 p hp
            exact ⟨j', by omega, g2, g3⟩
          · simp only [List.mem_singleton] at hp
            subst hp
            exact ⟨j, hji, hah j hja, hjd⟩
        · cases hg'
        · cases hg'
      · cases hg'
  have hjf : ∀ d, o.dst = some d → ∀ p ∈ js, p.1 ≠ d := by
    intro d hd p hp he
    obtain ⟨j', _, g2, g3⟩ := hjs.2 p hp
    have := hs.uniq j' i d (by rw [g3, he]) (by rw [hdi, hd])
    subst this
    exact hni g2
  have hjag : ∀ p ∈ js, getT (T i) p.1 = getT TL p.1 := fun p hp => by
    obtain ⟨j', g1, g2, g3⟩ := hjs.2 p hp
    refine agree p.1 fun j hj => ?_
    have := hs.uniq j j' p.1 hj g3
    subst this
    exact .inl ⟨g1, g2⟩
  rw [holdsJ_agree hjag] at hh
  have hH : Hold a.tmps js := (holdsJ_sound hS hh (fun p hp => by cases hp)).1 rfl
  have hd1 : opD P pol (bindK call) fn (some (n i)) (evalG (T i) js) o sD (fun _ _ => none) (tst v s') = some (.ret .nil [] .plain) := by
    rw [← hsi, hdet]; exact tst_self
  rcases opD_runs hok hcall ho (hw.2 hH) hF (fun x hx => by rw [evalG_agree hag js x hx]; exact evalG_sound hS hH x) hd1 with ⟨v', s'', hk, _⟩ | ⟨v', s'', hk, hD⟩
  · cases hk
  · obtain ⟨rfl, rfl⟩ := tst_inv hk
    refine hD rest Q fun c' x hE hF' hv => hQ c' x a cs (hI.ev.trans hE) hF' ⟨TL, hS.ext hE.ext, hTl, fun d hd => hN d fun j hj => absurd hj (hd j)⟩ hv

theorem draw_go (hok : Okay P) (hcall : CallSound P call) (hs : DrawSpec all) (hEs : E ≤ all.size) (ht : Trace P pol call fn all E 0 T s u ps q n) (hT0 : ∀ (j : Nat) js v, (T 0)[j]? ≠ some (.gd js v)) (hend : ∀ j, E < j → j < all.size → E ∈ ahAt all j) {c₀ : Cx} (Q : Post)
    (hP : ∀ L c a cs rest o, Inv base all E (T 0) s u q c₀ L c a cs → all[E]? = some o → ¬ Li L E → (∀ e ∈ o.after, Region.binds .any e = true → Li L e.on) → Runs P base.kind [.inRegion all (E :: rest)] Q a cs c.w)
    (hQ : ∀ L c a cs, Inv base all E (T 0) s u q c₀ L c a cs → (∀ i, i < all.size → Li L i) → Q .normal a cs c.w) :
    ∀ (fuel t : Nat) {c : Cx} {L : Array Bool} {a : Act} {cs : List Frame}, Inv base all E (T 0) s u q c₀ L c a cs → ((List.range all.size).filter fun i => !L.getD i false).length ≤ fuel →
      Runs P base.kind [.inRegion all (Region.linearise.go .any all fuel t L [])] Q a cs c.w := by
  intro fuel
  have fin : ∀ {c : Cx} {L : Array Bool} {a : Act} {cs : List Frame}, Inv base all E (T 0) s u q c₀ L c a cs → (∀ i, i < all.size → Li L i) → Runs P base.kind [.inRegion all []] Q a cs c.w :=
    fun hI hall => Runs.op_nil (hQ _ _ _ _ hI hall)
  induction fuel with
  | zero =>
    intro t c L a cs hI hle
    simp only [Region.linearise.go, List.reverse_nil]
    refine fin hI fun i hi => ?_
    have hnil : ((List.range all.size).filter fun i => !L.getD i false) = [] := List.length_eq_zero_iff.1 (by omega)
    have := List.filter_eq_nil_iff.1 hnil i (List.mem_range.2 hi)
    simpa [Li] using this
  | succ fuel ih =>
    intro t c L a cs hI hle
    have hgetD : ∀ i, i < all.size → L.getD i true = L.getD i false := fun i hi => by
      have : i < L.size := by rw [hI.sz]; exact hi
      simp [Array.getD_eq_getD_getElem?, this]
    have hrs : Region.linearise.go .any all (fuel + 1) t L [] = match (Region.ready .any all L)[t % (Region.ready .any all L).length]? with
        | some i => i :: Region.linearise.go .any all fuel (t / (Region.ready .any all L).length) (L.setIfInBounds i true) []
        | none => [] := by
      simp only [Region.linearise.go]
      change (match (Region.ready .any all L)[t % (Region.ready .any all L).length]? with
        | some i => Region.linearise.go .any all fuel (t / (Region.ready .any all L).length) (L.setIfInBounds i true) [i]
        | none => [].reverse) = _
      split
      · rw [linearise_go_acc]; rfl
      · rfl
    rw [hrs]
    generalize hR : Region.ready .any all L = rs
    have hmem : ∀ i, i ∈ rs ↔ i < all.size ∧ ¬ Li L i ∧ ∃ o, all[i]? = some o ∧ ∀ e ∈ o.after, Region.binds .any e = true → Li L e.on := by
      intro i
      rw [← hR]
      simp only [Region.ready, List.mem_filter, List.mem_range, Bool.and_eq_true, Bool.not_eq_true']
      constructor
      · rintro ⟨h1, h2, h3⟩
        have ho : all[i]? = some all[i] := Array.getElem?_eq_getElem h1
        refine ⟨h1, by rw [hgetD i h1] at h2; simp [Li, h2], _, ho, fun e he hb => ?_⟩
        rw [ho] at h3
        simp only [Option.map_some, Option.getD_some] at h3
        have := Array.all_eq_true_iff_forall_mem.1 h3 e he
        simpa [hb, Li] using this
      · rintro ⟨h1, h2, o, ho, h3⟩
        refine ⟨h1, by rw [hgetD i h1]; simpa [Li] using h2, ?_⟩
        rw [ho]
        simp only [Option.map_some, Option.getD_some]
        refine Array.all_eq_true_iff_forall_mem.2 fun e he => ?_
        cases hb : Region.binds .any e with
        | false => rfl
        | true => have := h3 e he hb; simpa [Li] using this
    cases hpick : rs[t % rs.length]? with
    | some i =>
      simp only
      obtain ⟨hi, hni, o, ho, hrd⟩ := (hmem i).1 (List.mem_of_getElem? hpick)
      rcases Nat.lt_trichotomy i E with hiE | hiE | hiE
      rotate_left
      · subst hiE
        exact hP _ _ _ _ _ _ hI ho hni hrd
      · exfalso
        obtain ⟨e, he, hb, hje⟩ := ahAt_mem ho (hend i hiE hi)
        have hL : Li L E := by
          rcases hje with hje | hje
          · rw [hje]; exact hrd e he hb
          · exact hI.cl _ (hrd e he hb) E hje
        exact absurd (hI.lt E hL) (Nat.lt_irrefl E)
      refine draw_step hok hcall hs hEs ht hT0 hI ho hiE hni hrd _ Q fun c' a' cs' hI' => ih _ hI' ?_
      have : ((List.range all.size).filter fun j => !(L.setIfInBounds i true).getD j false).length < ((List.range all.size).filter fun j => !L.getD j false).length := by
        refine cnt_lt (fun x _ hx => ?_) ⟨i, List.mem_range.2 hi, by simpa [Li] using hni, ?_⟩
        · have hx' : ¬ Li (L.setIfInBounds i true) x := by simpa [Li] using hx
          have : ¬ Li L x := fun h => hx' ((li_set (by rw [hI.sz]; exact hi)).2 (.inr h))
          simpa [Li] using this
        · have : Li (L.setIfInBounds i true) i := (li_set (by rw [hI.sz]; exact hi)).2 (.inl rfl)
          simpa [Li] using this
      omega
    | none =>
      simp only
      have hnil : rs = [] := by
        cases rs with
        | nil => rfl
        | cons x xs =>
          have : t % (x :: xs).length < (x :: xs).length := Nat.mod_lt _ (by simp)
          rw [List.getElem?_eq_getElem this] at hpick
          cases hpick
      refine fin hI ?_
      intro i
      induction i using Nat.strongRecOn with
      | ind i ih' =>
        intro hi
        refine Classical.byContradiction fun hni => ?_
        have ho : all[i]? = some all[i] := Array.getElem?_eq_getElem hi
        have : i ∈ rs := (hmem i).2 ⟨hi, hni, _, ho, fun e he hb => ih' e.on (hs.edge i _ ho e he hb) (by have := hs.edge i _ ho e he hb; omega)⟩
        rw [hnil] at this
        cases this

end

theorem panOK_spec {i : Nat} {o : Oper} (h : panOK P pol fn all = true) (ho : all[i]? = some o) (hm : mayPan o = true) :
    (∀ j, i < j → j < all.size → i ∈ ahAt all j) ∧ ∀ j, j < i → effAt P pol fn all j = true → j ∈ ahAt all i := by
  have hi := (Array.getElem?_eq_some_iff.1 ho).1
  unfold panOK at h
  have := List.all_eq_true.1 h i (List.mem_range.2 hi)
  simp only [ho, hm, Bool.not_true, Bool.false_or] at this
  refine ⟨fun j h1 h2 => ?_, fun j h1 h2 => ?_⟩
  · have := List.all_eq_true.1 this j (List.mem_range.2 h2)
    exact isAhead_iff.1 (by simpa [show ¬ j ≤ i from by omega] using this)
  · have := List.all_eq_true.1 this j (List.mem_range.2 (by omega))
    simp only [show j ≤ i from by omega, decide_true, cond_true, h2, Bool.not_true, Bool.or_false, Bool.or_eq_true, beq_iff_eq] at this
    rcases this with h3 | h3
    · omega
    · exact isAhead_iff.1 h3

theorem touch_eff {T : Nat → List AV} {s : Nat → Hs} {u : Nat → AV} {ps : Nat → List Fp} {q : Nat → Option Fp} {n : Nat → Nat} {E : Nat} (hEs : E ≤ all.size) (ht : Trace P pol call fn all E 0 T s u ps q n) {e : Nat} (he : e < E) (h : ∃ m, touch q e m) : effAt P pol fn all e = true := by
  obtain ⟨m, p, hq, h⟩ := h
  obtain ⟨o, js, hid, ho, rfl, hf⟩ := text_q hEs ht he hq
  simp only [effAt, ho]
  clear hf ho hq
  cases hm : mkO P pol fn o with
  | true => simp
  | false =>
  rw [Bool.or_false]
  obtain ⟨dst, op, ty, pos, after, guard⟩ := o
  have no : ∀ {p : Fp}, p.f.ws = [] → p.f.nw = none → p.f.ks = [] → p.bar = none → Touch p m → False := fun {p} h1 h2 h3 h4 h => by
    rcases h with h | ⟨M, hb, _⟩
    · simp [nwL, h1, h2, h3] at h
    · rw [h4] at hb; cases hb
  cases op
  case call cl =>
    obtain ⟨callee, args, argTypes⟩ := cl
    cases callee with
    | builtin b => cases b <;> first | rfl | exact (no rfl (by simp [fpOf, footOf, hm]) rfl rfl h).elim
    | value f => rfl
    | _ => first | rfl | exact (no rfl (by simp [fpOf, footOf, hm]) rfl rfl h).elim
  all_goals first | rfl | exact (no rfl (by simp [fpOf, footOf, hm]) rfl rfl h).elim

theorem wipe_len : ∀ (l : List Oper) (T : List AV), (wipeT l T).length = T.length
  | [], _ => rfl
  | o :: l, T => by
    unfold wipeT
    rw [wipe_len]
    cases o.dst <;> simp
theorem wipe_at : ∀ (l : List Oper) (T : List AV) (j : Nat) {u : AV}, (wipeT l T)[j]? = some u → u = .top ∨ ((∀ o ∈ l, o.dst ≠ some j) ∧ T[j]? = some u)
  | [], T, j, u, e => .inr ⟨fun o ho => (by cases ho), e⟩
  | o :: l, T, j, u, e => by
    unfold wipeT at e
    rcases wipe_at l _ j e with h | ⟨h1, h2⟩
    · exact .inl h
    · cases hd : o.dst with
      | none =>
        rw [hd] at h2
        exact .inr ⟨fun o' ho' => (List.mem_cons.1 ho').elim (fun h => by rw [h, hd]; simp) (h1 o'), h2⟩
      | some d =>
        rw [hd] at h2
        simp only at h2
        by_cases hdj : d = j
        · subst hdj
          left
          have := List.getElem?_set_self (l := T) (i := d) (a := AV.top) (by
            have := (List.getElem?_eq_some_iff.1 h2).1
            simpa using this)
          rw [this] at h2
          exact (Option.some.inj h2).symm
        · rw [List.getElem?_set_ne hdj] at h2
          exact .inr ⟨fun o' ho' => (List.mem_cons.1 ho').elim (fun h => by rw [h, hd]; simpa using hdj) (h1 o'), h2⟩

theorem opsW_drawn (hok : Okay P) (hcall : CallSound P call) {base : Base} (hdraw : drawOK all = true)
    {T₀ : List AV} {s₀ : Hs} {n₀ : Nat} {a : Act} {cs : List Frame} {c : Cx} (h : opsW P pol (bindK call) fn all (aheadOf all) all.toList 0 n₀ [] ⟨T₀, s₀⟩ k kp = some out) (hkp : ∀ v st, kp v st = some out → panOK P pol fn all = true) (hF : Fr base c s₀ a.defers cs) (hS : SlotsR c T₀ a.tmps) (t : Nat) (Q : Post)
    (hQ : ∀ st' c' a' cs', k st' = some out → Evol c c' → Fr base c' st'.s a'.defers cs' → SlotsG c' st'.T a'.tmps → (∀ (j : Nat) js v, st'.T[j]? = some (.gd js v) → anyGuard all.toList = true) → Q .normal a' cs' c'.w)
    (hQp : ∀ v st' x c' a' cs', kp v st' = some out → Evol c c' → Fr base c' st'.s a'.defers cs' → SlotsR c' (wipeT all.toList st'.T) a'.tmps → VR c' v x → Q (.panic [{ v := x, recovered := false }]) a' cs' c'.w) :
    Runs P base.kind [.inRegion all (Region.linearise .any all t)] Q a cs c.w := by
  have hs := drawOK_spec hdraw
  obtain ⟨E, T, s, u, ps, q, n, _, hEs, e1, e2, _, _, ht, hend⟩ := trace_exists (all := all) all.size 0 (by simp) (by simpa using h)
  subst e1; subst e2
  have hT0 : ∀ (j : Nat) js v, (T 0)[j]? ≠ some (.gd js v) := by
    intro j js v e
    have hj : j < a.tmps.size := by rw [hS.size]; exact (List.getElem?_eq_some_iff.1 e).1
    exact absurd (hS.at' j _ _ e (Array.getElem?_eq_getElem hj)) VR.not_gd
  have none_li : ∀ j, ¬ Li (Array.replicate all.size false) j := by
    intro j hj
    unfold Li at hj
    simp only [Array.getD_eq_getD_getElem?, Array.getElem?_replicate] at hj
    split at hj <;> simp at hj
  have hI : Inv base all E (T 0) s u q c (Array.replicate all.size false) c a cs := by
    refine ⟨Evol.refl c, by simp, fun i hi => absurd hi (none_li i), ⟨T 0, hS.toG, rfl, fun j d hj => absurd hj (none_li j), fun d _ => rfl⟩, fun j hj => absurd hj (none_li j), fun j hj => absurd hj (none_li j), ⟨s 0, hF, rfl, rfl, fun m i hi hc => text_at hEs ht 0 m i (Nat.zero_le _) hi fun e _ hlt hm => none_li e ((hc e (by omega) hm).1 hlt),
      fun m i hi hc => text_kd hEs ht 0 m i (Nat.zero_le _) hi fun e _ hlt hm => none_li e ((hc e (by omega) hm).1 hlt)⟩⟩
  have hsz : ∀ l : List Nat, (l.filter fun i => !(Array.replicate all.size false).getD i false).length ≤ l.length := fun l => List.length_filter_le _ _
  rcases hend with ⟨rfl, hfin⟩ | ⟨hlt, o, js, v, s', ho, hmp, hg, hh, hkv, hdet⟩
  · refine draw_go hok hcall hs hEs ht hT0 (fun j h1 h2 => by omega) Q (fun L c' a' cs' rest o hI' ho => by rw [Array.getElem?_eq_none (Nat.le_refl _)] at ho; cases ho) (fun L c' a' cs' hI' hall => ?_) all.size t hI (by simpa using hsz (List.range all.size))
    obtain ⟨TL, hS', hTl, hW, hN⟩ := hI'.sl
    obtain ⟨sD, hF', hsD⟩ := hI'.st
    obtain ⟨x1, x2, x3⟩ := text_slots hs hEs ht all.size (Nat.le_refl _)
    have hall' : ∀ {j d}, dstAt all j = some d → j < all.size := fun h => by
      obtain ⟨o, h1, _⟩ := Option.bind_eq_some_iff.1 h
      exact (Array.getElem?_eq_some_iff.1 h1).1
    have hTT : TL = T all.size := by
      apply List.ext_getElem?
      intro d
      by_cases hex : ∃ j, dstAt all j = some d
      · obtain ⟨j, hj⟩ := hex
        have hjs := hall' hj
        rcases Nat.lt_or_ge d (T 0).length with hl | hl
        · rw [hW j d (hall j hjs) hj hl, x2 j d hjs hj hl]
        · rw [List.getElem?_eq_none (by omega), List.getElem?_eq_none (by omega)]
      · rw [hN d fun j hj => absurd ⟨j, hj⟩ hex, x3 d fun j _ hj => hex ⟨j, hj⟩]
    have hsn : s all.size = sD := near_all hEs ht hsD fun e he _ => hall e he
    rw [hTT] at hS'
    refine hQ _ c' a' cs' hfin hI'.ev (by rw [hsn]; exact hF') hS' fun j js v e => ?_
    simp only at e
    rw [← hTT] at e
    by_cases hex : ∃ j', dstAt all j' = some j
    · obtain ⟨j', hj'⟩ := hex
      have hl : j < (T 0).length := by rw [← hTl]; exact (List.getElem?_eq_some_iff.1 e).1
      have hlj := hall j' (hall' hj')
      rw [hW j' j hlj hj' hl] at e
      exact (hI'.gd j' hlj js v (Option.some.inj e)).1
    · rw [hN j fun j' h1 => absurd ⟨j', h1⟩ hex] at e
      exact absurd e (hT0 j js v)
  · refine draw_go hok hcall hs hEs ht hT0 (panOK_spec (hkp _ _ hkv) ho hmp).1 Q (fun L c' a' cs' rest o' hI' ho' hni hrd => ?_) (fun L c' a' cs' hI' hall => absurd (hI'.lt E (hall E hlt)) (Nat.lt_irrefl E)) all.size t hI (by simpa using hsz (List.range all.size))
    rw [ho] at ho'
    cases ho'
    refine draw_pan hok hcall hs hEs ht hI' rfl ho hni hrd rest Q hg hh hdet (fun e he h0 => (panOK_spec (hkp _ _ hkv) ho hmp).2 e he (touch_eff hEs ht he h0)) fun c'' x a'' cs'' hE hF' ⟨TL, hS', hTl, hN⟩ hv => hQp v _ x c'' a'' cs'' hkv hE hF' ?_ hv
    obtain ⟨x1, x2, x3⟩ := text_slots hs hEs ht E (Nat.le_refl _)
    refine ⟨by rw [wipe_len, hS'.size, x1, hTl], fun j w y e1 e2 => ?_⟩
    rcases wipe_at _ _ _ e1 with rfl | ⟨hnd, e1⟩
    · exact .top y
    · have hnd' : ∀ j', dstAt all j' ≠ some j := fun j' he => by
        obtain ⟨o', h1, h2⟩ := Option.bind_eq_some_iff.1 he
        exact hnd o' (by simpa using Array.mem_of_getElem? h1) h2
      rw [x3 j fun j' _ => hnd' j'] at e1
      have := hS'.at' j w y (by rw [hN j hnd']; exact e1) e2
      cases w with
      | gd js v => exact absurd e1 (hT0 j js v)
      | _ => exact this

end
end Go.Den
