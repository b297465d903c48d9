/- The row of a law. -/
import Derived.Test.YtbiklmpkkbncgaaGreatDenBridge2
import Derived.Test.YtbiklmpkkbncgaaGreatDenLimit
import Derived.JoinedCond
set_option linter.unusedSimpArgs false
set_option linter.unusedVariables false
set_option linter.unnecessarySimpa false
namespace Go.Den
open Go Go.ChangeShapes Go.WideShapes Go.ChangeAt Go.RowKit

section
variable {H : Type} {enc : TypeId × Value → H} {P : Program}

theorem trodAll_below (hl : laidOutB P = true) {W W' : World} (hB : Below W.heap.size W W') : ∀ {ts : List TypeId} {vs : List Value} {ds : List (DataW H)} {ps : List MemPlace},
    (∀ t ∈ ts, P.readableRec t = true ∧ t < P.types.size) → DataW.TrodAll enc P W 0 (fun _ => true) true ts vs ds ps → (∀ x ∈ ps, x.block < W.heap.size) →
    DataW.TrodAll enc P W' 0 (fun b => decide (b < W.heap.size)) true ts vs ds ps
  | [], [], [], _, _, h, _ => h
  | t :: ts, v :: vs, d :: ds, _, hr, h, hlt => by
    obtain ⟨p, q, h1, h2, rfl⟩ := h
    obtain ⟨r1, r2⟩ := hr t (List.mem_cons_self ..)
    exact ⟨p, q, Below.trod hl r1 r2 h1 hB (fun x hx => hlt x (List.mem_append_left _ hx)),
      trodAll_below hl hB (fun t ht => hr t (List.mem_cons_of_mem _ ht)) h2 (fun x hx => hlt x (List.mem_append_right _ hx)), rfl⟩
  | [], [], _ :: _, _, _, h, _ => h.elim
  | [], _ :: _, _, _, _, h, _ => h.elim
  | _ :: _, [], _, _, _, h, _ => h.elim
  | _ :: _, _ :: _, [], _, _, h, _ => h.elim

theorem trodAll_len {W : World} : ∀ {ts : List TypeId} {vs : List Value} {ds : List (DataW H)} {ps : List MemPlace}, DataW.TrodAll enc P W 0 (fun _ => true) true ts vs ds ps → ds.length = ts.length := by
  intro ts
  induction ts with
  | nil => intro vs ds ps h; cases vs <;> cases ds <;> first | rfl | exact h.elim
  | cons t ts ih =>
    intro vs ds ps h
    cases vs <;> cases ds <;> first | exact h.elim | (obtain ⟨_, _, _, h2, _⟩ := h; simp [ih h2])

/-- what is left is what the row says -/
theorem law_post {C : Checked} {f : FuncId} {fn : Func} {s : ChangeSpec} {tb : TypeId} {B : DataW H → Nat} {BA : List (DataW H) → Nat} (hB : BulkB B BA)
    (hok : Okay C.prog) {call : CallO} (hcall : CallSound C.prog call)
    (hs : ∀ t ∈ fn.params.toList, ∃ S, flatSet C.prog S = true ∧ t ∈ S)
    (hl : laidOutB C.prog = true) (hr : ∀ t ∈ fn.params.toList, C.prog.readableRec t = true ∧ t < C.prog.types.size) (hvars : s.vars = [])
    (hspec : ∀ ds : List (DataW H), ds.length = fn.params.toList.length → s.fn H ds = { results := [.lit (.bool true)], args := ds }) (hres : fn.resultTypes = #[tb]) (htb : C.prog.underlying tb = some .bool)
    {W : World} {base : Nat} {args : Array Value} {ds gs : List (DataW H)} {before : List MemPlace} (hlaw : gs = [] → ∀ as, TypedArgs C.prog fn.params.toList (BA ds) as → call f as [] .plain = some (.ret (.bool true) [] .plain))
    (hval : ∀ (j : Nat) t v, fn.params[j]? = some t → args[j]? = some v → Value.okWide C.prog W .any base t v)
    (hW : DataW.Whole enc C.prog fn.params.toList s.vars false W args.toList ds gs before) :
    Calls C.prog f args W fun e W' => ∃ v, e = .returned v ∧ s.post enc C.prog fn false true false false W args v W' := by
  have hW' := hW
  obtain ⟨p, q, hA, hV, rfl, hfz, hnd⟩ := hW
  rw [hvars] at hV
  obtain ⟨rfl, rfl⟩ := trodVars_none hV
  refine (law_calls hB hok hcall (hlaw rfl) hA (fun j t v e1 e2 => hval j t v (by simpa using e1) e2) hs).mono fun e W' ⟨he, hB'⟩ => ?_
  subst he
  have hfn' : s.fn H (ds ++ []) = { results := [.lit (.bool true)], args := ds } := by rw [List.append_nil]; exact hspec ds (trodAll_len hA)
  refine ⟨_, rfl, ds, [], _, [], p, [], hW', ?_, ?_, ?_, hB'.frame _, fun h => by cases h⟩
  · rw [hfn', hres]
    exact trodAll_mk1 ⟨1, by simp [DataW.trod, htb, Value.cells]⟩
  · rw [hfn']
    exact trodAll_below hl hB' hr hA fun x hx => hW'.lt x (by simp [hx])
  · rw [hfn', hvars]
    exact rfl

theorem law_lifted {C : Checked} {os : Os} {f : FuncId} {fn : Func} {s : ChangeSpec} {tb : TypeId} {B : DataW H → Nat} {BA : List (DataW H) → Nat} (hB : BulkB B BA) (own : ownKnob C.prog.godebug = none) (started : os.Started) (noInit : C.prog.inits.idxOf? f = none) (hfn : C.prog.funcs[f]? = some fn)
    (witness : ∃ (w : World) (tape : Tape) (i : Input), w.os = os ∧ (w.forCall tape i).Shaped C.prog ∧ i.vars = [] ∧ Input.okWide C.prog (w.forCall tape i) .any w.heap.size f i ∧
      s.pre6 enc C.prog fn [] false (w.forCall tape i).memory i.args ∧ ({} : Assume).holds C.prog (lone (Frame.enter C.prog f i.args .normal) [] (w.forCall tape i)))
    (hok : Okay C.prog) {call : CallO} (hcall : CallSound C.prog call)
    (hlaw : ∀ as N, TypedArgs C.prog fn.params.toList N as → call f as [] .plain = some (.ret (.bool true) [] .plain)) (hs : ∀ t ∈ fn.params.toList, ∃ S, flatSet C.prog S = true ∧ t ∈ S)
    (hl : laidOutB C.prog = true) (hr : ∀ t ∈ fn.params.toList, C.prog.readableRec t = true ∧ t < C.prog.types.size) (hvars : s.vars = [])
    (hspec : ∀ ds : List (DataW H), ds.length = fn.params.toList.length → s.fn H ds = { results := [.lit (.bool true)], args := ds }) (hres : fn.resultTypes = #[tb]) (htb : C.prog.underlying tb = some .bool) :
    ReturnsInHanded {} C os f .any (s.pre6 enc C.prog fn [] false) (s.post enc C.prog fn false true false false) := by
  refine returnsInHanded_of_change (C := C) own started noInit hfn witness ?_
  intro W base args ds gs before hval hW _ _
  exact law_post hB hok hcall hs hl hr hvars hspec hres htb (fun _ as h => hlaw as _ h) hval hW

/-- the second form: what comes in holds at most so much -/
theorem law_upto {C : Checked} {os : Os} {f : FuncId} {fn : Func} {s : ChangeSpec} {so : OpenSpec} {k : (H : Type) → List (DataW H) → Bool} {F : Stop.Interp} {tb : TypeId} {B : DataW H → Nat} {BA : List (DataW H) → Nat} (hB : BulkB B BA)
    (hso : so = { OpenSpec.ofChange s with cond := some k }) {N : Nat} (hkN : ∀ ds, k H ds = true → BA ds ≤ N)
    (own : ownKnob C.prog.godebug = none) (started : os.Started) (noInit : C.prog.inits.idxOf? f = none) (hfn : C.prog.funcs[f]? = some fn)
    (witness : ∃ (w : World) (tape : Tape) (i : Input), w.os = os ∧ (w.forCall tape i).Shaped C.prog ∧ i.vars = [] ∧ Input.okWide C.prog (w.forCall tape i) .any w.heap.size f i ∧
      so.pre6 enc C.prog fn [] false (w.forCall tape i).memory i.args ∧ ({} : Assume).holds C.prog (lone (Frame.enter C.prog f i.args .normal) [] (w.forCall tape i)))
    (hok : Okay C.prog) {call : CallO} (hcall : CallSound C.prog call)
    (hlaw : ∀ as M, M ≤ N → TypedArgs C.prog fn.params.toList M as → call f as [] .plain = some (.ret (.bool true) [] .plain)) (hs : ∀ t ∈ fn.params.toList, ∃ S, flatSet C.prog S = true ∧ t ∈ S)
    (hl : laidOutB C.prog = true) (hr : ∀ t ∈ fn.params.toList, C.prog.readableRec t = true ∧ t < C.prog.types.size) (hvars : s.vars = [])
    (hspec : ∀ ds : List (DataW H), ds.length = fn.params.toList.length → s.fn H ds = { results := [.lit (.bool true)], args := ds }) (hres : fn.resultTypes = #[tb]) (htb : C.prog.underlying tb = some .bool) :
    ReturnsInHanded {} C os f .any (so.pre6 enc C.prog fn [] false) ((so.at F).post enc C.prog fn false true false false) := by
  subst hso
  refine returnsInHanded_of_cond (C := C) (s := { OpenSpec.ofChange s with cond := some k }) (k := k) rfl own started noInit hfn witness ?_
  intro W base args ds gs before hval hW _ hk _
  exact law_post hB hok hcall hs hl hr hvars hspec hres htb (fun hg as h => hlaw as _ (hkN _ (by subst hg; simpa using hk)) h) hval hW

theorem denA_sound {P : Program} (hok : Okay P) (pol : Pol) {ext : FuncId → Option CallO} (hext : CallSound P (extCall ext)) : CallSound P (denA P pol ext) := by
  intro f args h ps out e
  obtain ⟨k, hk⟩ := denA_to e
  exact den_sound hok pol hext k f args h ps out (hk k (Nat.le_refl k))

end
end Go.Den
