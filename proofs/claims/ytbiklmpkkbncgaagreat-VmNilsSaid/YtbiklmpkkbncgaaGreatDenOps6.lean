/- Slice expressions; slices that are made. -/
import Derived.Test.YtbiklmpkkbncgaaGreatDenOps5
import Derived.Lib.Strings
set_option linter.unusedSimpArgs false
set_option linter.unusedVariables false
set_option linter.unnecessarySimpa false
namespace Go.Den
open Go

section
variable {P : Program} {c : Cx} {s : Hs} {ρ : Operand → Value}

def IsInt (v : Value) (n : Nat) : Prop := ∃ k, v = .int k (n : Int)

theorem run_sliceBound {v : Value} {n y : Nat} {code : BoundsCode} {w : World} (h : IsInt v n) (hy : n ≤ y) : (Instr.sliceBound v y code).run P w = .ok n w := by
  obtain ⟨k, rfl⟩ := h
  simp only [Instr.sliceBound, asIntOf, Sem.run_bind, Sem.run_pure, Result.andThen_ok]
  rw [if_pos (by omega)]
  simp

theorem run_sliceBounds {is : Bool} {len cap l u m : Nat} {low high max : Option Value} {w : World}
    (hm : (max = none ∧ m = cap) ∨ (∃ v, max = some v ∧ IsInt v m ∧ m ≤ cap)) (hh : (high = none ∧ max = none ∧ u = len) ∨ (∃ v, high = some v ∧ IsInt v u ∧ u ≤ m))
    (hl : (low = none ∧ l = 0) ∨ (∃ v, low = some v ∧ IsInt v l ∧ l ≤ u)) : (Instr.sliceBounds is len cap low high max).run P w = .ok (l, u, m) w := by
  unfold Instr.sliceBounds
  rcases hm with ⟨rfl, rfl⟩ | ⟨vm, rfl, hm1, hm2⟩
  · rcases hh with ⟨rfl, _, rfl⟩ | ⟨vh, rfl, hh1, hh2⟩
    · rcases hl with ⟨rfl, rfl⟩ | ⟨vl, rfl, hl1, hl2⟩
      · simp
      · simp [run_sliceBound hl1 hl2]
    · rcases hl with ⟨rfl, rfl⟩ | ⟨vl, rfl, hl1, hl2⟩
      · simp [run_sliceBound hh1 hh2]
      · simp [run_sliceBound hh1 hh2, run_sliceBound hl1 hl2]
  · rcases hh with ⟨_, h, _⟩ | ⟨vh, rfl, hh1, hh2⟩
    · cases h
    · rcases hl with ⟨rfl, rfl⟩ | ⟨vl, rfl, hl1, hl2⟩
      · simp [run_sliceBound hm1 hm2, run_sliceBound hh1 hh2]
      · simp [run_sliceBound hm1 hm2, run_sliceBound hh1 hh2, run_sliceBound hl1 hl2]

theorem bnd_int {e : Operand → AV} {v : Option Operand} {d i : Int} {y : Operand} (h : bnd e v d = some i) (hv : v = some y) (hy : VR c (e y) (ρ y)) (h0 : 0 ≤ i) : IsInt (ρ y) i.toNat := by
  subst hv
  simp only [bnd, idxOf] at h
  split at h
  · rename_i k n ey
    cases h
    rw [ey] at hy
    exact ⟨k, by rw [hy.int_inv]; congr 1; omega⟩
  · cases h

theorem slice_str (hr : RelH c) (hs : c.h = s.h) {o : Oper} {t : TypeId} {x : Operand} {lo hi : Option Operand} {e : Operand → AV} {b : List UInt8} {l u : Int} (ho : o.op = .slice t x lo hi none)
    (ht : P.underlying t = some .string) (hx : VR c (.str b) (ρ x)) (he : ∀ y, lo = some y ∨ hi = some y → VR c (e y) (ρ y)) (hl : bnd e lo 0 = some l) (hu : bnd e hi (b.length : Int) = some u)
    (h0 : 0 ≤ l) (h1 : l ≤ u) (h2 : u ≤ b.length) : Gives P ρ o c s (.str ((b.take u.toNat).drop l.toNat)) s := by
  obtain ⟨bs, e1, hb⟩ := hx.str_inv
  subst hb
  have hsz : bs.data.toList.length = bs.size := by simp
  have hrun : (Instr.sliceBounds false bs.size bs.size (lo.map ρ) (hi.map ρ) none).run P c.w = .ok (l.toNat, u.toNat, bs.size) c.w := by
    refine run_sliceBounds (.inl ⟨rfl, rfl⟩) ?_ ?_
    · cases hi with
      | none => simp only [bnd, Option.some.injEq] at hu; exact .inl ⟨rfl, rfl, by omega⟩
      | some y => exact .inr ⟨_, rfl, bnd_int hu rfl (he y (.inr rfl)) (by omega), by omega⟩
    · cases lo with
      | none => simp only [bnd, Option.some.injEq] at hl; exact .inl ⟨rfl, by omega⟩
      | some y => exact .inr ⟨_, rfl, bnd_int hl rfl (he y (.inl rfl)) h0, by omega⟩
  refine ⟨.string (bs.extract l.toNat u.toNat), c, ?_, Step.refl hr hs, .str _ _ ?_⟩
  · simp only [execOp, ho, Sem.run_bind, Instr.sliceAt, run_underlying ht, Result.andThen_ok, Instr.slice, e1, Option.map_none, Option.isSome_none, Bool.false_eq_true, if_false, Sem.run_pure, hrun]
  · rw [ByteArray.data_extract, Array.toList_extract, List.extract_eq_take_drop, List.take_drop]
    congr 2
    omega

theorem slice_sl (hr : RelH c) (hs : c.h = s.h) {o : Oper} {t el : TypeId} {x : Operand} {lo hi mx : Option Operand} {e : Operand → AV} {z n : Nat} {tk : Tok} {f : Fin n → Row} {l u m : Int}
    (ho : o.op = .slice t x lo hi mx) (ht : P.underlying t = some (.slice el)) (hx : VR c (.sl z tk n f) (ρ x)) (he : ∀ y, lo = some y ∨ hi = some y ∨ mx = some y → VR c (e y) (ρ y))
    (hl : bnd e lo 0 = some l) (hu : bnd e hi (n : Int) = some u) (hm : bnd e mx (-1) = some m) (hb : 0 ≤ l ∧ l ≤ u ∧ u ≤ n) (hz : sized P el z = true)
    (hmx : ∀ y, mx = some y → hi.isSome = true ∧ m = u) :
    Gives P ρ o c s (.sl z (if mx.isSome then .tight else .no) (u.toNat - l.toNat) fun j => f ⟨l.toNat + j.1, by omega⟩) s := by
  generalize hρ : ρ x = y at hx
  cases hx with
  | sl _ _ _ _ a cap val h1 h2 h3 h4 h5 h6 h7 h8 h9 =>
    have hrun : (Instr.sliceBounds true n cap (lo.map ρ) (hi.map ρ) (mx.map ρ)).run P c.w = .ok (l.toNat, u.toNat, if mx.isSome then u.toNat else cap) c.w := by
      refine run_sliceBounds ?_ ?_ ?_
      · cases mx with
        | none => exact .inl ⟨rfl, rfl⟩
        | some y =>
          obtain ⟨_, rfl⟩ := hmx y rfl
          exact .inr ⟨_, rfl, bnd_int hm rfl (he y (.inr (.inr rfl))) (by omega), by simp; omega⟩
      · cases hi with
        | none =>
          simp only [bnd, Option.some.injEq] at hu
          cases mx with
          | none => exact .inl ⟨rfl, rfl, by omega⟩
          | some y => have := (hmx y rfl).1; cases this
        | some y => exact .inr ⟨_, rfl, bnd_int hu rfl (he y (.inr (.inl rfl))) (by omega), by split <;> omega⟩
      · cases lo with
        | none => simp only [bnd, Option.some.injEq] at hl; exact .inl ⟨rfl, by omega⟩
        | some y => exact .inr ⟨_, rfl, bnd_int hl rfl (he y (.inl rfl)) hb.1, by omega⟩
    generalize hM : (if mx.isSome then u.toNat else cap) = M at hrun
    have hMu : u.toNat ≤ M := by rw [← hM]; split <;> omega
    refine ⟨.slice (if M = l.toNat then a else a.map (·.add (l.toNat * z))) (u.toNat - l.toNat) (M - l.toNat), c, ?_, Step.refl hr hs, ?_⟩
    · simp only [execOp, ho, Sem.run_bind, Instr.sliceAt, run_underlying ht, Result.andThen_ok, Instr.slice, hρ, hrun, run_sized hz, Sem.run_pure]
    · refine .sl z _ _ _ _ _ (fun i j => val (l.toNat + i) j) (by omega) (fun et => ?_) (fun i => h3 _) (fun i => h4 _) (fun ea => ?_) (fun ad ea hp0 => ?_) (fun i j hj ad ea => ?_) (fun i j u hu => h8 _ _ _ hu)
        (fun i ei => by split at ei <;> cases ei)
      · cases hms : mx.isSome with
        | true => rw [← hM, hms]; simp
        | false => rw [hms] at et; cases et
      · have : a = none := by
          split at ea
          · exact ea
          · simpa using ea
        have h0 := h5 this
        have : cap = 0 := h0.2
        refine ⟨by omega, ?_⟩
        rw [← hM]; split <;> omega
      · have hpos := hp0
        split at ea
        · exact h6 ad ea (by rw [← hM] at hpos; split at hpos <;> omega)
        · cases a with
          | none => cases ea
          | some ad' =>
            simp only [Option.map_some, Option.some.injEq] at ea
            subst ea
            have := h6 ad' rfl (by rw [← hM] at hpos; split at hpos <;> omega)
            obtain ⟨b, q, sp⟩ := ad'
            simp only at this
            subst this
            rw [add_addr]
      · have hi : i.1 < u.toNat - l.toNat := i.2
        rw [if_neg (by omega)] at ea
        cases a with
        | none => cases ea
        | some ad' =>
          simp only [Option.map_some, Option.some.injEq] at ea
          subst ea
          have hsp := h6 ad' rfl (by omega)
          have h := h7 ⟨l.toNat + i.1, by omega⟩ j hj ad' rfl
          obtain ⟨b, q, sp⟩ := ad'
          simp only at hsp
          subst hsp
          rw [add_addr]
          simp only at h ⊢
          have e1 : q + l.toNat * z + i.1 * z + j = q + (l.toNat + i.1) * z + j := by rw [Nat.add_mul]; omega
          rw [e1]
          exact h

theorem slice_sr (hr : RelH c) (hs : c.h = s.h) {o : Oper} {t el : TypeId} {x : Operand} {lo hi : Option Operand} {e : Operand → AV} {id gen off len z n : Nat} {f : Fin n → Row} {l u : Int}
    (ho : o.op = .slice t x lo hi none) (ht : P.underlying t = some (.slice el)) (hx : VR c (.sr id gen off len) (ρ x)) (he : ∀ y, lo = some y ∨ hi = some y → VR c (e y) (ρ y))
    (hl : bnd e lo 0 = some l) (hu : bnd e hi (len : Int) = some u) (hb : 0 ≤ l ∧ l ≤ u ∧ u ≤ len) (hz : sized P el z = true) (hob : s.h[id]? = some (.arr z gen n f)) :
    Gives P ρ o c s (.sr id gen (off + l.toNat) (u.toNat - l.toNat)) s := by
  rw [← hs] at hob
  have hgi : id < c.g.length := by rw [hr.len]; exact (List.getElem?_eq_some_iff.1 hob).1
  have hg : c.g[id]? = some c.g[id] := List.getElem?_eq_getElem hgi
  generalize c.g[id] = gh at hg
  have hO := hr.obj id _ gh hob hg
  cases gh with
  | blk b =>
    generalize hρ : ρ x = y at hx
    cases hx with
    | sr _ _ _ _ a cap hlt hc hn ha hsz =>
      have hrun : (Instr.sliceBounds true len cap (lo.map ρ) (hi.map ρ) none).run P c.w = .ok (l.toNat, u.toNat, cap) c.w := by
        refine run_sliceBounds (.inl ⟨rfl, rfl⟩) ?_ ?_
        · cases hi with
          | none => simp only [bnd, Option.some.injEq] at hu; exact .inl ⟨rfl, rfl, by omega⟩
          | some y => exact .inr ⟨_, rfl, bnd_int hu rfl (he y (.inr rfl)) (by omega), by omega⟩
        · cases lo with
          | none => simp only [bnd, Option.some.injEq] at hl; exact .inl ⟨rfl, by omega⟩
          | some y => exact .inr ⟨_, rfl, bnd_int hl rfl (he y (.inl rfl)) hb.1, by omega⟩
      refine ⟨.slice (if cap = l.toNat then a else a.map (·.add (l.toNat * z))) (u.toNat - l.toNat) (cap - l.toNat), c, ?_, Step.refl hr hs, .sr _ _ _ _ _ _ hlt (by omega) ⟨fun e => ?_, fun ad e => ?_⟩ (fun b' o' e' hpos => ?_) fun z' s' e' => ?_⟩
      · simp only [execOp, ho, Sem.run_bind, Instr.sliceAt, run_underlying ht, Result.andThen_ok, Instr.slice, hρ, Option.map_none, hrun, run_sized hz, Sem.run_pure]
      · split at e
        · omega
        · cases a with
          | none => have := hn.1 rfl; omega
          | some ad => cases e
      · split at e
        · exact hn.2 ad e
        · cases a with
          | none => cases e
          | some ad' =>
            cases e
            simp only [Addr.add]
            split
            · exact hn.2 ad' rfl
            · rfl
      · have e1 := ha b (off * z + 0) (by simp [Cx.adr, hob, hg]) (by omega)
        subst e1
        rw [if_neg (by omega)]
        simp [Cx.adr, hob, hg] at e'
        obtain ⟨rfl, rfl⟩ := e'
        simp [add_addr, Nat.add_mul]
      · by_cases h : l.toNat ≤ cap
        · have := hsz z' s' e'
          rwa [show off + l.toNat + (cap - l.toNat) = off + cap from by omega]
        · omega
  | none => exact hO.elim
  | tk => exact hO.elim

end
end Go.Den
