/- Lemmas of the by-value machine and of the data that the contracts speak of: each holds under the hypotheses that it states. -/
import Derived.Test.YtmfdechkhdjebaaLvm5
set_option linter.unusedVariables false
set_option linter.unusedSimpArgs false
namespace Go.Lvm
variable {P : Program} {TT : Nat → Ty} {X : Fx} {st st' : St} {o : Oper} {d : Nat}
/-- What is taken of an operand. z: the width of a nil slice's elements. -/
def St.grab (st : St) (z : Nat) : Operand → Option (Bool × List C × St)
  | .const v => match v with
    | .slice none 0 0 => some (false, [.s true z []], st)
    | v => if v.oneCell' then some (false, [.v v], st) else none
  | .tmp t => st.take t
  | _ => none
theorem grab_conc {w : World} {a : Act} {g : Gh} (h : Conc X st w a g) {x : Operand} {z : Nat} {gg : Bool} {cs : List C} (hx : st.grab z x = some (gg, cs, st')) (i : Nat) (hi : g.bl (.hand i) = []) (hn : ∀ t, x = .tmp t → t < X.n) :
    ∃ g' us, Conc X st' w a g' ∧ a.eval x = pack gg us ∧ (gg = false → cs.length = 1) ∧ repL w (Z0 X.w0 X.F) cs us (g'.bl (.hand i)) ∧ (∀ j, j ≠ i → g'.bl (.hand j) = g.bl (.hand j)) ∧
      (∀ u, st'.var u = none ↔ st.var u = none) ∧ g'.ad = g.ad := by
  cases x with
  | tmp t => exact take_conc h hx i hi (hn t rfl)
  | const v =>
    simp only [St.grab] at hx
    split at hx
    · simp only [Option.some.injEq, Prod.mk.injEq] at hx
      obtain ⟨rfl, rfl, rfl⟩ := hx
      exact ⟨g, [.slice none 0 0], h, rfl, fun _ => rfl, repL_single.2 ⟨_, rfl, none, 0, rfl, by simp, by simp, rfl, hi⟩, fun _ _ => rfl, fun _ => Iff.rfl, rfl⟩
    · split at hx
      · rename_i hv
        simp only [Option.some.injEq, Prod.mk.injEq] at hx
        obtain ⟨rfl, rfl, rfl⟩ := hx
        exact ⟨g, [v], h, rfl, fun _ => rfl, repL_single.2 ⟨_, rfl, rfl, hv, hi⟩, fun _ _ => rfl, fun _ => Iff.rfl, rfl⟩
      · cases hx
  | _ => cases hx
theorem pack_cells {gg : Bool} {us : List Value} (h1 : gg = false → us.length = 1) (h2 : ∀ u ∈ us, u.oneCell' = true) : (pack gg us).cells.toList = us := by
  cases gg with
  | true => simp [pack, Value.cells]
  | false =>
    have := h1 rfl
    cases us with
    | nil => simp at this
    | cons u us =>
      have : us = [] := by simpa using this
      subst this
      have := h2 u (by simp)
      cases u <;> simp [Value.oneCell'] at this <;> simp [pack, Value.cells]
/-! ### store -/
theorem store_does {t : TypeId} {p : Nat} {x : Operand} {z : Nat} {gg : Bool} {cs cs0 cs1 : List C} {r : Rt} {off : Nat} {ps : Pth} (ho : o.op = .store t (.tmp p) x) (hd : o.dst = none) (hT : TyOK P t (TT t))
    (hx : st.grab z x = some (gg, cs, st')) (hn : ∀ t, x = .tmp t → t < X.n) (hl : cs.length = (TT t).size) (he : st'.env p = .ptr r off ps) (hc : st'.cells r = some cs0) (hs : setC cs0 off ps cs = some cs1) :
    Does P X o st ((st'.setRoot r cs1).touch r) := by
  intro w a ⟨g, h, hh⟩
  right
  obtain ⟨g1, us, h1, hv, hg, hr, hj, _, _⟩ := grab_conc h hx 0 (hh 0) hn
  have henv := h1.env p
  rw [he] at henv
  obtain ⟨b, pp, us', arr, T, e1, e2, e3, g2, h2, h3, h4⟩ := h1.store 0 hc hs henv.1 hr
  have hul := repL_len hr
  have hlen0 : getC cs0 off ps 0 ≠ none := by
    have : getC cs0 off ps cs.length ≠ none := by
      obtain ⟨pre, bs, hbl, hrep, hnd, _⟩ := h1.cells_root hc
      obtain ⟨_, _, _, _, _, _, _, _, _, ⟨sub, hsub, _⟩, _⟩ := set_ok ps 0 0 off hrep hs hnd
      rw [hsub]; simp
    exact getC_zero ps this
  obtain ⟨b0, p0, us0, e4, e5⟩ := henv.2 cs0 hc hlen0
  rw [e1] at e4
  simp only [Option.some.injEq, Prod.mk.injEq] at e4
  obtain ⟨rfl, rfl, rfl⟩ := e4
  obtain ⟨i, zz, hi, hsz, _⟩ := hT.info
  have hcells : (pack gg us).cells.toList = us := pack_cells (fun hf => by rw [hul]; exact hg hf) (repL_one hr)
  have hcs : (pack gg us).cells.size = (TT t).size := by rw [← Array.length_toList, hcells, hul, hl]
  have hst := run_storeCells_at P b pp T us 0 arr w e2 (by omega) (repL_one hr)
  refine ⟨w.setRow b (lput arr.toList pp us).toArray, ?_, ?_⟩
  · have ep : a.eval (.tmp p) = .pointer (some ⟨b, pp, none⟩) := e5
    simp only [execOp, ho, ep, hv, Instr.storeAt, Instr.sureAddr, Sem.run_bind, Sem.run_pure, Result.andThen_ok, storeVar, sizeOf, typeInfo, run_program, hi, hsz, hcs, hcells]
    simp only [ne_eq, not_true_eq_false, if_false, Sem.run_bind, Sem.run_pure, Result.andThen_ok]
    rw [hst]
    simp [lput]
  · rw [hd]
    refine ⟨g2, h2, fun i => ?_⟩
    by_cases hi : i = 0
    · subst hi; exact h3
    · rw [h4 i hi, hj i hi]; exact hh i
/-! ### variables -/
theorem zeroOf_rep {W : World} {Z : Nat → Prop} : ∀ {cs : List C} {us : List Value}, zeroOf cs us = true → repL W Z cs us []
  | [], [], _ => ⟨rfl, rfl⟩
  | [], u :: us, h => by simp [zeroOf] at h
  | .v x :: cs, [], h => by simp [zeroOf] at h
  | .d :: cs, us, h => by cases us <;> simp [zeroOf] at h
  | .s o z xs :: cs, [], h => by simp [zeroOf] at h
  | .v x :: cs, u :: us, h => by
    simp only [zeroOf, Bool.and_eq_true] at h
    refine ⟨u, us, [], [], rfl, rfl, ?_, zeroOf_rep h.2⟩
    have h1 := h.1
    cases x <;> cases u <;> simp at h1
    · subst h1; exact ⟨rfl, rfl, rfl⟩
    · obtain ⟨rfl, rfl⟩ := h1; exact ⟨rfl, rfl, rfl⟩
    · subst h1; exact ⟨rfl, rfl, rfl⟩
  | .s o z xs :: cs, u :: us, h => by
    cases o with
    | false => simp [zeroOf] at h
    | true =>
      cases xs with
      | cons x xs => simp [zeroOf] at h
      | nil =>
        have hu : u = .slice none 0 0 ∧ zeroOf cs us = true := by
          unfold zeroOf at h
          split at h <;> simp_all
        obtain ⟨rfl, h⟩ := hu
        exact ⟨_, us, [], [], rfl, rfl, ⟨none, 0, rfl, by simp, by simp, rfl, rfl⟩, zeroOf_rep h⟩
theorem born_R {w : World} {a : Act} {g : Gh} {cs : List C} {us : List Value} {T : TypeId} (h : Conc X st w a g) (hd : X.ok d) (hio : X.io d = none) (i : Nat) (hr : repL w (Z0 X.w0 X.F) cs us (g.bl (.hand i))) (hh : ∀ j, j ≠ i → g.bl (.hand j) = []) :
    R X (st.born d cs) (w.alloc (.cells us.toArray T)) (a.put (some d) (.pointer (some ⟨w.heap.size, 0, none⟩))) := by
  obtain ⟨g', h', h1, h2⟩ := h.born hd hio i T hr
  refine ⟨g', h', fun j => ?_⟩
  by_cases hj : j = i
  · subst hj; exact h1
  · rw [h2 j hj]; exact hh j hj
theorem alloc_does {t : TypeId} (ho : o.op = .alloc t) (hT : TyOK P t (TT t)) (hd : o.dst = some d) (hlt : X.ok d) (hio : X.io d = none) : Does P X o st (st.born d (TT t).zero) := by
  intro w a ⟨g, h, hh⟩
  left
  obtain ⟨i, z, hi, _, _, hz, hzo, _⟩ := hT.info
  have hrep : repL w (Z0 X.w0 X.F) (TT t).zero z.cells.toList (g.bl (.hand 0)) := by rw [hh 0]; exact zeroOf_rep hzo
  refine ⟨.pointer (some ⟨w.heap.size, 0, none⟩), w.alloc (.cells z.cells t), ?_, ?_⟩
  · simp only [execOp, ho, Instr.alloc, Sem.run_bind, zeroValue, typeInfo, run_program, hi, hz, Sem.run_pure, Result.andThen_ok, newVar, newRow, run_newObj]
    rfl
  · rw [hd]
    have := born_R (T := t) h hlt hio 0 hrep (fun j _ => hh j)
    simpa using this
theorem box_does {t : TypeId} {x : Operand} {z : Nat} {gg : Bool} {cs : List C} (ho : o.op = .box t x) (hd : o.dst = some d) (hlt : X.ok d) (hio : X.io d = none) (hx : st.grab z x = some (gg, cs, st')) (hn : ∀ t, x = .tmp t → t < X.n) :
    Does P X o st (st'.born d cs) := by
  intro w a ⟨g, h, hh⟩
  left
  obtain ⟨g1, us, h1, hv, hg, hr, hj, _, _⟩ := grab_conc h hx 0 (hh 0) hn
  have hul := repL_len hr
  have hcells : (pack gg us).cells.toList = us := pack_cells (fun hf => by rw [hul]; exact hg hf) (repL_one hr)
  refine ⟨.pointer (some ⟨w.heap.size, 0, none⟩), w.alloc (.cells (pack gg us).cells t), ?_, ?_⟩
  · simp only [execOp, ho, hv, Instr.box, Sem.run_bind, newVar, newRow, run_newObj, Sem.run_pure, Result.andThen_ok]
    rfl
  · rw [hd]
    have := born_R (T := t) h1 hlt hio 0 hr (fun j hj' => by rw [hj j hj']; exact hh j)
    have e : us.toArray = (pack gg us).cells := (congrArg List.toArray hcells.symm).trans (Array.toArray_toList)
    rw [e] at this
    exact this
end Go.Lvm
