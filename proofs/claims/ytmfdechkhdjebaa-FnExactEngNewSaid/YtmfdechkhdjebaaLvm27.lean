/- Lemmas of the by-value machine and of the data that the contracts speak of: each holds under the hypotheses that it states. -/
import Derived.Test.YtmfdechkhdjebaaLvm26
set_option linter.unusedVariables false
set_option linter.unusedSimpArgs false
namespace Go.Lvm
variable {P : Program} {TT : Nat → Ty} {X : Fx} {E : Ev} {st st' : St} {o : Oper} {d : Nat} {ops : Array Oper} {Q : Ex → St → Prop}
/-! ### A lent argument in a variable -/
theorem Conc.born2 {X : Fx} {st : St} {w : World} {a : Act} {g : Gh} (h : Conc X st w a g) {d : Nat} (hd : X.ok d) (hio : X.io d = none) (i : Nat) {cs : List C} {us : List Value} (T : TypeId)
    (hr : repL w (Z0 X.w0 X.F) cs us (g.bl (.hand i))) :
    ∃ g', Conc X (st.born d cs) (w.alloc (.cells us.toArray T)) (a.put (some d) (.pointer (some ⟨w.heap.size, 0, none⟩))) g' ∧ g'.bl (.hand i) = [] ∧ (∀ j, j ≠ i → g'.bl (.hand j) = g.bl (.hand j)) ∧ g'.us (.var d) = us ∧ g'.bl (.slot d) = [] ∧ ∀ t, t ≠ d → g'.bl (.slot t) = g.bl (.slot t) := by
  have hkw : Keeps X.F X.w0 (w.alloc (.cells us.toArray T)) := h.keeps.trans (Keeps.alloc X.F w _) (fun x hx => .inl hx)
  have hlt : ∀ r, ∀ b ∈ g.bl r, b < w.heap.size := fun r b hb => (h.own.ok r b hb).2
  have hsame : ∀ b, b < w.heap.size → (w.alloc (.cells us.toArray T)).heap[b]? = w.heap[b]? := fun b hb => Go.RowKit.Below.heap_alloc _ _ _ hb
  have h2 := h.world hkw (by simp) (fun r _ b hb => hsame b (hlt r b hb))
  have hz : ∀ x, Z0 X.w0 X.F x → Z0 X.w0 X.F x ∧ (w.alloc (.cells us.toArray T)).heap[x]? = w.heap[x]? := fun x hx => ⟨hx, hsame x (Nat.lt_of_lt_of_le hx.1 h.keeps.size)⟩
  have hr2 := repL_frame (W' := w.alloc (.cells us.toArray T)) (Z' := Z0 X.w0 X.F) cs hr (fun b hb => hsame b (hlt _ b hb)) hz
  let bl : Rt → List Nat := fun r => if r = .var d then w.heap.size :: g.bl (.hand i) else if r = .slot d then [] else if r = .hand i then [] else g.bl r
  let g' : Gh := { us := fun r => if r = .var d then us else g.us r, ad := fun t => if t = d then w.heap.size else g.ad t, pre := fun t => if t = d then [] else g.pre t, post := fun t => if t = d then [] else g.post t, bl := bl }
  have hgs : ∀ r, r ≠ .var d → r ≠ .slot d → (∀ j, r ≠ .hand j) → g'.bl r = g.bl r ∧ g'.us r = g.us r ∧ g'.at_ r = g.at_ r := by
    intro r h1 h2 h3
    refine ⟨by show bl r = _; simp [bl, h1, h2, h3 i], by simp [g', h1], ?_⟩
    cases r with
    | var t =>
      have : t ≠ d := fun e => h1 (by rw [e])
      simp [Gh.at_, g', this]
    | _ => rfl
  have hown : Own X.F X.w0.heap.size (w.heap.size + 1) bl := by
    refine Own.step h.own (by omega) h.keeps.size (.var d) (fun r => ?_) (fun r b hr hb => ?_) (fun b hb => ?_)
    · simp only [bl]
      split
      · exact List.nodup_cons.2 ⟨fun hm => by have := hlt _ _ hm; omega, h.own.nd _⟩
      · split
        · exact List.nodup_nil
        · split
          · exact List.nodup_nil
          · exact h.own.nd r
    · simp only [bl, if_neg hr] at hb
      split at hb
      · cases hb
      · split at hb
        · cases hb
        · exact hb
    · simp only [bl, if_true] at hb
      rcases List.mem_cons.1 hb with rfl | hb
      · exact .inr (.inr ⟨Nat.le_refl _, by omega⟩)
      · exact .inr (.inl ⟨.hand i, hb, by simp [bl]⟩)
  refine ⟨g', ⟨hkw, by simp [Act.put, h.tmps], ⟨h.defers.1, fun t v' hv' => by
    rw [getD_put h.tmps hd.1]
    split
    · rename_i e; subst e; rw [hd.2] at hv'; cases hv'
    · exact h.defers.2 _ _ hv'⟩, fun t cs1 hc => ?_, fun t => ?_, by simpa using hown⟩, by simp [g', bl], fun j hj => by simp [g', bl, hj], by simp [g'], by simp [g', bl], fun t ht => by simp [g', bl, ht]⟩
  · by_cases ht : t = d
    · subst ht
      have : cs1 = cs := by simpa [St.born] using hc.symm
      subst this
      refine ⟨us.toArray, T, g.bl (.hand i), by simp only [g', if_true]; exact alloc_new w _, by simp [g'], by simp [g', bl], by simpa [g'] using hr2, fun x hx => by rw [hio] at hx; cases hx⟩
    · have hc' : st.var t = some cs1 := by simpa [St.born, ht] using hc
      obtain ⟨arr, T', ob, e1, e2, e3, e4, e5⟩ := h2.var t cs1 hc'
      obtain ⟨k1, k2, k3⟩ := hgs (.var t) (by simpa using ht) (by simp) (by simp)
      refine ⟨arr, T', ob, by simpa [g', ht] using e1, by rw [k2]; simpa [g', ht] using e2, by rw [k1]; simpa [g', ht] using e3, by rw [k2]; exact e4, by simpa [g', ht] using e5⟩
  · rw [getD_put h.tmps hd.1]
    by_cases ht : t = d
    · subst ht
      rw [if_pos rfl]
      have : (st.born t cs).env t = .ptr (.var t) 0 [] := by simp [St.born]
      rw [this]
      refine ⟨fun u (e : Rt.var t = .slot u) => (by cases e), fun cs1 hc hn => ?_⟩
      refine ⟨w.heap.size, 0, us, ?_, rfl⟩
      simp [Gh.rsv, rsv, Gh.at_, g']
    · rw [if_neg ht]
      have henv : (st.born d cs).env t = ((st.env t).kill (.slot d)).kill (.var d) := by simp [St.born, ht]
      rw [henv]
      have := h2.env t
      by_cases hk1 : (st.env t).base = some (.slot d)
      · have e : ((st.env t).kill (.slot d)).kill (.var d) = .dead := by simp [L.kill, hk1]
        rw [e]; trivial
      · by_cases hk2 : (st.env t).base = some (.var d)
        · have e : ((st.env t).kill (.slot d)).kill (.var d) = .dead := by simp [L.kill, hk1, hk2]
          rw [e]; trivial
        · have e : ((st.env t).kill (.slot d)).kill (.var d) = st.env t := by simp [L.kill, hk1, hk2]
          rw [e]
          obtain ⟨k1, k2, k3⟩ := hgs (.slot t) (by simp) (by simpa using ht) (by simp)
          refine LOK.turn this ⟨fun gg cs _ => ⟨k2, k1⟩, fun ls _ => k1⟩ fun r hr => ?_
          have n1 : r ≠ .slot d := fun e => hk1 (by rw [hr, e])
          have n2 : r ≠ .var d := fun e => hk2 (by rw [hr, e])
          refine ⟨born_cells n1 n2, by simp [g', n2], ?_⟩
          cases r with
          | var u =>
            have : u ≠ d := fun e => n2 (by rw [e])
            simp [Gh.at_, g', this]
          | _ => rfl

/-- A lent argument is put into a variable: its own place then tells what the variable's cells are. -/
theorem boxLe_does {t : TypeId} {x z : Nat} {gg : Bool} {cs : List C} (ho : o.op = .box t (.tmp x)) (hd : o.dst = some d) (hlt : X.ok d) (hio : X.io d = none) (hx : st.take x = some (gg, cs, st')) (hn : x < X.n) (hxd : x ≠ d) :
    Does P X o st ((st'.born d cs).put x (.ref (.var d) 0 [] gg cs.length)) := by
  intro w a ⟨g, h, hh⟩
  left
  obtain ⟨g1, us, h1, hv, hg, hr, hj, _, _⟩ := take_conc h hx 0 (hh 0) hn
  have hul := repL_len hr
  have hcells : (pack gg us).cells.toList = us := pack_cells (fun hf => by rw [hul]; exact hg hf) (repL_one hr)
  refine ⟨.pointer (some ⟨w.heap.size, 0, none⟩), w.alloc (.cells (pack gg us).cells t), ?_, ?_⟩
  · simp only [execOp, ho, Act.eval, hv, Instr.box, Sem.run_bind, newVar, newRow, run_newObj, Sem.run_pure, Result.andThen_ok]
    rfl
  · rw [hd]
    obtain ⟨g2, h2, e1, e2, e3, e4, e5⟩ := h1.born2 hlt hio 0 t hr
    have e : us.toArray = (pack gg us).cells := (congrArg List.toArray hcells.symm).trans (Array.toArray_toList)
    rw [e] at h2
    have hval : (a.put (some d) (.pointer (some ⟨w.heap.size, 0, none⟩))).tmps.getD x undef = pack gg us := by
      rw [getD_put h.tmps hlt.1, if_neg hxd, hv]
    have h3 := h2.put hn (.ref (.var d) 0 [] gg cs.length) (pack gg us) (.inr hval.symm) (g2.us (.slot x)) g2.bl (fun _ _ _ => rfl) h2.own ⟨hg, fun cs1 hc hne => by
      refine ⟨g2.ad d, (g2.pre d).length + 0, us.drop 0, ?_, ?_⟩
      · simp [Gh.rsv, rsv, Gh.at_, Gh.put, e3]
      · rw [List.drop_zero, ← hul, List.take_length]⟩
    have h4 : (a.put (some d) (.pointer (some ⟨w.heap.size, 0, none⟩))).put (some x) (pack gg us) = a.put (some d) (.pointer (some ⟨w.heap.size, 0, none⟩)) := by rw [← hval]; exact put_self h2.tmps hn
    rw [h4] at h3
    refine ⟨_, h3, fun j => ?_⟩
    show g2.bl (.hand j) = []
    by_cases hj0 : j = 0
    · subst hj0; exact e1
    · rw [e2 j hj0, hj j hj0]; exact hh j
/-- What a place tells of a variable becomes its own. -/
theorem own_wk {t : Nat} {gg : Bool} {cs : List C} {st1 : St} (hE : E.ok X) (ht : t < E.n) (hx : st.take t = some (gg, cs, st1)) : Wk X st (st1.put t (.val gg cs)) := by
  intro w a ⟨g, h, hh⟩
  rw [← hE.1] at ht
  obtain ⟨g1, us, h1, hv, hg, hr, hj, _, _⟩ := take_conc h hx 0 (hh 0) ht
  have hown : Own X.F X.w0.heap.size w.heap.size (g1.ungive t 0) := by
    refine Own.step h1.own (Nat.le_refl _) h1.keeps.size (.slot t) (fun r => ?_) (fun r b hr hb => ?_) (fun b hb => ?_)
    · unfold Gh.ungive
      split
      · exact h1.own.nd _
      · split
        · exact List.nodup_nil
        · exact h1.own.nd r
    · unfold Gh.ungive at hb
      rw [if_neg hr] at hb
      split at hb
      · cases hb
      · exact hb
    · simp only [Gh.ungive, if_true] at hb
      exact .inr (.inl ⟨.hand 0, hb, by simp [Gh.ungive]⟩)
  have h3 := h1.put ht (.val gg cs) (pack gg us) (.inr hv.symm) us (g1.ungive t 0) (fun r hr1 hr2 => by simp [Gh.ungive, hr2, hr1 0]) hown ⟨rfl, hg, by simpa [Gh.ungive] using hr⟩
  have h4 : a.put (some t) (pack gg us) = a := by rw [← hv]; exact put_self h1.tmps ht
  rw [h4] at h3
  refine ⟨_, h3, fun j => ?_⟩
  by_cases hj0 : j = 0
  · subst hj0; simp [Gh.put, Gh.ungive]
  · simp [Gh.put, Gh.ungive, hj0, hj j hj0]; exact hh j
theorem AO.boxLe (hE : E.ok X) {l : List Oper} {u x d t : Nat} {s : String} {af : Array Edge} {gg : Bool} {cs : List C} (hx : st.take x = some (gg, cs, st')) (hn : x < E.n) (hd : E.dst d = true) (hk : E.k ≤ d) (hxd : x ≠ d)
    (h : AO P X ops l Q ((st'.born d cs).put x (.ref (.var d) 0 [] gg cs.length))) : AO P X ops ({ dst := some d, op := .box u (.tmp x), type := t, pos := s, after := af, guard := none } :: l) Q st :=
  AO.step rfl (Does.step (boxLe_does (z := 0) rfl rfl (Ev.dst_ok hE hd) (hE.2.2 d hk) hx (by rw [hE.1]; exact hn) hxd)) h
theorem AO.boxLeP (hE : E.ok X) {l : List Oper} {u x d t : Nat} {s : String} {af : Array Edge} {p : Bool × List C × St} (hx : st.take x = some p) (hn : x < E.n) (hd : E.dst d = true) (hk : E.k ≤ d) (hxd : x ≠ d)
    (h : AO P X ops l Q ((p.2.2.born d p.2.1).put x (.ref (.var d) 0 [] p.1 p.2.1.length))) : AO P X ops ({ dst := some d, op := .box u (.tmp x), type := t, pos := s, after := af, guard := none } :: l) Q st :=
  AO.boxLe hE hx hn hd hk hxd h
theorem own_wkP {t : Nat} {p : Bool × List C × St} (hE : E.ok X) (ht : t < E.n) (hx : st.take t = some p) : Wk X st (p.2.2.put t (.val p.1 p.2.1)) := own_wk hE ht hx
end Go.Lvm
