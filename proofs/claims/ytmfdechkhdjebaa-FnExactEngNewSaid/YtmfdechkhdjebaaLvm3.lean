/- Lemmas of the by-value machine and of the data that the contracts speak of: each holds under the hypotheses that it states. -/
import Derived.Test.YtmfdechkhdjebaaLvm2
set_option linter.unusedVariables false
set_option linter.unusedSimpArgs false
namespace Go.Lvm
def Gh.ungive (g : Gh) (d i : Nat) : Rt → List Nat := fun r => if r = .slot d then g.bl (.hand i) else if r = .hand i then [] else g.bl r
/-- What is in the hand goes into a temporary. -/
theorem Conc.putHand {X : Fx} {st : St} {w : World} {a : Act} {g : Gh} (h : Conc X st w a g) {d : Nat} (hd : X.ok d) (i : Nat) {gg : Bool} {cs : List C} {us : List Value} (h1 : gg = false → cs.length = 1)
    (hr : repL w (Z0 X.w0 X.F) cs us (g.bl (.hand i))) : ∃ g', Conc X (st.put d (.val gg cs)) w (a.put (some d) (pack gg us)) g' ∧ (g'.bl (.hand i) = []) ∧ (∀ j, j ≠ i → g'.bl (.hand j) = g.bl (.hand j)) := by
  refine ⟨_, h.put hd.1 (.val gg cs) (pack gg us) (.inl hd.2) us (g.ungive d i) (fun r hr1 hr2 => by simp [Gh.ungive, hr2, hr1 i]) ?_ ⟨rfl, h1, by simpa [Gh.ungive] using hr⟩, by simp [Gh.put, Gh.ungive], fun j hj => by simp [Gh.put, Gh.ungive, hj]⟩
  refine Own.step h.own (Nat.le_refl _) h.keeps.size (.slot d) (fun r => ?_) (fun r b hr hb => ?_) (fun b hb => ?_)
  · unfold Gh.ungive
    split
    · exact h.own.nd _
    · split
      · exact List.nodup_nil
      · exact h.own.nd r
  · unfold Gh.ungive at hb
    rw [if_neg hr] at hb
    split at hb
    · cases hb
    · exact hb
  · simp only [Gh.ungive, if_true] at hb
    exact .inr (.inl ⟨.hand i, hb, by simp [Gh.ungive]⟩)
theorem alloc_new (w : World) (o : Obj) : (w.alloc o).heap[w.heap.size]? = some o := by
  show (w.heap.push o)[w.heap.size]? = _
  simp
/-- A new variable. -/
def St.born (st : St) (d : Nat) (cs : List C) : St :=
  { env := fun t => if t = d then .ptr (.var d) 0 [] else ((st.env t).kill (.slot d)).kill (.var d), var := fun t => if t = d then some cs else st.var t }
theorem born_cells {st : St} {d : Nat} {cs : List C} {r : Rt} (h1 : r ≠ .slot d) (h2 : r ≠ .var d) : (st.born d cs).cells r = st.cells r := by
  cases r with
  | var t =>
    have : t ≠ d := fun e => h2 (by rw [e])
    simp [St.cells, St.born, this]
  | hand i => rfl
  | slot t =>
    have ht : t ≠ d := fun e => h1 (by rw [e])
    simp only [St.cells, St.born, if_neg ht, kill_cells]
theorem Conc.born {X : Fx} {st : St} {w : World} {a : Act} {g : Gh} (h : Conc X st w a g) {d : Nat} (hd : X.ok d) (hio : X.io d = none) (i : Nat) {cs : List C} {us : List Value} (T : TypeId)
    (hr : repL w (Z0 X.w0 X.F) cs us (g.bl (.hand i))) :
    ∃ g', Conc X (st.born d cs) (w.alloc (.cells us.toArray T)) (a.put (some d) (.pointer (some ⟨w.heap.size, 0, none⟩))) g' ∧ g'.bl (.hand i) = [] ∧ (∀ j, j ≠ i → g'.bl (.hand j) = g.bl (.hand j)) := by
  have hkw : Keeps X.F X.w0 (w.alloc (.cells us.toArray T)) := h.keeps.trans (Keeps.alloc X.F w _) (fun x hx => .inl hx)
  have hlt : ∀ r, ∀ b ∈ g.bl r, b < w.heap.size := fun r b hb => (h.own.ok r b hb).2
  have hsame : ∀ b, b < w.heap.size → (w.alloc (.cells us.toArray T)).heap[b]? = w.heap[b]? := fun b hb => Go.RowKit.Below.heap_alloc _ _ _ hb
  have h2 := h.world hkw (by simp) (fun r _ b hb => hsame b (hlt r b hb))
  have hz : ∀ x, Z0 X.w0 X.F x → Z0 X.w0 X.F x ∧ (w.alloc (.cells us.toArray T)).heap[x]? = w.heap[x]? := fun x hx => ⟨hx, hsame x (Nat.lt_of_lt_of_le hx.1 h.keeps.size)⟩
  have hr2 := repL_frame (W' := w.alloc (.cells us.toArray T)) (Z' := Z0 X.w0 X.F) cs hr (fun b hb => hsame b (hlt _ b hb)) hz
  let bl : Rt → List Nat := fun r => if r = .var d then w.heap.size :: g.bl (.hand i) else if r = .slot d then [] else if r = .hand i then [] else g.bl r
  let g' : Gh := { us := fun r => if r = .var d then us else g.us r, ad := fun t => if t = d then w.heap.size else g.ad t, pre := fun t => if t = d then [] else g.pre t, post := fun t => if t = d then [] else g.post t, bl := bl }
  have hgs : ∀ r, r ≠ .var d → r ≠ .slot d → (∀ j, r ≠ .hand j) → g'.bl r = g.bl r ∧ g'.us r = g.us r ∧ g'.at_ r = g.at_ r := by
    intro r h1 h2 h3
    refine ⟨by show bl r = _; simp [bl, h1, h2, h3 i], by simp [g', h1], ?_⟩
    cases r with
    | var t =>
      have : t ≠ d := fun e => h1 (by rw [e])
      simp [Gh.at_, g', this]
    | _ => rfl
  have hown : Own X.F X.w0.heap.size (w.heap.size + 1) bl := by
    refine Own.step h.own (by omega) h.keeps.size (.var d) (fun r => ?_) (fun r b hr hb => ?_) (fun b hb => ?_)
    · simp only [bl]
      split
      · exact List.nodup_cons.2 ⟨fun hm => by have := hlt _ _ hm; omega, h.own.nd _⟩
      · split
        · exact List.nodup_nil
        · split
          · exact List.nodup_nil
          · exact h.own.nd r
    · simp only [bl, if_neg hr] at hb
      split at hb
      · cases hb
      · split at hb
        · cases hb
        · exact hb
    · simp only [bl, if_true] at hb
      rcases List.mem_cons.1 hb with rfl | hb
      · exact .inr (.inr ⟨Nat.le_refl _, by omega⟩)
      · exact .inr (.inl ⟨.hand i, hb, by simp [bl]⟩)
  refine ⟨g', ⟨hkw, by simp [Act.put, h.tmps], ⟨h.defers.1, fun t v' hv' => by
    rw [getD_put h.tmps hd.1]
    split
    · rename_i e; subst e; rw [hd.2] at hv'; cases hv'
    · exact h.defers.2 _ _ hv'⟩, fun t cs1 hc => ?_, fun t => ?_, by simpa using hown⟩, by simp [g', bl], fun j hj => by simp [g', bl, hj]⟩
  · by_cases ht : t = d
    · subst ht
      have : cs1 = cs := by simpa [St.born] using hc.symm
      subst this
      refine ⟨us.toArray, T, g.bl (.hand i), by simp only [g', if_true]; exact alloc_new w _, by simp [g'], by simp [g', bl], by simpa [g'] using hr2, fun x hx => by rw [hio] at hx; cases hx⟩
    · have hc' : st.var t = some cs1 := by simpa [St.born, ht] using hc
      obtain ⟨arr, T', ob, e1, e2, e3, e4, e5⟩ := h2.var t cs1 hc'
      obtain ⟨k1, k2, k3⟩ := hgs (.var t) (by simpa using ht) (by simp) (by simp)
      refine ⟨arr, T', ob, by simpa [g', ht] using e1, by rw [k2]; simpa [g', ht] using e2, by rw [k1]; simpa [g', ht] using e3, by rw [k2]; exact e4, by simpa [g', ht] using e5⟩
  · rw [getD_put h.tmps hd.1]
    by_cases ht : t = d
    · subst ht
      rw [if_pos rfl]
      have : (st.born t cs).env t = .ptr (.var t) 0 [] := by simp [St.born]
      rw [this]
      refine ⟨fun u (e : Rt.var t = .slot u) => (by cases e), fun cs1 hc hn => ?_⟩
      refine ⟨w.heap.size, 0, us, ?_, rfl⟩
      simp [Gh.rsv, rsv, Gh.at_, g']
    · rw [if_neg ht]
      have henv : (st.born d cs).env t = ((st.env t).kill (.slot d)).kill (.var d) := by simp [St.born, ht]
      rw [henv]
      have := h2.env t
      by_cases hk1 : (st.env t).base = some (.slot d)
      · have e : ((st.env t).kill (.slot d)).kill (.var d) = .dead := by simp [L.kill, hk1]
        rw [e]; trivial
      · by_cases hk2 : (st.env t).base = some (.var d)
        · have e : ((st.env t).kill (.slot d)).kill (.var d) = .dead := by simp [L.kill, hk1, hk2]
          rw [e]; trivial
        · have e : ((st.env t).kill (.slot d)).kill (.var d) = st.env t := by simp [L.kill, hk1, hk2]
          rw [e]
          obtain ⟨k1, k2, k3⟩ := hgs (.slot t) (by simp) (by simpa using ht) (by simp)
          refine LOK.turn this ⟨fun gg cs _ => ⟨k2, k1⟩, fun ls _ => k1⟩ fun r hr => ?_
          have n1 : r ≠ .slot d := fun e => hk1 (by rw [hr, e])
          have n2 : r ≠ .var d := fun e => hk2 (by rw [hr, e])
          refine ⟨born_cells n1 n2, by simp [g', n2], ?_⟩
          cases r with
          | var u =>
            have : u ≠ d := fun e => n2 (by rw [e])
            simp [Gh.at_, g', this]
          | _ => rfl

/-! ### A store -/
def L.touch (r : Rt) : L → L
  | .ref r' off ps g k => if r' = r then .dead else .ref r' off ps g k
  | .win r' off ps lo hi => if r' = r then .dead else .win r' off ps lo hi
  | .ptr r' off ps => if r' = r ∧ ps ≠ [] then .dead else .ptr r' off ps
  | l => l
def St.touch (st : St) (r : Rt) : St := { st with env := fun t => (st.env t).touch r }
theorem touch_lcells (r : Rt) (l : L) : (l.touch r).cells = l.cells := by
  cases l <;> simp only [L.touch] <;> (try split) <;> rfl
theorem touch_cells (st : St) (r r' : Rt) : (st.touch r).cells r' = st.cells r' := by
  cases r' with
  | var t => rfl
  | hand i => rfl
  | slot t =>
    simp only [St.cells, St.touch, touch_lcells]
theorem Keeps.setRow {F : List Nat} {w0 w : World} (h : Keeps F w0 w) (b : Nat) (arr : Array Value) (hb : b ∈ F ∨ w0.heap.size ≤ b) : Keeps F w0 (w.setRow b arr) :=
  ⟨h.os, h.tape, h.output, by simpa using h.size, fun x hx hn => by
    rw [setRow_other w b x arr (by rintro rfl; rcases hb with h' | h'; exact hn h'; omega)]
    exact h.block x hx hn⟩
theorem Conc.store {X : Fx} {st : St} {w : World} {a : Act} {g : Gh} (h : Conc X st w a g) {r : Rt} {off : Nat} {ps : Pth} {cs cs' new : List C} {us : List Value} (i : Nat) (hc : st.cells r = some cs)
    (hs : setC cs off ps new = some cs') (hsl : ∀ t, r = .slot t → ps ≠ []) (hr : repL w (Z0 X.w0 X.F) new us (g.bl (.hand i))) :
    ∃ b p us' arr T, g.rsv w r off ps = some (b, p, us') ∧ w.heap[b]? = some (.cells arr T (0, 0)) ∧ p + new.length ≤ arr.size ∧
      ∃ g', Conc X ((st.setRoot r cs').touch r) (w.setRow b (lput arr.toList p us).toArray) a g' ∧ g'.bl (.hand i) = [] ∧ (∀ j, j ≠ i → g'.bl (.hand j) = g.bl (.hand j)) := by
  obtain ⟨pre, bs, hbl, hrep, hnd, hvar, hslot, hhand⟩ := h.cells_root hc
  obtain ⟨b, p, us', b1, b2, b3, hrsv, hk, hbs, hsub, hnil, hcons, hfin⟩ := set_ok ps (g.at_ r).1 (g.at_ r).2 off hrep hs hnd
  have hul := repL_len hr
  -- the block that is written
  have hblk : b ∈ g.bl r ∧ ∃ arr T, w.heap[b]? = some (.cells arr T (0, 0)) ∧ p + new.length ≤ arr.size := by
    by_cases hps : ps = []
    · obtain ⟨rfl, rfl⟩ := hnil hps
      cases r with
      | var t =>
        obtain ⟨arr, T, ob, e1, e2, e3, e4, e5⟩ := h.var t cs hc
        refine ⟨by rw [e3]; simp [Gh.at_], arr, T, e1, ?_⟩
        have := congrArg List.length e2
        subst hps
        simp only [rsv, Option.some.injEq, Prod.mk.injEq] at hrsv
        obtain ⟨_, _, rfl⟩ := hrsv
        simp at this hk
        by_cases hn : new.length = 0
        · have hsome : off ≤ cs.length := by
            simp only [setC] at hs
            split at hs
            · omega
            · cases hs
          have := repL_len hrep
          simp [Gh.at_]; omega
        · simp [Gh.at_]; omega
      | slot t => exact absurd hps (hsl t rfl)
      | hand j => exact absurd rfl (hhand j)
    · obtain ⟨hm, harr⟩ := hcons hps
      exact ⟨by rw [hbl, hbs]; simp [hm], harr⟩
  obtain ⟨hbr, arr, T, harr, hfit⟩ := hblk
  refine ⟨b, p, us', arr, T, hrsv, harr, hfit, ?_⟩
  have hne : ∀ r', r' ≠ r → ∀ x ∈ g.bl r', x ≠ b := fun r' hr' x hx e => hr' (h.own.dj _ _ _ hx (e ▸ hbr))
  have hsame : ∀ x, x ≠ b → (w.setRow b (lput arr.toList p us).toArray).heap[x]? = w.heap[x]? := fun x hx => setRow_other w b x _ hx
  have hbz : ¬ Z0 X.w0 X.F b := fun hz => by
    rcases (h.own.ok r b hbr).1 with h1 | h1
    · exact hz.2 h1
    · have := hz.1; omega
  have hz : ∀ x, Z0 X.w0 X.F x → Z0 X.w0 X.F x ∧ (w.setRow b (lput arr.toList p us).toArray).heap[x]? = w.heap[x]? := fun x hx => ⟨hx, hsame x (fun e => hbz (e ▸ hx))⟩
  have hnew := repL_frame (W' := w.setRow b (lput arr.toList p us).toArray) (Z' := Z0 X.w0 X.F) new hr (fun x hx => hsame x (hne (.hand i) (fun e => hhand i e.symm) x hx)) hz
  have hbb : (w.setRow b (lput arr.toList p us).toArray).heap[b]? = some (.cells (lput arr.toList p us).toArray T (0, 0)) := setRow_heap w b arr _ T (0, 0) harr
  have hndr := h.own.nd r
  rw [hbl, hbs] at hndr
  have hrep' := hfin _ _ us _ hnew hz (fun x hx hn => by
      refine hsame x (fun e => ?_)
      by_cases hps : ps = []
      · obtain ⟨rfl, _⟩ := hnil hps
        cases r with
        | var t =>
          rw [hvar t rfl] at hndr
          simp only [Gh.at_] at e
          subst e
          have := List.nodup_cons.1 hndr
          exact this.1 (by simp at hx ⊢; rcases hx with h | h <;> simp [h])
        | slot t => exact absurd hps (hsl t rfl)
        | hand j => exact absurd rfl (hhand j)
      · exact hn hps e) (fun arr0 T0 hps h0 => by
      rw [harr] at h0; injection h0 with h0; injection h0 with h1 h2
      subst h1; subst h2; exact hbb)
  have hlen' : cs'.length = cs.length := by
    have l1 := repL_len hrep'
    have l2 := repL_len hrep
    have l3 := repL_len hnew
    by_cases hps : ps = []
    · rw [if_pos hps] at l1
      subst hps
      simp only [rsv, Option.some.injEq, Prod.mk.injEq] at hrsv
      obtain ⟨_, _, rfl⟩ := hrsv
      simp at hk
      by_cases hn : new.length = 0
      · have : us = [] := List.eq_nil_of_length_eq_zero (by omega)
        rw [this] at l1
        simp [lput] at l1
        omega
      · rw [lput_len _ _ _ (by omega)] at l1; omega
    · rw [if_neg hps] at l1; omega
  -- the new ghost
  let us1 := if ps = [] then lput (g.us r) off us else g.us r
  let bl : Rt → List Nat := fun r' => if r' = r then pre ++ (b1 ++ g.bl (.hand i) ++ b3) else if r' = .hand i then [] else g.bl r'
  let g' : Gh := { g with us := fun r' => if r' = r then us1 else g.us r', bl := bl }
  have hown : Own X.F X.w0.heap.size w.heap.size bl := by
    refine Own.step h.own (Nat.le_refl _) h.keeps.size r (fun r' => ?_) (fun r' x hr' hx => ?_) (fun x hx => ?_)
    · simp only [bl]
      split
      · have d1 : ∀ x, x ∈ g.bl (.hand i) → x ∉ pre ++ (b1 ++ b2 ++ b3) := fun x hx hm => hhand i (h.own.dj r (.hand i) x (by rw [hbl, hbs]; exact hm) hx)
        have d2 := h.own.nd (.hand i)
        simp only [List.nodup_append, List.mem_append] at hndr d1 ⊢
        grind
      · split
        · exact List.nodup_nil
        · exact h.own.nd r'
    · simp only [bl, if_neg hr'] at hx
      split at hx
      · cases hx
      · exact hx
    · simp only [bl, if_true] at hx
      simp only [List.mem_append] at hx
      rcases hx with hx | (hx | hx) | hx
      · exact .inl (by rw [hbl]; simp [hx])
      · exact .inl (by rw [hbl, hbs]; simp [hx])
      · refine .inr (.inl ⟨.hand i, hx, ?_⟩)
        have : ¬ (Rt.hand i = r) := fun e => hhand i e.symm
        simp [bl, this]
      · exact .inl (by rw [hbl, hbs]; simp [hx])
  have hgs : ∀ r', r' ≠ r → (∀ j, r' ≠ .hand j) → g'.bl r' = g.bl r' ∧ g'.us r' = g.us r' := fun r' h1 h2 => ⟨by show bl r' = _; simp [bl, h1, h2 i], by simp [g', h1]⟩
  have hat : ∀ r', g'.at_ r' = g.at_ r' := fun r' => by cases r' <;> rfl
  have hcells := setRoot_cells (cs := cs') hc
  refine ⟨g', ⟨h.keeps.setRow b _ (h.own.ok r b hbr).1, h.tmps, h.defers, fun t cs1 hc1 => ?_, fun t => ?_, by simpa using hown⟩, ?_, fun j hj => ?_⟩
  · have hc1' : (st.setRoot r cs').cells (.var t) = some cs1 := hc1
    rw [hcells] at hc1'
    by_cases hrt : Rt.var t = r
    · subst hrt
      rw [if_pos rfl] at hc1'
      injection hc1' with hc1'; subst hc1'
      obtain ⟨arr0, T0, ob, e1, e2, e3, e4, e5⟩ := h.var t cs hc
      have hbl' : g'.bl (.var t) = g.ad t :: (b1 ++ g.bl (.hand i) ++ b3) := by
        show bl _ = _
        simp [bl, hvar t rfl]
      have hus' : g'.us (.var t) = us1 := by simp [g']
      by_cases hps : ps = []
      · obtain ⟨rfl, rfl⟩ := hnil hps
        simp only [Gh.at_] at harr hbb
        rw [harr] at e1
        injection e1 with e1; injection e1 with e1 e1'
        subst e1; subst e1'
        refine ⟨_, T, b1 ++ g.bl (.hand i) ++ b3, hbb, ?_, hbl', by rw [hus']; exact hrep', e5⟩
        rw [hus']
        simp only [us1, if_pos hps, Gh.at_, e2]
        show lput _ _ _ = g.pre t ++ _ ++ g.post t
        have hol : off + us.length ≤ (g.us (.var t)).length := by
          simp only [hps, rsv, Option.some.injEq, Prod.mk.injEq] at hrsv
          obtain ⟨_, _, rfl⟩ := hrsv
          simp at hk
          by_cases hn : new.length = 0
          · have hsome : off ≤ cs.length := by
              simp only [hps, setC] at hs
              split at hs
              · omega
              · cases hs
            have := repL_len hrep
            omega
          · omega
        have := lput_drop (g.pre t) (g.us (.var t)) (g.post t) (g.pre t ++ g.us (.var t) ++ g.post t) us 0 (g.pre t).length off (by simp) (by omega) rfl hol
        simpa using this
      · refine ⟨arr0, T0, b1 ++ g.bl (.hand i) ++ b3, ?_, ?_, hbl', by rw [hus']; exact hrep', e5⟩
        · rw [hsame _ (fun e => ?_)]
          · exact e1
          · obtain ⟨hm, _⟩ := hcons hps
            rw [hvar t rfl] at hndr
            have := List.nodup_cons.1 hndr
            exact this.1 (by rw [show g.ad t = b from e]; simp [hm])
        · rw [hus']
          simp only [us1, if_neg hps]
          exact e2
    · rw [if_neg hrt] at hc1'
      obtain ⟨arr0, T0, ob, e1, e2, e3, e4, e5⟩ := h.var t cs1 hc1'
      obtain ⟨k1, k2⟩ := hgs (.var t) hrt (by simp)
      exact ⟨arr0, T0, ob, by rw [show g'.ad = g.ad from rfl, hsame _ (hne _ hrt _ (by rw [e3]; simp))]; exact e1, by rw [k2]; exact e2, by rw [k1]; exact e3, by rw [k2]; exact repL_frame cs1 e4 (fun x hx => hsame x (hne _ hrt x (by rw [e3]; simp [hx]))) hz, e5⟩
  · have henv := h.env t
    by_cases hrt : Rt.slot t = r
    · subst hrt
      have hst : ((st.setRoot (.slot t) cs').touch (.slot t)).env t = ((st.env t).setCells cs').touch (.slot t) := by simp [St.setRoot, St.touch]
      rw [hst]
      have hc0 := hc
      simp only [St.cells] at hc0
      cases he : st.env t with
      | val gg cs0 =>
        rw [he] at hc0 henv
        injection hc0 with hc0; subst hc0
        have hps := hsl t rfl
        refine ⟨?_, fun hgg => by rw [hlen']; exact henv.2.1 hgg, ?_⟩
        · show _ = pack gg (if _ then _ else _)
          rw [if_pos rfl]
          simp only [us1, if_neg hps]
          exact henv.1
        · show repL _ _ _ (if _ then _ else _) (bl _)
          rw [if_pos rfl]
          simp only [bl, if_true, hslot t rfl, List.nil_append]
          exact hrep'
      | _ => rw [he] at hc0; cases hc0
    · have hst : ((st.setRoot r cs').touch r).env t = (st.env t).touch r := by
        cases r with
        | slot u =>
          have : ¬ t = u := fun e => hrt (by rw [e])
          simp [St.setRoot, St.touch, this]
        | _ => rfl
      rw [hst]
      obtain ⟨k1, k2⟩ := hgs (.slot t) hrt (by simp)
      rw [k1, k2]
      have hroot : ∀ r' cs1 off ps k, r' ≠ r → ((st.setRoot r cs').touch r).cells r' = some cs1 → getC cs1 off ps k ≠ none → st.cells r' = some cs1 ∧ g'.rsv (w.setRow b (lput arr.toList p us).toArray) r' off ps = g.rsv w r' off ps := by
        intro r' cs1 off ps k hr' hcc hg
        rw [touch_cells, hcells, if_neg hr'] at hcc
        refine ⟨hcc, ?_⟩
        obtain ⟨pre', bs', hbl', hrep', hnd', _, _, hh'⟩ := h.cells_root hcc
        obtain ⟨k1, k2⟩ := hgs r' hr' hh'
        unfold Gh.rsv
        rw [hat, k2]
        exact rsv_frame ps _ _ _ k hrep' hg (fun x hx => hsame x (hne r' hr' x (by rw [hbl']; simp [hx]))) (fun x hx => (hz x hx).2)
      revert henv
      cases st.env t with
      | dead => exact id
      | val gg cs0 => exact fun ⟨h1, h2, h3⟩ => ⟨h1, h2, repL_frame cs0 h3 (fun x hx => hsame x (hne _ hrt x hx)) hz⟩
      | ref r' off1 ps1 gg k =>
        rintro ⟨h1, h2⟩
        simp only [L.touch]
        split
        · trivial
        · rename_i hr'
          refine ⟨h1, fun cs1 hcc hg => ?_⟩
          obtain ⟨q1, q2⟩ := hroot r' cs1 off1 ps1 k hr' hcc hg
          rw [q2]; exact h2 cs1 q1 hg
      | win r' off1 ps1 lo hi =>
        intro h2
        simp only [L.touch]
        split
        · trivial
        · rename_i hr'
          intro cs1 o z xs hcc hg
          obtain ⟨q1, q2⟩ := hroot r' cs1 off1 ps1 1 hr' hcc (by rw [hg]; simp)
          rw [q2]; exact h2 cs1 o z xs q1 hg
      | ptr r' off1 ps1 =>
        rintro ⟨h1, h2⟩
        simp only [L.touch]
        split
        · trivial
        · rename_i hn
          refine ⟨h1, fun cs1 hcc hg => ?_⟩
          by_cases hr' : r' = r
          · subst hr'
            have hps1 : ps1 = [] := Classical.byContradiction fun e => hn ⟨rfl, e⟩
            subst hps1
            rw [touch_cells, hcells, if_pos rfl] at hcc
            injection hcc with hcc; subst hcc
            have hg' : getC cs off1 [] 0 ≠ none := by
              simp only [getC] at hg ⊢
              rw [← hlen']; exact hg
            obtain ⟨b0, p0, us0, e1, e2⟩ := h2 cs hc hg'
            simp only [Gh.rsv, rsv, Option.some.injEq, Prod.mk.injEq] at e1
            obtain ⟨rfl, rfl, rfl⟩ := e1
            exact ⟨_, _, _, by simp only [Gh.rsv, rsv, hat]; rfl, e2⟩
          · obtain ⟨q1, q2⟩ := hroot r' cs1 off1 ps1 0 hr' hcc hg
            rw [q2]; exact h2 cs1 q1 hg
      | sptr c i' z off1 =>
        rintro ⟨u, hcc, h2⟩
        refine ⟨u, repC_frame c hcc (fun x hx => by cases hx) hz, fun o xs ho hi => ?_⟩
        obtain ⟨b', p', us'', h3, h4⟩ := h2 o xs ho hi
        refine ⟨b', p', us'', ?_, h4⟩
        rw [← h3]
        subst ho
        obtain ⟨A, c', rfl, hlc, hA⟩ := hcc
        cases A with
        | none => simp only [rsv, List.getElem?_cons_zero]
        | some ad =>
          rcases hA with hA | ⟨arr, T, fr, inn, g1, g2, g3, g4, g5⟩
          · omega
          · cases o with
            | true => have := (g3 rfl).2.1; cases this
            | false => simp only [rsv, List.getElem?_cons_zero, (hz _ (g4 rfl).1).2]
      | tup ls =>
        rintro ⟨vs, h1, h2⟩
        exact ⟨vs, h1, tupOK_frame h2 (fun x hx => hsame x (hne _ hrt x hx)) (fun x hx => (hz x hx).2)⟩
  · show bl _ = []
    have : ¬ (Rt.hand i = r) := fun e => hhand i e.symm
    simp [bl, this]
  · show bl _ = _
    have : ¬ (Rt.hand j = r) := fun e => hhand j e.symm
    simp [bl, this, hj]
end Go.Lvm
