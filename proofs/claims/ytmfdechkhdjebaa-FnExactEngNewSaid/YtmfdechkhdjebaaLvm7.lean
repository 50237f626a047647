/- Lemmas of the by-value machine and of the data that the contracts speak of: each holds under the hypotheses that it states. -/
import Derived.Test.YtmfdechkhdjebaaLvm6
import Derived.Great.BuildSlice
set_option linter.unusedVariables false
set_option linter.unusedSimpArgs false
namespace Go.Lvm
variable {P : Program} {TT : Nat → Ty} {X : Fx} {st st' : St} {o : Oper} {d : Nat}
/-! ### literals -/
def St.parts : St → List C → List (Nat × Nat × Nat × Operand) → Option (List C × St)
  | st, base, [] => some (base, st)
  | st, base, (off, k, z, x) :: ps => match st.grab z x with
    | some (_, cs, st1) => if cs.length = k ∧ off + k ≤ base.length then St.parts st1 (lput base off cs) ps else none
    | none => none
def fillV : List Value → List (Nat × Value) → List Value
  | us, [] => us
  | us, (off, v) :: ps => fillV (lput us off v.cells.toList) ps
theorem repL_lput {W : World} {Z : Nat → Prop} {cs new : List C} {us nus : List Value} {bs nbs : List Nat} {off : Nat} (h : repL W Z cs us bs) (hn : repL W Z new nus nbs) :
    ∃ b1 b2 b3, bs = b1 ++ b2 ++ b3 ∧ repL W Z (lput cs off new) (lput us off nus) (b1 ++ nbs ++ b3) := by
  obtain ⟨b1, b2, b3, rfl, h1, h2, h3⟩ := repL_take off new.length h
  refine ⟨b1, b2, b3, rfl, ?_⟩
  unfold lput
  rw [repL_len hn, ← List.drop_drop, ← List.drop_drop]
  exact repL_app (repL_app h1 hn) h3
/-- The second hand's blocks go among the first's. -/
theorem Conc.merge {w : World} {a : Act} {g : Gh} (h : Conc X st w a g) {b1 b2 b3 : List Nat} (h0 : g.bl (.hand 0) = b1 ++ b2 ++ b3) :
    ∃ g', Conc X st w a g' ∧ g'.bl (.hand 0) = b1 ++ g.bl (.hand 1) ++ b3 ∧ g'.bl (.hand 1) = [] ∧ ∀ j, j ≠ 0 → j ≠ 1 → g'.bl (.hand j) = g.bl (.hand j) := by
  let bl : Rt → List Nat := fun r => if r = .hand 0 then b1 ++ g.bl (.hand 1) ++ b3 else if r = .hand 1 then [] else g.bl r
  have hown : Own X.F X.w0.heap.size w.heap.size bl := by
    refine Own.step h.own (Nat.le_refl _) h.keeps.size (.hand 0) (fun r => ?_) (fun r b hr hb => ?_) (fun b hb => ?_)
    · simp only [bl]
      split
      · have d0 := h.own.nd (.hand 0)
        have d1 := h.own.nd (.hand 1)
        have dd : ∀ x, x ∈ g.bl (.hand 1) → x ∉ b1 ++ b2 ++ b3 := fun x hx hm => by
          have := h.own.dj (.hand 0) (.hand 1) x (by rw [h0]; exact hm) hx
          simp at this
        rw [h0] at d0
        simp only [List.nodup_append, List.mem_append] at d0 dd ⊢
        grind
      · split
        · exact List.nodup_nil
        · exact h.own.nd r
    · simp only [bl, if_neg hr] at hb
      split at hb
      · cases hb
      · exact hb
    · simp only [bl, if_true, List.mem_append] at hb
      rcases hb with (hb | hb) | hb
      · exact .inl (by rw [h0]; simp [hb])
      · exact .inr (.inl ⟨.hand 1, hb, by simp [bl]⟩)
      · exact .inl (by rw [h0]; simp [hb])
  refine ⟨{ g with bl := bl }, ⟨h.keeps, h.tmps, h.defers, fun t cs hc => ?_, fun t => ?_, hown⟩, by simp [bl], by simp [bl], fun j h0 h1 => by simp [bl, h0, h1]⟩
  · have := h.var t cs hc
    simpa [bl] using this
  · have := h.env t
    refine LOK.turn this ⟨fun _ _ _ => ⟨rfl, by simp [bl]⟩, fun _ _ => by simp [bl]⟩ fun r _ => ⟨rfl, rfl, by cases r <;> rfl⟩
theorem parts_conc {w : World} {a : Act} : ∀ (ps : List (Nat × Nat × Nat × Operand)) {st st' : St} {g : Gh} {base cs : List C} {us : List Value}, Conc X st w a g → St.parts st base ps = some (cs, st') → (∀ q ∈ ps, ∀ t, q.2.2.2 = .tmp t → t < X.n) →
    repL w (Z0 X.w0 X.F) base us (g.bl (.hand 0)) → (∀ j, j ≠ 0 → g.bl (.hand j) = []) →
    ∃ g', Conc X st' w a g' ∧ repL w (Z0 X.w0 X.F) cs (fillV us (ps.map fun q => (q.1, a.eval q.2.2.2))) (g'.bl (.hand 0)) ∧ (∀ j, j ≠ 0 → g'.bl (.hand j) = []) ∧ cs.length = base.length ∧
      ∀ q ∈ ps, (a.eval q.2.2.2).cells.size = q.2.1 ∧ q.1 + q.2.1 ≤ base.length
  | [], st, st', g, base, cs, us, h, hp, hn, hr, hj => by
    simp only [St.parts, Option.some.injEq, Prod.mk.injEq] at hp
    obtain ⟨rfl, rfl⟩ := hp
    exact ⟨g, h, hr, hj, rfl, fun q hq => by cases hq⟩
  | (off, k, z, x) :: ps, st, st', g, base, cs, us, h, hp, hn, hr, hj => by
    simp only [St.parts] at hp
    split at hp
    · rename_i gg c1 st1 hx
      split at hp
      · rename_i hc
        obtain ⟨rfl, hle⟩ := hc
        obtain ⟨g1, us1, h1, hv, hg, hr1, hj1, _, _⟩ := grab_conc h hx 1 (hj 1 (by decide)) (fun t ht => hn (off, c1.length, z, x) List.mem_cons_self t ht)
        have hr0 : repL w (Z0 X.w0 X.F) base us (g1.bl (.hand 0)) := by rw [hj1 0 (by decide)]; exact hr
        obtain ⟨b1, b2, b3, hb, hr2⟩ := repL_lput (off := off) hr0 hr1
        obtain ⟨g2, h2, e0, e1, e2⟩ := h1.merge hb
        have hcells : (a.eval x).cells.toList = us1 := by rw [hv]; exact pack_cells (fun hf => by rw [repL_len hr1]; exact hg hf) (repL_one hr1)
        rw [← e0] at hr2
        obtain ⟨g3, h3, hr3, hj3, hl3, hq3⟩ := parts_conc ps h2 hp (fun q hq t ht => hn q (by simp [hq]) t ht) hr2 (fun j hj' => by
          by_cases h1' : j = 1
          · subst h1'; exact e1
          · rw [e2 j hj' h1', hj1 j h1']; exact hj j hj')
        have hbl : (lput base off c1).length = base.length := lput_len _ _ _ hle
        refine ⟨g3, h3, ?_, hj3, by rw [hl3, hbl], fun q hq => ?_⟩
        · simp only [List.map_cons, fillV, hcells]
          exact hr3
        · rcases List.mem_cons.1 hq with rfl | hq
          · refine ⟨?_, hle⟩
            rw [← Array.length_toList, hcells]; exact repL_len hr1
          · have := hq3 q hq
            rw [hbl] at this; exact this
      · cases hp
    · cases hp
theorem fold_lput (off : Nat) : ∀ (vs : List Value) (k : Nat) (cells : Array Value), off + k + vs.length ≤ cells.size →
    (vs.zipIdx k).foldl (fun cs (x : Value × Nat) => cs.setIfInBounds (off + x.2) x.1) cells = (lput cells.toList (off + k) vs).toArray
  | [], k, cells, _ => by simp [lput]
  | v :: vs, k, cells, h => by
    simp only [List.zipIdx_cons, List.foldl_cons]
    rw [fold_lput off vs (k + 1) _ (by simp at h ⊢; omega)]
    congr 1
    have := list_seg_step cells.toList (off + k) v vs (by simp at h ⊢; omega)
    simp only [lput, Array.toList_setIfInBounds]
    simpa [Nat.add_assoc] using this
theorem fill_ok (place : Nat → Option (Nat × Nat)) : ∀ (ps : List (Nat × Value)) (qs : List (Nat × Value)) (us : List Value), qs.length = ps.length →
    (∀ (j : Nat) (p q : Nat × Value), ps[j]? = some p → qs[j]? = some q → p.2 = q.2 ∧ place p.1 = some (q.1, q.2.cells.size) ∧ q.1 + q.2.cells.size ≤ us.length) → Instr.fill place us.toArray ps = some (fillV us qs).toArray
  | [], [], us, _, _ => rfl
  | [], q :: qs, us, h, _ => by simp at h
  | p :: ps, [], us, h, _ => by simp at h
  | (i, v) :: ps, (off, u) :: qs, us, hl, h => by
    obtain ⟨hv, hp, hle⟩ := h 0 _ _ rfl rfl
    simp only at hv hp hle
    subst hv
    simp only [Instr.fill, hp, fillV]
    rw [if_neg (by simp; omega)]
    have : (v.cells.zipIdx.foldl (fun cs (x : Value × Nat) => cs.setIfInBounds (off + x.2) x.1) us.toArray) = (lput us off v.cells.toList).toArray := by
      have := fold_lput off v.cells.toList 0 us.toArray (by simp; omega)
      simp only [Nat.add_zero] at this
      rw [← this, ← Array.foldl_toList, Array.toList_zipIdx]
    rw [this]
    have hll : (lput us off v.cells.toList).length = us.length := lput_len _ _ _ (by simpa using hle)
    refine fill_ok place ps qs _ (by simpa using hl) (fun j p q hp hq => ?_)
    rw [hll]
    exact h (j + 1) p q (by simpa using hp) (by simpa using hq)

/-- A struct of its parts. -/
def partsOf (TT : Nat → Ty) (t : Nat) (ps : List (Nat × Operand)) : List (Nat × Nat × Nat × Operand) :=
  ps.map fun q => ((TT t).flds.getD q.1 0, ((TT t).fk.getD q.1 (0, 0)).1, ((TT t).fk.getD q.1 (0, 0)).2, q.2)

theorem mapM_places : ∀ (fs : List Field) (ofs : List Nat) (ks : List (Nat × Nat)), fs.map (·.offset) = ofs → fs.map (fun f => (P.info? f.type).map (·.size)) = ks.map (fun q => some q.1) →
    ∃ pl, fs.mapM (fun f => (P.info? f.type).map fun i => (f.offset, i.size)) = some pl ∧ pl.length = fs.length ∧ ∀ i, i < fs.length → pl[i]? = some (ofs.getD i 0, (ks.getD i (0, 0)).1)
  | [], ofs, ks, h1, h2 => ⟨[], by simp, rfl, fun i hi => by simp at hi⟩
  | f :: fs, ofs, ks, h1, h2 => by
    cases ofs with
    | nil => simp at h1
    | cons o1 ofs =>
      cases ks with
      | nil => simp at h2
      | cons k ks =>
        simp only [List.map_cons, List.cons.injEq] at h1 h2
        obtain ⟨rfl, h1⟩ := h1
        obtain ⟨h3, h2⟩ := h2
        obtain ⟨pl, e1, e2, e3⟩ := mapM_places fs ofs ks h1 h2
        cases hi : P.info? f.type with
        | none => rw [hi] at h3; cases h3
        | some i =>
          rw [hi] at h3
          injection h3 with h3
          refine ⟨(f.offset, k.1) :: pl, by simp [hi, e1, h3], by simp [e2], fun j hj => ?_⟩
          cases j with
          | zero => simp
          | succ j => simpa using e3 j (by simpa using hj)
theorem lift0 {w : World} {a : Act} {g : Gh} {gg : Bool} {cs : List C} {us : List Value} (h : Conc X st w a g) (hlt : X.ok d) (h1 : gg = false → cs.length = 1) (hr : repL w (Z0 X.w0 X.F) cs us (g.bl (.hand 0))) (hj : ∀ j, j ≠ 0 → g.bl (.hand j) = []) :
    R X (st.put d (.val gg cs)) w (a.put (some d) (pack gg us)) := by
  obtain ⟨g', h', e1, e2⟩ := h.putHand hlt 0 h1 hr
  refine ⟨g', h', fun i => ?_⟩
  by_cases hi : i = 0
  · subst hi; exact e1
  · rw [e2 i hi]; exact hj i hi
theorem build_does {t : TypeId} {parts : Array (Nat × Operand)} {cs : List C} (ho : o.op = .build t parts) (hT : TyOK P t (TT t)) (ha : (TT t).agg = true) (hd : o.dst = some d) (hlt : X.ok d)
    (hp : st.parts (TT t).zero (partsOf TT t parts.toList) = some (cs, st')) (hn : ∀ q ∈ parts.toList, q.1 < (TT t).flds.length ∧ ∀ t, q.2 = .tmp t → t < X.n) : Does P X o st (st'.put d (.val true cs)) := by
  intro w a ⟨g, h, hh⟩
  left
  obtain ⟨i, z, hi, hsz, _, hz, hzo, hagg, _⟩ := hT.info
  obtain ⟨c, rfl⟩ := hagg ha
  obtain ⟨fs, hu, hofs, hks, _⟩ := hT.agg ha
  have hzr : repL w (Z0 X.w0 X.F) (TT t).zero c.toList (g.bl (.hand 0)) := by rw [hh 0]; exact zeroOf_rep hzo
  obtain ⟨g1, h1, hr1, hj1, hl1, hq1⟩ := parts_conc (partsOf TT t parts.toList) h hp (fun q hq u hu => by
    simp only [partsOf, List.mem_map] at hq
    obtain ⟨q', hq', rfl⟩ := hq
    exact (hn q' hq').2 u hu) hzr (fun j _ => hh j)
  obtain ⟨pl, e1, e2, e3⟩ := mapM_places (P := P) fs.toList _ _ hofs hks
  have hfl : (TT t).flds.length = fs.toList.length := by rw [← hofs]; simp
  have hzl := repL_len hzr
  refine ⟨.agg (fillV c.toList ((partsOf TT t parts.toList).map fun q => (q.1, a.eval q.2.2.2))).toArray, w, ?_, ?_⟩
  · have hb : P.built t (parts.map fun (i, x) => (i, a.eval x)).toList = some (fillV c.toList ((partsOf TT t parts.toList).map fun q => (q.1, a.eval q.2.2.2))).toArray := by
      simp only [Program.built, hi, hu, hz, e1]
      have := fill_ok (pl.toArray[·]?) (parts.map fun (i, x) => (i, a.eval x)).toList ((partsOf TT t parts.toList).map fun q => (q.1, a.eval q.2.2.2)) c.toList (by simp [partsOf]) (fun j p q hp hq => by
        simp only [Array.toList_map, List.getElem?_map, partsOf, List.map_map, Option.map_eq_some_iff] at hp hq
        obtain ⟨p0, hp0, rfl⟩ := hp
        obtain ⟨q0, hq0, rfl⟩ := hq
        rw [hp0] at hq0
        injection hq0 with hq0; subst hq0
        have hm := List.mem_of_getElem? hp0
        have hlt0 := (hn p0 hm).1
        have := hq1 ((TT t).flds.getD p0.1 0, ((TT t).fk.getD p0.1 (0, 0)).1, ((TT t).fk.getD p0.1 (0, 0)).2, p0.2) (by simp only [partsOf, List.mem_map]; exact ⟨p0, hm, rfl⟩)
        simp only at this
        have e4 := e3 p0.1 (by omega)
        refine ⟨rfl, ?_, ?_⟩
        · simp only [Function.comp, List.getElem?_toArray]
          rw [e4, this.1]
        · simp only [Function.comp]
          rw [this.1, hzl]; exact this.2)
      simpa [Value.cells] using this
    simp only [execOp, ho, Sem.run_bind, run_build w t _ _ hb, Result.andThen_ok]
    rfl
  · rw [hd]
    exact lift0 (gg := true) h1 hlt (fun h => by cases h) hr1 hj1

def chunk (z : Nat) : Nat → List C → List (List C)
  | 0, _ => []
  | n + 1, cs => cs.take z :: chunk z n (cs.drop z)
theorem chunk_len (z : Nat) : ∀ (n : Nat) (cs : List C), (chunk z n cs).length = n
  | 0, _ => rfl
  | n + 1, cs => by simp [chunk, chunk_len z n]
theorem repR_chunk {W : World} {Z : Nat → Prop} {z : Nat} : ∀ (n : Nat) {cs : List C} {us : List Value} {bs : List Nat}, repL W Z cs us bs → cs.length = n * z → repR W Z z (chunk z n cs) us bs
  | 0, cs, us, bs, h, hl => by
    have : cs = [] := List.eq_nil_of_length_eq_zero (by omega)
    subst this
    exact h.2
  | n + 1, cs, us, bs, h, hl => by
    obtain ⟨b1, b2, rfl, h1, h2⟩ := repL_take1 z h
    have hul := repL_len h
    refine ⟨us.take z, us.drop z, b1, b2, (List.take_append_drop _ _).symm, ?_, rfl, h1, repR_chunk n h2 (by simp [hl, Nat.add_mul])⟩
    simp [hul, hl, Nat.add_mul]
theorem zeros_rep {W : World} {Z : Nat → Prop} {cs : List C} {us : List Value} (h : repL W Z cs us []) : ∀ n, repL W Z (List.replicate n cs).flatten (List.replicate n us).flatten []
  | 0 => ⟨rfl, rfl⟩
  | n + 1 => by
    have := repL_app h (zeros_rep h n)
    simpa [List.replicate_succ] using this
theorem zeros_cells (c : Array Value) (n : Nat) : ((Array.range (n * c.size)).map (c[· % c.size]!)).toList = (List.replicate n c.toList).flatten := by
  induction n with
  | zero => simp
  | succ n ih =>
    rw [List.replicate_succ', List.flatten_append, ← ih, Nat.add_mul, Nat.one_mul]
    apply List.ext_getElem
    · simp
    · intro i h1 h2
      simp at h1
      simp only [Array.toList_map, Array.toList_range, List.getElem_map, List.getElem_range, List.getElem_append, List.length_map, List.length_range]
      split
      · rfl
      · rename_i h3
        have hi : i - n * c.size < c.size := by omega
        have hm : i % c.size = i - n * c.size := by
          have e : i = (i - n * c.size) + n * c.size := by omega
          rw [e, Nat.add_mul_mod_self_right, Nat.mod_eq_of_lt hi]; omega
        simp only [List.flatten_singleton]
        rw [hm]
        simp [hi]
theorem Conc.newRow {w : World} {a : Act} {g : Gh} (h : Conc X st w a g) {cs : List C} {us : List Value} (T : TypeId) (i : Nat) (hr : repL w (Z0 X.w0 X.F) cs us (g.bl (.hand i))) :
    ∃ g', Conc X st (w.alloc (.cells us.toArray T)) a g' ∧ g'.bl (.hand i) = w.heap.size :: g.bl (.hand i) ∧ (∀ j, j ≠ i → g'.bl (.hand j) = g.bl (.hand j)) ∧ repL (w.alloc (.cells us.toArray T)) (Z0 X.w0 X.F) cs us (g.bl (.hand i)) := by
  have hkw : Keeps X.F X.w0 (w.alloc (.cells us.toArray T)) := h.keeps.trans (Keeps.alloc X.F w _) (fun x hx => .inl hx)
  have hlt : ∀ r, ∀ b ∈ g.bl r, b < w.heap.size := fun r b hb => (h.own.ok r b hb).2
  have hsame : ∀ b, b < w.heap.size → (w.alloc (.cells us.toArray T)).heap[b]? = w.heap[b]? := fun b hb => Go.RowKit.Below.heap_alloc _ _ _ hb
  have h2 := h.world hkw (by simp) (fun r _ b hb => hsame b (hlt r b hb))
  have hz : ∀ x, Z0 X.w0 X.F x → Z0 X.w0 X.F x ∧ (w.alloc (.cells us.toArray T)).heap[x]? = w.heap[x]? := fun x hx => ⟨hx, hsame x (Nat.lt_of_lt_of_le hx.1 h.keeps.size)⟩
  let bl : Rt → List Nat := fun r => if r = .hand i then w.heap.size :: g.bl (.hand i) else g.bl r
  have hown : Own X.F X.w0.heap.size (w.heap.size + 1) bl := by
    refine Own.step h.own (by omega) h.keeps.size (.hand i) (fun r => ?_) (fun r b hr hb => ?_) (fun b hb => ?_)
    · simp only [bl]
      split
      · exact List.nodup_cons.2 ⟨fun hm => by have := hlt _ _ hm; omega, h.own.nd _⟩
      · exact h.own.nd r
    · simpa only [bl, if_neg hr] using hb
    · simp only [bl, if_true] at hb
      rcases List.mem_cons.1 hb with rfl | hb
      · exact .inr (.inr ⟨Nat.le_refl _, by omega⟩)
      · exact .inl hb
  refine ⟨{ g with bl := bl }, ⟨hkw, h.tmps, h.defers, fun t cs hc => ?_, fun t => ?_, by simpa using hown⟩, by simp [bl], fun j hj => by simp [bl, hj], repL_frame cs hr (fun b hb => hsame b (hlt _ b hb)) hz⟩
  · have := h2.var t cs hc
    simpa [bl] using this
  · refine LOK.turn (h2.env t) ⟨fun _ _ _ => ⟨rfl, by simp [bl]⟩, fun _ _ => by simp [bl]⟩ fun r _ => ⟨rfl, rfl, by cases r <;> rfl⟩
/-- A slice in new memory, its elements in the hand. -/
theorem fresh_slice {w : World} {a : Act} {g : Gh} (h : Conc X st w a g) (hlt : X.ok d) {cs : List C} {us : List Value} {T : TypeId} {z n m : Nat} {rows : List (List C)} (hr : repL w (Z0 X.w0 X.F) cs us (g.bl (.hand 0))) (hj : ∀ j, j ≠ 0 → g.bl (.hand j) = [])
    (hrow : ∀ w', repL w' (Z0 X.w0 X.F) cs us (g.bl (.hand 0)) → repR w' (Z0 X.w0 X.F) z rows us (g.bl (.hand 0))) (hn : rows.length = n) (hnm : n ≤ m) (hl : m * z ≤ us.length) :
    R X (st.put d (.val false [.s true z rows])) (w.alloc (.cells us.toArray T)) (a.put (some d) (.slice (some ⟨w.heap.size, 0, none⟩) n m)) := by
  obtain ⟨g1, h1, e0, ej, hr1⟩ := h.newRow T 0 hr
  have hrep : repL (w.alloc (.cells us.toArray T)) (Z0 X.w0 X.F) [.s true z rows] [.slice (some ⟨w.heap.size, 0, none⟩) n m] (g1.bl (.hand 0)) := by
    rw [repL_single]
    refine ⟨_, rfl, some ⟨w.heap.size, 0, none⟩, m, by rw [hn], by omega, .inr ⟨us.toArray, T, (0, 0), g.bl (.hand 0), alloc_new w _, rfl, fun _ => ⟨rfl, e0, by simpa using hl⟩, (fun h => Bool.noConfusion h), ?_⟩⟩
    simpa using hrow _ hr1
  exact lift0 (gg := false) h1 hlt (fun _ => rfl) hrep (fun j hj' => by rw [ej j hj']; exact hj j hj')
/-- A slice of its parts. -/
def rowsOf (z zn : Nat) (ps : List (Nat × Operand)) : List (Nat × Nat × Nat × Operand) := ps.map fun q => (q.1 * z, z, zn, q.2)
theorem buildSlice_does {t : TypeId} {len e zn : Nat} {parts : Array (Nat × Operand)} {cs : List C} (ho : o.op = .buildSlice t len parts) (hT : TyOK P t (TT t)) (he : (TT t).elem = some e) (hTe : TyOK P e (TT e)) (hzl : (TT e).zero.length = (TT e).size)
    (hd : o.dst = some d) (hlt : X.ok d) (hsm : len * (TT e).size ≤ 16777216) (hp : st.parts (List.replicate len (TT e).zero).flatten (rowsOf (TT e).size zn parts.toList) = some (cs, st')) (hn : ∀ q ∈ parts.toList, ∀ t, q.2 = .tmp t → t < X.n) :
    Does P X o st (st'.put d (.val false [.s true (TT e).size (chunk (TT e).size len cs)])) := by
  intro w a ⟨g, h, hh⟩
  left
  obtain ⟨i, z, hi, hsz, _, hz, hzo, _⟩ := hTe.info
  have hu := hT.elem e he
  have hz1 : repL w (Z0 X.w0 X.F) (TT e).zero z.cells.toList [] := zeroOf_rep hzo
  have hzsz : z.cells.size = (TT e).size := by rw [← Array.length_toList, repL_len hz1, hzl]
  have hzr : repL w (Z0 X.w0 X.F) (List.replicate len (TT e).zero).flatten (List.replicate len z.cells.toList).flatten (g.bl (.hand 0)) := by rw [hh 0]; exact zeros_rep hz1 len
  obtain ⟨g1, h1, hr1, hj1, hl1, hq1⟩ := parts_conc (rowsOf (TT e).size zn parts.toList) h hp (fun q hq u hu => by
    simp only [rowsOf, List.mem_map] at hq
    obtain ⟨q', hq', rfl⟩ := hq
    exact hn q' hq' u hu) hzr (fun j _ => hh j)
  have hzl2 := repL_len hzr
  have hcl : cs.length = len * (TT e).size := by rw [hl1]; simp [hzl]
  let us := fillV (List.replicate len z.cells.toList).flatten ((rowsOf (TT e).size zn parts.toList).map fun q => (q.1, a.eval q.2.2.2))
  refine ⟨.slice (some ⟨w.heap.size, 0, none⟩) len len, w.alloc (.cells us.toArray e), ?_, ?_⟩
  · have hf : Instr.fill (fun i => some (i * (TT e).size, (TT e).size)) (List.replicate len z.cells.toList).flatten.toArray (parts.map fun (i, x) => (i, a.eval x)).toList = some us.toArray := by
      refine fill_ok _ _ _ _ (by simp [rowsOf]) (fun j p q hp hq => ?_)
      simp only [Array.toList_map, List.getElem?_map, rowsOf, List.map_map, Option.map_eq_some_iff] at hp hq
      obtain ⟨p0, hp0, rfl⟩ := hp
      obtain ⟨q0, hq0, rfl⟩ := hq
      rw [hp0] at hq0
      injection hq0 with hq0; subst hq0
      have hm := List.mem_of_getElem? hp0
      have := hq1 (p0.1 * (TT e).size, (TT e).size, zn, p0.2) (by simp only [rowsOf, List.mem_map]; exact ⟨p0, hm, rfl⟩)
      simp only at this
      exact ⟨rfl, by simp only [Function.comp]; rw [this.1], by simp only [Function.comp]; rw [this.1, hzl2]; exact this.2⟩
    have hzc : ((Array.range (len * (TT e).size)).map (z.cells[· % z.cells.size]!)) = (List.replicate len z.cells.toList).flatten.toArray := by
      have := zeros_cells z.cells len
      rw [hzsz] at this
      rw [← this, hzsz]
    by_cases hpos : len * (TT e).size = 0
    · have h0 : (List.replicate len z.cells.toList).flatten = [] := by
        apply List.eq_nil_of_length_eq_zero
        rw [hzl2]; simp [hzl, hpos]
      rw [h0] at hf hzc
      simp only [execOp, ho, Instr.buildSlice, Sem.run_bind, run_underlying hu, sizeOf, typeInfo, run_program, hi, Sem.run_pure, Result.andThen_ok, hsz]
      rw [if_neg (by omega), if_pos hpos]
      simp only [Sem.run_pure, Result.andThen_ok, hpos]
      have hr0 : ∀ f : Nat → Value, (Array.range 0).map f = #[] := fun f => by simp
      simp only [hr0]
      have hf' : Instr.fill (fun i => some (i * (TT e).size, (TT e).size)) #[] (parts.map fun (i, x) => (i, a.eval x)).toList = some us.toArray := hf
      simp only [hf', Sem.run_bind, newRow, run_newObj, Sem.run_pure, Result.andThen_ok]
      simp [hr0, hf', newRow]
    · have := run_buildSlice (P := P) w t e len (parts.map fun (i, x) => (i, a.eval x)) us.toArray i z hu hi hz (by rw [hsz]; omega) (by rw [hsz]; exact hpos) (by rw [hsz, hzc]; exact hf)
      simp only [execOp, ho, Sem.run_bind, this, Result.andThen_ok]
      rfl
  · rw [hd]
    have hul : us.length = len * (TT e).size := by rw [repL_len hr1, hcl]
    exact fresh_slice h1 hlt hr1 hj1 (fun w' hr => repR_chunk len hr hcl) (chunk_len _ _ _) (Nat.le_refl _) (by omega)
end Go.Lvm
