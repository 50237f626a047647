/- Lemmas of the by-value machine and of the data that the contracts speak of: each holds under the hypotheses that it states. -/
import Derived.Test.YtmfdechkhdjebaaLvm11
set_option linter.unusedVariables false
set_option linter.unusedSimpArgs false
namespace Go.Lvm
variable {P : Program} {TT : Nat → Ty} {X : Fx} {st st' : St} {o : Oper} {d : Nat}
/-! ### A place is lent -/
theorem setC_setC : ∀ (ps : Pth) {cs n1 n2 c1 : List C} {off : Nat}, setC cs off ps n1 = some c1 → n1.length = n2.length → setC c1 off ps n2 = setC cs off ps n2
  | [], cs, n1, n2, c1, off, h, hl => by
    simp only [setC] at h ⊢
    split at h
    · rename_i hle
      injection h with h; subst h
      have h1 : (cs.take off).length = off := by simp; omega
      have h2 : (cs.take off ++ n1).length = off + n2.length := by simp; omega
      rw [if_pos (by simp; omega), if_pos (by omega)]
      congr 1
      have e1 : (cs.take off ++ n1 ++ cs.drop (off + n1.length)).take off = cs.take off := by rw [List.append_assoc]; exact List.take_left' h1
      have e2 : (cs.take off ++ n1 ++ cs.drop (off + n1.length)).drop (off + n2.length) = cs.drop (off + n1.length) := List.drop_left' h2
      rw [e1, e2, hl]
    · cases h
  | (i, z, o) :: ps, cs, n1, n2, c1, off, h, hl => by
    simp only [setC] at h
    split at h
    · rename_i z' xs hc
      split at h
      · rename_i hz
        split at h
        · rename_i e he
          obtain ⟨e', h1, h2⟩ := Option.map_eq_some_iff.1 h
          subst h2; subst hz
          have ho : off < cs.length := by
            rcases Nat.lt_or_ge off cs.length with h | h
            · exact h
            · simp [List.getElem?_eq_none h] at hc
          have hi : i < xs.length := by
            rcases Nat.lt_or_ge i xs.length with h | h
            · exact h
            · simp [List.getElem?_eq_none h] at he
          simp only [setC, List.getElem?_set, ho, hi, if_true, he, hc, if_pos rfl]
          rw [setC_setC ps h1 hl]
          simp
        · cases h
      · cases h
    · cases h
theorem getC_setC : ∀ (ps : Pth) {cs n1 c1 : List C} {off : Nat}, setC cs off ps n1 = some c1 → getC c1 off ps n1.length = some n1
  | [], cs, n1, c1, off, h => by
    simp only [setC, getC] at h ⊢
    split at h
    · rename_i hle
      injection h with h; subst h
      have h1 : (cs.take off).length = off := by simp; omega
      rw [if_pos (by simp; omega)]
      congr 1
      rw [List.append_assoc, List.drop_append_of_le_length (by omega), List.drop_of_length_le (by omega)]
      simp
    · cases h
  | (i, z, o) :: ps, cs, n1, c1, off, h => by
    simp only [setC] at h
    split at h
    · rename_i z' xs hc
      split at h
      · rename_i hz
        split at h
        · rename_i e he
          obtain ⟨e', h1, h2⟩ := Option.map_eq_some_iff.1 h
          subst h2; subst hz
          have ho : off < cs.length := by
            rcases Nat.lt_or_ge off cs.length with h | h
            · exact h
            · simp [List.getElem?_eq_none h] at hc
          have hi : i < xs.length := by
            rcases Nat.lt_or_ge i xs.length with h | h
            · exact h
            · simp [List.getElem?_eq_none h] at he
          simp only [getC, List.getElem?_set, ho, hi, if_true, if_pos rfl]
          exact getC_setC ps h1
        · cases h
      · cases h
    · cases h
theorem leL_d : ∀ (cs : List C), leL (List.replicate cs.length .d) cs
  | [] => rfl
  | c :: cs => ⟨c, cs, rfl, trivial, leL_d cs⟩
theorem repL_d {W : World} {Z : Nat → Prop} : ∀ {us : List Value}, (∀ u ∈ us, u.oneCell' = true) → repL W Z (List.replicate us.length .d) us []
  | [], _ => ⟨rfl, rfl⟩
  | u :: us, h => ⟨u, us, [], [], rfl, rfl, ⟨h u (by simp), rfl⟩, repL_d fun x hx => h x (by simp [hx])⟩
theorem Conc.lend {w : World} {a : Act} {g : Gh} (h : Conc X st w a g) {r : Rt} {off : Nat} {ps : Pth} {cs sub cs' : List C} (hc : st.cells r = some cs) (hg : getC cs off ps sub.length = some sub)
    (hs : setC cs off ps (List.replicate sub.length .d) = some cs') (i : Nat) (hi : g.bl (.hand i) = []) :
    ∃ g' b p us', Conc X (st.setRoot r cs') w a g' ∧ g.rsv w r off ps = some (b, p, us') ∧ sub.length ≤ us'.length ∧ repL w (Z0 X.w0 X.F) sub (us'.take sub.length) (g'.bl (.hand i)) ∧ (∀ r', r' ≠ r → r' ≠ .hand i → g'.bl r' = g.bl r') ∧ (∀ r' off ps, g'.rsv w r' off ps = g.rsv w r' off ps) := by
  obtain ⟨pre, bs, hbl, hrep, hnd, hvar, hslot, hhand⟩ := h.cells_root hc
  have hlen : (List.replicate sub.length C.d).length = sub.length := by simp
  obtain ⟨b, p, us', b1, b2, b3, hr, hk, hbs, hsub, hle, hfin⟩ := less_ok ps (g.at_ r).1 (g.at_ r).2 off hrep (by rw [hlen]; exact hg) hs (leL_d sub) hnd
  rw [hlen] at hk hsub hfin
  have hul := repL_len hsub
  have hd := repL_d (W := w) (Z := Z0 X.w0 X.F) (repL_one hsub)
  rw [hul] at hd
  have hnew := hfin [] hd
  have hndall := h.own.nd r
  rw [hbl, hbs] at hndall
  have hown := Own.give h.own h.keeps.size (r := r) (i := i) (l := pre ++ (b1 ++ [] ++ b3)) (b := b2) (hhand i) (by
    have hp : ((pre ++ (b1 ++ [] ++ b3)) ++ b2).Perm (pre ++ (b1 ++ b2 ++ b3)) := by
      rw [List.perm_iff_count]
      intro y
      simp only [List.count_append, List.count_nil]
      omega
    exact hp.nodup_iff.2 hndall) (fun x hx => by rw [hbl, hbs]; simp at hx ⊢; grind)
  refine ⟨_, b, p, us', h.less hc hle hnew hvar hslot (g.give r (pre ++ (b1 ++ [] ++ b3)) i b2) (fun r' hr1 hr2 => by simp [Gh.give, hr2, hr1 i]) (by simp [Gh.give]) hown, hr, hk, ?_, fun r' h1 h2 => by simp [Gh.give, h1, h2], fun r' off ps => by cases r' <;> rfl⟩
  have : ¬ (Rt.hand i = r) := fun e => hhand i e.symm
  simpa [Gh.give, this] using hsub
theorem Conc.touch {w : World} {a : Act} {g : Gh} (h : Conc X st w a g) (r : Rt) : Conc X (st.touch r) w a g := by
  refine ⟨h.keeps, h.tmps, h.defers, h.var, fun t => ?_, h.own⟩
  have := h.env t
  show LOK _ _ _ _ _ _ _ ((st.env t).touch r)
  revert this
  cases st.env t with
  | ref r' off ps gg k => intro h1; simp only [L.touch]; split; · trivial
                          · exact ⟨h1.1, fun cs hc => h1.2 cs (by rw [← touch_cells st r]; exact hc)⟩
  | win r' off ps lo hi => intro h1; simp only [L.touch]; split; · trivial
                           · exact fun cs o z xs hc => h1 cs o z xs (by rw [← touch_cells st r]; exact hc)
  | ptr r' off ps => intro h1; simp only [L.touch]; split; · trivial
                     · exact ⟨h1.1, fun cs hc => h1.2 cs (by rw [← touch_cells st r]; exact hc)⟩
  | _ => exact id
/-- The hands' blocks are dealt anew, in a world that turned at these alone. -/
theorem Conc.deal {w w' : World} {a : Act} {g : Gh} (h : Conc X st w a g) (hk : Keeps X.F X.w0 w') (hsz : w.heap.size ≤ w'.heap.size) (hb : ∀ r, (∀ i, r ≠ .hand i) → ∀ b ∈ g.bl r, w'.heap[b]? = w.heap[b]?)
    (l : Nat → List Nat) (hnd : ∀ i, (l i).Nodup) (hdj : ∀ i j b, b ∈ l i → b ∈ l j → i = j) (hl : ∀ i b, b ∈ l i → (∃ j, b ∈ g.bl (.hand j)) ∨ (w.heap.size ≤ b ∧ b < w'.heap.size)) :
    ∃ g', Conc X st w' a g' ∧ ∀ i, g'.bl (.hand i) = l i := by
  have h2 := h.world hk hsz hb
  let bl : Rt → List Nat := fun r => match r with | .hand i => l i | r => g.bl r
  have hown : Own X.F X.w0.heap.size w'.heap.size bl := by
    have key : ∀ i r b, (∀ j, r ≠ .hand j) → b ∈ l i → b ∉ g.bl r := by
      intro i r b hr hbi hbr
      rcases hl i b hbi with ⟨j, hj⟩ | ⟨h1, h2⟩
      · exact hr j (h.own.dj _ _ _ hbr hj)
      · have := (h.own.ok _ _ hbr).2; omega
    refine ⟨fun r => ?_, fun r r' b h1 h3 => ?_, fun r b h1 => ?_⟩
    · cases r with
      | hand i => exact hnd i
      | _ => exact h.own.nd _
    · cases r with
      | hand i => cases r' with
        | hand j => exact congrArg Rt.hand (hdj i j b h1 h3)
        | var t => exact absurd h3 (key i (.var t) b (by simp) h1)
        | slot t => exact absurd h3 (key i (.slot t) b (by simp) h1)
      | var t => cases r' with
        | hand j => exact absurd h1 (key j (.var t) b (by simp) h3)
        | _ => exact h.own.dj _ _ _ h1 h3
      | slot t => cases r' with
        | hand j => exact absurd h1 (key j (.slot t) b (by simp) h3)
        | _ => exact h.own.dj _ _ _ h1 h3
    · cases r with
      | hand i =>
        rcases hl i b h1 with ⟨j, hj⟩ | ⟨h1, h2⟩
        · exact h2.own.ok _ _ hj
        · have := h.keeps.size; exact ⟨.inr (by omega), h2⟩
      | _ => exact h2.own.ok _ _ h1
  refine ⟨{ g with bl := bl }, ⟨h2.keeps, h2.tmps, h2.defers, h2.var, fun t => ?_, hown⟩, fun i => rfl⟩
  have := h2.env t
  exact LOK.turn this ⟨fun gg cs _ => ⟨rfl, rfl⟩, fun ls _ => rfl⟩ fun r hr => ⟨rfl, rfl, by cases r <;> rfl⟩
/-- What is in the hand is put back to where these values are. -/
theorem Conc.more {w : World} {a : Act} {g : Gh} (h : Conc X st w a g) {r : Rt} {off : Nat} {ps : Pth} {cs new cs' : List C} (hc : st.cells r = some cs) (hs : setC cs off ps new = some cs') (i : Nat) {b p : Nat} {us us' : List Value}
    (hrsv : g.rsv w r off ps = some (b, p, us')) (hus : us'.take new.length = us) (hr : repL w (Z0 X.w0 X.F) new us (g.bl (.hand i))) :
    ∃ g', Conc X ((st.setRoot r cs').touch r) w a g' ∧ g'.bl (.hand i) = [] ∧ (∀ j, j ≠ i → g'.bl (.hand j) = g.bl (.hand j)) := by
  obtain ⟨pre, bs, hbl, hrep, hnd, hvar, hslot, hhand⟩ := h.cells_root hc
  obtain ⟨b', p', us1, b1, b2, b3, hr', hk, hbs, ⟨sub', hg', hsub⟩, hnil, hcons, hfin⟩ := set_ok ps (g.at_ r).1 (g.at_ r).2 off hrep hs hnd
  unfold Gh.rsv at hrsv
  rw [hr'] at hrsv
  simp only [Option.some.injEq, Prod.mk.injEq] at hrsv
  obtain ⟨rfl, rfl, rfl⟩ := hrsv
  have hrep' := hfin w (Z0 X.w0 X.F) us _ hr (fun x hx => ⟨hx, rfl⟩) (fun x _ _ => rfl) (fun arr T hps hh => by
    obtain ⟨arr', T', fr', h1, h2⟩ := rsv_blk ps hr' hps
    rw [h1] at hh
    injection hh with hh; injection hh with hh1 hh2 hh3
    subst hh1; subst hh2; subst hh3
    rw [h1, ← hus, lput_same _ _ _ _ h2])
  have e : (if ps = [] then lput (g.us r) off us else g.us r) = g.us r := by
    split
    · rename_i hps; subst hps
      simp only [rsv, Option.some.injEq, Prod.mk.injEq] at hr'
      rw [← hus]
      exact lput_same _ _ _ _ hr'.2.2.symm
    · rfl
  rw [e] at hrep'
  have hlen' : cs'.length = cs.length := by have := repL_len hrep'; have := repL_len hrep; omega
  let bl : Rt → List Nat := fun r' => if r' = r then pre ++ (b1 ++ g.bl (.hand i) ++ b3) else if r' = .hand i then [] else g.bl r'
  have hndr := h.own.nd r
  rw [hbl, hbs] at hndr
  have hown : Own X.F X.w0.heap.size w.heap.size bl := by
    refine Own.step h.own (Nat.le_refl _) h.keeps.size r (fun r' => ?_) (fun r' x hr' hx => ?_) (fun x hx => ?_)
    · simp only [bl]
      split
      · have d1 : ∀ x, x ∈ g.bl (.hand i) → x ∉ pre ++ (b1 ++ b2 ++ b3) := fun x hx hm => hhand i (h.own.dj r (.hand i) x (by rw [hbl, hbs]; exact hm) hx)
        have d2 := h.own.nd (.hand i)
        simp only [List.nodup_append, List.mem_append] at hndr d1 ⊢
        grind
      · split
        · exact List.nodup_nil
        · exact h.own.nd r'
    · simp only [bl, if_neg hr'] at hx
      split at hx
      · cases hx
      · exact hx
    · simp only [bl, if_true] at hx
      simp only [List.mem_append] at hx
      rcases hx with hx | (hx | hx) | hx
      · exact .inl (by rw [hbl]; simp [hx])
      · exact .inl (by rw [hbl, hbs]; simp [hx])
      · refine .inr (.inl ⟨.hand i, hx, ?_⟩)
        have : ¬ (Rt.hand i = r) := fun e => hhand i e.symm
        simp [bl, this]
      · exact .inl (by rw [hbl, hbs]; simp [hx])
  let g' : Gh := { g with bl := bl }
  have hgs : ∀ r', r' ≠ r → (∀ j, r' ≠ .hand j) → bl r' = g.bl r' := fun r' h1 h2 => by simp [bl, h1, h2 i]
  have hcells := setRoot_cells (cs := cs') hc
  refine ⟨g', ⟨h.keeps, h.tmps, h.defers, fun t cs1 hc1 => ?_, fun t => ?_, hown⟩, ?_, fun j hj => ?_⟩
  · have hc1' : (st.setRoot r cs').cells (.var t) = some cs1 := hc1
    rw [hcells] at hc1'
    by_cases hrt : Rt.var t = r
    · subst hrt
      rw [if_pos rfl] at hc1'
      injection hc1' with hc1'; subst hc1'
      obtain ⟨arr0, T0, ob, e1, e2, e3, e4, e5⟩ := h.var t cs hc
      exact ⟨arr0, T0, b1 ++ g.bl (.hand i) ++ b3, e1, e2, by show bl (.var t) = g.ad t :: _; simp [bl, hvar t rfl], hrep', e5⟩
    · rw [if_neg hrt] at hc1'
      obtain ⟨arr0, T0, ob, e1, e2, e3, e4, e5⟩ := h.var t cs1 hc1'
      exact ⟨arr0, T0, ob, e1, e2, by show bl _ = _; rw [hgs _ hrt (by simp)]; exact e3, e4, e5⟩
  · have henv := h.env t
    by_cases hrt : Rt.slot t = r
    · subst hrt
      have hst : ((st.setRoot (.slot t) cs').touch (.slot t)).env t = ((st.env t).setCells cs').touch (.slot t) := by simp [St.setRoot, St.touch]
      rw [hst]
      have hc0 := hc
      simp only [St.cells] at hc0
      cases he : st.env t with
      | val gg cs0 =>
        rw [he] at hc0 henv
        injection hc0 with hc0; subst hc0
        refine ⟨henv.1, fun hgg => by rw [hlen']; exact henv.2.1 hgg, ?_⟩
        show repL _ _ _ _ (bl _)
        simp only [bl, if_true, hslot t rfl, List.nil_append]
        exact hrep'
      | _ => rw [he] at hc0; cases hc0
    · have hst : ((st.setRoot r cs').touch r).env t = (st.env t).touch r := by
        cases r with
        | slot u =>
          have : ¬ t = u := fun e => hrt (by rw [e])
          simp [St.setRoot, St.touch, this]
        | _ => rfl
      rw [hst]
      have k1 : g'.bl (.slot t) = g.bl (.slot t) := hgs (.slot t) hrt (by simp)
      rw [k1]
      have hroot : ∀ r' cs1, r' ≠ r → ((st.setRoot r cs').touch r).cells r' = some cs1 → st.cells r' = some cs1 := by
        intro r' cs1 hr' hcc
        rw [touch_cells, hcells, if_neg hr'] at hcc
        exact hcc
      revert henv
      cases st.env t with
      | ref r' off1 ps1 gg k =>
        rintro ⟨h1, h2⟩
        simp only [L.touch]
        split
        · trivial
        · rename_i hr'
          exact ⟨h1, fun cs1 hcc => h2 cs1 (hroot r' cs1 hr' hcc)⟩
      | win r' off1 ps1 lo hi =>
        intro h2
        simp only [L.touch]
        split
        · trivial
        · rename_i hr'
          exact fun cs1 o z xs hcc => h2 cs1 o z xs (hroot r' cs1 hr' hcc)
      | ptr r' off1 ps1 =>
        rintro ⟨h1, h2⟩
        simp only [L.touch]
        split
        · trivial
        · rename_i hn
          refine ⟨h1, fun cs1 hcc hg => ?_⟩
          by_cases hr' : r' = r
          · subst hr'
            have hps1 : ps1 = [] := Classical.byContradiction fun e => hn ⟨rfl, e⟩
            subst hps1
            rw [touch_cells, hcells, if_pos rfl] at hcc
            injection hcc with hcc; subst hcc
            have hg1 : getC cs off1 [] 0 ≠ none := by
              simp only [getC] at hg ⊢
              rw [← hlen']; exact hg
            exact h2 cs hc hg1
          · exact h2 cs1 (hroot r' cs1 hr' hcc) hg
      | _ => exact id
  · show bl _ = []
    have : ¬ (Rt.hand i = r) := fun e => hhand i e.symm
    simp [bl, this]
  · show bl _ = _
    have : ¬ (Rt.hand j = r) := fun e => hhand j e.symm
    simp [bl, this, hj]
/-- Views behind a path are given up; what stands at the top is as it was. -/
def L.touch2 (r : Rt) : L → L
  | .ref r' off ps g k => if r' = r ∧ ps ≠ [] then .dead else .ref r' off ps g k
  | .win r' off ps lo hi => if r' = r then .dead else .win r' off ps lo hi
  | .ptr r' off ps => if r' = r ∧ ps ≠ [] then .dead else .ptr r' off ps
  | l => l
def St.touch2 (st : St) (r : Rt) : St := { st with env := fun t => (st.env t).touch2 r }
theorem touch2_lcells (r : Rt) (l : L) : (l.touch2 r).cells = l.cells := by
  cases l <;> simp only [L.touch2] <;> (try split) <;> rfl
theorem touch2_cells (st : St) (r r' : Rt) : (st.touch2 r).cells r' = st.cells r' := by
  cases r' with
  | var t => rfl
  | hand i => rfl
  | slot t =>
    simp only [St.cells, St.touch2, touch2_lcells]
theorem Conc.more2 {w : World} {a : Act} {g : Gh} (h : Conc X st w a g) {r : Rt} {off : Nat} {ps : Pth} {cs new cs' : List C} (hc : st.cells r = some cs) (hs : setC cs off ps new = some cs') (i : Nat) {b p : Nat} {us us' : List Value}
    (hrsv : g.rsv w r off ps = some (b, p, us')) (hus : us'.take new.length = us) (hr : repL w (Z0 X.w0 X.F) new us (g.bl (.hand i))) :
    ∃ g', Conc X ((st.setRoot r cs').touch2 r) w a g' ∧ g'.bl (.hand i) = [] ∧ (∀ j, j ≠ i → g'.bl (.hand j) = g.bl (.hand j)) := by
  obtain ⟨pre, bs, hbl, hrep, hnd, hvar, hslot, hhand⟩ := h.cells_root hc
  obtain ⟨b', p', us1, b1, b2, b3, hr', hk, hbs, ⟨sub', hg', hsub⟩, hnil, hcons, hfin⟩ := set_ok ps (g.at_ r).1 (g.at_ r).2 off hrep hs hnd
  unfold Gh.rsv at hrsv
  rw [hr'] at hrsv
  simp only [Option.some.injEq, Prod.mk.injEq] at hrsv
  obtain ⟨rfl, rfl, rfl⟩ := hrsv
  have hrep' := hfin w (Z0 X.w0 X.F) us _ hr (fun x hx => ⟨hx, rfl⟩) (fun x _ _ => rfl) (fun arr T hps hh => by
    obtain ⟨arr', T', fr', h1, h2⟩ := rsv_blk ps hr' hps
    rw [h1] at hh
    injection hh with hh; injection hh with hh1 hh2 hh3
    subst hh1; subst hh2; subst hh3
    rw [h1, ← hus, lput_same _ _ _ _ h2])
  have e : (if ps = [] then lput (g.us r) off us else g.us r) = g.us r := by
    split
    · rename_i hps; subst hps
      simp only [rsv, Option.some.injEq, Prod.mk.injEq] at hr'
      rw [← hus]
      exact lput_same _ _ _ _ hr'.2.2.symm
    · rfl
  rw [e] at hrep'
  have hlen' : cs'.length = cs.length := by have := repL_len hrep'; have := repL_len hrep; omega
  let bl : Rt → List Nat := fun r' => if r' = r then pre ++ (b1 ++ g.bl (.hand i) ++ b3) else if r' = .hand i then [] else g.bl r'
  have hndr := h.own.nd r
  rw [hbl, hbs] at hndr
  have hown : Own X.F X.w0.heap.size w.heap.size bl := by
    refine Own.step h.own (Nat.le_refl _) h.keeps.size r (fun r' => ?_) (fun r' x hr' hx => ?_) (fun x hx => ?_)
    · simp only [bl]
      split
      · have d1 : ∀ x, x ∈ g.bl (.hand i) → x ∉ pre ++ (b1 ++ b2 ++ b3) := fun x hx hm => hhand i (h.own.dj r (.hand i) x (by rw [hbl, hbs]; exact hm) hx)
        have d2 := h.own.nd (.hand i)
        simp only [List.nodup_append, List.mem_append] at hndr d1 ⊢
        grind
      · split
        · exact List.nodup_nil
        · exact h.own.nd r'
    · simp only [bl, if_neg hr'] at hx
      split at hx
      · cases hx
      · exact hx
    · simp only [bl, if_true] at hx
      simp only [List.mem_append] at hx
      rcases hx with hx | (hx | hx) | hx
      · exact .inl (by rw [hbl]; simp [hx])
      · exact .inl (by rw [hbl, hbs]; simp [hx])
      · refine .inr (.inl ⟨.hand i, hx, ?_⟩)
        have : ¬ (Rt.hand i = r) := fun e => hhand i e.symm
        simp [bl, this]
      · exact .inl (by rw [hbl, hbs]; simp [hx])
  let g' : Gh := { g with bl := bl }
  have hgs : ∀ r', r' ≠ r → (∀ j, r' ≠ .hand j) → bl r' = g.bl r' := fun r' h1 h2 => by simp [bl, h1, h2 i]
  have hcells := setRoot_cells (cs := cs') hc
  refine ⟨g', ⟨h.keeps, h.tmps, h.defers, fun t cs1 hc1 => ?_, fun t => ?_, hown⟩, ?_, fun j hj => ?_⟩
  · have hc1' : (st.setRoot r cs').cells (.var t) = some cs1 := hc1
    rw [hcells] at hc1'
    by_cases hrt : Rt.var t = r
    · subst hrt
      rw [if_pos rfl] at hc1'
      injection hc1' with hc1'; subst hc1'
      obtain ⟨arr0, T0, ob, e1, e2, e3, e4, e5⟩ := h.var t cs hc
      exact ⟨arr0, T0, b1 ++ g.bl (.hand i) ++ b3, e1, e2, by show bl (.var t) = g.ad t :: _; simp [bl, hvar t rfl], hrep', e5⟩
    · rw [if_neg hrt] at hc1'
      obtain ⟨arr0, T0, ob, e1, e2, e3, e4, e5⟩ := h.var t cs1 hc1'
      exact ⟨arr0, T0, ob, e1, e2, by show bl _ = _; rw [hgs _ hrt (by simp)]; exact e3, e4, e5⟩
  · have henv := h.env t
    by_cases hrt : Rt.slot t = r
    · subst hrt
      have hst : ((st.setRoot (.slot t) cs').touch2 (.slot t)).env t = ((st.env t).setCells cs').touch2 (.slot t) := by simp [St.setRoot, St.touch2]
      rw [hst]
      have hc0 := hc
      simp only [St.cells] at hc0
      cases he : st.env t with
      | val gg cs0 =>
        rw [he] at hc0 henv
        injection hc0 with hc0; subst hc0
        refine ⟨henv.1, fun hgg => by rw [hlen']; exact henv.2.1 hgg, ?_⟩
        show repL _ _ _ _ (bl _)
        simp only [bl, if_true, hslot t rfl, List.nil_append]
        exact hrep'
      | _ => rw [he] at hc0; cases hc0
    · have hst : ((st.setRoot r cs').touch2 r).env t = (st.env t).touch2 r := by
        cases r with
        | slot u =>
          have : ¬ t = u := fun e => hrt (by rw [e])
          simp [St.setRoot, St.touch2, this]
        | _ => rfl
      rw [hst]
      have k1 : g'.bl (.slot t) = g.bl (.slot t) := hgs (.slot t) hrt (by simp)
      rw [k1]
      have hroot : ∀ r' cs1, r' ≠ r → ((st.setRoot r cs').touch2 r).cells r' = some cs1 → st.cells r' = some cs1 := by
        intro r' cs1 hr' hcc
        rw [touch2_cells, hcells, if_neg hr'] at hcc
        exact hcc
      revert henv
      cases st.env t with
      | ref r' off1 ps1 gg k =>
        rintro ⟨h1, h2⟩
        simp only [L.touch2]
        split
        · trivial
        · rename_i hn
          refine ⟨h1, fun cs1 hcc hg => ?_⟩
          by_cases hr' : r' = r
          · subst hr'
            have hps1 : ps1 = [] := Classical.byContradiction fun e => hn ⟨rfl, e⟩
            subst hps1
            rw [touch2_cells, hcells, if_pos rfl] at hcc
            injection hcc with hcc; subst hcc
            have hg1 : getC cs off1 [] k ≠ none := by
              simp only [getC] at hg ⊢
              rw [← hlen']
              intro he
              apply hg
              split at he
              · cases he
              · rename_i hh; rw [if_neg hh]
            exact h2 cs hc hg1
          · exact h2 cs1 (hroot r' cs1 hr' hcc) hg
      | win r' off1 ps1 lo hi =>
        intro h2
        simp only [L.touch2]
        split
        · trivial
        · rename_i hr'
          exact fun cs1 o z xs hcc => h2 cs1 o z xs (hroot r' cs1 hr' hcc)
      | ptr r' off1 ps1 =>
        rintro ⟨h1, h2⟩
        simp only [L.touch2]
        split
        · trivial
        · rename_i hn
          refine ⟨h1, fun cs1 hcc hg => ?_⟩
          by_cases hr' : r' = r
          · subst hr'
            have hps1 : ps1 = [] := Classical.byContradiction fun e => hn ⟨rfl, e⟩
            subst hps1
            rw [touch2_cells, hcells, if_pos rfl] at hcc
            injection hcc with hcc; subst hcc
            have hg1 : getC cs off1 [] 0 ≠ none := by
              simp only [getC] at hg ⊢
              rw [← hlen']; exact hg
            exact h2 cs hc hg1
          · exact h2 cs1 (hroot r' cs1 hr' hcc) hg
      | _ => exact id
  · show bl _ = []
    have : ¬ (Rt.hand i = r) := fun e => hhand i e.symm
    simp [bl, this]
  · show bl _ = _
    have : ¬ (Rt.hand j = r) := fun e => hhand j e.symm
    simp [bl, this, hj]
end Go.Lvm
