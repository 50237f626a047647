/- Lemmas of the by-value machine and of the data that the contracts speak of: each holds under the hypotheses that it states. -/
import Derived.Test.YtmfdechkhdjebaaLvm1
import Derived.Laws.CopyRow
set_option linter.unusedVariables false
set_option linter.unusedSimpArgs false
namespace Go.Lvm
def isSt : C → Bool
  | .v _ => true
  | .s o _ _ => !o
  | .d => false
def L.setCells (l : L) (cs : List C) : L :=
  match l with
  | .val g _ => .val g cs
  | l => l
def St.setRoot (st : St) (r : Rt) (cs : List C) : St :=
  match r with
  | .var t => { st with var := fun u => if u = t then some cs else st.var u }
  | .slot t => { st with env := fun u => if u = t then (st.env u).setCells cs else st.env u }
  | .hand _ => st
theorem setRoot_cells {st : St} {r : Rt} {cs old : List C} (hr : st.cells r = some old) (r' : Rt) : (st.setRoot r cs).cells r' = if r' = r then some cs else st.cells r' := by
  cases r with
  | var t => cases r' <;> simp [St.setRoot, St.cells]
  | slot t =>
    cases r' with
    | var u => simp [St.setRoot, St.cells]
    | hand i => simp [St.cells]
    | slot u =>
      simp only [St.setRoot, St.cells, Rt.slot.injEq]
      by_cases hu : u = t
      · subst hu
        simp only [if_true]
        simp only [St.cells] at hr
        cases h : st.env u <;> rw [h] at hr <;> simp [L.cells] at hr
        simp [L.setCells, L.cells]
      · simp [hu]
  | hand i => cases hr
def St.take (st : St) (t : Nat) : Option (Bool × List C × St) :=
  match st.env t with
  | .val g cs => some (g, cs, if cs.all isSt then st else st.put t .dead)
  | .ref r off ps g k => match st.cells r with
    | some cs => match getC cs off ps k with
      | some sub => if sub.all isSt then some (g, sub, st) else (setC cs off ps (sub.map gone)).map fun cs' => (g, sub, st.setRoot r cs')
      | none => none
    | none => none
  | .win r off ps lo hi => match st.cells r with
    | some cs => match getC cs off ps 1 with
      | some [.s o z xs] => if o = false then some (false, [.s false z ((xs.drop lo).take (hi - lo))], st) else
          (setC cs off ps [.d]).map fun cs' => (false, [.s true z ((xs.drop lo).take (hi - lo))], st.setRoot r cs')
      | _ => none
    | none => none
  | _ => none

/-- What a root's cells are in memory: block, place, blocks of its own. -/
theorem Conc.root {X : Fx} {st : St} {w : World} {a : Act} {g : Gh} (h : Conc X st w a g) {r : Rt} {cs : List C} (hr : st.cells r = some cs) :
    ∃ pre bs, g.bl r = pre ++ bs ∧ repL w (Z0 X.w0 X.F) cs (g.us r) bs ∧ bs.Nodup := by
  cases r with
  | var t =>
    obtain ⟨arr, T, ob, h1, h2, h3, h4, h5⟩ := h.var t cs hr
    refine ⟨[g.ad t], ob, h3, h4, ?_⟩
    have := h.own.nd (.var t)
    rw [h3] at this
    exact (List.nodup_cons.1 this).2
  | slot t =>
    have := h.env t
    simp only [St.cells] at hr
    cases he : st.env t with
    | val gg cs' =>
      rw [he] at hr this
      injection hr with hr; subst hr
      exact ⟨[], g.bl (.slot t), rfl, this.2.2, h.own.nd _⟩
    | _ => rw [he] at hr; cases hr
  | hand i => cases hr
/-- Nothing in memory turns: a root's cells are told as less than before. -/
theorem Conc.less {X : Fx} {st : St} {w : World} {a : Act} {g : Gh} (h : Conc X st w a g) {r : Rt} {cs cs' : List C} {pre bs' : List Nat} (hr : st.cells r = some cs) (hle : leL cs' cs)
    (hrep : repL w (Z0 X.w0 X.F) cs' (g.us r) bs')
    (hvar : ∀ t, r = .var t → pre = [g.ad t]) (hslot : ∀ t, r = .slot t → pre = [])
    (bl : Rt → List Nat) (h1 : ∀ r', (∀ i, r' ≠ .hand i) → r' ≠ r → bl r' = g.bl r') (h2 : bl r = pre ++ bs') (hown : Own X.F X.w0.heap.size w.heap.size bl) :
    Conc X (st.setRoot r cs') w a { g with bl := bl } := by
  have hcells := setRoot_cells (cs := cs') hr
  have hg : ∀ r' cs1, (st.setRoot r cs').cells r' = some cs1 → ∃ cs2, st.cells r' = some cs2 ∧ leL cs1 cs2 := by
    intro r' cs1 hc
    rw [hcells] at hc
    split at hc
    · rename_i e; subst e
      injection hc with hc; subst hc
      exact ⟨cs, hr, hle⟩
    · exact ⟨cs1, hc, leL_refl _⟩
  refine ⟨h.keeps, h.tmps, h.defers, fun t cs1 hc => ?_, fun t => ?_, hown⟩
  · by_cases hrt : r = .var t
    · subst hrt
      obtain ⟨arr, T, ob, g1, g2, g3, g4, g5⟩ := h.var t cs hr
      have hcc : cs1 = cs' := by simpa [St.setRoot] using hc.symm
      subst hcc
      exact ⟨arr, T, bs', g1, g2, by show bl _ = _; rw [h2, hvar t rfl]; rfl, hrep, g5⟩
    · have hc' : st.var t = some cs1 := by
        have := hcells (.var t)
        rw [if_neg (fun e => hrt e.symm)] at this
        show st.cells (.var t) = some cs1
        rw [← this]; exact hc
      obtain ⟨arr, T, ob, g1, g2, g3, g4, g5⟩ := h.var t cs1 hc'
      exact ⟨arr, T, ob, g1, g2, by show bl _ = _; rw [h1 _ (by simp) (fun e => hrt e.symm)]; exact g3, g4, g5⟩
  · have henv := h.env t
    by_cases hrt : r = .slot t
    · subst hrt
      have hst : (st.setRoot (.slot t) cs').env t = (st.env t).setCells cs' := by simp [St.setRoot]
      rw [hst]
      simp only [St.cells] at hr
      cases he : st.env t with
      | val gg cs0 =>
        rw [he] at hr henv
        injection hr with hr; subst hr
        refine ⟨henv.1, fun hgg => by have := leL_len hle; have := henv.2.1 hgg; omega, ?_⟩
        show repL _ _ _ _ (bl _)
        rw [h2, hslot t rfl]; exact hrep
      | _ => rw [he] at hr; cases hr
    · have hst : (st.setRoot r cs').env t = st.env t := by
        cases r with
        | slot u =>
          have : ¬ t = u := fun e => hrt (by rw [e])
          simp [St.setRoot, this]
        | _ => rfl
      rw [hst]
      have hbs : bl (.slot t) = g.bl (.slot t) := h1 _ (by simp) (fun e => hrt e.symm)
      show LOK _ _ _ _ (bl (.slot t)) _ _ _
      rw [hbs]
      revert henv
      cases st.env t with
      | dead => exact id
      | val gg cs0 => exact id
      | ref r' off ps gg k =>
        rintro ⟨e1, e2⟩
        refine ⟨e1, fun cs1 hc hn => ?_⟩
        obtain ⟨cs2, hc2, hl⟩ := hg r' cs1 hc
        obtain ⟨sub, hsub⟩ := Option.ne_none_iff_exists'.1 hn
        obtain ⟨sub', hsub', _⟩ := get_mono ps off k hl hsub
        exact e2 cs2 hc2 (by rw [hsub']; simp)
      | ptr r' off ps =>
        rintro ⟨e1, e2⟩
        refine ⟨e1, fun cs1 hc hn => ?_⟩
        obtain ⟨cs2, hc2, hl⟩ := hg r' cs1 hc
        obtain ⟨sub, hsub⟩ := Option.ne_none_iff_exists'.1 hn
        obtain ⟨sub', hsub', _⟩ := get_mono ps off 0 hl hsub
        exact e2 cs2 hc2 (by rw [hsub']; simp)
      | win r' off ps lo hi =>
        intro e2 cs1 o z xs hc hn
        obtain ⟨cs2, hc2, hl⟩ := hg r' cs1 hc
        obtain ⟨sub', hsub', hle'⟩ := get_mono ps off 1 hl hn
        obtain ⟨c', bs1, rfl, ⟨ys, rfl, hys⟩, hnil⟩ := hle'
        have hnil' : bs1 = [] := hnil
        subst hnil'
        have := e2 cs2 o z ys hc2 hsub'
        rw [leR_len hys]; exact this
      | sptr c i z off => exact id
      | tup ls => exact id

theorem repR_drop {W : World} {Z : Nat → Prop} {z : Nat} : ∀ (n : Nat) {xs : List (List C)} {us : List Value} {bs : List Nat}, repR W Z z xs us bs → n ≤ xs.length → ∃ b1 b2, bs = b1 ++ b2 ∧ repR W Z z (xs.drop n) (us.drop (n * z)) b2
  | 0, xs, us, bs, h, _ => ⟨[], bs, rfl, by simpa using h⟩
  | n + 1, [], us, bs, h, hn => by simp at hn
  | n + 1, x :: xs, us, bs, h, hn => by
    obtain ⟨u1, us', b1, b2, rfl, hl, rfl, h1, h2⟩ := h
    obtain ⟨d1, d2, rfl, h3⟩ := repR_drop n h2 (by simpa using hn)
    refine ⟨b1 ++ d1, d2, by simp, ?_⟩
    rw [List.drop_succ_cons, show (n + 1) * z = u1.length + n * z by rw [hl, Nat.add_mul]; omega, ← List.drop_drop, List.drop_left]
    exact h3
theorem repR_take {W : World} {Z : Nat → Prop} {z : Nat} : ∀ (n : Nat) {xs : List (List C)} {us : List Value} {bs : List Nat}, repR W Z z xs us bs → ∃ b1 b2, bs = b1 ++ b2 ∧ repR W Z z (xs.take n) us b1
  | 0, xs, us, bs, h => ⟨[], bs, rfl, rfl⟩
  | n + 1, [], us, bs, h => ⟨bs, [], by simp, h⟩
  | n + 1, x :: xs, us, bs, h => by
    obtain ⟨u1, us', b1, b2, rfl, hl, rfl, h1, h2⟩ := h
    obtain ⟨d1, d2, rfl, h3⟩ := repR_take n h2
    exact ⟨b1 ++ d1, d2, by simp, u1, us', b1, d1, rfl, hl, rfl, h1, h3⟩
theorem add_none (b o n : Nat) : (⟨b, o, none⟩ : Addr).add n = ⟨b, o + n, none⟩ := by
  unfold Addr.add; split <;> simp_all
theorem repC_win {W : World} {Z : Nat → Prop} {o : Bool} {z lo hi : Nat} {xs : List (List C)} {u : Value} {bs : List Nat} (h : repC W Z (.s o z xs) u bs) (h1 : lo ≤ hi) (h2 : hi ≤ xs.length) :
    ∃ bs', repC W Z (.s o z ((xs.drop lo).take (hi - lo))) (winV z lo hi u) bs' ∧ bs'.Sublist bs := by
  obtain ⟨A, c, rfl, hlc, hA⟩ := h
  have hlen : ((xs.drop lo).take (hi - lo)).length = hi - lo := by simp; omega
  cases A with
  | none =>
    have h0 : lo = 0 := by omega
    have h3 : hi = 0 := by omega
    subst h0; subst h3
    obtain ⟨e1, rfl, rfl⟩ := hA
    exact ⟨[], ⟨none, 0, by simp [winV], by simp, by simp, rfl, rfl⟩, List.Sublist.refl _⟩
  | some ad =>
    rcases hA with ⟨ho, hx, rfl⟩ | ⟨arr, T, fr, inn, g1, g2, g3, g4, g5⟩
    · have h0 : lo = 0 := by omega
      have h3 : hi = 0 := by omega
      subst h0; subst h3
      refine ⟨[], ⟨some (if 0 = c then ad else ad.add 0), c, ?_, by simp, .inl ⟨ho, by simp, rfl⟩⟩, List.Sublist.refl _⟩
      simp only [winV, Nat.zero_mul, Option.map_some]
      split <;> simp
    · obtain ⟨d1, d2, rfl, h5⟩ := repR_drop lo g5 (by omega)
      obtain ⟨d3, d4, rfl, h6⟩ := repR_take (hi - lo) h5
      obtain ⟨b, off, sp⟩ := ad
      simp only at g2; subst g2
      have hrest : ∀ ad', (ad' = ⟨b, off + lo * z, none⟩) ∨ (ad' = ⟨b, off, none⟩ ∧ lo = c) → ∃ bs', repC W Z (.s o z ((xs.drop lo).take (hi - lo))) (.slice (some ad') (hi - lo) (c - lo)) bs' ∧ bs'.Sublist bs := by
        intro ad' had
        have hrow : repR W Z z ((xs.drop lo).take (hi - lo)) (arr.toList.drop ad'.off) d3 := by
          rcases had with rfl | ⟨rfl, he⟩
          · rw [← List.drop_drop]; exact h6
          · have : (xs.drop lo).take (hi - lo) = [] := List.eq_nil_of_length_eq_zero (by omega)
            rw [this] at h6 ⊢
            exact h6
        cases o with
        | true =>
          obtain ⟨rfl, rfl, hcap⟩ := g3 rfl
          have hcap : off + c * z ≤ arr.size := hcap
          refine ⟨b :: d3, ⟨some ad', c - lo, by rw [hlen], by omega, .inr ⟨arr, T, (0, 0), d3, ?_, ?_, fun _ => ⟨rfl, ?_, ?_⟩, (fun h => Bool.noConfusion h), hrow⟩⟩, ?_⟩
          · rcases had with rfl | ⟨rfl, _⟩ <;> exact g1
          · rcases had with rfl | ⟨rfl, _⟩ <;> rfl
          · rcases had with rfl | ⟨rfl, _⟩ <;> rfl
          · rcases had with rfl | ⟨rfl, he⟩
            · have : lo * z + (c - lo) * z = c * z := by rw [← Nat.add_mul]; congr 1; omega
              show off + lo * z + (c - lo) * z ≤ _
              omega
            · subst he; simp only [Nat.sub_self, Nat.zero_mul]; show off + 0 ≤ _; omega
          · exact List.Sublist.cons_cons _ (((List.sublist_append_left d3 d4).trans (List.sublist_append_right d1 _)))
        | false =>
          obtain ⟨hz, rfl, hin⟩ := g4 rfl
          have : d3 = [] := by simp at hin; exact hin.2.1
          subst this
          refine ⟨[], ⟨some ad', c - lo, by rw [hlen], by omega, .inr ⟨arr, T, fr, [], ?_, ?_, (fun h => Bool.noConfusion h), fun _ => ⟨?_, rfl, rfl⟩, hrow⟩⟩, List.Sublist.refl _⟩
          · rcases had with rfl | ⟨rfl, _⟩ <;> exact g1
          · rcases had with rfl | ⟨rfl, _⟩ <;> rfl
          · rcases had with rfl | ⟨rfl, _⟩ <;> exact hz
      simp only [winV, Option.map_some]
      split
      · rename_i he
        exact hrest _ (.inr ⟨rfl, he⟩)
      · exact hrest _ (.inl (add_none _ _ _))

theorem repL_st {W : World} {Z : Nat → Prop} : ∀ {cs : List C} {us : List Value} {bs : List Nat}, repL W Z cs us bs → cs.all isSt = true → bs = []
  | [], us, bs, h, _ => h.2
  | c :: cs, us, bs, h, hs => by
    obtain ⟨u, us', b1, b2, rfl, rfl, h1, h2⟩ := h
    simp only [List.all_cons, Bool.and_eq_true] at hs
    rw [repL_st h2 hs.2, List.append_nil]
    cases c with
    | v x => exact h1.2.2
    | d => exact h1.2
    | s o z xs =>
      cases o with
      | true => simp [isSt] at hs
      | false =>
        obtain ⟨A, c, rfl, hlc, hA⟩ := h1
        cases A with
        | none => exact hA.2.2
        | some ad =>
          rcases hA with hA | ⟨arr, T, fr, inn, g1, g2, g3, g4, g5⟩
          · exact hA.2.2
          · exact (g4 rfl).2.1
theorem put_self {a : Act} {n t : Nat} (h : a.tmps.size = n) (ht : t < n) : a.put (some t) (a.tmps.getD t undef) = a := by
  have : a.tmps.setIfInBounds t (a.tmps.getD t undef) = a.tmps := by
    apply Array.ext
    · exact Array.size_setIfInBounds
    · intro j h1 h2
      rw [Array.getElem_setIfInBounds]
      split
      · rename_i e; subst e; rw [Array.getD_eq_getD_getElem?, Array.getElem?_eq_getElem h2]; rfl
      · rfl
  show { a with tmps := a.tmps.setIfInBounds t (a.tmps.getD t undef) } = a
  rw [this]
def Gh.give (g : Gh) (r : Rt) (l : List Nat) (i : Nat) (b : List Nat) : Rt → List Nat := fun r' => if r' = r then l else if r' = .hand i then b else g.bl r'
/-- Blocks go from a root to the hand. -/
theorem Own.give {F : List Nat} {n0 n : Nat} {g : Gh} (h : Own F n0 n g.bl) (h0 : n0 ≤ n) {r : Rt} {i : Nat} {l b : List Nat} (hr : r ≠ .hand i) (hl : (l ++ b).Nodup) (hsub : ∀ x, x ∈ l ++ b → x ∈ g.bl r) :
    Own F n0 n (g.give r l i b) := by
  simp only [List.nodup_append] at hl
  refine Own.step h (Nat.le_refl _) h0 (.hand i) (fun r' => ?_) (fun r' x hr' hx => ?_) (fun x hx => ?_)
  · unfold Gh.give
    split
    · exact hl.1
    · split
      · exact hl.2.1
      · exact h.nd r'
  · unfold Gh.give at hx
    by_cases e : r' = r
    · rw [if_pos e] at hx; subst e; exact hsub x (by simp [hx])
    · rw [if_neg e, if_neg hr'] at hx; exact hx
  · unfold Gh.give at hx ⊢
    rw [if_neg (fun e => hr e.symm), if_pos rfl] at hx
    refine .inr (.inl ⟨r, hsub x (by simp [hx]), ?_⟩)
    rw [if_pos rfl]
    exact fun hm => hl.2.2 x hm x hx rfl
theorem Conc.cells_root {X : Fx} {st : St} {w : World} {a : Act} {g : Gh} (h : Conc X st w a g) {r : Rt} {cs : List C} (hr : st.cells r = some cs) :
    ∃ pre bs, g.bl r = pre ++ bs ∧ repL w (Z0 X.w0 X.F) cs (g.us r) bs ∧ bs.Nodup ∧ (∀ t, r = .var t → pre = [g.ad t]) ∧ (∀ t, r = .slot t → pre = []) ∧ ∀ i, r ≠ .hand i := by
  cases r with
  | var t =>
    obtain ⟨arr, T, ob, h1, h2, h3, h4, h5⟩ := h.var t cs hr
    refine ⟨[g.ad t], ob, h3, h4, ?_, fun t' e => by cases e; rfl, fun t' e => (by cases e), fun i e => by cases e⟩
    have := h.own.nd (.var t)
    rw [h3] at this
    exact (List.nodup_cons.1 this).2
  | slot t =>
    have := h.env t
    simp only [St.cells] at hr
    cases he : st.env t with
    | val gg cs' =>
      rw [he] at hr this
      injection hr with hr; subst hr
      exact ⟨[], g.bl (.slot t), rfl, this.2.2, h.own.nd _, fun t' e => (by cases e), fun _ _ => rfl, fun i e => by cases e⟩
    | _ => rw [he] at hr; cases hr
  | hand i => cases hr
theorem setRoot_var {st : St} {r : Rt} {cs old : List C} (hr : st.cells r = some old) (u : Nat) : (st.setRoot r cs).var u = none ↔ st.var u = none := by
  cases r with
  | var t =>
    simp only [St.setRoot]
    split
    · rename_i e; subst e
      simp only [St.cells] at hr
      simp [hr]
    · exact Iff.rfl
  | slot t => exact Iff.rfl
  | hand i => exact Iff.rfl
/-- The hand takes what an operand holds. -/
theorem take_conc {X : Fx} {st st' : St} {w : World} {a : Act} {g : Gh} (h : Conc X st w a g) {t : Nat} {gg : Bool} {cs : List C} (ht : st.take t = some (gg, cs, st')) (i : Nat) (hi : g.bl (.hand i) = []) (hn : t < X.n) :
    ∃ g' us, Conc X st' w a g' ∧ a.tmps.getD t undef = pack gg us ∧ (gg = false → cs.length = 1) ∧ repL w (Z0 X.w0 X.F) cs us (g'.bl (.hand i)) ∧ (∀ j, j ≠ i → g'.bl (.hand j) = g.bl (.hand j)) ∧
      (∀ u, st'.var u = none ↔ st.var u = none) ∧ g'.ad = g.ad := by
  have henv := h.env t
  unfold St.take at ht
  cases he : st.env t with
  | val g0 cs0 =>
    rw [he] at ht henv
    simp only [Option.some.injEq, Prod.mk.injEq] at ht
    obtain ⟨rfl, rfl, rfl⟩ := ht
    obtain ⟨h1, h2, h3⟩ := henv
    by_cases hst : cs0.all isSt = true
    · rw [if_pos hst]
      have := repL_st h3 hst
      rw [this] at h3
      exact ⟨g, _, h, h1, h2, by rw [hi]; exact h3, fun _ _ => rfl, fun _ => Iff.rfl, rfl⟩
    · rw [if_neg hst]
      have hown := Own.give h.own h.keeps.size (r := .slot t) (i := i) (l := []) (b := g.bl (.slot t)) (by simp) (by simpa using h.own.nd _) (fun x hx => by simpa using hx)
      have := h.put hn .dead (a.tmps.getD t undef) (.inr rfl) (g.us (.slot t)) (g.give (.slot t) [] i (g.bl (.slot t))) (fun r hr hr' => by simp [Gh.give, hr', hr i]) hown trivial
      rw [put_self h.tmps hn] at this
      refine ⟨_, g.us (.slot t), this, h1, h2, ?_, fun j hj => ?_, fun _ => Iff.rfl, rfl⟩
      · simpa [Gh.put, Gh.give] using h3
      · simp [Gh.put, Gh.give, hj]
  | ref r off ps g0 k =>
    rw [he] at ht henv
    simp only at ht
    cases hc : st.cells r with
    | none => rw [hc] at ht; cases ht
    | some cs0 =>
      rw [hc] at ht
      simp only at ht
      cases hg : getC cs0 off ps k with
      | none => rw [hg] at ht; cases ht
      | some sub =>
        rw [hg] at ht
        simp only at ht
        obtain ⟨h1, h2⟩ := henv
        obtain ⟨b, p, us', hr, hv⟩ := h2 cs0 hc (by rw [hg]; simp)
        obtain ⟨pre, bs, hbl, hrep, hnd, hvar, hslot, hhand⟩ := h.cells_root hc
        obtain ⟨b', p', us1, hr', hk, b1, b2, b3, hbs, hsub⟩ := get_ok ps (g.at_ r).1 (g.at_ r).2 off k hrep hg
        have hlen := repL_len hsub
        have hkl : sub.length = k := by simp at hlen; omega
        unfold Gh.rsv at hr
        rw [hr'] at hr
        simp only [Option.some.injEq, Prod.mk.injEq] at hr
        obtain ⟨rfl, rfl, rfl⟩ := hr
        by_cases hst : sub.all isSt = true
        · rw [if_pos hst] at ht
          simp only [Option.some.injEq, Prod.mk.injEq] at ht
          obtain ⟨rfl, rfl, rfl⟩ := ht
          have := repL_st hsub hst
          subst this
          exact ⟨g, _, h, hv, fun hgg => by rw [hkl, h1 hgg], by rw [hi]; exact hsub, fun _ _ => rfl, fun _ => Iff.rfl, rfl⟩
        · rw [if_neg hst] at ht
          obtain ⟨cs', hs, he'⟩ := Option.map_eq_some_iff.1 ht
          simp only [Prod.mk.injEq] at he'
          obtain ⟨rfl, rfl, rfl⟩ := he'
          obtain ⟨b4, p4, us4, c1, c2, c3, hr4, hk4, hbs4, hsub4, hrep4, hle⟩ := take_ok ps (g.at_ r).1 (g.at_ r).2 off k hrep hg hs hkl hnd
          rw [hr'] at hr4
          simp only [Option.some.injEq, Prod.mk.injEq] at hr4
          obtain ⟨rfl, rfl, rfl⟩ := hr4
          have hndall := h.own.nd r
          rw [hbl, hbs4] at hndall
          have hown := Own.give h.own h.keeps.size (r := r) (i := i) (l := pre ++ (c1 ++ c3)) (b := c2) (hhand i) (by
              simp only [List.nodup_append, List.mem_append] at hndall ⊢
              grind) (fun x hx => by rw [hbl, hbs4]; simp at hx ⊢; grind)
          refine ⟨_, _, h.less hc hle hrep4 hvar hslot (g.give r (pre ++ (c1 ++ c3)) i c2) (fun r' hr1 hr2 => by simp [Gh.give, hr2, hr1 i]) (by simp [Gh.give]) hown, hv, fun hgg => by rw [hkl, h1 hgg], ?_, fun j hj => ?_, setRoot_var hc, rfl⟩
          · show repL _ _ _ _ (Gh.give _ _ _ _ _ _)
            have : ¬ (Rt.hand i = r) := fun e => hhand i e.symm
            simpa [Gh.give, this] using hsub4
          · show Gh.give _ _ _ _ _ _ = _
            have : ¬ (Rt.hand j = r) := fun e => hhand j e.symm
            simp [Gh.give, this, hj]
  | win r off ps lo hi' =>
    rw [he] at ht henv
    simp only at ht
    cases hc : st.cells r with
    | none => rw [hc] at ht; cases ht
    | some cs0 =>
      rw [hc] at ht
      simp only at ht
      split at ht
      · rename_i o z xs hg
        obtain ⟨h1, h2, b, p, u, us', hr, hv⟩ := henv cs0 o z xs hc hg
        obtain ⟨pre, bs, hbl, hrep, hnd, hvar, hslot, hhand⟩ := h.cells_root hc
        obtain ⟨b', p', us1, hr', hk, b1, b2, b3, hbs, hsub⟩ := get_ok ps (g.at_ r).1 (g.at_ r).2 off 1 hrep hg
        unfold Gh.rsv at hr
        rw [hr'] at hr
        simp only [Option.some.injEq, Prod.mk.injEq] at hr
        obtain ⟨rfl, rfl, rfl⟩ := hr
        simp only [List.take_succ_cons, List.take_zero, repL_single, List.cons.injEq, and_true, exists_eq_left'] at hsub
        by_cases ho : o = false
        · subst ho
          rw [if_pos rfl] at ht
          simp only [Option.some.injEq, Prod.mk.injEq] at ht
          obtain ⟨rfl, rfl, rfl⟩ := ht
          obtain ⟨bs', hw, _⟩ := repC_win hsub h1 h2
          have hw' := repL_single.2 ⟨_, rfl, hw⟩
          have := repL_st hw' (by simp [isSt])
          subst this
          exact ⟨g, [winV z lo hi' u], h, hv, fun _ => rfl, by rw [hi]; exact hw', fun _ _ => rfl, fun _ => Iff.rfl, rfl⟩
        · rw [if_neg ho] at ht
          have ho' : o = true := by simpa using ho
          subst ho'
          obtain ⟨cs', hs, he'⟩ := Option.map_eq_some_iff.1 ht
          simp only [Prod.mk.injEq] at he'
          obtain ⟨rfl, rfl, rfl⟩ := he'
          obtain ⟨b4, p4, us4, c1, c2, c3, hr4, hk4, hbs4, hsub4, hrep4, hle⟩ := take_ok ps (g.at_ r).1 (g.at_ r).2 off 1 hrep hg (by simpa [gone] using hs) rfl hnd
          rw [hr'] at hr4
          simp only [Option.some.injEq, Prod.mk.injEq] at hr4
          obtain ⟨rfl, rfl, rfl⟩ := hr4
          simp only [List.take_succ_cons, List.take_zero, repL_single, List.cons.injEq, and_true, exists_eq_left'] at hsub4
          obtain ⟨bs', hw, hsl⟩ := repC_win hsub4 h1 h2
          have hndall := h.own.nd r
          rw [hbl, hbs4] at hndall
          have hown := Own.give h.own h.keeps.size (r := r) (i := i) (l := pre ++ (c1 ++ c3)) (b := bs') (hhand i) (by
              simp only [List.nodup_append, List.mem_append] at hndall ⊢
              have hs1 := hsl.subset
              have hs2 : bs'.Nodup := hsl.nodup (by grind)
              grind) (fun x hx => by have hs1 := hsl.subset; rw [hbl, hbs4]; simp at hx ⊢; grind)
          refine ⟨_, [winV z lo hi' u], h.less hc hle hrep4 hvar hslot (g.give r (pre ++ (c1 ++ c3)) i bs') (fun r' hr1 hr2 => by simp [Gh.give, hr2, hr1 i]) (by simp [Gh.give]) hown, hv, fun _ => rfl, ?_, fun j hj => ?_, setRoot_var hc, rfl⟩
          · show repL _ _ _ _ (Gh.give _ _ _ _ _ _)
            have : ¬ (Rt.hand i = r) := fun e => hhand i e.symm
            have := repL_single.2 ⟨_, rfl, hw⟩
            simp [Gh.give, *]
          · show Gh.give _ _ _ _ _ _ = _
            have : ¬ (Rt.hand j = r) := fun e => hhand j e.symm
            simp [Gh.give, this, hj]
      · cases ht
  | dead => rw [he] at ht; cases ht
  | ptr r off ps => rw [he] at ht; cases ht
  | sptr c i z off => rw [he] at ht; cases ht
  | tup ls => rw [he] at ht; cases ht
end Go.Lvm
