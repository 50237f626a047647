/- Lemmas of the by-value machine and of the data that the contracts speak of: each holds under the hypotheses that it states. -/
import Derived.Test.YtmfdechkhdjebaaLvm14
set_option linter.unusedVariables false
set_option linter.unusedSimpArgs false
namespace Go.Lvm
variable {P : Program} {TT : Nat → Ty} {X : Fx} {st st' : St} {o : Oper} {d : Nat}
theorem list_choose {α β : Type} {G : Nat → α → β → Prop} : ∀ (l : List α) (k : Nat), (∀ j p, l[j]? = some p → ∃ q, G (k + j) p q) → ∃ qs : List β, qs.length = l.length ∧ ∀ j p q, l[j]? = some p → qs[j]? = some q → G (k + j) p q
  | [], k, _ => ⟨[], rfl, fun j p q h => by simp at h⟩
  | a :: l, k, h => by
    obtain ⟨q, hq⟩ := h 0 a rfl
    obtain ⟨qs, h1, h2⟩ := list_choose l (k + 1) (fun j p e => by
      have := h (j + 1) p (by simpa using e)
      rw [show k + 1 + j = k + (j + 1) by omega]; exact this)
    refine ⟨q :: qs, by simp [h1], fun j p q' e1 e2 => ?_⟩
    cases j with
    | zero => simp at e1 e2; subst e1; subst e2; exact hq
    | succ j => have := h2 j p q' (by simpa using e1) (by simpa using e2); rw [show k + (j + 1) = k + 1 + j by omega]; exact this
theorem tupOK_mono {W : World} {Z Z' : Nat → Prop} (hz : ∀ b, Z b → Z' b) : ∀ {ls : List (Bool × List C)} {vs : List Value} {bs : List Nat}, tupOK W Z ls vs bs → tupOK W Z' ls vs bs
  | [], vs, bs, h => h
  | (g, cs) :: ls, vs, bs, h => by
    obtain ⟨us, vs', b1, b2, rfl, h1, rfl, h2, h3⟩ := h
    exact ⟨us, vs', b1, b2, rfl, h1, rfl, repL_frame cs h2 (fun _ _ => rfl) (fun b h => ⟨hz b h, rfl⟩), tupOK_mono hz h3⟩
def resL : List (Bool × List C) → L
  | [(g, cs)] => .val g cs
  | ls => .tup ls
theorem Conc.putRes {w : World} {a : Act} {g : Gh} (h : Conc X st w a g) {d : Nat} (hd : X.ok d) (i : Nat) {res : List (Bool × List C)} {vs : List Value} (hr : tupOK w (Z0 X.w0 X.F) res vs (g.bl (.hand i))) :
    ∃ g', Conc X (st.put d (resL res)) w (a.put (some d) (resV vs)) g' ∧ (g'.bl (.hand i) = []) ∧ (∀ j, j ≠ i → g'.bl (.hand j) = g.bl (.hand j)) := by
  have hone : ∀ gg cs, res = [(gg, cs)] → ∃ us, vs = [pack gg us] ∧ (gg = false → cs.length = 1) ∧ repL w (Z0 X.w0 X.F) cs us (g.bl (.hand i)) := by
    rintro gg cs rfl
    obtain ⟨us, vs', b1, b2, rfl, h1, h2, h3, rfl, rfl⟩ := hr
    exact ⟨us, rfl, h1, by rw [h2, List.append_nil]; exact h3⟩
  by_cases hs : ∃ gg cs, res = [(gg, cs)]
  · obtain ⟨gg, cs, rfl⟩ := hs
    obtain ⟨us, rfl, h1, h2⟩ := hone gg cs rfl
    exact h.putHand hd i h1 h2
  · have hn : resL res = .tup res := by
      cases res with
      | nil => rfl
      | cons p l => cases l with
        | nil => exact absurd ⟨p.1, p.2, rfl⟩ hs
        | cons q l => rfl
    have hv : resV vs = .tuple vs.toArray := by
      cases res with
      | nil => obtain ⟨rfl, _⟩ := hr; rfl
      | cons p l => cases l with
        | nil => exact absurd ⟨p.1, p.2, rfl⟩ hs
        | cons q l =>
          obtain ⟨us, vs', b1, b2, rfl, h1, h2, h3, us2, vs2, b3, b4, rfl, _⟩ := hr
          rfl
    rw [hn, hv]
    refine ⟨_, h.put hd.1 (.tup res) (.tuple vs.toArray) (.inl hd.2) [] (g.ungive d i) (fun r hr1 hr2 => by simp [Gh.ungive, hr2, hr1 i]) ?_ ⟨vs, rfl, by simpa [Gh.ungive] using hr⟩, by simp [Gh.put, Gh.ungive], fun j hj => by simp [Gh.put, Gh.ungive, hj]⟩
    refine Own.step h.own (Nat.le_refl _) h.keeps.size (.slot d) (fun r => ?_) (fun r b hr hb => ?_) (fun b hb => ?_)
    · unfold Gh.ungive
      split
      · exact h.own.nd _
      · split
        · exact List.nodup_nil
        · exact h.own.nd r
    · unfold Gh.ungive at hb
      rw [if_neg hr] at hb
      split at hb
      · cases hb
      · exact hb
    · simp only [Gh.ungive, if_true] at hb
      exact .inr (.inl ⟨.hand i, hb, by simp [Gh.ungive]⟩)
def roOK (st : St) (rs : List (Option Rt)) : Ar × Operand → Prop
  | (.ro g cs, x) => snap st x = some (g, cs) ∧ (cs.all isV = true ∨ ∀ r, snapRt st x = some r → some r ∉ rs)
  | _ => True
theorem run_call_func {f : FuncId} {xs : Array Operand} {ats : Array TypeId} (hop : o.op = .call { callee := .value (.func f), args := xs, argTypes := ats }) (hf : IsFn P f) (a : Act) (w : World) :
    (execOp a.eval o).run P w = .ok (.enter f (xs.map a.eval)) w := by
  obtain ⟨fn, c, h1, h2, h3⟩ := hf
  simp only [execOp, hop, resolve, Act.eval, Deferred.ofValue, Sem.run_bind, Sem.run_pure, Result.andThen_ok, invoke, callFunc, run_program, h1]
  simp [h2, h3, Sem.run_bind]
theorem backs_len {l : List (Ar × Operand)} {st st2 : St} (h : Backs st l st2) : ∀ (j : Nat) (c c' : List C) (x : Operand), l[j]? = some (.io c c', x) → c.length = c'.length := by
  induction h with
  | nil => intro j c c' x e; simp at e
  | io _ _ _ hl _ ih =>
    intro j c c' x e
    cases j with
    | zero => simp at e; obtain ⟨⟨rfl, rfl⟩, _⟩ := e; exact hl
    | succ j => exact ih j c c' x (by simpa using e)
  | lev _ _ _ ih =>
    intro j c c' x e
    cases j with
    | zero => simp at e
    | succ j => exact ih j c c' x (by simpa using e)
  | ler _ _ _ _ ih =>
    intro j c c' x e
    cases j with
    | zero => simp at e
    | succ j => exact ih j c c' x (by simpa using e)
  | ot hq _ ih =>
    intro j c c' x e
    cases j with
    | zero => simp at e; obtain ⟨rfl, _⟩ := e; simp [Ar.lent] at hq
    | succ j => exact ih j c c' x (by simpa using e)
open Classical in
theorem call_step {facts : List (Value × C)} {f : FuncId} {as : List Ar} {res : List (Bool × List C)} {xs : Array Operand} {ats : Array TypeId} {st1 st2 st3 : St} {rs : List (Option Rt)} (hop : o.op = .call { callee := .value (.func f), args := xs, argTypes := ats })
    (hS : Spec P facts f as res) (hlen : as.length = xs.size) (hm : Mvs X st (as.zip xs.toList) st1) (hl : Lents st1 (as.zip xs.toList) st2 rs) (hro : ∀ p ∈ as.zip xs.toList, roOK st2 rs p) (hb : Backs st2 (as.zip xs.toList) st3)
    (hfa : ∀ x c, (x, c) ∈ facts → repC X.w0 (Z0 X.w0 X.F) c x []) (hd : o.dst = some d) (hlt : X.ok d) : Step P X o st (st3.put d (resL res)) := by
  intro w a ⟨g, h, hh⟩ next Q hnext
  unfold Oper.wp
  rw [run_call_func hop hS.1, Oper.upon_enter]
  have hzl : (as.zip xs.toList).length = as.length := by simp [hlen]
  generalize hL : as.zip xs.toList = L at *
  have hLa : ∀ (j : Nat) (p : Ar × Operand), L[j]? = some p → as[j]? = some p.1 := by
    intro j p e
    rw [← hL, List.getElem?_zip_eq_some] at e
    exact e.1
  have hLx : ∀ (j : Nat) (p : Ar × Operand), L[j]? = some p → xs[j]? = some p.2 := by
    intro j p e
    rw [← hL, List.getElem?_zip_eq_some] at e
    simpa using e.2
  have haL : ∀ (j : Nat) (q : Ar), as[j]? = some q → ∃ x, L[j]? = some (q, x) := by
    intro j q e
    have : j < L.length := by
      rw [hzl]
      rcases Nat.lt_or_ge j as.length with h | h
      · exact h
      · simp [List.getElem?_eq_none h] at e
    refine ⟨L[j].2, ?_⟩
    have := hLa j L[j] (List.getElem?_eq_getElem this)
    rw [e] at this
    injection this with this
    rw [List.getElem?_eq_getElem, this]
  obtain ⟨g1, h1, _, m2, m3⟩ := mvs_ok 0 hm h (fun j _ => hh j)
  simp only [Nat.zero_add] at m2 m3
  obtain ⟨g2, h2, n1, n2, n3⟩ := lents_ok hl 0 h1 (fun j q x e hq => by
    rw [Nat.zero_add]
    exact (m3 j q x e).1 (by cases q <;> simp_all [Ar.lent, Ar.isMv]))
  simp only [Nat.zero_add] at n1 n3
  have hrl := lents_len hl
  have hkeep : ∀ j : Nat, (∀ q x, L[j]? = some (q, x) → q.lent = false) → g2.bl (.hand j) = g1.bl (.hand j) := fun j hj => n1 _ (fun hm => n2 _ hm j rfl) (fun j' q x e hq he => by
    injection he with he; subst he
    rw [hj q x e] at hq; cases hq)
  -- what is read
  let Zr : Nat → Prop := fun b => b < w.heap.size ∧ (∀ j, b ∉ g2.bl (.hand j)) ∧ ∀ r, some r ∈ rs → b ∉ g2.bl r
  have hzr : ∀ b, Z0 X.w0 X.F b → Zr b := by
    intro b hb
    have hno : ∀ r, b ∉ g2.bl r := fun r hm => by
      rcases (h2.own.ok r b hm).1 with h | h
      · exact hb.2 h
      · have := hb.1; omega
    exact ⟨Nat.lt_of_lt_of_le hb.1 h2.keeps.size, fun j => hno _, fun r _ => hno r⟩
  -- the arguments
  have hex : ∀ (j : Nat) (p : Ar × Operand), L[j]? = some p → ∃ q : Ag, q.v = a.eval p.2 ∧ ArIn w Zr p.1 q ∧ (∀ c c', p.1 = .io c c' → ∃ r, rs[j]? = some (some r) ∧ q.b ∈ g2.bl r ∧ q.bs = q.b :: g2.bl (.hand j)) ∧ ((∀ c c', p.1 ≠ .io c c') → q.bs = g2.bl (.hand j)) := by
    rintro j ⟨q0, x⟩ e
    have hr : ∃ r, rs[j]? = some r := by
      have : j < rs.length := by
        rw [hrl]
        rcases Nat.lt_or_ge j L.length with h | h
        · exact h
        · simp [List.getElem?_eq_none h] at e
      exact ⟨_, List.getElem?_eq_getElem this⟩
    obtain ⟨r, hr⟩ := hr
    have hok := n3 j q0 x r e hr
    cases q0 with
    | ro gg cs =>
      have := hro _ (List.mem_of_getElem? e)
      obtain ⟨hs, hor⟩ := this
      have h0 : g2.bl (.hand j) = [] := by
        rw [hkeep j (fun q x' e' => by rw [e] at e'; simp at e'; rw [← e'.1]; rfl)]
        exact (m3 j _ x e).1 rfl
      have : ∃ us, a.eval x = pack gg us ∧ (gg = false → cs.length = 1) ∧ repL w Zr cs us [] := by
        rcases hor with hv | hnr
        · obtain ⟨us, k1, k2, k3⟩ := snap_ok (Z := fun _ => True) h2 hs (fun _ _ => trivial) (fun _ _ _ _ => trivial)
          exact ⟨us, k1, k2, repL_isV k3 hv⟩
        · refine snap_ok h2 hs hzr (fun r b hr hb => ⟨(h2.own.ok r b hb).2, fun j hj => ?_, fun r' hr' hb' => ?_⟩)
          · have := h2.own.dj _ _ _ hb hj
            subst this
            unfold snapRt at hr
            split at hr
            · split at hr
              · cases hr
              · injection hr with hr; subst hr
                rename_i t r' off ps gg k he
                simp only [snap, he, St.cells] at hs
                cases hs
              · injection hr with hr; subst hr
                rename_i t r' off ps lo hi he
                simp only [snap, he, St.cells] at hs
                cases hs
              · cases hr
            · cases hr
          · have := h2.own.dj _ _ _ hb hb'
            subst this
            exact hnr _ hr hr'
      obtain ⟨us, k1, k2, k3⟩ := this
      exact ⟨{ v := a.eval x, us := us, bs := [] }, rfl, ⟨k1, k2, k3, rfl⟩, fun c c' e => by (cases e), fun _ => h0.symm⟩
    | mv gg cs =>
      obtain ⟨us, k1, k2, k3⟩ := (m3 j _ x e).2 gg cs rfl
      rw [← hkeep j (fun q x' e' => by rw [e] at e'; simp at e'; rw [← e'.1]; rfl)] at k3
      exact ⟨{ v := a.eval x, us := us, bs := _ }, rfl, ⟨k1, k2, k3⟩, fun c c' e => by (cases e), fun _ => rfl⟩
    | le gg cs cs' =>
      obtain ⟨us, k1, k2, k3⟩ := hok
      exact ⟨{ v := a.eval x, us := us, bs := _ }, rfl, ⟨k1, k2, k3⟩, fun c c' e => by (cases e), fun _ => rfl⟩
    | io cs cs' =>
      obtain ⟨b, pre, us, post, arr, T, r', k0, k1, k2, k3, k4, k5⟩ := hok
      subst k0
      exact ⟨{ v := a.eval x, b := b, pre := pre, post := post, T := T, us := us, bs := b :: g2.bl (.hand j) }, rfl, ⟨k1, arr, _, k2, k3, rfl, k4⟩, fun c c' e => ⟨r', hr, k5, rfl⟩, fun hn => absurd rfl (hn cs cs')⟩
  obtain ⟨qs, hql, hqs⟩ := list_choose (G := fun j (p : Ar × Operand) (q : Ag) => q.v = a.eval p.2 ∧ ArIn w Zr p.1 q ∧ (∀ c c', p.1 = .io c c' → ∃ r, rs[j]? = some (some r) ∧ q.b ∈ g2.bl r ∧ q.bs = q.b :: g2.bl (.hand j)) ∧ ((∀ c c', p.1 ≠ .io c c') → q.bs = g2.bl (.hand j))) L 0 (fun j p e => by rw [Nat.zero_add]; exact hex j p e)
  simp only [Nat.zero_add] at hqs
  have hqv : qs.map (·.v) = xs.toList.map a.eval := by
    apply List.ext_getElem?
    intro j
    rw [List.getElem?_map, List.getElem?_map]
    cases e : L[j]? with
    | none =>
      have h1 : L.length ≤ j := List.getElem?_eq_none_iff.1 e
      rw [List.getElem?_eq_none (by omega), List.getElem?_eq_none (by simp; omega)]; rfl
    | some p =>
      have hx := hLx j p e
      have hj : j < qs.length := by
        have := List.getElem?_eq_some_iff.1 e
        obtain ⟨h, _⟩ := this; omega
      have := (hqs j p _ e (List.getElem?_eq_getElem hj)).1
      rw [List.getElem?_eq_getElem hj]
      have hx' : xs.toList[j]? = some p.2 := by simpa using hx
      rw [hx']
      simp [this]
  have hqL : ∀ (j : Nat) (q : Ag), qs[j]? = some q → ∃ p, L[j]? = some p := by
    intro j q e
    have : j < L.length := by
      obtain ⟨h, _⟩ := List.getElem?_eq_some_iff.1 e; omega
    exact ⟨_, List.getElem?_eq_getElem this⟩
  have hbs : ∀ (j : Nat) (b : Nat), b ∈ (qs.map (·.bs)).getD j [] → ∃ q, qs[j]? = some q ∧ b ∈ q.bs := by
    intro j b hb
    rw [List.getD_eq_getElem?_getD, List.getElem?_map] at hb
    cases e : qs[j]? with
    | none => rw [e] at hb; cases hb
    | some q => rw [e] at hb; exact ⟨q, rfl, hb⟩
  have hbs' : ∀ (j : Nat) (q : Ag), qs[j]? = some q → (qs.map (·.bs)).getD j [] = q.bs := by
    intro j q e
    rw [List.getD_eq_getElem?_getD, List.getElem?_map, e]; rfl
  -- where a block of an argument is
  have hwhere : ∀ (j : Nat) (q : Ag) (p : Ar × Operand) (b : Nat), qs[j]? = some q → L[j]? = some p → b ∈ q.bs → b ∈ g2.bl (.hand j) ∨ (b = q.b ∧ (∃ c c', p.1 = .io c c') ∧ ∃ r, rs[j]? = some (some r) ∧ b ∈ g2.bl r) := by
    intro j q p b e e' hb
    obtain ⟨_, _, k1, k2⟩ := hqs j p q e' e
    by_cases hio : ∃ c c', p.1 = .io c c'
    · obtain ⟨c, c', hp⟩ := hio
      obtain ⟨r, hr, hbr, hbq⟩ := k1 c c' hp
      rw [hbq] at hb
      rcases List.mem_cons.1 hb with rfl | hb
      · exact .inr ⟨rfl, ⟨c, c', hp⟩, r, hr, hbr⟩
      · exact .inl hb
    · rw [k2 (fun c c' hp => hio ⟨c, c', hp⟩)] at hb
      exact .inl hb
  have hrn : ∀ (j : Nat) (r : Rt), rs[j]? = some (some r) → ∀ i, r ≠ .hand i := fun j r hr => n2 r (List.mem_of_getElem? hr)
  have hsep : Sep w.heap.size (qs.map (·.bs)) := by
    refine ⟨fun j => ?_, fun j j' b hb hb' => ?_, fun j b hb => ?_⟩
    · cases e : qs[j]? with
      | none => rw [List.getD_eq_getElem?_getD, List.getElem?_map, e]; exact List.nodup_nil
      | some q =>
        rw [hbs' j q e]
        obtain ⟨p, e'⟩ := hqL j q e
        obtain ⟨_, _, k1, k2⟩ := hqs j p q e' e
        by_cases hio : ∃ c c', p.1 = .io c c'
        · obtain ⟨c, c', hp⟩ := hio
          obtain ⟨r, hr, hbr, hbq⟩ := k1 c c' hp
          rw [hbq]
          exact List.nodup_cons.2 ⟨fun hm => hrn j r hr j (h2.own.dj _ _ _ hbr hm), h2.own.nd _⟩
        · rw [k2 (fun c c' hp => hio ⟨c, c', hp⟩)]; exact h2.own.nd _
    · obtain ⟨q, e, hb⟩ := hbs j b hb
      obtain ⟨q', e', hb'⟩ := hbs j' b hb'
      obtain ⟨p, ep⟩ := hqL j q e
      obtain ⟨p', ep'⟩ := hqL j' q' e'
      rcases hwhere j q p b e ep hb with k | ⟨_, _, r, hr, k⟩ <;> rcases hwhere j' q' p' b e' ep' hb' with k' | ⟨_, _, r', hr', k'⟩
      · have := h2.own.dj _ _ _ k k'
        injection this
      · exact absurd (h2.own.dj _ _ _ k' k) (hrn j' r' hr' j)
      · exact absurd (h2.own.dj _ _ _ k k') (hrn j r hr j')
      · have := h2.own.dj _ _ _ k k'
        subst this
        exact lents_dist hl j j' r hr hr'
    · obtain ⟨q, e, hb⟩ := hbs j b hb
      obtain ⟨p, ep⟩ := hqL j q e
      rcases hwhere j q p b e ep hb with k | ⟨_, _, r, hr, k⟩
      · exact (h2.own.ok _ _ k).2
      · exact (h2.own.ok _ _ k).2
  have hfoot : ∀ b, b ∈ foot qs → ∃ (j : Nat) (q : Ag) (p : Ar × Operand), qs[j]? = some q ∧ L[j]? = some p ∧ b ∈ q.bs := by
    intro b hb
    obtain ⟨j, hj⟩ := mem_flat.1 hb
    obtain ⟨q, e, hb⟩ := hbs j b hj
    obtain ⟨p, ep⟩ := hqL j q e
    exact ⟨j, q, p, e, ep, hb⟩
  have hZf : ∀ b, Zr b → Z0 w (foot qs) b := by
    intro b ⟨hz1, hz2, hz3⟩
    refine ⟨hz1, fun hm => ?_⟩
    obtain ⟨j, q, p, e, ep, hb⟩ := hfoot b hm
    rcases hwhere j q p b e ep hb with k | ⟨_, _, r, hr, k⟩
    · exact hz2 j k
    · exact hz3 r (List.mem_of_getElem? hr) k
  have hcall := hS.2 w qs (by rw [hql, hzl]) (fun j q0 q e0 e => by
      obtain ⟨x, ex⟩ := haL j q0 e0
      have := (hqs j _ q ex e).2.1
      cases q0 with
      | ro gg cs => exact ⟨this.1, this.2.1, repL_frame cs this.2.2.1 (fun _ _ => rfl) (fun b hb => ⟨hZf b hb, rfl⟩), this.2.2.2⟩
      | mv gg cs => exact this
      | le gg cs cs' => exact this
      | io cs cs' => exact this) hsep (fun x c hx => repC_frame c (hfa x c hx) (fun b hb => by cases hb) (fun b hb => ⟨hZf b (hzr b hb), h.keeps.block b hb.1 hb.2⟩))
  have hargs : (qs.map (·.v)).toArray = xs.map a.eval := by
    apply Array.ext'
    rw [hqv]; simp
  rw [hargs] at hcall
  refine Calls.mono hcall ?_
  rintro e W' ⟨vs, rb, os, rfl, hk, hres, hol, hout, hs2, hsub⟩
  have hzl' : os.length = L.length := by rw [hol, hzl]
  have hosL : ∀ (j : Nat) (p : Ar × Operand), L[j]? = some p → ∃ o, os[j]? = some o := by
    intro j p e
    have : j < os.length := by
      obtain ⟨h, _⟩ := List.getElem?_eq_some_iff.1 e; omega
    exact ⟨_, List.getElem?_eq_getElem this⟩
  have hqL' : ∀ (j : Nat) (p : Ar × Operand), L[j]? = some p → ∃ q, qs[j]? = some q := by
    intro j p e
    have : j < qs.length := by
      obtain ⟨h, _⟩ := List.getElem?_eq_some_iff.1 e; omega
    exact ⟨_, List.getElem?_eq_getElem this⟩
  have hosg : ∀ (j : Nat) (o : List Value × List Nat), os[j]? = some o → (rb :: os.map (·.2)).getD (j + 1) [] = o.2 := by
    intro j o e
    rw [List.getD_cons_succ, List.getD_eq_getElem?_getD, List.getElem?_map, e]; rfl
  -- the blocks of the pointers' places
  let B : Nat → Prop := fun b => ∃ (j : Nat) (q : Ag) (p : Ar × Operand) (c c' : List C), qs[j]? = some q ∧ L[j]? = some p ∧ p.1 = .io c c' ∧ b = q.b
  have hBin : ∀ b, B b → b < w.heap.size ∧ ∃ (j : Nat) (r : Rt), rs[j]? = some (some r) ∧ b ∈ g2.bl r := by
    rintro b ⟨j, q, p, c, c', e, e', hp, rfl⟩
    obtain ⟨r, hr, hbr, _⟩ := (hqs j p q e' e).2.2.1 c c' hp
    exact ⟨(h2.own.ok _ _ hbr).2, j, r, hr, hbr⟩
  have hfB : ∀ b, b ∈ foot qs → B b ∨ ∃ j, b ∈ g2.bl (.hand j) := by
    intro b hb
    obtain ⟨j, q, p, e, ep, hb⟩ := hfoot b hb
    rcases hwhere j q p b e ep hb with k | ⟨k1, ⟨c, c', k2⟩, _⟩
    · exact .inr ⟨j, k⟩
    · exact .inl ⟨j, q, p, c, c', e, ep, k2, k1⟩
  let W2 : World := { W' with heap := Array.ofFn fun i : Fin W'.heap.size => if B i.1 then (w.heap[i.1]?).getD W'.heap[i] else W'.heap[i] }
  have hW2s : W2.heap.size = W'.heap.size := by simp [W2]
  have hW2B : ∀ b, B b → W2.heap[b]? = w.heap[b]? := by
    intro b hb
    have hlt := (hBin b hb).1
    have hlt' : b < W'.heap.size := Nat.lt_of_lt_of_le hlt hk.size
    simp [W2, Array.getElem?_ofFn, hlt', hb, Array.getElem?_eq_getElem hlt]
  have hW2n : ∀ b, ¬ B b → W2.heap[b]? = W'.heap[b]? := by
    intro b hb
    by_cases hlt : b < W'.heap.size
    · simp [W2, Array.getElem?_ofFn, hlt, hb]
    · simp [W2, Array.getElem?_ofFn, hlt]
  have hnofoot : ∀ r : Rt, (∀ i : Nat, r ≠ .hand i) → ∀ b ∈ g2.bl r, ¬ B b → b ∉ foot qs := by
    intro r hr b hb hB hf
    rcases hfB b hf with k | ⟨j, k⟩
    · exact hB k
    · exact hr j (h2.own.dj _ _ _ hb k)
  have hkW2 : Keeps X.F X.w0 W2 := by
    refine ⟨hk.os.trans h2.keeps.os, hk.tape.trans h2.keeps.tape, hk.output.trans h2.keeps.output, by rw [hW2s]; exact Nat.le_trans h2.keeps.size hk.size, fun b hb hn => ?_⟩
    have hno : ∀ r, b ∉ g2.bl r := fun r hm => by
      rcases (h2.own.ok r b hm).1 with h | h
      · exact hn h
      · omega
    have hB : ¬ B b := fun hB => by
      obtain ⟨_, j, r, _, k⟩ := hBin b hB
      exact hno r k
    rw [hW2n b hB, hk.block b (Nat.lt_of_lt_of_le hb h2.keeps.size) (fun hf => by
      rcases hfB b hf with k | ⟨j, k⟩
      · exact hB k
      · exact hno _ k), h2.keeps.block b hb hn]
  let D : Nat → List Nat := fun i => match L[i]?, os[i]? with
    | some (.io _ _, _), some o => o.2.tail
    | some (.le _ _ _, _), some o => o.2
    | none, _ => if i = L.length then rb else []
    | _, _ => []
  have hDn : D L.length = rb := by simp [D]
  -- what is dealt lies in what came back
  have hDsub : ∀ i, ∃ k, (∀ b, b ∈ D i → b ∈ (rb :: os.map (·.2)).getD k []) ∧ (D i).Nodup ∧ (k = 0 → i = L.length) ∧ (∀ j, k = j + 1 → i = j) ∧ ∀ (b j : Nat) (q : Ag) (p : Ar × Operand) (c c' : List C), b ∈ D i → qs[j]? = some q → L[j]? = some p → p.1 = .io c c' → b ≠ q.b := by
    -- no block of a pointer's place is dealt
    have hBno : ∀ i k, (∀ b, b ∈ D i → b ∈ (rb :: os.map (·.2)).getD k []) → (k = 0 → i = L.length) → (∀ j, k = j + 1 → i = j) → ∀ (b j : Nat) (q : Ag) (p : Ar × Operand) (c c' : List C), b ∈ D i → qs[j]? = some q → L[j]? = some p → p.1 = .io c c' → b ≠ q.b := by
      rintro i k hD hk0 hk1 b j q p c c' hb e e' hp rfl
      obtain ⟨o, eo⟩ := hosL j p e'
      obtain ⟨q0, x0⟩ := p
      simp only at hp; subst hp
      have hO := hout j _ q o (hLa j _ e') e eo
      obtain ⟨arr, bs0, _, _, hbo, _⟩ := hO
      have hmem : q.b ∈ (rb :: os.map (·.2)).getD (j + 1) [] := by rw [hosg j o eo, hbo]; simp
      have hkk := hs2.2.1 _ _ _ (hD _ hb) hmem
      have hij := hk1 j hkk
      subst hij
      have : D i = o.2.tail := by simp [D, e', eo]
      rw [this, hbo] at hb
      have hnd := hs2.1 (i + 1)
      rw [hosg i o eo, hbo] at hnd
      exact (List.nodup_cons.1 hnd).1 hb
    intro i
    cases e : L[i]? with
    | none =>
      by_cases hi : i = L.length
      · have hD : D i = rb := by rw [hi]; exact hDn
        have h1 : ∀ b, b ∈ D i → b ∈ (rb :: os.map (·.2)).getD 0 [] := fun b hb => by rw [hD] at hb; exact hb
        exact ⟨0, h1, by rw [hD]; exact hs2.1 0, fun _ => hi, (fun j hj => by cases hj), hBno i 0 h1 (fun _ => hi) (fun j hj => by cases hj)⟩
      · have hD : D i = [] := by simp [D, e, hi]
        have h1 : ∀ b, b ∈ D i → b ∈ (rb :: os.map (·.2)).getD (i + 1) [] := fun b hb => by rw [hD] at hb; cases hb
        exact ⟨i + 1, h1, by rw [hD]; exact List.nodup_nil, (fun h => by cases h), fun j hj => by omega, hBno i _ h1 (fun h => by cases h) (fun j hj => by omega)⟩
    | some p =>
      obtain ⟨o, eo⟩ := hosL i p e
      have hnd := hs2.1 (i + 1)
      rw [hosg i o eo] at hnd
      have h1 : (∀ b, b ∈ D i → b ∈ o.2) ∧ (D i).Nodup := by
        obtain ⟨q0, x0⟩ := p
        cases q0 with
        | io c c' =>
          have hD : D i = o.2.tail := by simp [D, e, eo]
          rw [hD]; exact ⟨fun b hb => List.mem_of_mem_tail hb, hnd.tail⟩
        | le gg c c' =>
          have hD : D i = o.2 := by simp [D, e, eo]
          rw [hD]; exact ⟨fun b hb => hb, hnd⟩
        | ro _ _ =>
          have hD : D i = [] := by simp [D, e, eo]
          rw [hD]; exact ⟨fun b hb => (by cases hb), List.nodup_nil⟩
        | mv _ _ =>
          have hD : D i = [] := by simp [D, e, eo]
          rw [hD]; exact ⟨fun b hb => (by cases hb), List.nodup_nil⟩
      have h2' : ∀ b, b ∈ D i → b ∈ (rb :: os.map (·.2)).getD (i + 1) [] := fun b hb => by rw [hosg i o eo]; exact h1.1 b hb
      exact ⟨i + 1, h2', h1.2, (fun h => by cases h), fun j hj => by omega, hBno i _ h2' (fun h => by cases h) (fun j hj => by omega)⟩
  have hDB : ∀ i b, b ∈ D i → ¬ B b := by
    rintro i b hb ⟨j, q, p, c, c', e, e', hp, hbq⟩
    obtain ⟨k, _, _, _, _, h5⟩ := hDsub i
    exact h5 b j q p c c' hb e e' hp hbq
  obtain ⟨g3, h3, hg3⟩ := h2.deal hkW2 (by rw [hW2s]; exact hk.size) (fun r hr b hb => by
      by_cases hB : B b
      · exact hW2B b hB
      · rw [hW2n b hB, hk.block b (h2.own.ok _ _ hb).2 (hnofoot r hr b hb hB)]) D (fun i => by obtain ⟨_, _, h, _⟩ := hDsub i; exact h) (fun i j b hb hb' => by
      obtain ⟨k, k1, _, k2, k3, _⟩ := hDsub i
      obtain ⟨k', k1', _, k2', k3', _⟩ := hDsub j
      have := hs2.2.1 _ _ _ (k1 b hb) (k1' b hb')
      subst this
      cases k with
      | zero => rw [k2 rfl, k2' rfl]
      | succ k => rw [k3 k rfl, k3' k rfl]) (fun i b hb => by
      obtain ⟨k, k1, _⟩ := hDsub i
      rcases hsub k b (k1 b hb) with hf | hge
      · rcases hfB b hf with hB | hj
        · exact absurd hB (hDB i b hb)
        · exact .inl hj
      · exact .inr ⟨hge, by rw [hW2s]; exact hs2.2.2 k b (k1 b hb)⟩)
  -- what was lent comes back
  let bf : Nat → Nat := fun j => match qs[j]? with | some q => q.b | none => 0
  have hbf : ∀ (j : Nat) (q : Ag), qs[j]? = some q → bf j = q.b := fun j q e => by simp [bf, e]
  have hioB : ∀ (j : Nat) (c c' : List C) (x : Operand), L[j]? = some (.io c c', x) → B (bf j) := by
    intro j c c' x e
    obtain ⟨q, eq⟩ := hqL' j _ e
    exact ⟨j, q, _, c, c', eq, e, rfl, hbf j q eq⟩
  obtain ⟨g4, h4, k1, k2⟩ := backs_ok hb 0 bf h3 (wE := W') rfl (fun j q0 x e => by
      obtain ⟨q, eq⟩ := hqL' j _ e
      obtain ⟨o, eo⟩ := hosL j _ e
      have hG := hqs j _ q e eq
      have hO := hout j _ q o (hLa j _ e) eq eo
      rw [Nat.zero_add, hg3, hbf j q eq]
      cases q0 with
      | ro _ _ => trivial
      | mv _ _ => trivial
      | le gg c c' =>
        have hD : D j = o.2 := by simp [D, e, eo]
        obtain ⟨v1, v2, _⟩ := hG
        refine ⟨q.us, by rw [← v1]; exact v2.1, fun hf => ?_, ?_⟩
        · have := repL_len hO; have := repL_len v2.2.2; have := v2.2.1 hf; omega
        · rw [hD]; exact repL_frame c' hO (fun b hb => hW2n b (hDB j b (by rw [hD]; exact hb))) (fun b hb => hb.elim)
      | io c c' =>
        obtain ⟨v1, v2, v3, _⟩ := hG
        obtain ⟨w1, arr, bs0, w2, w3, w4, w5⟩ := v2
        obtain ⟨arr', bs1, y1, y2, y3, y4⟩ := hO
        have hD : D j = bs1 := by simp [D, e, eo, y3]
        refine ⟨q.pre, q.us, o.1, q.post, arr, arr', q.T, by rw [← v1]; exact w1, ?_, w3, ?_, y1, y2, ?_⟩
        · rw [hW2B _ ⟨j, q, _, c, c', eq, e, rfl, rfl⟩]; exact w2
        · rw [repL_len w5]
          exact backs_len hb j c c' x e
        · rw [hD]; exact repL_frame c' y4 (fun b hb => hW2n b (hDB j b (by rw [hD]; exact hb))) (fun b hb => hb.elim)) (fun j j' c c' c2 c2' x x' e e' hbb => by
      obtain ⟨q, eq⟩ := hqL' j _ e
      obtain ⟨q', eq'⟩ := hqL' j' _ e'
      obtain ⟨r, hr, hbr, _⟩ := (hqs j _ q e eq).2.2.1 c c' rfl
      obtain ⟨r', hr', hbr', _⟩ := (hqs j' _ q' e' eq').2.2.1 c2 c2' rfl
      rw [hbf j q eq, hbf j' q' eq'] at hbb
      rw [← hbb] at hbr'
      have := h2.own.dj _ _ _ hbr hbr'
      subst this
      exact lents_dist hl j j' r hr hr') (fun j c c' x k e hm => by
      rw [hg3] at hm
      exact hDB k _ hm (hioB j c c' x e)) (fun b hb' => by
      refine hW2n b fun ⟨j, q, p, c, c', e, e', hp, hbq⟩ => ?_
      obtain ⟨q0, x0⟩ := p
      simp only at hp; subst hp
      exact hb' j c c' x0 e' (by rw [hbf j q e]; exact hbq))
  have hrb : g4.bl (.hand L.length) = rb := by
    rw [k2 L.length (fun j q x e _ => by
      obtain ⟨h, _⟩ := List.getElem?_eq_some_iff.1 e; omega), hg3, hDn]
  obtain ⟨g5, h5, z1, z2⟩ := h4.putRes hlt L.length (res := res) (vs := vs) (by rw [hrb]; exact tupOK_mono (fun b h => h.elim) hres)
  rw [hd]
  refine hnext _ _ ⟨g5, h5, fun i => ?_⟩
  by_cases hi : i = L.length
  · rw [hi]; exact z1
  · rw [z2 i hi]
    cases e : L[i]? with
    | none =>
      rw [k2 i (fun j q x e' _ hij => by rw [hij, Nat.zero_add, e'] at e; cases e), hg3]
      simp [D, e, hi]
    | some p =>
      obtain ⟨q0, x0⟩ := p
      cases hq : q0.lent with
      | true =>
        have := k1 i q0 x0 e hq
        rw [Nat.zero_add] at this; exact this
      | false =>
        rw [k2 i (fun j q x e' hq' hij => by
          rw [Nat.zero_add] at hij; subst hij
          rw [e] at e'; simp only [Option.some.injEq, Prod.mk.injEq] at e'
          rw [e'.1, hq'] at hq; cases hq), hg3]
        obtain ⟨o, eo⟩ := hosL i _ e
        cases q0 with
        | ro _ _ => simp only [D, e, eo]
        | mv _ _ => simp only [D, e, eo]
        | le _ _ _ => cases hq
        | io _ _ => cases hq
end Go.Lvm
