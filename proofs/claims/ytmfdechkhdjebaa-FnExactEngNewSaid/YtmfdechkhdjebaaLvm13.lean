/- Lemmas of the by-value machine and of the data that the contracts speak of: each holds under the hypotheses that it states. -/
import Derived.Test.YtmfdechkhdjebaaLvm12
set_option linter.unusedVariables false
set_option linter.unusedSimpArgs false
namespace Go.Lvm
variable {P : Program} {TT : Nat → Ty} {X : Fx} {st st' : St} {o : Oper} {d : Nat}
/-! ### No static node -/
mutual
def ownC : C → Bool
  | .v _ => true
  | .d => false
  | .s o _ xs => o && ownR xs
def ownL : List C → Bool
  | [] => true
  | c :: cs => ownC c && ownL cs
def ownR : List (List C) → Bool
  | [] => true
  | c :: cs => ownL c && ownR cs
end
mutual
theorem repC_own {W : World} {Z Z' : Nat → Prop} : ∀ (c : C) {u : Value} {bs : List Nat}, repC W Z c u bs → ownC c = true → repC W Z' c u bs
  | .v x, u, bs, h, _ => h
  | .d, u, bs, h, e => by simp [ownC] at e
  | .s o z xs, u, bs, h, e => by
    simp only [ownC, Bool.and_eq_true] at e
    obtain ⟨rfl, e⟩ := e
    obtain ⟨A, c, rfl, hlc, hA⟩ := h
    refine ⟨A, c, rfl, hlc, ?_⟩
    cases A with
    | none => exact hA
    | some ad =>
      rcases hA with hA | ⟨arr, T, fr, inn, g1, g2, g3, g4, g5⟩
      · exact .inl hA
      · exact .inr ⟨arr, T, fr, inn, g1, g2, g3, (fun h => Bool.noConfusion h), repR_own z xs g5 e⟩
theorem repL_own {W : World} {Z Z' : Nat → Prop} : ∀ (cs : List C) {us : List Value} {bs : List Nat}, repL W Z cs us bs → ownL cs = true → repL W Z' cs us bs
  | [], us, bs, h, _ => h
  | c :: cs, us, bs, h, e => by
    simp only [ownL, Bool.and_eq_true] at e
    obtain ⟨u, us', b1, b2, rfl, rfl, h1, h2⟩ := h
    exact ⟨u, us', b1, b2, rfl, rfl, repC_own c h1 e.1, repL_own cs h2 e.2⟩
theorem repR_own {W : World} {Z Z' : Nat → Prop} (z : Nat) : ∀ (xs : List (List C)) {us : List Value} {bs : List Nat}, repR W Z z xs us bs → ownR xs = true → repR W Z' z xs us bs
  | [], us, bs, h, _ => h
  | c :: cs, us, bs, h, e => by
    simp only [ownR, Bool.and_eq_true] at e
    obtain ⟨u1, us', b1, b2, rfl, hl, rfl, h1, h2⟩ := h
    exact ⟨u1, us', b1, b2, rfl, hl, rfl, repL_own c h1 e.1, repR_own z cs h2 e.2⟩
end
theorem ownL_map : ∀ cs, ownL cs = cs.all ownC
  | [] => rfl
  | c :: cs => by simp [ownL, ownL_map cs]
theorem ownR_map : ∀ xs, ownR xs = xs.all (·.all ownC)
  | [] => rfl
  | c :: cs => by simp [ownR, ownR_map cs, ownL_map]
def isV : C → Bool
  | .v _ => true
  | _ => false
theorem repL_isV {W W' : World} {Z Z' : Nat → Prop} : ∀ {cs : List C} {us : List Value} {bs : List Nat}, repL W Z cs us bs → cs.all isV = true → repL W' Z' cs us bs
  | [], us, bs, h, _ => h
  | c :: cs, us, bs, h, e => by
    simp only [List.all_cons, Bool.and_eq_true] at e
    obtain ⟨u, us', b1, b2, rfl, rfl, h1, h2⟩ := h
    refine ⟨u, us', b1, b2, rfl, rfl, ?_, repL_isV h2 e.2⟩
    cases c with
    | v x => exact h1
    | d => simp [isV] at e
    | s o z xs => simp [isV] at e

/-! ### What is given -/
def Ar.isMv : Ar → Bool
  | .mv _ _ => true
  | _ => false
def Ar.lent : Ar → Bool
  | .io _ _ | .le _ _ _ => true
  | _ => false
inductive Mvs (X : Fx) : St → List (Ar × Operand) → St → Prop
  | nil (st : St) : Mvs X st [] st
  | mv {st st1 st2 : St} {z : Nat} {g : Bool} {cs : List C} {x : Operand} {l : List (Ar × Operand)} : st.grab z x = some (g, cs, st1) → ownL cs = true → (∀ t, x = .tmp t → t < X.n) → Mvs X st1 l st2 → Mvs X st ((.mv g cs, x) :: l) st2
  | ot {st st2 : St} {q : Ar} {x : Operand} {l : List (Ar × Operand)} : q.isMv = false → Mvs X st l st2 → Mvs X st ((q, x) :: l) st2
theorem mvs_ok {w : World} {a : Act} : ∀ {l : List (Ar × Operand)} {st st1 : St} {g : Gh} (i : Nat), Mvs X st l st1 → Conc X st w a g → (∀ j, i ≤ j → g.bl (.hand j) = []) →
    ∃ g', Conc X st1 w a g' ∧ (∀ j, j < i → g'.bl (.hand j) = g.bl (.hand j)) ∧ (∀ j, i + l.length ≤ j → g'.bl (.hand j) = []) ∧
      ∀ j q x, l[j]? = some (q, x) → (q.isMv = false → g'.bl (.hand (i + j)) = []) ∧ ∀ gg cs, q = .mv gg cs → ∃ us, a.eval x = pack gg us ∧ (gg = false → cs.length = 1) ∧ repL w NoZ cs us (g'.bl (.hand (i + j))) := by
  intro l
  induction l with
  | nil =>
    intro st st1 g i hm h hi
    cases hm
    exact ⟨g, h, fun _ _ => rfl, fun j hj => hi j (by simpa using hj), fun j q x e => by simp at e⟩
  | cons p l ih =>
    intro st st1 g i hm h hi
    cases hm with
    | @mv _ st' _ z gg cs x _ h1 h2 h3 h4 =>
      obtain ⟨g1, us, k1, k2, k3, k4, k5, _, _⟩ := grab_conc h h1 i (hi i (Nat.le_refl _)) h3
      obtain ⟨g2, m1, m2, m3, m4⟩ := ih (i + 1) h4 k1 (fun j hj => by rw [k5 j (by omega)]; exact hi j (by omega))
      refine ⟨g2, m1, fun j hj => by rw [m2 j (by omega), k5 j (by omega)], fun j hj => m3 j (by simp at hj; omega), fun j q y e => ?_⟩
      cases j with
      | zero =>
        simp only [List.getElem?_cons_zero, Option.some.injEq, Prod.mk.injEq] at e
        obtain ⟨rfl, rfl⟩ := e
        refine ⟨fun h => by simp [Ar.isMv] at h, fun gg' cs' e => ?_⟩
        injection e with e1 e2; subst e1; subst e2
        exact ⟨us, k2, k3, by rw [Nat.add_zero, m2 i (by omega)]; exact repL_own cs k4 h2⟩
      | succ j =>
        have := m4 j q y (by simpa using e)
        rw [show i + (j + 1) = i + 1 + j by omega]; exact this
    | @ot _ _ q0 x _ h1 h2 =>
      obtain ⟨g2, m1, m2, m3, m4⟩ := ih (i + 1) h2 h (fun j hj => hi j (by omega))
      refine ⟨g2, m1, fun j hj => m2 j (by omega), fun j hj => m3 j (by simp at hj; omega), fun j q y e => ?_⟩
      cases j with
      | zero =>
        simp only [List.getElem?_cons_zero, Option.some.injEq, Prod.mk.injEq] at e
        obtain ⟨rfl, rfl⟩ := e
        refine ⟨fun _ => by rw [Nat.add_zero, m2 i (by omega)]; exact hi i (Nat.le_refl _), fun gg' cs' e => ?_⟩
        subst e; simp [Ar.isMv] at h1
      | succ j =>
        have := m4 j q y (by simpa using e)
        rw [show i + (j + 1) = i + 1 + j by omega]; exact this
/-! ### What is lent -/
inductive Lents : St → List (Ar × Operand) → St → List (Option Rt) → Prop
  | nil (st : St) : Lents st [] st []
  | io {st st2 : St} {t : Nat} {r : Rt} {off : Nat} {ps : Pth} {cs cs' c0 c1 : List C} {l : List (Ar × Operand)} {rs : List (Option Rt)} : st.env t = .ptr r off ps → st.cells r = some c0 → getC c0 off ps cs.length = some cs → ownL cs = true →
      setC c0 off ps (List.replicate cs.length .d) = some c1 → some r ∉ rs → Lents (st.setRoot r c1) l st2 rs → Lents st ((.io cs cs', .tmp t) :: l) st2 (some r :: rs)
  | lev {st st2 : St} {t : Nat} {g : Bool} {cs cs' : List C} {l : List (Ar × Operand)} {rs : List (Option Rt)} : st.env t = .val g cs → ownL cs = true → some (Rt.slot t) ∉ rs → Lents (st.setRoot (.slot t) (List.replicate cs.length .d)) l st2 rs →
      Lents st ((.le g cs cs', .tmp t) :: l) st2 (some (.slot t) :: rs)
  | ler {st st2 : St} {t : Nat} {r : Rt} {off : Nat} {ps : Pth} {g : Bool} {cs cs' c0 c1 : List C} {l : List (Ar × Operand)} {rs : List (Option Rt)} : st.env t = .ref r off ps g cs.length → st.cells r = some c0 → getC c0 off ps cs.length = some cs → ownL cs = true →
      setC c0 off ps (List.replicate cs.length .d) = some c1 → some r ∉ rs → Lents (st.setRoot r c1) l st2 rs → Lents st ((.le g cs cs', .tmp t) :: l) st2 (some r :: rs)
  | ot {st st2 : St} {q : Ar} {x : Operand} {l : List (Ar × Operand)} {rs : List (Option Rt)} : q.lent = false → Lents st l st2 rs → Lents st ((q, x) :: l) st2 (none :: rs)
theorem Conc.spot {w : World} {a : Act} {g : Gh} (h : Conc X st w a g) {r : Rt} {off : Nat} {ps : Pth} {cs cs' new : List C} (hc : st.cells r = some cs) (hs : setC cs off ps new = some cs') (hsl : ∀ t, r = .slot t → ps ≠ []) :
    ∃ b p us' arr T, g.rsv w r off ps = some (b, p, us') ∧ w.heap[b]? = some (.cells arr T (0, 0)) ∧ p + new.length ≤ arr.size ∧ b ∈ g.bl r := by
  obtain ⟨pre, bs, hbl, hrep, hnd, hvar, hslot, hhand⟩ := h.cells_root hc
  obtain ⟨b, p, us', b1, b2, b3, hrsv, hk, hbs, hsub, hnil, hcons, hfin⟩ := set_ok ps (g.at_ r).1 (g.at_ r).2 off hrep hs hnd
  have hblk : b ∈ g.bl r ∧ ∃ arr T, w.heap[b]? = some (.cells arr T (0, 0)) ∧ p + new.length ≤ arr.size := by
    by_cases hps : ps = []
    · obtain ⟨rfl, rfl⟩ := hnil hps
      cases r with
      | var t =>
        obtain ⟨arr, T, ob, e1, e2, e3, e4, e5⟩ := h.var t cs hc
        refine ⟨by rw [e3]; simp [Gh.at_], arr, T, e1, ?_⟩
        have := congrArg List.length e2
        subst hps
        simp only [rsv, Option.some.injEq, Prod.mk.injEq] at hrsv
        obtain ⟨_, _, rfl⟩ := hrsv
        simp at this hk
        by_cases hn : new.length = 0
        · have hsome : off ≤ cs.length := by
            simp only [setC] at hs
            split at hs
            · omega
            · cases hs
          have := repL_len hrep
          simp [Gh.at_]; omega
        · simp [Gh.at_]; omega
      | slot t => exact absurd hps (hsl t rfl)
      | hand j => exact absurd rfl (hhand j)
    · obtain ⟨hm, harr⟩ := hcons hps
      exact ⟨by rw [hbl, hbs]; simp [hm], harr⟩
  obtain ⟨h1, arr, T, h2, h3⟩ := hblk
  exact ⟨b, p, us', arr, T, hrsv, h2, h3, h1⟩
/-- What of a lent argument is known while it is lent. -/
def LentOK (w : World) (a : Act) (bl : Rt → List Nat) (i : Nat) (r : Option Rt) (x : Operand) : Ar → Prop
  | .io cs _ => ∃ b pre us post arr T r', r = some r' ∧ a.eval x = .pointer (some ⟨b, pre.length, none⟩) ∧ w.heap[b]? = some (.cells arr T (0, 0)) ∧ arr.toList = pre ++ us ++ post ∧ repL w NoZ cs us (bl (.hand i)) ∧ b ∈ bl r'
  | .le g cs _ => ∃ us, a.eval x = pack g us ∧ (g = false → cs.length = 1) ∧ repL w NoZ cs us (bl (.hand i))
  | _ => True
theorem LentOK.same {w : World} {a : Act} {bl bl' : Rt → List Nat} {i : Nat} {r : Option Rt} {x : Operand} {q : Ar} (h : LentOK w a bl i r x q) (h1 : q.lent = true → bl' (.hand i) = bl (.hand i)) (h2 : ∀ r', r = some r' → q.lent = true → bl' r' = bl r') : LentOK w a bl' i r x q := by
  cases q with
  | io cs cs' =>
    obtain ⟨b, pre, us, post, arr, T, r', e1, e2, e3, e4, e5, e6⟩ := h
    exact ⟨b, pre, us, post, arr, T, r', e1, e2, e3, e4, by rw [h1 rfl]; exact e5, by rw [h2 r' e1 rfl]; exact e6⟩
  | le g cs cs' =>
    obtain ⟨us, e1, e2, e3⟩ := h
    exact ⟨us, e1, e2, by rw [h1 rfl]; exact e3⟩
  | _ => trivial
theorem lents_len {l : List (Ar × Operand)} {st st1 : St} {rs : List (Option Rt)} (h : Lents st l st1 rs) : rs.length = l.length := by
  induction h <;> simp_all
theorem lents_dist {l : List (Ar × Operand)} {st st1 : St} {rs : List (Option Rt)} (h : Lents st l st1 rs) : ∀ (j j' : Nat) (r : Rt), rs[j]? = some (some r) → rs[j']? = some (some r) → j = j' := by
  have key : ∀ (r0 : Rt) (rs : List (Option Rt)), some r0 ∉ rs → (∀ (j j' : Nat) (r : Rt), rs[j]? = some (some r) → rs[j']? = some (some r) → j = j') → ∀ (j j' : Nat) (r : Rt), (some r0 :: rs)[j]? = some (some r) → (some r0 :: rs)[j']? = some (some r) → j = j' := by
    intro r0 rs hn ih j j' r h1 h2
    cases j with
    | zero => cases j' with
      | zero => rfl
      | succ j' =>
        simp at h1 h2
        subst h1
        exact absurd (List.mem_of_getElem? h2) hn
    | succ j => cases j' with
      | zero =>
        simp at h1 h2
        subst h2
        exact absurd (List.mem_of_getElem? h1) hn
      | succ j' => simp at h1 h2; rw [ih j j' r h1 h2]
  induction h with
  | nil => intro j j' r h; simp at h
  | io _ _ _ _ _ hn _ ih => exact key _ _ hn ih
  | lev _ _ hn _ ih => exact key _ _ hn ih
  | ler _ _ _ _ _ hn _ ih => exact key _ _ hn ih
  | ot _ _ ih =>
    intro j j' r h1 h2
    cases j with
    | zero => simp at h1
    | succ j => cases j' with
      | zero => simp at h2
      | succ j' => simp at h1 h2; rw [ih j j' r h1 h2]
theorem lents_ok {w : World} {a : Act} {l : List (Ar × Operand)} {st st1 : St} {rs : List (Option Rt)} (hl : Lents st l st1 rs) : ∀ {g : Gh} (i : Nat), Conc X st w a g → (∀ j q x, l[j]? = some (q, x) → q.lent = true → g.bl (.hand (i + j)) = []) →
    ∃ g', Conc X st1 w a g' ∧ (∀ r, some r ∉ rs → (∀ j q x, l[j]? = some (q, x) → q.lent = true → r ≠ .hand (i + j)) → g'.bl r = g.bl r) ∧ (∀ r, some r ∈ rs → ∀ j, r ≠ .hand j) ∧
      (∀ j q x r, l[j]? = some (q, x) → rs[j]? = some r → LentOK w a g'.bl (i + j) r x q) := by
  have key : ∀ {st' st2 : St} {q0 : Ar} {x0 : Operand} {r0 : Rt} {l : List (Ar × Operand)} {rs : List (Option Rt)} {g g1 : Gh} (i : Nat), q0.lent = true → some r0 ∉ rs → (∀ j, r0 ≠ .hand j) → rs.length = l.length → Conc X st' w a g1 → (∀ r', r' ≠ r0 → r' ≠ .hand i → g1.bl r' = g.bl r') → LentOK w a g1.bl i (some r0) x0 q0 →
      (∀ j q x, ((q0, x0) :: l)[j]? = some (q, x) → q.lent = true → g.bl (.hand (i + j)) = []) →
      (∀ {g : Gh} (i : Nat), Conc X st' w a g → (∀ j q x, l[j]? = some (q, x) → q.lent = true → g.bl (.hand (i + j)) = []) →
        ∃ g', Conc X st2 w a g' ∧ (∀ r, some r ∉ rs → (∀ j q x, l[j]? = some (q, x) → q.lent = true → r ≠ .hand (i + j)) → g'.bl r = g.bl r) ∧ (∀ r, some r ∈ rs → ∀ j, r ≠ .hand j) ∧ (∀ j q x r, l[j]? = some (q, x) → rs[j]? = some r → LentOK w a g'.bl (i + j) r x q)) →
      ∃ g', Conc X st2 w a g' ∧ (∀ r, some r ∉ some r0 :: rs → (∀ j q x, ((q0, x0) :: l)[j]? = some (q, x) → q.lent = true → r ≠ .hand (i + j)) → g'.bl r = g.bl r) ∧ (∀ r, some r ∈ some r0 :: rs → ∀ j, r ≠ .hand j) ∧
        (∀ j q x r, ((q0, x0) :: l)[j]? = some (q, x) → (some r0 :: rs)[j]? = some r → LentOK w a g'.bl (i + j) r x q) := by
    intro st' st2 q0 x0 r0 l rs g g1 i hq hn hh hlen hc hsame hok hi ih
    obtain ⟨g2, m1, m2, m3, m4⟩ := ih (i + 1) hc (fun j q x e hq' => by
      rw [hsame _ (fun e' => hh _ e'.symm) (by intro h; injection h with h; omega)]
      have := hi (j + 1) q x (by simpa using e) hq'
      rw [show i + 1 + j = i + (j + 1) by omega]; exact this)
    refine ⟨g2, m1, fun r hr1 hr2 => ?_, fun r hr => ?_, fun j q x r e1 e2 => ?_⟩
    · simp only [List.mem_cons, not_or] at hr1
      rw [m2 r hr1.2 (fun j q x e hq' => by have := hr2 (j + 1) q x (by simpa using e) hq'; rw [show i + 1 + j = i + (j + 1) by omega]; exact this)]
      exact hsame r (fun e => hr1.1 (by rw [e])) (by exact hr2 0 q0 x0 rfl hq)
    · rcases List.mem_cons.1 hr with e | hr
      · injection e with e; subst e; exact hh
      · exact m3 r hr
    · cases j with
      | zero =>
        simp only [List.getElem?_cons_zero, Option.some.injEq, Prod.mk.injEq] at e1 e2
        obtain ⟨rfl, rfl⟩ := e1
        subst e2
        refine hok.same (fun _ => ?_) (fun r' e _ => ?_)
        · exact m2 _ (fun hm => m3 _ hm i rfl) (fun j q x e hq' h => by injection h with h; omega)
        · injection e with e; subst e
          exact m2 _ hn (fun j q x e hq' => hh _)
      | succ j =>
        have := m4 j q x r (by simpa using e1) (by simpa using e2)
        rw [show i + (j + 1) = i + 1 + j by omega]; exact this
  have hone : ∀ {st : St} {g : Gh} {r : Rt} {off : Nat} {ps : Pth} {cs c0 c1 : List C} (i : Nat), Conc X st w a g → st.cells r = some c0 → getC c0 off ps cs.length = some cs → ownL cs = true → setC c0 off ps (List.replicate cs.length .d) = some c1 → g.bl (.hand i) = [] →
      ∃ g' b p us', Conc X (st.setRoot r c1) w a g' ∧ g.rsv w r off ps = some (b, p, us') ∧ cs.length ≤ us'.length ∧ repL w NoZ cs (us'.take cs.length) (g'.bl (.hand i)) ∧ (∀ r', r' ≠ r → r' ≠ .hand i → g'.bl r' = g.bl r') ∧ (∀ j, r ≠ .hand j) ∧ ∀ r' off ps, g'.rsv w r' off ps = g.rsv w r' off ps := by
    intro st g r off ps cs c0 c1 i h hc hg ho hs hi
    obtain ⟨g', b, p, us', k1, k2, k3, k4, k5, k6⟩ := h.lend hc hg hs i hi
    exact ⟨g', b, p, us', k1, k2, k3, repL_own cs k4 ho, k5, (fun j e => by subst e; cases hc), k6⟩
  induction hl with
  | nil => exact fun i h _ => ⟨_, h, fun _ _ _ => rfl, (fun r hr => by cases hr), fun j q x r e => by simp at e⟩
  | @io st st2 t r off ps cs cs' c0 c1 l rs he hc hg ho hs hn hl ih =>
    intro g i h hi
    obtain ⟨g1, b, p, us', k1, k2, k3, k4, k5, k6, k7⟩ := hone i h hc hg ho hs (by simpa using hi 0 _ _ rfl rfl)
    have henv := h.env t
    rw [he] at henv
    obtain ⟨hsl, h2⟩ := henv
    obtain ⟨b0, p0, us0, e1, e2⟩ := h2 c0 hc (getC_zero ps (by rw [hg]; simp))
    rw [k2] at e1
    simp only [Option.some.injEq, Prod.mk.injEq] at e1
    obtain ⟨rfl, rfl, rfl⟩ := e1
    obtain ⟨b1, p1, us1, arr, T, q1, q2, q3, q4⟩ := k1.spot (r := r) (cs := c1) (off := off) (ps := ps) (new := List.replicate cs.length .d) (cs' := c1) (by rw [setRoot_cells hc, if_pos rfl]) (by
      rw [setC_setC ps hs rfl, hs]) hsl
    rw [k7, k2] at q1
    simp only [Option.some.injEq, Prod.mk.injEq] at q1
    obtain ⟨rfl, rfl, rfl⟩ := q1
    obtain ⟨b1, p1, us1, arr1, T1, fr1, m1, m2, m3, m4, _⟩ := h.place hsl hc hg
    rw [k2] at m1
    simp only [Option.some.injEq, Prod.mk.injEq] at m1
    obtain ⟨rfl, rfl, rfl⟩ := m1
    rw [q2] at m2
    simp only [Option.some.injEq, Obj.cells.injEq] at m2
    obtain ⟨rfl, rfl, rfl⟩ := m2
    simp only [List.length_replicate] at q3
    refine key i rfl hn k6 (lents_len hl) k1 k5 ⟨b, arr.toList.take p, us'.take cs.length, arr.toList.drop (p + cs.length), arr, T, r, rfl, ?_, q2, ?_, k4, q4⟩ hi ih
    · show a.tmps.getD t undef = _
      rw [e2]
      have : (arr.toList.take p).length = p := by simp; omega
      rw [this]
    · rw [← m3, List.append_assoc, ← List.drop_drop, List.take_append_drop, List.take_append_drop]
  | @lev st st2 t gg cs cs' l rs he ho hn hl ih =>
    intro g i h hi
    have hc : st.cells (.slot t) = some cs := by simp [St.cells, he, L.cells]
    have hg : getC cs 0 [] cs.length = some cs := by simp [getC]
    have hs : setC cs 0 [] (List.replicate cs.length .d) = some (List.replicate cs.length .d) := by simp [setC]
    obtain ⟨g1, b, p, us', k1, k2, k3, k4, k5, k6, k7⟩ := hone i h hc hg ho hs (by simpa using hi 0 _ _ rfl rfl)
    have henv := h.env t
    rw [he] at henv
    obtain ⟨h1, h2, h3⟩ := henv
    simp only [Gh.rsv, rsv, Option.some.injEq, Prod.mk.injEq, List.drop_zero] at k2
    obtain ⟨_, _, rfl⟩ := k2
    have hu := repL_len h3
    rw [List.take_of_length_le (by omega)] at k4
    exact key i rfl hn k6 (lents_len hl) k1 k5 ⟨_, h1, h2, k4⟩ hi ih
  | @ler st st2 t r off ps gg cs cs' c0 c1 l rs he hc hg ho hs hn hl ih =>
    intro g i h hi
    obtain ⟨g1, b, p, us', k1, k2, k3, k4, k5, k6, k7⟩ := hone i h hc hg ho hs (by simpa using hi 0 _ _ rfl rfl)
    have henv := h.env t
    rw [he] at henv
    obtain ⟨h1, h2⟩ := henv
    obtain ⟨b0, p0, us0, e1, e2⟩ := h2 c0 hc (by rw [hg]; simp)
    rw [k2] at e1
    simp only [Option.some.injEq, Prod.mk.injEq] at e1
    obtain ⟨rfl, rfl, rfl⟩ := e1
    exact key i rfl hn k6 (lents_len hl) k1 k5 ⟨_, e2, h1, k4⟩ hi ih
  | @ot st st2 q0 x0 l rs hq hl ih =>
    intro g i h hi
    obtain ⟨g2, m1, m2, m3, m4⟩ := ih (i + 1) h (fun j q x e hq' => by have := hi (j + 1) q x (by simpa using e) hq'; rw [show i + 1 + j = i + (j + 1) by omega]; exact this)
    refine ⟨g2, m1, fun r hr1 hr2 => m2 r (fun hm => hr1 (by simp [hm])) (fun j q x e hq' => by have := hr2 (j + 1) q x (by simpa using e) hq'; rw [show i + 1 + j = i + (j + 1) by omega]; exact this), fun r hr => m3 r (by simpa using hr), fun j q x r e1 e2 => ?_⟩
    cases j with
    | zero =>
      simp only [List.getElem?_cons_zero, Option.some.injEq, Prod.mk.injEq] at e1 e2
      obtain ⟨rfl, rfl⟩ := e1
      cases q0 with
      | io _ _ => simp [Ar.lent] at hq
      | le _ _ _ => simp [Ar.lent] at hq
      | _ => trivial
    | succ j =>
      have := m4 j q x r (by simpa using e1) (by simpa using e2)
      rw [show i + (j + 1) = i + 1 + j by omega]; exact this
end Go.Lvm
