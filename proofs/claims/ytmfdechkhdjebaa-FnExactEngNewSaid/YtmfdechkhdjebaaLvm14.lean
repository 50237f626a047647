/- Lemmas of the by-value machine and of the data that the contracts speak of: each holds under the hypotheses that it states. -/
import Derived.Test.YtmfdechkhdjebaaLvm13
set_option linter.unusedVariables false
set_option linter.unusedSimpArgs false
namespace Go.Lvm
variable {P : Program} {TT : Nat → Ty} {X : Fx} {st st' : St} {o : Oper} {d : Nat}
theorem setC_getC : ∀ (ps : Pth) {cs new cs' : List C} {off : Nat}, setC cs off ps new = some cs' → getC cs off ps new.length ≠ none
  | [], cs, new, cs', off, h => by
    simp only [setC, getC] at h ⊢
    split at h
    · rename_i hle; rw [if_pos hle]; simp
    · cases h
  | (i, z, o) :: ps, cs, new, cs', off, h => by
    simp only [setC] at h
    split at h
    · rename_i z' xs hc
      split at h
      · rename_i hz
        split at h
        · rename_i e he
          obtain ⟨e', h1, h2⟩ := Option.map_eq_some_iff.1 h
          simp only [getC, hc, if_pos hz, he]
          exact setC_getC ps h1
        · cases h
      · cases h
    · cases h
theorem pack_inj {g : Bool} {us us' : List Value} (h : pack g us = pack g us') (h1 : g = false → us.length = 1) (h2 : g = false → us'.length = 1) : us = us' := by
  cases g with
  | true => simpa [pack] using h
  | false =>
    obtain ⟨u, rfl⟩ := List.length_eq_one_iff.1 (h1 rfl)
    obtain ⟨u', rfl⟩ := List.length_eq_one_iff.1 (h2 rfl)
    simpa [pack] using h
/-! ### What is lent comes back -/
inductive Backs : St → List (Ar × Operand) → St → Prop
  | nil (st : St) : Backs st [] st
  | io {st st2 : St} {t : Nat} {r : Rt} {off : Nat} {ps : Pth} {cs cs' c0 c1 : List C} {l : List (Ar × Operand)} : st.env t = .ptr r off ps → st.cells r = some c0 → setC c0 off ps cs' = some c1 → cs.length = cs'.length → Backs ((st.setRoot r c1).touch r) l st2 → Backs st ((.io cs cs', .tmp t) :: l) st2
  | lev {st st2 : St} {t : Nat} {g : Bool} {cs cs' c0 : List C} {l : List (Ar × Operand)} : st.env t = .val g c0 → c0.length = cs'.length → Backs ((st.setRoot (.slot t) cs').touch (.slot t)) l st2 → Backs st ((.le g cs cs', .tmp t) :: l) st2
  | ler {st st2 : St} {t : Nat} {r : Rt} {off : Nat} {ps : Pth} {g : Bool} {cs cs' c0 c1 : List C} {l : List (Ar × Operand)} : st.env t = .ref r off ps g cs'.length → st.cells r = some c0 → setC c0 off ps cs' = some c1 → Backs ((st.setRoot r c1).touch2 r) l st2 → Backs st ((.le g cs cs', .tmp t) :: l) st2
  | ot {st st2 : St} {q : Ar} {x : Operand} {l : List (Ar × Operand)} : q.lent = false → Backs st l st2 → Backs st ((q, x) :: l) st2
def BackOK (wE w : World) (a : Act) (l : List Nat) (x : Operand) (b : Nat) : Ar → Prop
  | .io cs cs' => ∃ pre us us' post arr arr' T, a.eval x = .pointer (some ⟨b, pre.length, none⟩) ∧ w.heap[b]? = some (.cells arr T (0, 0)) ∧ arr.toList = pre ++ us ++ post ∧ us.length = cs'.length ∧ wE.heap[b]? = some (.cells arr' T (0, 0)) ∧ arr'.toList = pre ++ us' ++ post ∧ repL w NoZ cs' us' l
  | .le g cs cs' => ∃ us, a.eval x = pack g us ∧ (g = false → cs'.length = 1) ∧ repL w NoZ cs' us l
  | _ => True
theorem BackOK.turn {wE w w' : World} {a : Act} {l : List Nat} {x : Operand} {b : Nat} {q : Ar} (h : BackOK wE w a l x b q) (h1 : ∀ c ∈ l, w'.heap[c]? = w.heap[c]?) (h2 : ∀ c c', q = .io c c' → w'.heap[b]? = w.heap[b]?) : BackOK wE w' a l x b q := by
  cases q with
  | io cs cs' =>
    obtain ⟨pre, us, us', post, arr, arr', T, e1, e2, e3, e4, e5, e6, e7⟩ := h
    exact ⟨pre, us, us', post, arr, arr', T, e1, by rw [h2 _ _ rfl]; exact e2, e3, e4, e5, e6, repL_frame cs' e7 h1 (fun b h => h.elim)⟩
  | le g cs cs' =>
    obtain ⟨us, e1, e2, e3⟩ := h
    exact ⟨us, e1, e2, repL_frame cs' e3 h1 (fun b h => h.elim)⟩
  | _ => trivial
theorem world_ext {w w' : World} (h : w' = { w with heap := w'.heap }) (hh : ∀ b : Nat, w.heap[b]? = w'.heap[b]?) : w = w' := by
  have : w.heap = w'.heap := Array.ext_getElem? hh
  rw [h, ← this]
theorem repL_Z {W : World} {Z : Nat → Prop} {cs : List C} {us : List Value} {bs : List Nat} (h : repL W NoZ cs us bs) : repL W Z cs us bs := repL_frame cs h (fun _ _ => rfl) (fun b h => h.elim)
theorem backs_ok {wE : World} {a : Act} {l : List (Ar × Operand)} {st st2 : St} (hl : Backs st l st2) : ∀ {w : World} {g : Gh} (i : Nat) (bf : Nat → Nat), Conc X st w a g → wE = { w with heap := wE.heap } →
    (∀ j q x, l[j]? = some (q, x) → BackOK wE w a (g.bl (.hand (i + j))) x (bf j) q) → (∀ j j' c c' c2 c2' x x', l[j]? = some (.io c c', x) → l[j']? = some (.io c2 c2', x') → bf j = bf j' → j = j') →
    (∀ j c c' x k, l[j]? = some (.io c c', x) → bf j ∉ g.bl (.hand k)) → (∀ b, (∀ j c c' x, l[j]? = some (.io c c', x) → b ≠ bf j) → w.heap[b]? = wE.heap[b]?) →
    ∃ g', Conc X st2 wE a g' ∧ (∀ j q x, l[j]? = some (q, x) → q.lent = true → g'.bl (.hand (i + j)) = []) ∧ ∀ k, (∀ j q x, l[j]? = some (q, x) → q.lent = true → k ≠ i + j) → g'.bl (.hand k) = g.bl (.hand k) := by
  induction hl with
  | nil =>
    intro w g i bf h hE _ _ _ hw
    have := world_ext hE (fun b => hw b (fun j c c' x e => by simp at e))
    subst this
    exact ⟨g, h, fun j q x e => by simp at e, fun _ _ => rfl⟩
  | @io st st2 t r off ps cs cs' c0 c1 l he hc hs hlc hl ih =>
    intro w g i bf h hE hb hd hn hw
    obtain ⟨pre, us, us', post, arr, arr', T, e1, e2, e3, e4, e5, e6, e7⟩ := hb 0 _ _ rfl
    simp only [Nat.add_zero] at e7
    have henv := h.env t
    rw [he] at henv
    obtain ⟨hsl, h2⟩ := henv
    obtain ⟨b, p, us1, arr1, T1, q1, q2, q3, g1, q4, q5, q6⟩ := h.store i hc hs hsl (repL_Z e7)
    obtain ⟨b0, p0, us0, m1, m2⟩ := h2 c0 hc (getC_zero ps (setC_getC ps hs))
    rw [q1] at m1
    simp only [Option.some.injEq, Prod.mk.injEq] at m1
    obtain ⟨rfl, rfl, rfl⟩ := m1
    have m3 : a.tmps.getD t undef = .pointer (some ⟨bf 0, pre.length, none⟩) := e1
    rw [m2] at m3
    simp only [Value.pointer.injEq, Option.some.injEq, Addr.mk.injEq, and_true] at m3
    obtain ⟨rfl, rfl⟩ := m3
    rw [q2] at e2
    simp only [Option.some.injEq, Obj.cells.injEq] at e2
    obtain ⟨rfl, rfl, _⟩ := e2
    have hul := repL_len e7
    have harr : (lput arr1.toList pre.length us').toArray = arr' := by
      apply Array.ext'
      rw [e6]
      simp only [lput, e3]
      have e0 : (pre ++ us ++ post).take pre.length = pre := by rw [List.append_assoc]; exact List.take_left' rfl
      rw [e0]
      have : (pre ++ us ++ post).drop (pre.length + us'.length) = post := by
        rw [List.append_assoc, ← List.drop_drop, List.drop_left, hul, ← e4, List.drop_left]
      rw [this]
    rw [harr] at q4
    have hsame : ∀ x, x ≠ bf 0 → (w.setRow (bf 0) arr').heap[x]? = w.heap[x]? := fun x hx => setRow_other w _ x _ hx
    have f1 : ∀ (j : Nat) (q : Ar) (x : Operand), l[j]? = some (q, x) → BackOK wE (w.setRow (bf 0) arr') a (g1.bl (.hand (i + 1 + j))) x (bf (j + 1)) q := by
      intro j q x e
      have := hb (j + 1) q x (by simpa using e)
      rw [show i + 1 + j = i + (j + 1) by omega, q6 _ (by omega)]
      refine this.turn (fun c hcm => hsame c (fun e => ?_)) (fun c c' eq => hsame _ (fun e' => ?_))
      · subst e; exact hn 0 _ _ _ _ rfl hcm
      · subst eq
        have := hd 0 (j + 1) cs cs' c c' (.tmp t) x rfl (by simpa using e) e'.symm
        omega
    have f2 : ∀ (j : Nat) (c c' : List C) (x : Operand) (k : Nat), l[j]? = some (.io c c', x) → bf (j + 1) ∉ g1.bl (.hand k) := by
      intro j c c' x k e hm
      by_cases hk : k = i
      · subst hk; rw [q5] at hm; cases hm
      · rw [q6 k hk] at hm; exact hn (j + 1) c c' x k (by simpa using e) hm
    have f3 : ∀ b : Nat, (∀ (j : Nat) (c c' : List C) (x : Operand), l[j]? = some (.io c c', x) → b ≠ bf (j + 1)) → (w.setRow (bf 0) arr').heap[b]? = wE.heap[b]? := by
      intro b hb'
      by_cases hb0 : b = bf 0
      · subst hb0
        rw [setRow_heap w _ _ _ T1 (0, 0) q2, e5]
      · rw [hsame b hb0]
        refine hw b fun j c c' x e => ?_
        cases j with
        | zero => exact hb0
        | succ j => exact hb' j c c' x (by simpa using e)
    obtain ⟨g2, k1, k2, k3⟩ := ih (i + 1) (fun j => bf (j + 1)) q4 (by rw [hE]; rfl) f1 (fun j j' c c' c2 c2' x x' e e' e'' => by
        have := hd (j + 1) (j' + 1) c c' c2 c2' x x' (by simpa using e) (by simpa using e') e''; omega) f2 f3
    refine ⟨g2, k1, fun j q x e hq => ?_, fun k hk => ?_⟩
    · cases j with
      | zero =>
        rw [Nat.add_zero, k3 i (fun j q x e hq => by omega)]
        exact q5
      | succ j => have := k2 j q x (by simpa using e) hq; rw [show i + (j + 1) = i + 1 + j by omega]; exact this
    · rw [k3 k (fun j q x e hq => by have := hk (j + 1) q x (by simpa using e) hq; omega)]
      exact q6 k (by have := hk 0 _ _ rfl rfl; omega)
  | @lev st st2 t gg cs cs' c0 l he hlen hl ih =>
    intro w g i bf h hE hb hd hn hw
    obtain ⟨us, e1, e2, e3⟩ := hb 0 _ _ rfl
    simp only [Nat.add_zero] at e3
    have henv := h.env t
    rw [he] at henv
    obtain ⟨h1, h2, h3⟩ := henv
    have hu := repL_len h3
    have hu' := repL_len e3
    have heq : g.us (.slot t) = us := pack_inj (g := gg) (by rw [← h1]; exact e1) (fun hf => by rw [hu]; exact h2 hf) (fun hf => by rw [hu']; exact e2 hf)
    obtain ⟨g1, q4, q5, q6⟩ := h.more (r := .slot t) (off := 0) (ps := []) (cs := c0) (new := cs') (cs' := cs') (by simp [St.cells, he, L.cells]) (by simp [setC, hlen]) i (us := us) (by simp only [Gh.rsv, rsv]; rfl) (by rw [List.drop_zero, heq, ← hu', List.take_length]) (repL_Z e3)
    obtain ⟨g2, k1, k2, k3⟩ := ih (i + 1) (fun j => bf (j + 1)) q4 hE (fun j q x e => by
        have := hb (j + 1) q x (by simpa using e)
        rw [show i + 1 + j = i + (j + 1) by omega, q6 _ (by omega)]; exact this) (fun j j' c c' c2 c2' x x' e e' e'' => by
        have := hd (j + 1) (j' + 1) c c' c2 c2' x x' (by simpa using e) (by simpa using e') e''; omega) (fun j c c' x k e hm => by
        by_cases hk : k = i
        · subst hk; rw [q5] at hm; cases hm
        · rw [q6 k hk] at hm; exact hn (j + 1) c c' x k (by simpa using e) hm) (fun b hb' => hw b fun j c c' x e => by
        cases j with
        | zero => simp at e
        | succ j => exact hb' j c c' x (by simpa using e))
    refine ⟨g2, k1, fun j q x e hq => ?_, fun k hk => ?_⟩
    · cases j with
      | zero =>
        rw [Nat.add_zero, k3 i (fun j q x e hq => by omega)]
        exact q5
      | succ j => have := k2 j q x (by simpa using e) hq; rw [show i + (j + 1) = i + 1 + j by omega]; exact this
    · rw [k3 k (fun j q x e hq => by have := hk (j + 1) q x (by simpa using e) hq; omega)]
      exact q6 k (by have := hk 0 _ _ rfl rfl; omega)
  | @ler st st2 t r off ps gg cs cs' c0 c1 l he hc hs hl ih =>
    intro w g i bf h hE hb hd hn hw
    obtain ⟨us, e1, e2, e3⟩ := hb 0 _ _ rfl
    simp only [Nat.add_zero] at e3
    have henv := h.env t
    rw [he] at henv
    obtain ⟨h1, h2⟩ := henv
    obtain ⟨b, p, us', m1, m2⟩ := h2 c0 hc (setC_getC ps hs)
    have hu' := repL_len e3
    have hkl : cs'.length ≤ us'.length := by
      obtain ⟨pre, bs, hb0, hrep, _⟩ := h.cells_root hc
      obtain ⟨sub, hsub⟩ := Option.ne_none_iff_exists'.1 (setC_getC ps hs)
      obtain ⟨b', p', us1, hr', hk, _⟩ := get_ok ps (g.at_ r).1 (g.at_ r).2 off _ hrep hsub
      unfold Gh.rsv at m1
      rw [hr'] at m1
      simp only [Option.some.injEq, Prod.mk.injEq] at m1
      obtain ⟨rfl, rfl, rfl⟩ := m1
      exact hk
    have heq : us'.take cs'.length = us := pack_inj (g := gg) (by rw [← m2]; exact e1) (fun hf => by rw [List.length_take, Nat.min_eq_left hkl]; exact e2 hf) (fun hf => by rw [hu']; exact e2 hf)
    obtain ⟨g1, q4, q5, q6⟩ := h.more2 hc hs i m1 heq (repL_Z e3)
    obtain ⟨g2, k1, k2, k3⟩ := ih (i + 1) (fun j => bf (j + 1)) q4 hE (fun j q x e => by
        have := hb (j + 1) q x (by simpa using e)
        rw [show i + 1 + j = i + (j + 1) by omega, q6 _ (by omega)]; exact this) (fun j j' c c' c2 c2' x x' e e' e'' => by
        have := hd (j + 1) (j' + 1) c c' c2 c2' x x' (by simpa using e) (by simpa using e') e''; omega) (fun j c c' x k e hm => by
        by_cases hk : k = i
        · subst hk; rw [q5] at hm; cases hm
        · rw [q6 k hk] at hm; exact hn (j + 1) c c' x k (by simpa using e) hm) (fun b hb' => hw b fun j c c' x e => by
        cases j with
        | zero => simp at e
        | succ j => exact hb' j c c' x (by simpa using e))
    refine ⟨g2, k1, fun j q x e hq => ?_, fun k hk => ?_⟩
    · cases j with
      | zero =>
        rw [Nat.add_zero, k3 i (fun j q x e hq => by omega)]
        exact q5
      | succ j => have := k2 j q x (by simpa using e) hq; rw [show i + (j + 1) = i + 1 + j by omega]; exact this
    · rw [k3 k (fun j q x e hq => by have := hk (j + 1) q x (by simpa using e) hq; omega)]
      exact q6 k (by have := hk 0 _ _ rfl rfl; omega)
  | @ot st st2 q0 x0 l hq hl ih =>
    intro w g i bf h hE hb hd hn hw
    obtain ⟨g2, k1, k2, k3⟩ := ih (i + 1) (fun j => bf (j + 1)) h hE (fun j q x e => by
        have := hb (j + 1) q x (by simpa using e)
        rw [show i + 1 + j = i + (j + 1) by omega]; exact this) (fun j j' c c' c2 c2' x x' e e' e'' => by
        have := hd (j + 1) (j' + 1) c c' c2 c2' x x' (by simpa using e) (by simpa using e') e''; omega) (fun j c c' x k e hm => hn (j + 1) c c' x k (by simpa using e) hm) (fun b hb' => hw b fun j c c' x e => by
        cases j with
        | zero =>
          simp only [List.getElem?_cons_zero, Option.some.injEq, Prod.mk.injEq] at e
          obtain ⟨rfl, _⟩ := e
          simp [Ar.lent] at hq
        | succ j => exact hb' j c c' x (by simpa using e))
    refine ⟨g2, k1, fun j q x e hq' => ?_, fun k hk => k3 k (fun j q x e hq => by have := hk (j + 1) q x (by simpa using e) hq; omega)⟩
    cases j with
    | zero =>
      simp only [List.getElem?_cons_zero, Option.some.injEq, Prod.mk.injEq] at e
      obtain ⟨rfl, _⟩ := e
      rw [hq] at hq'; cases hq'
    | succ j => have := k2 j q x (by simpa using e) hq'; rw [show i + (j + 1) = i + 1 + j by omega]; exact this
end Go.Lvm
