/- Lemmas of the by-value machine and of the data that the contracts speak of: each holds under the hypotheses that it states. -/
import Derived.Below
import Derived.Orders
set_option linter.unusedVariables false
set_option linter.unusedSimpArgs false
namespace Go.Lvm
/-- A cell as a tree: a plain value, a slice by its elements (o: owned), or what is gone. -/
inductive C where
  | v (x : Value)
  | s (o : Bool) (z : Nat) (xs : List (List C))
  | d
mutual
def repC (W : World) (Z : Nat → Prop) : C → Value → List Nat → Prop
  | .v x, u, bs => u = x ∧ x.oneCell' = true ∧ bs = []
  | .d, u, bs => u.oneCell' = true ∧ bs = []
  | .s o z xs, u, bs => ∃ A c, u = .slice A xs.length c ∧ xs.length ≤ c ∧
      match A with
      | none => xs.length = 0 ∧ c = 0 ∧ bs = []
      | some ad => (o = false ∧ xs.length = 0 ∧ bs = []) ∨
          ∃ arr T fr inn, W.heap[ad.block]? = some (.cells arr T fr) ∧ ad.spot = none ∧
            (o = true → fr = (0, 0) ∧ bs = ad.block :: inn ∧ ad.off + c * z ≤ arr.size) ∧ (o = false → Z ad.block ∧ bs = [] ∧ inn = []) ∧
            repR W Z z xs (arr.toList.drop ad.off) inn
def repL (W : World) (Z : Nat → Prop) : List C → List Value → List Nat → Prop
  | [], us, bs => us = [] ∧ bs = []
  | c :: cs, us, bs => ∃ u us' b1 b2, us = u :: us' ∧ bs = b1 ++ b2 ∧ repC W Z c u b1 ∧ repL W Z cs us' b2
def repR (W : World) (Z : Nat → Prop) (z : Nat) : List (List C) → List Value → List Nat → Prop
  | [], _, bs => bs = []
  | e :: es, us, bs => ∃ u1 us' b1 b2, us = u1 ++ us' ∧ u1.length = z ∧ bs = b1 ++ b2 ∧ repL W Z e u1 b1 ∧ repR W Z z es us' b2
end
section
variable {W W' : World} {Z Z' : Nat → Prop}
theorem repC_one {c : C} {u : Value} {bs : List Nat} (h : repC W Z c u bs) : u.oneCell' = true := by
  cases c with
  | v x => obtain ⟨rfl, h1, _⟩ := h; exact h1
  | d => exact h.1
  | s o z xs => obtain ⟨A, c, rfl, _⟩ := h; rfl
theorem repL_len : ∀ {cs : List C} {us : List Value} {bs : List Nat}, repL W Z cs us bs → us.length = cs.length
  | [], us, bs, h => by rw [h.1]; rfl
  | c :: cs, us, bs, h => by
    obtain ⟨u, us', b1, b2, rfl, rfl, _, h2⟩ := h
    simp [repL_len h2]
theorem repL_one : ∀ {cs : List C} {us : List Value} {bs : List Nat}, repL W Z cs us bs → ∀ u ∈ us, u.oneCell' = true
  | [], us, bs, h, u, hu => by rw [h.1] at hu; cases hu
  | c :: cs, us, bs, h, u, hu => by
    obtain ⟨u', us', b1, b2, rfl, rfl, h1, h2⟩ := h
    rcases List.mem_cons.1 hu with rfl | hu
    · exact repC_one h1
    · exact repL_one h2 u hu
theorem repL_app : ∀ {cs cs' : List C} {us us' : List Value} {bs bs' : List Nat}, repL W Z cs us bs → repL W Z cs' us' bs' → repL W Z (cs ++ cs') (us ++ us') (bs ++ bs')
  | [], cs', us, us', bs, bs', h, h' => by
    obtain ⟨rfl, rfl⟩ := h
    simpa using h'
  | c :: cs, cs', us, us', bs, bs', h, h' => by
    obtain ⟨u, us1, b1, b2, rfl, rfl, h1, h2⟩ := h
    exact ⟨u, us1 ++ us', b1, b2 ++ bs', rfl, by simp, h1, repL_app h2 h'⟩
theorem repL_split : ∀ {cs cs' : List C} {us : List Value} {bs : List Nat}, repL W Z (cs ++ cs') us bs →
    ∃ us1 us2 b1 b2, us = us1 ++ us2 ∧ bs = b1 ++ b2 ∧ repL W Z cs us1 b1 ∧ repL W Z cs' us2 b2
  | [], cs', us, bs, h => ⟨[], us, [], bs, rfl, rfl, ⟨rfl, rfl⟩, h⟩
  | c :: cs, cs', us, bs, h => by
    obtain ⟨u, us1, b1, b2, rfl, rfl, h1, h2⟩ := h
    obtain ⟨v1, v2, d1, d2, rfl, rfl, h3, h4⟩ := repL_split h2
    exact ⟨u :: v1, v2, b1 ++ d1, d2, rfl, by simp, ⟨u, v1, b1, d1, rfl, rfl, h1, h3⟩, h4⟩
theorem repL_single {c : C} {us : List Value} {bs : List Nat} : repL W Z [c] us bs ↔ ∃ u, us = [u] ∧ repC W Z c u bs := by
  constructor
  · rintro ⟨u, us', b1, b2, rfl, rfl, h, rfl, rfl⟩
    exact ⟨u, rfl, by simpa using h⟩
  · rintro ⟨u, rfl, h⟩
    exact ⟨u, [], bs, [], rfl, by simp, h, rfl, rfl⟩
/-- An element of a row, and what stands where another one is put. -/
theorem repR_at {z : Nat} : ∀ {xs : List (List C)} {us : List Value} {bs : List Nat} (i : Nat) (e : List C), repR W Z z xs us bs → xs[i]? = some e →
    ∃ p u q bl be br, us = p ++ u ++ q ∧ p.length = i * z ∧ u.length = z ∧ bs = bl ++ be ++ br ∧ repL W Z e u be
  | [], us, bs, i, e, h, he => by simp at he
  | x :: xs, us, bs, 0, e, h, he => by
    obtain ⟨u1, us', b1, b2, rfl, hl, rfl, h1, h2⟩ := h
    simp at he; subst he
    exact ⟨[], u1, us', [], b1, b2, by simp, by simp, hl, by simp, h1⟩
  | x :: xs, us, bs, i + 1, e, h, he => by
    obtain ⟨u1, us', b1, b2, rfl, hl, rfl, h1, h2⟩ := h
    obtain ⟨p, u, q, bl, be, br, rfl, hp, hu, rfl, hr⟩ := repR_at i e h2 (by simpa using he)
    exact ⟨u1 ++ p, u, q, b1 ++ bl, be, br, by simp, by simp [hl, hp, Nat.add_mul]; omega, hu, by simp, hr⟩

theorem repR_put {z : Nat} : ∀ {xs : List (List C)} {us : List Value} {bs : List Nat} (i : Nat) (e : List C), repR W Z z xs us bs → xs[i]? = some e →
    ∃ p u q bl be br, us = p ++ u ++ q ∧ p.length = i * z ∧ u.length = z ∧ bs = bl ++ be ++ br ∧ repL W Z e u be ∧
      ∀ (W' : World) (Z' : Nat → Prop) (e' : List C) (u' : List Value) (be' : List Nat), u'.length = z → repL W' Z' e' u' be' →
        (∀ cs us bs, (∀ b, b ∈ bs → b ∈ bl ++ br) → repL W Z cs us bs → repL W' Z' cs us bs) → repR W' Z' z (xs.set i e') (p ++ u' ++ q) (bl ++ be' ++ br)
  | [], us, bs, i, e, h, he => by simp at he
  | x :: xs, us, bs, 0, e, h, he => by
    obtain ⟨u1, us', b1, b2, rfl, hl, rfl, h1, h2⟩ := h
    simp at he; subst he
    refine ⟨[], u1, us', [], b1, b2, by simp, by simp, hl, by simp, h1, ?_⟩
    intro W' Z' e' u' be' hu' h' hm
    refine ⟨u', us', be', b2, by simp, hu', by simp, h', ?_⟩
    exact go h2 (fun b hb => by simpa using hb) hm
  | x :: xs, us, bs, i + 1, e, h, he => by
    obtain ⟨u1, us', b1, b2, rfl, hl, rfl, h1, h2⟩ := h
    obtain ⟨p, u, q, bl, be, br, rfl, hp, hu, rfl, hr, hput⟩ := repR_put i e h2 (by simpa using he)
    refine ⟨u1 ++ p, u, q, b1 ++ bl, be, br, by simp, by simp [hl, hp, Nat.add_mul]; omega, hu, by simp, hr, ?_⟩
    intro W' Z' e' u' be' hu' h' hm
    have := hput W' Z' e' u' be' hu' h' (fun cs us bs hb hc => hm cs us bs (fun b hb' => by have := hb b hb'; simp at this ⊢; rcases this with h | h <;> simp [h]) hc)
    exact ⟨u1, p ++ u' ++ q, b1, bl ++ be' ++ br, by simp, hl, by simp, hm _ _ _ (fun b hb => by simp [hb]) h1, this⟩
where
  go {z : Nat} {bl br : List Nat} {W' : World} {Z' : Nat → Prop} : ∀ {xs : List (List C)} {us : List Value} {bs : List Nat}, repR W Z z xs us bs → (∀ b ∈ bs, b ∈ bl ++ br) →
      (∀ cs us bs, (∀ b, b ∈ bs → b ∈ bl ++ br) → repL W Z cs us bs → repL W' Z' cs us bs) → repR W' Z' z xs us bs
    | [], us, bs, h, _, _ => h
    | e :: es, us, bs, h, hb, hm => by
      obtain ⟨u1, us', b1, b2, rfl, hl, rfl, h1, h2⟩ := h
      exact ⟨u1, us', b1, b2, rfl, hl, rfl, hm _ _ _ (fun b hb' => hb b (by simp [hb'])) h1, go h2 (fun b hb' => hb b (by simp [hb'])) hm⟩

mutual
theorem repC_frame {W W' : World} {Z Z' : Nat → Prop} : ∀ (c : C) {u : Value} {bs : List Nat}, repC W Z c u bs → (∀ b ∈ bs, W'.heap[b]? = W.heap[b]?) → (∀ b, Z b → Z' b ∧ W'.heap[b]? = W.heap[b]?) → repC W' Z' c u bs
  | .v x, u, bs, h, _, _ => h
  | .d, u, bs, h, _, _ => h
  | .s o z xs, u, bs, h, hb, hz => by
    obtain ⟨A, c, rfl, hc, h⟩ := h
    refine ⟨A, c, rfl, hc, ?_⟩
    cases A with
    | none => exact h
    | some ad =>
      rcases h with h | ⟨arr, T, fr, inn, h1, h2, h3, h4, h5⟩
      · exact .inl h
      · refine .inr ⟨arr, T, fr, inn, ?_, h2, h3, fun ho => ⟨(hz _ (h4 ho).1).1, (h4 ho).2⟩, ?_⟩
        · cases o with
          | true => rw [hb _ (by rw [(h3 rfl).2.1]; simp)]; exact h1
          | false => rw [(hz _ (h4 rfl).1).2]; exact h1
        · refine repR_frame z xs h5 (fun b hi => ?_) hz
          cases o with
          | true => exact hb b (by rw [(h3 rfl).2.1]; simp [hi])
          | false => rw [(h4 rfl).2.2] at hi; cases hi
theorem repL_frame {W W' : World} {Z Z' : Nat → Prop} : ∀ (cs : List C) {us : List Value} {bs : List Nat}, repL W Z cs us bs → (∀ b ∈ bs, W'.heap[b]? = W.heap[b]?) → (∀ b, Z b → Z' b ∧ W'.heap[b]? = W.heap[b]?) → repL W' Z' cs us bs
  | [], us, bs, h, _, _ => h
  | c :: cs, us, bs, h, hb, hz => by
    obtain ⟨u, us', b1, b2, rfl, rfl, h1, h2⟩ := h
    exact ⟨u, us', b1, b2, rfl, rfl, repC_frame c h1 (fun b h => hb b (by simp [h])) hz, repL_frame cs h2 (fun b h => hb b (by simp [h])) hz⟩
theorem repR_frame {W W' : World} {Z Z' : Nat → Prop} (z : Nat) : ∀ (xs : List (List C)) {us : List Value} {bs : List Nat}, repR W Z z xs us bs → (∀ b ∈ bs, W'.heap[b]? = W.heap[b]?) → (∀ b, Z b → Z' b ∧ W'.heap[b]? = W.heap[b]?) → repR W' Z' z xs us bs
  | [], us, bs, h, _, _ => h
  | e :: es, us, bs, h, hb, hz => by
    obtain ⟨u1, us', b1, b2, rfl, hl, rfl, h1, h2⟩ := h
    exact ⟨u1, us', b1, b2, rfl, hl, rfl, repL_frame e h1 (fun b h => hb b (by simp [h])) hz, repR_frame z es h2 (fun b h => hb b (by simp [h])) hz⟩
end

/-! ### Places -/
abbrev Pth := List (Nat × Nat × Nat)
def getC : List C → Nat → Pth → Nat → Option (List C)
  | cs, off, [], k => if off + k ≤ cs.length then some ((cs.drop off).take k) else none
  | cs, off, (i, z, o) :: ps, k => match cs[off]? with
    | some (.s _ z' xs) => if z = z' then (match xs[i]? with | some e => getC e o ps k | none => none) else none
    | _ => none
def setC : List C → Nat → Pth → List C → Option (List C)
  | cs, off, [], new => if off + new.length ≤ cs.length then some (cs.take off ++ new ++ cs.drop (off + new.length)) else none
  | cs, off, (i, z, o) :: ps, new => match cs[off]? with
    | some (.s true z' xs) => if z = z' then (match xs[i]? with | some e => (setC e o ps new).map fun e' => cs.set off (.s true z' (xs.set i e')) | none => none) else none
    | _ => none
/-- Block, place in it, and what stands from there on. -/
def rsv (W : World) : Nat → Nat → List Value → Nat → Pth → Option (Nat × Nat × List Value)
  | b, p, us, off, [] => some (b, p + off, us.drop off)
  | _, _, us, off, (i, z, o) :: ps => match us[off]? with
    | some (.slice (some ad) _ _) => match W.heap[ad.block]? with
      | some (.cells arr _ _) => rsv W ad.block (ad.off + i * z) (arr.toList.drop (ad.off + i * z)) o ps
      | _ => none
    | _ => none

theorem repL_take1 : ∀ {cs : List C} {us : List Value} {bs : List Nat} (n : Nat), repL W Z cs us bs →
    ∃ b1 b2, bs = b1 ++ b2 ∧ repL W Z (cs.take n) (us.take n) b1 ∧ repL W Z (cs.drop n) (us.drop n) b2
  | cs, us, bs, 0, h => ⟨[], bs, rfl, by simp [repL], by simpa using h⟩
  | [], us, bs, n + 1, h => by
    obtain ⟨rfl, rfl⟩ := h
    exact ⟨[], [], rfl, by simp [repL], by simp [repL]⟩
  | c :: cs, us, bs, n + 1, h => by
    obtain ⟨u, us', b1, b2, rfl, rfl, h1, h2⟩ := h
    obtain ⟨d1, d2, rfl, h3, h4⟩ := repL_take1 n h2
    exact ⟨b1 ++ d1, d2, by simp, ⟨u, us'.take n, b1, d1, rfl, rfl, h1, h3⟩, h4⟩
theorem repL_take {cs : List C} {us : List Value} {bs : List Nat} (off k : Nat) (h : repL W Z cs us bs) :
    ∃ b1 b2 b3, bs = b1 ++ b2 ++ b3 ∧ repL W Z (cs.take off) (us.take off) b1 ∧ repL W Z ((cs.drop off).take k) ((us.drop off).take k) b2 ∧ repL W Z ((cs.drop off).drop k) ((us.drop off).drop k) b3 := by
  obtain ⟨b1, b2, rfl, h1, h2⟩ := repL_take1 off h
  obtain ⟨b3, b4, rfl, h3, h4⟩ := repL_take1 k h2
  exact ⟨b1, b3, b4, by simp, h1, h3, h4⟩

theorem repL_at {cs : List C} {us : List Value} {bs : List Nat} (off : Nat) (c : C) (h : repL W Z cs us bs) (hc : cs[off]? = some c) :
    ∃ u b1 b2 b3, us[off]? = some u ∧ bs = b1 ++ b2 ++ b3 ∧ repC W Z c u b2 := by
  obtain ⟨b1, b2, b3, rfl, h1, h2, h3⟩ := repL_take off 1 h
  have hlt : off < cs.length := by
    rcases Nat.lt_or_ge off cs.length with h | h
    · exact h
    · simp [List.getElem?_eq_none h] at hc
  have e : (cs.drop off).take 1 = [c] := by
    rw [List.drop_eq_getElem_cons hlt]
    have : cs[off] = c := by rw [List.getElem?_eq_getElem hlt] at hc; exact Option.some.inj hc
    simp [this]
  rw [e, repL_single] at h2
  obtain ⟨u, hu, hr⟩ := h2
  refine ⟨u, b1, b2, b3, ?_, rfl, hr⟩
  have hl := repL_len h
  have h4 : (us.drop off).take 1 = [us[off]] := by rw [List.drop_eq_getElem_cons (show off < us.length by omega)]; rfl
  rw [h4] at hu
  rw [List.getElem?_eq_getElem (by omega), List.cons.inj hu |>.1]

theorem get_ok : ∀ (ps : Pth) {cs : List C} {us : List Value} {bs : List Nat} (b p off k : Nat) {sub : List C}, repL W Z cs us bs → getC cs off ps k = some sub →
    ∃ b' p' us', rsv W b p us off ps = some (b', p', us') ∧ k ≤ us'.length ∧ ∃ b1 b2 b3, bs = b1 ++ b2 ++ b3 ∧ repL W Z sub (us'.take k) b2
  | [], cs, us, bs, b, p, off, k, sub, h, hg => by
    simp only [getC] at hg
    split at hg
    · rename_i hle
      injection hg with hg; subst hg
      obtain ⟨b1, b2, b3, rfl, h1, h2, h3⟩ := repL_take off k h
      have := repL_len h
      exact ⟨b, p + off, us.drop off, rfl, by simp; omega, b1, b2, b3, rfl, h2⟩
    · cases hg
  | (i, z, o) :: ps, cs, us, bs, b, p, off, k, sub, h, hg => by
    simp only [getC] at hg
    split at hg
    · rename_i o' z' xs hc
      split at hg
      · rename_i hz; subst hz
        split at hg
        · rename_i e he
          obtain ⟨u, b1, b2, b3, hu, rfl, hr⟩ := repL_at off _ h hc
          obtain ⟨A, c, rfl, hlc, hA⟩ := hr
          have hi : i < xs.length := by
            rcases Nat.lt_or_ge i xs.length with h | h
            · exact h
            · simp [List.getElem?_eq_none h] at he
          cases A with
          | none => simp only at hA; omega
          | some ad =>
            rcases hA with hA | ⟨arr, T, fr, inn, h1, h2, h3, h4, h5⟩
            · omega
            · obtain ⟨p1, u1, q1, bl, be, br, hus, hp, hu1, rfl, he'⟩ := repR_at i e h5 he
              have hd : arr.toList.drop (ad.off + i * z) = u1 ++ q1 := by
                rw [← List.drop_drop, hus, List.append_assoc, ← hp, List.drop_left]
              have hsub : ∃ bq, repL W Z e u1 be ∧ bq = q1 := ⟨q1, he', rfl⟩
              -- the element's cells, then what follows
              have key : ∀ (sub : List C), getC e o ps k = some sub → ∃ b' p' us', rsv W ad.block (ad.off + i * z) (u1 ++ q1) o ps = some (b', p', us') ∧ k ≤ us'.length ∧ ∃ b1 b2 b3, be = b1 ++ b2 ++ b3 ∧ repL W Z sub (us'.take k) b2 := by
                intro sub hs
                obtain ⟨b', p', us', hr1, hk, b1, b2, b3, hb, hr2⟩ := get_ok ps (b := ad.block) (p := ad.off + i * z) o k he' hs
                cases ps with
                | nil =>
                  simp only [rsv, Option.some.injEq, Prod.mk.injEq] at hr1 ⊢
                  obtain ⟨rfl, rfl, rfl⟩ := hr1
                  have hlen : o ≤ u1.length := by simp only [getC] at hs; split at hs <;> simp at hs; have := repL_len he'; omega
                  refine ⟨_, _, u1.drop o ++ q1, ⟨rfl, rfl, by rw [List.drop_append_of_le_length hlen]⟩, by simp; simp at hk; omega, b1, b2, b3, hb, ?_⟩
                  rw [List.take_append_of_le_length hk]; exact hr2
                | cons q qs =>
                  obtain ⟨i', z', o'⟩ := q
                  have hlen : o < u1.length := by
                    simp only [rsv] at hr1
                    rcases Nat.lt_or_ge o u1.length with h | h
                    · exact h
                    · simp [List.getElem?_eq_none h] at hr1
                  refine ⟨b', p', us', ?_, hk, b1, b2, b3, hb, hr2⟩
                  simp only [rsv] at hr1 ⊢
                  rw [List.getElem?_append_left hlen]; exact hr1
              obtain ⟨b', p', us', hr1, hk, d1, d2, d3, rfl, hr2⟩ := key sub hg
              refine ⟨b', p', us', ?_, hk, ?_⟩
              · simp only [rsv, hu, h1, hd]; exact hr1
              · cases o' with
                | true =>
                  obtain ⟨_, rfl, _⟩ := h3 rfl
                  exact ⟨b1 ++ (ad.block :: (bl ++ d1)), d2, d3 ++ br ++ b3, by simp, hr2⟩
                | false =>
                  obtain ⟨_, rfl, hin⟩ := h4 rfl
                  have : d2 = [] := by
                    simp only [List.append_eq_nil_iff] at hin
                    exact hin.1.2.1.2
                  subst this
                  exact ⟨b1, [], b3, by simp, hr2⟩
        · cases hg
      · cases hg
    · cases hg

theorem rsv_app : ∀ (ps : Pth) {b p off b' p' : Nat} {u us' : List Value} (q : List Value), rsv W b p u off ps = some (b', p', us') → off ≤ u.length →
    ∃ r, rsv W b p (u ++ q) off ps = some (b', p', us' ++ r)
  | [], b, p, off, b', p', u, us', q, h, hl => by
    simp only [rsv, Option.some.injEq, Prod.mk.injEq] at h ⊢
    obtain ⟨rfl, rfl, rfl⟩ := h
    exact ⟨q, rfl, rfl, by rw [List.drop_append_of_le_length hl]⟩
  | (i, z, o) :: ps, b, p, off, b', p', u, us', q, h, hl => by
    have hlen : off < u.length := by
      rcases Nat.lt_or_ge off u.length with h' | h'
      · exact h'
      · simp [rsv, List.getElem?_eq_none h'] at h
    refine ⟨[], ?_⟩
    simp only [rsv] at h ⊢
    rw [List.getElem?_append_left hlen, List.append_nil]; exact h
def lput {α : Type} (l : List α) (o : Nat) (vs : List α) : List α := l.take o ++ vs ++ l.drop (o + vs.length)
theorem lput_len {α : Type} (l : List α) (o : Nat) (vs : List α) (h : o + vs.length ≤ l.length) : (lput l o vs).length = l.length := by
  simp [lput]; omega
theorem lput_drop {α : Type} (p u q l vs : List α) (n m o : Nat) (hl : l.drop n = p ++ u ++ q) (hn : n ≤ l.length) (hp : p.length = m) (ho : o + vs.length ≤ u.length) :
    (lput l (n + m + o) vs).drop n = p ++ lput u o vs ++ q := by
  have e : l = l.take n ++ (p ++ u ++ q) := by rw [← hl, List.take_append_drop]
  have ht : (l.take n).length = n := by simp; omega
  rw [e]
  generalize l.take n = l1 at *
  subst hp; subst ht
  unfold lput
  rw [show l1.length + p.length + o = (l1 ++ p).length + o by simp, show l1 ++ (p ++ u ++ q) = (l1 ++ p) ++ (u ++ q) by simp, List.take_length_add_append, Nat.add_assoc, List.drop_length_add_append,
    List.take_append_of_le_length (show o ≤ u.length by omega), List.drop_append_of_le_length (show o + vs.length ≤ u.length by omega)]
  simp only [List.append_assoc, List.drop_left]
theorem set_ok : ∀ (ps : Pth) {cs : List C} {us : List Value} {bs : List Nat} (b p off : Nat) {new cs' : List C}, repL W Z cs us bs → setC cs off ps new = some cs' → bs.Nodup →
    ∃ b' p' us' b1 b2 b3, rsv W b p us off ps = some (b', p', us') ∧ new.length ≤ us'.length ∧ bs = b1 ++ b2 ++ b3 ∧ (∃ sub, getC cs off ps new.length = some sub ∧ repL W Z sub (us'.take new.length) b2) ∧
      (ps = [] → b' = b ∧ p' = p + off) ∧
      (ps ≠ [] → b' ∈ b1 ∧ ∃ arr T, W.heap[b']? = some (.cells arr T (0, 0)) ∧ p' + new.length ≤ arr.size) ∧
      ∀ (W' : World) (Z' : Nat → Prop) (nvs : List Value) (nbs : List Nat), repL W' Z' new nvs nbs → (∀ x, Z x → Z' x ∧ W'.heap[x]? = W.heap[x]?) →
        (∀ x ∈ b1 ++ b3, (ps ≠ [] → x ≠ b') → W'.heap[x]? = W.heap[x]?) →
        (∀ arr T, ps ≠ [] → W.heap[b']? = some (.cells arr T (0, 0)) → W'.heap[b']? = some (.cells (lput arr.toList p' nvs).toArray T (0, 0))) →
        repL W' Z' cs' (if ps = [] then lput us off nvs else us) (b1 ++ nbs ++ b3)
  | [], cs, us, bs, b, p, off, new, cs', h, hs, hnd => by
    simp only [setC] at hs
    split at hs
    · rename_i hle
      injection hs with hs; subst hs
      obtain ⟨b1, b2, b3, rfl, h1, h2, h3⟩ := repL_take off new.length h
      have hlen := repL_len h
      refine ⟨b, p + off, us.drop off, b1, b2, b3, rfl, by simp; omega, rfl, ⟨_, by simp only [getC]; rw [if_pos hle], h2⟩, fun _ => ⟨rfl, rfl⟩, fun hn => absurd rfl hn, ?_⟩
      intro W' Z' nvs nbs hnew hz hb _
      have hnl := repL_len hnew
      simp only [if_true, lput]
      rw [hnl]
      refine repL_app (repL_app (repL_frame _ h1 (fun x hx => hb x (by simp [hx]) (fun hn => absurd rfl hn)) hz) hnew) ?_
      rw [← List.drop_drop, ← List.drop_drop]
      exact repL_frame _ h3 (fun x hx => hb x (by simp [hx]) (fun hn => absurd rfl hn)) hz
    · cases hs
  | (i, z, o) :: ps, cs, us, bs, b, p, off, new, cs', h, hs, hnd => by
    simp only [setC] at hs
    split at hs
    · rename_i z' xs hc
      split at hs
      · rename_i hz; subst hz
        split at hs
        · rename_i e he
          obtain ⟨e', hs', rfl⟩ := Option.map_eq_some_iff.1 hs
          have hoff : off < cs.length := by
            rcases Nat.lt_or_ge off cs.length with h | h
            · exact h
            · simp [List.getElem?_eq_none h] at hc
          have hce : cs = cs.take off ++ (C.s true z xs :: cs.drop (off + 1)) := by
            have : cs[off] = C.s true z xs := by rw [List.getElem?_eq_getElem hoff] at hc; exact Option.some.inj hc
            rw [← this, ← List.drop_eq_getElem_cons hoff, List.take_append_drop]
          have hset : ∀ c', cs.set off c' = cs.take off ++ (c' :: cs.drop (off + 1)) := fun c' => by rw [List.set_eq_take_append_cons_drop, if_pos hoff]
          have hlen := repL_len h
          rw [hce] at h
          obtain ⟨u1, u2, b1, b2, hus, rfl, h1, h2⟩ := repL_split h
          obtain ⟨u, u3, b3, b4, rfl, rfl, hr, h4⟩ := h2
          have hl1 : u1.length = off := by rw [repL_len h1]; simp; omega
          have hu : us[off]? = some u := by rw [hus, List.getElem?_append_right (by omega)]; simp [hl1]
          obtain ⟨A, c, rfl, hlc, hA⟩ := hr
          have hi : i < xs.length := by
            rcases Nat.lt_or_ge i xs.length with h | h
            · exact h
            · simp [List.getElem?_eq_none h] at he
          cases A with
          | none => simp only at hA; omega
          | some ad =>
            rcases hA with hA | ⟨arr, T, fr, inn, g1, g2, g3, g4, g5⟩
            · simp at hA
            · obtain ⟨rfl, rfl, hcap⟩ := g3 rfl
              obtain ⟨p1, w1, q1, bl, be, br, hw, hp, hw1, rfl, hre, hput⟩ := repR_put i e g5 he
              have hadl : ad.off ≤ arr.toList.length ∨ arr.toList.drop ad.off = [] := by
                rcases Nat.le_total ad.off arr.toList.length with h | h
                · exact .inl h
                · exact .inr (List.drop_of_length_le h)
              have hndb : be.Nodup := by
                have := hnd
                simp only [List.nodup_append, List.nodup_cons] at this
                exact this.2.1.1.2.1.2.1
              obtain ⟨b', p', us', d1, d2, d3, hrsv, hk, rfl, ⟨sub, hsub, hrs⟩, hnil, hcons, hfin⟩ := set_ok ps ad.block (ad.off + i * z) o hre hs' hndb
              have hol : o ≤ w1.length := by
                cases ps with
                | nil =>
                  simp only [rsv, Option.some.injEq, Prod.mk.injEq] at hrsv
                  obtain ⟨_, _, rfl⟩ := hrsv
                  simp only [getC] at hsub; split at hsub
                  · have := repL_len hre; omega
                  · cases hsub
                | cons q qs =>
                  obtain ⟨i', z', o'⟩ := q
                  rcases Nat.lt_or_ge o w1.length with h | h
                  · omega
                  · simp [rsv, List.getElem?_eq_none h] at hrsv
              have hd : arr.toList.drop (ad.off + i * z) = w1 ++ q1 := by
                rw [← List.drop_drop, hw, List.append_assoc, ← hp, List.drop_left]
              obtain ⟨r, hrsv'⟩ := rsv_app ps q1 hrsv hol
              have hin : ad.block ∉ bl ++ (d1 ++ d2 ++ d3) ++ br := by
                have := hnd
                simp only [List.nodup_append, List.nodup_cons] at this
                exact this.2.1.1.1
              have hp'b : p' + new.length ≤ arr.size ∨ ps ≠ [] := by
                by_cases hps : ps = []
                · left
                  subst hps
                  obtain ⟨_, rfl⟩ := hnil rfl
                  simp only [rsv, Option.some.injEq, Prod.mk.injEq] at hrsv
                  obtain ⟨_, _, rfl⟩ := hrsv
                  have hl := congrArg List.length hw
                  simp at hl hk
                  omega
                · exact .inr hps
              refine ⟨b', p', us' ++ r, b1 ++ (ad.block :: (bl ++ d1)), d2, d3 ++ br ++ b4, ?_, by simp; omega, by simp, ⟨sub, ?_, ?_⟩, fun hn => by simp at hn, fun _ => ?_, ?_⟩
              · simp only [rsv, hu, g1, hd]; exact hrsv'
              · simp only [getC, hc, he, if_true]; exact hsub
              · rw [List.take_append_of_le_length hk]; exact hrs
              · by_cases hps : ps = []
                · obtain ⟨rfl, rfl⟩ := hnil hps
                  refine ⟨by simp, arr, T, g1, ?_⟩
                  rcases hp'b with h | h
                  · exact h
                  · exact absurd hps h
                · obtain ⟨hm, hx⟩ := hcons hps
                  exact ⟨by simp [hm], hx⟩
              · intro W' Z' nvs nbs hnew hz hb hw'
                have hnl := repL_len hnew
                rw [if_neg (by simp), hset]
                have hother : ∀ x, x ∈ bl ++ br → W'.heap[x]? = W.heap[x]? := by
                  intro x hx
                  refine hb x (by simp at hx ⊢; rcases hx with h | h <;> simp [h]) (fun _ => ?_)
                  rintro rfl
                  by_cases hps : ps = []
                  · obtain ⟨rfl, _⟩ := hnil hps
                    exact hin (by simp at hx ⊢; rcases hx with h | h <;> simp [h])
                  · obtain ⟨hm, _⟩ := hcons hps
                    have := hnd
                    simp only [List.nodup_append, List.nodup_cons, List.mem_append, List.mem_cons] at this hx
                    grind
                have hinner := hfin W' Z' nvs nbs hnew hz (fun x hx hxn => by
                    refine hb x (by simp at hx ⊢; rcases hx with h | h <;> simp [h]) (fun _ => ?_)
                    by_cases hps : ps = []
                    · obtain ⟨rfl, _⟩ := hnil hps
                      rintro rfl
                      exact hin (by simp at hx ⊢; rcases hx with h | h <;> simp [h])
                    · exact hxn hps) (fun arr T hps => hw' arr T (by simp))
                have hu'l : (if ps = [] then lput w1 o nvs else w1).length = z := by
                  split
                  · rename_i hps; subst hps
                    simp only [rsv, Option.some.injEq, Prod.mk.injEq] at hrsv
                    obtain ⟨_, _, rfl⟩ := hrsv
                    simp at hk
                    rw [lput_len _ _ _ (by omega), hw1]
                  · exact hw1
                have hrow := hput W' Z' e' _ _ hu'l hinner (fun cs us bs hm hc => repL_frame cs hc (fun x hx => hother x (hm x hx)) hz)
                -- the block itself
                have hblk : ∃ arr', W'.heap[ad.block]? = some (.cells arr' T (0, 0)) ∧ arr'.toList.drop ad.off = p1 ++ (if ps = [] then lput w1 o nvs else w1) ++ q1 ∧ arr'.size = arr.size := by
                  by_cases hps : ps = []
                  · obtain ⟨rfl, rfl⟩ := hnil hps
                    have := hw' arr T (by simp) g1
                    refine ⟨_, this, ?_, ?_⟩
                    · simp only [hps, if_true]
                      subst hps
                      simp only [rsv, Option.some.injEq, Prod.mk.injEq] at hrsv
                      obtain ⟨_, _, rfl⟩ := hrsv
                      simp at hk
                      have hal : ad.off ≤ arr.toList.length := by
                        have hl := congrArg List.length hw
                        simp at hl ⊢
                        rcases Nat.le_total ad.off arr.size with h | h
                        · exact h
                        · omega
                      exact lput_drop p1 w1 q1 arr.toList nvs ad.off (i * z) o hw hal hp (by omega)
                    · rcases hp'b with h | h
                      · have := lput_len arr.toList (ad.off + i * z + o) nvs (by simp; omega)
                        simpa using this
                      · exact absurd hps h
                  · refine ⟨arr, ?_, by rw [if_neg hps]; exact hw, rfl⟩
                    rw [hb ad.block (by simp) (fun _ => ?_)]; exact g1
                    rintro rfl
                    obtain ⟨hm, _⟩ := hcons hps
                    exact hin (by simp [hm])
                obtain ⟨arr', e1, e2, e3⟩ := hblk
                have hfr : ∀ (cs : List C) (us : List Value) (bs : List Nat), repL W Z cs us bs → (∀ x ∈ bs, x ∈ b1 ++ b4) → repL W' Z' cs us bs := by
                  intro cs us bs hr hm
                  refine repL_frame cs hr (fun x hx => ?_) hz
                  refine hb x (by have := hm x hx; simp at this ⊢; rcases this with h | h <;> simp [h]) (fun _ => ?_)
                  rintro rfl
                  have hx' := hm x hx
                  have hnd' := hnd
                  simp only [List.nodup_append, List.nodup_cons, List.mem_append, List.mem_cons] at hnd' hx'
                  by_cases hps : ps = []
                  · obtain ⟨rfl, _⟩ := hnil hps
                    grind
                  · obtain ⟨hm', _⟩ := hcons hps
                    grind
                rw [hus]
                have hfinal : repC W' Z' (.s true z (xs.set i e')) (.slice (some ad) xs.length c) (ad.block :: (bl ++ (d1 ++ nbs ++ d3) ++ br)) :=
                  ⟨some ad, c, by simp, by simpa using hlc, .inr ⟨arr', T, (0, 0), bl ++ (d1 ++ nbs ++ d3) ++ br, e1, g2, (fun _ => ⟨rfl, rfl, (by rw [e3]; exact hcap)⟩), (fun h => Bool.noConfusion h), (by rw [e2]; exact hrow)⟩⟩
                have h5 : repL W' Z' (.s true z (xs.set i e') :: cs.drop (off + 1)) (.slice (some ad) xs.length c :: u3) ((ad.block :: (bl ++ (d1 ++ nbs ++ d3) ++ br)) ++ b4) :=
                  ⟨_, u3, _, b4, rfl, rfl, hfinal, hfr _ _ _ h4 (fun x hx => by simp [hx])⟩
                have := repL_app (hfr _ _ _ h1 (fun x hx => by simp [hx])) h5
                simpa using this
        · cases hs
      · cases hs
    · cases hs
end
end Go.Lvm
