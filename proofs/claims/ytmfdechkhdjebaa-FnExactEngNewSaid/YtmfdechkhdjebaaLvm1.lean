/- Lemmas of the by-value machine and of the data that the contracts speak of: each holds under the hypotheses that it states. -/
import Derived.Test.YtmfdechkhdjebaaLvm0
set_option linter.unusedVariables false
set_option linter.unusedSimpArgs false
namespace Go.Lvm
/-- Blocks outside F are as they were. -/
structure Keeps (F : List Nat) (w w' : World) : Prop where
  os : w'.os = w.os
  tape : w'.tape = w.tape
  output : w'.output = w.output
  size : w.heap.size ≤ w'.heap.size
  block : ∀ b, b < w.heap.size → b ∉ F → w'.heap[b]? = w.heap[b]?
theorem Keeps.refl (F : List Nat) (w : World) : Keeps F w w := ⟨rfl, rfl, rfl, Nat.le_refl _, fun _ _ _ => rfl⟩
theorem Keeps.trans {F F' : List Nat} {a b c : World} (h : Keeps F a b) (k : Keeps F' b c) (hF : ∀ x ∈ F', x ∈ F ∨ a.heap.size ≤ x) : Keeps F a c :=
  ⟨k.os.trans h.os, k.tape.trans h.tape, k.output.trans h.output, Nat.le_trans h.size k.size, fun x hx hn => by
    rw [k.block x (Nat.lt_of_lt_of_le hx h.size) (fun hm => by rcases hF x hm with h | h; exact hn h; omega), h.block x hx hn]⟩
theorem Keeps.drew (F : List Nat) (w : World) : Keeps F w w.drew := ⟨rfl, rfl, rfl, Nat.le_refl _, fun _ _ _ => rfl⟩
theorem Keeps.alloc (F : List Nat) (w : World) (o : Obj) : Keeps F w (w.alloc o) :=
  ⟨rfl, rfl, rfl, by simp, fun b hb _ => Go.RowKit.Below.heap_alloc _ _ _ hb⟩

inductive Rt where
  | var (t : Nat)
  | slot (t : Nat)
  | hand (i : Nat)
  deriving DecidableEq
/-- What a temporary holds. -/
inductive L where
  | dead
  | val (g : Bool) (cs : List C)
  | ref (r : Rt) (off : Nat) (ps : Pth) (g : Bool) (k : Nat)
  | win (r : Rt) (off : Nat) (ps : Pth) (lo hi : Nat)
  | ptr (r : Rt) (off : Nat) (ps : Pth)
  | sptr (c : C) (i z off : Nat)
  | tup (ls : List (Bool × List C))
structure St where
  env : Nat → L
  var : Nat → Option (List C)
def L.cells : L → Option (List C)
  | .val _ cs => some cs
  | _ => none
def St.cells (st : St) : Rt → Option (List C)
  | .var t => st.var t
  | .slot t => (st.env t).cells
  | .hand _ => none
def pack : Bool → List Value → Value
  | true, us => .agg us.toArray
  | false, u :: _ => u
  | false, [] => undef
structure Gh where
  us : Rt → List Value
  ad : Nat → Nat
  pre : Nat → List Value
  post : Nat → List Value
  bl : Rt → List Nat
def Z0 (w0 : World) (F : List Nat) (b : Nat) : Prop := b < w0.heap.size ∧ b ∉ F
/-- The block and place where a root's cells begin. -/
def Gh.at_ (g : Gh) : Rt → Nat × Nat
  | .var t => (g.ad t, (g.pre t).length)
  | _ => (0, 0)
def Gh.rsv (g : Gh) (w : World) (r : Rt) (off : Nat) (ps : Pth) : Option (Nat × Nat × List Value) := Lvm.rsv w (g.at_ r).1 (g.at_ r).2 (g.us r) off ps
def winV (z lo hi : Nat) : Value → Value
  | .slice A _ c => .slice (if lo = c then A else A.map (·.add (lo * z))) (hi - lo) (c - lo)
  | u => u
def tupOK (w : World) (Z : Nat → Prop) : List (Bool × List C) → List Value → List Nat → Prop
  | [], vs, bs => vs = [] ∧ bs = []
  | (g, cs) :: ls, vs, bs => ∃ us vs' b1 b2, vs = pack g us :: vs' ∧ (g = false → cs.length = 1) ∧ bs = b1 ++ b2 ∧ repL w Z cs us b1 ∧ tupOK w Z ls vs' b2
def LOK (w : World) (Z : Nat → Prop) (st : St) (g : Gh) (bs : List Nat) (us : List Value) (v : Value) : L → Prop
  | .dead => True
  | .val gg cs => v = pack gg us ∧ (gg = false → cs.length = 1) ∧ repL w Z cs us bs
  | .ref r off ps gg k => (gg = false → k = 1) ∧ ∀ cs, st.cells r = some cs → getC cs off ps k ≠ none → ∃ b p us', g.rsv w r off ps = some (b, p, us') ∧ v = pack gg (us'.take k)
  | .win r off ps lo hi => ∀ cs o z xs, st.cells r = some cs → getC cs off ps 1 = some [.s o z xs] → lo ≤ hi ∧ hi ≤ xs.length ∧ ∃ b p u us', g.rsv w r off ps = some (b, p, u :: us') ∧ v = winV z lo hi u
  | .ptr r off ps => (∀ t, r = .slot t → ps ≠ []) ∧ ∀ cs, st.cells r = some cs → getC cs off ps 0 ≠ none → ∃ b p us', g.rsv w r off ps = some (b, p, us') ∧ v = .pointer (some ⟨b, p, none⟩)
  | .sptr c i z off => ∃ u, repC w Z c u [] ∧ ∀ o xs, c = .s o z xs → i < xs.length → ∃ b p us', rsv w 0 0 [u] 0 [(i, z, off)] = some (b, p, us') ∧ v = .pointer (some ⟨b, p, none⟩)
  | .tup ls => ∃ vs, v = .tuple vs.toArray ∧ tupOK w Z ls vs bs
/-- Each root's blocks are its own alone. -/
structure Own (F : List Nat) (n0 n : Nat) (bl : Rt → List Nat) : Prop where
  nd : ∀ r, (bl r).Nodup
  dj : ∀ r r' b, b ∈ bl r → b ∈ bl r' → r = r'
  ok : ∀ r b, b ∈ bl r → (b ∈ F ∨ n0 ≤ b) ∧ b < n
theorem Own.step {F : List Nat} {n0 n n' : Nat} {bl bl' : Rt → List Nat} (h : Own F n0 n bl) (hn : n ≤ n') (h0 : n0 ≤ n) (r1 : Rt) (hnd : ∀ r, (bl' r).Nodup) (hs : ∀ r b, r ≠ r1 → b ∈ bl' r → b ∈ bl r)
    (h1 : ∀ b, b ∈ bl' r1 → b ∈ bl r1 ∨ (∃ r2, b ∈ bl r2 ∧ b ∉ bl' r2) ∨ (n ≤ b ∧ b < n')) : Own F n0 n' bl' := by
  have key : ∀ r b, b ∈ bl' r → b ∈ bl' r1 → r = r1 := by
    intro r b hb hb1
    by_cases hr : r = r1
    · exact hr
    · have hb0 := hs r b hr hb
      rcases h1 b hb1 with h2 | ⟨r2, h2, h3⟩ | ⟨h2, h3⟩
      · exact h.dj _ _ _ hb0 h2
      · have := h.dj _ _ _ hb0 h2
        subst this
        exact absurd hb h3
      · have := (h.ok _ _ hb0).2
        omega
  refine ⟨hnd, fun r r' b hb hb' => ?_, fun r b hb => ?_⟩
  · by_cases hr : r = r1
    · subst hr; exact (key r' b hb' hb).symm
    · by_cases hr' : r' = r1
      · subst hr'; exact key r b hb hb'
      · exact h.dj _ _ _ (hs r b hr hb) (hs r' b hr' hb')
  · by_cases hr : r = r1
    · subst hr
      rcases h1 b hb with h2 | ⟨r2, h2, h3⟩ | ⟨h2, h3⟩
      · exact ⟨(h.ok _ _ h2).1, Nat.lt_of_lt_of_le (h.ok _ _ h2).2 hn⟩
      · exact ⟨(h.ok _ _ h2).1, Nat.lt_of_lt_of_le (h.ok _ _ h2).2 hn⟩
      · exact ⟨.inr (by omega), h3⟩
    · have := hs r b hr hb
      exact ⟨(h.ok _ _ this).1, Nat.lt_of_lt_of_le (h.ok _ _ this).2 hn⟩
/-- What of a frame stays as it is: how it began, and the places of what is handed in by pointer. -/
structure Fx where
  w0 : World
  F : List Nat
  n : Nat
  fix : Nat → Option Value
  io : Nat → Option (Nat × List Value × List Value × TypeId)
/-- A temporary that may be set. -/
def Fx.ok (X : Fx) (d : Nat) : Prop := d < X.n ∧ X.fix d = none
structure Conc (X : Fx) (st : St) (w : World) (a : Act) (g : Gh) : Prop where
  keeps : Keeps X.F X.w0 w
  tmps : a.tmps.size = X.n
  defers : a.defers = [] ∧ ∀ t v, X.fix t = some v → a.tmps.getD t undef = v
  var : ∀ t cs, st.var t = some cs → ∃ arr T ob, w.heap[g.ad t]? = some (.cells arr T (0, 0)) ∧ arr.toList = g.pre t ++ g.us (.var t) ++ g.post t ∧ g.bl (.var t) = g.ad t :: ob ∧
    repL w (Z0 X.w0 X.F) cs (g.us (.var t)) ob ∧ ∀ x, X.io t = some x → x = (g.ad t, g.pre t, g.post t, T)
  env : ∀ t, LOK w (Z0 X.w0 X.F) st g (g.bl (.slot t)) (g.us (.slot t)) (a.tmps.getD t undef) (st.env t)
  own : Own X.F X.w0.heap.size w.heap.size g.bl

/-! ### Frames -/
section
variable {W W' : World} {Z : Nat → Prop}
theorem rsv_frame : ∀ (ps : Pth) {cs : List C} {us : List Value} {bs : List Nat} (b p off k : Nat), repL W Z cs us bs → getC cs off ps k ≠ none → (∀ x ∈ bs, W'.heap[x]? = W.heap[x]?) → (∀ x, Z x → W'.heap[x]? = W.heap[x]?) →
    rsv W' b p us off ps = rsv W b p us off ps
  | [], cs, us, bs, b, p, off, k, h, hg, hb, hz => rfl
  | (i, z, o) :: ps, cs, us, bs, b, p, off, k, h, hg, hb, hz => by
    simp only [getC, ne_eq] at hg
    split at hg
    · rename_i o' z' xs hc
      split at hg
      · rename_i hzz; subst hzz
        split at hg
        · rename_i e he
          obtain ⟨u, b1, b2, b3, hu, rfl, hr⟩ := repL_at off _ h hc
          obtain ⟨A, c, rfl, hlc, hA⟩ := hr
          have hi : i < xs.length := by
            rcases Nat.lt_or_ge i xs.length with h | h
            · exact h
            · simp [List.getElem?_eq_none h] at he
          cases A with
          | none => simp only [rsv, hu]
          | some ad =>
            rcases hA with hA | ⟨arr, T, fr, inn, h1, h2, h3, h4, h5⟩
            · omega
            · have hsame : W'.heap[ad.block]? = W.heap[ad.block]? := by
                cases o' with
                | true => exact hb _ (by rw [(h3 rfl).2.1]; simp)
                | false => exact hz _ (h4 rfl).1
              have hinn : ∀ x ∈ inn, x ∈ b2 := by
                intro x hx
                cases o' with
                | true => rw [(h3 rfl).2.1]; simp [hx]
                | false => rw [(h4 rfl).2.2] at hx; cases hx
              simp only [rsv, hu, hsame, h1]
              obtain ⟨p1, w1, q1, bl, be, br, hw, hp, hw1, hin, hre⟩ := repR_at i e h5 he
              have hd : arr.toList.drop (ad.off + i * z) = w1 ++ q1 := by
                rw [← List.drop_drop, hw, List.append_assoc, ← hp, List.drop_left]
              rw [hd]
              have key := rsv_frame ps ad.block (ad.off + i * z) o k hre hg (fun x hx => hb x (by have := hinn x (by rw [hin]; simp [hx]); simp [this])) hz
              cases ps with
              | nil => rfl
              | cons q qs =>
                obtain ⟨i', z', o''⟩ := q
                have hol : o < w1.length := by
                  have hl := repL_len hre
                  simp only [getC] at hg
                  rcases Nat.lt_or_ge o e.length with h | h
                  · omega
                  · simp [List.getElem?_eq_none h] at hg
                simp only [rsv] at key ⊢
                rw [List.getElem?_append_left hol]
                exact key
        · exact absurd rfl hg
      · exact absurd rfl hg
    · exact absurd rfl hg
theorem tupOK_frame : ∀ {ls : List (Bool × List C)} {vs : List Value} {bs : List Nat}, tupOK W Z ls vs bs → (∀ x ∈ bs, W'.heap[x]? = W.heap[x]?) → (∀ x, Z x → W'.heap[x]? = W.heap[x]?) → tupOK W' Z ls vs bs
  | [], vs, bs, h, _, _ => h
  | (g, cs) :: ls, vs, bs, h, hb, hz => by
    obtain ⟨us, vs', b1, b2, rfl, h1, rfl, h2, h3⟩ := h
    exact ⟨us, vs', b1, b2, rfl, h1, rfl, repL_frame cs h2 (fun x hx => hb x (by simp [hx])) (fun x hx => ⟨hx, hz x hx⟩), tupOK_frame h3 (fun x hx => hb x (by simp [hx])) hz⟩
end
/-- The world turns at blocks that no root has. -/
theorem Conc.world {X : Fx} {st : St} {w w' : World} {a : Act} {g : Gh} (h : Conc X st w a g) (hk : Keeps X.F X.w0 w') (hsz : w.heap.size ≤ w'.heap.size)
    (hb : ∀ r, (∀ i, r ≠ .hand i) → ∀ b ∈ g.bl r, w'.heap[b]? = w.heap[b]?) : Conc X st w' a g := by
  have hz : ∀ x, Z0 X.w0 X.F x → w'.heap[x]? = w.heap[x]? := fun x hx => by rw [hk.block x hx.1 hx.2, h.keeps.block x hx.1 hx.2]
  have hz' : ∀ x, Z0 X.w0 X.F x → Z0 X.w0 X.F x ∧ w'.heap[x]? = w.heap[x]? := fun x hx => ⟨hx, hz x hx⟩
  have hroot : ∀ r cs, st.cells r = some cs → ∃ bs, (∀ x ∈ bs, w'.heap[x]? = w.heap[x]?) ∧ repL w (Z0 X.w0 X.F) cs (g.us r) bs := by
    intro r cs hcs
    cases r with
    | var t =>
      obtain ⟨arr, T, ob, h1, h2, h3, h4, h5⟩ := h.var t cs hcs
      exact ⟨ob, fun x hx => hb (.var t) (by simp) x (by rw [h3]; simp [hx]), h4⟩
    | slot t =>
      simp only [St.cells] at hcs
      have := h.env t
      cases he : st.env t with
      | val gg cs' =>
        rw [he] at hcs this
        simp only [L.cells] at hcs
        injection hcs with hcs; subst hcs
        exact ⟨_, fun x hx => hb (.slot t) (by simp) x hx, this.2.2⟩
      | _ => rw [he] at hcs; cases hcs
    | hand i => cases hcs
  have hrsv : ∀ r cs off ps k, st.cells r = some cs → getC cs off ps k ≠ none → g.rsv w' r off ps = g.rsv w r off ps := by
    intro r cs off ps k hcs hg
    obtain ⟨bs, h1, h2⟩ := hroot r cs hcs
    exact rsv_frame ps _ _ _ k h2 hg h1 hz
  refine ⟨hk, h.tmps, h.defers, fun t cs hcs => ?_, fun t => ?_, ⟨h.own.nd, h.own.dj, fun r b hbb => ⟨(h.own.ok r b hbb).1, Nat.lt_of_lt_of_le (h.own.ok r b hbb).2 hsz⟩⟩⟩
  · obtain ⟨arr, T, ob, h1, h2, h3, h4, h5⟩ := h.var t cs hcs
    exact ⟨arr, T, ob, by rw [hb (.var t) (by simp) _ (by rw [h3]; simp)]; exact h1, h2, h3, repL_frame cs h4 (fun x hx => hb (.var t) (by simp) x (by rw [h3]; simp [hx])) hz', h5⟩
  · have := h.env t
    revert this
    cases st.env t with
    | dead => exact id
    | val gg cs => exact fun ⟨h1, h2, h3⟩ => ⟨h1, h2, repL_frame cs h3 (fun x hx => hb (.slot t) (by simp) x hx) hz'⟩
    | ref r off ps gg k => exact fun ⟨h1, h2⟩ => ⟨h1, fun cs hcs hg => by rw [hrsv r cs off ps k hcs hg]; exact h2 cs hcs hg⟩
    | win r off ps lo hi => exact fun h2 cs o z xs hcs hg => by rw [hrsv r cs off ps 1 hcs (by rw [hg]; simp)]; exact h2 cs o z xs hcs hg
    | ptr r off ps => exact fun ⟨h1, h2⟩ => ⟨h1, fun cs hcs hg => by rw [hrsv r cs off ps 0 hcs hg]; exact h2 cs hcs hg⟩
    | sptr c i z off =>
      rintro ⟨u, hc, h2⟩
      refine ⟨u, repC_frame c hc (fun x hx => by cases hx) hz', fun o xs ho hi => ?_⟩
      obtain ⟨b, p, us', h3, h4⟩ := h2 o xs ho hi
      refine ⟨b, p, us', ?_, h4⟩
      rw [← h3]
      subst ho
      obtain ⟨A, c', rfl, hlc, hA⟩ := hc
      cases A with
      | none => simp only [rsv, List.getElem?_cons_zero]
      | some ad =>
        rcases hA with hA | ⟨arr, T, fr, inn, g1, g2, g3, g4, g5⟩
        · omega
        · cases o with
          | true => have := (g3 rfl).2.1; cases this
          | false => simp only [rsv, List.getElem?_cons_zero, hz _ (g4 rfl).1]
    | tup ls =>
      rintro ⟨vs, h1, h2⟩
      exact ⟨vs, h1, tupOK_frame h2 (fun x hx => hb (.slot t) (by simp) x hx) hz⟩

/-! ### A temporary is set -/
def L.base : L → Option Rt
  | .ref r _ _ _ _ | .win r _ _ _ _ | .ptr r _ _ => some r
  | _ => none
def L.kill (r : Rt) (l : L) : L := if l.base = some r then .dead else l
def St.put (st : St) (d : Nat) (l : L) : St := { st with env := fun t => if t = d then l else (st.env t).kill (.slot d) }
theorem kill_val {r : Rt} {l : L} {gg : Bool} {cs : List C} : l.kill r = .val gg cs ↔ l = .val gg cs := by
  cases l <;> simp [L.kill, L.base] <;> split <;> simp
theorem kill_cells (r : Rt) (l : L) : (l.kill r).cells = l.cells := by
  cases l <;> simp [L.kill, L.base] <;> split <;> rfl
theorem put_cells {st : St} {d : Nat} {l : L} {r : Rt} (hr : r ≠ .slot d) : (st.put d l).cells r = st.cells r := by
  cases r with
  | var t => rfl
  | hand i => rfl
  | slot t =>
    have ht : t ≠ d := fun e => hr (by rw [e])
    simp only [St.cells, St.put, if_neg ht, kill_cells]
theorem getD_put {a : Act} {d n : Nat} {v : Value} (h : a.tmps.size = n) (hd : d < n) (t : Nat) : (a.put (some d) v).tmps.getD t undef = if t = d then v else a.tmps.getD t undef := by
  simp only [Act.put, Array.getD_eq_getD_getElem?, Array.getElem?_setIfInBounds]
  by_cases ht : d = t
  · subst ht; simp [h, hd]
  · have : ¬ t = d := fun e => ht e.symm
    simp [ht, this]
/-- The facts that a change of the ghost keeps for what lies elsewhere. -/
theorem LOK.turn {w : World} {Z : Nat → Prop} {st st' : St} {g g' : Gh} {bs bs' : List Nat} {us us' : List Value} {v : Value} {l : L}
    (h : LOK w Z st g bs us v l) (hv : (∀ gg cs, l = .val gg cs → us' = us ∧ bs' = bs) ∧ ∀ ls, l = .tup ls → bs' = bs)
    (hr : ∀ r, l.base = some r → st'.cells r = st.cells r ∧ g'.us r = g.us r ∧ g'.at_ r = g.at_ r) : LOK w Z st' g' bs' us' v l := by
  have hrsv : ∀ r off ps, l.base = some r → g'.rsv w r off ps = g.rsv w r off ps := fun r off ps hb => by
    unfold Gh.rsv; rw [(hr r hb).2.1, (hr r hb).2.2]
  cases l with
  | dead => trivial
  | val gg cs =>
    obtain ⟨rfl, rfl⟩ := hv.1 _ _ rfl
    exact h
  | ref r off ps gg k => exact ⟨h.1, fun cs hcs hg => by rw [hrsv r off ps rfl]; exact h.2 cs (by rw [← (hr r rfl).1]; exact hcs) hg⟩
  | win r off ps lo hi => exact fun cs o z xs hcs hg => by rw [hrsv r off ps rfl]; exact h cs o z xs (by rw [← (hr r rfl).1]; exact hcs) hg
  | ptr r off ps => exact ⟨h.1, fun cs hcs hg => by rw [hrsv r off ps rfl]; exact h.2 cs (by rw [← (hr r rfl).1]; exact hcs) hg⟩
  | sptr c i z off => exact h
  | tup ls => rw [hv.2 ls rfl]; exact h
def Gh.put (g : Gh) (d : Nat) (us : List Value) (bl : Rt → List Nat) : Gh := { g with us := fun r => if r = .slot d then us else g.us r, bl := bl }
theorem Conc.put {X : Fx} {st : St} {w : World} {a : Act} {g : Gh} (h : Conc X st w a g) {d : Nat} (hd : d < X.n) (l : L) (v : Value) (hf : X.fix d = none ∨ v = a.tmps.getD d undef) (us : List Value) (bl : Rt → List Nat)
    (hbl : ∀ r, (∀ i, r ≠ .hand i) → r ≠ .slot d → bl r = g.bl r) (hown : Own X.F X.w0.heap.size w.heap.size bl)
    (hl : LOK w (Z0 X.w0 X.F) (st.put d l) (g.put d us bl) (bl (.slot d)) us v l) : Conc X (st.put d l) w (a.put (some d) v) (g.put d us bl) := by
  refine ⟨h.keeps, by simp [Act.put, h.tmps], ⟨h.defers.1, fun t v' hv' => ?_⟩, fun t cs hcs => ?_, fun t => ?_, hown⟩
  · rw [getD_put h.tmps hd]
    split
    · rename_i e; subst e
      rcases hf with hf | hf
      · rw [hf] at hv'; cases hv'
      · rw [hf]; exact h.defers.2 _ _ hv'
    · exact h.defers.2 _ _ hv'
  · obtain ⟨arr, T, ob, h1, h2, h3, h4, h5⟩ := h.var t cs hcs
    refine ⟨arr, T, ob, h1, ?_, ?_, ?_, h5⟩
    · simpa [Gh.put] using h2
    · show bl _ = _; rw [hbl _ (by simp) (by simp)]; exact h3
    · simpa [Gh.put] using h4
  · rw [getD_put h.tmps hd]
    by_cases ht : t = d
    · subst ht
      have e1 : (st.put t l).env t = l := by simp [St.put]
      have e2 : (g.put t us bl).us (.slot t) = us := by simp [Gh.put]
      rw [e1, e2, if_pos rfl]
      exact hl
    · have hne : (Rt.slot t) ≠ .slot d := by simpa using ht
      rw [if_neg ht]
      have henv : (st.put d l).env t = (st.env t).kill (.slot d) := by simp [St.put, ht]
      rw [henv]
      unfold L.kill
      split
      · trivial
      · rename_i hk
        have := h.env t
        refine LOK.turn this ⟨fun gg cs _ => ⟨by simp [Gh.put, ht], by show bl _ = _; rw [hbl _ (by simp) hne]⟩, fun ls _ => by show bl _ = _; rw [hbl _ (by simp) hne]⟩ fun r hr => ?_
        have hr' : r ≠ .slot d := fun e => hk (by rw [hr, e])
        exact ⟨put_cells hr', by simp [Gh.put, hr'], by cases r <;> rfl⟩
/-- .. to what has no blocks of its own. -/
theorem Conc.put0 {X : Fx} {st : St} {w : World} {a : Act} {g : Gh} (h : Conc X st w a g) {d : Nat} (hd : X.ok d) (l : L) (v : Value) (us : List Value) 
    (hl : LOK w (Z0 X.w0 X.F) (st.put d l) (g.put d us (fun r => if r = .slot d then [] else g.bl r)) [] us v l) : ∃ g', Conc X (st.put d l) w (a.put (some d) v) g' ∧ (∀ i, g'.bl (.hand i) = g.bl (.hand i)) := by
  refine ⟨_, h.put hd.1 l v (.inl hd.2) us (fun r => if r = .slot d then [] else g.bl r) (fun r _ hr => by simp [hr]) ?_ (by simpa using hl), fun i => by simp [Gh.put]⟩
  refine Own.step h.own (Nat.le_refl _) h.keeps.size (.slot d) (fun r => ?_) (fun r b hr hb => ?_) (fun b hb => ?_)
  · show List.Nodup (if _ then _ else _)
    split
    · exact List.nodup_nil
    · exact h.own.nd r
  · simpa [hr] using hb
  · simp at hb

/-! ### What is taken from its place -/
def gone : C → C
  | .s true _ _ => .d
  | c => c
mutual
/-- a is b, some of it gone. -/
def leC : C → C → Prop
  | .d, _ => True
  | .v x, b => b = .v x
  | .s o z xs, b => ∃ ys, b = .s o z ys ∧ leR xs ys
def leL : List C → List C → Prop
  | [], bs => bs = []
  | a :: as, bs => ∃ b bs', bs = b :: bs' ∧ leC a b ∧ leL as bs'
def leR : List (List C) → List (List C) → Prop
  | [], bs => bs = []
  | a :: as, bs => ∃ b bs', bs = b :: bs' ∧ leL a b ∧ leR as bs'
end
mutual
theorem leC_refl : ∀ c, leC c c
  | .d => trivial
  | .v _ => rfl
  | .s _ _ xs => ⟨xs, rfl, leR_refl xs⟩
theorem leL_refl : ∀ c, leL c c
  | [] => rfl
  | c :: cs => ⟨c, cs, rfl, leC_refl c, leL_refl cs⟩
theorem leR_refl : ∀ c, leR c c
  | [] => rfl
  | c :: cs => ⟨c, cs, rfl, leL_refl c, leR_refl cs⟩
end
theorem leC_gone (c : C) : leC (gone c) c := by
  cases c with
  | s o z xs =>
    cases o with
    | true => exact trivial
    | false => exact leC_refl _
  | _ => exact leC_refl _
theorem leL_gone : ∀ cs, leL (cs.map gone) cs
  | [] => rfl
  | c :: cs => ⟨c, cs, rfl, leC_gone c, leL_gone cs⟩
theorem leL_len : ∀ {a b : List C}, leL a b → a.length = b.length
  | [], b, h => by rw [show b = [] from h]
  | x :: a, b, h => by
    obtain ⟨y, b', rfl, _, h2⟩ := h
    simp [leL_len h2]
theorem leR_len : ∀ {a b : List (List C)}, leR a b → a.length = b.length
  | [], b, h => by rw [show b = [] from h]
  | x :: a, b, h => by
    obtain ⟨y, b', rfl, _, h2⟩ := h
    simp [leR_len h2]
theorem leL_drop : ∀ {a b : List C} (n : Nat), leL a b → leL (a.drop n) (b.drop n)
  | a, b, 0, h => h
  | [], b, n + 1, h => by rw [show b = [] from h]; rfl
  | x :: a, b, n + 1, h => by
    obtain ⟨y, b', rfl, _, h2⟩ := h
    exact leL_drop n h2
theorem leL_take : ∀ {a b : List C} (n : Nat), leL a b → leL (a.take n) (b.take n)
  | a, b, 0, h => rfl
  | [], b, n + 1, h => by rw [show b = [] from h]; rfl
  | x :: a, b, n + 1, h => by
    obtain ⟨y, b', rfl, h1, h2⟩ := h
    exact ⟨y, _, rfl, h1, leL_take n h2⟩
theorem leL_at : ∀ {a b : List C} (n : Nat) {c : C}, leL a b → a[n]? = some c → ∃ c', b[n]? = some c' ∧ leC c c'
  | [], b, n, c, h, hc => by simp at hc
  | x :: a, b, 0, c, h, hc => by
    obtain ⟨y, b', rfl, h1, h2⟩ := h
    simp at hc; subst hc
    exact ⟨y, rfl, h1⟩
  | x :: a, b, n + 1, c, h, hc => by
    obtain ⟨y, b', rfl, h1, h2⟩ := h
    exact leL_at n h2 (by simpa using hc)
theorem leR_at : ∀ {a b : List (List C)} (n : Nat) {c : List C}, leR a b → a[n]? = some c → ∃ c', b[n]? = some c' ∧ leL c c'
  | [], b, n, c, h, hc => by simp at hc
  | x :: a, b, 0, c, h, hc => by
    obtain ⟨y, b', rfl, h1, h2⟩ := h
    simp at hc; subst hc
    exact ⟨y, rfl, h1⟩
  | x :: a, b, n + 1, c, h, hc => by
    obtain ⟨y, b', rfl, h1, h2⟩ := h
    exact leR_at n h2 (by simpa using hc)
theorem leL_app : ∀ {a b a' b' : List C}, leL a b → leL a' b' → leL (a ++ a') (b ++ b')
  | [], b, a', b', h, h' => by rw [show b = [] from h]; exact h'
  | x :: a, b, a', b', h, h' => by
    obtain ⟨y, b1, rfl, h1, h2⟩ := h
    exact ⟨y, _, rfl, h1, leL_app h2 h'⟩
theorem leL_set : ∀ {a : List C} (n : Nat) {c c' : C}, a[n]? = some c → leC c' c → leL (a.set n c') a
  | [], n, c, c', hc, h => by simp at hc
  | x :: a, 0, c, c', hc, h => by
    simp at hc; subst hc
    exact ⟨x, a, rfl, h, leL_refl a⟩
  | x :: a, n + 1, c, c', hc, h => ⟨x, a, rfl, leC_refl x, leL_set n (by simpa using hc) h⟩
theorem leR_set : ∀ {a : List (List C)} (n : Nat) {c c' : List C}, a[n]? = some c → leL c' c → leR (a.set n c') a
  | [], n, c, c', hc, h => by simp at hc
  | x :: a, 0, c, c', hc, h => by
    simp at hc; subst hc
    exact ⟨x, a, rfl, h, leR_refl a⟩
  | x :: a, n + 1, c, c', hc, h => ⟨x, a, rfl, leL_refl x, leR_set n (by simpa using hc) h⟩
theorem get_mono : ∀ (ps : Pth) {a b : List C} (off k : Nat) {sub : List C}, leL a b → getC a off ps k = some sub → ∃ sub', getC b off ps k = some sub' ∧ leL sub sub'
  | [], a, b, off, k, sub, h, hg => by
    simp only [getC] at hg ⊢
    have := leL_len h
    split at hg
    · rename_i hle
      injection hg with hg; subst hg
      rw [if_pos (by omega)]
      exact ⟨_, rfl, leL_take k (leL_drop off h)⟩
    · cases hg
  | (i, z, o) :: ps, a, b, off, k, sub, h, hg => by
    simp only [getC] at hg ⊢
    split at hg
    · rename_i o' z' xs hc
      split at hg
      · rename_i hz; subst hz
        split at hg
        · rename_i e he
          obtain ⟨c', hc', ys, rfl, hys⟩ := leL_at off h hc
          obtain ⟨e', he', hle⟩ := leR_at i hys he
          obtain ⟨sub', hs, hl⟩ := get_mono ps o k hle hg
          exact ⟨sub', by simp only [hc', if_true, he']; exact hs, hl⟩
        · cases hg
      · cases hg
    · cases hg
theorem set_le : ∀ (ps : Pth) {cs cs' : List C} (off : Nat) {new sub : List C}, setC cs off ps new = some cs' → getC cs off ps new.length = some sub → leL new sub → leL cs' cs
  | [], cs, cs', off, new, sub, hs, hg, hle => by
    simp only [setC] at hs
    simp only [getC] at hg
    split at hs
    · rename_i hl
      rw [if_pos hl] at hg
      injection hs with hs; injection hg with hg
      subst hs; subst hg
      have e : cs = cs.take off ++ (cs.drop off).take new.length ++ cs.drop (off + new.length) := by
        rw [List.append_assoc, ← List.drop_drop, List.take_append_drop, List.take_append_drop]
      have := leL_app (leL_app (leL_refl (cs.take off)) hle) (leL_refl (cs.drop (off + new.length)))
      rw [← e] at this
      exact this
    · cases hs
  | (i, z, o) :: ps, cs, cs', off, new, sub, hs, hg, hle => by
    simp only [setC] at hs
    simp only [getC] at hg
    split at hs
    · rename_i z' xs hc
      split at hs
      · rename_i hz; subst hz
        split at hs
        · rename_i e he
          obtain ⟨e', hs', rfl⟩ := Option.map_eq_some_iff.1 hs
          simp only [hc, if_true, he] at hg
          exact leL_set off hc ⟨xs, rfl, leR_set i he (set_le ps o hs' hg hle)⟩
        · cases hs
      · cases hs
    · cases hs
theorem rsv_blk {W : World} : ∀ (ps : Pth) {b p off b' p' : Nat} {us us' : List Value}, rsv W b p us off ps = some (b', p', us') → ps ≠ [] → ∃ arr T fr, W.heap[b']? = some (.cells arr T fr) ∧ us' = arr.toList.drop p'
  | [], b, p, off, b', p', us, us', h, hn => absurd rfl hn
  | (i, z, o) :: ps, b, p, off, b', p', us, us', h, hn => by
    simp only [rsv] at h
    split at h
    · split at h
      · rename_i ad _ _ _ arr T fr hh
        by_cases hps : ps = []
        · subst hps
          simp only [rsv, Option.some.injEq, Prod.mk.injEq] at h
          obtain ⟨rfl, rfl, rfl⟩ := h
          exact ⟨arr, T, fr, hh, by rw [List.drop_drop]⟩
        · exact rsv_blk ps h hps
      · cases h
    · cases h
theorem lput_same {α : Type} (l us : List α) (o k : Nat) (hu : us = l.drop o) : lput l o (us.take k) = l := by
  have e : l.drop (o + (us.take k).length) = us.drop k := by
    rw [← List.drop_drop, ← hu, List.length_take]
    rcases Nat.le_total k us.length with h | h
    · rw [Nat.min_eq_left h]
    · rw [Nat.min_eq_right h, List.drop_length, List.drop_of_length_le h]
  unfold lput
  rw [e, List.append_assoc, List.take_append_drop, hu, List.take_append_drop]
theorem repL_gone {W : World} {Z : Nat → Prop} : ∀ {cs : List C} {us : List Value} {bs : List Nat}, repL W Z cs us bs → repL W Z (cs.map gone) us []
  | [], us, bs, h => ⟨h.1, rfl⟩
  | c :: cs, us, bs, h => by
    obtain ⟨u, us', b1, b2, rfl, rfl, h1, h2⟩ := h
    refine ⟨u, us', [], [], rfl, rfl, ?_, repL_gone h2⟩
    cases c with
    | v x => exact ⟨h1.1, h1.2.1, rfl⟩
    | d => exact ⟨h1.1, rfl⟩
    | s o z xs =>
      cases o with
      | true => exact ⟨repC_one h1, rfl⟩
      | false =>
        obtain ⟨A, c, rfl, hlc, hA⟩ := h1
        refine ⟨A, c, rfl, hlc, ?_⟩
        cases A with
        | none => exact ⟨hA.1, hA.2.1, rfl⟩
        | some ad =>
          rcases hA with hA | ⟨arr, T, fr, inn, g1, g2, g3, g4, g5⟩
          · exact .inl ⟨rfl, hA.2.1, rfl⟩
          · exact .inr ⟨arr, T, fr, inn, g1, g2, (fun h => Bool.noConfusion h), fun h => ⟨(g4 h).1, rfl, (g4 h).2.2⟩, g5⟩
/-- What is taken from a place: its blocks go, the rest stays. -/
theorem take_ok {W : World} {Z : Nat → Prop} (ps : Pth) {cs cs' sub : List C} {us : List Value} {bs : List Nat} (b p off k : Nat) (h : repL W Z cs us bs) (hg : getC cs off ps k = some sub)
    (hs : setC cs off ps (sub.map gone) = some cs') (hk : sub.length = k) (hnd : bs.Nodup) :
    ∃ b' p' us' b1 b2 b3, rsv W b p us off ps = some (b', p', us') ∧ k ≤ us'.length ∧ bs = b1 ++ b2 ++ b3 ∧ repL W Z sub (us'.take k) b2 ∧ repL W Z cs' us (b1 ++ b3) ∧ leL cs' cs := by
  obtain ⟨b', p', us', b1, b2, b3, hr, hl, hb, ⟨sub', hg', hsub⟩, hnil, hcons, hfin⟩ := set_ok ps b p off h hs hnd
  simp only [List.length_map, hk] at hg' hl hsub
  rw [hg] at hg'
  injection hg' with hg'; subst hg'
  refine ⟨b', p', us', b1, b2, b3, hr, hl, hb, hsub, ?_, set_le ps off hs (by simpa [hk] using hg) (leL_gone sub)⟩
  have := hfin W Z (us'.take k) [] (repL_gone hsub) (fun x hx => ⟨hx, rfl⟩) (fun x _ _ => rfl) (fun arr T hps hh => by
    obtain ⟨arr', T', fr', h1, h2⟩ := rsv_blk ps hr hps
    rw [h1] at hh
    injection hh with hh; injection hh with hh1 hh2 hh3
    subst hh1; subst hh2; subst hh3
    rw [h1, lput_same _ _ _ _ h2])
  have e : (if ps = [] then lput us off (us'.take k) else us) = us := by
    split
    · rename_i hps; subst hps
      simp only [rsv, Option.some.injEq, Prod.mk.injEq] at hr
      exact lput_same _ _ _ _ hr.2.2.symm
    · rfl
  rw [e] at this
  simpa using this
end Go.Lvm
