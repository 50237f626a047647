/- Lemmas of the by-value machine and of the data that the contracts speak of: each holds under the hypotheses that it states. -/
import Derived.Test.YtmfdechkhdjebaaE1
import Derived.Test.YtmfdechkhdjebaaLvm27
set_option linter.unusedVariables false
set_option linter.unusedSimpArgs false
namespace Go.Lvm
/-! ### Marks -/
def markL {α : Type} (f : α → Int → α × Int) : List α → Int → List α × Int
  | [], k => ([], k)
  | x :: l, k => ((f x k).1 :: (markL f l (f x k).2).1, (markL f l (f x k).2).2)
theorem markL_len {α : Type} (f : α → Int → α × Int) : ∀ (l : List α) (k : Int), (markL f l k).1.length = l.length
  | [], k => rfl
  | x :: l, k => by simp [markL, markL_len f l]
theorem markL_cons {α : Type} (f : α → Int → α × Int) (x : α) (l : List α) (k : Int) : markL f (x :: l) k = ((f x k).1 :: (markL f l (f x k).2).1, (markL f l (f x k).2).2) := rfl
def mark1 (_ : Int) (k : Int) : Int × Int := (k, w64 (k + 1))
def markInts (l : List Int) (k : Int) : List Int × Int := markL mark1 l k
def markIntss (l : List (List Int)) (k : Int) : List (List Int) × Int := markL markInts l k
def markMem0 (m : Mem) (k : Int) : Mem × Int := (⟨(markIntss m.secs k).1, [], eqI ((markIntss m.secs k).2.tmod 3) 0, (markInts m.bad (w64 ((markIntss m.secs k).2 + 1))).1⟩, (markInts m.bad (w64 ((markIntss m.secs k).2 + 1))).2)
def markMems0 (l : List Mem) (k : Int) : List Mem × Int := markL markMem0 l k
def arrWith (a : Arr) (l : List Mem) : Arr := ⟨a.id, a.g, l, a.lost, a.built, a.seq, a.tail, a.gen, a.dirty, a.fuse, a.down, a.broken⟩
def engWith (e : Eng) (l : List Mem) : Eng := ⟨arrWith e.a l, e.wait, e.jobs, e.done, e.log⟩
def heldInts : List Int → Int → Int
  | [], k => k
  | x :: l, k => if eqI x k = true then heldInts l (w64 (k + 1)) else -1
def heldL {α : Type} (f : α → Int → Int) : List α → Int → Int
  | [], k => k
  | x :: l, k => if f x k < 0 then -1 else heldL f l (f x k)
def heldIntss (l : List (List Int)) (k : Int) : Int := heldL heldInts l k
def heldMem0 (m : Mem) (k : Int) : Int := if heldIntss m.secs k < 0 then -1 else if m.failed = eqI ((heldIntss m.secs k).tmod 3) 0 then heldInts m.bad (w64 (heldIntss m.secs k + 1)) else -1
def heldMems0 (l : List Mem) (k : Int) : Int := heldL heldMem0 l k
theorem markInts_nil (k : Int) : markInts [] k = ([], k) := rfl
theorem markIntss_nil (k : Int) : markIntss [] k = ([], k) := rfl
theorem markMems0_nil (k : Int) : markMems0 [] k = ([], k) := rfl
theorem w64_succ (i n : Nat) (hi : i < n) (hn : n < 2 ^ 62) : w64 ((i : Int) + 1) = ((i + 1 : Nat) : Int) := wrap_succ i n hi hn
theorem held_markInts : ∀ (l : List Int) (k : Int), heldInts (markInts l k).1 k = (markInts l k).2
  | [], k => rfl
  | x :: l, k => by
    have := held_markInts l (w64 (k + 1))
    simp only [markInts] at this
    simp only [markInts, markL, mark1, heldInts, eqI_self, if_true, this]
theorem markInts_n : ∀ (l : List Int) (k : Int), 0 ≤ k → k + l.length < 2 ^ 62 → (markInts l k).2 = k + l.length
  | [], k, _, _ => by simp [markInts, markL]
  | x :: l, k, h0, h => by
    have e : w64 (k + 1) = k + 1 := w64_id (by omega) (by simp at h; omega)
    have := markInts_n l (k + 1) (by omega) (by simp at h; omega)
    simp only [markInts] at this
    simp only [markInts, markL, mark1, e, this, List.length_cons]
    omega
/-- How much a list's marks count. -/
def wL {α : Type} (w : α → Nat) (l : List α) : Nat := (l.map w).sum
theorem markL_n {α : Type} {f : α → Int → α × Int} {h : α → Int → Int} {w : α → Nat} : ∀ (l : List α) (k : Int), (∀ x ∈ l, ∀ k : Int, 0 ≤ k → k + w x < 2 ^ 62 → (f x k).2 = k + w x ∧ h (f x k).1 k = (f x k).2) → 0 ≤ k → k + wL w l < 2 ^ 62 →
    (markL f l k).2 = k + wL w l ∧ heldL h (markL f l k).1 k = (markL f l k).2
  | [], k, _, _, _ => by simp [markL, wL, heldL]
  | x :: l, k, hf, h0, hb => by
    have e : wL w (x :: l) = w x + wL w l := by simp [wL]
    rw [e] at hb ⊢
    obtain ⟨h1, h2⟩ := hf x (by simp) k h0 (by omega)
    obtain ⟨h3, h4⟩ := markL_n l (f x k).2 (fun y hy => hf y (by simp [hy])) (by omega) (by omega)
    refine ⟨?_, ?_⟩
    · simp only [markL]; rw [h3, h1]; omega
    · simp only [markL, heldL, h2]
      rw [if_neg (by omega), h4]
theorem markIntss_n (l : List (List Int)) (k : Int) (h0 : 0 ≤ k) (h : k + wL List.length l < 2 ^ 62) : (markIntss l k).2 = k + wL List.length l ∧ heldIntss (markIntss l k).1 k = (markIntss l k).2 :=
  markL_n l k (fun x _ k h1 h2 => ⟨markInts_n x k h1 h2, held_markInts x k⟩) h0 h
def wMem (m : Mem) : Nat := wL List.length m.secs + 1 + m.bad.length
theorem markMem0_n (m : Mem) (k : Int) (h0 : 0 ≤ k) (h : k + wMem m < 2 ^ 62) : (markMem0 m k).2 = k + wMem m ∧ heldMem0 (markMem0 m k).1 k = (markMem0 m k).2 := by
  unfold wMem at h ⊢
  obtain ⟨h1, h2⟩ := markIntss_n m.secs k h0 (by omega)
  have e : w64 ((markIntss m.secs k).2 + 1) = k + wL List.length m.secs + 1 := by rw [h1]; exact w64_id (by omega) (by omega)
  have h3 := markInts_n m.bad (k + wL List.length m.secs + 1) (by omega) (by omega)
  refine ⟨?_, ?_⟩
  · simp only [markMem0, e, h3]; omega
  · simp only [markMem0, heldMem0, h2, h1]
    have e2 : w64 (k + wL List.length m.secs + 1) = k + wL List.length m.secs + 1 := w64_id (by omega) (by omega)
    rw [if_neg (by omega), if_pos trivial, e2, held_markInts]
theorem markMems0_n (l : List Mem) (k : Int) (h0 : 0 ≤ k) (h : k + wL wMem l < 2 ^ 62) : (markMems0 l k).2 = k + wL wMem l ∧ heldMems0 (markMems0 l k).1 k = (markMems0 l k).2 :=
  markL_n l k (fun x _ k h1 h2 => markMem0_n x k h1 h2) h0 h
section
variable {α : Type} {g : α → List C} {p l : List α} {i : Nat}
theorem mid_get? (hp : p.length = i) (hi : i < l.length) : (p ++ l.drop i)[i]? = some l[i] := by
  subst hp; rw [List.getElem?_append_right (Nat.le_refl _)]; simp [List.getElem?_drop]
theorem mid_get (hp : p.length = i) (hi : i < l.length) (h : i < (p ++ l.drop i).length) : (p ++ l.drop i)[i] = l[i] := by
  have := mid_get? hp hi
  rw [List.getElem?_eq_getElem h] at this; exact Option.some.inj this
theorem mid_set (hp : p.length = i) (hi : i < l.length) (y : α) : (p ++ l.drop i).set i y = (p ++ [y]) ++ l.drop (i + 1) := by
  subst hp
  rw [List.set_append_right _ _ (Nat.le_refl _), Nat.sub_self, List.drop_eq_getElem_cons hi, List.set_cons_zero, List.append_assoc]; rfl
theorem mid_len (hp : p.length = i) (hi : i ≤ l.length) : (p ++ l.drop i).length = l.length := by simp; omega
theorem rows_mid (hp : p.length = i) (hi : i < l.length) (y : α) : (rows g (p ++ l.drop i)).set i (g y) = rows g ((p ++ [y]) ++ l.drop (i + 1)) := by rw [rows_set, mid_set hp hi]
end
end Go.Lvm
