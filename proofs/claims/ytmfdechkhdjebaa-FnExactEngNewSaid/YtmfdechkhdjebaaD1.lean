/- Lemmas of the by-value machine and of the data that the contracts speak of: each holds under the hypotheses that it states. -/
import Derived.Test.YtmfdechkhdjebaaD0
set_option linter.unusedVariables false
set_option linter.unusedSimpArgs false
namespace Go.Lvm
/-! ### Disks, supers, arrays: what the functions tell -/
def lostB (g : Geo) (l b : Int) : Bool := inB l (-1) (w64 (g.n - 1)) && inB b 0 g.s && (eqI b 0 || !eqI l (-1))
def countsB (s : Super) : Bool := inB s.id 1 60000 && inB s.gen 0 60000 && inB s.tail 0 60000
def superB (s : Super) : Bool := countsB s && geoOk ⟨s.n, s.s⟩ && inB s.role 0 (w64 (s.n - 1)) && lostB ⟨s.n, s.s⟩ s.lost s.built
def super1 (s : Super) : Bool := !geoOk ⟨s.n, s.s⟩ || !inB s.id 1 60000 || !inB s.gen 0 60000 || !inB s.role 0 (w64 (s.n - 1)) || !inB s.tail 0 60000
def super2 (s : Super) : Bool := inB s.lost (-1) (w64 (s.n - 1)) && inB s.built 0 s.s && (decide (0 ≤ s.lost) || eqI s.built 0)
theorem superB_no (s : Super) (h : super1 s = true) : superB s = false := by
  simp only [super1, Bool.or_eq_true, Bool.not_eq_true'] at h
  simp only [superB, countsB]
  rcases h with (((h | h) | h) | h) | h <;> simp [h]
theorem superB_eq (s : Super) (h : super1 s = false) : super2 s = superB s := by
  simp only [super1, Bool.or_eq_false_iff, Bool.not_eq_false'] at h
  obtain ⟨⟨⟨⟨e1, e2⟩, e3⟩, e4⟩, e5⟩ := h
  simp only [superB, super2, countsB, lostB, e1, e2, e3, e4, e5, Bool.true_and]
  cases e6 : inB s.lost (-1) (w64 (s.n - 1)) with
  | false => rfl
  | true =>
    have h1 := (inB_iff.1 e6).1
    cases e7 : inB s.built 0 s.s with
    | false => rfl
    | true =>
      rw [Bool.eq_iff_iff]
      simp [eqI]
      omega
def putSuper (s : Super) : List Int := if superB s = true then [21317, s.id, s.gen, s.role, s.n, s.s, s.tail, w64 (s.lost + 1), s.built] else []
theorem putSuper_len (s : Super) : (putSuper s).length * 8 ≤ 140737488351232 := by unfold putSuper; split <;> simp
def hasB (m : Mem) (n : Int) : Bool := inB n 0 (w64 ((m.secs.length : Int) - 1))
def wrB (m : Mem) (w : Wr) : Bool := hasB m w.n && secB w.s
def badAt (m : Mem) (i : Nat) : Bool := hasB m (m.bad.getD i 0) && (if i = 0 then true else !decide (m.bad.getD i 0 ≤ m.bad.getD (i - 1) 0))
def badB (m : Mem) : Bool := (List.range m.bad.length).all (badAt m)
def memB (m : Mem) : Bool := m.secs.all secB && m.cache.all (wrB m) && badB m && (inB m.secs.length 1 20 && decide ((m.cache.length : Int) ≤ 60))
def K47 : Nat := 140737488351232
def memNew (n : Int) : Mem := if inB n 1 20 = true then ⟨List.replicate n.toNat [], [], false, []⟩ else ⟨[], [], false, []⟩
def superOf (a : Arr) (m : Int) : Super := ⟨a.id, a.gen, m, a.g.n, a.g.s, a.tail, a.lost, a.built⟩
def writeOK (m : Mem) (n : Int) (s : List Int) : Bool := memB m && !m.failed && hasB m n && secB s && !eqI m.cache.length 60
def writeSec (m : Mem) (n : Int) (s : List Int) : Mem × Bool := if writeOK m n s = true then (⟨m.secs, m.cache ++ [⟨n, s⟩], m.failed, m.bad.filter fun x => !eqI x n⟩, true) else (m, false)
structure MemF (m : Mem) : Prop where
  secs : m.secs.length * 24 ≤ 140737488351232
  sec : ∀ s ∈ m.secs, s.length * 8 ≤ 140737488351232
  cache : m.cache.length * 32 ≤ 140737488351232
  wr : ∀ w ∈ m.cache, w.s.length * 8 ≤ 140737488351232
  bad : m.bad.length * 8 ≤ 140737488351232
section
variable {α : Type} (p : α → Bool) (l : List α) (i : Nat)
theorem take_succ' (h : i < l.length) : l.take (i + 1) = l.take i ++ [l[i]] := by
  rw [List.take_add_one, List.getElem?_eq_getElem h]; rfl
theorem all_succ (h : i < l.length) : (l.take (i + 1)).all p = ((l.take i).all p && p l[i]) := by
  rw [take_succ' l i h, List.all_append]; simp
theorem all_no (h : i < l.length) (hp : p l[i] = false) : l.all p = false := by
  rw [List.all_eq_false]; exact ⟨l[i], List.getElem_mem h, by simp [hp]⟩
theorem all_end (h : l.length ≤ i) : (l.take i).all p = l.all p := by rw [List.take_of_length_le h]
theorem take_map_succ {β : Type} (f : α → β) (h : i < l.length) : (l.take (i + 1)).map f = (l.take i).map f ++ [f l[i]] := by
  rw [take_succ' l i h, List.map_append]; rfl
end
theorem rows_ts {α : Type} (f : α → List C) (l : List α) (i : Nat) (h : i < l.length) : rows f (l.take (i + 1)) = rows f (l.take i) ++ [f l[i]] := by rw [take_succ' l i h, rows_app]; rfl
theorem rall_succ (p : Nat → Bool) (i : Nat) : (List.range (i + 1)).all p = ((List.range i).all p && p i) := by rw [List.range_succ]; simp
theorem rall_no (p : Nat → Bool) (n i : Nat) (h : i < n) (hp : p i = false) : (List.range n).all p = false := by
  rw [List.all_eq_false]; exact ⟨i, List.mem_range.2 h, by simp [hp]⟩
end Go.Lvm
