/- Lemmas of the by-value machine and of the data that the contracts speak of: each holds under the hypotheses that it states. -/
import Derived.Test.YtmfdechkhdjebaaD1
set_option linter.unusedVariables false
set_option linter.unusedSimpArgs false
namespace Go.Lvm
/-! ### A new array -/
def zeroArr : Arr := ⟨0, ⟨0, 0⟩, [], 0, 0, 0, 0, 0, [], 0, false, false⟩
def arr0 (id : Int) (g : Geo) (ms : List Mem) : Arr := ⟨id, g, ms, -1, 0, 0, 0, 0, [], -1, false, false⟩
def sup0 (id : Int) (g : Geo) (m : Int) : Super := ⟨id, 0, m, g.n, g.s, 0, -1, 0⟩
def diskNew (id : Int) (g : Geo) (m : Nat) : Mem := ⟨putSuper (sup0 id g m) :: (List.replicate 5 [] ++ List.replicate g.s.toNat [0]), [], false, []⟩
def newOK (id : Int) (g : Geo) : Bool := geoOk g && inB id 1 60000
theorem newOK_g {id : Int} {g : Geo} (h : newOK id g = true) : geoOk g = true := by simp only [newOK, Bool.and_eq_true] at h; exact h.1
theorem newOK_i {id : Int} {g : Geo} (h : newOK id g = true) : inB id 1 60000 = true := by simp only [newOK, Bool.and_eq_true] at h; exact h.2
def arrNew (id : Int) (g : Geo) : Arr := if newOK id g = true then arr0 id g ((List.range g.n.toNat).map (diskNew id g)) else zeroArr
theorem superOf_arr0 (id : Int) (g : Geo) (ms : List Mem) (m : Int) : superOf (arr0 id g ms) m = sup0 id g m := rfl
def engNew (id : Int) (g : Geo) : Eng := ⟨arrNew id g, [], [], [], []⟩
def writeSuper (m : Mem) (s : Super) : Mem := if superB s = true then (writeSec m (s.gen.tmod 2) (putSuper s)).1 else m
def flushTo (m : Mem) (i : Nat) : List (List Int) := (m.cache.take i).foldl (fun acc w => acc.set w.n.toNat w.s) m.secs
def flushOK (m : Mem) : Bool := memB m && !m.failed
theorem flushOK_mem {m : Mem} (h : flushOK m = true) : memB m = true := by simp only [flushOK, Bool.and_eq_true] at h; exact h.1
def flushMem (m : Mem) : Mem := if flushOK m = true then ⟨flushTo m m.cache.length, [], m.failed, m.bad⟩ else m
theorem flushTo_len (m : Mem) (i : Nat) : (flushTo m i).length = m.secs.length := by
  unfold flushTo
  generalize m.cache.take i = l
  generalize m.secs = s
  induction l generalizing s with
  | nil => rfl
  | cons w l ih => rw [List.foldl_cons, ih]; simp
theorem flushTo_succ (m : Mem) (i : Nat) (h : i < m.cache.length) : flushTo m (i + 1) = (flushTo m i).set m.cache[i].n.toNat m.cache[i].s := by
  unfold flushTo; rw [take_succ' _ _ h, List.foldl_append]; rfl
theorem cache_in {m : Mem} (h : memB m = true) (hf : m.secs.length * 24 ≤ 140737488351232) (i : Nat) (hi : i < m.cache.length) : 0 ≤ m.cache[i].n ∧ m.cache[i].n.toNat < m.secs.length := by
  simp only [memB, Bool.and_eq_true] at h
  have h2 := List.all_eq_true.1 h.1.1.2 _ (List.getElem_mem hi)
  have h3 := (inB_iff.1 h.2.1)
  simp only [wrB, Bool.and_eq_true, hasB] at h2
  have h4 := inB_iff.1 h2.1
  rw [w64_id (by omega) (by omega)] at h4
  omega
def secsK (id : Int) (g : Geo) (m k : Nat) : List (List Int) := putSuper (sup0 id g m) :: (List.replicate 5 [] ++ (List.replicate k [0] ++ List.replicate (g.s.toNat - k) []))
section
variable {id : Int} {g : Geo} (hg : geoOk g = true) (hid : inB id 1 60000 = true)
include hg
theorem geo_n : 3 ≤ g.n ∧ g.n ≤ 5 := by simp only [geoOk, Bool.and_eq_true] at hg; exact inB_iff.1 hg.1
theorem geo_s : 1 ≤ g.s ∧ g.s ≤ 8 := by simp only [geoOk, Bool.and_eq_true] at hg; exact inB_iff.1 hg.2
theorem secs_n : w64 (6 + g.s) = 6 + g.s := w64_id (by have := geo_s hg; omega) (by have := geo_s hg; omega)
include hid
theorem sup0_ok (m : Nat) (hm : (m : Int) < g.n) : superB (sup0 id g m) = true := by
  have h1 := geo_n hg
  have h2 := geo_s hg
  have h3 := inB_iff.1 hid
  have e : w64 (g.n - 1) = g.n - 1 := w64_id (by omega) (by omega)
  simp only [superB, countsB, sup0, lostB, Bool.and_eq_true, e, inB_iff, Bool.or_eq_true]
  have hg' : geoOk ⟨g.n, g.s⟩ = true := hg
  refine ⟨⟨⟨⟨⟨⟨by omega, by omega⟩, by omega⟩, by omega⟩, hg'⟩, by omega⟩, ⟨by omega, by omega⟩, .inl rfl⟩
theorem put_ok (m : Nat) (hm : (m : Int) < g.n) : secB (putSuper (sup0 id g m)) = true := by
  have h1 := geo_n hg
  have h2 := geo_s hg
  have h3 := inB_iff.1 hid
  have e : w64 (-1 + 1) = 0 := by decide
  have e2 : putSuper (sup0 id g m) = [21317, id, 0, m, g.n, g.s, 0, 0, 0] := by rw [putSuper, if_pos (sup0_ok hg hid m hm)]; simp only [sup0, e]
  simp only [e2, secB, wordsB, List.all_cons, List.all_nil, Bool.and_true, Bool.and_eq_true, wordB, inB_iff, decide_eq_true_eq, List.length_cons, List.length_nil]
  omega
/-- The disk with k of its words written. -/
def cacheK (id : Int) (g : Geo) (m k : Nat) : List Wr := ⟨0, putSuper (sup0 id g m)⟩ :: (List.range k).map fun s : Nat => ⟨6 + (s : Int), [0]⟩
def diskK (id : Int) (g : Geo) (m k : Nat) : Mem := ⟨List.replicate (6 + g.s).toNat [], cacheK id g m k, false, []⟩
theorem diskK_ok (m k : Nat) (hm : (m : Int) < g.n) (hk : (k : Int) ≤ g.s) : memB (diskK id g m k) = true := by
  have h2 := geo_s hg
  have hhas : ∀ x : Int, 0 ≤ x → x ≤ 5 + g.s → hasB (diskK id g m k) x = true := by
    intro x h3 h4
    have e : (((6 + g.s).toNat : Nat) : Int) = 6 + g.s := by omega
    simp only [hasB, diskK, List.length_replicate, e, inB_iff]
    rw [w64_id (by omega) (by omega)]
    omega
  have e1 : (List.replicate (6 + g.s).toNat ([] : List Int)).all secB = true := by
    rw [List.all_eq_true]; intro x hx; rw [List.eq_of_mem_replicate hx]; rfl
  have e2 : (cacheK id g m k).all (wrB (diskK id g m k)) = true := by
    simp only [cacheK, List.all_cons, Bool.and_eq_true, List.all_map]
    refine ⟨?_, ?_⟩
    · simp only [wrB, Bool.and_eq_true]
      exact ⟨hhas 0 (by omega) (by omega), put_ok hg hid m hm⟩
    · rw [List.all_eq_true]
      intro x hx
      have := List.mem_range.1 hx
      simp only [Function.comp, wrB, Bool.and_eq_true]
      exact ⟨hhas _ (by omega) (by omega), by decide⟩
  have e3 : badB (diskK id g m k) = true := rfl
  have e4 : (inB ((diskK id g m k).secs.length : Int) 1 20) = true := by simp only [diskK, List.length_replicate, inB_iff]; omega
  have e5 : ((diskK id g m k).cache.length : Int) ≤ 60 := by simp only [diskK, cacheK, List.length_cons, List.length_map, List.length_range]; omega
  show ((List.replicate (6 + g.s).toNat ([] : List Int)).all secB && (cacheK id g m k).all (wrB (diskK id g m k)) && badB (diskK id g m k) && (inB ((diskK id g m k).secs.length : Int) 1 20 && decide (((diskK id g m k).cache.length : Int) ≤ 60))) = true
  rw [e1, e2, e3, e4, decide_eq_true e5]; rfl
omit hid in
theorem mem0_ok : memB ⟨List.replicate (6 + g.s).toNat [], [], false, []⟩ = true := by
  have h2 := geo_s hg
  have e1 : (List.replicate (6 + g.s).toNat ([] : List Int)).all secB = true := by
    rw [List.all_eq_true]; intro x hx; rw [List.eq_of_mem_replicate hx]; rfl
  have e4 : (inB ((List.replicate (6 + g.s).toNat ([] : List Int)).length : Int) 1 20) = true := by simp only [List.length_replicate, inB_iff]; omega
  show ((List.replicate (6 + g.s).toNat ([] : List Int)).all secB && true && true && (inB ((List.replicate (6 + g.s).toNat ([] : List Int)).length : Int) 1 20 && true)) = true
  rw [e1, e4]; rfl
omit hid in
theorem memNew_eq : memNew (w64 (6 + g.s)) = ⟨List.replicate (6 + g.s).toNat [], [], false, []⟩ := by
  have h2 := geo_s hg
  rw [secs_n hg, memNew, if_pos (inB_iff.2 ⟨by omega, by omega⟩)]
theorem diskK_zero (m : Nat) (hm : (m : Int) < g.n) : writeSuper (memNew (w64 (6 + g.s))) (sup0 id g m) = diskK id g m 0 := by
  have h2 := geo_s hg
  rw [memNew_eq hg, writeSuper, if_pos (sup0_ok hg hid m hm)]
  have e0 : (sup0 id g m).gen.tmod 2 = 0 := rfl
  have hhas : hasB ⟨List.replicate (6 + g.s).toNat [], [], false, []⟩ 0 = true := by
    have e : (((6 + g.s).toNat : Nat) : Int) = 6 + g.s := by omega
    simp only [hasB, List.length_replicate, e, inB_iff]
    rw [w64_id (by omega) (by omega)]; omega
  rw [e0, writeSec, if_pos (by simp [writeOK, mem0_ok hg, hhas, put_ok hg hid m hm, eqI])]
  rfl
theorem diskK_succ (m k : Nat) (hm : (m : Int) < g.n) (hk : (k : Int) < g.s) : (writeSec (diskK id g m k) (dataAt k) [0]).1 = diskK id g m (k + 1) := by
  have h2 := geo_s hg
  have e : dataAt k = 6 + (k : Int) := by
    rw [dataAt, if_pos (inB_iff.2 ⟨by omega, by omega⟩)]; omega
  have hhas : hasB (diskK id g m k) (6 + (k : Int)) = true := by
    have e : (((6 + g.s).toNat : Nat) : Int) = 6 + g.s := by omega
    simp only [hasB, diskK, List.length_replicate, e, inB_iff]
    rw [w64_id (by omega) (by omega)]; omega
  have hlen : eqI ((diskK id g m k).cache.length : Int) 60 = false := by
    rw [eqI_no]; simp only [diskK, cacheK, List.length_cons, List.length_map, List.length_range]; omega
  rw [e, writeSec, if_pos (by simp only [writeOK, diskK_ok hg hid m k hm (by omega), hhas, hlen]; rfl)]
  simp only [diskK, cacheK, List.range_succ, List.map_append, List.map_cons, List.map_nil, List.cons_append]
  rfl
theorem flush_diskK (m : Nat) (hm : (m : Int) < g.n) : flushMem (diskK id g m g.s.toNat) = diskNew id g m := by
  have h2 := geo_s hg
  have hk : ((g.s.toNat : Nat) : Int) ≤ g.s := by omega
  rw [flushMem, if_pos (by rw [flushOK, diskK_ok hg hid m _ hm hk]; rfl)]
  have key : ∀ k : Nat, (k : Int) ≤ g.s → ((List.range k).map fun s : Nat => (⟨6 + (s : Int), [0]⟩ : Wr)).foldl (fun acc w => acc.set w.n.toNat w.s) (putSuper (sup0 id g m) :: List.replicate (5 + g.s.toNat) []) = putSuper (sup0 id g m) :: (List.replicate 5 [] ++ (List.replicate k [0] ++ List.replicate (g.s.toNat - k) [])) := by
    intro k
    induction k with
    | zero => intro _; simp only [List.range_zero, List.map_nil, List.foldl_nil, List.replicate_zero, List.nil_append, Nat.sub_zero]; rw [← List.replicate_append_replicate]
    | succ k ih =>
      intro hk
      rw [List.range_succ, List.map_append, List.foldl_append, ih (by omega)]
      have e : (6 + (k : Int)).toNat = 5 + (k + 0) + 1 := by omega
      have e2 : g.s.toNat - k = (g.s.toNat - (k + 1)) + 1 := by omega
      simp only [List.map_cons, List.map_nil, List.foldl_cons, List.foldl_nil, e, List.set_cons_succ]
      rw [List.set_append_right _ _ (by simp), List.length_replicate, Nat.add_sub_cancel_left, List.set_append_right _ _ (by simp), List.length_replicate, e2, List.replicate_succ (n := g.s.toNat - (k + 1))]
      simp [List.replicate_succ']
  have e3 : (6 + g.s).toNat = (5 + g.s.toNat) + 1 := by omega
  have e4 : flushTo (diskK id g m g.s.toNat) (diskK id g m g.s.toNat).cache.length = putSuper (sup0 id g m) :: (List.replicate 5 [] ++ List.replicate g.s.toNat [0]) := by
    simp only [flushTo, List.take_length]
    simp only [diskK, cacheK, List.foldl_cons, e3, List.replicate_succ, Int.toNat_zero, List.set_cons_zero]
    rw [key _ hk]; simp
  rw [e4]; rfl
theorem diskK_F (m k : Nat) (hm : (m : Int) < g.n) (hk : (k : Int) ≤ g.s) : MemF (diskK id g m k) := by
  have h2 := geo_s hg
  have hp := put_ok hg hid m hm
  simp only [secB, Bool.and_eq_true, decide_eq_true_eq] at hp
  refine ⟨by simp only [diskK, List.length_replicate]; omega, fun s hs => ?_, by simp only [diskK, cacheK, List.length_cons, List.length_map, List.length_range]; omega, fun w hw => ?_, by simp [diskK]⟩
  · rw [List.eq_of_mem_replicate hs]; simp
  · simp only [diskK, cacheK, List.mem_cons, List.mem_map] at hw
    rcases hw with rfl | ⟨a, _, rfl⟩
    · simp only; omega
    · simp
theorem diskN_F (m : Nat) (hm : (m : Int) < g.n) : MemF (diskNew id g m) := by
  have h2 := geo_s hg
  have hp := put_ok hg hid m hm
  simp only [secB, Bool.and_eq_true, decide_eq_true_eq] at hp
  refine ⟨by simp only [diskNew, List.length_cons, List.length_append, List.length_replicate]; omega, fun s hs => ?_, by simp [diskNew], fun w hw => by simp [diskNew] at hw, by simp [diskNew]⟩
  simp only [diskNew, List.mem_cons, List.mem_append] at hs
  rcases hs with rfl | hs | hs
  · omega
  · rw [List.eq_of_mem_replicate hs]; simp
  · rw [List.eq_of_mem_replicate hs]; simp
omit hid in
theorem mem0_F : MemF (memNew (w64 (6 + g.s))) := by
  have h2 := geo_s hg
  rw [memNew_eq hg]
  refine ⟨by simp only [List.length_replicate]; omega, fun s hs => ?_, by simp, fun w hw => by simp at hw, by simp⟩
  rw [List.eq_of_mem_replicate hs]; simp
omit hid in
theorem secsK_zero (m : Nat) : (List.replicate (6 + g.s).toNat ([] : List Int)).set 0 (putSuper (sup0 id g m)) = secsK id g m 0 := by
  have h2 := geo_s hg
  have e : (6 + g.s).toNat = (5 + g.s.toNat) + 1 := by omega
  rw [e, List.replicate_succ, List.set_cons_zero, secsK, ← List.replicate_append_replicate]; simp
omit hid in
theorem secsK_len (m k : Nat) (hk : (k : Int) ≤ g.s) : (secsK id g m k).length = 6 + g.s.toNat := by
  have h2 := geo_s hg
  simp only [secsK, List.length_cons, List.length_append, List.length_replicate]; omega
omit hid in
theorem secsK_succ (m k : Nat) (hk : (k : Int) < g.s) : (secsK id g m k).set (dataAt k).toNat [0] = secsK id g m (k + 1) := by
  have h2 := geo_s hg
  have e : dataAt k = 6 + (k : Int) := by rw [dataAt, if_pos (inB_iff.2 ⟨by omega, by omega⟩)]; omega
  have e1 : (6 + (k : Int)).toNat = 5 + (k + 0) + 1 := by omega
  have e2 : g.s.toNat - k = (g.s.toNat - (k + 1)) + 1 := by omega
  rw [e, e1, secsK, List.set_cons_succ, List.set_append_right _ _ (by simp), List.length_replicate, Nat.add_sub_cancel_left, List.set_append_right _ _ (by simp), List.length_replicate, e2, List.replicate_succ (n := g.s.toNat - (k + 1))]
  simp [secsK, List.replicate_succ']
omit hid in
theorem dataAt_in (k : Nat) (hk : (k : Int) < g.s) : 0 ≤ dataAt k ∧ (dataAt k).toNat < 6 + g.s.toNat := by
  have h2 := geo_s hg
  have e : dataAt k = 6 + (k : Int) := by rw [dataAt, if_pos (inB_iff.2 ⟨by omega, by omega⟩)]; omega
  omega
omit hg hid in
theorem secsK_end (m : Nat) : secsK id g m g.s.toNat = (diskNew id g m).secs := by simp [secsK, diskNew]
end
end Go.Lvm
