/- Lemmas of the by-value machine and of the data that the contracts speak of: each holds under the hypotheses that it states. -/
import Derived.Test.YtmfdechkhdjebaaM1
set_option linter.unusedVariables false
set_option linter.unusedSimpArgs false
namespace Go.Lvm
theorem wL_le {α : Type} (w : α → Nat) (B : Nat) : ∀ (l : List α), (∀ x ∈ l, w x ≤ B) → wL w l ≤ l.length * B
  | [], _ => by simp [wL]
  | x :: l, h => by
    have h1 := h x (by simp)
    have h2 := wL_le w B l (fun y hy => h y (by simp [hy]))
    have e : wL w (x :: l) = w x + wL w l := by simp [wL]
    rw [e, List.length_cons, Nat.add_mul]; omega
theorem markL_mem {α : Type} (f : α → Int → α × Int) (Q : α → Prop) : ∀ (l : List α) (k : Int), (∀ x ∈ l, ∀ k, Q (f x k).1) → ∀ y ∈ (markL f l k).1, Q y
  | [], k, _, y, hy => by simp [markL] at hy
  | x :: l, k, h, y, hy => by
    simp only [markL, List.mem_cons] at hy
    rcases hy with rfl | hy
    · exact h x (by simp) k
    · exact markL_mem f Q l _ (fun z hz => h z (by simp [hz])) y hy
theorem markInts_len (l : List Int) (k : Int) : (markInts l k).1.length = l.length := markL_len _ _ _
theorem markMem0_F (m : Mem) (hm : MemF m) (k : Int) : MemF (markMem0 m k).1 ∧ (markMem0 m k).1.cache = [] := by
  refine ⟨⟨?_, ?_, by simp [markMem0], fun w hw => by simp [markMem0] at hw, ?_⟩, rfl⟩
  · have := markL_len markInts m.secs k
    simp only [markMem0, markIntss, this]; exact hm.secs
  · exact markL_mem markInts (fun s => s.length * 8 ≤ 140737488351232) m.secs k (fun x hx k => by rw [markInts_len]; exact hm.sec x hx)
  · simp only [markMem0, markInts_len]; exact hm.bad
theorem markMems0_F (l : List Mem) (h : ∀ m ∈ l, MemF m) (k : Int) : ∀ m ∈ (markMems0 l k).1, MemF m ∧ m.cache = [] :=
  markL_mem markMem0 (fun m => MemF m ∧ m.cache = []) l k (fun x hx k => markMem0_F x (h x hx) k)
theorem markMems0_len (l : List Mem) (k : Int) : (markMems0 l k).1.length = l.length := markL_len _ _ _
theorem arrNew_dirty (id : Int) (g : Geo) : (arrNew id g).dirty = [] := by unfold arrNew; split <;> rfl
theorem arrNew_mems (id : Int) (g : Geo) : (∀ m ∈ (arrNew id g).mems, MemF m ∧ m.cache = []) ∧ (arrNew id g).mems.length ≤ 5 ∧ wL wMem (arrNew id g).mems ≤ 100 := by
  unfold arrNew
  split
  · rename_i h
    have hg := newOK_g h
    have hid := newOK_i h
    have h1 := geo_n hg
    have h2 := geo_s hg
    have hl : ((List.range g.n.toNat).map (diskNew id g)).length ≤ 5 := by rw [List.length_map, List.length_range]; omega
    have hw : ∀ x ∈ (List.range g.n.toNat).map (diskNew id g), wMem x ≤ 18 := by
      intro x hx
      obtain ⟨i, hi, rfl⟩ := List.mem_map.1 hx
      have hp : (putSuper (sup0 id g i)).length ≤ 9 := by unfold putSuper; split <;> simp
      have e : wL List.length (diskNew id g i).secs = (putSuper (sup0 id g i)).length + g.s.toNat := by
        simp [wL, diskNew, List.map_append, List.sum_append, List.map_replicate, List.sum_replicate_nat]
      simp only [wMem, e]
      show _ + 1 + 0 ≤ 18
      omega
    refine ⟨fun m hm => ?_, hl, ?_⟩
    · obtain ⟨i, hi, rfl⟩ := List.mem_map.1 hm
      have hi' := List.mem_range.1 hi
      exact ⟨diskN_F hg hid i (by omega), rfl⟩
    · have := wL_le wMem 18 _ hw
      show wL wMem ((List.range g.n.toNat).map (diskNew id g)) ≤ 100
      omega
  · exact ⟨fun m hm => by simp [zeroArr] at hm, by simp [zeroArr], by simp [zeroArr, wL]⟩
end Go.Lvm
