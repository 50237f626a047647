/- Lemmas of the by-value machine and of the data that the contracts speak of: each holds under the hypotheses that it states. -/
import Derived.Test.YtmfdechkhdjebaaLvm9
import Derived.Laws.Append
set_option linter.unusedVariables false
set_option linter.unusedSimpArgs false
namespace Go.Lvm
variable {P : Program} {TT : Nat → Ty} {X : Fx} {st st' : St} {o : Oper} {d : Nat}
theorem run_firstCells {w : World} {v : Value} {n z : Nat} {us : List Value} (h : Reads w v n us) (hl : us.length = n * z) : (Builtin.firstCells z n v).run P w = .ok us.toArray w := by
  obtain ⟨A, c, rfl, hlc, hA⟩ := h
  cases A with
  | none =>
    obtain ⟨rfl, rfl⟩ := hA
    rfl
  | some ad =>
    exact run_firstCells_some w z n ad _ c us hl hA
theorem Reads.drew {w : World} {v : Value} {n : Nat} {us : List Value} (h : Reads w v n us) : Reads w.drew v n us := h
/-- append, in place. -/
theorem run_append_in {t t2 e e2 : TypeId} {T : Ty} (hu : P.underlying t = some (.slice e)) (hu2 : P.underlying t2 = some (.slice e2)) (hT : TyOK P e T) {w : World} {ad : Addr} {n m c : Nat} {v : Value} {us : List Value} {arr : Array Value} {E : TypeId}
    (hs : ad.spot = none) (hb : w.heap[ad.block]? = some (.cells arr E (0, 0))) (hfit : ad.off + c * T.size ≤ arr.size) (hr : Reads w v m us) (hl : us.length = m * T.size) (h1 : ∀ u ∈ us, u.oneCell' = true) (hc : n + m ≤ c) (ty : TypeId) :
    (Builtin.append_ #[t, t2] ty #[.slice (some ad) n c, v]).run P w = .ok (.slice (some ad) (n + m) c) (w.setRow ad.block (lput arr.toList (ad.off + n * T.size) us).toArray) := by
  obtain ⟨i, z, hi, hsz, _⟩ := hT.info
  have hf := run_firstCells (P := P) hr hl
  obtain ⟨A, c2, rfl, hlc, hA⟩ := hr
  obtain ⟨b, p, sp⟩ := ad
  simp only at hs; subst hs
  have hle : n * T.size + m * T.size ≤ c * T.size := by rw [← Nat.add_mul]; exact Nat.mul_le_mul_right _ hc
  have hst := run_storeCells_at P b (p + n * T.size) E us 0 arr w hb (by simp only at hfit; omega) h1
  simp only [Nat.add_zero] at hst
  simp [Builtin.append_, run_underlying hu, run_underlying hu2, sizeOf, typeInfo, hi, hsz, Builtin.lenOf, hc, hf, add_none, hst, lput]
/-- append, into new memory. -/
theorem run_append_new {t t2 e e2 : TypeId} {T : Ty} (hu : P.underlying t = some (.slice e)) (hu2 : P.underlying t2 = some (.slice e2)) (hT : TyOK P e T) (hzl : T.zero.length = T.size) {w : World} {n m c : Nat} {s v : Value} {us vs : List Value}
    (hrs : Reads w s n vs) (hs : ∃ A, s = .slice A n c) (hlv : vs.length = n * T.size) (hr : Reads w v m us) (hl : us.length = m * T.size) (hc : c < n + m) (hsz2 : (n + m) * T.bytes ≤ 140737488355328) (h63 : (n + m : Int) ≤ 9223372036854775807) (ty : TypeId) :
    ∃ rest nc, n + m ≤ nc ∧ rest.length = (nc - (n + m)) * T.size ∧ (Builtin.append_ #[t, t2] ty #[s, v]).run P w = .ok (.slice (some ⟨w.heap.size, 0, none⟩) (n + m) nc) (w.drew.alloc (.cells (vs ++ us ++ rest).toArray e)) := by
  obtain ⟨i, z, hi, hsz, hby, hz, hzo, _⟩ := hT.info
  have hf1 := run_firstCells (P := P) hrs.drew hlv
  have hf2 := run_firstCells (P := P) hr.drew hl
  obtain ⟨A, rfl⟩ := hs
  obtain ⟨A2, c2, rfl, hlc, hA⟩ := hr
  have hz1 : z.cells.size = T.size := by rw [← Array.length_toList, repL_len (zeroOf_rep (W := w) (Z := fun _ => True) hzo), hzl]
  have hfits := growslice_fits hc hsz2
  have hcut : ∀ tp, n + m ≤ (Question.appendCap (n + m) c e).cut tp := fun tp => by simp [Question.cut]
  have hforced : (Question.appendCap (n + m) c e).forced = false := rfl
  let nc := (Question.appendCap (n + m) c e).cut (w.tape w.drawn (.appendCap (n + m) c e))
  refine ⟨(Builtin.zeroCells z.cells (nc - (n + m))).toList, nc, hcut _, ?_, ?_⟩
  · simp [Builtin.zeroCells, hz1]
  · have hn1 : ¬ (n + m ≤ c) := by omega
    have hn2 : ¬ (281474976710656 < Builtin.nextslicecap (n + m) c * i.bytes) := by rw [hby]; omega
    have h48 : (2 : Nat) ^ 48 = 281474976710656 := by decide
    have hmax : ¬ (9223372036854775807 < (n : Int) + m) := by omega
    have e1 : (vs ++ us ++ (Builtin.zeroCells z.cells (nc - (n + m))).toList).toArray = vs.toArray ++ us.toArray ++ Builtin.zeroCells z.cells (nc - (n + m)) := by
      apply Array.ext'; simp
    rw [e1]
    simp [Builtin.append_, run_underlying hu, run_underlying hu2, sizeOf, typeInfo, hi, hsz, Builtin.lenOf, hn1, hn2, hf1, hf2, h48, hforced, max64, hmax, zeroValue, hz, newRow, nc]
    congr 2
    apply Array.ext'
    simp

/-- Of what two hands hold the first keeps some. -/
theorem Conc.hold {w : World} {a : Act} {g : Gh} (h : Conc X st w a g) (l : List Nat) (hnd : l.Nodup) (hs : ∀ x ∈ l, x ∈ g.bl (.hand 0) ∨ x ∈ g.bl (.hand 1)) :
    ∃ g', Conc X st w a g' ∧ g'.bl (.hand 0) = l ∧ g'.bl (.hand 1) = [] ∧ ∀ j, j ≠ 0 → j ≠ 1 → g'.bl (.hand j) = g.bl (.hand j) := by
  let bl : Rt → List Nat := fun r => if r = .hand 0 then l else if r = .hand 1 then [] else g.bl r
  have hown : Own X.F X.w0.heap.size w.heap.size bl := by
    refine Own.step h.own (Nat.le_refl _) h.keeps.size (.hand 0) (fun r => ?_) (fun r b hr hb => ?_) (fun b hb => ?_)
    · simp only [bl]
      split
      · exact hnd
      · split
        · exact List.nodup_nil
        · exact h.own.nd r
    · simp only [bl, if_neg hr] at hb
      split at hb
      · cases hb
      · exact hb
    · simp only [bl, if_true] at hb
      rcases hs b hb with hb | hb
      · exact .inl hb
      · exact .inr (.inl ⟨.hand 1, hb, by simp [bl]⟩)
  refine ⟨{ g with bl := bl }, ⟨h.keeps, h.tmps, h.defers, fun t cs hc => ?_, fun t => ?_, hown⟩, by simp [bl], by simp [bl], fun j h0 h1 => by simp [bl, h0, h1]⟩
  · have := h.var t cs hc
    simpa [bl] using this
  · refine LOK.turn (h.env t) ⟨fun _ _ _ => ⟨rfl, by simp [bl]⟩, fun _ _ => by simp [bl]⟩ fun r _ => ⟨rfl, rfl, by cases r <;> rfl⟩
/-- A slice in new memory, its elements told row by row. -/
theorem fresh_rows {w : World} {a : Act} {g : Gh} (h : Conc X st w a g) (hlt : X.ok d) {us : List Value} {T : TypeId} {z n m : Nat} {rows : List (List C)} (hr : repR w (Z0 X.w0 X.F) z rows us (g.bl (.hand 0))) (hj : ∀ j, j ≠ 0 → g.bl (.hand j) = [])
    (hn : rows.length = n) (hnm : n ≤ m) (hl : m * z ≤ us.length) : R X (st.put d (.val false [.s true z rows])) (w.alloc (.cells us.toArray T)) (a.put (some d) (.slice (some ⟨w.heap.size, 0, none⟩) n m)) := by
  have hkw : Keeps X.F X.w0 (w.alloc (.cells us.toArray T)) := h.keeps.trans (Keeps.alloc X.F w _) (fun x hx => .inl hx)
  have hlt2 : ∀ r, ∀ b ∈ g.bl r, b < w.heap.size := fun r b hb => (h.own.ok r b hb).2
  have hsame : ∀ b, b < w.heap.size → (w.alloc (.cells us.toArray T)).heap[b]? = w.heap[b]? := fun b hb => Go.RowKit.Below.heap_alloc _ _ _ hb
  have h2 := h.world hkw (by simp) (fun r _ b hb => hsame b (hlt2 r b hb))
  have hz : ∀ x, Z0 X.w0 X.F x → Z0 X.w0 X.F x ∧ (w.alloc (.cells us.toArray T)).heap[x]? = w.heap[x]? := fun x hx => ⟨hx, hsame x (Nat.lt_of_lt_of_le hx.1 h.keeps.size)⟩
  let bl : Rt → List Nat := fun r => if r = .hand 0 then w.heap.size :: g.bl (.hand 0) else g.bl r
  have hown : Own X.F X.w0.heap.size (w.heap.size + 1) bl := by
    refine Own.step h.own (by omega) h.keeps.size (.hand 0) (fun r => ?_) (fun r b hr hb => ?_) (fun b hb => ?_)
    · simp only [bl]
      split
      · exact List.nodup_cons.2 ⟨fun hm => by have := hlt2 _ _ hm; omega, h.own.nd _⟩
      · exact h.own.nd r
    · simpa only [bl, if_neg hr] using hb
    · simp only [bl, if_true] at hb
      rcases List.mem_cons.1 hb with rfl | hb
      · exact .inr (.inr ⟨Nat.le_refl _, by omega⟩)
      · exact .inl hb
  have h3 : Conc X st (w.alloc (.cells us.toArray T)) a { g with bl := bl } := by
    refine ⟨hkw, h.tmps, h.defers, fun t cs hc => ?_, fun t => ?_, by simpa using hown⟩
    · have := h2.var t cs hc
      simpa [bl] using this
    · refine LOK.turn (h2.env t) ⟨fun _ _ _ => ⟨rfl, by simp [bl]⟩, fun _ _ => by simp [bl]⟩ fun r _ => ⟨rfl, rfl, by cases r <;> rfl⟩
  refine lift0 (gg := false) (us := [.slice (some ⟨w.heap.size, 0, none⟩) n m]) h3 hlt (fun _ => rfl) ?_ (fun j hj' => by simp [bl, hj', hj j hj'])
  rw [repL_single]
  refine ⟨_, rfl, some ⟨w.heap.size, 0, none⟩, m, by rw [hn], by omega, .inr ⟨us.toArray, T, (0, 0), g.bl (.hand 0), alloc_new w _, rfl, fun _ => ⟨rfl, by simp [bl], by simpa using hl⟩, (fun h => Bool.noConfusion h), ?_⟩⟩
  have := repR_frame z rows hr (fun b hb => hsame b (hlt2 _ b hb)) hz
  simpa using this
/-- Bound for what is appended to: bytes. -/
theorem append_does {t t2 ty : TypeId} {e e2 z0 : Nat} {s x : Operand} {xs ys : List (List C)} {st1 st2 : St} (ho : o.op = .call { callee := .builtin .append, args := #[s, x], argTypes := #[t, t2] }) (hT : TyOK P t (TT t)) (he : (TT t).elem = some e) (hT2 : TyOK P t2 (TT t2)) (he2 : (TT t2).elem = some e2)
    (hTe : TyOK P e (TT e)) (hzl : (TT e).zero.length = (TT e).size) (hd : o.dst = some d) (hlt : X.ok d) (hs : st.grab (TT e).size s = some (false, [.s true (TT e).size xs], st1)) (hx : st1.elems x = some ((TT e).size, ys, st2))
    (hns : ∀ t, s = .tmp t → t < X.n) (hnx : ∀ t, x = .tmp t → t < X.n) (hsz : (xs.length + ys.length) * (TT e).bytes ≤ 140737488355328) (hsz2 : xs.length + ys.length ≤ 140737488355328) :
    Does P X o st (st2.put d (.val false [.s true (TT e).size (xs ++ ys)])) := by
  intro w a ⟨g, h, hh⟩
  left
  obtain ⟨g1, us0, h1, hv, hg, hr, hj, _, _⟩ := grab_conc h hs 0 (hh 0) hns
  obtain ⟨g2, us, h2, hrd, hul, hr2, hj2⟩ := elems_conc h1 hx 1 (by rw [hj 1 (by decide)]; exact hh 1) hnx
  have hb0 : g2.bl (.hand 0) = g1.bl (.hand 0) := hj2 0 (by decide)
  have hrest : ∀ j, j ≠ 0 → j ≠ 1 → g2.bl (.hand j) = [] := fun j h0 h1 => by rw [hj2 j h1, hj j h0]; exact hh j
  obtain ⟨sv, rfl, hrc⟩ := repL_single.1 hr
  have hsv : a.eval s = sv := hv
  have hu := hT.elem e he
  have hu2 := hT2.elem e2 he2
  have h1us : ∀ u ∈ us, u.oneCell' = true := by
    have := repR_one hr2
    rwa [← hul, List.take_length] at this
  have hexec : ∀ q w', (Builtin.append_ #[t, t2] o.type #[sv, a.eval x]).run P w = .ok q w' → (execOp a.eval o).run P w = .ok (.value q) w' := by
    intro q w' hq
    simp [execOp, ho, resolve, invoke, builtin, hsv, hq]
  have hrc0 := hrc
  obtain ⟨A, c, rfl, hlc, hA⟩ := hrc
  have hdis : ∀ y, y ∈ g2.bl (.hand 1) → y ∉ g2.bl (.hand 0) := fun y hy hm => by
    have := h2.own.dj _ _ _ hm hy
    simp at this
  have hlt2 : ∀ r, ∀ b ∈ g2.bl r, b < w.heap.size := fun r b hb => (h2.own.ok r b hb).2
  by_cases hc : xs.length + ys.length ≤ c
  · cases A with
    | none =>
      -- nothing there, nothing comes
      obtain ⟨k1, k2, k3⟩ := hA
      have hx0 : xs = [] := List.eq_nil_of_length_eq_zero k1
      have hy0 : ys = [] := List.eq_nil_of_length_eq_zero (by omega)
      subst hx0; subst hy0; subst k2
      have hrun : (Builtin.append_ #[t, t2] o.type #[.slice none 0 0, a.eval x]).run P w = .ok (.slice none 0 0) w := by
        obtain ⟨i, z, hi, hsz', _⟩ := hTe.info
        have hf := run_firstCells (P := P) hrd hul
        obtain ⟨A2, c2, hv2, _⟩ := hrd
        rw [hv2] at hf ⊢
        simp at hf
        simp [Builtin.append_, run_underlying hu, run_underlying hu2, sizeOf, typeInfo, hi, Builtin.lenOf, hsz', hf]
      refine ⟨_, w, hexec _ _ hrun, ?_⟩
      rw [hd]
      have he1 : g2.bl (.hand 1) = [] := hr2
      refine lift0 (gg := false) (us := [.slice none 0 0]) h2 hlt (fun _ => rfl) ?_ (fun j hj0 => ?_)
      · rw [repL_single]
        exact ⟨_, rfl, none, 0, rfl, by simp, by simp, rfl, by rw [hb0]; exact k3⟩
      · by_cases hj1 : j = 1
        · subst hj1; exact he1
        · exact hrest j hj0 hj1
    | some ad =>
      rcases hA with hA | ⟨arr, T, fr, inn, g1', g2', g3', g4', g5'⟩
      · simp at hA
      · obtain ⟨rfl, hbl, hcap⟩ := g3' rfl
        have hrun := run_append_in hu hu2 hTe g2' g1' hcap hrd hul h1us hc o.type
        refine ⟨_, _, hexec _ _ hrun, ?_⟩
        rw [hd]
        let w' := w.setRow ad.block (lput arr.toList (ad.off + xs.length * (TT e).size) us).toArray
        have hbin : ad.block ∈ g2.bl (.hand 0) := by rw [hb0, hbl]; simp
        have hsame : ∀ b, b ≠ ad.block → w'.heap[b]? = w.heap[b]? := fun b hb => setRow_other w ad.block b _ hb
        have hk : Keeps X.F X.w0 w' := h2.keeps.setRow _ _ (h2.own.ok _ _ hbin).1
        have hne0 : ∀ r, r ≠ .hand 0 → ∀ b ∈ g2.bl r, b ≠ ad.block := fun r hr b hb e => hr (h2.own.dj _ _ _ hb (e ▸ hbin))
        have hbz : ¬ Z0 X.w0 X.F ad.block := fun hz => by
          rcases (h2.own.ok _ _ hbin).1 with h1 | h1
          · exact hz.2 h1
          · have := hz.1; omega
        have hz : ∀ x, Z0 X.w0 X.F x → Z0 X.w0 X.F x ∧ w'.heap[x]? = w.heap[x]? := fun x hx => ⟨hx, hsame x (fun e => hbz (e ▸ hx))⟩
        have h3 := h2.world hk (by simp [w']) (fun r hr b hb => hsame b (hne0 r (hr 0) b hb))
        have hnd := h2.own.nd (.hand 0)
        rw [hb0, hbl] at hnd
        have hinn : ad.block ∉ inn := (List.nodup_cons.1 hnd).1
        have hfl := repR_flat g5'
        have hcap2 : xs.length * (TT e).size + ys.length * (TT e).size ≤ c * (TT e).size := by rw [← Nat.add_mul]; exact Nat.mul_le_mul_right _ hc
        have hoff : ad.off ≤ arr.toList.length := by simp; omega
        have hrow : repR w' (Z0 X.w0 X.F) (TT e).size (xs ++ ys) ((lput arr.toList (ad.off + xs.length * (TT e).size) us).drop ad.off) (inn ++ g2.bl (.hand 1)) := by
          have a1 := repR_frame (TT e).size xs g5' (fun b hb => hsame b (fun e => hinn (e ▸ hb))) hz
          have a2 := repR_frame (TT e).size ys hr2 (fun b hb => hsame b (hne0 (.hand 1) (by simp) b hb)) hz
          have a3 := repR_pre (us ++ arr.toList.drop (ad.off + xs.length * (TT e).size + us.length)) a1
          have e1 : (lput arr.toList (ad.off + xs.length * (TT e).size) us).drop ad.off = (arr.toList.drop ad.off).take (xs.length * (TT e).size) ++ (us ++ arr.toList.drop (ad.off + xs.length * (TT e).size + us.length)) := by
            unfold lput
            rw [List.append_assoc, List.drop_append_of_le_length (by simp; omega), List.take_add, List.drop_append_of_le_length (by simp; omega), List.drop_of_length_le (by rw [List.length_take]; exact Nat.min_le_left _ _), List.nil_append]
          rw [e1]
          have a4 : repR w' (Z0 X.w0 X.F) (TT e).size ys (us ++ arr.toList.drop (ad.off + xs.length * (TT e).size + us.length)) (g2.bl (.hand 1)) := by
            have := repR_pre (arr.toList.drop (ad.off + xs.length * (TT e).size + us.length)) a2
            rwa [← hul, List.take_length] at this
          have a5 := repR_pre [] a1
          rw [List.append_nil] at a5
          exact repR_app a5 (by simp at hfl ⊢; omega) a4
        obtain ⟨g4, h4, f0, f1, f2⟩ := h3.merge (b1 := ad.block :: inn) (b2 := []) (b3 := []) (by rw [hb0, hbl]; simp)
        refine lift0 (gg := false) (us := [.slice (some ad) (xs.length + ys.length) c]) h4 hlt (fun _ => rfl) ?_ (fun j hj0 => ?_)
        · rw [repL_single]
          refine ⟨_, rfl, some ad, c, by simp, by simpa using hc, .inr ⟨_, T, (0, 0), inn ++ g2.bl (.hand 1), setRow_heap w ad.block arr _ T (0, 0) g1', g2', fun _ => ⟨rfl, by rw [f0]; simp, ?_⟩, (fun h => Bool.noConfusion h), ?_⟩⟩
          · have := lput_len arr.toList (ad.off + xs.length * (TT e).size) us (by simp; omega)
            simp only [List.size_toArray, this, Array.length_toList]
            exact hcap
          · simpa using hrow
        · by_cases hj1 : j = 1
          · subst hj1; exact f1
          · rw [f2 j hj0 hj1]; exact hrest j hj0 hj1
  · obtain ⟨vs, inn, q1, q2, q3, q4, q5⟩ := repC_reads hrc0
    obtain ⟨rest, nc, r1, r2, hrun⟩ := run_append_new hu hu2 hTe hzl q1 ⟨A, rfl⟩ q2 hrd hul (by omega) hsz (by omega) o.type
    refine ⟨_, _, hexec _ _ hrun, ?_⟩
    rw [hd]
    have hkd : Keeps X.F X.w0 w.drew := h2.keeps.trans (Keeps.drew X.F w) (fun x hx => .inl hx)
    have h3 := h2.world (w' := w.drew) hkd (Nat.le_refl _) (fun r hr b hb => rfl)
    have hinn : inn.Nodup ∧ ∀ y ∈ inn, y ∈ g2.bl (.hand 0) := by
      have hnd := h2.own.nd (.hand 0)
      rw [hb0] at hnd ⊢
      refine ⟨?_, q4⟩
      rcases q5 rfl with e1 | ⟨b, e1⟩
      · have : inn = [] := List.eq_nil_iff_forall_not_mem.2 fun y hy => by have := q4 y hy; rw [e1] at this; cases this
        rw [this]; exact List.nodup_nil
      · rw [e1] at hnd; exact (List.nodup_cons.1 hnd).2
    obtain ⟨g4, h4, f0, f1, f2⟩ := h3.hold (inn ++ g2.bl (.hand 1)) (by
      rw [List.nodup_append]
      refine ⟨hinn.1, h2.own.nd _, fun y hy y' hy' e => ?_⟩
      subst e
      exact hdis y hy' (hinn.2 y hy)) (fun y hy => by
      rcases List.mem_append.1 hy with hy | hy
      · exact .inl (hinn.2 y hy)
      · exact .inr hy)
    have a1 := repR_frame (W' := w.drew) (Z' := Z0 X.w0 X.F) (TT e).size xs q3 (fun b hb => rfl) (fun x hx => ⟨hx, rfl⟩)
    have a2 := repR_frame (W' := w.drew) (Z' := Z0 X.w0 X.F) (TT e).size ys hr2 (fun b hb => rfl) (fun x hx => ⟨hx, rfl⟩)
    have a3 := repR_pre rest (repR_app a1 q2 a2)
    have hlen : (xs ++ ys).length * (TT e).size = (vs ++ us).length := by simp [q2, hul, Nat.add_mul]
    rw [hlen, List.take_length] at a3
    have hl2 : nc * (TT e).size ≤ (vs ++ us ++ rest).length := by
      simp only [List.length_append, q2, hul, r2]
      rw [← Nat.add_mul, ← Nat.add_mul]
      exact Nat.mul_le_mul_right _ (by omega)
    exact fresh_rows h4 hlt (by rw [f0]; exact a3) (fun j hj0 => by
      by_cases hj1 : j = 1
      · subst hj1; exact f1
      · rw [f2 j hj0 hj1]; exact hrest j hj0 hj1) (by simp) r1 hl2
end Go.Lvm
