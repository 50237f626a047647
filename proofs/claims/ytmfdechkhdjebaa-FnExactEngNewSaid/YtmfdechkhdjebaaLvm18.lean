/- Lemmas of the by-value machine and of the data that the contracts speak of: each holds under the hypotheses that it states. -/
import Derived.Test.YtmfdechkhdjebaaLvm17
set_option linter.unusedVariables false
set_option linter.unusedSimpArgs false
namespace Go.Lvm
variable {P : Program} {TT : Nat → Ty} {X : Fx} {E : Ev} {st st' : St} {o : Oper} {d : Nat}
theorem viewP_ok {l : L} (h : viewP st d l = some st') : l.base ≠ some (.slot d) ∧ st' = st.put d l := by
  unfold viewP at h
  split at h
  · cases h
  · rename_i hb; exact ⟨hb, (Option.some.inj h).symm⟩
theorem scal_ok {v : Option Value} (h : scal st d v = some st') : ∃ u, v = some u ∧ st' = st.put d (.val false [.v u]) := by
  obtain ⟨u, hu, e⟩ := Option.map_eq_some_iff.1 h
  exact ⟨u, hu, e.symm⟩
theorem Ev.src_ok {x : Operand} (hE : E.ok X) (h : E.src x = true) : ∀ t, x = .tmp t → t < X.n := by
  rintro t rfl
  rw [hE.1]; simpa [Ev.src] using h
theorem moveF_ok {z : Nat} {x : Operand} (ho : o.op = .move x ∨ o.op = .assign x) (hd : o.dst = some d) (hlt : X.ok d) (h : moveF st d z x = some st') : Does P X o st st' := by
  unfold moveF at h
  split at h
  · injection h with h; subst h
    exact nil_does (v := undef) (by rcases ho with ho | ho <;> simp [ho]) hd hlt
  · obtain ⟨l, h1, h2⟩ := Option.bind_eq_some_iff.1 h
    obtain ⟨hb, rfl⟩ := viewP_ok h2
    exact move_does ho hd hlt h1 hb
theorem assignF_ok (hE : E.ok X) {z : Nat} {x : Operand} (ho : o.op = .assign x) (hd : o.dst = some d) (hlt : X.ok d) (h : assignF E st d z x = some st') : Does P X o st st' := by
  unfold assignF at h
  split at h
  · rename_i t
    split at h
    · rename_i gg cs he
      split at h
      · rename_i hst
        injection h with h; subst h
        have hv : viewL st (.tmp t) = some (.val gg cs) := by simp [viewL, he, hst]
        exact move_does (.inr ho) hd hlt hv (by simp [L.base])
      · rename_i hst
        split at h
        · rename_i hn
          injection h with h; subst h
          exact assign_does (.inl ho) hd hlt (by rw [hE.1]; exact hn) (by simp [St.take, he, hst])
        · cases h
    · exact moveF_ok (.inr ho) hd hlt h
  · exact moveF_ok (.inr ho) hd hlt h
theorem binS_ok (hT : Tab P TT) {op : BinOp} {t t' : Nat} {x y : Operand} {v : Value} (ho : o.op = .binOp op t x y t') (hd : o.dst = some d) (hlt : X.ok d) (h : binS TT st op t x y = some v) : Does P X o st (st.put d (.val false [.v v])) := by
  unfold binS at h
  split at h
  · rename_i p q hx hy
    split at h
    · rename_i hok
      simp only [Bool.and_eq_true] at hok
      obtain ⟨hT1, _⟩ := hT t hok.1
      split at h
      · injection h with h; subst h
        exact boolEq_does (neg := false) ho hT1 hok.2 hd hlt hx hy
      · injection h with h; subst h
        exact boolEq_does (neg := true) ho hT1 hok.2 hd hlt hx hy
      · cases h
    · cases h
  · rename_i vx vy hn hx hy
    exact binOp_does ho hd hlt hx hy h
  · cases h
theorem bndF_ok {low : Option Operand} {n lo : Nat} (h : bndF st n low = some lo) : (low = none ∧ lo = n) ∨ ∃ q k, low = some q ∧ opv st q = some (.int k lo) := by
  unfold bndF at h
  split at h
  · injection h with h; exact .inl ⟨rfl, h.symm⟩
  · rename_i q
    split at h
    · rename_i m he
      injection h with h; subst h
      refine .inr ⟨q, ?_⟩
      unfold intOf at he
      split at he
      · rename_i k j hv
        injection he with he
        subst he
        exact ⟨k, rfl, hv⟩
      · cases he
    · cases h
theorem lenS_ok (hT : Tab P TT) {t : Nat} {x : Operand} {v : Value} (ho : o.op = .call { callee := .builtin .len, args := #[x], argTypes := #[t] }) (hd : o.dst = some d) (hlt : X.ok d) (h : lenS TT st t x = some v) : Does P X o st (st.put d (.val false [.v v])) := by
  unfold lenS at h
  split at h
  · rename_i hok
    obtain ⟨hT1, _⟩ := hT t hok
    split at h
    · rename_i e he
      obtain ⟨q, hq, e⟩ := Option.map_eq_some_iff.1 h
      obtain ⟨oo, z, xs⟩ := q
      subst e
      exact len_does (ty := o.type) ho hT1 he hd hlt hq
    · split at h
      · rename_i hs
        split at h
        · rename_i s hv
          injection h with h; subst h
          exact lens_does (ty := o.type) ho hT1 hs hd hlt hv
        · cases h
      · cases h
  · cases h
theorem call_eta {c : Call} {b : Builtin} (hc : c.callee = .builtin b) (h1 : c.args.size = 1 ∧ c.argTypes.size = 1) : c = { callee := .builtin b, args := #[c.args[0]'(by omega)], argTypes := #[c.argTypes[0]'(by omega)] } := by
  obtain ⟨ce, ar, at'⟩ := c
  simp only at hc h1 ⊢
  subst hc
  congr
  · apply Array.ext
    · simp [h1.1]
    · intro i hi hi2
      have : i = 0 := by omega
      subst this; simp
  · apply Array.ext
    · simp [h1.2]
    · intro i hi hi2
      have : i = 0 := by omega
      subst this; simp
theorem call_eta2 {c : Call} {b : Builtin} (hc : c.callee = .builtin b) (h1 : c.args.size = 2 ∧ c.argTypes.size = 2) : c = { callee := .builtin b, args := #[c.args[0]'(by omega), c.args[1]'(by omega)], argTypes := #[c.argTypes[0]'(by omega), c.argTypes[1]'(by omega)] } := by
  obtain ⟨ce, ar, at'⟩ := c
  simp only at hc h1 ⊢
  subst hc
  congr
  · apply Array.ext
    · simp [h1.1]
    · intro i hi hi2
      rcases (show i = 0 ∨ i = 1 by omega) with rfl | rfl <;> simp
  · apply Array.ext
    · simp [h1.2]
    · intro i hi hi2
      rcases (show i = 0 ∨ i = 1 by omega) with rfl | rfl <;> simp
theorem intOf_ok {v : Option Value} {j : Int} (h : intOf v = some j) : ∃ k, v = some (.int k j) := by
  unfold intOf at h
  split at h
  · rename_i k j'; injection h with h; subst h; exact ⟨k, rfl⟩
  · cases h
theorem appF_ok (hT : Tab P TT) (hE : E.ok X) {t t2 e : Nat} {s x : Operand} {xs : List (List C)} {st2 : St} (ho : o.op = .call { callee := .builtin .append, args := #[s, x], argTypes := #[t, t2] }) (hd : o.dst = some d) (hlt : X.ok d)
    (h : appF TT E st t t2 s x = some (e, xs, st2)) (hok : appOK TT e xs.length) : Does P X o st (st2.put d (.val false [.s true (TT e).size xs])) := by
  unfold appF at h
  split at h
  · rename_i e1 e2 he he2
    split at h
    · rename_i hb
      simp only [Bool.and_eq_true] at hb
      obtain ⟨⟨⟨⟨b1, b2⟩, b3⟩, b4⟩, b5⟩ := hb
      split at h
      · rename_i z xs0 st1 hg
        split at h
        · rename_i hz
          subst hz
          split at h
          · rename_i z' ys st3 hx
            split at h
            · rename_i hc
              subst hc
              simp only [Option.some.injEq, Prod.mk.injEq] at h
              obtain ⟨rfl, rfl, rfl⟩ := h
              rw [List.length_append] at hok
              refine append_does (ty := 0) (z0 := 0) ho (hT t b1).1 he (hT t2 b2).1 he2 (hT _ b3).1 (hT _ b3).2.1 hd hlt hg hx (Ev.src_ok hE b4) (Ev.src_ok hE b5) hok.1 hok.2
            · cases h
          · cases h
        · cases h
      · cases h
    · cases h
  · cases h
theorem dstF_ok (hT : Tab P TT) (hE : E.ok X) (hd : o.dst = some d) (hlt : X.ok d) (h : dstF TT E st o d = some st') : Does P X o st st' := by
  unfold dstF at h
  split at h
  · rename_i x ho; exact moveF_ok (.inl ho) hd hlt h
  · rename_i x ho; exact assignF_ok hE ho hd hlt h
  · rename_i c x y ho
    obtain ⟨u, hu, rfl⟩ := scal_ok h
    unfold pickF at hu
    split at hu
    · rename_i b hb; exact pick_does ho hd hlt hb hu
    · cases hu
  · rename_i op t x y t' ho
    obtain ⟨u, hu, rfl⟩ := scal_ok h
    exact binS_ok hT ho hd hlt hu
  · rename_i op t x ho
    obtain ⟨u, hu, rfl⟩ := scal_ok h
    unfold unS at hu
    split at hu
    · rename_i b hb; injection hu with hu; subst hu; exact unOp_does (op := .not) ho hd hlt hb
    · rename_i k m hb; injection hu with hu; subst hu; exact neg_does ho hd hlt hb
    · cases hu
  · rename_i s t x ho
    obtain ⟨u, hu, rfl⟩ := scal_ok h
    unfold convS at hu
    split at hu
    · rename_i hb
      simp only [Bool.and_eq_true] at hb
      split at hu
      · rename_i k' k k2 m h1 h2 h3
        split at hu
        · rename_i e; subst e
          injection hu with hu; subst hu
          exact conv_does ho (hT s hb.1).1 (hT t hb.2).1 h2 h1 hd hlt h3
        · cases hu
      · cases hu
    · cases hu
  · rename_i t x ho
    split at h
    · rename_i hok
      obtain ⟨l, h1, h2⟩ := Option.bind_eq_some_iff.1 h
      obtain ⟨hb, rfl⟩ := viewP_ok h2
      exact load_does (st' := st) ho (hT t hok).1 hd hlt (hT t hok).2.2 h1 hb
    · cases h
  · rename_i s t k ho
    split at h
    · rename_i hok
      simp only [Bool.and_eq_true] at hok
      split at h
      · rename_i f hf
        obtain ⟨l, h1, h2⟩ := Option.bind_eq_some_iff.1 h
        obtain ⟨hb, rfl⟩ := viewP_ok h2
        exact field_does ho (hT s hok.1).1 hok.2 hf h1 hd hlt hb
      · cases h
    · cases h
  · rename_i t x ix ho
    split at h
    · rename_i e j he hj
      split at h
      · rename_i hok
        simp only [Bool.and_eq_true] at hok
        split at h
        · rename_i h0
          obtain ⟨k, hk⟩ := intOf_ok hj
          obtain ⟨l, h1, h2⟩ := Option.bind_eq_some_iff.1 h
          obtain ⟨hb, rfl⟩ := viewP_ok h2
          exact index_does ho (hT t hok.1).1 he (hT e hok.2).1 hk h0 h1 hd hlt hb
        · cases h
      · cases h
    · cases h
  · rename_i t ho
    split at h
    · rename_i r off ps he
      split at h
      · rename_i cs hc
        split at h
        · rename_i sub hg
          split at h
          · cases h
          · rename_i hb
            injection h with h; subst h
            exact nilCheck_does (x := .tmp t) ho he hc (by rw [hg]; simp) hd hlt hb
        · cases h
      · cases h
    · cases h
  · rename_i t ho
    split at h
    · rename_i hok
      simp only [Bool.and_eq_true, decide_eq_true_eq] at hok
      injection h with h; subst h
      exact alloc_does ho (hT t hok.1).1 hd hlt (hE.2.2 d hok.2)
    · cases h
  · rename_i t x ho
    split at h
    · rename_i hok
      simp only [Bool.and_eq_true, decide_eq_true_eq] at hok
      split at h
      · rename_i gg cs st1 hg
        injection h with h; subst h
        exact box_does ho hd hlt (hE.2.2 d hok.1) hg (Ev.src_ok hE hok.2)
      · cases h
    · cases h
  · rename_i t parts ho
    split at h
    · rename_i hok
      simp only [Bool.and_eq_true, List.all_eq_true, decide_eq_true_eq] at hok
      obtain ⟨⟨b1, b2⟩, b3⟩ := hok
      split at h
      · rename_i cs st1 hp
        injection h with h; subst h
        exact build_does ho (hT t b1).1 b2 hd hlt hp (fun q hq => ⟨(b3 q hq).1, Ev.src_ok hE (b3 q hq).2⟩)
      · cases h
    · cases h
  · rename_i t len parts ho
    split at h
    · rename_i e he
      split at h
      · rename_i hok
        simp only [Bool.and_eq_true, List.all_eq_true, decide_eq_true_eq] at hok
        obtain ⟨⟨⟨b1, b2⟩, b3⟩, b4⟩ := hok
        split at h
        · rename_i cs st1 hp
          injection h with h; subst h
          exact buildSlice_does ho (hT t b1).1 he (hT e b2).1 (hT e b2).2.1 hd hlt b3 hp (fun q hq => Ev.src_ok hE (b4 q hq))
        · cases h
      · cases h
    · cases h
  · rename_i t x y ho
    split at h
    · rename_i e k n k' n' he hx hy
      split at h
      · rename_i hok
        simp only [Bool.and_eq_true] at hok
        split at h
        · rename_i hc
          obtain ⟨rfl, rfl, h0, h1, h2⟩ := hc
          injection h with h; subst h
          exact makeSlice_does ho (hT t hok.1).1 he (hT e hok.2).1 (hT e hok.2).2.1 hd hlt hx hy h0 h1 h2
        · cases h
      · cases h
    · cases h
  · rename_i t x low high ho
    split at h
    · rename_i e oo z xs he hx
      split at h
      · rename_i hok
        simp only [Bool.and_eq_true] at hok
        split at h
        · rename_i lo hi hlo hhi
          split at h
          · rename_i hc
            obtain ⟨rfl, h1, h2⟩ := hc
            obtain ⟨l, h3, h4⟩ := Option.bind_eq_some_iff.1 h
            obtain ⟨hb, rfl⟩ := viewP_ok h4
            refine slice_does ho (hT t hok.1).1 he (hT e hok.2).1 hd hlt hx ?_ ?_ h1 h2 h3 hb
            · rcases bndF_ok hlo with ⟨e1, e2⟩ | ⟨q, k, e1, e2⟩
              · exact .inl ⟨e1, e2⟩
              · exact .inr ⟨q, k, e1, e2⟩
            · rcases bndF_ok hhi with ⟨e1, e2⟩ | ⟨q, k, e1, e2⟩
              · exact .inl ⟨e1, e2⟩
              · exact .inr ⟨q, k, e1, e2⟩
          · cases h
        · cases h
      · cases h
    · cases h
  · rename_i t i ho
    split at h
    · rename_i ls he
      split at h
      · rename_i gg cs hi
        split at h
        · rename_i ht
          injection h with h; subst h
          exact extract_does ho he hi (by rw [hE.1]; exact ht) hd hlt
        · cases h
      · cases h
    · cases h
  · rename_i c ho
    split at h
    · rename_i hc
      split at h
      · rename_i h1
        obtain ⟨u, hu, rfl⟩ := scal_ok h
        exact lenS_ok hT (by rw [ho]; exact congrArg Op.call (call_eta hc h1)) hd hlt hu
      · cases h
    · rename_i hc
      split at h
      · rename_i h1
        split at h
        · rename_i e xs st1 ha
          split at h
          · rename_i hok
            injection h with h; subst h
            exact appF_ok hT hE (by rw [ho]; exact congrArg Op.call (call_eta2 hc h1)) hd hlt ha hok
          · cases h
        · cases h
      · cases h
    · cases h
  · cases h
theorem stepF_ok (hT : Tab P TT) (hE : E.ok X) (h : stepF TT E st o = some st') : Step P X o st st' := by
  refine Does.step ?_
  unfold stepF at h
  split at h
  · rename_i hd
    unfold stF at h
    split at h
    · rename_i t p x ho
      split at h
      · rename_i hok
        simp only [Bool.and_eq_true] at hok
        split at h
        · rename_i gg cs st1 hg
          split at h
          · rename_i hl
            split at h
            · rename_i r off ps he
              split at h
              · rename_i c0 hc
                split at h
                · rename_i c1 hs
                  injection h with h; subst h
                  exact store_does ho hd (hT t hok.1).1 hg (Ev.src_ok hE hok.2) hl he hc hs
                · cases h
              · cases h
            · cases h
          · cases h
        · cases h
      · cases h
    · cases h
  · rename_i d hd
    split at h
    · rename_i hdd
      simp only [Ev.dst, Bool.and_eq_true, decide_eq_true_eq, Bool.not_eq_true'] at hdd
      exact dstF_ok hT hE hd (hE.2.1 d hdd.1 hdd.2) h
    · cases h
end Go.Lvm
