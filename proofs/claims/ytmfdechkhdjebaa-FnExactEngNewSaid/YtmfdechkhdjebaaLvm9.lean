/- Lemmas of the by-value machine and of the data that the contracts speak of: each holds under the hypotheses that it states. -/
import Derived.Test.YtmfdechkhdjebaaLvm8
set_option linter.unusedVariables false
set_option linter.unusedSimpArgs false
namespace Go.Lvm
variable {P : Program} {TT : Nat → Ty} {X : Fx} {st st' : St} {o : Oper} {d : Nat}
section
variable {W : World} {Z : Nat → Prop} {z : Nat}
theorem repR_split : ∀ {xs ys : List (List C)} {us : List Value} {bs : List Nat}, repR W Z z (xs ++ ys) us bs → ∃ b1 b2, bs = b1 ++ b2 ∧ repR W Z z xs us b1 ∧ repR W Z z ys (us.drop (xs.length * z)) b2
  | [], ys, us, bs, h => ⟨[], bs, rfl, rfl, by simpa using h⟩
  | x :: xs, ys, us, bs, h => by
    obtain ⟨u1, us', b1, b2, rfl, hl, rfl, h1, h2⟩ := h
    obtain ⟨d1, d2, rfl, h3, h4⟩ := repR_split h2
    refine ⟨b1 ++ d1, d2, by simp, ⟨u1, us', b1, d1, rfl, hl, rfl, h1, h3⟩, ?_⟩
    rw [List.length_cons, Nat.add_mul, Nat.one_mul, show xs.length * z + z = u1.length + xs.length * z by omega, ← List.drop_drop, List.drop_left]
    exact h4
theorem repR_join : ∀ {xs ys : List (List C)} {us : List Value} {b1 b2 : List Nat}, repR W Z z xs us b1 → repR W Z z ys (us.drop (xs.length * z)) b2 → repR W Z z (xs ++ ys) us (b1 ++ b2)
  | [], ys, us, b1, b2, h, h' => by rw [show b1 = [] from h]; simpa using h'
  | x :: xs, ys, us, b1, b2, h, h' => by
    obtain ⟨u1, us', c1, c2, rfl, hl, rfl, h1, h2⟩ := h
    refine ⟨u1, us', c1, c2 ++ b2, rfl, hl, by simp, h1, repR_join h2 ?_⟩
    rw [List.length_cons, Nat.add_mul, Nat.one_mul, show xs.length * z + z = u1.length + xs.length * z by omega, ← List.drop_drop, List.drop_left] at h'
    exact h'
theorem repR_gone : ∀ {xs : List (List C)} {us : List Value} {bs : List Nat}, repR W Z z xs us bs → repR W Z z (xs.map (·.map gone)) us []
  | [], us, bs, h => rfl
  | x :: xs, us, bs, h => by
    obtain ⟨u1, us', c1, c2, rfl, hl, rfl, h1, h2⟩ := h
    exact ⟨u1, us', [], [], rfl, hl, rfl, repL_gone h1, repR_gone h2⟩
def goneIn (lo hi : Nat) (xs : List (List C)) : List (List C) := xs.take lo ++ (((xs.drop lo).take (hi - lo)).map (·.map gone) ++ (xs.drop lo).drop (hi - lo))
theorem goneIn_len (lo hi : Nat) (xs : List (List C)) : (goneIn lo hi xs).length = xs.length := by simp [goneIn]; omega
theorem repR_goneIn {xs : List (List C)} {us : List Value} {bs : List Nat} (lo hi : Nat) (h : repR W Z z xs us bs) (h1 : lo ≤ hi) (h2 : hi ≤ xs.length) :
    ∃ bl be br, bs = bl ++ be ++ br ∧ repR W Z z ((xs.drop lo).take (hi - lo)) (us.drop (lo * z)) be ∧ repR W Z z (goneIn lo hi xs) us (bl ++ br) := by
  have e : xs = xs.take lo ++ ((xs.drop lo).take (hi - lo) ++ (xs.drop lo).drop (hi - lo)) := by rw [List.take_append_drop, List.take_append_drop]
  have h' := h
  rw [e] at h'
  obtain ⟨bl, b2, rfl, k1, k2⟩ := repR_split h'
  obtain ⟨be, br, rfl, k3, k4⟩ := repR_split k2
  have hl : (xs.take lo).length = lo := by simp; omega
  rw [hl] at k2 k3 k4
  refine ⟨bl, be, br, by simp, k3, ?_⟩
  have hl2 : (((xs.drop lo).take (hi - lo)).map (·.map gone)).length = ((xs.drop lo).take (hi - lo)).length := by simp
  have k5 := repR_join (repR_gone k3) (by rw [hl2]; exact k4)
  have k6 := repR_join k1 (by rw [hl]; exact k5)
  have e2 : bl ++ ([] ++ br) = bl ++ br := rfl
  rw [e2] at k6
  exact k6
theorem leR_app : ∀ {a b a' b' : List (List C)}, leR a b → leR a' b' → leR (a ++ a') (b ++ b')
  | [], b, a', b', h, h' => by rw [show b = [] from h]; exact h'
  | x :: a, b, a', b', h, h' => by
    obtain ⟨y, b1, rfl, h1, h2⟩ := h
    exact ⟨y, _, rfl, h1, leR_app h2 h'⟩
theorem leR_gone : ∀ xs : List (List C), leR (xs.map (·.map gone)) xs
  | [] => rfl
  | x :: xs => ⟨x, xs, rfl, leL_gone x, leR_gone xs⟩
theorem leR_goneIn (lo hi : Nat) (xs : List (List C)) : leR (goneIn lo hi xs) xs := by
  have e : xs = xs.take lo ++ ((xs.drop lo).take (hi - lo) ++ (xs.drop lo).drop (hi - lo)) := by rw [List.take_append_drop, List.take_append_drop]
  have := leR_app (leR_refl (xs.take lo)) (leR_app (leR_gone ((xs.drop lo).take (hi - lo))) (leR_refl ((xs.drop lo).drop (hi - lo))))
  rw [← e] at this
  exact this
/-- A place is told as less; its values stay. -/
theorem less_ok (ps : Pth) {cs cs' sub new : List C} {us : List Value} {bs : List Nat} (b p off : Nat) (h : repL W Z cs us bs) (hg : getC cs off ps new.length = some sub) (hs : setC cs off ps new = some cs') (hle : leL new sub) (hnd : bs.Nodup) :
    ∃ b' p' us' b1 b2 b3, rsv W b p us off ps = some (b', p', us') ∧ new.length ≤ us'.length ∧ bs = b1 ++ b2 ++ b3 ∧ repL W Z sub (us'.take new.length) b2 ∧ leL cs' cs ∧
      ∀ nbs, repL W Z new (us'.take new.length) nbs → repL W Z cs' us (b1 ++ nbs ++ b3) := by
  obtain ⟨b', p', us', b1, b2, b3, hr, hl, hb, ⟨sub', hg', hsub⟩, hnil, hcons, hfin⟩ := set_ok ps b p off h hs hnd
  rw [hg] at hg'
  injection hg' with hg'; subst hg'
  refine ⟨b', p', us', b1, b2, b3, hr, hl, hb, hsub, set_le ps off hs hg hle, fun nbs hn => ?_⟩
  have := hfin W Z (us'.take new.length) nbs hn (fun x hx => ⟨hx, rfl⟩) (fun x _ _ => rfl) (fun arr T hps hh => by
    obtain ⟨arr', T', fr', h1, h2⟩ := rsv_blk ps hr hps
    rw [h1] at hh
    injection hh with hh; injection hh with hh1 hh2 hh3
    subst hh1; subst hh2; subst hh3
    rw [h1, lput_same _ _ _ _ h2])
  have e : (if ps = [] then lput us off (us'.take new.length) else us) = us := by
    split
    · rename_i hps; subst hps
      simp only [rsv, Option.some.injEq, Prod.mk.injEq] at hr
      exact lput_same _ _ _ _ hr.2.2.symm
    · rfl
  rw [e] at this
  exact this
end
def St.elems (st : St) (x : Operand) : Option (Nat × List (List C) × St) :=
  match sliceC st x with
  | some (o, z, xs) => if xs.all (·.all isSt) then some (z, xs, st) else if o = false then none else
    match x with
    | .tmp t => match st.env t with
      | .val false [.s true _ _] => some (z, xs, st.put t .dead)
      | .ref r off ps false 1 => match st.cells r with
        | some cs => (setC cs off ps [.s true z (goneIn 0 xs.length xs)]).map fun cs' => (z, xs, st.setRoot r cs')
        | none => none
      | .win r off ps lo hi => match st.cells r with
        | some cs => match getC cs off ps 1 with
          | some [.s true z' xs0] => (setC cs off ps [.s true z' (goneIn lo hi xs0)]).map fun cs' => (z, xs, st.setRoot r cs')
          | _ => none
        | none => none
      | _ => none
    | _ => none
  | none => none
/-- What a slice's value says of memory: its elements' cells can be read. -/
def Reads (w : World) (v : Value) (n : Nat) (us : List Value) : Prop := ∃ A c, v = .slice A n c ∧ n ≤ c ∧ match A with
  | none => n = 0 ∧ us = []
  | some ad => ∀ j u, us[j]? = some u → w.cell? (ad.add j) = some u
theorem repC_reads {W : World} {Z : Nat → Prop} {o : Bool} {z : Nat} {xs : List (List C)} {u : Value} {bs : List Nat} (h : repC W Z (.s o z xs) u bs) :
    ∃ us inn, Reads W u xs.length us ∧ us.length = xs.length * z ∧ repR W Z z xs us inn ∧ (∀ x ∈ inn, x ∈ bs) ∧ (o = true → bs = [] ∨ ∃ b, bs = b :: inn) := by
  obtain ⟨A, c, rfl, hlc, hA⟩ := h
  cases A with
  | none =>
    obtain ⟨h1, h2, rfl⟩ := hA
    have : xs = [] := List.eq_nil_of_length_eq_zero h1
    subst this
    exact ⟨[], [], ⟨none, c, rfl, by simp, rfl, rfl⟩, by simp, rfl, by simp, fun _ => .inl rfl⟩
  | some ad =>
    rcases hA with ⟨ho, hx, rfl⟩ | ⟨arr, T, fr, inn, g1, g2, g3, g4, g5⟩
    · have : xs = [] := List.eq_nil_of_length_eq_zero hx
      subst this
      exact ⟨[], [], ⟨some ad, c, rfl, by simp, fun j u hj => by simp at hj⟩, by simp, rfl, by simp, fun h => by rw [ho] at h; cases h⟩
    · have hfl := repR_flat g5
      refine ⟨(arr.toList.drop ad.off).take (xs.length * z), inn, ⟨some ad, c, rfl, hlc, fun j u hj => ?_⟩, by simp at hfl ⊢; omega, by simpa using repR_pre [] g5, fun x hx => ?_, fun ho => .inr ⟨ad.block, (g3 ho).2.1⟩⟩
      · obtain ⟨b, o1, sp⟩ := ad
        simp only at g2; subst g2
        rw [List.getElem?_take] at hj
        split at hj
        · rw [List.getElem?_drop] at hj
          rw [add_none]
          simpa [World.cell?, g1] using hj
        · cases hj
      · cases o with
        | true => rw [(g3 rfl).2.1]; simp [hx]
        | false => rw [(g4 rfl).2.2] at hx; cases hx

theorem winV_all {W : World} {Z : Nat → Prop} {o : Bool} {z : Nat} {xs : List (List C)} (u : Value) {bs : List Nat} (h : repC W Z (.s o z xs) u bs) : xs = (xs.drop 0).take (xs.length - 0) ∧ (xs ≠ [] → winV z 0 xs.length u = u) := by
  refine ⟨by simp, fun hne => ?_⟩
  obtain ⟨A, c, rfl, hlc, hA⟩ := h
  have h0 : 0 < xs.length := List.length_pos_iff.2 hne
  have hc : 0 ≠ c := by omega
  cases A with
  | none => simp only at hA; omega
  | some ad =>
    rcases hA with hA | ⟨arr, T, fr, inn, g1, g2, g3, g4, g5⟩
    · omega
    · obtain ⟨b, p, sp⟩ := ad
      simp only at g2; subst g2
      simp [winV, add_none, hc]
theorem elems_fin {w : World} {a : Act} {g : Gh} (h : Conc X st w a g) {i : Nat} (hi : g.bl (.hand i) = []) {r : Rt} {cs cs' : List C} {pre bs c1 c2 c3 : List Nat} {z : Nat} {xs : List (List C)} {u : Value} {x : Operand}
    (hc : st.cells r = some cs) (hle : leL cs' cs) (hbl : g.bl r = pre ++ bs) (hbs : bs = c1 ++ c2 ++ c3) (hnd : bs.Nodup) (hvar : ∀ t, r = .var t → pre = [g.ad t]) (hslot : ∀ t, r = .slot t → pre = []) (hhand : ∀ i, r ≠ .hand i)
    (hrep : repC w (Z0 X.w0 X.F) (.s true z xs) u c2) (lo hi' : Nat) (k1 : lo ≤ hi') (k2 : hi' ≤ xs.length) (hne : (xs.drop lo).take (hi' - lo) ≠ [])
    (hfin : ∀ nbs, repC w (Z0 X.w0 X.F) (.s true z (goneIn lo hi' xs)) u nbs → repL w (Z0 X.w0 X.F) cs' (g.us r) (c1 ++ nbs ++ c3)) (hev : a.eval x = winV z lo hi' u) :
    ∃ g' us, Conc X (st.setRoot r cs') w a g' ∧ Reads w (a.eval x) ((xs.drop lo).take (hi' - lo)).length us ∧ us.length = ((xs.drop lo).take (hi' - lo)).length * z ∧ repR w (Z0 X.w0 X.F) z ((xs.drop lo).take (hi' - lo)) us (g'.bl (.hand i)) ∧ (∀ j, j ≠ i → g'.bl (.hand j) = g.bl (.hand j)) := by
  obtain ⟨bs', hw, _⟩ := repC_win hrep k1 k2
  obtain ⟨A, c, rfl, hlc, hA⟩ := hrep
  have hlen : ((xs.drop lo).take (hi' - lo)).length = hi' - lo := by simp; omega
  have hpos : 0 < hi' - lo := by rw [← hlen]; exact List.length_pos_iff.2 hne
  cases A with
  | none => exfalso; simp only at hA; omega
  | some ad =>
    rcases hA with hA | ⟨arr, T, fr, inn, g1, g2, g3, g4, g5⟩
    · exfalso; simp at hA
    · obtain ⟨rfl, rfl, hcap⟩ := g3 rfl
      obtain ⟨bl, be, br, rfl, m1, m2⟩ := repR_goneIn lo hi' g5 k1 k2
      have hlc' : lo ≠ c := by omega
      obtain ⟨b, p, sp⟩ := ad
      simp only at g2; subst g2
      have hnew : repC w (Z0 X.w0 X.F) (.s true z (goneIn lo hi' xs)) (.slice (some ⟨b, p, none⟩) xs.length c) (b :: (bl ++ br)) :=
        ⟨some ⟨b, p, none⟩, c, by rw [goneIn_len], by rw [goneIn_len]; exact hlc, .inr ⟨arr, T, (0, 0), bl ++ br, g1, rfl, fun _ => ⟨rfl, rfl, hcap⟩, (fun h => Bool.noConfusion h), m2⟩⟩
      have hndall := h.own.nd r
      rw [hbl, hbs] at hndall
      have hown := Own.give h.own h.keeps.size (r := r) (i := i) (l := pre ++ (c1 ++ (b :: (bl ++ br)) ++ c3)) (b := be) (hhand i) (by
          have hp : ((pre ++ (c1 ++ (b :: (bl ++ br)) ++ c3)) ++ be).Perm (pre ++ (c1 ++ (b :: (bl ++ be ++ br)) ++ c3)) := by
            rw [List.perm_iff_count]
            intro y
            simp only [List.count_append, List.count_cons]
            omega
          exact hp.nodup_iff.2 hndall) (fun x hx => by rw [hbl, hbs]; simp at hx ⊢; grind)
      have hfl := repR_flat m1
      refine ⟨_, ((arr.toList.drop p).drop (lo * z)).take (((xs.drop lo).take (hi' - lo)).length * z), h.less hc hle (hfin _ hnew) hvar hslot (g.give r (pre ++ (c1 ++ (b :: (bl ++ br)) ++ c3)) i be) (fun r' hr1 hr2 => by simp [Gh.give, hr2, hr1 i]) (by simp [Gh.give]) hown, ?_, ?_, ?_, fun j hj => ?_⟩
      · rw [hev, hlen]
        refine ⟨some ⟨b, p + lo * z, none⟩, c - lo, by simp only [winV, if_neg hlc', Option.map_some, add_none], by omega, fun j u hj => ?_⟩
        rw [List.getElem?_take] at hj
        split at hj
        · rw [List.drop_drop, List.getElem?_drop] at hj
          rw [add_none]
          simpa [World.cell?, g1] using hj
        · cases hj
      · rw [List.length_take, Nat.min_eq_left hfl]
      · have : ¬ (Rt.hand i = r) := fun e => hhand i e.symm
        have e : ({ g with bl := g.give r (pre ++ (c1 ++ (b :: (bl ++ br)) ++ c3)) i be } : Gh).bl (.hand i) = be := by simp [Gh.give, this]
        rw [e]
        simpa using repR_pre [] m1
      · have : ¬ (Rt.hand j = r) := fun e => hhand j e.symm
        simp [Gh.give, this, hj]
theorem elems_conc {w : World} {a : Act} {g : Gh} (h : Conc X st w a g) {x : Operand} {z : Nat} {xs : List (List C)} (hx : st.elems x = some (z, xs, st')) (i : Nat) (hi : g.bl (.hand i) = []) (hn : ∀ t, x = .tmp t → t < X.n) :
    ∃ g' us, Conc X st' w a g' ∧ Reads w (a.eval x) xs.length us ∧ us.length = xs.length * z ∧ repR w (Z0 X.w0 X.F) z xs us (g'.bl (.hand i)) ∧ (∀ j, j ≠ i → g'.bl (.hand j) = g.bl (.hand j)) := by
  unfold St.elems at hx
  cases hsc : sliceC st x with
  | none => rw [hsc] at hx; cases hx
  | some q =>
    obtain ⟨oo, z0, xs0⟩ := q
    rw [hsc] at hx
    simp only at hx
    obtain ⟨bs, hrep⟩ := sliceC_ok h hsc
    by_cases hst : xs0.all (·.all isSt) = true
    · rw [if_pos hst] at hx
      simp only [Option.some.injEq, Prod.mk.injEq] at hx
      obtain ⟨rfl, rfl, rfl⟩ := hx
      obtain ⟨us, inn, h1, h2, h3, h4, h5⟩ := repC_reads hrep
      have := repR_st h3 hst
      subst this
      exact ⟨g, us, h, h1, h2, by rw [hi]; exact h3, fun _ _ => rfl⟩
    · rw [if_neg hst] at hx
      have hxne : xs0 ≠ [] := by rintro rfl; simp at hst
      cases oo with
      | false => simp at hx
      | true =>
      rw [if_neg (by simp)] at hx
      cases x with
      | tmp t =>
        have henv := h.env t
        simp only at hx
        cases he : st.env t with
        | val gg cs =>
          rw [he] at hx henv
          split at hx
          · rename_i z1 xs1 heq
            simp only [L.val.injEq] at heq
            obtain ⟨rfl, rfl⟩ := heq
            simp only [Option.some.injEq, Prod.mk.injEq] at hx
            obtain ⟨rfl, rfl, rfl⟩ := hx
            simp only [sliceC, he, Option.some.injEq, Prod.mk.injEq] at hsc
            obtain ⟨_, rfl, rfl⟩ := hsc
            obtain ⟨q1, q2, q3⟩ := henv
            obtain ⟨uv, huv, q4⟩ := repL_single.1 q3
            have hev : a.eval (.tmp t) = uv := by rw [huv] at q1; exact q1
            obtain ⟨us, inn, h1, h2, h3, h4, h5⟩ := repC_reads q4
            have hnd := h.own.nd (.slot t)
            have hown := Own.give h.own h.keeps.size (r := .slot t) (i := i) (l := []) (b := inn) (by simp) (by
              rcases h5 rfl with e | ⟨b, e⟩
              · have : inn = [] := List.eq_nil_iff_forall_not_mem.2 fun x hx => by have := h4 x hx; rw [e] at this; cases this
                rw [this]; exact List.nodup_nil
              · rw [e] at hnd; exact (List.nodup_cons.1 hnd).2) (fun x hx => h4 x (by simpa using hx))
            have := h.put (hn t rfl) .dead (a.tmps.getD t undef) (.inr rfl) (g.us (.slot t)) (g.give (.slot t) [] i inn) (fun r hr hr' => by simp [Gh.give, hr', hr i]) hown trivial
            rw [put_self h.tmps (hn t rfl)] at this
            exact ⟨_, us, this, by rw [hev]; exact h1, h2, by simpa [Gh.put, Gh.give] using h3, fun j hj => by simp [Gh.put, Gh.give, hj]⟩
          · rename_i heq; cases heq
          · rename_i heq; cases heq
          · cases hx
        | ref r off ps gg k =>
          rw [he] at hx henv
          split at hx
          · rename_i heq; cases heq
          · rename_i r1 off1 ps1 heq
            simp only [L.ref.injEq] at heq
            obtain ⟨rfl, rfl, rfl, rfl, rfl⟩ := heq
            split at hx
            · rename_i cs hc
              obtain ⟨cs', hs, heq⟩ := Option.map_eq_some_iff.1 hx
              simp only [Prod.mk.injEq] at heq
              obtain ⟨rfl, rfl, rfl⟩ := heq
              have hg : getC cs off ps 1 = some [.s true z0 xs0] := by
                simp only [sliceC, he, hc] at hsc
                split at hsc
                · rename_i o1 z1 xs1 hg
                  simp only [Option.some.injEq, Prod.mk.injEq] at hsc
                  obtain ⟨rfl, rfl, rfl⟩ := hsc
                  exact hg
                · cases hsc
              obtain ⟨b, p, us', e1, e2⟩ := henv.2 cs hc (by rw [hg]; simp)
              obtain ⟨pre, bs1, hbl, hrep1, hnd, hvar, hslot, hhand⟩ := h.cells_root hc
              obtain ⟨b4, p4, us4, c1, c2, c3, hr4, hk4, hbs4, hsub4, hle, hfin⟩ := less_ok (new := [.s true z0 (goneIn 0 xs0.length xs0)]) ps (g.at_ r).1 (g.at_ r).2 off hrep1 hg hs ⟨_, [], rfl, ⟨xs0, rfl, leR_goneIn 0 xs0.length xs0⟩, rfl⟩ hnd
              unfold Gh.rsv at e1
              rw [hr4] at e1
              simp only [Option.some.injEq, Prod.mk.injEq] at e1
              obtain ⟨rfl, rfl, rfl⟩ := e1
              simp only [List.length_singleton] at hsub4 hfin
              obtain ⟨uv, huv, q4⟩ := repL_single.1 hsub4
              rw [huv] at e2 hfin
              obtain ⟨w1, w2⟩ := winV_all _ q4
              have := elems_fin (i := i) (x := .tmp t) h hi hc hle hbl hbs4 hnd hvar hslot hhand q4 0 xs0.length (Nat.zero_le _) (Nat.le_refl _) (by rw [← w1]; exact hxne) (fun nbs hn => hfin nbs (repL_single.2 ⟨_, rfl, hn⟩)) (by rw [w2 hxne]; exact e2)
              rw [← w1] at this
              exact this
            · cases hx
          · rename_i heq; cases heq
          · cases hx
        | win r off ps lo hi' =>
          rw [he] at hx henv
          simp only at hx
          · split at hx
            · rename_i cs hc
              split at hx
              · rename_i z1 xs1 hg
                obtain ⟨cs', hs, heq⟩ := Option.map_eq_some_iff.1 hx
                simp only [Prod.mk.injEq] at heq
                obtain ⟨rfl, rfl, rfl⟩ := heq
                simp only [sliceC, he, hc, hg, Option.some.injEq, Prod.mk.injEq] at hsc
                obtain ⟨_, rfl, rfl⟩ := hsc
                obtain ⟨k1, k2, b, p, u, us', e1, e2⟩ := henv cs _ _ _ hc hg
                obtain ⟨pre, bs1, hbl, hrep1, hnd, hvar, hslot, hhand⟩ := h.cells_root hc
                obtain ⟨b4, p4, us4, c1, c2, c3, hr4, hk4, hbs4, hsub4, hle, hfin⟩ := less_ok (new := [.s true z1 (goneIn lo hi' xs1)]) ps (g.at_ r).1 (g.at_ r).2 off hrep1 hg hs ⟨_, [], rfl, ⟨xs1, rfl, leR_goneIn lo hi' xs1⟩, rfl⟩ hnd
                unfold Gh.rsv at e1
                rw [hr4] at e1
                simp only [Option.some.injEq, Prod.mk.injEq] at e1
                obtain ⟨rfl, rfl, rfl⟩ := e1
                simp only [List.length_singleton, List.take_succ_cons, List.take_zero] at hsub4 hfin
                obtain ⟨uv, huv, q4⟩ := repL_single.1 hsub4
                simp only [List.cons.injEq, and_true] at huv
                subst huv
                exact elems_fin (i := i) (x := .tmp t) h hi hc hle hbl hbs4 hnd hvar hslot hhand q4 lo hi' k1 k2 hxne (fun nbs hn => hfin nbs (repL_single.2 ⟨_, rfl, hn⟩)) e2
              · cases hx
            · cases hx
        | dead => rw [he] at hx; cases hx
        | ptr r off ps => rw [he] at hx; cases hx
        | sptr c i z off => rw [he] at hx; cases hx
        | tup ls => rw [he] at hx; cases hx
      | _ => cases hx
end Go.Lvm
