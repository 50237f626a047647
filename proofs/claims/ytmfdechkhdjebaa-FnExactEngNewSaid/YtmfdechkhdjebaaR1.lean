/- The given statement: the law answers true for every input, proved with no hypothesis of its own. -/
import Derived.Test.YtmfdechkhdjebaaRows
import Derived.Test.YtmfdechkhdjebaaA17
import Derived.WalkKit
import Derived.ProofKit
import Derived.OpenShut
import Derived.ShutString
import Derived.ChangeOld
import Derived.Below
import Derived.SizedLaws
import Derived.Lib.SmallJoins
set_option linter.unusedVariables false
set_option linter.unusedSimpArgs false
namespace Go.Proofs.Ytm
open Go.Lvm Go.Proofs
theorem walk (id n s : Int) (w : World) : Calls Try.prog 3 #[.int .i64 id, .agg #[.int .i64 n, .int .i64 s]] w fun e w' => e = .returned (.bool true) ∧ Go.RowKit.Below w.heap.size w w' := by
  have h := (FnExactEngNew_spec id ⟨n, s⟩).2 w [{ v := .int .i64 id, us := [.int .i64 id] }, { v := .agg #[.int .i64 n, .int .i64 s], us := [.int .i64 n, .int .i64 s] }] rfl
    (fun i a q e1 e2 => by
      cases i with
      | zero =>
        simp only [List.getElem?_cons_zero, Option.some.injEq] at e1 e2
        subst e1; subst e2
        exact ⟨rfl, fun _ => rfl, repL_single.2 ⟨_, rfl, rfl, rfl, rfl⟩, rfl⟩
      | succ i => cases i with
        | zero =>
          simp only [List.getElem?_cons_succ, List.getElem?_cons_zero, Option.some.injEq] at e1 e2
          subst e1; subst e2
          refine ⟨rfl, (fun h => by cases h), ?_, rfl⟩
          exact ⟨_, _, [], [], rfl, rfl, ⟨rfl, rfl, rfl⟩, _, _, [], [], rfl, rfl, ⟨rfl, rfl, rfl⟩, rfl, rfl⟩
        | succ i => simp at e1)
    (by
      have hz : ∀ i, ([[], []] : List (List Nat)).getD i [] = [] := fun i => by rcases i with _ | _ | i <;> simp
      refine ⟨fun i => ?_, fun i j b hb _ => ?_, fun i b hb => ?_⟩
      · show (([[], []] : List (List Nat)).getD i []).Nodup
        rw [hz]; exact List.nodup_nil
      · have hb' : b ∈ ([[], []] : List (List Nat)).getD i [] := hb
        rw [hz] at hb'; cases hb'
      · have hb' : b ∈ ([[], []] : List (List Nat)).getD i [] := hb
        rw [hz] at hb'; cases hb') (fun x c h => by cases h)
  refine h.mono ?_
  rintro e w' ⟨vs, rb, os, rfl, hk, ht, _⟩
  obtain ⟨us, vs', b1, b2, rfl, _, _, hr, rfl, _⟩ := ht
  obtain ⟨u, rfl, rfl, _, _⟩ := repL_single.1 hr
  exact ⟨rfl, hk.os, hk.tape, hk.output, hk.size, fun k hk' => hk.block k hk' (by simp [foot])⟩
end Go.Proofs.Ytm
namespace Go.Proofs.Ytmfdechkhdjebaa.fnExactEngNew
open Go.ChangeShapes Go.WideShapes Go.ChangeAt Go.RowKit Go.Joins
theorem own : ownKnob Try.prog.godebug = none := by kernel_rfl
set_option maxRecDepth 100000 in
theorem lifted (os : Os) (started : os.Started) (H : Type) (enc : TypeId × Value → H) :
    ReturnsInHanded {} Try.checked os 3 .any (Rows.fnExactEngNewSpec.pre6 enc Try.prog Try.f3 Rows.fnExactEngNewRow.domain false) (Rows.fnExactEngNewSpec.post enc Try.prog Try.f3 false true false false) := by
  refine returnsInHanded_of_change_sized (C := Try.checked) own started (by kernel_rfl) Try.func3
    (ChangeSpec.witness6 (enc := enc) (C := Try.checked) false ⟨#[], #[.int .i64 0, .agg #[.int .i64 0, .int .i64 0]], []⟩ 8 (by kernel_rfl) (by kernel_rfl) (by kernel_rfl) (by kernel_rfl)) ?_
  intro W base args ds gs before hval0 hW hcnd hsz0 _
  have hval : ∀ (j : Nat) t v, Try.f3.params[j]? = some t → args[j]? = some v → Value.okWide Try.prog W .any base t v := hval0
  have hW' := hW
  obtain ⟨p, q, hA0, hV, rfl, hfz, hnd⟩ := hW
  have hA : DataW.TrodAll enc Try.prog W 0 (fun _ => true) true Try.f3.params.toList args.toList ds p := hA0
  rw [Try.params3] at hA hval
  obtain ⟨v0, vs0, d0, ds0, p0, q0, hargs, rfl, rfl, h0, r0⟩ := trodAll_cons hA
  obtain ⟨v1, vs1, d1, ds1, p1, q1, rfl, rfl, rfl, h1, r1⟩ := trodAll_cons r0
  obtain ⟨rfl, rfl, rfl⟩ := trodAll_nil r1
  obtain rfl : args = #[v0, v1] := by cases args; simp_all
  obtain ⟨rfl, rfl⟩ := trodVars_none hV
  obtain ⟨a0, rfl, rfl, rfl, w0⟩ := open_int Try.underlying3 (hval 0 3 v0 rfl rfl) h0
  obtain ⟨x0, x1, y0, y1, m, rfl, rfl, rfl, k0, k1⟩ := open_agg2 Try.underlying23 (by kernel_rfl) (by kernel_rfl) (hval 1 23 v1 rfl rfl) h1
  obtain ⟨n0, e0, rfl, u0⟩ := DataW.trod_int Try.underlying3 k0
  obtain ⟨n1, e1, rfl, u1⟩ := DataW.trod_int Try.underlying3 k1
  simp only [List.cons.injEq, and_true] at e0 e1
  subst e0; subst e1
  clear hA0 hval0 hsz0
  refine (Go.Proofs.Ytm.walk a0 n0 n1 W).mono fun e W' ⟨he, bel⟩ => ?_
  subst he
  exact ⟨_, rfl, _, _, _, [], _, [], hW', trodAll_mk1 (shut_bool Try.underlying4 _), (trodAll_cons_mk (shut_int Try.underlying3 w0) (trodAll_cons_mk (shut_agg2 Try.underlying23 (by kernel_rfl) (by kernel_rfl) (shut_int Try.underlying3 u0) (shut_int Try.underlying3 u1)) trodAll_mk0)), rfl, bel.frame _, fun h => by cases h⟩
theorem over : Rows.fnExactEngNewRow.holds Try.pinned (OpenSpec.ofChange Rows.fnExactEngNewSpec) :=
  OpenClaim.holds_of_wide 3 Try.f3 rfl rfl rfl rfl rfl rfl rfl ⟨rfl, rfl, rfl, rfl, rfl⟩ rfl rfl rfl rfl rfl (by kernel_rfl) Try.func3 (by kernel_rfl)
    (of_decide_eq_true (by kernel_rfl)) (by unfold Func.isWrapper; first | (rw [if_pos (by decide +kernel)]; kernel_rfl) | (rw [if_neg (by decide +kernel)]; exact ⟨rfl, rfl⟩))
    (fun os started H enc _ => lifted os started H enc)
theorem proved : Rows.FnExactEngNewSaid := over

end Go.Proofs.Ytmfdechkhdjebaa.fnExactEngNew
namespace Go.Proofs.Ytmfdechkhdjebaa
/-- FnExactEngNew: true for every input; the input reads as it did. -/
theorem fnExactEngNew_holds : Rows.FnExactEngNewSaid := fnExactEngNew.proved
end Go.Proofs.Ytmfdechkhdjebaa
