/-
  THE PROOF OF 'Rows.LawS930001QABWholeSaid': the shell that was given with the seat, its hole filled: the walk over the Go text; the arithmetic lies in YmwhamBits.
-/
import Derived.Test.YmwhamRows
import Derived.WalkKit
import Derived.ProofKit
import Derived.OpenShut
import Derived.ShutString
import Derived.Test.YmwhamBits
namespace Go.Proofs.Ymwham.lawS930001QABWhole
open Go.ChangeShapes Go.WideShapes Go.ChangeAt Go.RowKit
open Go.ChangeMaps (open_string shut_string)
set_option linter.unusedVariables false      -- a walk need not use every 'w<i>' (that an integer argument fits its kind)

theorem own : ownKnob Yamv.prog.godebug = none := by kernel_rfl

/-! ### STEP 1: THE WALK: the Go text returns true. 'Grown w w'': the world has at most new blocks (Derived/RowKit3.lean). Part the cases AHEAD of 'go_enter' where a test parts the walk; take each callee by a contract of your own. -/
theorem walk (a0 : Int) (w0 : (Lit.int .i64 a0).wf = true) (w : World) :
    Calls Yamv.prog 4 #[.int .i64 a0] w fun e w' => e = .returned (.bool true) ∧ Grown w w' := by
  go_enter Yamv.func4, Yamv.ntmps4
  go_wp2
  · go_ret
    exact ⟨ret_true (zigzag_pos a0 (i64_range w0).2 (by assumption)), Grown.refl _⟩
  · go_ret
    exact ⟨ret_true (zigzag_neg a0 (i64_range w0).1 (by assumption)), Grown.refl _⟩

/-! ### THE ROW's STEP: WRITTEN OUT: LEAVE IT -/
set_option maxRecDepth 100000 in
theorem lifted (os : Os) (started : os.Started) (H : Type) (enc : TypeId × Value → H) :
    ReturnsInHanded {} Yamv.checked os 4 .any (Rows.lawS930001QABWholeSpec.pre6 enc Yamv.prog Yamv.f4 Rows.lawS930001QABWholeRow.domain false) (Rows.lawS930001QABWholeSpec.post enc Yamv.prog Yamv.f4 false true false false) := by
  refine returnsInHanded_of_change (C := Yamv.checked) own started (by kernel_rfl) Yamv.func4
    (ChangeSpec.witness6 (enc := enc) (C := Yamv.checked) false ⟨#[], #[.int .i64 0], []⟩ 8 (by kernel_rfl) (by kernel_rfl) (by kernel_rfl) (by kernel_rfl)) ?_
  intro W base args ds gs before hval0 hW hcnd _
  have hval : ∀ (j : Nat) t v, Yamv.f4.params[j]? = some t → args[j]? = some v → Value.okWide Yamv.prog W .any base t v := hval0
  have hW' := hW
  obtain ⟨p, q, hA0, hV, rfl, hfz, hnd⟩ := hW
  have hA : DataW.TrodAll enc Yamv.prog W 0 (fun _ => true) true Yamv.f4.params.toList args.toList ds p := hA0
  rw [Yamv.params4] at hA hval
  obtain ⟨v0, vs0, d0, ds0, p0, q0, hargs, rfl, rfl, h0, r0⟩ := trodAll_cons hA
  obtain ⟨rfl, rfl, rfl⟩ := trodAll_nil r0
  obtain rfl : args = #[v0] := by cases args; simp_all
  obtain ⟨rfl, rfl⟩ := trodVars_none hV
  obtain ⟨a0, rfl, rfl, rfl, w0⟩ := open_int Yamv.underlying2 (hval 0 2 v0 rfl rfl) h0
  clear hA0 hval0
  simp only [List.append_nil] at hW'
  refine (walk a0 w0 W).mono fun e W' ⟨he, hg⟩ => ?_
  subst he
  exact ⟨_, rfl, post_of_same (pa := []) (pv := []) hW' (fun _ _ _ => (trodAll_cons_mk (shut_bool Yamv.underlying4 _) trodAll_mk0)) (fun sp _ => (trodAll_cons_mk (shut_int Yamv.underlying2 w0) trodAll_mk0)) (fun _ _ => rfl) rfl
    (hg.frame _) hg.2.1 (ok_one (by kernel_rfl) rfl (okWide_bool_mk Yamv.underlying4 _))⟩

theorem over : Rows.lawS930001QABWholeRow.holds Yamv.pinned (OpenSpec.ofChange Rows.lawS930001QABWholeSpec) :=
  OpenClaim.holds_of_wide 4 Yamv.f4 rfl rfl rfl rfl rfl rfl rfl ⟨rfl, rfl, rfl, rfl, rfl⟩ rfl rfl rfl rfl rfl (by kernel_rfl) Yamv.func4 (by kernel_rfl)
    (of_decide_eq_true (by kernel_rfl)) (by unfold Func.isWrapper; first | (rw [if_pos (by decide +kernel)]; kernel_rfl) | (rw [if_neg (by decide +kernel)]; exact ⟨rfl, rfl⟩))
    (fun os started H enc _ => lifted os started H enc)

/-- ████ THE STATEMENT ████ -/
theorem proved : Rows.LawS930001QABWholeSaid :=
  over
end Go.Proofs.Ymwham.lawS930001QABWhole

namespace Go.Proofs.Ymwham
theorem LawS930001QABWhole_proved : Rows.LawS930001QABWholeSaid := lawS930001QABWhole.proved
end Go.Proofs.Ymwham
