/- 'netlablaw31.ScanExamples' returns true, always. -/
import Derived.Test.YtnejoceplinjpaaB5
import Derived.Test.YtnejoceplinjpaaRows
import Derived.ProofKit
import Derived.SizedLaws
set_option linter.unusedSimpArgs false
set_option linter.unusedVariables false
namespace Go.Ab.S1
open Go.Proofs
open Go.ChangeShapes Go.WideShapes Go.ChangeAt Go.RowKit
theorem law0 {g : FuncId} {W : World} (hc : ∀ h, ACall Try.prog g [] h (fun r _ => r = .bool true)) :
    Calls Try.prog g #[] W fun e W' => e = .returned (.bool true) ∧ Below W.heap.size W W' := by
  have hcall := (hc _).2 _ #[] W (LR.nil _) (HR.empty W)
  refine hcall.mono ?_
  rintro e W' ⟨ρ', v, v', h', rfl, rfl, hv, _, hf⟩
  have : v' = .bool true := plain_only 9 _ _ rfl hv
  subst this
  refine ⟨rfl, hf.side.os, hf.side.tape, hf.side.output, hf.size, fun b hb => hf.rest b hb ?_⟩
  rintro ⟨A, o, r, ha, hown, _⟩
  cases ha
end Go.Ab.S1
namespace Go.Proofs.Ytnejoceplinjpaa.ScanExamplesProof
open Go.ChangeShapes Go.WideShapes Go.ChangeAt Go.RowKit
open Go.Ab Go.Ab.S1

theorem own : ownKnob Try.prog.godebug = none := by kernel_rfl

set_option maxRecDepth 100000 in
theorem lifted (os : Os) (started : os.Started) (H : Type) (enc : TypeId × Value → H) :
    ReturnsInHanded {} Try.checked os 6 .any (Rows.scanExamplesSpec.pre6 enc Try.prog Try.f6 Rows.scanExamplesRow.domain false) (Rows.scanExamplesSpec.post enc Try.prog Try.f6 false true false false) := by
  refine returnsInHanded_of_change_sized (C := Try.checked) own started (by kernel_rfl) Try.func6
    (ChangeSpec.witness6 (enc := enc) (C := Try.checked) false ⟨#[], #[], []⟩ 8 (by kernel_rfl) (by kernel_rfl) (by kernel_rfl) (by kernel_rfl)) ?_
  intro W base args ds gs before hval0 hW hcnd hwt _
  have hW' := hW
  obtain ⟨p, q, hA0, hV, rfl, hfz, hnd⟩ := hW
  have hA : DataW.TrodAll enc Try.prog W 0 (fun _ => true) true Try.f6.params.toList args.toList ds p := hA0
  rw [Try.params6] at hA
  obtain ⟨rfl, rfl, rfl⟩ := trodAll_none hA
  obtain ⟨rfl, rfl⟩ := trodVars_none hV
  have hcall := law0 (g := 6) (W := W) (fun h => scanExamples awake h)
  refine hcall.mono fun e W' ⟨he, hbelow⟩ => ?_
  subst he
  refine ⟨_, rfl, ?_⟩
  exact ⟨[], [], [], [], [], [], hW', trodAll_mk1 (shut_bool Try.underlying4 true), trodAll_mk0, rfl, hbelow.frame _, fun h => by cases h⟩

end Go.Proofs.Ytnejoceplinjpaa.ScanExamplesProof
namespace Go.Proofs.Ytnejoceplinjpaa
open Go.Proofs.Ytnejoceplinjpaa.ScanExamplesProof

theorem scanExamples_holds : Rows.ScanExamplesSaid :=
  OpenClaim.holds_of_wide 6 Try.f6 rfl rfl rfl rfl rfl rfl rfl ⟨rfl, rfl, rfl, rfl, rfl⟩ rfl rfl rfl rfl rfl (by kernel_rfl) Try.func6 (by kernel_rfl)
    (of_decide_eq_true (by kernel_rfl)) (by unfold Func.isWrapper; first | (rw [if_pos (by decide +kernel)]; kernel_rfl) | (rw [if_neg (by decide +kernel)]; exact ⟨rfl, rfl⟩))
    (fun os started H enc _ => lifted os started H enc)

end Go.Proofs.Ytnejoceplinjpaa
