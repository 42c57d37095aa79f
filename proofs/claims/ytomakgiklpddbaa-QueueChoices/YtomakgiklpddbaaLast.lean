/- 'netlablaw16.QueueChoices' returns true for every input; each argument reads behind the call as it read before. -/
import Derived.Test.YtomakgiklpddbaaB4
import Derived.Test.YtomakgiklpddbaaRows
import Derived.ProofKit
import Derived.SizedLaws
set_option linter.unusedSimpArgs false
set_option linter.unusedVariables false
namespace Go.Proofs.Ytomakgiklpddbaa.QueueChoicesProof
open Go.ChangeShapes Go.WideShapes Go.ChangeAt Go.RowKit
open Go.Ab Go.Ab.Q

theorem own : ownKnob Try.prog.godebug = none := by kernel_rfl
theorem laidOut : laidOutB Try.prog = true := by kernel_rfl

set_option maxRecDepth 100000 in
theorem lifted (os : Os) (started : os.Started) (H : Type) (enc : TypeId × Value → H) :
    ReturnsInHanded {} Try.checked os 5 .any (Rows.queueChoicesSpec.pre6 enc Try.prog Try.f5 Rows.queueChoicesRow.domain false) (Rows.queueChoicesSpec.post enc Try.prog Try.f5 false true false false) := by
  refine returnsInHanded_of_change_sized (C := Try.checked) own started (by kernel_rfl) Try.func5
    (ChangeSpec.witness6 (enc := enc) (C := Try.checked) false ⟨#[], #[.slice none 0 0, .slice none 0 0, .slice none 0 0, .int .u32 0], []⟩ 8 (by kernel_rfl) (by kernel_rfl) (by kernel_rfl) (by kernel_rfl)) ?_
  intro W base args ds gs before hval0 hW hcnd hwt _
  have hval : ∀ (j : Nat) t v, Try.f5.params[j]? = some t → args[j]? = some v → Value.okWide Try.prog W .any base t v := hval0
  have hW' := hW
  obtain ⟨p, q, hA0, hV, rfl, hfz, hnd⟩ := hW
  have hA : DataW.TrodAll enc Try.prog W 0 (fun _ => true) true Try.f5.params.toList args.toList ds p := hA0
  rw [Try.params5] at hA hval
  obtain ⟨v0, v1, v2, v3, d0, d1, d2, d3, p0, p1, p2, p3, rfl, rfl, rfl, h0, h1, h2, h3⟩ := trodAll_four hA
  obtain ⟨rfl, rfl⟩ := trodVars_none hV
  have hwt' : ∀ n ∈ DataW.weightsEach Try.prog [47, 47, 47, 48] [d0, d1, d2, d3], n ≤ reachBytes := fun n hn => by
    have := List.all_eq_true.1 hwt n hn
    exact of_decide_eq_true this
  obtain ⟨l0, hU0⟩ := openInts (slWide Try.underlying47 (hval 0 47 v0 rfl rfl)) h0 (fun m hm => hwt' m (mem_weightsEach (i := 0) (t := 47) (d := d0) rfl rfl hm))
  obtain ⟨l1, hU1⟩ := openInts (slWide Try.underlying47 (hval 1 47 v1 rfl rfl)) h1 (fun m hm => hwt' m (mem_weightsEach (i := 1) (t := 47) (d := d1) rfl rfl hm))
  obtain ⟨l2, hU2⟩ := openInts (slWide Try.underlying47 (hval 2 47 v2 rfl rfl)) h2 (fun m hm => hwt' m (mem_weightsEach (i := 2) (t := 47) (d := d2) rfl rfl hm))
  obtain ⟨x, rfl, hx⟩ := intWideR Try.underlying48 (hval 3 48 v3 rfl rfl)
  have hxT : 0 ≤ x ∧ x < 4294967296 := ⟨hx.1, by have h2 : x ≤ 4294967295 := hx.2; omega⟩
  have hcall := lawC4 (g := 5) (x := x) hU0 hU1 hU2 (fun h a b c s1 s2 s3 => qchN s1 s2 s3 hxT)
  refine hcall.mono fun e W' ⟨he, hbelow⟩ => ?_
  subst he
  rw [show p0 ++ p1 ++ p2 ++ p3 = p0 ++ (p1 ++ (p2 ++ p3)) by simp] at hW'
  have hlt : ∀ x ∈ p0 ++ (p1 ++ (p2 ++ p3)) ++ [], x.block < W.heap.size := hW'.lt
  refine ⟨_, rfl, ?_⟩
  refine ⟨[d0, d1, d2, d3], [], p0 ++ (p1 ++ (p2 ++ p3)) ++ [], [], p0 ++ (p1 ++ (p2 ++ p3)), [], hW', trodAll_mk1 (shut_bool Try.underlying4 true), trodAll_mk4 ?_ ?_ ?_ ?_, rfl, hbelow.frame _, fun h => by cases h⟩
  · exact Below.trod laidOut (by kernel_rfl) (of_decide_eq_true (by kernel_rfl)) h0 hbelow (fun x hx => hlt x (by simp [hx]))
  · exact Below.trod laidOut (by kernel_rfl) (of_decide_eq_true (by kernel_rfl)) h1 hbelow (fun x hx => hlt x (by simp [hx]))
  · exact Below.trod laidOut (by kernel_rfl) (of_decide_eq_true (by kernel_rfl)) h2 hbelow (fun x hx => hlt x (by simp [hx]))
  · exact Below.trod laidOut (by kernel_rfl) (of_decide_eq_true (by kernel_rfl)) h3 hbelow (fun x hx => hlt x (by simp [hx]))

end Go.Proofs.Ytomakgiklpddbaa.QueueChoicesProof
namespace Go.Proofs.Ytomakgiklpddbaa
open Go.Proofs.Ytomakgiklpddbaa.QueueChoicesProof

theorem queueChoices_holds : Rows.QueueChoicesSaid :=
  OpenClaim.holds_of_wide 5 Try.f5 rfl rfl rfl rfl rfl rfl rfl ⟨rfl, rfl, rfl, rfl, rfl⟩ rfl rfl rfl rfl rfl (by kernel_rfl) Try.func5 (by kernel_rfl)
    (of_decide_eq_true (by kernel_rfl)) (by unfold Func.isWrapper; first | (rw [if_pos (by decide +kernel)]; kernel_rfl) | (rw [if_neg (by decide +kernel)]; exact ⟨rfl, rfl⟩))
    (fun os started H enc _ => lifted os started H enc)

end Go.Proofs.Ytomakgiklpddbaa
