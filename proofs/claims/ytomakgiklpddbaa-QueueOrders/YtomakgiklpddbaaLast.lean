/- 'netlablaw16.QueueOrders' returns true for every input; each argument reads behind the call as it read before. -/
import Derived.Test.YtomakgiklpddbaaB4
import Derived.Test.YtomakgiklpddbaaRows
import Derived.ProofKit
import Derived.SizedLaws
set_option linter.unusedSimpArgs false
set_option linter.unusedVariables false
namespace Go.Proofs.Ytomakgiklpddbaa.QueueOrdersProof
open Go.ChangeShapes Go.WideShapes Go.ChangeAt Go.RowKit
open Go.Ab Go.Ab.Q

theorem own : ownKnob Try.prog.godebug = none := by kernel_rfl
theorem laidOut : laidOutB Try.prog = true := by kernel_rfl

set_option maxRecDepth 100000 in
theorem lifted (os : Os) (started : os.Started) (H : Type) (enc : TypeId × Value → H) :
    ReturnsInHanded {} Try.checked os 3 .any (Rows.queueOrdersSpec.pre6 enc Try.prog Try.f3 Rows.queueOrdersRow.domain false) (Rows.queueOrdersSpec.post enc Try.prog Try.f3 false true false false) := by
  refine returnsInHanded_of_change_sized (C := Try.checked) own started (by kernel_rfl) Try.func3
    (ChangeSpec.witness6 (enc := enc) (C := Try.checked) false ⟨#[], #[.slice none 0 0, .slice none 0 0], []⟩ 8 (by kernel_rfl) (by kernel_rfl) (by kernel_rfl) (by kernel_rfl)) ?_
  intro W base args ds gs before hval0 hW hcnd hwt _
  have hval : ∀ (j : Nat) t v, Try.f3.params[j]? = some t → args[j]? = some v → Value.okWide Try.prog W .any base t v := hval0
  have hW' := hW
  obtain ⟨p, q, hA0, hV, rfl, hfz, hnd⟩ := hW
  have hA : DataW.TrodAll enc Try.prog W 0 (fun _ => true) true Try.f3.params.toList args.toList ds p := hA0
  rw [Try.params3] at hA hval
  obtain ⟨v0, v1, d0, d1, p0, p1, rfl, rfl, rfl, h0, h1⟩ := trodAll_two hA
  obtain ⟨rfl, rfl⟩ := trodVars_none hV
  have hwt' : ∀ n ∈ DataW.weightsEach Try.prog [22, 23] [d0, d1], n ≤ reachBytes := fun n hn => by
    have := List.all_eq_true.1 hwt n hn
    exact of_decide_eq_true this
  obtain ⟨l, hlu, hU⟩ := openU32s (slWide Try.underlying22 (hval 0 22 v0 rfl rfl)) h0 (fun m hm => hwt' m (mem_weightsEach (i := 0) (t := 22) (d := d0) rfl rfl hm))
  obtain ⟨ds, hD⟩ := openDos (slWide Try.underlying23 (hval 1 23 v1 rfl rfl)) h1 (fun m hm => hwt' m (mem_weightsEach (i := 1) (t := 23) (d := d1) rfl rfl hm))
  have hcall := lawU2 (g := 3) hU hD (fun h u1 u2 s1 s2 => ordersN s1 hlu s2)
  refine hcall.mono fun e W' ⟨he, hbelow⟩ => ?_
  subst he
  have hlt : ∀ x ∈ p0 ++ p1 ++ [], x.block < W.heap.size := hW'.lt
  refine ⟨_, rfl, ?_⟩
  refine ⟨[d0, d1], [], p0 ++ p1 ++ [], [], p0 ++ p1, [], hW', trodAll_mk1 (shut_bool Try.underlying4 true), trodAll_mk2 ?_ ?_, rfl, hbelow.frame _, fun h => by cases h⟩
  · exact Below.trod laidOut (by kernel_rfl) (of_decide_eq_true (by kernel_rfl)) h0 hbelow (fun x hx => hlt x (by simp [hx]))
  · exact Below.trod laidOut (by kernel_rfl) (of_decide_eq_true (by kernel_rfl)) h1 hbelow (fun x hx => hlt x (by simp [hx]))

end Go.Proofs.Ytomakgiklpddbaa.QueueOrdersProof
namespace Go.Proofs.Ytomakgiklpddbaa
open Go.Proofs.Ytomakgiklpddbaa.QueueOrdersProof

theorem queueOrders_holds : Rows.QueueOrdersSaid :=
  OpenClaim.holds_of_wide 3 Try.f3 rfl rfl rfl rfl rfl rfl rfl ⟨rfl, rfl, rfl, rfl, rfl⟩ rfl rfl rfl rfl rfl (by kernel_rfl) Try.func3 (by kernel_rfl)
    (of_decide_eq_true (by kernel_rfl)) (by unfold Func.isWrapper; first | (rw [if_pos (by decide +kernel)]; kernel_rfl) | (rw [if_neg (by decide +kernel)]; exact ⟨rfl, rfl⟩))
    (fun os started H enc _ => lifted os started H enc)

end Go.Proofs.Ytomakgiklpddbaa
