/- 'netlablaw31.ScanMatches' returns true for every input; each argument reads behind the call as it read before. -/
import Derived.Test.YtnejoceplinjpaaGreatB6
import Derived.Test.YtnejoceplinjpaaGreatRows
import Derived.ProofKit
import Derived.SizedLaws
set_option linter.unusedSimpArgs false
set_option linter.unusedVariables false
namespace Go.Proofs.YtnejoceplinjpaaGreat.ScanMatchesProof
open Go.ChangeShapes Go.WideShapes Go.ChangeAt Go.RowKit
open Go.Ab Go.Ab.S1

theorem own : ownKnob Tryz.prog.godebug = none := by kernel_rfl
theorem laidOut : laidOutB Tryz.prog = true := by kernel_rfl

set_option maxRecDepth 100000 in
theorem lifted (os : Os) (started : os.Started) (H : Type) (enc : TypeId × Value → H) :
    ReturnsInHanded {} Tryz.checked os 3 .any (Rows.scanMatchesSpec.pre6 enc Tryz.prog Tryz.f3 Rows.scanMatchesRow.domain false) (Rows.scanMatchesSpec.post enc Tryz.prog Tryz.f3 false true false false) := by
  refine returnsInHanded_of_change_sized (C := Tryz.checked) own started (by kernel_rfl) Tryz.func3
    (ChangeSpec.witness6 (enc := enc) (C := Tryz.checked) false ⟨#[], #[.agg #[.slice none 0 0, .int .i64 0, .slice none 0 0, .slice none 0 0, .slice none 0 0], .slice none 0 0], []⟩ 8 (by kernel_rfl) (by kernel_rfl) (by kernel_rfl) (by kernel_rfl)) ?_
  intro W base args ds gs before hval0 hW hcnd hwt _
  have hval : ∀ (j : Nat) t v, Tryz.f3.params[j]? = some t → args[j]? = some v → Value.okWide Tryz.prog W .any base t v := hval0
  have hW' := hW
  obtain ⟨p, q, hA0, hV, rfl, hfz, hnd⟩ := hW
  have hA : DataW.TrodAll enc Tryz.prog W 0 (fun _ => true) true Tryz.f3.params.toList args.toList ds p := hA0
  rw [Tryz.params3] at hA hval
  obtain ⟨v0, v1, d0, d1, p0, p1, rfl, rfl, rfl, h0, h1⟩ := trodAll_two hA
  obtain ⟨rfl, rfl⟩ := trodVars_none hV
  have hwt' : ∀ n ∈ DataW.weightsEach Tryz.prog [27, 25] [d0, d1], n ≤ reachBytes := fun n hn => by
    have := List.all_eq_true.1 hwt n hn
    exact of_decide_eq_true this
  obtain ⟨n, okn, hcn, hN⟩ := openNet (aggWide Tryz.underlying27 (hval 0 27 v0 rfl rfl)) h0 (fun m hm => hwt' m (mem_weightsEach (i := 0) (t := 27) (d := d0) rfl rfl hm))
  obtain ⟨zs, hzl, hZ⟩ := openInts (slWide Tryz.underlying25 (hval 1 25 v1 rfl rfl)) h1 (fun m hm => hwt' m (mem_weightsEach (i := 1) (t := 25) (d := d1) rfl rfl hm))
  have hcall := lawNI (g := 3) hN hZ (fun h cv fv iv ov u s1 s2 => scanMatches awake s1 okn hcn s2 hzl)
  refine hcall.mono fun e W' ⟨he, hbelow⟩ => ?_
  subst he
  have hlt : ∀ x ∈ p0 ++ p1 ++ [], x.block < W.heap.size := hW'.lt
  refine ⟨_, rfl, ?_⟩
  refine ⟨[d0, d1], [], p0 ++ p1 ++ [], [], p0 ++ p1, [], hW', trodAll_mk1 (shut_bool Tryz.underlying4 true), trodAll_mk2 ?_ ?_, rfl, hbelow.frame _, fun h => by cases h⟩
  · exact Below.trod laidOut (by kernel_rfl) (of_decide_eq_true (by kernel_rfl)) h0 hbelow (fun x hx => hlt x (by simp [hx]))
  · exact Below.trod laidOut (by kernel_rfl) (of_decide_eq_true (by kernel_rfl)) h1 hbelow (fun x hx => hlt x (by simp [hx]))

end Go.Proofs.YtnejoceplinjpaaGreat.ScanMatchesProof
namespace Go.Proofs.YtnejoceplinjpaaGreat
open Go.Proofs.YtnejoceplinjpaaGreat.ScanMatchesProof

theorem scanMatches_holds : Rows.ScanMatchesSaid :=
  OpenClaim.holds_of_wide 3 Tryz.f3 rfl rfl rfl rfl rfl rfl rfl ⟨rfl, rfl, rfl, rfl, rfl⟩ rfl rfl rfl rfl rfl (by kernel_rfl) Tryz.func3 (by kernel_rfl)
    (of_decide_eq_true (by kernel_rfl)) (by unfold Func.isWrapper; first | (rw [if_pos (by decide +kernel)]; kernel_rfl) | (rw [if_neg (by decide +kernel)]; exact ⟨rfl, rfl⟩))
    (fun os started H enc _ => lifted os started H enc)

end Go.Proofs.YtnejoceplinjpaaGreat
