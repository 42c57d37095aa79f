/- 'netlablaw31.ScanTests' returns true for every input; each argument reads behind the call as it read before. -/
import Derived.Test.YtnejoceplinjpaaGreatB15
import Derived.Test.YtnejoceplinjpaaGreatRows
import Derived.ProofKit
import Derived.SizedLaws
set_option linter.unusedSimpArgs false
set_option linter.unusedVariables false
namespace Go.Proofs.YtnejoceplinjpaaGreat.ScanTestsProof
open Go.ChangeShapes Go.WideShapes Go.ChangeAt Go.RowKit
open Go.Ab Go.Ab.S1

theorem own : ownKnob Tryz.prog.godebug = none := by kernel_rfl
theorem laidOut : laidOutB Tryz.prog = true := by kernel_rfl

set_option maxRecDepth 100000 in
theorem lifted (os : Os) (started : os.Started) (H : Type) (enc : TypeId × Value → H) :
    ReturnsInHanded {} Tryz.checked os 7 .any (Rows.scanTestsSpec.pre6 enc Tryz.prog Tryz.f7 Rows.scanTestsRow.domain false) (Rows.scanTestsSpec.post enc Tryz.prog Tryz.f7 false true false false) := by
  refine returnsInHanded_of_change_sized (C := Tryz.checked) own started (by kernel_rfl) Tryz.func7
    (ChangeSpec.witness6 (enc := enc) (C := Tryz.checked) false ⟨#[], #[.agg #[.slice none 0 0, .int .i64 0, .slice none 0 0, .slice none 0 0, .slice none 0 0], .slice none 0 0, .int .u64 0, .int .u64 0], []⟩ 8 (by kernel_rfl) (by kernel_rfl) (by kernel_rfl) (by kernel_rfl)) ?_
  intro W base args ds gs before hval0 hW hcnd hwt _
  have hval : ∀ (j : Nat) t v, Tryz.f7.params[j]? = some t → args[j]? = some v → Value.okWide Tryz.prog W .any base t v := hval0
  have hW' := hW
  obtain ⟨p, q, hA0, hV, rfl, hfz, hnd⟩ := hW
  have hA : DataW.TrodAll enc Tryz.prog W 0 (fun _ => true) true Tryz.f7.params.toList args.toList ds p := hA0
  rw [Tryz.params7] at hA hval
  obtain ⟨v0, v1, v2, v3, d0, d1, d2, d3, p0, p1, p2, p3, rfl, rfl, rfl, h0, h1, h2, h3⟩ := trodAll_four hA
  obtain ⟨rfl, rfl⟩ := trodVars_none hV
  have hwt' : ∀ n ∈ DataW.weightsEach Tryz.prog [27, 25, 37, 37] [d0, d1, d2, d3], n ≤ reachBytes := fun n hn => by
    have := List.all_eq_true.1 hwt n hn
    exact of_decide_eq_true this
  obtain ⟨n, okn, hcn, hN⟩ := openNet (aggWide Tryz.underlying27 (hval 0 27 v0 rfl rfl)) h0 (fun m hm => hwt' m (mem_weightsEach (i := 0) (t := 27) (d := d0) rfl rfl hm))
  obtain ⟨zs, hzl, hZ⟩ := openInts (slWide Tryz.underlying25 (hval 1 25 v1 rfl rfl)) h1 (fun m hm => hwt' m (mem_weightsEach (i := 1) (t := 25) (d := d1) rfl rfl hm))
  obtain ⟨c1, rfl⟩ := intWide Tryz.underlying37 (hval 2 37 v2 rfl rfl)
  obtain ⟨c2, rfl⟩ := intWide Tryz.underlying37 (hval 3 37 v3 rfl rfl)
  have hcall := lawN4 (g := 7) (c1 := c1) (c2 := c2) hN hZ (fun h cv fv iv ov u s1 s2 => scanTests awake s1 okn hcn s2 hzl)
  refine hcall.mono fun e W' ⟨he, hbelow⟩ => ?_
  subst he
  rw [show p0 ++ p1 ++ p2 ++ p3 = p0 ++ (p1 ++ (p2 ++ p3)) by simp] at hW'
  have hlt : ∀ x ∈ p0 ++ (p1 ++ (p2 ++ p3)) ++ [], x.block < W.heap.size := hW'.lt
  refine ⟨_, rfl, ?_⟩
  refine ⟨[d0, d1, d2, d3], [], p0 ++ (p1 ++ (p2 ++ p3)) ++ [], [], p0 ++ (p1 ++ (p2 ++ p3)), [], hW', trodAll_mk1 (shut_bool Tryz.underlying4 true), trodAll_mk4 ?_ ?_ ?_ ?_, rfl, hbelow.frame _, fun h => by cases h⟩
  · exact Below.trod laidOut (by kernel_rfl) (of_decide_eq_true (by kernel_rfl)) h0 hbelow (fun x hx => hlt x (by simp [hx]))
  · exact Below.trod laidOut (by kernel_rfl) (of_decide_eq_true (by kernel_rfl)) h1 hbelow (fun x hx => hlt x (by simp [hx]))
  · exact Below.trod laidOut (by kernel_rfl) (of_decide_eq_true (by kernel_rfl)) h2 hbelow (fun x hx => hlt x (by simp [hx]))
  · exact Below.trod laidOut (by kernel_rfl) (of_decide_eq_true (by kernel_rfl)) h3 hbelow (fun x hx => hlt x (by simp [hx]))

end Go.Proofs.YtnejoceplinjpaaGreat.ScanTestsProof
namespace Go.Proofs.YtnejoceplinjpaaGreat
open Go.Proofs.YtnejoceplinjpaaGreat.ScanTestsProof

theorem scanTests_holds : Rows.ScanTestsSaid :=
  OpenClaim.holds_of_wide 7 Tryz.f7 rfl rfl rfl rfl rfl rfl rfl ⟨rfl, rfl, rfl, rfl, rfl⟩ rfl rfl rfl rfl rfl (by kernel_rfl) Tryz.func7 (by kernel_rfl)
    (of_decide_eq_true (by kernel_rfl)) (by unfold Func.isWrapper; first | (rw [if_pos (by decide +kernel)]; kernel_rfl) | (rw [if_neg (by decide +kernel)]; exact ⟨rfl, rfl⟩))
    (fun os started H enc _ => lifted os started H enc)

end Go.Proofs.YtnejoceplinjpaaGreat
