/- 'netlablaw31.ScanPatternMatches' returns true for every input; each argument reads behind the call as it read before. -/
import Derived.Test.YtnejoceplinjpaaGreatB14
import Derived.Test.YtnejoceplinjpaaGreatRows
import Derived.ProofKit
import Derived.SizedLaws
set_option linter.unusedSimpArgs false
set_option linter.unusedVariables false
namespace Go.Proofs.YtnejoceplinjpaaGreat.ScanPatternMatchesProof
open Go.ChangeShapes Go.WideShapes Go.ChangeAt Go.RowKit
open Go.Ab Go.Ab.S1

theorem own : ownKnob Tryz.prog.godebug = none := by kernel_rfl
theorem laidOut : laidOutB Tryz.prog = true := by kernel_rfl

set_option maxRecDepth 100000 in
theorem lifted (os : Os) (started : os.Started) (H : Type) (enc : TypeId × Value → H) :
    ReturnsInHanded {} Tryz.checked os 4 .any (Rows.scanPatternMatchesSpec.pre6 enc Tryz.prog Tryz.f4 Rows.scanPatternMatchesRow.domain false) (Rows.scanPatternMatchesSpec.post enc Tryz.prog Tryz.f4 false true false false) := by
  refine returnsInHanded_of_change_sized (C := Tryz.checked) own started (by kernel_rfl) Tryz.func4
    (ChangeSpec.witness6 (enc := enc) (C := Tryz.checked) false ⟨#[], #[.agg #[.slice none 0 0, .int .i64 0, .slice none 0 0, .slice none 0 0, .slice none 0 0], .slice none 0 0, .slice none 0 0, .slice none 0 0, .slice none 0 0], []⟩ 8 (by kernel_rfl) (by kernel_rfl) (by kernel_rfl) (by kernel_rfl)) ?_
  intro W base args ds gs before hval0 hW hcnd hwt _
  have hval : ∀ (j : Nat) t v, Tryz.f4.params[j]? = some t → args[j]? = some v → Value.okWide Tryz.prog W .any base t v := hval0
  have hW' := hW
  obtain ⟨p, q, hA0, hV, rfl, hfz, hnd⟩ := hW
  have hA : DataW.TrodAll enc Tryz.prog W 0 (fun _ => true) true Tryz.f4.params.toList args.toList ds p := hA0
  rw [Tryz.params4] at hA hval
  obtain ⟨v0, v1, v2, v3, v4, d0, d1, d2, d3, d4, p0, p1, p2, p3, p4, rfl, rfl, rfl, h0, h1, h2, h3, h4⟩ := trodAll_five hA
  obtain ⟨rfl, rfl⟩ := trodVars_none hV
  have hwt' : ∀ n ∈ DataW.weightsEach Tryz.prog [27, 25, 43, 43, 44] [d0, d1, d2, d3, d4], n ≤ reachBytes := fun n hn => by
    have := List.all_eq_true.1 hwt n hn
    exact of_decide_eq_true this
  obtain ⟨n, okn, hcn, hN⟩ := openNet (aggWide Tryz.underlying27 (hval 0 27 v0 rfl rfl)) h0 (fun m hm => hwt' m (mem_weightsEach (i := 0) (t := 27) (d := d0) rfl rfl hm))
  obtain ⟨zs, hzl, hZ⟩ := openInts (slWide Tryz.underlying25 (hval 1 25 v1 rfl rfl)) h1 (fun m hm => hwt' m (mem_weightsEach (i := 1) (t := 25) (d := d1) rfl rfl hm))
  obtain ⟨b2, hB2⟩ := openBools (slWide Tryz.underlying43 (hval 2 43 v2 rfl rfl)) h2 (fun m hm => hwt' m (mem_weightsEach (i := 2) (t := 43) (d := d2) rfl rfl hm))
  obtain ⟨b3, hB3⟩ := openBools (slWide Tryz.underlying43 (hval 3 43 v3 rfl rfl)) h3 (fun m hm => hwt' m (mem_weightsEach (i := 3) (t := 43) (d := d3) rfl rfl hm))
  obtain ⟨l4, hl4, hR4⟩ := openRows (slWide Tryz.underlying44 (hval 4 44 v4 rfl rfl)) h4 (fun m hm => hwt' m (mem_weightsEach (i := 4) (t := 44) (d := d4) rfl rfl hm))
  have hcall := lawN5b (g := 4) hN hZ hB2 hB3 hR4 (fun h cv fv iv ov u2 u3 u4 u5 s1 s2 s3 s4 s5 => scanPatternMatches awake s1 okn hcn s2 s3 s4 s5 hl4)
  refine hcall.mono fun e W' ⟨he, hbelow⟩ => ?_
  subst he
  have hlt : ∀ x ∈ p0 ++ (p1 ++ (p2 ++ (p3 ++ p4))) ++ [], x.block < W.heap.size := hW'.lt
  refine ⟨_, rfl, ?_⟩
  refine ⟨[d0, d1, d2, d3, d4], [], p0 ++ (p1 ++ (p2 ++ (p3 ++ p4))) ++ [], [], p0 ++ (p1 ++ (p2 ++ (p3 ++ p4))), [], hW', trodAll_mk1 (shut_bool Tryz.underlying4 true), trodAll_mk5 ?_ ?_ ?_ ?_ ?_, rfl, hbelow.frame _, fun h => by cases h⟩
  · exact Below.trod laidOut (by kernel_rfl) (of_decide_eq_true (by kernel_rfl)) h0 hbelow (fun x hx => hlt x (by simp [hx]))
  · exact Below.trod laidOut (by kernel_rfl) (of_decide_eq_true (by kernel_rfl)) h1 hbelow (fun x hx => hlt x (by simp [hx]))
  · exact Below.trod laidOut (by kernel_rfl) (of_decide_eq_true (by kernel_rfl)) h2 hbelow (fun x hx => hlt x (by simp [hx]))
  · exact Below.trod laidOut (by kernel_rfl) (of_decide_eq_true (by kernel_rfl)) h3 hbelow (fun x hx => hlt x (by simp [hx]))
  · exact Below.trod laidOut (by kernel_rfl) (of_decide_eq_true (by kernel_rfl)) h4 hbelow (fun x hx => hlt x (by simp [hx]))

end Go.Proofs.YtnejoceplinjpaaGreat.ScanPatternMatchesProof
namespace Go.Proofs.YtnejoceplinjpaaGreat
open Go.Proofs.YtnejoceplinjpaaGreat.ScanPatternMatchesProof

theorem scanPatternMatches_holds : Rows.ScanPatternMatchesSaid :=
  OpenClaim.holds_of_wide 4 Tryz.f4 rfl rfl rfl rfl rfl rfl rfl ⟨rfl, rfl, rfl, rfl, rfl⟩ rfl rfl rfl rfl rfl (by kernel_rfl) Tryz.func4 (by kernel_rfl)
    (of_decide_eq_true (by kernel_rfl)) (by unfold Func.isWrapper; first | (rw [if_pos (by decide +kernel)]; kernel_rfl) | (rw [if_neg (by decide +kernel)]; exact ⟨rfl, rfl⟩))
    (fun os started H enc _ => lifted os started H enc)

end Go.Proofs.YtnejoceplinjpaaGreat
