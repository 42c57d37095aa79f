/- Permutations by marks; netlabref21.Order, netlabref31.chain on the abstract heap. -/
import Derived.Test.YtnejoceplinjpaaS1c
import Derived.Test.YtnejoceplinjpaaAb25
namespace Go.Ab.S1
open Go.Proofs
set_option linter.unusedSimpArgs false
set_option linter.unusedVariables false
attribute [local push_cast] wpA_skip wpA_ret wpA_exit wpA_seq wpA_block wpA_cond2 andK_true wpA_region wpA_draw wpA_loop thenQ_normal thenQ_ret thenQ_exit blockQ_normal blockQ_ret blockQ_exit condV_true condV_false opsM_nil opsM_cons2 okM_true wantM_true wantM_false stepM seqM_cons2 seqM_nil2 okS_true wantS_true wantS_false stepS skipS okB Keeps_nil contK_app List.zip_cons_cons List.zip_nil_left List.zip_nil_right Op.operands Call.operands Array.toList_append List.append_nil List.nil_append List.all_cons List.all_nil cOK plain put_n put_tm put_none put_df ev_tmp ev_const ev_func wanted_none wanted_some callR_func dop ex_some1 aBuiltin aBin intBin aUn Option.map_some Bool.and_true Bool.true_and Bool.and_self List.map_cons List.map_nil List.toList_toArray List.getElem?_toArray List.getElem?_cons_zero List.getElem?_cons_succ Option.getD_some Option.getD_none Bool.false_eq_true eq_self_iff_true decide_true decide_false List.cons_append aExtract resL resV List.getD_cons_zero List.getD_cons_succ List.getD_nil Nat.succ_ne_self g1 g2 yieldedA Option.bind_some Option.bind_none bne_self_eq_false beq_self_eq_true Bool.not_true Bool.not_false Int.toNat_natCast List.length_map List.mem_cons List.not_mem_nil or_false not_false_eq_true decide_not Bool.not_not bodyR_ret2 bodyR_normal2 closeMarks_nil ex_some0 Nat.zero_add Nat.add_zero

theorem sortL_sorted (zs : List Int) : (sortL zs).Pairwise (fun x y => x ≤ y) := by
  have := List.pairwise_mergeSort (le := fun x y : Int => decide (x ≤ y)) (by intro a b c; simp; omega) (by intro a b; simp; omega) zs
  simpa [sortL] using this

/-- In range, and none twice. -/
def Marks (zs : List Int) (n : Nat) (i : Nat) : Prop := (∀ z ∈ zs.take i, 0 ≤ z ∧ z < n) ∧ (zs.take i).Nodup

theorem IsPerm.marks {zs : List Int} (hp : IsPerm zs) (i : Nat) : Marks zs zs.length i :=
  ⟨fun z hz => by obtain ⟨k, hk, rfl⟩ := hp.range (List.mem_of_mem_take hz); omega, (List.take_sublist i zs).nodup hp.nodup⟩

theorem climb {l : List Int} (hs : l.Pairwise (· < ·)) (h0 : ∀ z ∈ l, 0 ≤ z) : ∀ (i : Nat) (hi : i < l.length), (i : Int) ≤ l[i] := by
  rw [List.pairwise_iff_getElem] at hs
  intro i
  induction i with
  | zero => intro hi; exact h0 _ (List.getElem_mem hi)
  | succ i ih => intro hi; have := ih (by omega); have := hs i (i + 1) (by omega) hi (by omega); omega

theorem climb' {l : List Int} (hs : l.Pairwise (· < ·)) (h1 : ∀ z ∈ l, z < l.length) : ∀ (j i : Nat) (hi : i < l.length), i + j + 1 = l.length → l[i] ≤ (i : Int) := by
  have hs' := List.pairwise_iff_getElem.1 hs
  intro j
  induction j with
  | zero => intro i hi e; have := h1 _ (List.getElem_mem hi); omega
  | succ j ih => intro i hi e; have := ih (i + 1) (by omega) (by omega); have := hs' i (i + 1) hi (by omega) (by omega); omega

theorem IsPerm.of_marks {zs : List Int} (h : Marks zs zs.length zs.length) : IsPerm zs := by
  obtain ⟨hr, hn⟩ := h
  rw [List.take_length] at hr hn
  have hperm := sortL_perm zs
  have hn' : (sortL zs).Nodup := hperm.nodup_iff.2 hn
  have hs : (sortL zs).Pairwise (fun x y => x < y) := by
    have h1 := sortL_sorted zs
    rw [List.nodup_iff_pairwise_ne] at hn'
    exact (h1.and hn').imp (fun ⟨a, b⟩ => by omega)
  intro i hi
  have hi' : i < (sortL zs).length := by rw [sortL_len]; exact hi
  have a := climb hs (fun z hz => (hr z (hperm.mem_iff.1 hz)).1) i hi'
  have b := climb' hs (fun z hz => by rw [sortL_len]; exact (hr z (hperm.mem_iff.1 hz)).2) (zs.length - i - 1) i hi' (by rw [sortL_len]; omega)
  rw [List.getElem?_eq_getElem hi']
  congr 1; omega

theorem Marks.succ {zs : List Int} {n i : Nat} (h : Marks zs n i) (hi : i < zs.length) (h0 : 0 ≤ zs.getD i 0) (h1 : zs.getD i 0 < n) (h2 : zs.getD i 0 ∉ zs.take i) : Marks zs n (i + 1) := by
  have e : zs.take (i + 1) = zs.take i ++ [zs.getD i 0] := by
    rw [List.take_add_one]
    simp [List.getD_eq_getElem?_getD, hi]
  refine ⟨fun z hz => ?_, ?_⟩
  · rw [e] at hz
    rcases List.mem_append.1 hz with hz | hz
    · exact h.1 z hz
    · simp at hz; subst hz; exact ⟨by simpa using h0, by simpa using h1⟩
  · rw [e, List.nodup_append]
    exact ⟨h.2, by simp, fun a ha b hb => by simp at hb; subst hb; rintro rfl; exact h2 (by simpa using ha)⟩

theorem Marks.out {zs : List Int} {n i : Nat} (hi : i < zs.length) (h : zs.getD i 0 < 0 ∨ (n : Int) ≤ zs.getD i 0 ∨ zs.getD i 0 ∈ zs.take i) : ¬ Marks zs n (i + 1) := by
  have e : zs.take (i + 1) = zs.take i ++ [zs.getD i 0] := by
    rw [List.take_add_one]
    simp [List.getD_eq_getElem?_getD, hi]
  rintro ⟨a, b⟩
  rw [e] at a b
  have := a (zs.getD i 0) (by simp)
  rcases h with h | h | h
  · omega
  · omega
  · rw [List.nodup_append] at b
    exact b.2.2 _ h _ (by simp) rfl

theorem marks_set {zs : List Int} {seen : List Bool} {i j : Nat} (hi : i < zs.length) (h0 : 0 ≤ zs.getD i 0) (hj : j < seen.length) (hs : seen.getD j false = decide ((j : Int) ∈ zs.take i)) :
    (seen.set (zs.getD i 0).toNat true).getD j false = decide ((j : Int) ∈ zs.take (i + 1)) := by
  have e : zs.take (i + 1) = zs.take i ++ [zs.getD i 0] := by
    rw [List.take_add_one]
    simp [List.getD_eq_getElem?_getD, hi]
  rw [e]
  generalize zs.getD i 0 = z at *
  by_cases e : z.toNat = j
  · subst e
    have : ((z.toNat : Nat) : Int) = z := by omega
    simp [List.getD_eq_getElem?_getD, hj, this]
  · have hne : (j : Int) ≠ z := by omega
    simp only [List.getD_eq_getElem?_getD, List.getElem?_set_ne e] at hs ⊢
    rw [hs]
    simp [hne]

set_option maxRecDepth 100000 in
theorem orderR0 {h : AH} {v : Value} {zs : List Int} {n : Int} (hv : SlOf h v (zs.map (.int .i64))) (hb : zs.length ≤ 4294967296) :
    ACall Try.prog 43 [v, .int .i64 n] h (fun r _ => r = .bool (decide (IsPerm zs ∧ (zs.length : Int) = n))) := by
  refine ACall.wf ⟨_, Try.func43, rfl, by kernel_rfl⟩ fun hwf => ?_
  refine ACall.of_wp 46 [.tmp 4] Try.func43 rfl (by kernel_rfl) rfl rfl fun a hn hd ha => ?_
  simp (disch := first | omega | decide) only [push_cast, ↓reduceIte, Nat.reduceLT, Nat.reduceEqDiff, reduceCtorEq, Nat.reduceAdd, if_true, if_false, true_and, and_true, hn, hd, ha, hv.lenM Try.underlying22]
  refine condV_of (fun hne => ?_) (fun heq => ?_)
  · have hf : ¬ (zs.length : Int) = n := by simpa using hne
    simp (disch := first | omega | decide) only [push_cast, ↓reduceIte, Nat.reduceLT, Nat.reduceEqDiff, reduceCtorEq, Nat.reduceAdd, if_true, if_false, true_and, and_true, hn, hd, ha, hf, and_false]
  · have hl : n = (zs.length : Int) := by have := heq; simp at this; omega
    subst hl
    simp (disch := first | omega | decide) only [push_cast, ↓reduceIte, Nat.reduceLT, Nat.reduceEqDiff, reduceCtorEq, Nat.reduceAdd, if_true, if_false, true_and, and_true, hn, hd, ha, aMakeSlice_at t23 h zs.length (by omega) (by omega)]
    have hs1 := Sub.new hwf (.row (List.replicate zs.length (.bool false)) 4 true)
    refine AW.loopK 13 [6] (fun m a' h' => Sub h h' ∧ ∃ (i : Nat) (seen : List Bool), a'.tm 6 = .int .i64 i ∧ i + m = zs.length ∧ h'.get h.next = some (.row (seen.map .bool) 4 true) ∧ seen.length = zs.length ∧ Marks zs zs.length i ∧
        ∀ j : Nat, j < zs.length → seen.getD j false = decide ((j : Int) ∈ zs.take i)) zs.length ?_ ?_
    · refine ⟨hs1, 0, List.replicate zs.length false, by simp (disch := first | omega | decide) only [push_cast, ↓reduceIte, Nat.reduceLT, Nat.reduceEqDiff, reduceCtorEq, Nat.reduceAdd, if_true, if_false, true_and, and_true], by omega, by simp [AH.new_get], by simp, ⟨by simp, by simp⟩, fun j hj => by simp [List.getD_eq_getElem?_getD, hj]⟩
    · rintro m a' h' hk ⟨hs, i, seen, h6, him, hg, hsl, hmk, hseen⟩
      simp (disch := first | omega | decide) only [push_cast, ↓reduceIte, Nat.reduceLT, Nat.reduceEqDiff, reduceCtorEq, Nat.reduceAdd, if_true, if_false, true_and, and_true, hk.n, hk.df, hk.tm, hn, hd, ha, h6]
      refine condV_of (fun hlt => ?_) (fun hge => ?_)
      · have hi : i < zs.length := by simpa using hlt
        have hv' := hv.sub hs
        have hst := fun b i' (hi' : i' < seen.length) => stRow sl23 hg one_bool i' b hi'
        simp (disch := first | omega | decide) only [push_cast, ↓reduceIte, Nat.reduceLT, Nat.reduceEqDiff, reduceCtorEq, Nat.reduceAdd, if_true, if_false, true_and, and_true, hk.n, hk.df, hk.tm, hn, hd, ha, h6, hv'.idxI sl22, hv'.ldI sl22]
        refine wantM_not (fun h0 => ?_) (fun h0 => ?_)
        · have hz : zs.getD i 0 < 0 := by simpa using h0
          have hf : ¬ IsPerm zs := fun hp => Marks.out (n := zs.length) hi (.inl hz) (hp.marks _)
          simp (disch := first | omega | decide) only [push_cast, ↓reduceIte, Nat.reduceLT, Nat.reduceEqDiff, reduceCtorEq, Nat.reduceAdd, if_true, if_false, true_and, and_true, hk.n, hk.df, hk.tm, hn, hd, ha, h6, h0, hf, false_and]
        · have hz0 : 0 ≤ zs.getD i 0 := by simpa using h0
          simp (disch := first | omega | decide) only [push_cast, ↓reduceIte, Nat.reduceLT, Nat.reduceEqDiff, reduceCtorEq, Nat.reduceAdd, if_true, if_false, true_and, and_true, hk.n, hk.df, hk.tm, hn, hd, ha, h6, h0, hv'.idxI sl22, hv'.ldI sl22]
          refine wantM_not (fun h1 => ?_) (fun h1 => ?_)
          · have hz : (zs.length : Int) ≤ zs.getD i 0 := by simpa using h1
            have hf : ¬ IsPerm zs := fun hp => Marks.out (n := zs.length) hi (.inr (.inl hz)) (hp.marks _)
            simp (disch := first | omega | decide) only [push_cast, ↓reduceIte, Nat.reduceLT, Nat.reduceEqDiff, reduceCtorEq, Nat.reduceAdd, if_true, if_false, true_and, and_true, hk.n, hk.df, hk.tm, hn, hd, ha, h6, h0, h1, hf, false_and]
          · have hz1 : zs.getD i 0 < zs.length := by simpa using h1
            simp (disch := first | omega | decide) only [push_cast, ↓reduceIte, Nat.reduceLT, Nat.reduceEqDiff, reduceCtorEq, Nat.reduceAdd, if_true, if_false, true_and, and_true, hk.n, hk.df, hk.tm, hn, hd, ha, h6, h0, h1, hv'.idxI sl22, hv'.ldI sl22, idxL sl23, ldRow sl23 false hg rfl]
            refine condV_of (fun h2 => ?_) (fun h2 => ?_)
            · have hz : zs.getD i 0 ∈ zs.take i := by
                have := hseen (zs.getD i 0).toNat (by omega)
                rw [h2, Int.toNat_of_nonneg hz0] at this
                simpa using this.symm
              have hf : ¬ IsPerm zs := fun hp => Marks.out (n := zs.length) hi (.inr (.inr hz)) (hp.marks _)
              simp (disch := first | omega | decide) only [push_cast, ↓reduceIte, Nat.reduceLT, Nat.reduceEqDiff, reduceCtorEq, Nat.reduceAdd, if_true, if_false, true_and, and_true, hk.n, hk.df, hk.tm, hn, hd, ha, h6, h0, h1, h2, hf, false_and]
            · have hz : zs.getD i 0 ∉ zs.take i := by
                have := hseen (zs.getD i 0).toNat (by omega)
                rw [h2, Int.toNat_of_nonneg hz0] at this
                simpa using this.symm
              simp (disch := first | omega | decide) only [push_cast, ↓reduceIte, Nat.reduceLT, Nat.reduceEqDiff, reduceCtorEq, Nat.reduceAdd, if_true, if_false, true_and, and_true, hk.n, hk.df, hk.tm, hn, hd, ha, h6, h0, h1, h2, hv'.idxI sl22, hv'.ldI sl22, idxL sl23, Nat.zero_add, hst, wrapI]
              refine ⟨m - 1, by omega, (by simp (disch := decide) only [Kp_put, put_none, hk]), hs.set (hwf _ (Nat.le_refl _)) _, i + 1, seen.set (zs.getD i 0).toNat true, by simp (disch := first | omega | decide) only [push_cast, ↓reduceIte, Nat.reduceLT, Nat.reduceEqDiff, reduceCtorEq, Nat.reduceAdd, if_true, if_false, true_and, and_true], by omega, by simp [AH.set_get], by simp [hsl], hmk.succ hi hz0 hz1 hz, fun j hj => ?_⟩
              rw [marks_set hi hz0 (by omega : j < seen.length) (hseen j hj)]
      · have hge : zs.length ≤ i := by simpa using hge
        have e : i = zs.length := by omega
        subst e
        have hp := IsPerm.of_marks hmk
        simp (disch := first | omega | decide) only [push_cast, ↓reduceIte, Nat.reduceLT, Nat.reduceEqDiff, reduceCtorEq, Nat.reduceAdd, if_true, if_false, true_and, and_true, hk.n, hk.df, hk.tm, hn, hd, ha, h6, hp, and_self]

theorem order {h : AH} {v : Value} {zs : List Int} {n : Int} (hv : SlOf h v (zs.map (.int .i64))) (hb : zs.length ≤ 4294967296) :
    ACall Try.prog 43 [v, .int .i64 n] h (fun r h' => r = .bool (decide (IsPerm zs ∧ (zs.length : Int) = n)) ∧ h' = h) :=
  ACall.viewed rfl (orderR0 hv.view hb)

set_option maxRecDepth 100000 in
theorem chainR {h : AH} {v : Value} {zs : List Int} {k : Nat} (hv : SlOf h v (zs.map (.int .i64))) (hb : zs.length ≤ 4294967296) :
    ACall Try.prog 25 [v, .int .i64 k] h (fun r h' => r = .int .i64 (chainE zs k) ∧ h' = h) := by
  refine ACall.of_wp 14 [.tmp 4] Try.func25 rfl (by kernel_rfl) rfl rfl fun a hn hd ha => ?_
  simp (disch := first | omega | decide) only [push_cast, ↓reduceIte, Nat.reduceLT, Nat.reduceEqDiff, reduceCtorEq, Nat.reduceAdd, if_true, if_false, true_and, and_true, hn, hd, ha, hv.lenM Try.underlying22]
  refine ACall.mono ?_ (order hv hb)
  rintro _ _ ⟨rfl, rfl⟩
  simp (disch := first | omega | decide) only [push_cast, ↓reduceIte, Nat.reduceLT, Nat.reduceEqDiff, reduceCtorEq, Nat.reduceAdd, if_true, if_false, true_and, and_true, hn, hd, ha, hv.lenM Try.underlying22]
  refine condV_of (fun h0 => ?_) (fun h0 => ?_)
  · have hp : ¬ IsPerm zs := by simpa using h0
    simp (disch := first | omega | decide) only [push_cast, ↓reduceIte, Nat.reduceLT, Nat.reduceEqDiff, reduceCtorEq, Nat.reduceAdd, if_true, if_false, true_and, and_true, hn, hd, ha, chainE, hp]
  · have hp : IsPerm zs := by simpa using h0
    simp (disch := first | omega | decide) only [push_cast, ↓reduceIte, Nat.reduceLT, Nat.reduceEqDiff, reduceCtorEq, Nat.reduceAdd, if_true, if_false, true_and, and_true, hn, hd, ha, hv.lenM Try.underlying22]
    refine condV_of (fun h1 => ?_) (fun h1 => ?_)
    · have : k ≠ zs.length := fun e => by subst e; simp at h1
      simp (disch := first | omega | decide) only [push_cast, ↓reduceIte, Nat.reduceLT, Nat.reduceEqDiff, reduceCtorEq, Nat.reduceAdd, if_true, if_false, true_and, and_true, hn, hd, ha, chainE, hp, this]
    · have : k = zs.length := by have := h1; simp at this; omega
      simp (disch := first | omega | decide) only [push_cast, ↓reduceIte, Nat.reduceLT, Nat.reduceEqDiff, reduceCtorEq, Nat.reduceAdd, if_true, if_false, true_and, and_true, hn, hd, ha, chainE, hp, this]

end Go.Ab.S1
