/- netlabref21.Same, netlabref28.Same, netlabref29.Same: true of equals. netlabref29.Same: true of equals. A netlist whose instances' pins are one's own, each in its block; netlabref29.Copy: its first region. netlabref29.Copy. netlabref29.Copy, whole. A netlist of one's own, its pins too: what is read of it and written to it; when its pins are settled. netlabref31.Insert: its helpers; the loops over the pins and over the outputs. Own layer 'Ab': a row that a closed run has laid, read beside another heap. Slices of slices of ints; netlabref21.Orders(3), by a closed run. netlabref28.before and sorted(3). netlabref28.sorted(3). netlabref21.Eval and Make, netlabref28.Eval; the law of a match. netlabref28.Match: its inner loops. netlabref28.Match: the bindings of a multiplexer. netlabref31.Insert: the loops over the outputs, over a binding's pins and over the order. netlabref31.Insert: the loop over the order. netlabref31.Insert. What Long has let in; the netlist that Insert hands back is of bounded size. -/
import Derived.Test.YtnejoceplinjpaaGreatB4
set_option linter.unusedSimpArgs false
set_option linter.unusedVariables false
namespace Go.Ab.S1
open Go.Proofs
set_option linter.unusedSimpArgs false
set_option linter.unusedVariables false
set_option maxRecDepth 100000
set_option maxHeartbeats 4000000
attribute [local push_cast] wpA_skip wpA_ret wpA_exit wpA_seq wpA_block wpA_cond2 andK_true wpA_region wpA_draw wpA_loop thenQ_normal thenQ_ret thenQ_exit blockQ_normal blockQ_ret blockQ_exit condV_true condV_false opsM_nil opsM_cons2 okM_true wantM_true wantM_false stepM seqM_cons2 seqM_nil2 okS_true wantS_true wantS_false stepS skipS okB Keeps_nil contK_app List.zip_cons_cons List.zip_nil_left List.zip_nil_right Op.operands Call.operands Array.toList_append List.append_nil List.nil_append List.all_cons List.all_nil cOK plain put_n put_tm put_none put_df ev_tmp ev_const ev_func wanted_none wanted_some callR_func dop ex_some1 aBuiltin aBin intBin aUn Option.map_some Bool.and_true Bool.true_and Bool.and_self List.map_cons List.map_nil List.toList_toArray List.getElem?_toArray List.getElem?_cons_zero List.getElem?_cons_succ Option.getD_some Option.getD_none Bool.false_eq_true eq_self_iff_true decide_true decide_false List.cons_append aExtract resL resV List.getD_cons_zero List.getD_cons_succ List.getD_nil Nat.succ_ne_self g1 g2 yieldedA2 isB_bool isB_undef g3 Option.bind_some Option.bind_none bne_self_eq_false beq_self_eq_true Bool.not_true Bool.not_false Int.toNat_natCast List.length_map List.mem_cons List.not_mem_nil or_false not_false_eq_true decide_not Bool.not_not bodyR_ret2 bodyR_normal2 closeMarks_nil ex_some0 Nat.zero_add Nat.add_zero ieq ine List.map_toArray Option.toArray_none Option.toArray_some oev Keeps_cons Still_eq selL wpX_skip wpX_ret wpX_exit wpX_seq wpX_block wpX_cond wpX_region wpX_draw wpX_loop List.take_succ_cons List.take_zero List.drop_succ_cons List.drop_zero Int.zero_add Int.add_zero aNil if_true if_false true_and and_true
attribute [local push_cast] treeM_nil treeM_step treeM_two okX_true wantX_true wantX_false stepX skipX

theorem same21 {h : AH} {v1 v2 : Value} {zs : List Int} (h1 : SlOf h v1 (zs.map (.int .i64))) (h2 : SlOf h v2 (zs.map (.int .i64))) (hb : zs.length ≤ 4611686018427387904) :
    ACall Tryz.prog 14 [v1, v2] h (fun r h' => r = .bool true ∧ h' = h) := by
  refine ACall.of_wp 26 [.tmp 4] Tryz.func14 rfl (by kernel_rfl) rfl rfl fun a hn hd ha => ?_
  simp (disch := first | omega | decide) only [push_cast, ↓reduceIte, Nat.reduceLT, Nat.reduceEqDiff, reduceCtorEq, Nat.reduceAdd, hn, hd, ha, h1.lenA Tryz.underlying25, h2.lenA Tryz.underlying25]
  refine AW.loopN 5 [] (fun m a' h' => h' = h ∧ ∃ i : Nat, a'.tm 5 = .int .i64 i ∧ i + m = zs.length) zs.length ?_ ?_
  · exact ⟨rfl, 0, by simp (disch := first | omega | decide) only [push_cast, ↓reduceIte, Nat.reduceLT, Nat.reduceEqDiff, reduceCtorEq, Nat.reduceAdd], by omega⟩
  · rintro a1 m a' h' hk kn kd kt ⟨rfl, i, h5, him⟩
    simp (disch := first | omega | decide) only [push_cast, ↓reduceIte, Nat.reduceLT, Nat.reduceEqDiff, reduceCtorEq, Nat.reduceAdd, kn, kd, kt, hn, hd, ha, h5, h1.lenA Tryz.underlying25]
    refine condV_of (fun hlt => ?_) (fun hge => ?_)
    · have hi : i < zs.length := by have := hlt; simp at this; omega
      refine AW.drawP (.take 0 [8, 3, 2] (.take 1 [8, 3, 2] (.take 2 [8, 3] (.take 3 [8] (.take 4 [8, 7, 6] (.take 5 [8, 7, 6] (.take 6 [8, 7] (.take 7 [8] (.take 8 [] .done))))))))) [(0, 0), (0, 1), (0, 2), (0, 3), (0, 4), (0, 5), (0, 6), (0, 7), (0, 8)] mixed (by kernel_rfl) (by kernel_rfl) ?_
      simp (disch := first | omega | decide) only [push_cast, ↓reduceIte, Nat.reduceLT, Nat.reduceEqDiff, reduceCtorEq, Nat.reduceAdd, kn, kd, kt, hn, hd, ha, h5, h1.idxI sl22, h1.ldI sl22, h2.idxI sl22, h2.ldI sl22, wrapI]
      exact ⟨m - 1, by omega, (by simp (disch := decide) only [Kp_put, put_none, hk]), rfl, i + 1, by simp (disch := first | omega | decide) only [push_cast, ↓reduceIte, Nat.reduceLT, Nat.reduceEqDiff, reduceCtorEq, Nat.reduceAdd], by omega⟩
    · simp (disch := first | omega | decide) only [push_cast, ↓reduceIte, Nat.reduceLT, Nat.reduceEqDiff, reduceCtorEq, Nat.reduceAdd, kn, kd, kt, hn, hd, ha, h5]

/-- Two cells laid and filled. -/
theorem twoSt {k : AH} (w : WFH k) {zs xs ys : List Value} {T : TypeId} {N : Nat} (hT : Ag Tryz.prog T N) (hz : zs.length = N) (hx : xs.length = N) (hy : ys.length = N) (ox : xs.all oneC = true) (oy : ys.all oneC = true) {A B : Nat} (hAB : (A = k.next ∧ B = k.next + 1) ∨ (A = k.next + 1 ∧ B = k.next)) :
    ∃ k3 k4, aStore Tryz.prog T (.pointer (some ⟨A, 0, none⟩)) (.agg xs.toArray) ((k.new (.row zs T true)).new (.row zs T true)) = some k3 ∧ aStore Tryz.prog T (.pointer (some ⟨B, 0, none⟩)) (.agg ys.toArray) k3 = some k4 ∧ Gr k k3 ∧ Gr k k4 ∧ CsAt k4 A xs ∧ CsAt k4 B ys := by
  have g2 := ((Gr.refl w).new (.row zs T true)).new (.row zs T true)
  have hA : ((k.new (.row zs T true)).new (.row zs T true)).get A = some (.row zs T true) := by
    rcases hAB with ⟨rfl, _⟩ | ⟨rfl, _⟩
    · rw [AH.new_get, if_neg (by simp), AH.new_get, if_pos rfl]
    · rw [AH.new_get, if_pos (by simp)]
  have hB : ((k.new (.row zs T true)).new (.row zs T true)).get B = some (.row zs T true) := by
    rcases hAB with ⟨_, rfl⟩ | ⟨_, rfl⟩
    · rw [AH.new_get, if_pos (by simp)]
    · rw [AH.new_get, if_neg (by simp), AH.new_get, if_pos rfl]
  have hne : B ≠ A := by rcases hAB with ⟨rfl, rfl⟩ | ⟨rfl, rfl⟩ <;> omega
  have e1 := stA hT hA hz xs hx ox
  have hB2 : (((k.new (.row zs T true)).new (.row zs T true)).set A (.row xs T true)).get B = some (.row zs T true) := by rw [AH.set_get, if_neg hne]; exact hB
  have e2 := stA hT hB2 hz ys hy oy
  have hlA : k.next ≤ A := by rcases hAB with ⟨rfl, rfl⟩ | ⟨rfl, rfl⟩ <;> omega
  have hlB : k.next ≤ B := by rcases hAB with ⟨rfl, rfl⟩ | ⟨rfl, rfl⟩ <;> omega
  have hxA : A < ((k.new (.row zs T true)).new (.row zs T true)).next := AH.get_lt g2.wf hA
  have g3 := g2.set w hlA hxA (.row xs T true)
  have g4 := g3.set w hlB (AH.get_lt g3.wf hB2) (.row ys T true)
  exact ⟨_, _, e1, e2, g3, g4, ⟨_, by rw [AH.set_get, if_neg (fun e => hne e.symm), AH.set_get, if_pos rfl], rfl⟩, ⟨_, by rw [AH.set_get, if_pos rfl], rfl⟩⟩

theorem strNeq (s : ByteArray) : strBin .neq s s = some (.bool false) := by simp [strBin]


def opsAt : Nat → Code → Option (Array Oper)
  | i, .region j ops _ => if i = j then some ops else none
  | i, .seq x y => match opsAt i x with
    | some c => some c
    | none => opsAt i y
  | i, .cond _ x y => match opsAt i x with
    | some c => some c
    | none => opsAt i y
  | i, .loop c => opsAt i c
  | i, .block _ c => opsAt i c
  | _, _ => none
def opsOf (f : Func) (i : Nat) : Array Oper := match f.body with
  | some c => (opsAt i c).getD #[]
  | none => #[]

theorem opsM.at {P : Program} {ops ops' : Array Oper} {N : AAct → AH → Prop} {l l' : List Oper} {a : AAct} {h : AH} (e : ops' = ops) (e2 : l' = l) (hx : opsM P ops' N l' a h) : opsM P ops N l a h := e ▸ e2 ▸ hx

def cellW0 (c : Cell) (dv : Value) : List Value := [.string c.name, .int .i64 c.pins, .int .u64 c.table, .int .i64 c.area, dv]

/-- The comparison of two equal cells. -/
theorem same28cmp {k : AH} {A B : Nat} {c : Cell} {d1 d2 : Value} {a : AAct} {N : AAct → AH → Prop} (bn : a.n = 81) (bd : a.df = []) (b6 : a.tm 6 = .pointer (some ⟨A, 0, none⟩)) (b7 : a.tm 7 = .pointer (some ⟨B, 0, none⟩)) (cA : CsAt k A (cellW0 c d1)) (cB : CsAt k B (cellW0 c d2))
    (hd1 : SlOf k d1 (c.delay.map (.int .i64))) (hd2 : SlOf k d2 (c.delay.map (.int .i64))) (hN : ∀ a2, a2.n = 81 → a2.df = [] → a2.tm 62 = .bool false → (∀ t, t < 28 → a2.tm t = a.tm t) → N a2 k) :
    opsM Tryz.prog (opsOf Tryz.f39 7) N (opsOf Tryz.f39 7).toList a k := by
  refine opsM.at (rfl : #[_, _, _, _, _, _, _, _, _, _, _, _, _, _, _, _, _, _, _, _, _, _, _, _, _, _, _, _, _, _, _, _, _, _, _] = _) (rfl : [_, _, _, _, _, _, _, _, _, _, _, _] ++ [_, _, _, _, _, _, _, _, _, _, _, _, _, _, _, _, _, _, _, _, _, _, _] = _) ?_
  unfold cellW0 at cA cB
  have lA9 := cA.ld fl9
  have lB9 := cB.ld fl9
  have lA3 := cA.ld fl3
  have lB3 := cB.ld fl3
  have lAU := cA.ld flU
  have lBU := cB.ld flU
  have lA2 := cA.ld fl2
  have lB2 := cB.ld fl2
  have lAL := cA.ld flL
  have lBL := cB.ld flL
  simp only [List.length_cons, List.length_nil, Nat.zero_add, Nat.reduceAdd] at lA9 lB9 lA3 lB3 lAU lBU lA2 lB2 lAL lBL
  have hz1 := hd1.lenA Tryz.underlying38
  have hz2 := hd2.lenA Tryz.underlying38
  clear hd1 hd2 cA cB
  refine opsM_append _ _ _ _ ?_
  generalize hM : opsM Tryz.prog _ N [_, _, _, _, _, _, _, _, _, _, _, _, _, _, _, _, _, _, _, _, _, _, _] = M
  have hM2 : ∀ a2, a2.n = 81 → a2.df = [] → a2.tm 6 = .pointer (some ⟨A, 0, none⟩) → a2.tm 7 = .pointer (some ⟨B, 0, none⟩) → a2.tm 39 = .bool false → (∀ t, t < 28 → a2.tm t = a.tm t) → M a2 k := by
    intro a2 n2 d2 b6 b7 b39 hk
    subst hM
    clear bn bd
    simp (disch := first | omega | decide) only [push_cast, ↓reduceIte, Nat.reduceLT, Nat.reduceEqDiff, reduceCtorEq, Nat.reduceAdd, n2, d2, b6, b7, b39, faL foC0, faL foC1, faL foC2, faL foC3, faL foC4, lAU, lBU, lA2, lB2, lAL, lBL, hz1, hz2]
    refine hN _ (by simp (disch := first | omega | decide) only [push_cast, ↓reduceIte, Nat.reduceLT, Nat.reduceEqDiff, reduceCtorEq, Nat.reduceAdd, n2]) (by simp (disch := first | omega | decide) only [push_cast, ↓reduceIte, Nat.reduceLT, Nat.reduceEqDiff, reduceCtorEq, Nat.reduceAdd, d2]) (by simp (disch := first | omega | decide) only [push_cast, ↓reduceIte, Nat.reduceLT, Nat.reduceEqDiff, reduceCtorEq, Nat.reduceAdd]) (fun t ht => ?_)
    simp (disch := omega) only [put_lt, hk t ht]
  clear hM hN
  simp (disch := first | omega | decide) only [push_cast, ↓reduceIte, Nat.reduceLT, Nat.reduceEqDiff, reduceCtorEq, Nat.reduceAdd, bn, bd, b6, b7, faL foC0, faL foC1, faL foC2, faL foC3, faL foC4, lA9, lB9, lA3, lB3, strNeq]
  refine hM2 _ (by simp (disch := first | omega | decide) only [push_cast, ↓reduceIte, Nat.reduceLT, Nat.reduceEqDiff, reduceCtorEq, Nat.reduceAdd, bn]) (by simp (disch := first | omega | decide) only [push_cast, ↓reduceIte, Nat.reduceLT, Nat.reduceEqDiff, reduceCtorEq, Nat.reduceAdd, bd]) (by simp (disch := first | omega | decide) only [push_cast, ↓reduceIte, Nat.reduceLT, Nat.reduceEqDiff, reduceCtorEq, Nat.reduceAdd, b6]) (by simp (disch := first | omega | decide) only [push_cast, ↓reduceIte, Nat.reduceLT, Nat.reduceEqDiff, reduceCtorEq, Nat.reduceAdd, b7]) (by simp (disch := first | omega | decide) only [push_cast, ↓reduceIte, Nat.reduceLT, Nat.reduceEqDiff, reduceCtorEq, Nat.reduceAdd]) (fun t ht => ?_)
  simp (disch := omega) only [put_lt]

theorem same28 {h : AH} {v1 v2 : Value} {cs : List Cell} (h1 : RowOf cellL h v1 cs) (h2 : RowOf cellL h v2 cs) (hb : cs.length ≤ 4611686018427387904) (hbd : ∀ c ∈ cs, c.delay.length ≤ 4611686018427387904) :
    ACall Tryz.prog 39 [v1, v2] h (fun r h' => r = .bool true ∧ h' = h) := by
  refine ACall.viewed rfl ?_
  replace h1 := h1.view
  replace h2 := h2.view
  generalize AH.view h = h at h1 h2
  refine ACall.wf ⟨_, Tryz.func39, rfl, by kernel_rfl⟩ fun hwf => ?_
  refine ACall.of_wp 81 [.tmp 4] Tryz.func39 rfl (by kernel_rfl) rfl rfl fun a hn hd ha => ?_
  simp (disch := first | omega | decide) only [push_cast, ↓reduceIte, Nat.reduceLT, Nat.reduceEqDiff, reduceCtorEq, Nat.reduceAdd, hn, hd, ha, h1.len Tryz.underlying22, h2.len Tryz.underlying22]
  refine AW.loopN 14 [4, 5, 6, 7, 8] (fun m a' h' => Gr h h' ∧ ∃ i : Nat, a'.tm 5 = .int .i64 i ∧ i + m = cs.length) cs.length ?_ ?_
  · exact ⟨Gr.refl hwf, 0, by simp (disch := first | omega | decide) only [push_cast, ↓reduceIte, Nat.reduceLT, Nat.reduceEqDiff, reduceCtorEq, Nat.reduceAdd], by omega⟩
  · rintro a1 m a' h' hk kn kd kt ⟨g, i, h5, him⟩
    simp (disch := first | omega | decide) only [push_cast, ↓reduceIte, Nat.reduceLT, Nat.reduceEqDiff, reduceCtorEq, Nat.reduceAdd, kn, kd, kt, hn, hd, ha, h5, h1.len Tryz.underlying22]
    refine condV_of (fun hlt => ?_) (fun hge => ?_)
    · have hi : i < cs.length := by have := hlt; simp at this; omega
      obtain ⟨x1, ⟨d1, rfl, hd1⟩, l1, -, -⟩ := (h1.sub g.sub).get hi default
      obtain ⟨x2, ⟨d2, rfl, hd2⟩, l2, -, -⟩ := (h2.sub g.sub).get hi default
      replace l1 := l1 _ agC
      replace l2 := l2 _ agC
      have hdb := hbd _ (getD_mem hi default)
      have hw1 : IntKind.i64.wrap ((i : Int) + 1) = i + 1 := wrapI (by omega) (by omega)
      generalize cs.getD i default = c at *
      refine AW.mono (Q := fun ex a2 h2' => ex = .normal ∧ a2.n = 81 ∧ a2.df = [] ∧ Gr h' h2' ∧ a2.tm 0 = v1 ∧ a2.tm 1 = v2 ∧ a2.tm 5 = .int .i64 i ∧ Kp 14 [4, 5, 6, 7, 8] a1 a2 ∧ ∃ A B, a2.tm 6 = .pointer (some ⟨A, 0, none⟩) ∧ a2.tm 7 = .pointer (some ⟨B, 0, none⟩) ∧ CsAt h2' A (cellW0 c d1) ∧ CsAt h2' B (cellW0 c d2)) ?_ ?_
      case refine_2 =>
        refine AW.drawX (.take 0 [11, 10, 3, 2] (.take 1 [11, 10, 3, 2] (.take 2 [11, 10, 3] (.take 3 [11, 10] (.take 4 [11, 7, 6] (.take 5 [11, 7, 6] (.take 6 [11, 7] (.watch 7 [11] (.two 8 (.only 9 (.only 10 (.only 11 .done))) 9 (.only 8 (.only 10 (.only 11 .done)))))))))))) (.step 0 0 (.step 0 1 (.step 0 2 (.step 0 3 (.step 0 4 (.step 0 5 (.step 0 6 (.step 1 7 (.two 8 (.step 2 9 (.step 2 10 (.step 2 11 .nil))) 9 (.step 2 8 (.step 2 10 (.step 2 11 .nil)))))))))))) mixed (by kernel_rfl) rfl ?_
        simp (disch := first | omega | decide) only [push_cast, ↓reduceIte, Nat.reduceLT, Nat.reduceEqDiff, reduceCtorEq, Nat.reduceAdd, kn, kd, kt, hn, hd, ha, h5, (h1.sub g.sub).idx Tryz.underlying22 infC, l1, (h2.sub g.sub).idx Tryz.underlying22 infC, l2]
        have t1 := twoSt (A := h'.next) (B := h'.next + 1) (T := 40) (zs := [.string ByteArray.empty, .int .i64 0, .int .u64 0, .int .i64 0, .slice none 0 0]) (xs := cellW0 c d1) (ys := cellW0 c d2) g.wf agC rfl rfl rfl (by simp only [cellW0, List.all_cons, List.all_nil, hd1.one]; rfl) (by simp only [cellW0, List.all_cons, List.all_nil, hd2.one]; rfl) (.inl ⟨rfl, rfl⟩)
        have t2 := twoSt (A := h'.next + 1) (B := h'.next) (T := 40) (zs := [.string ByteArray.empty, .int .i64 0, .int .u64 0, .int .i64 0, .slice none 0 0]) (xs := cellW0 c d1) (ys := cellW0 c d2) g.wf agC rfl rfl rfl (by simp only [cellW0, List.all_cons, List.all_nil, hd1.one]; rfl) (by simp only [cellW0, List.all_cons, List.all_nil, hd2.one]; rfl) (.inr ⟨rfl, rfl⟩)
        obtain ⟨k3, k4, f1, f2, g3, g4, c1, c2⟩ := t1
        obtain ⟨m3, m4, f3, f4, g5', g5, c3, c4⟩ := t2
        unfold cellW0 at f1 f2 f3 f4
        have gz := (Gr.refl g.wf).new (.row [.string ByteArray.empty, .int .i64 0, .int .u64 0, .int .i64 0, .slice none 0 0] 40 true)
        have q1 := aLoad_sub gz.sub l2
        have q2 := aLoad_sub (gz.new (.row [.string ByteArray.empty, .int .i64 0, .int .u64 0, .int .i64 0, .slice none 0 0] 40 true)).sub l2
        have q3 := aLoad_sub g3.sub l2
        have q4 := aLoad_sub g5'.sub l2
        have q5 := aLoad_sub g4.sub l2
        have q6 := aLoad_sub g5.sub l2
        refine ⟨?_, ?_⟩
        · simp (disch := first | omega | decide) only [push_cast, ↓reduceIte, Nat.reduceLT, Nat.reduceEqDiff, reduceCtorEq, Nat.reduceAdd, kn, kd, kt, hn, hd, ha, h5, alL zrC, AH.new_next, q1, q2, q3, q5, f1, f2]
          exact ⟨g4, (by simp (disch := decide) only [Kp_put, put_none, hk]), _, _, rfl, rfl, c1, c2⟩
        · simp (disch := first | omega | decide) only [push_cast, ↓reduceIte, Nat.reduceLT, Nat.reduceEqDiff, reduceCtorEq, Nat.reduceAdd, kn, kd, kt, hn, hd, ha, h5, alL zrC, AH.new_next, q1, q2, q4, q6, f3, f4]
          exact ⟨g5, (by simp (disch := decide) only [Kp_put, put_none, hk]), _, _, rfl, rfl, c3, c4⟩
      clear kn kd kt
      rintro _ a2 k2 ⟨rfl, bn, bd, g2, b0, b1, b5, hk2, A, B, b6, b7, cA, cB⟩
      have hd1' := hd1.sub g2.sub
      have hd2' := hd2.sub g2.sub
      rw [thenQ_normal, wpA_seq]
      repeat rw [wpA_seq]
      rw [wpA_region]
      refine same28cmp bn bd b6 b7 cA cB hd1' hd2' ?_
      intro a2' bn' bd' b62 bk
      have b0' := (bk 0 (by omega)).trans b0
      have b1' := (bk 1 (by omega)).trans b1
      have b5' := (bk 5 (by omega)).trans b5
      have b6' := (bk 6 (by omega)).trans b6
      have b7' := (bk 7 (by omega)).trans b7
      replace hk2 : Kp 14 [4, 5, 6, 7, 8] a1 a2' := Kp.trans hk2 (lo' := 28) (X' := []) ⟨bn'.trans bn.symm, bd'.trans bd.symm, fun t ht _ => bk t ht⟩ (by omega) (by simp)
      clear bk
      unfold cellW0 at cA cB
      have lAL := cA.ld flL
      have lBL := cB.ld flL
      simp only [List.length_cons, List.length_nil, Nat.zero_add, Nat.reduceAdd] at lAL lBL
      simp (disch := first | omega | decide) only [push_cast, ↓reduceIte, Nat.reduceLT, Nat.reduceEqDiff, reduceCtorEq, Nat.reduceAdd, bn', bd', b62]
      refine AW.mono (Q := fun ex a3 h3 => ex = .exit 2 ∧ a3.n = 81 ∧ a3.df = [] ∧ h3 = k2 ∧ a3.tm 0 = v1 ∧ a3.tm 1 = v2 ∧ a3.tm 5 = .int .i64 i ∧ Kp 14 [4, 5, 6, 7, 8] a1 a3) ?_ ?_
      case refine_2 =>
        refine AW.loopN 63 [4, 8] (fun m a' h' => h' = k2 ∧ ∃ j : Nat, a'.tm 8 = .int .i64 j ∧ j + m = c.delay.length) c.delay.length ?_ ?_
        · exact ⟨rfl, 0, by simp (disch := first | omega | decide) only [push_cast, ↓reduceIte, Nat.reduceLT, Nat.reduceEqDiff, reduceCtorEq, Nat.reduceAdd], by omega⟩
        rintro a4 m2 a5 h5' hk5 kn kd kt ⟨rfl, j, h8, hjm⟩
        simp (disch := first | omega | decide) only [push_cast, ↓reduceIte, Nat.reduceLT, Nat.reduceEqDiff, reduceCtorEq, Nat.reduceAdd, kn, kd, kt, bn', bd', b0', b1', b5', b6', b7', h8, faL foC0, faL foC1, faL foC2, faL foC3, faL foC4, lAL, hd1'.lenA Tryz.underlying38]
        have hk0 : Kp 14 [4, 5, 6, 7, 8] a1 a5 := Kp.trans (lo' := 63) (X' := [4, 8]) (by simp (disch := decide) only [Kp_put, put_none, hk2]) ⟨kn, kd, kt⟩ (by omega) (by simp)
        refine condV_of (fun hlt => ?_) (fun hge => ?_)
        · have hj : j < c.delay.length := by have := hlt; simp at this; omega
          refine AW.drawP (.take 0 [10, 4, 3, 1] (.take 1 [10, 4, 3] (.take 2 [10, 4, 3] (.take 3 [10, 4] (.take 4 [10] (.take 5 [10, 9, 8, 6] (.take 6 [10, 9, 8] (.take 7 [10, 9, 8] (.take 8 [10, 9] (.take 9 [10] (.take 10 [] .done))))))))))) [(0, 0), (0, 1), (0, 2), (0, 3), (0, 4), (0, 5), (0, 6), (0, 7), (0, 8), (0, 9), (0, 10)] mixed (by kernel_rfl) (by kernel_rfl) ?_
          simp (disch := first | omega | decide) only [push_cast, ↓reduceIte, Nat.reduceLT, Nat.reduceEqDiff, reduceCtorEq, Nat.reduceAdd, kn, kd, kt, bn', bd', b0', b1', b5', b6', b7', h8, faL foC0, faL foC1, faL foC2, faL foC3, faL foC4, lAL, lBL, hd1'.idxI slL, hd1'.ldI slL, hd2'.idxI slL, hd2'.ldI slL, wrapI]
          exact ⟨m2 - 1, by omega, (by simp (disch := decide) only [Kp_put, put_none, hk5]), rfl, j + 1, by simp (disch := first | omega | decide) only [push_cast, ↓reduceIte, Nat.reduceLT, Nat.reduceEqDiff, reduceCtorEq, Nat.reduceAdd], by omega⟩
        · simp (disch := first | omega | decide) only [push_cast, ↓reduceIte, Nat.reduceLT, Nat.reduceEqDiff, reduceCtorEq, Nat.reduceAdd, kn, kd, kt, bn', bd', b0', b1', b5', b6', b7', h8]
          simp (disch := decide) only [Kp_put, put_none, hk0]
      rintro _ a3 _ ⟨rfl, cn, cd, rfl, c0, c1, c5, hk3⟩
      simp (disch := first | omega | decide) only [push_cast, ↓reduceIte, Nat.reduceLT, Nat.reduceEqDiff, reduceCtorEq, Nat.reduceAdd, cn, cd, c0, c1, c5, hw1]
      exact ⟨m - 1, by omega, (by simp (disch := decide) only [Kp_put, put_none, hk3]), g.trans g2, i + 1, by simp (disch := first | omega | decide) only [push_cast, ↓reduceIte, Nat.reduceLT, Nat.reduceEqDiff, reduceCtorEq, Nat.reduceAdd], by omega⟩
    · simp (disch := first | omega | decide) only [push_cast, ↓reduceIte, Nat.reduceLT, Nat.reduceEqDiff, reduceCtorEq, Nat.reduceAdd, kn, kd, kt, hn, hd, ha, h5]


structure NetB (n : Net) : Prop where
  c : n.cells.length ≤ 4294967296
  d : ∀ c ∈ n.cells, c.delay.length ≤ 4294967296
  f : n.flops.length ≤ 4294967296
  i : n.insts.length ≤ 4294967296
  p : ∀ x ∈ n.insts, x.pins.length ≤ 4294967296
  o : n.outs.length ≤ 4294967296

theorem flopNeq (x : Flop) : eqBin Tryz.prog .neq 65 (.agg #[.int .i64 x.next, .int .u8 x.init]) (.agg #[.int .i64 x.next, .int .u8 x.init]) = some (.bool false) := by
  have hg : Tryz.prog.eqGuardType Tryz.prog.depth 65 = false := by kernel_rfl
  have hs : Tryz.prog.stoodInHeld 65 = false := by kernel_rfl
  simp [eqBin, guardOn, hg, aEq, Tryz.underlying65, hs, eqAll, aPart, aggT, Tryz.underlying3, Tryz.underlying5]

theorem same29 {h : AH} {m : Net} {c1 f1 i1 o1 c2 f2 i2 o2 : Value} (r1 : NetR h m c1 f1 i1 o1) (r2 : NetR h m c2 f2 i2 o2) (b : NetB m) :
    ACall Tryz.prog 13 [.agg (netC m c1 f1 i1 o1).toArray, .agg (netC m c2 f2 i2 o2).toArray] h (fun r h' => r = .bool true ∧ h' = h) := by
  refine ACall.viewed rfl ?_
  replace r1 := r1.view
  replace r2 := r2.view
  generalize AH.view h = h at r1 r2
  refine ACall.wf ⟨_, Tryz.func13, rfl, by kernel_rfl⟩ fun hwf => ?_
  refine ACall.of_wp 100 [.tmp 4] Tryz.func13 rfl (by kernel_rfl) rfl rfl fun a hn hd ha => ?_
  have hb1 := boxA 27 h _ r1.one
  have hb2 := boxA 27 (h.new (.row (netC m c1 f1 i1 o1) 27 true)) _ r2.one
  have g1 := (Gr.refl hwf).new (.row (netC m c1 f1 i1 o1) 27 true)
  have g2 := g1.new (.row (netC m c2 f2 i2 o2) 27 true)
  have hN1 := (NetAt.new (h := h) (n := m) (cv := c1) (fv := f1) (iv := i1) (ov := o1)).sub (Sub.new g1.wf (.row (netC m c2 f2 i2 o2) 27 true))
  have hN2 := NetAt.new (h := h.new (.row (netC m c1 f1 i1 o1) 27 true)) (n := m) (cv := c2) (fv := f2) (iv := i2) (ov := o2)
  repeat rw [wpA_seq]
  rw [wpA_region]
  refine opsM_cut (fun a' h' => a'.n = 100 ∧ a'.df = [] ∧ h' = (h.new (.row (netC m c1 f1 i1 o1) 27 true)).new (.row (netC m c2 f2 i2 o2) 27 true) ∧ a'.tm 2 = .pointer (some ⟨h.next, 0, none⟩) ∧ a'.tm 3 = .pointer (some ⟨h.next + 1, 0, none⟩)) (fun N hN => ?_) ?_
  · simp (disch := first | omega | decide) only [push_cast, ↓reduceIte, Nat.reduceLT, Nat.reduceEqDiff, reduceCtorEq, Nat.reduceAdd, hn, hd, ha, hb1, hb2]
    exact hN _ _ ⟨by simp (disch := first | omega | decide) only [push_cast, ↓reduceIte, Nat.reduceLT, Nat.reduceEqDiff, reduceCtorEq, Nat.reduceAdd, hn], by simp (disch := first | omega | decide) only [push_cast, ↓reduceIte, Nat.reduceLT, Nat.reduceEqDiff, reduceCtorEq, Nat.reduceAdd, hd], rfl, by simp (disch := first | omega | decide) only [push_cast, ↓reduceIte, Nat.reduceLT, Nat.reduceEqDiff, reduceCtorEq, Nat.reduceAdd], by simp (disch := first | omega | decide) only [push_cast, ↓reduceIte, Nat.reduceLT, Nat.reduceEqDiff, reduceCtorEq, Nat.reduceAdd, AH.new_next]⟩
  clear hn hd ha a hb1 hb2
  rintro a _ ⟨hn, hd, rfl, t2, t3⟩
  replace r1 := r1.sub g2.sub
  replace r2 := r2.sub g2.sub
  generalize (h.new (.row (netC m c1 f1 i1 o1) 27 true)).new (.row (netC m c2 f2 i2 o2) 27 true) = k at g2 hN1 hN2 r1 r2 ⊢
  simp only [AH.new_next] at hN2
  generalize h.next = A at hN1 hN2 t2 t3
  generalize A + 1 = B at hN2 t3
  have bf := b.f
  have bi := b.i
  rw [thenQ_normal]
  repeat rw [wpA_seq]
  rw [wpA_region]
  refine opsM_cutAt 7 (fun a' h' => a'.n = 100 ∧ a'.df = [] ∧ h' = k ∧ a'.tm 2 = .pointer (some ⟨A, 0, none⟩) ∧ a'.tm 3 = .pointer (some ⟨B, 0, none⟩) ∧ a'.tm 13 = .bool false) (fun N hN => ?_) ?_
  · simp (disch := first | omega | decide) only [push_cast, ↓reduceIte, Nat.reduceLT, Nat.reduceEqDiff, reduceCtorEq, Nat.reduceAdd, hn, hd, t2, t3, faL foN0, faL foN1, faL foN2, faL foN3, faL foN4, hN1.l0, hN1.l1, hN1.l2, hN1.l3, hN1.l4, hN1.la, hN2.l0, hN2.l1, hN2.l2, hN2.l3, hN2.l4, hN2.la]
    refine ACall.mono ?_ (same28 r1.c r2.c (by have := b.c; omega) (fun c hc => by have := b.d c hc; omega))
    rintro _ k ⟨rfl, rfl⟩
    simp (disch := first | omega | decide) only [push_cast, ↓reduceIte, Nat.reduceLT, Nat.reduceEqDiff, reduceCtorEq, Nat.reduceAdd, hn, hd, t2, t3]
    exact hN _ _ ⟨by simp (disch := first | omega | decide) only [push_cast, ↓reduceIte, Nat.reduceLT, Nat.reduceEqDiff, reduceCtorEq, Nat.reduceAdd, hn], by simp (disch := first | omega | decide) only [push_cast, ↓reduceIte, Nat.reduceLT, Nat.reduceEqDiff, reduceCtorEq, Nat.reduceAdd, hd], rfl, by simp (disch := first | omega | decide) only [push_cast, ↓reduceIte, Nat.reduceLT, Nat.reduceEqDiff, reduceCtorEq, Nat.reduceAdd, t2], by simp (disch := first | omega | decide) only [push_cast, ↓reduceIte, Nat.reduceLT, Nat.reduceEqDiff, reduceCtorEq, Nat.reduceAdd, t3], by simp (disch := first | omega | decide) only [push_cast, ↓reduceIte, Nat.reduceLT, Nat.reduceEqDiff, reduceCtorEq, Nat.reduceAdd]⟩
  clear hn hd t2 t3 a
  rintro a k ⟨hn, hd, rfl, t2, t3, t13⟩
  refine opsM_cutAt 16 (fun a' h' => a'.n = 100 ∧ a'.df = [] ∧ h' = k ∧ a'.tm 2 = .pointer (some ⟨A, 0, none⟩) ∧ a'.tm 3 = .pointer (some ⟨B, 0, none⟩) ∧ a'.tm 29 = .bool false) (fun N hN => ?_) ?_
  · simp (disch := first | omega | decide) only [push_cast, ↓reduceIte, Nat.reduceLT, Nat.reduceEqDiff, reduceCtorEq, Nat.reduceAdd, hn, hd, t2, t3, t13, faL foN0, faL foN1, faL foN2, faL foN3, faL foN4, hN1.l0, hN1.l1, hN1.l2, hN1.l3, hN1.l4, hN1.la, hN2.l0, hN2.l1, hN2.l2, hN2.l3, hN2.l4, hN2.la, r1.f.len Tryz.underlying23, r2.f.len Tryz.underlying23]
    exact hN _ _ ⟨by simp (disch := first | omega | decide) only [push_cast, ↓reduceIte, Nat.reduceLT, Nat.reduceEqDiff, reduceCtorEq, Nat.reduceAdd, hn], by simp (disch := first | omega | decide) only [push_cast, ↓reduceIte, Nat.reduceLT, Nat.reduceEqDiff, reduceCtorEq, Nat.reduceAdd, hd], rfl, by simp (disch := first | omega | decide) only [push_cast, ↓reduceIte, Nat.reduceLT, Nat.reduceEqDiff, reduceCtorEq, Nat.reduceAdd, t2], by simp (disch := first | omega | decide) only [push_cast, ↓reduceIte, Nat.reduceLT, Nat.reduceEqDiff, reduceCtorEq, Nat.reduceAdd, t3], by simp (disch := first | omega | decide) only [push_cast, ↓reduceIte, Nat.reduceLT, Nat.reduceEqDiff, reduceCtorEq, Nat.reduceAdd]⟩
  clear hn hd t2 t3 t13 a
  rintro a k ⟨hn, hd, rfl, t2, t3, t29⟩
  simp (disch := first | omega | decide) only [push_cast, ↓reduceIte, Nat.reduceLT, Nat.reduceEqDiff, reduceCtorEq, Nat.reduceAdd, hn, hd, t2, t3, t29, faL foN0, faL foN1, faL foN2, faL foN3, faL foN4, hN1.l0, hN1.l1, hN1.l2, hN1.l3, hN1.l4, hN1.la, hN2.l0, hN2.l1, hN2.l2, hN2.l3, hN2.l4, hN2.la, r1.i.len Tryz.underlying24, r2.i.len Tryz.underlying24]
  refine ACall.mono ?_ (same21 r1.o r2.o (by have := b.o; omega))
  rintro _ k ⟨rfl, rfl⟩
  simp (disch := first | omega | decide) only [push_cast, ↓reduceIte, Nat.reduceLT, Nat.reduceEqDiff, reduceCtorEq, Nat.reduceAdd, hn, hd, t2, t3, t29]
  refine AW.loopN 46 [5] (fun q a' h' => h' = k ∧ ∃ i : Nat, a'.tm 5 = .int .i64 i ∧ i + q = m.flops.length) m.flops.length ?_ ?_
  · exact ⟨rfl, 0, by simp (disch := first | omega | decide) only [push_cast, ↓reduceIte, Nat.reduceLT, Nat.reduceEqDiff, reduceCtorEq, Nat.reduceAdd], by omega⟩
  rintro a1 q a' k hk kn kd kt ⟨rfl, i, h5, hiq⟩
  simp (disch := first | omega | decide) only [push_cast, ↓reduceIte, Nat.reduceLT, Nat.reduceEqDiff, reduceCtorEq, Nat.reduceAdd, kn, kd, kt, hn, hd, t2, t3, h5, faL foN0, faL foN1, faL foN2, faL foN3, faL foN4, hN1.l0, hN1.l1, hN1.l2, hN1.l3, hN1.l4, hN1.la, r1.f.len Tryz.underlying23]
  refine condV_of (fun hlt => ?_) (fun hge => ?_)
  · have hi : i < m.flops.length := by have := hlt; simp at this; omega
    obtain ⟨x1, rfl, l1, -, -⟩ := r1.f.get hi default
    obtain ⟨x2, rfl, l2, -, -⟩ := r2.f.get hi default
    replace l1 := l1 _ agF
    replace l2 := l2 _ agF
    have hw1 : IntKind.i64.wrap ((i : Int) + 1) = i + 1 := wrapI (by omega) (by omega)
    have hq := flopNeq (m.flops.getD i default)
    refine AW.drawP (.take 0 [10, 4, 3, 1] (.take 1 [10, 4, 3] (.take 2 [10, 4, 3] (.take 3 [10, 4] (.take 4 [10] (.take 5 [10, 9, 8, 6] (.take 6 [10, 9, 8] (.take 7 [10, 9, 8] (.take 8 [10, 9] (.take 9 [10] (.take 10 [] .done))))))))))) [(0, 0), (0, 1), (0, 2), (0, 3), (0, 4), (0, 5), (0, 6), (0, 7), (0, 8), (0, 9), (0, 10)] mixed (by kernel_rfl) (by kernel_rfl) ?_
    simp (disch := first | omega | decide) only [push_cast, ↓reduceIte, Nat.reduceLT, Nat.reduceEqDiff, reduceCtorEq, Nat.reduceAdd, kn, kd, kt, hn, hd, t2, t3, h5, faL foN0, faL foN1, faL foN2, faL foN3, faL foN4, hN1.l0, hN1.l1, hN1.l2, hN1.l3, hN1.l4, hN1.la, hN2.l0, hN2.l1, hN2.l2, hN2.l3, hN2.l4, hN2.la, r1.f.idx Tryz.underlying23 infF, r2.f.idx Tryz.underlying23 infF, l1, l2, hq, hw1]
    exact ⟨q - 1, by omega, (by simp (disch := decide) only [Kp_put, put_none, hk]), rfl, i + 1, by simp (disch := first | omega | decide) only [push_cast, ↓reduceIte, Nat.reduceLT, Nat.reduceEqDiff, reduceCtorEq, Nat.reduceAdd], by omega⟩
  simp (disch := first | omega | decide) only [push_cast, ↓reduceIte, Nat.reduceLT, Nat.reduceEqDiff, reduceCtorEq, Nat.reduceAdd, kn, kd, kt, hn, hd, t2, t3, h5]
  refine AW.loopN 64 [6] (fun q a' h' => h' = k ∧ ∃ i : Nat, a'.tm 6 = .int .i64 i ∧ i + q = m.insts.length) m.insts.length ?_ ?_
  · exact ⟨rfl, 0, by simp (disch := first | omega | decide) only [push_cast, ↓reduceIte, Nat.reduceLT, Nat.reduceEqDiff, reduceCtorEq, Nat.reduceAdd], by omega⟩
  rintro b1 q a2 k hk2 kn2 kd2 kt2 ⟨rfl, i, h6, hiq⟩
  simp (disch := first | omega | decide) only [push_cast, ↓reduceIte, Nat.reduceLT, Nat.reduceEqDiff, reduceCtorEq, Nat.reduceAdd, kn2, kd2, kt2, kn, kd, kt, hn, hd, t2, t3, h6, faL foN0, faL foN1, faL foN2, faL foN3, faL foN4, hN1.l0, hN1.l1, hN1.l2, hN1.l3, hN1.l4, hN1.la, r1.i.len Tryz.underlying24]
  refine condV_of (fun hlt => ?_) (fun hge => ?_)
  · have hi : i < m.insts.length := by have := hlt; simp at this; omega
    obtain ⟨x1, ⟨p1, rfl, hp1⟩, -, l1, e1⟩ := r1.i.get (P := Tryz.prog) hi default
    obtain ⟨x2, ⟨p2, rfl, hp2⟩, -, l2, e2⟩ := r2.i.get (P := Tryz.prog) hi default
    have l10 := l1 0 _ fl3 (by decide)
    have l11 := l1 1 _ flI (by decide)
    have l20 := l2 0 _ fl3 (by decide)
    have l21 := l2 1 _ flI (by decide)
    have e10 := e1 _ _ _ foI0
    have e11 := e1 _ _ _ foI1
    have e20 := e2 _ _ _ foI0
    have e21 := e2 _ _ _ foI1
    have hpb := b.p _ (getD_mem hi default)
    have hw1 : IntKind.i64.wrap ((i : Int) + 1) = i + 1 := wrapI (by omega) (by omega)
    generalize m.insts.getD i default = x at *
    refine AW.mono (Q := fun ex a3 h3 => ex = .normal ∧ h3 = k ∧ a3.n = 100 ∧ a3.df = [] ∧ a3.tm 99 = .bool false ∧ Kp 64 [6] b1 a3 ∧ a3.tm 6 = .int .i64 i) ?_ ?_
    case refine_2 =>
      refine AW.drawP (.take 0 [28, 27, 26, 25, 24, 23, 22, 21, 20, 19, 18, 17, 16, 15, 14, 13, 12, 5, 4, 3, 1] (.take 1 [28, 27, 26, 25, 24, 23, 22, 21, 20, 19, 18, 17, 16, 15, 14, 13, 12, 5, 4, 3] (.take 2 [28, 27, 26, 25, 24, 23, 22, 21, 20, 19, 18, 17, 16, 15, 14, 13, 12, 5, 4, 3] (.take 3 [28, 27, 26, 25, 24, 23, 22, 21, 20, 19, 18, 17, 16, 15, 14, 13, 12, 5, 4] (.take 4 [28, 27, 26, 25, 24, 23, 22, 21, 20, 19, 18, 17, 16, 15, 14, 13, 12, 5] (.take 5 [28, 27, 26, 25, 24, 23, 22, 21, 20, 19, 18, 17, 16, 15, 14, 13, 12] (.take 6 [28, 27, 26, 25, 24, 23, 22, 21, 20, 19, 18, 17, 16, 15, 14, 13, 12, 11, 10, 9, 7] (.take 7 [28, 27, 26, 25, 24, 23, 22, 21, 20, 19, 18, 17, 16, 15, 14, 13, 12, 11, 10, 9] (.take 8 [28, 27, 26, 25, 24, 23, 22, 21, 20, 19, 18, 17, 16, 15, 14, 13, 12, 11, 10, 9] (.take 9 [28, 27, 26, 25, 24, 23, 22, 21, 20, 19, 18, 17, 16, 15, 14, 13, 12, 11, 10] (.take 10 [28, 27, 26, 25, 24, 23, 22, 21, 20, 19, 18, 17, 16, 15, 14, 13, 12, 11] (.take 11 [28, 27, 26, 25, 24, 23, 22, 21, 20, 19, 18, 17, 16, 15, 14, 13, 12] (.take 12 [28, 27, 26, 25, 24, 23, 22, 21, 20, 19, 18, 17, 16, 15, 14, 13] (.take 13 [28, 27, 26, 25, 24, 23, 22, 21, 20, 19, 18, 17, 16, 15, 14] (.take 14 [28, 27, 26, 19, 18, 17, 15] (.take 15 [28, 27, 26, 19, 18, 17] (.take 16 [28, 27, 26, 19, 18, 17] (.take 17 [28, 27, 26, 19, 18] (.take 18 [28, 27, 26, 19] (.take 19 [28, 27, 26] (.take 20 [28, 27, 26, 25, 24, 23, 21] (.take 21 [28, 27, 26, 25, 24, 23] (.take 22 [28, 27, 26, 25, 24, 23] (.take 23 [28, 27, 26, 25, 24] (.take 24 [28, 27, 26, 25] (.take 25 [28, 27, 26] (.only 26 (.take 27 [28] (.take 28 [] .done))))))))))))))))))))))))))))) [(0, 0), (0, 1), (0, 2), (0, 3), (0, 4), (0, 5), (0, 6), (0, 7), (0, 8), (0, 9), (0, 10), (0, 11), (0, 12), (0, 13), (0, 14), (0, 15), (0, 16), (0, 17), (0, 18), (0, 19), (0, 20), (0, 21), (0, 22), (0, 23), (0, 24), (0, 25), (2, 26), (0, 27), (0, 28)] mixed (by kernel_rfl) (by kernel_rfl) ?_
      simp (disch := first | omega | decide) only [push_cast, ↓reduceIte, Nat.reduceLT, Nat.reduceEqDiff, reduceCtorEq, Nat.reduceAdd, kn2, kd2, kt2, kn, kd, kt, hn, hd, t2, t3, h6, faL foN0, faL foN1, faL foN2, faL foN3, faL foN4, hN1.l0, hN1.l1, hN1.l2, hN1.l3, hN1.l4, hN1.la, hN2.l0, hN2.l1, hN2.l2, hN2.l3, hN2.l4, hN2.la, r1.i.idx Tryz.underlying24 infI, r2.i.idx Tryz.underlying24 infI, l10, l11, l20, l21, e10, e11, e20, e21]
      refine ACall.mono ?_ (same21 hp1 hp2 (by omega))
      rintro _ k ⟨rfl, rfl⟩
      simp (disch := first | omega | decide) only [push_cast, ↓reduceIte, Nat.reduceLT, Nat.reduceEqDiff, reduceCtorEq, Nat.reduceAdd, kn2, kd2, kt2, kn, kd, kt, hn, hd, t2, t3, h6]
      simp (disch := decide) only [Kp_put, put_none, hk2]
    rintro _ a3 k ⟨rfl, rfl, bn, bd, b99, hk3, b6⟩
    simp (disch := first | omega | decide) only [push_cast, ↓reduceIte, Nat.reduceLT, Nat.reduceEqDiff, reduceCtorEq, Nat.reduceAdd, bn, bd, b99, b6, hw1]
    exact ⟨q - 1, by omega, (by simp (disch := decide) only [Kp_put, put_none, hk3]), rfl, i + 1, by simp (disch := first | omega | decide) only [push_cast, ↓reduceIte, Nat.reduceLT, Nat.reduceEqDiff, reduceCtorEq, Nat.reduceAdd], by omega⟩
  simp (disch := first | omega | decide) only [push_cast, ↓reduceIte, Nat.reduceLT, Nat.reduceEqDiff, reduceCtorEq, Nat.reduceAdd, kn2, kd2, kt2, kn, kd, kt, hn, hd, t2, t3, h6]

attribute [local push_cast] treeM_nil treeM_step treeM_two okX_true wantX_true wantX_false stepX skipX List.isEmpty_cons List.isEmpty_nil

theorem CellsCopy.le {N M : Nat} {h : AH} {r : Value} {cs : List Cell} (c : CellsCopy N h r cs) (hm : M ≤ N) : CellsCopy M h r cs := by
  obtain ⟨ob, A, a, b⟩ := c
  exact ⟨ob, A, RowV.imp (L := cellW N) (L' := cellW M) rfl (fun _ _ ⟨dv, e, hd⟩ => ⟨dv, e, hd.le hm⟩) a, fun o e => ⟨(b o e).1, Nat.le_trans hm (b o e).2⟩⟩

theorem WV.move {e : TypeId} {N : Nat} {g g' : AH} {v : Value} {vs : List Value} (w : WV e N g v vs) (hg : ∀ A o, g.get A = some o → N ≤ A → o.ty = some e → g'.get A = some o) : WV e N g' v vs := by
  obtain ⟨ob, A, a, b⟩ := w
  exact ⟨ob, A, a, fun o ho => ⟨hg A o (b o ho).1 (b o ho).2 (a.ty o ho), (b o ho).2⟩⟩

theorem ownsNone {b h : AH} (g : Gr b h) : _root_.Go.Ab.Owns b h (fun _ => 0) (fun _ => none) := ⟨fun _ _ e => (nomatch e), fun _ _ _ _ e => (nomatch e), fun _ _ e => (nomatch e), g⟩

theorem ownsAdd {b h : AH} {nm : Nat → Nat} {ob : Nat → Option AObj} (ho : _root_.Go.Ab.Owns b h nm ob) {r A : Nat} {obx : Option AObj} {e : TypeId} (hx : ∀ o, obx = some o → h.get A = some o ∧ b.next ≤ A) (ht : ∀ s p, ob s = some p → p.ty ≠ some e) (hxe : ∀ o, obx = some o → o.ty = some e) :
    _root_.Go.Ab.Owns b h (upd nm r A) (upd ob r obx) := by
  refine ⟨fun s o hs => ?_, fun s u o p hs hu hne => ?_, fun s o hs => ?_, ho.gr⟩
  · by_cases q : s = r
    · subst q; rw [upd_same] at hs ⊢; exact (hx o hs).1
    · rw [upd_ne _ _ q] at hs ⊢; exact ho.get s o hs
  · by_cases q : s = r
    · subst q
      rw [upd_same] at hs ⊢
      rw [upd_ne _ _ (fun x => hne x.symm)] at hu ⊢
      exact fun x => ht u p hu (by
        have h1 := (hx o hs).1
        rw [x, ho.get u p hu] at h1; cases h1
        exact hxe _ hs)
    · rw [upd_ne _ _ q] at hs ⊢
      by_cases q2 : u = r
      · subst q2
        rw [upd_same] at hu ⊢
        exact fun x => ht s o hs (by
          have h1 := (hx p hu).1
          rw [← x, ho.get s o hs] at h1; cases h1
          exact hxe _ hu)
      · rw [upd_ne _ _ q2] at hu ⊢; exact ho.dis s u o p hs hu hne
  · by_cases q : s = r
    · subst q; rw [upd_same] at hs ⊢; exact (hx o hs).2
    · rw [upd_ne _ _ q] at hs ⊢; exact ho.lo s o hs

theorem updTy {ob : Nat → Option AObj} {e e' : TypeId} {r : Nat} {obx : Option AObj} (ht : ∀ s p, ob s = some p → p.ty ≠ some e) (hxe : ∀ o, obx = some o → o.ty = some e') (hne : e' ≠ e) : ∀ s p, upd ob r obx s = some p → p.ty ≠ some e := by
  intro s p hs
  by_cases q : s = r
  · subst q; rw [upd_same] at hs; rw [hxe p hs]; intro x; cases x; exact hne rfl
  · rw [upd_ne _ _ q] at hs; exact ht s p hs

theorem noOwn {b h : AH} {nm : Nat → Nat} {ob : Nat → Option AObj} (ho : _root_.Go.Ab.Owns b h nm ob) {e : TypeId} (ht : ∀ s p, ob s = some p → p.ty ≠ some e) {A : Nat} {o : AObj} (hg : h.get A = some o) (hy : o.ty = some e) : ¬ Own nm ob A := by
  rintro ⟨r, hr, rfl⟩
  cases hx : ob r with
  | none => exact hr hx
  | some p =>
    have := ho.get r p hx
    rw [hg] at this; cases this
    exact ht r _ hx hy

/-- A netlist of one's own, its pins too. -/
structure PinV (b h : AH) (m : Net) (nm : Nat → Nat) (ob : Nat → Option AObj) (cv fv iv ov : Value) (dv : Nat → Value) : Prop where
  own : _root_.Go.Ab.Owns b h nm ob
  hi : ∀ r, 5 + m.insts.length ≤ r → ob r = none
  c : RowV (cellW b.next) 40 (hide (Own nm ob) h) cv (ob 0) (nm 0) m.cells
  f : RowV flopL 65 (hide (Own nm ob) h) fv (ob 1) (nm 1) m.flops
  i : ∃ zs, VecM 2 36 iv (ob 2) (nm 2) m.insts.length zs ∧ ∀ j x, m.insts[j]? = some x → (zs.drop (j * 2)).take 2 = [.int .i64 x.cell, dv j]
  p : ∀ j x, m.insts[j]? = some x → _root_.Go.Ab.Vec 3 (dv j) (ob (5 + j)) (nm (5 + j)) (x.pins.map (.int .i64))
  o : _root_.Go.Ab.Vec 3 ov (ob 3) (nm 3) (m.outs.map (.int .i64))

def FlopsCopy (N : Nat) (h : AH) (r : Value) (fs : List Flop) : Prop := ∃ ob A, RowV flopL 65 h r ob A fs ∧ ∀ o, ob = some o → h.get A = some o ∧ N ≤ A
theorem FlopsCopy.sub {N : Nat} {h h' : AH} {r : Value} {fs : List Flop} (c : FlopsCopy N h r fs) (s : Sub h h') : FlopsCopy N h' r fs := by
  obtain ⟨ob, A, a, b⟩ := c
  exact ⟨ob, A, a.sub s, fun o e => ⟨s _ _ (b o e).1, (b o e).2⟩⟩

def copyF (N : Nat) (n : Net) (B : Nat) (cv fv ov : Value) : Nat → Value → AH → Prop
  | 0, v, _ => v = .pointer (some ⟨B, 0, none⟩)
  | 1, v, _ => v = cv
  | 2, v, h => CellsCopy N h v n.cells
  | 3, v, _ => v = .pointer (some ⟨B, 1, none⟩)
  | 4, v, _ => v = .int .i64 n.inputs
  | 5, v, h => ∃ A, v = .slice (some ⟨A, 0, none⟩) 0 0 ∧ h.get A = some (.row [] 65 true) ∧ N ≤ A
  | 6, v, _ => v = .pointer (some ⟨B, 2, none⟩)
  | 7, v, _ => v = fv
  | 8, v, h => FlopsCopy N h v n.flops
  | 9, v, h => ∃ A, v = .slice (some ⟨A, 0, none⟩) 0 0 ∧ h.get A = some (.row [] 3 true) ∧ N ≤ A
  | 10, v, _ => v = .pointer (some ⟨B, 4, none⟩)
  | 11, v, _ => v = ov
  | 12, v, h => WV 3 N h v (n.outs.map (.int .i64))
  | 13, v, h => ∃ c f o, v = .agg #[c, .int .i64 n.inputs, f, .slice none 0 0, o] ∧ CellsCopy N h c n.cells ∧ FlopsCopy N h f n.flops ∧ WV 3 N h o (n.outs.map (.int .i64))
  | 14, v, h => ∃ T, v = .pointer (some ⟨T, 0, none⟩) ∧ h.get T = some (.row zeroC 27 true) ∧ N ≤ T
  | _, _, _ => True

theorem copyF_sub {N : Nat} {n : Net} {B : Nat} {cv fv ov : Value} : ∀ i v h1 h2, copyF N n B cv fv ov i v h1 → Gr h1 h2 → copyF N n B cv fv ov i v h2 := by
  intro i v h1 h2 hF g
  unfold copyF at hF ⊢
  split at hF
  all_goals first
    | exact hF
    | exact CellsCopy.sub hF g.sub
    | exact FlopsCopy.sub hF g.sub
    | exact WV.sub hF g.sub
    | exact (let ⟨A, a, b, c⟩ := hF; ⟨A, a, g.sub _ _ b, c⟩)
    | exact (let ⟨c, f, o, a, b, d, e⟩ := hF; ⟨c, f, o, a, b.sub g.sub, d.sub g.sub, e.sub g.sub⟩)

theorem buildN4 {c i f o : Value} {k : Int} (hi : i = .int .i64 k) (hc : c.cells.toList = [c]) (hf : f.cells.toList = [f]) (ho : o.cells.toList = [o]) : aBuild Tryz.prog 27 [(0, c), (1, i), (2, f), (4, o)] = some (.agg #[c, i, f, .slice none 0 0, o]) := by
  subst hi
  have h0 : c.cells.size = 1 := by
    have := congrArg List.length hc
    simpa using this
  have h1 : f.cells.size = 1 := by
    have := congrArg List.length hf
    simpa using this
  have h2 : o.cells.size = 1 := by
    have := congrArg List.length ho
    simpa using this
  have hc0 : (Value.int .i64 k).cells = #[.int .i64 k] := rfl
  rw [buildS (zs := zeroC) (pl := [(0, 1), (1, 1), (2, 1), (3, 1), (4, 1)]) infN rfl ⟨_, Tryz.underlying27, by kernel_rfl⟩]
  simp [fillL, hc0, h0, h1, h2, hc, hf, ho, setL, zeroC]

/-- Behind the first region: the netlist without instances, laid. -/
theorem copyOne {a : AAct} {h : AH} {B : Nat} {n : Net} {cv fv iv ov : Value} (hn : a.n = 41) (hd : a.df = []) (h1 : a.tm 1 = .pointer (some ⟨B, 0, none⟩)) (hN : NetAt h B n cv fv iv ov) (r : NetR h n cv fv iv ov) (bd : NetB n) :
    AW Tryz.prog none (.region 1 (opsOf Tryz.f10 1) true) (fun e a' h' => e = .normal ∧ a'.n = 41 ∧ a'.df = [] ∧ a'.tm 1 = a.tm 1 ∧ a'.tm 2 = a.tm 2 ∧ a'.tm 0 = a.tm 0 ∧ Gr h h' ∧
      ∃ T nm ob cv' fv' ov', a'.tm 3 = .pointer (some ⟨T, 0, none⟩) ∧ PinV h h' { n with insts := [] } nm ob cv' fv' (.slice none 0 0) ov' (fun _ => undef) ∧ nm 4 = T ∧ ob 4 = some (.row (netC { n with insts := [] } cv' fv' (.slice none 0 0) ov') 27 true)) a h := by
  refine AW.at (by rfl : _ = Code.region 1 #[_, _, _, _, _, _, _, _, _, _, _, _, _, _, _, _] true) ?_
  refine AW.free (copyF h.next n B cv fv ov) [3, 6, 7, 8, 9, 10, 11, 12, 13, 14, 15, 16, 17, 18, 19] [[], [0], [1], [], [3], [], [], [6], [5, 7], [], [], [10], [9, 11], [2, 4, 8, 12], [], [13, 14]] mixed (by kernel_rfl) copyF_sub (fun hwf => ?_)
  simp only [List.toList_toArray]
  have bc := bd.c
  have bf := bd.f
  have bo := bd.o
  refine freeM_cons (fun a' h' hA hW => ?_) ?_
  · have ha1 := (hA.tm 1 (by decide)).trans h1
    simp (disch := first | omega | decide) only [push_cast, ↓reduceIte, Nat.reduceLT, Nat.reduceEqDiff, reduceCtorEq, Nat.reduceAdd, hA.n, hn, hA.df, hd, ha1, faL foN0, faL foN1, faL foN2, faL foN3, faL foN4]
    exact ⟨_, rfl, rfl, Gr.refl hA.gr.wf⟩
  refine freeM_cons (fun a' h' hA hW => ?_) ?_
  · have e0 : a'.tm 6 = .pointer (some ⟨B, 0, none⟩) := hW.1
    have hNx := hN.sub hA.gr.sub
    simp (disch := first | omega | decide) only [push_cast, ↓reduceIte, Nat.reduceLT, Nat.reduceEqDiff, reduceCtorEq, Nat.reduceAdd, hA.n, hn, hA.df, hd, e0, hNx.l0, hNx.l1, hNx.l2, hNx.l3, hNx.l4, hNx.la]
    exact ⟨_, rfl, rfl, Gr.refl hA.gr.wf⟩
  refine freeM_cons (fun a' h' hA hW => ?_) ?_
  · have e0 : a'.tm 7 = cv := hW.1
    simp (disch := first | omega | decide) only [push_cast, ↓reduceIte, Nat.reduceLT, Nat.reduceEqDiff, reduceCtorEq, Nat.reduceAdd, hA.n, hn, hA.df, hd, e0]
    refine ACall.mono ?_ (copy28 (r.c.sub hA.gr.sub) bc bd.d)
    rintro v h2 ⟨g, c⟩
    simp (disch := first | omega | decide) only [push_cast, ↓reduceIte, Nat.reduceLT, Nat.reduceEqDiff, reduceCtorEq, Nat.reduceAdd, hA.n, hn, hA.df, hd]
    exact ⟨_, rfl, c.le hA.gr.nx, g⟩
  refine freeM_cons (fun a' h' hA hW => ?_) ?_
  · have ha1 := (hA.tm 1 (by decide)).trans h1
    simp (disch := first | omega | decide) only [push_cast, ↓reduceIte, Nat.reduceLT, Nat.reduceEqDiff, reduceCtorEq, Nat.reduceAdd, hA.n, hn, hA.df, hd, ha1, faL foN0, faL foN1, faL foN2, faL foN3, faL foN4]
    exact ⟨_, rfl, rfl, Gr.refl hA.gr.wf⟩
  refine freeM_cons (fun a' h' hA hW => ?_) ?_
  · have e0 : a'.tm 9 = .pointer (some ⟨B, 1, none⟩) := hW.1
    have hNx := hN.sub hA.gr.sub
    simp (disch := first | omega | decide) only [push_cast, ↓reduceIte, Nat.reduceLT, Nat.reduceEqDiff, reduceCtorEq, Nat.reduceAdd, hA.n, hn, hA.df, hd, e0, hNx.l0, hNx.l1, hNx.l2, hNx.l3, hNx.l4, hNx.la]
    exact ⟨_, rfl, rfl, Gr.refl hA.gr.wf⟩
  refine freeM_cons (fun a' h' hA hW => ?_) ?_
  · have he : aBuildSlice Tryz.prog 23 0 [] h' = some (.slice (some ⟨h'.next, 0, none⟩) 0 0, h'.new (.row [] 65 true)) := by
      obtain ⟨i, z, hi, h1, hb, hz, hc, hzk, hp⟩ := smF.info
      simp only [aBuildSlice, smF.sl, hi, hz, h1, hp, hc, fillL, zeros]
      simp [SL]
    simp (disch := first | omega | decide) only [push_cast, ↓reduceIte, Nat.reduceLT, Nat.reduceEqDiff, reduceCtorEq, Nat.reduceAdd, hA.n, hn, hA.df, hd, he]
    exact ⟨_, rfl, ⟨h'.next, rfl, by rw [AH.new_get, if_pos rfl], hA.gr.nx⟩, (Gr.refl hA.gr.wf).new _⟩
  refine freeM_cons (fun a' h' hA hW => ?_) ?_
  · have ha1 := (hA.tm 1 (by decide)).trans h1
    simp (disch := first | omega | decide) only [push_cast, ↓reduceIte, Nat.reduceLT, Nat.reduceEqDiff, reduceCtorEq, Nat.reduceAdd, hA.n, hn, hA.df, hd, ha1, faL foN0, faL foN1, faL foN2, faL foN3, faL foN4]
    exact ⟨_, rfl, rfl, Gr.refl hA.gr.wf⟩
  refine freeM_cons (fun a' h' hA hW => ?_) ?_
  · have e0 : a'.tm 12 = .pointer (some ⟨B, 2, none⟩) := hW.1
    have hNx := hN.sub hA.gr.sub
    simp (disch := first | omega | decide) only [push_cast, ↓reduceIte, Nat.reduceLT, Nat.reduceEqDiff, reduceCtorEq, Nat.reduceAdd, hA.n, hn, hA.df, hd, e0, hNx.l0, hNx.l1, hNx.l2, hNx.l3, hNx.l4, hNx.la]
    exact ⟨_, rfl, rfl, Gr.refl hA.gr.wf⟩
  refine freeM_cons (fun a' h' hA hW => ?_) ?_
  · obtain ⟨A, e0, hgA, hNA⟩ : ∃ A, a'.tm 11 = .slice (some ⟨A, 0, none⟩) 0 0 ∧ h'.get A = some (.row [] 65 true) ∧ h.next ≤ A := hW.1
    have e1 : a'.tm 13 = fv := hW.2.1
    obtain ⟨r', h2, o', A', ys, happ, g2, hV, hA', hlo, hrel⟩ := copyM (L := flopL) (t := 23) smF hA.gr.wf hgA (r.f.sub hA.gr.sub) (by omega) (by omega)
    simp (disch := first | omega | decide) only [push_cast, ↓reduceIte, Nat.reduceLT, Nat.reduceEqDiff, reduceCtorEq, Nat.reduceAdd, hA.n, hn, hA.df, hd, e0, e1, happ]
    have := hA.gr.nx
    exact ⟨_, rfl, ⟨some o', A', ⟨ys, hV, hrel⟩, fun o e => by cases e; exact ⟨hA', by rcases hlo with e | e <;> omega⟩⟩, g2⟩
  refine freeM_cons (fun a' h' hA hW => ?_) ?_
  · simp (disch := first | omega | decide) only [push_cast, ↓reduceIte, Nat.reduceLT, Nat.reduceEqDiff, reduceCtorEq, Nat.reduceAdd, hA.n, hn, hA.df, hd, aBuildSlice_empty t22 h']
    exact ⟨_, rfl, ⟨h'.next, rfl, by rw [AH.new_get, if_pos rfl], hA.gr.nx⟩, (Gr.refl hA.gr.wf).new _⟩
  refine freeM_cons (fun a' h' hA hW => ?_) ?_
  · have ha1 := (hA.tm 1 (by decide)).trans h1
    simp (disch := first | omega | decide) only [push_cast, ↓reduceIte, Nat.reduceLT, Nat.reduceEqDiff, reduceCtorEq, Nat.reduceAdd, hA.n, hn, hA.df, hd, ha1, faL foN0, faL foN1, faL foN2, faL foN3, faL foN4]
    exact ⟨_, rfl, rfl, Gr.refl hA.gr.wf⟩
  refine freeM_cons (fun a' h' hA hW => ?_) ?_
  · have e0 : a'.tm 16 = .pointer (some ⟨B, 4, none⟩) := hW.1
    have hNx := hN.sub hA.gr.sub
    simp (disch := first | omega | decide) only [push_cast, ↓reduceIte, Nat.reduceLT, Nat.reduceEqDiff, reduceCtorEq, Nat.reduceAdd, hA.n, hn, hA.df, hd, e0, hNx.l0, hNx.l1, hNx.l2, hNx.l3, hNx.l4, hNx.la]
    exact ⟨_, rfl, rfl, Gr.refl hA.gr.wf⟩
  refine freeM_cons (fun a' h' hA hW => ?_) ?_
  · obtain ⟨A, e0, hgA, hNA⟩ : ∃ A, a'.tm 15 = .slice (some ⟨A, 0, none⟩) 0 0 ∧ h'.get A = some (.row [] 3 true) ∧ h.next ≤ A := hW.1
    have e1 : a'.tm 17 = ov := hW.2.1
    obtain ⟨r', h2, o', A', happ, g2, hV, hA', hlo⟩ := copyV (t := 25) t22 hA.gr.wf hgA (r.o.sub hA.gr.sub) (by rw [List.length_map]; omega) (by rw [List.length_map]; unfold ML; omega)
    simp (disch := first | omega | decide) only [push_cast, ↓reduceIte, Nat.reduceLT, Nat.reduceEqDiff, reduceCtorEq, Nat.reduceAdd, hA.n, hn, hA.df, hd, e0, e1, happ]
    have := hA.gr.nx
    exact ⟨_, rfl, ⟨some o', A', hV, fun o e => by cases e; exact ⟨hA', by rcases hlo with e | e <;> omega⟩⟩, g2⟩
  refine freeM_cons (fun a' h' hA hW => ?_) ?_
  · have e2 : CellsCopy h.next h' (a'.tm 8) n.cells := hW.1
    have e4 : a'.tm 10 = .int .i64 n.inputs := hW.2.1
    have e8 : FlopsCopy h.next h' (a'.tm 14) n.flops := hW.2.2.1
    have e12 : WV 3 h.next h' (a'.tm 18) (n.outs.map (.int .i64)) := hW.2.2.2.1
    have o2 : (a'.tm 8).cells.toList = [a'.tm 8] := by obtain ⟨ob, A, x, _⟩ := e2; exact x.one.2
    have o8 : (a'.tm 14).cells.toList = [a'.tm 14] := by obtain ⟨ob, A, x, _⟩ := e8; exact x.one.2
    have eb := buildN4 e4 o2 o8 e12.one.2
    simp (disch := first | omega | decide) only [push_cast, ↓reduceIte, Nat.reduceLT, Nat.reduceEqDiff, reduceCtorEq, Nat.reduceAdd, hA.n, hn, hA.df, hd, eb]
    exact ⟨_, rfl, ⟨_, _, _, by rw [e4], e2, e8, e12⟩, Gr.refl hA.gr.wf⟩
  refine freeM_cons (fun a' h' hA hW => ?_) ?_
  · simp (disch := first | omega | decide) only [push_cast, ↓reduceIte, Nat.reduceLT, Nat.reduceEqDiff, reduceCtorEq, Nat.reduceAdd, hA.n, hn, hA.df, hd, alL zrN]
    exact ⟨_, rfl, ⟨h'.next, rfl, by rw [AH.new_get, if_pos rfl], hA.gr.nx⟩, (Gr.refl hA.gr.wf).new _⟩
  refine freeM_last (fun a' h' hA hW => ?_)
  obtain ⟨c, f, o, e13, e2, e8, e12⟩ : ∃ c f o, a'.tm 19 = .agg #[c, .int .i64 n.inputs, f, .slice none 0 0, o] ∧ CellsCopy h.next h' c n.cells ∧ FlopsCopy h.next h' f n.flops ∧ WV 3 h.next h' o (n.outs.map (.int .i64)) := hW.1
  obtain ⟨T, e14, hT, hNT⟩ : ∃ T, a'.tm 3 = .pointer (some ⟨T, 0, none⟩) ∧ h'.get T = some (.row zeroC 27 true) ∧ h.next ≤ T := hW.2.1
  have ha0 := hA.tm 0 (by decide)
  have ha1 := hA.tm 1 (by decide)
  have ha2 := hA.tm 2 (by decide)
  obtain ⟨obc, Ac, hc, hcg⟩ := e2
  obtain ⟨obf, Af, hf, hfg⟩ := e8
  obtain ⟨obo, Ao, ho, hog⟩ := e12
  have ho1 : oneC o = true := (WV.one ⟨obo, Ao, ho, hog⟩).1
  have hst := stA agN hT rfl [c, .int .i64 n.inputs, f, .slice none 0 0, o] rfl (by simp only [List.all_cons, List.all_nil, hc.one.1, hf.one.1, ho1]; rfl)
  have hlt := AH.get_lt hA.gr.wf hT
  simp (disch := first | omega | decide) only [push_cast, ↓reduceIte, Nat.reduceLT, Nat.reduceEqDiff, reduceCtorEq, Nat.reduceAdd, hA.n, hn, hA.df, hd, e13, e14, hst, ha0, ha1, ha2]
  have gk := hA.gr.set hwf hNT hlt (.row [c, .int .i64 n.inputs, f, .slice none 0 0, o] 27 true)
  have hkT : (h'.set T (.row [c, .int .i64 n.inputs, f, .slice none 0 0, o] 27 true)).get T = some (.row [c, .int .i64 n.inputs, f, .slice none 0 0, o] 27 true) := by rw [AH.set_get, if_pos rfl]
  have hkeep : ∀ C p e, h'.get C = some p → p.ty = some e → e ≠ 27 → (h'.set T (.row [c, .int .i64 n.inputs, f, .slice none 0 0, o] 27 true)).get C = some p := fun C p e hC hp hne => by
    rw [AH.set_get, if_neg (ty_ne hC hT hp rfl hne)]; exact hC
  generalize h'.set T (.row [c, .int .i64 n.inputs, f, .slice none 0 0, o] 27 true) = k at gk hkT hkeep ⊢
  obtain ⟨zc, hc1, hc2⟩ := hc
  obtain ⟨zf, hf1, hf2⟩ := hf
  have hN0 : ∀ (e : TypeId) (s : Nat) (p : AObj), (none : Option AObj) = some p → p.ty ≠ some e := fun e s p x => (nomatch x)
  have tc := hc1.ty
  have tf := hf1.ty
  have to := ho.ty
  have tT : ∀ p, some (AObj.row [c, .int .i64 n.inputs, f, .slice none 0 0, o] 27 true) = some p → p.ty = some 27 := fun p x => by cases x; rfl
  have O1 := ownsAdd (r := 0) (A := Ac) (obx := obc) (ownsNone gk) (fun p x => ⟨hkeep _ _ _ (hcg p x).1 (tc p x) (by decide), (hcg p x).2⟩) (hN0 40) tc
  have O2 := ownsAdd (r := 1) (A := Af) (obx := obf) O1 (fun p x => ⟨hkeep _ _ _ (hfg p x).1 (tf p x) (by decide), (hfg p x).2⟩) (updTy (hN0 65) tc (by decide)) tf
  have O3 := ownsAdd (r := 3) (A := Ao) (obx := obo) O2 (fun p x => ⟨hkeep _ _ _ (hog p x).1 (to p x) (by decide), (hog p x).2⟩) (updTy (updTy (hN0 3) tc (by decide)) tf (by decide)) to
  have O4 := ownsAdd (r := 4) (A := T) O3 (fun p x => by cases x; exact ⟨hkT, hNT⟩) (updTy (updTy (updTy (hN0 27) tc (by decide)) tf (by decide)) to (by decide)) tT
  refine ⟨gk, T, _, _, c, f, o, rfl, ⟨O4, ?_, ?_, ?_, ?_, ?_, ?_⟩, upd_same _ _ _, upd_same _ _ _⟩
  · intro r hr
    have hr : 5 ≤ r := hr
    rw [upd_ne _ _ (by omega), upd_ne _ _ (by omega), upd_ne _ _ (by omega), upd_ne _ _ (by omega)]
  · rw [upd_ne _ _ (by decide), upd_ne _ _ (by decide), upd_ne _ _ (by decide), upd_same, upd_ne _ _ (by decide), upd_ne _ _ (by decide), upd_ne _ _ (by decide), upd_same]
    refine ⟨zc, hc1, fun j x hj => ?_⟩
    obtain ⟨dv, e, hd⟩ := hc2 j x hj
    refine ⟨dv, e, hd.move (fun A p hA1 _ hp => ?_)⟩
    have hA2 := (hide_get.1 hA1).2
    have hA3 := hkeep _ _ _ hA2 hp (by decide)
    exact hide_get.2 ⟨noOwn O4 (updTy (updTy (updTy (updTy (hN0 2) tc (by decide)) tf (by decide)) to (by decide)) tT (by decide)) hA3 hp, hA3⟩
  · rw [upd_ne _ _ (by decide), upd_ne _ _ (by decide), upd_same, upd_ne _ _ (by decide), upd_ne _ _ (by decide), upd_same]
    exact ⟨zf, hf1, hf2⟩
  · rw [upd_ne _ _ (by decide), upd_ne _ _ (by decide), upd_ne _ _ (by decide), upd_ne _ _ (by decide), upd_ne _ _ (by decide), upd_ne _ _ (by decide), upd_ne _ _ (by decide), upd_ne _ _ (by decide)]
    exact ⟨[], ⟨rfl, .inl ⟨rfl, rfl, rfl⟩⟩, fun j x hj => by simp at hj⟩
  · intro j x hj; simp at hj
  · rw [upd_ne _ _ (by decide), upd_same, upd_ne _ _ (by decide), upd_same]
    exact ho


section
variable {b h k : AH} {m : Net} {nm : Nat → Nat} {ob : Nat → Option AObj} {cv fv iv ov : Value} {dv : Nat → Value}

theorem ownSet0 {r : Nat} {o o' : AObj} (w0 : WFH b) (ho : _root_.Go.Ab.Owns b h nm ob) (hr : ob r = some o) : _root_.Go.Ab.Owns b (h.set (nm r) o') nm (upd ob r (some o')) ∧ Sub (hide (Own nm ob) h) (hide (Own nm (upd ob r (some o'))) (h.set (nm r) o')) := by
  have hlt := AH.get_lt ho.gr.wf (ho.get r o hr)
  obtain ⟨o2, s2⟩ := ownUp (h' := h.set (nm r) o') (o' := o') (r := r) (A' := nm r) w0 ho (by rw [AH.set_get, if_pos rfl]) (.inl ⟨rfl, by rw [hr]; simp⟩) (fun B p hB he => by
    rw [AH.set_get, if_neg (fun e => by have := he e; rw [hr] at this; cases this)]; exact hB) (ho.gr.wf.set hlt _) (by simp)
  have : upd nm r (nm r) = nm := by funext i; unfold upd; split <;> simp_all
  rw [this] at o2 s2
  exact ⟨o2, s2⟩

theorem chunkPush {zs : List Value} {L : Nat} {a c : Value} (hl : zs.length = L * 2) {j : Nat} (hj : j ≤ L) : ((zs ++ [a, c]).drop (j * 2)).take 2 = if j = L then [a, c] else (zs.drop (j * 2)).take 2 := by
  by_cases e : j = L
  · subst e
    rw [if_pos rfl, ← hl, List.drop_left]; rfl
  · rw [if_neg e, List.drop_append_of_le_length (by omega), List.take_append_of_le_length (by rw [List.length_drop]; omega)]

/-- An instance more, of pins that were laid. -/
theorem PinV.pushI (Pv : PinV b k m nm ob cv fv iv ov dv) (w0 : WFH b) {T : Nat} (h4 : ob 4 = some (.row (netC m cv fv iv ov) 27 true)) (n4 : nm 4 = T) {k3 : AH} (g : Gr k k3) {x : Inst} {r' : Value} {o' : AObj} {A' : Nat}
    (hV : _root_.Go.Ab.Vec 3 r' (some o') A' (x.pins.map (.int .i64))) (hA : k3.get A' = some o') (hlo : k.next ≤ A') (hb : m.insts.length ≤ 4294967296) :
    aBuildSlice Tryz.prog 24 1 [(0, .agg #[.int .i64 x.cell, r'])] k3 = some (.slice (some ⟨k3.next, 0, none⟩) 1 1, k3.new (.row [.int .i64 x.cell, r'] 36 true)) ∧
    ∃ v' k5 k6 nm' ob' dv', aAppend Tryz.prog #[24, 24] iv (.slice (some ⟨k3.next, 0, none⟩) 1 1) (k3.new (.row [.int .i64 x.cell, r'] 36 true)) = some (v', k5) ∧ aStore Tryz.prog 24 (.pointer (some ⟨T, 3, none⟩)) v' k5 = some k6 ∧
      PinV b k6 { m with insts := m.insts ++ [x] } nm' ob' cv fv v' ov dv' ∧ nm' 4 = T ∧ ob' 4 = some (.row (netC { m with insts := m.insts ++ [x] } cv fv v' ov) 27 true) ∧ k.next ≤ k6.next ∧
      (∀ C p, k3.get C = some p → C ≠ A' → ¬ Own nm ob C → (k3.new (.row [.int .i64 x.cell, r'] 36 true)).get C = some p ∧ k5.get C = some p ∧ k6.get C = some p) := by
  obtain ⟨oA, sA⟩ := ownUp (r := 5 + m.insts.length) (A' := A') (o' := o') (h' := k3) w0 Pv.own hA (.inr hlo) (fun B o hB _ => g.sub _ _ hB) g.wf g.nx
  obtain ⟨zs, hzs, hzr⟩ := Pv.i
  have hr1 : oneC r' = true := by
    obtain ⟨p, l, c, rfl, _⟩ := hV.sl (h := k3) (fun o e => by cases e; exact hA); rfl
  have hv2 : VecM 2 36 iv (upd ob (5 + m.insts.length) (some o') 2) (upd nm (5 + m.insts.length) A' 2) m.insts.length zs := by
    rw [upd_ne _ _ (by omega), upd_ne _ _ (by omega)]; exact hzs
  obtain ⟨e1, v', k5, A2, o2, e2, hV2, oB, sB, nB⟩ := ownPush (xs := [.int .i64 x.cell, r']) smN (by decide) w0 oA hv2 rfl (by simp only [List.all_cons, List.all_nil, hr1]; rfl) (by omega) (by omega)
  have h4' : upd (upd ob (5 + m.insts.length) (some o')) 2 (some o2) 4 = some (.row (netC m cv fv iv ov) 27 true) := by
    rw [upd_ne _ _ (by decide), upd_ne _ _ (by omega)]; exact h4
  have n4' : upd (upd nm (5 + m.insts.length) A') 2 A2 4 = T := by
    rw [upd_ne _ _ (by decide), upd_ne _ _ (by omega)]; exact n4
  have hg := oB.get 4 _ h4'
  rw [n4'] at hg
  have hvl : v'.cells.toList = [v'] ∧ oneC v' = true := ⟨hV2.one.2, hV2.one.1⟩
  have est := stC szN hg 3 v' (by simp [netC]) hvl.1 hvl.2
  obtain ⟨oC, sC⟩ := ownSet0 (o' := .row ((netC m cv fv iv ov).set 3 v') 27 true) w0 oB h4'
  rw [n4'] at oC sC
  have s3 := (sA.trans sB).trans sC
  refine ⟨e1, v', k5, _, _, _, upd dv m.insts.length r', e2, est, ⟨oC, ?_, ?_, ?_, ?_, ?_, ?_⟩, n4', upd_same _ _ _, Nat.le_trans g.nx (by simpa using nB), fun C p hC hCA hCo => ?_⟩
  · intro r hr
    have hr : 5 + (m.insts ++ [x]).length ≤ r := hr
    rw [List.length_append] at hr
    simp only [List.length_cons, List.length_nil] at hr
    rw [upd_ne _ _ (by omega), upd_ne _ _ (by omega), upd_ne _ _ (by omega)]
    exact Pv.hi r (by omega)
  · have : RowV (cellW b.next) 40 _ cv (ob 0) (nm 0) m.cells := Pv.c.sub s3
    rw [upd_ne _ _ (by decide), upd_ne _ _ (by decide), upd_ne _ _ (by omega), upd_ne _ _ (by decide), upd_ne _ _ (by omega)]
    exact this
  · have : RowV flopL 65 _ fv (ob 1) (nm 1) m.flops := Pv.f.sub s3
    rw [upd_ne _ _ (by decide), upd_ne _ _ (by decide), upd_ne _ _ (by omega), upd_ne _ _ (by decide), upd_ne _ _ (by omega)]
    exact this
  · rw [upd_ne _ _ (by decide), upd_same, upd_same]
    refine ⟨zs ++ [.int .i64 x.cell, r'], by simpa using hV2, fun j y hj => ?_⟩
    have hjl : j < (m.insts ++ [x]).length := (List.getElem?_eq_some_iff.1 hj).1
    simp only [List.length_append, List.length_cons, List.length_nil] at hjl
    rw [chunkPush hzs.1 (by omega)]
    by_cases e : j = m.insts.length
    · subst e
      rw [if_pos rfl, upd_same]
      simp at hj
      subst hj; rfl
    · rw [if_neg e, upd_ne _ _ e]
      rw [List.getElem?_append_left (by omega)] at hj
      exact hzr j y hj
  · intro j y hj
    have hjl : j < (m.insts ++ [x]).length := (List.getElem?_eq_some_iff.1 hj).1
    simp only [List.length_append, List.length_cons, List.length_nil] at hjl
    rw [upd_ne _ _ (show 5 + j ≠ 4 by omega), upd_ne _ _ (show 5 + j ≠ 2 by omega), upd_ne _ _ (show 5 + j ≠ 2 by omega)]
    by_cases e : j = m.insts.length
    · subst e
      rw [upd_same, upd_same, upd_same]
      simp only [List.getElem?_concat_length, Option.some.injEq] at hj
      subst hj; exact hV
    · rw [upd_ne _ _ e, upd_ne _ _ (show 5 + j ≠ 5 + m.insts.length by omega), upd_ne _ _ (show 5 + j ≠ 5 + m.insts.length by omega)]
      rw [List.getElem?_append_left (by omega)] at hj
      exact Pv.p j y hj
  · rw [upd_ne _ _ (by decide), upd_ne _ _ (by decide), upd_ne _ _ (by omega), upd_ne _ _ (by decide), upd_ne _ _ (by omega)]
    exact Pv.o
  · have hnA : ¬ Own (upd nm (5 + m.insts.length) A') (upd ob (5 + m.insts.length) (some o')) C := by
      rintro ⟨r, hr, e⟩
      by_cases q : r = 5 + m.insts.length
      · subst q; rw [upd_same] at e; exact hCA e.symm
      · rw [upd_ne _ _ q] at hr e; exact hCo ⟨r, hr, e⟩
    have h1 := hide_get.2 ⟨hnA, hC⟩
    have h2 := sB _ _ h1
    have h3 := sC _ _ h2
    exact ⟨Sub.new g.wf _ _ _ hC, (hide_get.1 h2).2, (hide_get.1 h3).2⟩
end


section
variable {b h k : AH} {m : Net} {nm : Nat → Nat} {ob : Nat → Option AObj} {cv fv iv ov : Value} {dv : Nat → Value}

theorem PinV.rebase (Pv : PinV b k m nm ob cv fv iv ov dv) (w0 : WFH h) (g : Gr h b) {X : Nat} (hX : X < b.next) (hX0 : h.next ≤ X) (o : AObj) : PinV h (k.set X o) m nm ob cv fv iv ov dv := by
  have hk : ∀ A p, b.next ≤ A → k.get A = some p → (k.set X o).get A = some p := fun A p hA hp => by rw [AH.set_get, if_neg (by omega)]; exact hp
  refine ⟨⟨fun r p hr => hk _ _ (Pv.own.lo r p hr) (Pv.own.get r p hr), Pv.own.dis, fun r p hr => Nat.le_trans g.nx (Pv.own.lo r p hr), (g.trans Pv.own.gr).set w0 hX0 (Nat.lt_of_lt_of_le hX Pv.own.gr.nx) o⟩, Pv.hi, ?_, ?_, Pv.i, Pv.p, Pv.o⟩
  · obtain ⟨zs, h1, h2⟩ := Pv.c
    refine ⟨zs, h1, fun j x hj => ?_⟩
    obtain ⟨d, e, w⟩ := h2 j x hj
    refine ⟨d, e, (w.move (fun A p hA hN _ => ?_)).le g.nx⟩
    obtain ⟨x1, x2⟩ := hide_get.1 hA
    exact hide_get.2 ⟨x1, hk _ _ hN x2⟩
  · obtain ⟨zs, h1, h2⟩ := Pv.f
    exact ⟨zs, h1, h2⟩

theorem PinV.drop4 (Pv : PinV b k m nm ob cv fv iv ov dv) : PinV b k m nm (upd ob 4 none) cv fv iv ov dv := by
  have hs : ∀ r p, upd ob 4 none r = some p → ob r = some p := fun r p hr => by
    by_cases e : r = 4
    · subst e; rw [upd_same] at hr; cases hr
    · rw [upd_ne _ _ e] at hr; exact hr
  have s : Sub (hide (Own nm ob) k) (hide (Own nm (upd ob 4 none)) k) := fun C p hC => by
    obtain ⟨h1, h2⟩ := hide_get.1 hC
    refine hide_get.2 ⟨?_, h2⟩
    rintro ⟨r, hr, e⟩
    cases hx : upd ob 4 none r with
    | none => exact hr hx
    | some q => exact h1 ⟨r, by rw [hs r q hx]; simp, e⟩
  refine ⟨⟨fun r p hr => Pv.own.get r p (hs r p hr), fun r s o p hr hs' => Pv.own.dis r s o p (hs r o hr) (hs s p hs'), fun r p hr => Pv.own.lo r p (hs r p hr), Pv.own.gr⟩, fun r hr => ?_, ?_, ?_, ?_, fun j x hj => ?_, ?_⟩
  · by_cases e : r = 4
    · subst e; exact upd_same _ _ _
    · rw [upd_ne _ _ e]; exact Pv.hi r hr
  · rw [upd_ne _ _ (by decide)]; exact Pv.c.sub s
  · rw [upd_ne _ _ (by decide)]; exact Pv.f.sub s
  · rw [upd_ne _ _ (by decide)]; exact Pv.i
  · rw [upd_ne _ _ (show 5 + j ≠ 4 by omega)]; exact Pv.p j x hj
  · rw [upd_ne _ _ (by decide)]; exact Pv.o
end

theorem copy29 {h : AH} {n : Net} {cv fv iv ov : Value} (r : NetR h n cv fv iv ov) (bd : NetB n) :
    ACall Tryz.prog 10 [.agg (netC n cv fv iv ov).toArray] h (fun r h' => ∃ cv' fv' iv' ov' nm ob dv, r = .agg (netC n cv' fv' iv' ov').toArray ∧ PinV h h' n nm ob cv' fv' iv' ov' dv ∧ ob 4 = none) := by
  refine ACall.wf ⟨_, Tryz.func10, rfl, by kernel_rfl⟩ fun hwf => ?_
  refine ACall.of_wp 41 [.cell 2 27] Tryz.func10 rfl (by kernel_rfl) rfl rfl fun a hn hd ha => ?_
  have hbox := boxA 27 h _ r.one
  have hN := NetAt.new (h := h) (n := n) (cv := cv) (fv := fv) (iv := iv) (ov := ov)
  have g1 : Gr h (h.new (.row (netC n cv fv iv ov) 27 true)) := (Gr.refl hwf).new _
  have hnx : (h.new (.row (netC n cv fv iv ov) 27 true)).next = h.next + 1 := rfl
  simp (disch := first | omega | decide | (simp only [List.length_cons, List.length_nil] <;> omega)) only [push_cast, ↓reduceIte, Nat.reduceLT, Nat.reduceEqDiff, reduceCtorEq, Nat.reduceAdd, hn, hd, ha, hbox, alL zrN]
  generalize h.new (.row (netC n cv fv iv ov) 27 true) = h1 at hN g1 hnx ⊢
  have g2 := (Gr.refl g1.wf).new (.row zeroC 27 true)
  have hX : (h1.new (.row zeroC 27 true)).get h1.next = some (.row zeroC 27 true) := by rw [AH.new_get, if_pos rfl]
  have hXlo : h.next ≤ h1.next := by omega
  have hXlt : h1.next < (h1.new (.row zeroC 27 true)).next := Nat.lt_succ_self _
  replace g2 := g1.trans g2
  have hwf2 := g2.wf
  have hN2 := hN.sub (Sub.new g1.wf (.row zeroC 27 true))
  generalize h1.new (.row zeroC 27 true) = h2 at g2 hwf2 hX hXlt hN2 ⊢
  generalize h1.next = X at hX hXlo hXlt ⊢
  generalize h.next = B0 at hN2 ⊢
  clear hN g1 hnx h1
  have r2 := r.sub g2.sub
  have bi := bd.i
  refine AW.mono ?_ (copyOne (B := B0) (n := n) (by simp (disch := first | omega | decide | (simp only [List.length_cons, List.length_nil] <;> omega)) only [push_cast, ↓reduceIte, Nat.reduceLT, Nat.reduceEqDiff, reduceCtorEq, Nat.reduceAdd, hn]) (by simp (disch := first | omega | decide | (simp only [List.length_cons, List.length_nil] <;> omega)) only [push_cast, ↓reduceIte, Nat.reduceLT, Nat.reduceEqDiff, reduceCtorEq, Nat.reduceAdd, hd]) (by simp (disch := first | omega | decide | (simp only [List.length_cons, List.length_nil] <;> omega)) only [push_cast, ↓reduceIte, Nat.reduceLT, Nat.reduceEqDiff, reduceCtorEq, Nat.reduceAdd, ha]) hN2 r2 bd)
  rintro _ a1 k1 ⟨rfl, n1, d1, t1, t2, -, gk1, T, nm, ob, cv', fv', ov', t3, Pv, hnm4, hob4⟩
  have t1' : a1.tm 1 = .pointer (some ⟨B0, 0, none⟩) := by rw [t1]; simp (disch := first | omega | decide | (simp only [List.length_cons, List.length_nil] <;> omega)) only [push_cast, ↓reduceIte, Nat.reduceLT, Nat.reduceEqDiff, reduceCtorEq, Nat.reduceAdd, ha]
  have t2' : a1.tm 2 = .pointer (some ⟨X, 0, none⟩) := by rw [t2]; simp (disch := first | omega | decide | (simp only [List.length_cons, List.length_nil] <;> omega)) only [push_cast, ↓reduceIte, Nat.reduceLT, Nat.reduceEqDiff, reduceCtorEq, Nat.reduceAdd, ha]
  clear t1 t2 hn hd ha a
  have hN3 := hN2.sub gk1.sub
  have r3 := r2.sub gk1.sub
  simp (disch := first | omega | decide | (simp only [List.length_cons, List.length_nil] <;> omega)) only [push_cast, ↓reduceIte, Nat.reduceLT, Nat.reduceEqDiff, reduceCtorEq, Nat.reduceAdd, n1, d1, t1', t2', t3, faL foN0, faL foN1, faL foN2, faL foN3, faL foN4, hN3.l0, hN3.l1, hN3.l2, hN3.l3, hN3.l4, hN3.la, r3.i.len Tryz.underlying24]
  refine AW.loopN 24 [5, 23] (fun q a' h' => ∃ (i : Nat) (nm : Nat → Nat) (ob : Nat → Option AObj) (iv' : Value) (dv : Nat → Value), a'.tm 23 = .int .i64 i ∧ i + q = n.insts.length ∧ PinV h2 h' { n with insts := n.insts.take i } nm ob cv' fv' iv' ov' dv ∧ nm 4 = T ∧ ob 4 = some (.row (netC { n with insts := n.insts.take i } cv' fv' iv' ov') 27 true)) n.insts.length ?_ ?_
  · exact ⟨0, nm, ob, .slice none 0 0, fun _ => undef, by simp (disch := first | omega | decide | (simp only [List.length_cons, List.length_nil] <;> omega)) only [push_cast, ↓reduceIte, Nat.reduceLT, Nat.reduceEqDiff, reduceCtorEq, Nat.reduceAdd], by omega, by rw [List.take_zero]; exact Pv, hnm4, by rw [List.take_zero]; exact hob4⟩
  clear Pv hnm4 hob4 nm ob gk1 hN3 r3
  rintro a2 q a' k hk kn kd kt ⟨i, nm, ob, iv', dv, h23, hiq, Pv, hnm4, hob4⟩
  simp (disch := first | omega | decide | (simp only [List.length_cons, List.length_nil] <;> omega)) only [push_cast, ↓reduceIte, Nat.reduceLT, Nat.reduceEqDiff, reduceCtorEq, Nat.reduceAdd, kn, kd, kt, n1, d1, t1', t2', t3, h23]
  have gk := Pv.own.gr
  refine condV_of (fun hlt => ?_) (fun hge => ?_)
  · have hi : i < n.insts.length := by have := hlt; simp at this; omega
    obtain ⟨cs, ⟨pv, rfl, hpv⟩, hld, -, -⟩ := r2.i.get hi default
    replace hld := aLoad_sub gk.sub (hld _ agI)
    have hpl := bd.p _ (getD_mem hi default)
    have htake : n.insts.take (i + 1) = n.insts.take i ++ [n.insts.getD i default] := take_succ_getD hi default
    have hil : (n.insts.take i).length = i := by rw [List.length_take]; omega
    generalize n.insts.getD i default = x at *
    have hone : [Value.int .i64 x.cell, pv].all oneC = true := by simp only [List.all_cons, List.all_nil, hpv.one]; rfl
    have hst := fun (hh : AH) cs e hl => stN agI hh cs e [Value.int .i64 x.cell, pv] hl rfl hone
    have gI := (Gr.refl gk.wf).new (.row [Value.int .i64 x.cell, pv] 36 true)
    have hpv2 := (hpv.sub gk.sub).sub gI.sub
    have hnew : (k.new (.row [Value.int .i64 x.cell, pv] 36 true)).next = k.next + 1 := rfl
    have hCs : CsAt (k.new (.row [Value.int .i64 x.cell, pv] 36 true)) k.next [Value.int .i64 x.cell, pv] := CsAt.new _ _ _ _
    have hM : NetAt k T { n with insts := n.insts.take i } cv' fv' iv' ov' := ⟨_, hnm4 ▸ Pv.own.get 4 _ hob4, rfl⟩
    have hM1 := hM.sub gI.sub
    simp (disch := first | omega | decide | (simp only [List.length_cons, List.length_nil] <;> omega)) only [push_cast, ↓reduceIte, Nat.reduceLT, Nat.reduceEqDiff, reduceCtorEq, Nat.reduceAdd, kn, kd, kt, n1, d1, t1', t2', t3, h23, r2.i.idx Tryz.underlying24 infI, hld, alL zrI, hst]
    generalize k.new (.row [Value.int .i64 x.cell, pv] 36 true) = k1 at gI hpv2 hnew hCs hM1 ⊢
    have g2k := (Gr.refl gI.wf).new (.row [] 3 true)
    have hg2 : (k1.new (.row [] 3 true)).get k1.next = some (.row [] 3 true) := by rw [AH.new_get, if_pos rfl]
    have hn2 : (k1.new (.row [] 3 true)).next = k1.next + 1 := rfl
    have hM2 := hM1.sub g2k.sub
    have hCs2 := hCs.sub g2k.sub
    have hbs := aBuildSlice_empty t22 k1
    generalize k1.new (.row [] 3 true) = k2 at g2k hg2 hn2 hM2 hCs2 hbs
    obtain ⟨r', k3, o', A', happ, g3, hV, hA, hlo⟩ := copyV (t := 25) t22 g2k.wf hg2 (hpv2.sub g2k.sub) (by rw [List.length_map]; omega) (by rw [List.length_map]; unfold ML; omega)
    have hM3 := hM2.sub g3.sub
    have hCs3 := hCs2.sub g3.sub
    have gk3 := (gI.trans g2k).trans g3
    have hr1 : r'.cells.toList = [r'] := by obtain ⟨p, l, c, rfl, _⟩ := hV.sl (h := k3) (fun o e => by cases e; exact hA); rfl
    obtain ⟨e1, v', k5, k6, nm', ob', dv', e2, e3, Pv6, hnm6, hob6, n6, hkeep⟩ := Pv.pushI (x := x) hwf2 hob4 hnm4 gk3 hV hA (by rcases hlo with e | e <;> omega) (by show (n.insts.take i).length ≤ _; omega)
    have hD : ∀ p, k3.get k.next = some p → (k3.new (.row [.int .i64 x.cell, r'] 36 true)).get k.next = some p ∧ k5.get k.next = some p ∧ k6.get k.next = some p := fun p hp => hkeep _ p hp (by rcases hlo with e | e <;> omega) (fun hC => by have := ownLt Pv.own hC; omega)
    have hC4 : CsAt (k3.new (.row [.int .i64 x.cell, r'] 36 true)) k.next [Value.int .i64 x.cell, pv] := let ⟨p, y, z⟩ := hCs3; ⟨p, (hD p y).1, z⟩
    have hC5 : CsAt k5 k.next [Value.int .i64 x.cell, pv] := let ⟨p, y, z⟩ := hCs3; ⟨p, (hD p y).2.1, z⟩
    have hC6 : CsAt k6 k.next [Value.int .i64 x.cell, pv] := let ⟨p, y, z⟩ := hCs3; ⟨p, (hD p y).2.2, z⟩
    have hw : IntKind.i64.wrap ((i : Int) + 1) = i + 1 := wrapI (by omega) (by omega)
    refine AW.drawX (.take 0 [12, 11, 10, 1] (.take 2 [12, 11, 10, 9, 8, 3] (.take 5 [12, 11, 10, 9, 8, 7, 6] (.take 6 [12, 11, 10, 9, 8, 7] (.watch 3 [12, 11, 10, 9, 8] (.two 1 (.only 4 (.only 7 (.take 8 [12, 11, 10, 9] (.only 9 (.only 10 (.take 11 [12] (.only 12 .done))))))) 4 (.two 1 (.only 7 (.take 8 [12, 11, 10, 9] (.only 9 (.only 10 (.take 11 [12] (.only 12 .done)))))) 7 (.take 1 [12, 11, 10] (.take 8 [12, 11, 10, 9] (.only 9 (.only 10 (.take 11 [12] (.only 12 .done))))))))))))) (.step 0 0 (.step 0 2 (.step 0 5 (.step 0 6 (.step 1 3 (.two 1 (.step 2 4 (.step 2 7 (.step 0 8 (.step 2 9 (.step 2 10 (.step 0 11 (.step 2 12 .nil))))))) 4 (.two 1 (.step 2 7 (.step 0 8 (.step 2 9 (.step 2 10 (.step 0 11 (.step 2 12 .nil)))))) 7 (.step 0 1 (.step 0 8 (.step 2 9 (.step 2 10 (.step 0 11 (.step 2 12 .nil))))))))))))) mixed (by kernel_rfl) rfl ?_
    simp (disch := first | omega | decide | (simp only [List.length_cons, List.length_nil] <;> omega)) only [push_cast, ↓reduceIte, Nat.reduceLT, Nat.reduceEqDiff, reduceCtorEq, Nat.reduceAdd, kn, kd, kt, n1, d1, t1', t2', t3, h23, faL foN0, faL foN1, faL foN2, faL foN3, faL foN4, faL foI0, faL foI1, hM1.l0, hM1.l1, hM1.l2, hM1.l3, hM1.l4, hM1.la, hM2.l0, hM2.l1, hM2.l2, hM2.l3, hM2.l4, hM2.la, hM3.l0, hM3.l1, hM3.l2, hM3.l3, hM3.l4, hM3.la, hCs.ld fl3, hCs.ld flI, hCs2.ld fl3, hCs3.ld fl3, hC4.ld fl3, hC5.ld fl3, hC6.ld fl3, hbs, happ, buildI hr1, e1, e2, e3, hw]
    refine ⟨?_, ?_, ?_⟩ <;> exact ⟨q - 1, by omega, (by simp (disch := decide) only [Kp_put, put_none, hk]), i + 1, nm', ob', v', dv', by simp (disch := first | omega | decide | (simp only [List.length_cons, List.length_nil] <;> omega)) only [push_cast, ↓reduceIte, Nat.reduceLT, Nat.reduceEqDiff, reduceCtorEq, Nat.reduceAdd], by omega, by rw [htake]; exact Pv6, hnm6, by rw [htake]; exact hob6⟩
  · have hi : i = n.insts.length := by have := hge; simp at this; omega
    subst hi
    rw [List.take_length] at Pv hob4
    have hM : NetAt k T n cv' fv' iv' ov' := ⟨_, hnm4 ▸ Pv.own.get 4 _ hob4, rfl⟩
    have hXk := gk.sub _ _ hX
    have hcs : (netC n cv' fv' iv' ov').all oneC = true := by
      have h5 : oneC ov' = true := by
        obtain ⟨p, l, c, rfl, _⟩ := Pv.o.sl (h := k) (Pv.own.get 3)
        rfl
      obtain ⟨zs, hzs, _⟩ := Pv.i
      simp only [netC, List.all_cons, List.all_nil, Pv.c.one.1, Pv.f.one.1, hzs.one.1, h5]; rfl
    have hst := stA agN hXk rfl _ rfl hcs
    have hld : aLoad Tryz.prog 27 (.pointer (some ⟨X, 0, none⟩)) (k.set X (.row (netC n cv' fv' iv' ov') 27 true)) = some (.agg (netC n cv' fv' iv' ov').toArray) := ldLA (by rw [AH.set_get, if_pos rfl]) rfl agN rfl
    simp (disch := first | omega | decide | (simp only [List.length_cons, List.length_nil] <;> omega)) only [push_cast, ↓reduceIte, Nat.reduceLT, Nat.reduceEqDiff, reduceCtorEq, Nat.reduceAdd, kn, kd, kt, n1, d1, t1', t2', t3, h23, hM.l0, hM.l1, hM.l2, hM.l3, hM.l4, hM.la, hst, hld]
    exact ⟨_, _, _, _, _, _, _, rfl, (Pv.rebase hwf g2 hXlt hXlo _).drop4, upd_same _ _ _⟩


section
variable {b h k : AH} {m : Net} {nm : Nat → Nat} {ob : Nat → Option AObj} {cv fv iv ov : Value} {dv : Nat → Value}

theorem PinV.ldP (Pv : PinV b k m nm ob cv fv iv ov dv) {i : Nat} (hi : i < m.insts.length) :
    aIndexAddr Tryz.prog 24 iv (.int .i64 i) = some (slF 2 iv i 0) ∧ aFieldAddr Tryz.prog 36 1 (slF 2 iv i 0) = some (slF 2 iv i 1) ∧ aLoad Tryz.prog 25 (slF 2 iv i 1) k = some (dv i) := by
  obtain ⟨zs, ⟨hl, hV⟩, hr⟩ := Pv.i
  obtain ⟨c1, c2⟩ := take2_inv (hr i _ (List.getElem?_eq_getElem hi))
  rcases hV with ⟨e, _⟩ | ⟨e, _⟩ | ⟨rfl, e1⟩
  · omega
  · omega
  · have hg := Pv.own.get 2 _ e1
    refine ⟨?_, ?_, ?_⟩
    · obtain ⟨ie, hie, hs⟩ := infI
      have hs : ie.size = 2 := hs
      simp only [aIndexAddr, Tryz.underlying24, hie]
      rw [if_pos ⟨by omega, by omega⟩, hs]; rfl
    · simp only [slF]; rw [faL foI1]
    · simp only [slF]
      have hlt : i * 2 + 1 < zs.length := by omega
      have := ldL hg rfl flI (0 + i * 2 + 1) (by omega)
      rw [this]
      have e0 : 0 + i * 2 + 1 = i * 2 + 1 := by omega
      rw [e0, List.getD_eq_getElem?_getD, c2]; rfl

theorem PinV.ldO (Pv : PinV b k m nm ob cv fv iv ov dv) : SlOf k ov (m.outs.map (.int .i64)) := Pv.o.sl (Pv.own.get 3)
theorem PinV.slP (Pv : PinV b k m nm ob cv fv iv ov dv) {i : Nat} (hi : i < m.insts.length) : SlOf k (dv i) ((m.insts.getD i default).pins.map (.int .i64)) :=
  (Pv.p i _ (by simp [List.getD_eq_getElem?_getD, hi])).sl (Pv.own.get _)
theorem PinV.lenI (Pv : PinV b k m nm ob cv fv iv ov dv) : ∀ h, aLen Tryz.prog 24 iv h = some (.int .i64 m.insts.length) := by
  obtain ⟨zs, hV, _⟩ := Pv.i
  exact VecM.len hV Tryz.underlying24

theorem PinV.set4 (Pv : PinV b k m nm ob cv fv iv ov dv) (w0 : WFH b) {T : Nat} (hT : nm 4 = T) {o : AObj} (h4 : ob 4 = some o) (o' : AObj) : PinV b (k.set T o') m nm (upd ob 4 (some o')) cv fv iv ov dv ∧ Sub (hide (Own nm ob) k) (k.set T o') := by
  subst hT
  obtain ⟨oC, sC⟩ := ownSet0 (o' := o') w0 Pv.own h4
  refine ⟨⟨oC, fun r hr => ?_, ?_, ?_, ?_, fun j x hj => ?_, ?_⟩, sC.trans (hide_sub _ _)⟩
  · rw [upd_ne _ _ (by omega)]; exact Pv.hi r hr
  · rw [upd_ne _ _ (by decide)]; exact Pv.c.sub sC
  · rw [upd_ne _ _ (by decide)]; exact Pv.f.sub sC
  · rw [upd_ne _ _ (by decide)]; exact Pv.i
  · rw [upd_ne _ _ (show 5 + j ≠ 4 by omega)]; exact Pv.p j x hj
  · rw [upd_ne _ _ (by decide)]; exact Pv.o

/-- A block for the netlist itself. -/
theorem PinV.add4 (Pv : PinV b k m nm ob cv fv iv ov dv) (w0 : WFH b) (o : AObj) : PinV b (k.new o) m (upd nm 4 k.next) (upd ob 4 (some o)) cv fv iv ov dv := by
  have g := (Gr.refl Pv.own.gr.wf).new o
  obtain ⟨oA, sA⟩ := ownUp (r := 4) (A' := k.next) (o' := o) (h' := k.new o) w0 Pv.own (by rw [AH.new_get, if_pos rfl]) (.inr (Nat.le_refl _)) (fun B p hB _ => g.sub _ _ hB) g.wf g.nx
  refine ⟨oA, fun r hr => ?_, ?_, ?_, ?_, fun j x hj => ?_, ?_⟩
  · rw [upd_ne _ _ (by omega)]; exact Pv.hi r hr
  · rw [upd_ne _ _ (by decide), upd_ne _ _ (by decide)]; exact Pv.c.sub sA
  · rw [upd_ne _ _ (by decide), upd_ne _ _ (by decide)]; exact Pv.f.sub sA
  · rw [upd_ne _ _ (by decide), upd_ne _ _ (by decide)]; exact Pv.i
  · rw [upd_ne _ _ (show 5 + j ≠ 4 by omega), upd_ne _ _ (show 5 + j ≠ 4 by omega)]; exact Pv.p j x hj
  · rw [upd_ne _ _ (by decide), upd_ne _ _ (by decide)]; exact Pv.o

/-- A pin written over. -/
theorem PinV.setP (Pv : PinV b k m nm ob cv fv iv ov dv) (w0 : WFH b) {i q : Nat} (hi : i < m.insts.length) (hq : q < (m.insts.getD i default).pins.length) (y : Int) :
    ∃ k' ob', aStore Tryz.prog 3 (slAt 1 (dv i) q) (.int .i64 y) k = some k' ∧ PinV b k' { m with insts := m.insts.set i ⟨(m.insts.getD i default).cell, (m.insts.getD i default).pins.set q y⟩ } nm ob' cv fv iv ov dv ∧ ob' 4 = ob 4 ∧ k'.next = k.next ∧ Sub (hide (Own nm ob) k) k' := by
  have hx : m.insts[i]? = some (m.insts.getD i default) := by simp [List.getD_eq_getElem?_getD, hi]
  generalize m.insts.getD i default = x at *
  have hV := Pv.p i x hx
  obtain ⟨o', hst, hV', hob⟩ := _root_.Go.Ab.Vec.store (P := Tryz.prog) hV (Pv.own.get (5 + i)) (i := q) ⟨_, (info3).choose_spec.1, info3.choose_spec.2.1⟩ (by simpa using hq) (x := .int .i64 y) rfl rfl
  cases hr : ob (5 + i) with
  | none => exact absurd hr hob
  | some o =>
    obtain ⟨oC, sC⟩ := ownSet0 (o' := o') w0 Pv.own hr
    refine ⟨_, _, hst, ⟨oC, fun r hr => ?_, ?_, ?_, ?_, fun j z hj => ?_, ?_⟩, upd_ne _ _ (by omega), by simp, sC.trans (hide_sub _ _)⟩
    · have hr : 5 + (m.insts.set i _).length ≤ r := hr
      rw [List.length_set] at hr
      rw [upd_ne _ _ (by omega)]; exact Pv.hi r hr
    · rw [upd_ne _ _ (by omega)]; exact Pv.c.sub sC
    · rw [upd_ne _ _ (by omega)]; exact Pv.f.sub sC
    · obtain ⟨zs, hzs, hzr⟩ := Pv.i
      rw [upd_ne _ _ (by omega)]
      refine ⟨zs, by rw [List.length_set]; exact hzs, fun j z hj => ?_⟩
      by_cases hji : j = i
      · subst hji
        rw [List.getElem?_set_self hi] at hj
        cases hj
        exact hzr j x hx
      · rw [List.getElem?_set_ne (fun e => hji e.symm)] at hj
        exact hzr j z hj
    · by_cases hji : j = i
      · subst hji
        rw [List.getElem?_set_self hi] at hj
        cases hj
        rw [upd_same]
        rw [List.map_set]; exact hV'
      · rw [List.getElem?_set_ne (fun e => hji e.symm)] at hj
        rw [upd_ne _ _ (show 5 + j ≠ 5 + i by omega)]
        exact Pv.p j z hj
    · rw [upd_ne _ _ (by omega)]; exact Pv.o

/-- An output written over. -/
theorem PinV.setO (Pv : PinV b k m nm ob cv fv iv ov dv) (w0 : WFH b) {q : Nat} (hq : q < m.outs.length) (y : Int) :
    ∃ k' ob', aStore Tryz.prog 3 (slAt 1 ov q) (.int .i64 y) k = some k' ∧ PinV b k' { m with outs := m.outs.set q y } nm ob' cv fv iv ov dv ∧ ob' 4 = ob 4 ∧ k'.next = k.next ∧ Sub (hide (Own nm ob) k) k' := by
  obtain ⟨o', hst, hV', hob⟩ := _root_.Go.Ab.Vec.store (P := Tryz.prog) Pv.o (Pv.own.get 3) (i := q) ⟨_, (info3).choose_spec.1, info3.choose_spec.2.1⟩ (by simpa using hq) (x := .int .i64 y) rfl rfl
  cases hr : ob 3 with
  | none => exact absurd hr hob
  | some o =>
    obtain ⟨oC, sC⟩ := ownSet0 (o' := o') w0 Pv.own hr
    refine ⟨_, _, hst, ⟨oC, fun r hr => ?_, ?_, ?_, ?_, fun j z hj => ?_, ?_⟩, upd_ne _ _ (by decide), by simp, sC.trans (hide_sub _ _)⟩
    · have hr : 5 + m.insts.length ≤ r := hr
      rw [upd_ne _ _ (by omega)]; exact Pv.hi r hr
    · rw [upd_ne _ _ (by decide)]; exact Pv.c.sub sC
    · rw [upd_ne _ _ (by decide)]; exact Pv.f.sub sC
    · rw [upd_ne _ _ (by decide)]; exact Pv.i
    · rw [upd_ne _ _ (show 5 + j ≠ 3 by omega)]; exact Pv.p j z hj
    · rw [upd_same]
      rw [List.map_set]; exact hV'

/-- The pins are settled. -/
theorem PinV.bld (Pv : PinV b k m nm ob cv fv iv ov dv) {X T : Nat} (hX : X < b.next) (hT : nm 4 = T) (h4 : ob 4 = some (.row (netC m cv fv iv ov) 27 true)) : ∃ ob', Bld b k X T m nm ob' cv fv iv ov := by
  have hs : ∀ r p, (if r < 5 then ob r else none) = some p → ob r = some p ∧ r < 5 := fun r p hr => by
    split at hr
    · rename_i h5; exact ⟨hr, h5⟩
    · cases hr
  have hO : ∀ C, Own nm (fun r => if r < 5 then ob r else none) C → ∃ r, r < 5 ∧ (∃ p, ob r = some p) ∧ nm r = C := fun C ⟨r, hr, e⟩ => by
    cases hx : (if r < 5 then ob r else none) with
    | none => exact absurd hx hr
    | some p => exact ⟨r, (hs r p hx).2, ⟨p, (hs r p hx).1⟩, e⟩
  have mv : ∀ C p, (hide (Own nm ob) k).get C = some p → b.next ≤ C → (away nm (fun r => if r < 5 then ob r else none) X k).get C = some p := fun C p hC hN => by
    obtain ⟨h1, h2⟩ := hide_get.1 hC
    refine hide_get.2 ⟨by omega, hide_get.2 ⟨fun hO' => ?_, h2⟩⟩
    obtain ⟨r, _, ⟨q, hq⟩, e⟩ := hO C hO'
    exact h1 ⟨r, by rw [hq]; simp, e⟩
  refine ⟨fun r => if r < 5 then ob r else none, ⟨⟨fun r p hr => Pv.own.get r p (hs r p hr).1, fun r s o p hr hs' => Pv.own.dis r s o p (hs r o hr).1 (hs s p hs').1, fun r p hr => Pv.own.lo r p (hs r p hr).1, Pv.own.gr⟩, hT, h4, ?_, ?_, ?_, Pv.o⟩⟩
  · obtain ⟨zs, h1, h2⟩ := Pv.c
    refine ⟨zs, h1, fun j x hj => ?_⟩
    obtain ⟨d, e, w⟩ := h2 j x hj
    exact ⟨d, e, w.move (fun A p hA hN _ => mv A p hA hN)⟩
  · obtain ⟨zs, h1, h2⟩ := Pv.f
    exact ⟨zs, h1, h2⟩
  · obtain ⟨zs, h1, h2⟩ := Pv.i
    refine ⟨zs, h1, fun j x hj => ⟨dv j, h2 j x hj, ob (5 + j), nm (5 + j), Pv.p j x hj, fun o ho => ?_⟩⟩
    have hlo := Pv.own.lo _ _ ho
    refine ⟨hide_get.2 ⟨by omega, hide_get.2 ⟨fun hO' => ?_, Pv.own.get _ _ ho⟩⟩, hlo⟩
    obtain ⟨r, h5, ⟨q, hq⟩, e⟩ := hO _ hO'
    exact Pv.own.dis r (5 + j) q o hq ho (by omega) e
end


theorem shifted31 {h : AH} {n : Net} {cv fv iv ov : Value} {x : Int} (r : NetR h n cv fv iv ov) :
    ACall Tryz.prog 31 [.agg (netC n cv fv iv ov).toArray, .int .i64 x] h (fun r h' => r = .int .i64 (shiftE n x) ∧ h' = h) := by
  refine ACall.viewed rfl ?_
  replace r := r.view
  generalize AH.view h = h at r
  refine ACall.of_wp 12 [.tmp 4] Tryz.func31 rfl (by kernel_rfl) rfl rfl fun a hn hd ha => ?_
  have hbox := boxA 27 h _ r.one
  have hN := NetAt.new (h := h) (n := n) (cv := cv) (fv := fv) (iv := iv) (ov := ov)
  simp (disch := first | omega | decide) only [push_cast, ↓reduceIte, Nat.reduceLT, Nat.reduceEqDiff, reduceCtorEq, Nat.reduceAdd, hn, hd, ha, hbox, faL foN0, faL foN1, faL foN2, faL foN3, faL foN4, hN.l0, hN.l1, hN.l2, hN.l3, hN.l4, hN.la]
  refine condV_of (fun e => ?_) (fun e => ?_)
  · have e' : x ≥ n.inputs := by simpa using e
    simp (disch := first | omega | decide) only [push_cast, ↓reduceIte, Nat.reduceLT, Nat.reduceEqDiff, reduceCtorEq, Nat.reduceAdd, hn, hd, ha]
    rw [shiftE, if_pos e']
  · have e' : ¬ x ≥ n.inputs := by simpa using e
    simp (disch := first | omega | decide) only [push_cast, ↓reduceIte, Nat.reduceLT, Nat.reduceEqDiff, reduceCtorEq, Nat.reduceAdd, hn, hd, ha]
    rw [shiftE, if_neg e']

theorem nets32 {h : AH} {m : Net} {cv fv iv ov : Value} (hone : (netC m cv fv iv ov).all oneC = true) (hf : ∀ h, aLen Tryz.prog 23 fv h = some (.int .i64 m.flops.length)) (hi : ∀ h, aLen Tryz.prog 24 iv h = some (.int .i64 m.insts.length)) (hs : Small m) :
    ACall Tryz.prog 32 [.agg (netC m cv fv iv ov).toArray] h (fun r h' => r = .int .i64 (m.inputs + m.flops.length + m.insts.length) ∧ h' = h) := by
  refine ACall.viewed rfl ?_
  generalize AH.view h = h
  have h0 := hs.i0; have h1 := hs.i1; have h2 := hs.f; have h3 := hs.i
  refine ACall.of_wp 13 [.tmp 2] Tryz.func32 rfl (by kernel_rfl) rfl rfl fun a hn hd ha => ?_
  have hbox := boxA 27 h _ hone
  have hN := NetAt.new (h := h) (n := m) (cv := cv) (fv := fv) (iv := iv) (ov := ov)
  simp (disch := first | omega | decide) only [push_cast, ↓reduceIte, Nat.reduceLT, Nat.reduceEqDiff, reduceCtorEq, Nat.reduceAdd, hn, hd, ha, hbox, faL foN0, faL foN1, faL foN2, faL foN3, faL foN4, hN.l0, hN.l1, hN.l2, hN.l3, hN.l4, hN.la, hf, hi, wrapI]

theorem mapUpto_len {α : Type} (f : α → α) (zs : List α) (i : Nat) : ((zs.take i).map f ++ zs.drop i).length = zs.length := by simp; omega
theorem mapUpto_get {α : Type} (f : α → α) {zs : List α} {i : Nat} (hi : i < zs.length) (d : α) : ((zs.take i).map f ++ zs.drop i).getD i d = zs.getD i d := by
  rw [List.getD_eq_getElem?_getD, List.getElem?_append_right (by simp; omega), List.getD_eq_getElem?_getD]
  simp [Nat.min_eq_left (Nat.le_of_lt hi)]
theorem mapUpto_set {α : Type} (f : α → α) {zs : List α} {i : Nat} (hi : i < zs.length) (d : α) : ((zs.take i).map f ++ zs.drop i).set i (f (zs.getD i d)) = (zs.take (i + 1)).map f ++ zs.drop (i + 1) := by
  rw [take_succ_getD hi d, drop_cons_getD hi d, List.set_append_right _ _ (by simp; omega), List.map_append, List.append_assoc]
  simp [Nat.min_eq_left (Nat.le_of_lt hi)]

theorem Net.setI {m : Net} {l : List Inst} (hm : m.insts = l) : { m with insts := l } = m := by cases m; simp only at hm; rw [hm]
theorem Net.setO {m : Net} {l : List Int} (hm : m.outs = l) : { m with outs := l } = m := by cases m; simp only at hm; rw [hm]

theorem refPins {b k : AH} {T B0 : Nat} {n m : Net} {nm : Nat → Nat} {ob : Nat → Option AObj} {cv fv iv ov cv0 fv0 iv0 ov0 : Value} {dv : Nat → Value} {a : AAct} (hn : a.n = 194) (hd : a.df = []) (w0 : WFH b) (r : NetR b n cv0 fv0 iv0 ov0) (hN : NetAt b B0 n cv0 fv0 iv0 ov0)
    (hc : n.insts.length ≤ 4294967296) (hpl : ∀ x ∈ n.insts, x.pins.length ≤ 4294967296) (hm : m.insts = n.insts) (Pv : PinV b k m nm ob cv fv iv ov dv) (hT : nm 4 = T) (h4 : ob 4 = some (.row (netC m cv fv iv ov) 27 true))
    (t2 : a.tm 2 = .pointer (some ⟨B0, 0, none⟩)) (t9 : a.tm 9 = .pointer (some ⟨T, 0, none⟩)) (t10 : a.tm 10 = .int .i64 0) :
    AW Tryz.prog none (bodyBlk Tryz.f11 0) (fun e a' h' => e = .exit 0 ∧ a'.n = 194 ∧ a'.df = [] ∧ (∀ i, i < 70 → i ∉ [10, 11] → a'.tm i = a.tm i) ∧ ∃ ob', PinV b h' { m with insts := n.insts.map (instS n) } nm ob' cv fv iv ov dv ∧ ob' 4 = some (.row (netC m cv fv iv ov) 27 true)) a k := by
  refine AW.at (rfl : bodyBlk Tryz.f11 0 = .loop _) ?_
  refine AW.loopN 70 [10, 11] (fun q a' h' => ∃ (i : Nat) (ob : Nat → Option AObj), a'.tm 10 = .int .i64 i ∧ i + q = n.insts.length ∧ PinV b h' { m with insts := (n.insts.take i).map (instS n) ++ n.insts.drop i } nm ob cv fv iv ov dv ∧ ob 4 = some (.row (netC m cv fv iv ov) 27 true)) n.insts.length ?_ ?_
  · exact ⟨0, ob, by rw [t10]; rfl, by omega, by rw [List.take_zero, List.map_nil, List.nil_append, List.drop_zero, Net.setI hm]; exact Pv, h4⟩
  clear Pv h4 ob
  rintro a1 q a' h' hk kn kd kt ⟨i, ob, h10, hiq, Pv, h4⟩
  have hM : NetAt h' T m cv fv iv ov := ⟨_, hT ▸ Pv.own.get 4 _ h4, rfl⟩
  have hil := mapUpto_len (instS n) n.insts i
  have hlI := Pv.lenI
  rw [hil] at hlI
  simp (disch := first | omega | decide) only [push_cast, ↓reduceIte, Nat.reduceLT, Nat.reduceEqDiff, reduceCtorEq, Nat.reduceAdd, kn, kd, kt, hn, hd, t2, t9, h10, faL foN0, faL foN1, faL foN2, faL foN3, faL foN4, hM.l0, hM.l1, hM.l2, hM.l3, hM.l4, hM.la, hlI]
  refine condV_of (fun hlt => ?_) (fun hge => ?_)
  · have hi : i < n.insts.length := by have := hlt; simp at this; omega
    have hget := mapUpto_get (instS n) hi default
    have hset := mapUpto_set (instS n) hi default
    have hxp := hpl _ (getD_mem hi default)
    have hsame : ((n.insts.take i).map (instS n) ++ n.insts.drop i).set i (n.insts.getD i default) = (n.insts.take i).map (instS n) ++ n.insts.drop i := by
      rw [drop_cons_getD hi default, List.set_append_right _ _ (by simp; omega)]
      simp [Nat.min_eq_left (Nat.le_of_lt hi)]
    generalize hx : n.insts.getD i default = x at *
    generalize hL : (n.insts.take i).map (instS n) ++ n.insts.drop i = L at *
    have hiL : i < L.length := by omega
    have hw1 : IntKind.i64.wrap ((i : Int) + 1) = i + 1 := wrapI (by omega) (by omega)
    simp (disch := first | omega | decide) only [push_cast, ↓reduceIte, Nat.reduceLT, Nat.reduceEqDiff, reduceCtorEq, Nat.reduceAdd, kn, kd, kt, hn, hd, t2, t9, h10]
    refine AW.keep 70 [10, 11] (a0 := a1) (by simp (disch := decide) only [Kp_put, put_none, hk]) (fun hkc => ?_)
    refine AW.mono (Q := fun ex a3 h3 => ex = .exit 2 ∧ a3.n = 194 ∧ a3.df = [] ∧ a3.tm 10 = .int .i64 i ∧ Kp 70 [10, 11] a1 a3 ∧ ∃ ob, PinV b h3 { m with insts := L.set i (instS n x) } nm ob cv fv iv ov dv ∧ ob 4 = some (.row (netC m cv fv iv ov) 27 true)) ?_ ?_
    · rintro _ a3 h3 ⟨rfl, n3, d3, x10, hk3, ob3, P3, q3⟩
      simp (disch := first | omega | decide) only [push_cast, ↓reduceIte, Nat.reduceLT, Nat.reduceEqDiff, reduceCtorEq, Nat.reduceAdd, n3, d3, x10, hw1]
      exact ⟨q - 1, by omega, (by simp (disch := decide) only [Kp_put, put_none, hk3]), i + 1, ob3, by simp (disch := first | omega | decide) only [push_cast, ↓reduceIte, Nat.reduceLT, Nat.reduceEqDiff, reduceCtorEq, Nat.reduceAdd], by omega, by rw [← hset]; exact P3, q3⟩
    refine AW.loopN 77 [11] (fun q2 a2 h2 => ∃ (j : Nat) (ob : Nat → Option AObj), a2.tm 11 = .int .i64 j ∧ j + q2 = x.pins.length ∧ PinV b h2 { m with insts := L.set i ⟨x.cell, (x.pins.take j).map (shiftE n) ++ x.pins.drop j⟩ } nm ob cv fv iv ov dv ∧ ob 4 = some (.row (netC m cv fv iv ov) 27 true)) x.pins.length ?_ ?_
    · exact ⟨0, ob, by simp (disch := first | omega | decide) only [push_cast, ↓reduceIte, Nat.reduceLT, Nat.reduceEqDiff, reduceCtorEq, Nat.reduceAdd], by omega, by
        have e : (⟨x.cell, (x.pins.take 0).map (shiftE n) ++ x.pins.drop 0⟩ : Inst) = x := rfl
        rw [e, hsame]; exact Pv, h4⟩
    clear Pv h4 hM hlI ob
    rintro a4 q2 a2 h2 hk2 kn2 kd2 kt2 ⟨j, ob, h11, hjq, Pv, h4⟩
    have hk0 : Kp 70 [10, 11] a1 a2 := Kp.trans (lo' := 77) (X' := [11]) hkc ⟨kn2, kd2, kt2⟩ (by omega) (by simp)
    have hM : NetAt h2 T m cv fv iv ov := ⟨_, hT ▸ Pv.own.get 4 _ h4, rfl⟩
    have hi2 : i < ({ m with insts := L.set i ⟨x.cell, (x.pins.take j).map (shiftE n) ++ x.pins.drop j⟩ } : Net).insts.length := by rw [List.length_set]; exact hiL
    obtain ⟨p1, p2, p3⟩ := Pv.ldP hi2
    have hgi : (L.set i (⟨x.cell, (x.pins.take j).map (shiftE n) ++ x.pins.drop j⟩ : Inst)).getD i default = ⟨x.cell, (x.pins.take j).map (shiftE n) ++ x.pins.drop j⟩ := by
      rw [List.getD_eq_getElem?_getD, List.getElem?_set_self hiL]; rfl
    have hsl := Pv.slP hi2
    have hjl := mapUpto_len (shiftE n) x.pins j
    change SlOf h2 (dv i) (((L.set i (⟨x.cell, (x.pins.take j).map (shiftE n) ++ x.pins.drop j⟩ : Inst)).getD i default).pins.map (.int .i64)) at hsl
    rw [hgi] at hsl
    change SlOf h2 (dv i) (((x.pins.take j).map (shiftE n) ++ x.pins.drop j).map (.int .i64)) at hsl
    have hln := hsl.lenA Tryz.underlying25
    rw [hjl] at hln
    simp (disch := first | omega | decide) only [push_cast, ↓reduceIte, Nat.reduceLT, Nat.reduceEqDiff, reduceCtorEq, Nat.reduceAdd, kn2, kd2, kt2, kn, kd, kt, hn, hd, t2, t9, h10, h11, faL foN0, faL foN1, faL foN2, faL foN3, faL foN4, hM.l0, hM.l1, hM.l2, hM.l3, hM.l4, hM.la, p1, p2, p3, hln]
    refine condV_of (fun hlt2 => ?_) (fun hge2 => ?_)
    · have hj : j < x.pins.length := by have := hlt2; simp at this; omega
      have hN2 := hN.sub Pv.own.gr.sub
      have r2 := r.sub Pv.own.gr.sub
      have hix := hsl.idxI sl22 .i64 j (by omega) (by omega)
      have hld := hsl.ldI sl22 j (by omega)
      rw [Int.toNat_natCast] at hix
      rw [mapUpto_get (shiftE n) hj 0] at hld
      have hsj := mapUpto_set (shiftE n) hj 0
      obtain ⟨h3, ob3, st, P3, q3, n3, -⟩ := Pv.setP w0 hi2 (q := j) (by
        show j < ((L.set i (⟨x.cell, (x.pins.take j).map (shiftE n) ++ x.pins.drop j⟩ : Inst)).getD i default).pins.length
        rw [hgi]; show j < ((x.pins.take j).map (shiftE n) ++ x.pins.drop j).length
        omega) (shiftE n (x.pins.getD j 0))
      have eq3 : ({ ({ m with insts := L.set i ⟨x.cell, (x.pins.take j).map (shiftE n) ++ x.pins.drop j⟩ } : Net) with insts := ({ m with insts := L.set i ⟨x.cell, (x.pins.take j).map (shiftE n) ++ x.pins.drop j⟩ } : Net).insts.set i ⟨(({ m with insts := L.set i ⟨x.cell, (x.pins.take j).map (shiftE n) ++ x.pins.drop j⟩ } : Net).insts.getD i default).cell, (({ m with insts := L.set i ⟨x.cell, (x.pins.take j).map (shiftE n) ++ x.pins.drop j⟩ } : Net).insts.getD i default).pins.set j (shiftE n (x.pins.getD j 0))⟩ } : Net) = { m with insts := L.set i ⟨x.cell, (x.pins.take (j + 1)).map (shiftE n) ++ x.pins.drop (j + 1)⟩ } := by
        simp only [hgi, List.set_set, hsj]
      rw [eq3] at P3
      rw [h4] at q3
      have hM3 : NetAt h3 T m cv fv iv ov := ⟨_, hT ▸ P3.own.get 4 _ q3, rfl⟩
      obtain ⟨s1, s2, s3⟩ := P3.ldP (i := i) (by rw [List.length_set]; exact hiL)
      have hwj : IntKind.i64.wrap ((j : Int) + 1) = j + 1 := wrapI (by omega) (by omega)
      generalize x.pins.getD j 0 = z at *
      simp (disch := first | omega | decide) only [push_cast, ↓reduceIte, Nat.reduceLT, Nat.reduceEqDiff, reduceCtorEq, Nat.reduceAdd, kn2, kd2, kt2, kn, kd, kt, hn, hd, t2, t9, h10, h11]
      refine AW.drawP (.take 0 [19, 18, 5, 4, 3, 1] (.take 2 [19, 18, 5, 4, 3] (.take 6 [19, 18] (.take 7 [19, 18, 17] (.take 8 [19, 18, 17, 16, 15, 13, 12, 11, 9] (.take 9 [19, 18, 17, 16, 15, 13, 12, 11] (.take 10 [19, 18, 17, 16, 15, 13, 12, 11] (.take 11 [19, 18, 17, 16, 15, 13, 12] (.take 12 [19, 18, 17, 16, 15, 13] (.take 13 [19, 18, 17, 16, 15] (.take 14 [19, 18, 17, 16, 15] (.take 15 [19, 18, 17, 16] (.take 16 [19, 18, 17] (.watch 1 [19, 18, 5, 4, 3] (.take 3 [19, 18, 5, 4] (.take 4 [19, 18, 5] (.watch 5 [19, 18] (.only 17 (.take 18 [19] (.only 19 .done)))))))))))))))))))) [(0, 0), (0, 2), (0, 6), (0, 7), (0, 8), (0, 9), (0, 10), (0, 11), (0, 12), (0, 13), (0, 14), (0, 15), (0, 16), (1, 1), (0, 3), (0, 4), (1, 5), (2, 17), (0, 18), (2, 19)] mixed (by kernel_rfl) (by kernel_rfl) ?_
      simp (disch := first | omega | decide) only [push_cast, ↓reduceIte, Nat.reduceLT, Nat.reduceEqDiff, reduceCtorEq, Nat.reduceAdd, kn2, kd2, kt2, kn, kd, kt, hn, hd, t2, t9, h10, h11, faL foN0, faL foN1, faL foN2, faL foN3, faL foN4, hM.l0, hM.l1, hM.l2, hM.l3, hM.l4, hM.la, hN2.l0, hN2.l1, hN2.l2, hN2.l3, hN2.l4, hN2.la, p1, p2, p3, hix, hld]
      refine ACall.mono ?_ (shifted31 r2)
      rintro _ h2 ⟨rfl, rfl⟩
      simp (disch := first | omega | decide) only [push_cast, ↓reduceIte, Nat.reduceLT, Nat.reduceEqDiff, reduceCtorEq, Nat.reduceAdd, kn2, kd2, kt2, kn, kd, kt, hn, hd, t2, t9, h10, h11, faL foN0, faL foN1, faL foN2, faL foN3, faL foN4, hM.l0, hM.l1, hM.l2, hM.l3, hM.l4, hM.la, hM3.l0, hM3.l1, hM3.l2, hM3.l3, hM3.l4, hM3.la, p1, p2, p3, s1, s2, s3, hix, st, hwj]
      exact ⟨q2 - 1, by omega, (by simp (disch := decide) only [Kp_put, put_none, hk2]), j + 1, ob3, by simp (disch := first | omega | decide) only [push_cast, ↓reduceIte, Nat.reduceLT, Nat.reduceEqDiff, reduceCtorEq, Nat.reduceAdd], by omega, P3, q3⟩
    · have hj : j = x.pins.length := by have := hge2; simp at this; omega
      subst hj
      rw [List.take_length, List.drop_length, List.append_nil] at Pv
      simp (disch := first | omega | decide) only [push_cast, ↓reduceIte, Nat.reduceLT, Nat.reduceEqDiff, reduceCtorEq, Nat.reduceAdd, kn2, kd2, kt2, kn, kd, kt, hn, hd, t2, t9, h10, h11]
      exact ⟨by simp (disch := decide) only [Kp_put, put_none, hk0], ob, Pv, h4⟩
  · have hi : i = n.insts.length := by have := hge; simp at this; omega
    subst hi
    rw [List.take_length, List.drop_length, List.append_nil] at Pv
    simp (disch := first | omega | decide) only [push_cast, ↓reduceIte, Nat.reduceLT, Nat.reduceEqDiff, reduceCtorEq, Nat.reduceAdd, kn, kd, kt, hn, hd, t2, t9, h10]
    exact ⟨fun j h1 h2 => by repeat rw [if_neg (by omega)]
                             exact kt j h1 (by simpa using h2), ob, Pv, h4⟩

end Go.Ab.S1

namespace Go.Ab

theorem VR.rename {ρ ρ' : Ren} {A N off l c : Nat} {v : Value} (h : VR ρ (.slice (some ⟨A, off, none⟩) l c) v) (hn : ∀ r, ρ A = some r → ρ' N = some r) : VR ρ' (.slice (some ⟨N, off, none⟩) l c) v := by
  cases h with
  | slice h hc => exact .slice (hn _ h) hc
  | slack h hl hlim hc => exact .slack (hn _ h) hl hlim hc
  | slack0 h => exact .slack0 (hn _ h)
  | slip => exact .slip

/-- A row of another reading of the world is read here too. -/
theorem HR.import {ρ : Ren} {h : AH} {w : World} (hr : HR ρ h w) {ρ0 : Ren} {r : RE} {cs us : List Value} {e : TypeId} {wr : Bool} {cc : Array Value} {fr : Nat × Nat} (hrow : RowAt ρ0 r w cs e wr cc fr) (hl : us.length ≤ cs.length)
    (hu : ∀ i u, us[i]? = some u → oneC u = true ∧ ∃ v', cc[r.base + i]? = some v' ∧ VR (ρ.put h.next r) u v') (hsep : ∀ A o q, h.get A = some o → o.own = true → ρ A = some q → q.blk ≠ r.blk) :
    HR (ρ.put h.next r) (h.new (.row us e false)) w ∧ ρ.le (ρ.put h.next r) := by
  have hle : ρ.le (ρ.put h.next r) := Ren.le_put hr.fresh
  refine ⟨⟨fun A o ha => ?_, fun A B o p q q' h1 h2 g1 g2 hne how => ?_, fun A q hA => ?_⟩, hle⟩
  · rw [AH.new_get] at ha
    split at ha
    · rename_i e'; cases ha; subst e'
      refine ⟨_, Ren.put_same _ _ _, cc, fr, hrow.heap, ?_, fun i u hi => (hu i u hi).2, (fun hw => by cases hw), fun u hm => ?_⟩
      · have := hrow.fits; omega
      · obtain ⟨i, hi⟩ := List.getElem?_of_mem hm
        exact (hu i u hi).1
    · obtain ⟨q, hq, hor⟩ := hr.obj A o ha
      exact ⟨q, hle _ _ hq, hor.move hle rfl⟩
  · rw [AH.new_get] at h1 h2
    split at h1
    · rename_i e1
      cases h1
      rw [if_neg (fun e2 => hne (e1.trans e2.symm))] at h2
      rcases how with how | how
      · cases how
      · subst e1
        rw [Ren.put_same] at g1; cases g1
        rw [Ren.put_ne _ _ (fun e => hne e.symm)] at g2
        exact fun e => hsep B p q' h2 how g2 e.symm
    · rename_i e1
      rw [Ren.put_ne _ _ e1] at g1
      split at h2
      · rename_i e2
        cases h2
        subst e2
        rw [Ren.put_same] at g2; cases g2
        rcases how with how | how
        · exact hsep A o q h1 how g1
        · cases how
      · rename_i e2
        rw [Ren.put_ne _ _ e2] at g2
        exact hr.inj A B o p q q' h1 h2 g1 g2 hne how
  · by_cases e : A = h.next
    · subst e; simp
    · rw [Ren.put_ne _ _ e] at hA; have := hr.dom A q hA; simp; omega

/-- The rest of a slice, from an element on. -/
theorem RowOf.post {P : Program} {α : Type} {L : Lay α} {h : AH} {v : Value} {xs : List α} (hs : RowOf L h v xs) {t e : TypeId} (ht : P.underlying t = some (.slice e)) (he : ∃ i, P.info? e = some i ∧ i.size = L.sz) {k : IntKind} {n : Nat} (hn : n ≤ xs.length) :
    ∃ v', aSlice P t v (some (.int k n)) none = some v' ∧ RowOf L h v' (xs.drop n) := by
  obtain ⟨p, l, c, rfl, rfl, ⟨hsp, hle, hcap⟩, hcs⟩ := hs
  obtain ⟨ie, hi, h1⟩ := he
  have hb : bnd (some (.int k (n : Int))) 0 = some n := by simp [bnd]
  have hb0 : ∀ m, bnd none m = some m := fun _ => rfl
  have hpos := L.pos
  cases p with
  | none =>
    have hx : xs = [] := by
      rcases hcs with e | ⟨A, off, o, cs, e, _⟩
      · exact e
      · cases e
    subst hx
    have hn0 : n = 0 := by simpa using hn
    subst hn0
    refine ⟨.slice none 0 c, ?_, none, 0, c, rfl, by simp, ⟨(fun q e => by cases e), by omega, hcap⟩, .inl (by simp)⟩
    simp only [aSlice, ht, hb, hb0, hi]
    simp
  | some q =>
    obtain ⟨A, off, sp⟩ := q
    have : sp = none := hsp _ rfl
    subst this
    have mv : ∀ i : Nat, off + n * L.sz + i * L.sz = off + (n + i) * L.sz := fun i => by rw [Nat.add_mul]; omega
    rcases hcap with hc | hc
    · refine ⟨.slice (some ⟨A, if c = n then off else off + n * L.sz, none⟩) (xs.length - n) (c - n), ?_, _, _, _, rfl, by simp, ⟨fun q e => by cases e; rfl, by omega, .inl (by omega)⟩, ?_⟩
      · simp only [aSlice, ht, hb, hb0, hi, h1]
        rw [if_pos hc, if_pos ⟨by omega, by omega⟩]
      · by_cases he : n = xs.length
        · exact .inl (by rw [he, List.drop_length])
        rcases hcs with e | ⟨A', off', o, cs, e, hg, hcc, hall⟩
        · exact .inl (by rw [e]; simp)
        cases e
        refine .inr ⟨A, _, o, cs, rfl, hg, hcc, fun i x hx => ?_⟩
        rw [if_neg (by omega)]
        rw [List.getElem?_drop] at hx
        rw [mv]; exact hall _ x hx
    · refine ⟨.slice (some ⟨A, off + n * L.sz, none⟩) (xs.length - n) c, ?_, _, _, _, rfl, by simp, ⟨fun q e => by cases e; rfl, by omega, .inr hc⟩, ?_⟩
      · simp only [aSlice, ht, hb, hb0, hi, h1]
        rw [if_neg (by omega), if_pos ⟨hc, by omega, by omega⟩]
      · rcases hcs with e | ⟨A', off', o, cs, e, hg, hcc, hall⟩
        · exact .inl (by rw [e]; simp)
        cases e
        refine .inr ⟨A, _, o, cs, rfl, hg, hcc, fun i x hx => ?_⟩
        rw [List.getElem?_drop] at hx
        rw [mv]; exact hall _ x hx

theorem srcCells_sub {h h' : AH} (hs : Sub h h') {sz : Nat} {x : Value} {r : Nat × List Value} (hx : srcCells sz x h = some r) : srcCells sz x h' = some r := by
  unfold srcCells at hx ⊢
  split at hx
  · exact hx
  · rename_i A off l c
    by_cases h0 : l = 0
    · rw [if_pos h0] at hx ⊢; exact hx
    · rw [if_neg h0] at hx ⊢
      cases hg : h.get A with
      | none => rw [hg] at hx; cases hx
      | some o => rw [hg] at hx; rw [hs _ _ hg]; exact hx
  · cases hx

/-- A slice of one's own, as a row of one-cell elements. -/
theorem Vec.row {α : Type} {L : Lay α} (hz : L.sz = 1) {e : TypeId} {h : AH} {v : Value} {ob : Option AObj} {A : Nat} {vs : List Value} {xs : List α} (hV : Vec e v ob A vs) (hg : ∀ o, ob = some o → h.get A = some o) (hl : vs.length = xs.length) (hb : xs.length ≤ 4294967296)
    (hr : ∀ i x, xs[i]? = some x → L.rel h [vs.getD i undef] x) : RowOf L h v xs := by
  have key : ∀ cs : List Value, vs.length ≤ cs.length → cs.take vs.length = vs → ∀ (i : Nat) (x : α), xs[i]? = some x → L.rel h ((cs.drop (0 + i * L.sz)).take L.sz) x := by
    intro cs hle htk i x hx
    have hi : i < xs.length := (List.getElem?_eq_some_iff.1 hx).1
    have h0 := hr i x hx
    rw [hz, Nat.zero_add, Nat.mul_one]
    have hv : vs[i]? = some (vs.getD i undef) := by simp [List.getD_eq_getElem?_getD, List.getElem?_eq_getElem (show i < vs.length by omega)]
    have hc := take_get htk i _ hv
    have hic : i < cs.length := by omega
    rw [List.drop_eq_getElem_cons hic, List.take_succ_cons, List.take_zero]
    rw [List.getElem?_eq_getElem hic] at hc
    rw [Option.some.inj hc]; exact h0
  rcases hV with ⟨rfl, rfl, _⟩ | ⟨cs, rfl, rfl, hle, ht⟩ | ⟨cs, C, rfl, hC, hvC, hCc, rfl, ht⟩
  · have hb : xs = [] := List.eq_nil_of_length_eq_zero hl.symm
    subst hb
    exact ⟨none, 0, 0, rfl, rfl, ⟨fun q e => (nomatch e), Nat.le_refl _, .inl (by unfold SL; omega)⟩, .inl rfl⟩
  · exact ⟨_, _, _, rfl, hl, ⟨fun q e => by cases e; rfl, by unfold SL; omega, .inr (by rw [hz])⟩, .inr ⟨A, 0, _, cs, rfl, hg _ rfl, rfl, key cs hle ht⟩⟩
  · exact ⟨_, _, _, rfl, hl, ⟨fun q e => by cases e; rfl, hvC, .inl (by unfold SL; omega)⟩, .inr ⟨A, 0, _, cs, rfl, hg _ rfl, rfl, key cs (by omega) ht⟩⟩
end Go.Ab

namespace Go.Ab.S1
open Go.Proofs
set_option linter.unusedSimpArgs false
set_option linter.unusedVariables false
set_option maxRecDepth 100000
set_option maxHeartbeats 4000000
attribute [local push_cast] wpA_skip wpA_ret wpA_exit wpA_seq wpA_block wpA_cond2 andK_true wpA_region wpA_draw wpA_loop thenQ_normal thenQ_ret thenQ_exit blockQ_normal blockQ_ret blockQ_exit condV_true condV_false opsM_nil opsM_cons2 okM_true wantM_true wantM_false stepM seqM_cons2 seqM_nil2 okS_true wantS_true wantS_false stepS skipS okB Keeps_nil contK_app List.zip_cons_cons List.zip_nil_left List.zip_nil_right Op.operands Call.operands Array.toList_append List.append_nil List.nil_append List.all_cons List.all_nil cOK plain put_n put_tm put_none put_df ev_tmp ev_const ev_func wanted_none wanted_some callR_func dop ex_some1 aBuiltin aBin intBin aUn Option.map_some Bool.and_true Bool.true_and Bool.and_self List.map_cons List.map_nil List.toList_toArray List.getElem?_toArray List.getElem?_cons_zero List.getElem?_cons_succ Option.getD_some Option.getD_none Bool.false_eq_true eq_self_iff_true decide_true decide_false List.cons_append aExtract resL resV List.getD_cons_zero List.getD_cons_succ List.getD_nil Nat.succ_ne_self g1 g2 yieldedA2 isB_bool isB_undef g3 Option.bind_some Option.bind_none bne_self_eq_false beq_self_eq_true Bool.not_true Bool.not_false Int.toNat_natCast List.length_map List.mem_cons List.not_mem_nil or_false not_false_eq_true decide_not Bool.not_not bodyR_ret2 bodyR_normal2 closeMarks_nil ex_some0 Nat.zero_add Nat.add_zero ieq ine List.map_toArray Option.toArray_none Option.toArray_some oev Keeps_cons Still_eq selL wpX_skip wpX_ret wpX_exit wpX_seq wpX_block wpX_cond wpX_region wpX_draw wpX_loop List.take_succ_cons List.take_zero List.drop_succ_cons List.drop_zero Int.zero_add Int.add_zero aNil if_true if_false true_and and_true

def isL : Lay (List Int) where
  sz := 1
  pos := by decide
  rel h cs x := ∃ v, cs = [v] ∧ SlOf h v (x.map (.int .i64))
  mono := by rintro h h' cs x hs ⟨v, rfl, hd⟩; exact ⟨v, rfl, hd.sub hs⟩
  len := by rintro h cs x ⟨v, rfl, hd⟩; rfl
  one := by rintro h cs x ⟨v, rfl, hd⟩ u hu; simp only [List.mem_cons, List.not_mem_nil, or_false] at hu; subst hu; exact hd.one

/-- What a closed run must have laid: a slice of slices of ints, of its own. -/
def Lays (pss : List (List Int)) (v : Value) (h : AH) : Prop :=
  ∃ (A C : Nat) (o : AObj) (cs : List Value), v = .slice (some ⟨A, 0, none⟩) pss.length C ∧ pss.length ≤ C ∧ (C < SL ∨ C = SL + 1) ∧ h.get A = some o ∧ o.own = true ∧ o.cells? = some cs ∧
    ∀ (i : Nat) (ps : List Int), pss[i]? = some ps → ∃ (Ai Ci : Nat) (oi : AObj) (csi : List Value), cs[i]? = some (Value.slice (some ⟨Ai, 0, none⟩) (List.length ps) Ci) ∧ h.get Ai = some oi ∧ oi.own = true ∧ oi.cells? = some csi ∧ ps.length ≤ csi.length ∧ ∀ (j : Nat) (z : Int), ps[j]? = some z → csi[j]? = some (Value.int .i64 z)

theorem closedRows {P : Program} {g : FuncId} {args : List Value} {pss : List (List Int)} (hargs : args.all (plain 9) = true) (hc : ACall P g args emptyH (Lays pss)) (h : AH) :
    ACall P g args h (fun v h' => Gr h h' ∧ RowOf isL (hide (fun C => C < h.next) h') v pss) := by
  refine ⟨hc.1, fun ρ cargs w hl hr => ?_⟩
  have hl0 : LR (fun _ => none) args cargs.toList := by
    refine ⟨hl.1, fun i v v' a b => ?_⟩
    have hp : plain 9 v = true := List.all_eq_true.1 hargs v (List.mem_of_getElem? a)
    have : v' = v := plain_only 9 v v' hp (hl.2 i v v' a b)
    rw [this]; exact plain_VR (fun _ => none) 9 v hp
  refine (hc.2 _ cargs w hl0 (HR.empty w)).mono ?_
  rintro e w' ⟨ρ', v, v', h', rfl, ⟨A, C, o, cs, rfl, hnC, hCS, hA, hown, hcs, hin⟩, hv, hr', hf⟩
  have hrest : ∀ b, b < w.heap.size → w'.heap[b]? = w.heap[b]? := fun b hb => hf.rest b hb (by rintro ⟨A, o, r, x, _⟩; cases x)
  have hnew : ∀ A o r, h'.get A = some o → o.own = true → ρ' A = some r → w.heap.size ≤ r.blk := fun A o r h1 h2 h3 => by
    rcases hf.own r.blk ⟨A, o, r, h1, h2, h3, rfl⟩ with ⟨B, p, q, x, _⟩ | x
    · cases x
    · exact x
  have hr0 : HR ρ h w' := ⟨fun A o ha => let ⟨r, q, hor⟩ := hr.obj A o ha; ⟨r, q, hor.move (Ren.le_refl _) (hrest _ hor.lt)⟩, hr.inj, hr.dom⟩
  obtain ⟨rA, hqA, hor⟩ := hr'.obj A o hA
  obtain ⟨eA, wA, ccA, frA, hrowA⟩ := hor.rowAt hcs
  have sep : ∀ (ρk : Ren) (hk : AH), ρ.le ρk → (∀ B p, hk.get B = some p → p.own = true → h.get B = some p) → ∀ B p q, hk.get B = some p → p.own = true → ρk B = some q → ρ B = some q ∧ h.get B = some p ∧ q.blk < w.heap.size := fun ρk hk hle hsk B p q h1 h2 h3 => by
    have h4 := hsk B p h1 h2
    obtain ⟨r, hq, hor⟩ := hr.obj B p h4
    have := hle _ _ hq
    rw [h3] at this; cases this
    exact ⟨hq, h4, hor.lt⟩
  have key : ∀ k, k ≤ pss.length → ∃ ρk hk, HR ρk hk w' ∧ ρ.le ρk ∧ Gr h hk ∧ hk.next = h.next + k ∧ (∀ B p, hk.get B = some p → p.own = true → h.get B = some p) ∧
      ∃ us : List Value, us.length = k ∧ ∀ i u, us[i]? = some u → oneC u = true ∧ (∃ v', ccA[rA.base + i]? = some v' ∧ VR ρk u v') ∧ SlOf (hide (fun C => C < h.next) hk) u ((pss.getD i []).map (.int .i64)) := by
    intro k
    induction k with
    | zero =>
      intro _
      refine ⟨ρ, h, hr0, Ren.le_refl _, Gr.refl hr.wf, rfl, fun B p h1 _ => h1, [], rfl, fun i u hu => by simp at hu⟩
    | succ k ih =>
      intro hk1
      obtain ⟨ρk, hk, hrk, hlek, gk, hnk, hsk, us, hul, hus⟩ := ih (by omega)
      have hget : pss[k]? = some (pss.getD k []) := by simp [List.getD_eq_getElem?_getD, List.getElem?_eq_getElem (show k < pss.length by omega)]
      obtain ⟨Ai, Ci, oi, csi, hci, hAi, hoi, hcsi, hlen, hz⟩ := hin k _ hget
      obtain ⟨ri, hqi, hori⟩ := hr'.obj Ai oi hAi
      obtain ⟨ei, wi, cci, fri, hrowi⟩ := hori.rowAt hcsi
      obtain ⟨vk, hvk1, hvk2⟩ := hrowA.cell k _ hci
      have hblk := hnew Ai oi ri hAi hoi hqi
      obtain ⟨hri, hlei⟩ := hrk.import (us := (pss.getD k []).map (.int .i64)) hrowi (by rw [List.length_map]; exact hlen) (fun i u hu => by
        rw [List.getElem?_map, Option.map_eq_some_iff] at hu
        obtain ⟨z, hz1, rfl⟩ := hu
        obtain ⟨v2, hv2, hvr⟩ := hrowi.cell i _ (hz i z hz1)
        cases hvr
        exact ⟨rfl, _, hv2, .int _ _⟩) (fun B p q h1 h2 h3 => by have := (sep ρk hk hlek hsk B p q h1 h2 h3).2.2; omega)
      have sk := Sub.new gk.wf (.row ((pss.getD k []).map (.int .i64)) ei false)
      refine ⟨_, _, hri, Ren.le_trans hlek hlei, gk.new _, by simp; omega, fun B p h1 h2 => ?_, us ++ [.slice (some ⟨hk.next, 0, none⟩) (pss.getD k []).length Ci], by simp [hul], fun i u hu => ?_⟩
      · rw [AH.new_get] at h1
        split at h1
        · cases h1; cases h2
        · exact hsk B p h1 h2
      · by_cases hi : i < k
        · rw [List.getElem?_append_left (by omega)] at hu
          obtain ⟨x1, ⟨v2, x2, x3⟩, x4⟩ := hus i u hu
          exact ⟨x1, ⟨v2, x2, x3.mono hlei⟩, x4.sub (hide_mono sk)⟩
        · rw [List.getElem?_append_right (by omega)] at hu
          have hik : i = k := by
            have := (List.getElem?_eq_some_iff.1 hu).1
            simp only [List.length_cons, List.length_nil] at this; omega
          subst hik
          rw [hul, Nat.sub_self] at hu
          cases hu
          refine ⟨rfl, ⟨vk, hvk1, hvk2.rename (fun r hr => ?_)⟩, some ⟨hk.next, 0, none⟩, _, Ci, rfl, by simp, fun q e => by cases e; rfl, .inr ⟨hk.next, 0, .row ((pss.getD i []).map (.int .i64)) ei false, _, rfl, hide_get.2 ⟨by omega, by rw [AH.new_get, if_pos rfl]⟩, rfl, fun j x hx => by rw [Nat.zero_add]; exact hx⟩⟩
          rw [hqi] at hr; cases hr
          exact Ren.put_same _ _ _
  obtain ⟨ρk, hk, hrk, hlek, gk, hnk, hsk, us, hul, hus⟩ := key pss.length (Nat.le_refl _)
  have hblk := hnew A o rA hA hown hqA
  have hlcs : us.length ≤ cs.length := by
    rw [hul]
    by_cases h0 : pss.length = 0
    · omega
    · have hget : pss[pss.length - 1]? = some (pss.getD (pss.length - 1) []) := by simp [List.getD_eq_getElem?_getD, List.getElem?_eq_getElem (show pss.length - 1 < pss.length by omega)]
      obtain ⟨Ai, Ci, oi, csi, hci, _⟩ := hin _ _ hget
      have := (List.getElem?_eq_some_iff.1 hci).1
      omega
  have hle2 : ρk.le (ρk.put hk.next rA) := Ren.le_put hrk.fresh
  obtain ⟨hri, hlei⟩ := hrk.import (us := us) hrowA hlcs (fun i u hu => let ⟨x1, ⟨v2, x2, x3⟩, x4⟩ := hus i u hu; ⟨x1, v2, x2, x3.mono hle2⟩) (fun B p q h1 h2 h3 => by have := (sep ρk hk hlek hsk B p q h1 h2 h3).2.2; omega)
  have sk := Sub.new gk.wf (.row us eA false)
  refine ⟨_, .slice (some ⟨hk.next, 0, none⟩) pss.length C, v', _, rfl, ⟨gk.new _, some ⟨hk.next, 0, none⟩, _, C, rfl, rfl, ⟨fun q e => by cases e; rfl, hnC, hCS⟩, .inr ⟨hk.next, 0, .row us eA false, us, rfl, hide_get.2 ⟨by have := gk.nx; omega, by rw [AH.new_get, if_pos rfl]⟩, rfl, fun i x hx => ?_⟩⟩, hv.rename (fun r hr => ?_), hri, ?_⟩
  · have hi : i < us.length := by rw [hul]; exact (List.getElem?_eq_some_iff.1 hx).1
    obtain ⟨x1, _, x4⟩ := hus i _ (List.getElem?_eq_getElem hi)
    have hxe : pss.getD i [] = x := by simp [List.getD_eq_getElem?_getD, hx]
    rw [hxe] at x4
    refine ⟨us[i], ?_, x4.sub (hide_mono sk)⟩
    show (us.drop (0 + i * 1)).take 1 = _
    rw [Nat.zero_add, Nat.mul_one, List.drop_eq_getElem_cons hi]; rfl
  · rw [hqA] at hr; cases hr
    exact Ren.put_same _ _ _
  · refine ⟨Ren.le_trans hlek hlei, hf.size, fun b hb _ => hrest b hb, fun b hb => ?_, hf.side⟩
    obtain ⟨B, p, q, h1, h2, h3, rfl⟩ := hb
    rw [AH.new_get] at h1
    split at h1
    · cases h1; cases h2
    · rename_i hB
      rw [Ren.put_ne _ _ hB] at h3
      obtain ⟨x1, x2, _⟩ := sep ρk hk hlek hsk B p q h1 h2 h3
      exact .inl ⟨B, p, q, x2, h2, x1, rfl⟩

def ckI : List Value → List Int → Bool
  | _, [] => true
  | .int .i64 z :: cs, y :: ys => decide (z = y) && ckI cs ys
  | _, _ => false
def ckR (h : EH) : List Value → List (List Int) → Bool
  | _, [] => true
  | .slice (some ⟨A, 0, none⟩) n _ :: cs, ps :: pss => decide (n = ps.length) && (match h.hp.get A with
    | some o => o.own && (match o.cells? with
      | some csi => decide (ps.length ≤ csi.length) && ckI csi ps
      | none => false)
    | none => false) && ckR h cs pss
  | _, _ => false
def ckV (pss : List (List Int)) : Value → EH → Bool
  | .slice (some ⟨A, 0, none⟩) n C, h => decide (n = pss.length) && decide (n ≤ C) && (decide (C < SL) || decide (C = SL + 1)) && (match h.hp.get A with
    | some o => o.own && (match o.cells? with
      | some cs => ckR h cs pss
      | none => false)
    | none => false)
  | _, _ => false

theorem ckI_ok : ∀ (cs : List Value) (ps : List Int), ckI cs ps = true → ∀ (j : Nat) (z : Int), ps[j]? = some z → cs[j]? = some (Value.int .i64 z)
  | _, [], _, j, z, hz => by simp at hz
  | [], y :: ys, h, j, z, hz => by simp [ckI] at h
  | c :: cs, y :: ys, h, j, z, hz => by
    unfold ckI at h
    split at h
    · rename_i he; cases he
    · rename_i e1 e2
      cases e1; cases e2
      simp only [Bool.and_eq_true, decide_eq_true_eq] at h
      obtain ⟨rfl, h⟩ := h
      cases j with
      | zero => simpa using hz
      | succ j => simp only [List.getElem?_cons_succ] at hz ⊢; exact ckI_ok _ _ h j z hz
    · cases h

theorem ckR_ok (h : EH) : ∀ (cs : List Value) (pss : List (List Int)), ckR h cs pss = true → ∀ (i : Nat) (ps : List Int), pss[i]? = some ps → ∃ (Ai Ci : Nat) (oi : AObj) (csi : List Value), cs[i]? = some (Value.slice (some ⟨Ai, 0, none⟩) (List.length ps) Ci) ∧ h.den.get Ai = some oi ∧ oi.own = true ∧ oi.cells? = some csi ∧ ps.length ≤ csi.length ∧ ∀ (j : Nat) (z : Int), ps[j]? = some z → csi[j]? = some (Value.int .i64 z)
  | _, [], _, j, z, hz => by simp at hz
  | [], y :: ys, h, j, z, hz => by simp [ckR] at h
  | c :: cs, y :: ys, hk, j, z, hz => by
    unfold ckR at hk
    split at hk
    · rename_i he; cases he
    · rename_i e1 e2
      cases e1; cases e2
      simp only [Bool.and_eq_true, decide_eq_true_eq] at hk
      obtain ⟨⟨rfl, h2⟩, h3⟩ := hk
      cases j with
      | zero =>
        simp at hz; subst hz
        split at h2
        · rename_i o ho
          simp only [Bool.and_eq_true] at h2
          obtain ⟨h4, h5⟩ := h2
          split at h5
          · rename_i csi hcsi
            simp only [Bool.and_eq_true, decide_eq_true_eq] at h5
            exact ⟨_, _, o, csi, rfl, ho, h4, hcsi, h5.1, ckI_ok _ _ h5.2⟩
          · cases h5
        · cases h2
      | succ j => simp only [List.getElem?_cons_succ] at hz ⊢; exact ckR_ok h _ _ h3 j z hz
    · cases hk

theorem ckV_ok {pss : List (List Int)} {v : Value} {h : EH} (hk : ckV pss v h = true) : Lays pss v h.den := by
  unfold ckV at hk
  split at hk
  · simp only [Bool.and_eq_true, Bool.or_eq_true, decide_eq_true_eq] at hk
    obtain ⟨⟨⟨rfl, h2⟩, h3⟩, h4⟩ := hk
    split at h4
    · rename_i o ho
      simp only [Bool.and_eq_true] at h4
      obtain ⟨h5, h6⟩ := h4
      split at h6
      · rename_i cs hcs
        exact ⟨_, _, o, cs, rfl, h2, h3, ho, h5, hcs, ckR_ok h _ _ h6⟩
      · cases h6
    · cases h4
  · cases hk

def ords3 : List (List Int) := [[2, 1, 0], [1, 2, 0], [1, 0, 2], [2, 0, 1], [0, 2, 1], [0, 1, 2]]

theorem orders3 (h : AH) : ACall Tryz.prog 77 [.int .i64 3] h (fun v h' => Gr h h' ∧ RowOf isL (hide (fun C => C < h.next) h') v ords3) := by
  refine closedRows rfl ?_ h
  have := evCall_sound (evC_sound (E := ⟨Tryz.prog, [], []⟩) mixed 100000) 77 [.int .i64 3] { next := 0, hp := T.full 11 } (ckV ords3) (by kernel_rfl)
  rw [emptyDen0] at this
  refine ACall.mono ?_ this
  rintro v h' ⟨eh, rfl, hk⟩
  exact ckV_ok hk

attribute [local push_cast] treeM_nil treeM_step treeM_two okX_true wantX_true wantX_false stepX skipX

def lexE : List Int → List Int → Bool
  | x :: xs, y :: ys => if x = y then lexE xs ys else decide (x < y)
  | _, _ => false

theorem before28 {h : AH} {v1 v2 : Value} {xs ys : List Int} (h1 : SlOf h v1 (xs.map (.int .i64))) (h2 : SlOf h v2 (ys.map (.int .i64))) (hl : xs.length = ys.length) (hb : xs.length ≤ 4294967296) :
    ACall Tryz.prog 78 [v1, v2] h (fun r h' => r = .bool (lexE xs ys) ∧ h' = h) := by
  refine ACall.of_wp 30 [.tmp 4] Tryz.func78 rfl (by kernel_rfl) rfl rfl fun a hn hd ha => ?_
  simp (disch := first | omega | decide) only [push_cast, ↓reduceIte, Nat.reduceLT, Nat.reduceEqDiff, reduceCtorEq, Nat.reduceAdd, hn, hd, ha]
  refine AW.loopN 6 [5] (fun q a' h' => h' = h ∧ ∃ i : Nat, a'.tm 5 = .int .i64 i ∧ i + q = xs.length ∧ lexE (xs.drop i) (ys.drop i) = lexE xs ys) xs.length ?_ ?_
  · exact ⟨rfl, 0, by simp (disch := first | omega | decide) only [push_cast, ↓reduceIte, Nat.reduceLT, Nat.reduceEqDiff, reduceCtorEq, Nat.reduceAdd], by omega, rfl⟩
  rintro a1 q a' h' hk kn kd kt ⟨rfl, i, h5, hiq, hgo⟩
  simp (disch := first | omega | decide) only [push_cast, ↓reduceIte, Nat.reduceLT, Nat.reduceEqDiff, reduceCtorEq, Nat.reduceAdd, kn, kd, kt, hn, hd, ha, h5, h1.lenA Tryz.underlying25]
  refine condV_of (fun hlt => ?_) (fun hge => ?_)
  · have hi : i < xs.length := by have := hlt; simp at this; omega
    have hx1 := h1.idxI sl22 .i64 i (by omega) (by omega)
    have hx2 := h1.ldI sl22 i (by omega)
    have hy1 := h2.idxI sl22 .i64 i (by omega) (by omega)
    have hy2 := h2.ldI sl22 i (by omega)
    rw [Int.toNat_natCast] at hx1 hy1
    rw [drop_cons_getD hi 0, drop_cons_getD (show i < ys.length by omega) 0, lexE] at hgo
    have hw : IntKind.i64.wrap ((i : Int) + 1) = i + 1 := wrapI (by omega) (by omega)
    generalize xs.getD i 0 = x at *
    generalize ys.getD i 0 = y at *
    refine AW.drawP (.take 0 [8, 3, 2] (.take 1 [8, 3, 2] (.take 2 [8, 3] (.take 3 [8] (.take 4 [8, 7, 6] (.take 5 [8, 7, 6] (.take 6 [8, 7] (.take 7 [8] (.take 8 [] .done))))))))) [(0, 0), (0, 1), (0, 2), (0, 3), (0, 4), (0, 5), (0, 6), (0, 7), (0, 8)] mixed (by kernel_rfl) (by kernel_rfl) ?_
    simp (disch := first | omega | decide) only [push_cast, ↓reduceIte, Nat.reduceLT, Nat.reduceEqDiff, reduceCtorEq, Nat.reduceAdd, kn, kd, kt, hn, hd, ha, h5, hx1, hx2, hy1, hy2]
    refine condV_not (fun e => ?_) (fun e => ?_)
    · have e : ¬ x = y := by simpa using e
      rw [if_neg e] at hgo
      refine AW.drawP (.take 0 [9, 8, 3, 2] (.take 1 [9, 8, 3, 2] (.take 2 [9, 8, 3] (.take 3 [9, 8] (.take 4 [9, 8, 7, 6] (.take 5 [9, 8, 7, 6] (.take 6 [9, 8, 7] (.take 7 [9, 8] (.take 8 [9] (.take 9 [] .done)))))))))) [(0, 0), (0, 1), (0, 2), (0, 3), (0, 4), (0, 5), (0, 6), (0, 7), (0, 8), (0, 9)] mixed (by kernel_rfl) (by kernel_rfl) ?_
      simp (disch := first | omega | decide) only [push_cast, ↓reduceIte, Nat.reduceLT, Nat.reduceEqDiff, reduceCtorEq, Nat.reduceAdd, kn, kd, kt, hn, hd, ha, h5, hx1, hx2, hy1, hy2]
      exact congrArg Value.bool hgo
    · have e : x = y := by simpa using e
      rw [if_pos e] at hgo
      simp (disch := first | omega | decide) only [push_cast, ↓reduceIte, Nat.reduceLT, Nat.reduceEqDiff, reduceCtorEq, Nat.reduceAdd, kn, kd, kt, hn, hd, ha, h5, hw]
      exact ⟨q - 1, by omega, (by simp (disch := decide) only [Kp_put, put_none, hk]), rfl, i + 1, by simp (disch := first | omega | decide) only [push_cast, ↓reduceIte, Nat.reduceLT, Nat.reduceEqDiff, reduceCtorEq, Nat.reduceAdd], by omega, hgo⟩
  · have hi : i = xs.length := by have := hge; simp at this; omega
    subst hi
    rw [List.drop_length] at hgo
    have : lexE [] (ys.drop xs.length) = false := by cases ys.drop xs.length <;> rfl
    rw [this] at hgo
    simp (disch := first | omega | decide) only [push_cast, ↓reduceIte, Nat.reduceLT, Nat.reduceEqDiff, reduceCtorEq, Nat.reduceAdd, kn, kd, kt, hn, hd, ha, h5, ← hgo]

/-! ### The sort, plainly -/

def insP (p : List Int) (out : List (List Int)) : List (List Int) := out.takeWhile (lexE · p) ++ [p] ++ out.dropWhile (lexE · p)
def sortGo (i : Nat) : List (List Int) := (ords3.take i).foldl (fun out p => insP p out) []

theorem sortGo_len : ∀ i, i ≤ 6 → ∀ x ∈ sortGo i, x.length = 3 := by decide
theorem sortGo_size : ∀ i, i ≤ 6 → (sortGo i).length ≤ 6 := by decide
theorem sortGo_step : ∀ i, i < 6 → sortGo (i + 1) = insP (ords3.getD i []) (sortGo i) := by decide
theorem sortGo_all : sortGo 6 = ext 3 3 [] := by decide

theorem whileAt (p : List Int) : ∀ (out : List (List Int)) (j : Nat), j ≤ out.length → (∀ x ∈ out.take j, lexE x p = true) → (j = out.length ∨ lexE (out.getD j []) p = false) → out.take j = out.takeWhile (lexE · p) ∧ out.drop j = out.dropWhile (lexE · p) := by
  intro out
  induction out with
  | nil => intro j hj _ _; have : j = 0 := by simpa using hj
           subst this; exact ⟨rfl, rfl⟩
  | cons x xs ih =>
    intro j hj h1 h2
    cases j with
    | zero =>
      have hx : lexE x p = false := by
        rcases h2 with e | e
        · simp at e
        · exact e
      rw [List.takeWhile_cons, List.dropWhile_cons, hx]; simp
    | succ j =>
      have hx : lexE x p = true := h1 x (by simp)
      obtain ⟨e1, e2⟩ := ih j (by simpa using hj) (fun y hy => h1 y (by simp [hy])) (h2.imp (fun e => by simpa using e) (fun e => by simpa using e))
      rw [List.takeWhile_cons, List.dropWhile_cons, hx]
      simp [e1, e2]

theorem infIs : ∃ i, Tryz.prog.info? 25 = some i ∧ i.size = isL.sz := ⟨(Tryz.prog.info? 25).get (by kernel_rfl), by kernel_rfl, by kernel_rfl⟩
theorem tIs : SlT Tryz.prog 97 25 24 (.slice none 0 0) := ⟨Tryz.underlying97, ⟨(Tryz.prog.info? 25).get (by kernel_rfl), by kernel_rfl, by kernel_rfl, by kernel_rfl, by kernel_rfl⟩, ⟨_, Tryz.underlying25, rfl⟩, rfl, rfl, rfl⟩

/-- Values that are slices of ints, one by one. -/
def RL (g : AH) (vs : List Value) (xs : List (List Int)) : Prop := vs.length = xs.length ∧ ∀ (j : Nat) (v : Value) (x : List Int), vs[j]? = some v → xs[j]? = some x → SlOf g v (x.map (.int .i64))

theorem RL.append {g : AH} {a b : List Value} {c d : List (List Int)} (h1 : RL g a c) (h2 : RL g b d) : RL g (a ++ b) (c ++ d) := by
  refine ⟨by rw [List.length_append, List.length_append, h1.1, h2.1], fun j v x hv hx => ?_⟩
  by_cases hj : j < a.length
  · rw [List.getElem?_append_left hj] at hv
    rw [List.getElem?_append_left (by rw [← h1.1]; exact hj)] at hx
    exact h1.2 j v x hv hx
  · rw [List.getElem?_append_right (by omega)] at hv
    rw [List.getElem?_append_right (by rw [← h1.1]; omega), ← h1.1] at hx
    exact h2.2 _ v x hv hx
theorem RL.one {g : AH} {v : Value} {x : List Int} (h : SlOf g v (x.map (.int .i64))) : RL g [v] [x] := ⟨rfl, fun j v' x' hv hx => by
  cases j with
  | zero => simp at hv hx; subst hv; subst hx; exact h
  | succ j => simp at hv⟩
theorem RL.sub {g g' : AH} {a : List Value} {c : List (List Int)} (h : RL g a c) (s : Sub g g') : RL g' a c := ⟨h.1, fun j v x hv hx => (h.2 j v x hv hx).sub s⟩

theorem rowSrc {g k : AH} {v : Value} {xs : List (List Int)} (hv : RowOf isL g v xs) (s : Sub g k) : ∃ ys, srcCells 1 v k = some (ys.length, ys) ∧ RL g ys xs ∧ ys.all oneC = true := by
  obtain ⟨ys, h1, h2, h3⟩ := hv.src
  have h2' : ys.length = xs.length := by rw [h2]; show xs.length * 1 = _; omega
  have key : ∀ (j : Nat) (v : Value) (x : List Int), ys[j]? = some v → xs[j]? = some x → SlOf g v (x.map (.int .i64)) := fun j v x hv hx => by
    obtain ⟨u, e, hu⟩ := h3 j x hx
    have e : (ys.drop (j * 1)).take 1 = [u] := e
    rw [Nat.mul_one] at e
    have := congrArg (·[0]?) e
    simp only [List.getElem?_take, List.getElem?_drop, List.getElem?_cons_zero, Nat.add_zero, Nat.lt_one_iff, if_true] at this
    rw [hv] at this; cases this; exact hu
  refine ⟨ys, by rw [h2']; exact srcCells_sub s h1, ⟨h2', key⟩, List.all_eq_true.2 fun u hu => ?_⟩
  obtain ⟨j, hj⟩ := List.getElem?_of_mem hu
  have hjl : j < xs.length := by rw [← h2']; exact (List.getElem?_eq_some_iff.1 hj).1
  exact (key j u _ hj (List.getElem?_eq_getElem hjl)).one

/-- One list inserted among others. -/
theorem insRows {N : Nat} {k : AH} (w : WFH k) (hN : N ≤ k.next) {v : Value} {bss : List (List Int)} {i : Nat} (hv : RowOf isL (hide (fun C => C < N) k) v bss) (hi : i ≤ bss.length) (hb : bss.length ≤ 64) {pv : Value} {p : List Int} (hp : SlOf (hide (fun C => C < N) k) pv (p.map (.int .i64))) :
    ∃ pre post, aSlice Tryz.prog 97 v none (some (.int .i64 i)) = some pre ∧ aSlice Tryz.prog 97 v (some (.int .i64 i)) none = some post ∧
      ∀ kA A, Gr k kA → kA.get A = some (.row [] 25 true) → k.next ≤ A → ∃ r1 kB, aAppend Tryz.prog #[97, 97] (.slice (some ⟨A, 0, none⟩) 0 0) pre kA = some (r1, kB) ∧ Gr k kB ∧ kA.next ≤ kB.next ∧ (∀ D o, kA.get D = some o → D ≠ A → kB.get D = some o) ∧
        ∀ kC D, Gr kB kC → kC.get D = some (.row [pv] 25 true) → ∃ r2 kD r3 kE, aAppend Tryz.prog #[97, 97] r1 (.slice (some ⟨D, 0, none⟩) 1 1) kC = some (r2, kD) ∧ aAppend Tryz.prog #[97, 97] r2 post kD = some (r3, kE) ∧
          Gr k kE ∧ RowOf isL (hide (fun C => C < N) kE) r3 (bss.take i ++ [p] ++ bss.drop i) := by
  have s0 : Sub (hide (fun C => C < N) k) k := hide_sub _ _
  obtain ⟨pre, e1, hpre⟩ := hv.pre Tryz.underlying97 infIs (k := .i64) hi
  obtain ⟨post, e2, hpost⟩ := hv.post Tryz.underlying97 infIs (k := .i64) hi
  refine ⟨pre, post, e1, e2, fun kA A gA hA hlo => ?_⟩
  obtain ⟨ys1, hs1, hr1, ho1⟩ := rowSrc hpre (s0.trans gA.sub)
  have hl1 : ys1.length ≤ 64 := by rw [hr1.1, List.length_take]; omega
  obtain ⟨r1, kB, happ1, ⟨obB, AB, hVB, hgB, hloB⟩, frB, wB, nB⟩ := appendAny (t := 97) (t2 := 97) tIs ⟨_, Tryz.underlying97⟩ gA.wf (v := .slice (some ⟨A, 0, none⟩) 0 0) (ob := some (.row [] 25 true)) (A := A) (zs := [])
    (.inr (.inr ⟨[], 0, rfl, by omega, Nat.le_refl _, Nat.le_refl _, rfl, rfl⟩)) (fun o e => by cases e; exact hA) hs1 ho1 (by simp only [List.length_nil]; omega) (by simp only [List.length_nil]; omega)
  have frB' : ∀ D o, kA.get D = some o → D ≠ A → kB.get D = some o := fun D o hD hne => frB D o hD (fun e => absurd e hne)
  have gB : Gr k kB := ⟨wB, fun C o hC => frB' C o (gA.sub C o hC) (by
    rintro rfl
    have := AH.get_lt w hC
    omega), Nat.le_trans gA.nx nB⟩
  refine ⟨r1, kB, happ1, gB, nB, frB', fun kC D gC hD => ?_⟩
  rw [List.nil_append] at hVB
  have g0C := gB.trans gC
  obtain ⟨r2, kD, happ2, ⟨obD, AD, hVD, hgD, hloD⟩, frD, wD, nD⟩ := appendAny (t := 97) (t2 := 97) tIs ⟨_, Tryz.underlying97⟩ gC.wf hVB (fun o e => gC.sub _ _ (hgB o e)) (x := .slice (some ⟨D, 0, none⟩) 1 1) (ys := [pv]) (by simp [srcCells, hD, AObj.cells?]) (by simp only [List.all_cons, List.all_nil, hp.one]; rfl) (by simp only [List.length_cons, List.length_nil]; omega) (by simp only [List.length_cons, List.length_nil]; omega)
  have hAB : obB ≠ none → k.next ≤ AB := fun hn => by
    have n1 := gA.nx
    rcases hloB hn with ⟨e, _⟩ | e <;> omega
  have frD' : ∀ C o, k.get C = some o → kD.get C = some o := fun C o hC => frD C o (g0C.sub C o hC) (fun e => by
    cases h : obB with
    | none => rfl
    | some x => have := hAB (by rw [h]; simp); have := AH.get_lt w hC; omega)
  have hAD : obD ≠ none → k.next ≤ AD := fun hn => by
    rcases hloD hn with ⟨e, hn2⟩ | e
    · rw [e]; exact hAB hn2
    · exact Nat.le_trans g0C.nx e
  obtain ⟨ys2, hs2, hr2, ho2⟩ := rowSrc hpost (s0.trans (frD' : Sub k kD))
  have hl2 : ys2.length ≤ 64 := by rw [hr2.1, List.length_drop]; omega
  obtain ⟨r3, kE, happ3, ⟨obE, AE, hVE, hgE, hloE⟩, frE, wE, nE⟩ := appendAny (t := 97) (t2 := 97) tIs ⟨_, Tryz.underlying97⟩ wD hVD hgD hs2 ho2 (by simp only [List.length_append, List.length_cons, List.length_nil]; omega) (by simp only [List.length_append, List.length_cons, List.length_nil]; omega)
  have gE : Gr k kE := ⟨wE, fun C o hC => frE C o (frD' C o hC) (fun e => by
    cases h : obD with
    | none => rfl
    | some x => have := hAD (by rw [h]; simp); have := AH.get_lt w hC; omega), Nat.le_trans g0C.nx (Nat.le_trans nD nE)⟩
  have hAE : obE ≠ none → k.next ≤ AE := fun hn => by
    rcases hloE hn with ⟨e, hn2⟩ | e
    · rw [e]; exact hAD hn2
    · exact Nat.le_trans g0C.nx (Nat.le_trans nD e)
  have hRL : RL (hide (fun C => C < N) k) (ys1 ++ [pv] ++ ys2) (bss.take i ++ [p] ++ bss.drop i) := (hr1.append (RL.one hp)).append hr2
  refine ⟨r2, kD, r3, kE, happ2, happ3, gE, hVE.row rfl (fun o e => hide_get.2 ⟨by have := hAE (by rw [e]; simp); omega, hgE o e⟩) hRL.1 ?_ (fun j x hx => ?_)⟩
  · simp only [List.length_append, List.length_take, List.length_drop, List.length_cons, List.length_nil]; omega
  · have hj : j < (ys1 ++ [pv] ++ ys2).length := by rw [hRL.1]; exact (List.getElem?_eq_some_iff.1 hx).1
    refine ⟨_, rfl, (hRL.2 j _ x ?_ hx).sub (hide_mono gE.sub)⟩
    rw [List.getD_eq_getElem?_getD, List.getElem?_eq_getElem hj]; rfl


theorem ords3_len : ords3.length = 6 := rfl

theorem sorted3 (h : AH) : ACall Tryz.prog 57 [.int .i64 3] h (fun r h' => Gr h h' ∧ RowOf isL (hide (fun C => C < h.next) h') r (ext 3 3 [])) := by
  refine ACall.of_wp 42 [.tmp 2] Tryz.func57 rfl (by kernel_rfl) rfl rfl fun a hn hd ha => ?_
  simp (disch := first | omega | decide) only [push_cast, ↓reduceIte, Nat.reduceLT, Nat.reduceEqDiff, reduceCtorEq, Nat.reduceAdd, hn, hd, ha]
  refine ACall.mono ?_ (orders3 h)
  rintro ov k ⟨g, ho⟩
  simp (disch := first | omega | decide) only [push_cast, ↓reduceIte, Nat.reduceLT, Nat.reduceEqDiff, reduceCtorEq, Nat.reduceAdd, hn, hd, ha, ho.len Tryz.underlying97]
  have hnk := g.nx
  refine AW.loopN 11 [3, 5, 6, 10] (fun q a' h' => ∃ (i : Nat) (sv : Value), a'.tm 10 = .int .i64 i ∧ a'.tm 3 = sv ∧ i + q = 6 ∧ Gr k h' ∧ RowOf isL (hide (fun C => C < h.next) h') sv (sortGo i)) 6 ?_ ?_
  · exact ⟨0, _, by simp (disch := first | omega | decide) only [push_cast, ↓reduceIte, Nat.reduceLT, Nat.reduceEqDiff, reduceCtorEq, Nat.reduceAdd], by simp (disch := first | omega | decide) only [push_cast, ↓reduceIte, Nat.reduceLT, Nat.reduceEqDiff, reduceCtorEq, Nat.reduceAdd], by omega, Gr.refl g.wf, rowNil⟩
  rintro a1 q a' h' hk kn kd kt ⟨i, sv, h10, h3, hiq, gk, hs⟩
  simp (disch := first | omega | decide) only [push_cast, ↓reduceIte, Nat.reduceLT, Nat.reduceEqDiff, reduceCtorEq, Nat.reduceAdd, kn, kd, kt, hn, hd, ha, h10, h3, ords3_len]
  refine condV_of (fun hlt => ?_) (fun hge => ?_)
  · have hi : i < 6 := by have := hlt; simp at this; omega
    have hsl := sortGo_size i (by omega)
    have hs3 := sortGo_len i (by omega)
    have hstep := sortGo_step i hi
    obtain ⟨cs, ⟨pv, rfl, hpv⟩, -, hl, -⟩ := (ho.sub (hide_mono gk.sub)).get (P := Tryz.prog) (i := i) hi []
    have hl0 := aLoad_sub (hide_sub _ _) (hl 0 _ flI (by decide))
    have hp3 : (ords3.getD i []).length = 3 := by
      have : ∀ i, i < 6 → (ords3.getD i []).length = 3 := by decide
      exact this i hi
    have hio : aIndexAddr Tryz.prog 97 ov (.int .i64 i) = some (slF isL.sz ov i 0) := by
      have := ho.idx Tryz.underlying97 infIs .i64 i (by omega) (by rw [ords3_len]; omega)
      rw [Int.toNat_natCast] at this; exact this
    simp only [List.getD_cons_zero] at hl0
    generalize ords3.getD i [] = p at *
    simp (disch := first | omega | decide) only [push_cast, ↓reduceIte, Nat.reduceLT, Nat.reduceEqDiff, reduceCtorEq, Nat.reduceAdd, kn, kd, kt, hn, hd, ha, h10, h3, hio, hl0]
    refine AW.keep 11 [3, 5, 6, 10] (a0 := a1) (by simp (disch := decide) only [Kp_put, put_none, hk]) (fun hkc => ?_)
    refine AW.mono (Q := fun ex a3 h3' => ex = .exit 2 ∧ h3' = h' ∧ a3.n = 42 ∧ a3.df = [] ∧ a3.tm 3 = sv ∧ a3.tm 5 = pv ∧ a3.tm 10 = .int .i64 i ∧ Kp 11 [3, 5, 6, 10] a1 a3 ∧ ∃ j : Nat, a3.tm 6 = .int .i64 j ∧ j ≤ (sortGo i).length ∧ (sortGo (i + 1)) = (sortGo i).take j ++ [p] ++ (sortGo i).drop j) ?_ ?_
    case refine_2 =>
      refine AW.loopN 14 [6] (fun q2 a2 h2 => h2 = h' ∧ ∃ j : Nat, a2.tm 6 = .int .i64 j ∧ j + q2 = (sortGo i).length ∧ ∀ x ∈ (sortGo i).take j, lexE x p = true) (sortGo i).length ?_ ?_
      · exact ⟨rfl, 0, by simp (disch := first | omega | decide) only [push_cast, ↓reduceIte, Nat.reduceLT, Nat.reduceEqDiff, reduceCtorEq, Nat.reduceAdd], by omega, fun x hx => by simp at hx⟩
      rintro a4 q2 a2 h2 hk2 kn2 kd2 kt2 ⟨rfl, j, h6, hjq, hall⟩
      have hsr := hs.sub (hide_sub _ _)
      have hk0 : Kp 11 [3, 5, 6, 10] a1 a2 := Kp.trans (lo' := 14) (X' := [6]) hkc ⟨kn2, kd2, kt2⟩ (by omega) (by simp)
      simp (disch := first | omega | decide) only [push_cast, ↓reduceIte, Nat.reduceLT, Nat.reduceEqDiff, reduceCtorEq, Nat.reduceAdd, kn2, kd2, kt2, kn, kd, kt, hn, hd, ha, h10, h3, h6, hsr.len Tryz.underlying97]
      refine wantM_of (fun e => ?_) (fun e => ?_)
      · have hj : j < (sortGo i).length := by have := e; simp at this; omega
        obtain ⟨cs, ⟨xv, rfl, hxv⟩, -, hlx, -⟩ := hsr.get (P := Tryz.prog) (i := j) hj []
        have hlx0 := hlx 0 _ flI (by decide)
        simp only [List.getD_cons_zero] at hlx0
        have hix : aIndexAddr Tryz.prog 97 sv (.int .i64 j) = some (slF isL.sz sv j 0) := by
          have := hs.idx Tryz.underlying97 infIs .i64 j (by omega) (by omega)
          rw [Int.toNat_natCast] at this; exact this
        have hx3 := hs3 _ (getD_mem hj [])
        have htk : (sortGo i).take (j + 1) = (sortGo i).take j ++ [(sortGo i).getD j []] := take_succ_getD hj []
        have hend : lexE ((sortGo i).getD j []) p = false → sortGo (i + 1) = (sortGo i).take j ++ [p] ++ (sortGo i).drop j := fun hf => by
          obtain ⟨w1, w2⟩ := whileAt p (sortGo i) j (by omega) hall (.inr hf)
          rw [hstep, insP, w1, w2]
        generalize (sortGo i).getD j [] = x at *
        simp (disch := first | omega | decide) only [push_cast, ↓reduceIte, Nat.reduceLT, Nat.reduceEqDiff, reduceCtorEq, Nat.reduceAdd, kn2, kd2, kt2, kn, kd, kt, hn, hd, ha, h10, h3, h6, e, hix, hlx0]
        refine ACall.mono ?_ (before28 hxv (hpv.sub (hide_sub _ _)) (by omega) (by omega))
        rintro _ h2 ⟨rfl, rfl⟩
        simp (disch := first | omega | decide) only [push_cast, ↓reduceIte, Nat.reduceLT, Nat.reduceEqDiff, reduceCtorEq, Nat.reduceAdd, kn2, kd2, kt2, kn, kd, kt, hn, hd, ha, h10, h3, h6, e]
        have hw : IntKind.i64.wrap ((j : Int) + 1) = j + 1 := wrapI (by omega) (by omega)
        refine condV_of (fun c => ?_) (fun c => ?_)
        · simp (disch := first | omega | decide) only [push_cast, ↓reduceIte, Nat.reduceLT, Nat.reduceEqDiff, reduceCtorEq, Nat.reduceAdd, kn2, kd2, kt2, kn, kd, kt, hn, hd, ha, h10, h3, h6, hw]
          refine ⟨q2 - 1, by omega, (by simp (disch := decide) only [Kp_put, put_none, hk2]), rfl, j + 1, by simp (disch := first | omega | decide) only [push_cast, ↓reduceIte, Nat.reduceLT, Nat.reduceEqDiff, reduceCtorEq, Nat.reduceAdd], by omega, fun y hy => ?_⟩
          rw [htk] at hy
          rcases List.mem_append.1 hy with hy | hy
          · exact hall y hy
          · simp at hy; rw [hy]; exact c
        · simp (disch := first | omega | decide) only [push_cast, ↓reduceIte, Nat.reduceLT, Nat.reduceEqDiff, reduceCtorEq, Nat.reduceAdd, kn2, kd2, kt2, kn, kd, kt, hn, hd, ha, h10, h3, h6]
          exact ⟨by simp (disch := decide) only [Kp_put, put_none, hk0], j, rfl, by omega, hend c⟩
      · have hj : j = (sortGo i).length := by have := e; simp at this; omega
        obtain ⟨w1, w2⟩ := whileAt p (sortGo i) j (by omega) hall (.inl hj)
        simp (disch := first | omega | decide) only [push_cast, ↓reduceIte, Nat.reduceLT, Nat.reduceEqDiff, reduceCtorEq, Nat.reduceAdd, kn2, kd2, kt2, kn, kd, kt, hn, hd, ha, h10, h3, h6, e]
        exact ⟨by simp (disch := decide) only [Kp_put, put_none, hk0], j, rfl, by omega, by rw [hstep, insP, w1, w2]⟩
    rintro _ a3 h' ⟨rfl, rfl, cn, cd, c3, c5, c10, hk3, j, c6, hj, hnext⟩
    obtain ⟨pre, post, e1, e2, F⟩ := insRows gk.wf (Nat.le_trans hnk gk.nx) hs hj (by omega) hpv
    have hpv1 : pv.cells.toList = [pv] := by obtain ⟨p, l, c, rfl, _⟩ := hpv; rfl
    have hb1 := fun hh => aBuild1 tIs hh hpv1 hpv.one
    have hw : IntKind.i64.wrap ((i : Int) + 1) = i + 1 := wrapI (by omega) (by omega)
    have gX := (Gr.refl gk.wf).new (.row [] 25 true)
    have gY := gX.new (.row [pv] 25 true)
    have gZ := ((Gr.refl gk.wf).new (.row [pv] 25 true)).new (.row [] 25 true)
    obtain ⟨rX, kX, aX1, bX, nX, -, FX⟩ := F _ h'.next gX (by rw [AH.new_get, if_pos rfl]) (Nat.le_refl _)
    obtain ⟨rX2, kX2, rX3, kX3, aX2, aX3, gX3, hX3⟩ := FX _ kX.next ((Gr.refl bX.wf).new (.row [pv] 25 true)) (by rw [AH.new_get, if_pos rfl])
    obtain ⟨rY, kY, aY1, bY, nY, keY, FY⟩ := F _ h'.next gY (by rw [AH.new_get, if_neg (by simp), AH.new_get, if_pos rfl]) (Nat.le_refl _)
    obtain ⟨rY2, kY2, rY3, kY3, aY2, aY3, gY3, hY3⟩ := FY kY (h'.next + 1) (Gr.refl bY.wf) (keY _ _ (by rw [AH.new_get]; exact if_pos rfl) (by omega))
    obtain ⟨rZ, kZ, aZ1, bZ, nZ, keZ, FZ⟩ := F _ (h'.next + 1) gZ (by rw [AH.new_get]; exact if_pos rfl) (Nat.le_succ _)
    obtain ⟨rZ2, kZ2, rZ3, kZ3, aZ2, aZ3, gZ3, hZ3⟩ := FZ kZ h'.next (Gr.refl bZ.wf) (keZ _ _ (by rw [AH.new_get, if_neg (by simp), AH.new_get, if_pos rfl]) (by omega))
    rw [← hnext] at hX3 hY3 hZ3
    simp (disch := first | omega | decide) only [push_cast, ↓reduceIte, Nat.reduceLT, Nat.reduceEqDiff, reduceCtorEq, Nat.reduceAdd, cn, cd, c3, c5, c6, c10]
    refine AW.drawX (.take 1 [12, 11, 7, 4, 3] (.take 2 [12, 11, 7, 4, 3] (.take 3 [12, 11, 7, 4] (.take 5 [12, 11, 7, 6] (.take 8 [12, 11, 10] (.take 9 [12, 11, 10] (.take 10 [12, 11] (.two 0 (.two 4 (.only 6 (.only 7 (.only 11 (.take 12 [] .done)))) 6 (.only 4 (.only 7 (.only 11 (.take 12 [] .done))))) 6 (.only 0 (.only 4 (.only 7 (.only 11 (.take 12 [] .done))))))))))))) (.step 0 1 (.step 0 2 (.step 0 3 (.step 0 5 (.step 0 8 (.step 0 9 (.step 0 10 (.two 0 (.two 4 (.step 2 6 (.step 2 7 (.step 2 11 (.step 0 12 .nil)))) 6 (.step 2 4 (.step 2 7 (.step 2 11 (.step 0 12 .nil))))) 6 (.step 2 0 (.step 2 4 (.step 2 7 (.step 2 11 (.step 0 12 .nil))))))))))))) mixed (by kernel_rfl) rfl ?_
    simp (disch := first | omega | decide) only [push_cast, ↓reduceIte, Nat.reduceLT, Nat.reduceEqDiff, reduceCtorEq, Nat.reduceAdd, cn, cd, c3, c5, c6, c10, e1, e2, aBuildSlice_empty tIs, hb1, AH.new_next, aX1, aX2, aX3, aY1, aY2, aY3, aZ1, aZ2, aZ3, hw]
    refine ⟨⟨?_, ?_⟩, ?_⟩
    · exact ⟨q - 1, by omega, by simp (disch := decide) only [Kp_put, put_none, hk3], i + 1, rX3, by simp (disch := first | omega | decide) only [push_cast, ↓reduceIte, Nat.reduceLT, Nat.reduceEqDiff, reduceCtorEq, Nat.reduceAdd], by simp (disch := first | omega | decide) only [push_cast, ↓reduceIte, Nat.reduceLT, Nat.reduceEqDiff, reduceCtorEq, Nat.reduceAdd], by omega, gk.trans gX3, hX3⟩
    · exact ⟨q - 1, by omega, by simp (disch := decide) only [Kp_put, put_none, hk3], i + 1, rY3, by simp (disch := first | omega | decide) only [push_cast, ↓reduceIte, Nat.reduceLT, Nat.reduceEqDiff, reduceCtorEq, Nat.reduceAdd], by simp (disch := first | omega | decide) only [push_cast, ↓reduceIte, Nat.reduceLT, Nat.reduceEqDiff, reduceCtorEq, Nat.reduceAdd], by omega, gk.trans gY3, hY3⟩
    · exact ⟨q - 1, by omega, by simp (disch := decide) only [Kp_put, put_none, hk3], i + 1, rZ3, by simp (disch := first | omega | decide) only [push_cast, ↓reduceIte, Nat.reduceLT, Nat.reduceEqDiff, reduceCtorEq, Nat.reduceAdd], by simp (disch := first | omega | decide) only [push_cast, ↓reduceIte, Nat.reduceLT, Nat.reduceEqDiff, reduceCtorEq, Nat.reduceAdd], by omega, gk.trans gZ3, hZ3⟩
  · have hi : i = 6 := by have := hge; simp at this; omega
    subst hi
    rw [sortGo_all] at hs
    simp (disch := first | omega | decide) only [push_cast, ↓reduceIte, Nat.reduceLT, Nat.reduceEqDiff, reduceCtorEq, Nat.reduceAdd, kn, kd, kt, hn, hd, ha, h10, h3]
    exact ⟨g.trans gk, hs⟩


theorem wrapU0 {x : Int} (h0 : 0 ≤ x) (h1 : x < 18446744073709551616) : IntKind.u64.wrap x = x := by
  unfold IntKind.wrap
  simp [IntKind.bits, IntKind.signed]
  omega

theorem eval21 {h : AH} {t k : Int} (h0 : 0 ≤ k) (h1 : k < 64) : ACall Tryz.prog 79 [.int .u64 t, .int .i64 k] h (fun r h' => r = .bool (evalE t k) ∧ h' = h) := by
  refine ACall.of_wp 19 [.tmp 4] Tryz.func79 rfl (by kernel_rfl) rfl rfl fun a hn hd ha => ?_
  have e1 : decide (k ≥ 0) = true := by simpa using h0
  have e2 : decide (k < 64) = true := by simpa using h1
  have e3 : min k 64 = k := by omega
  simp (disch := first | omega | decide | (simp only [List.length_cons, List.length_nil] <;> omega)) only [push_cast, ↓reduceIte, Nat.reduceLT, Nat.reduceEqDiff, reduceCtorEq, Nat.reduceAdd, hn, hd, ha, e1, e2, aBytes_skip ⟨_, Tryz.underlying3⟩, aConvI Tryz.underlying3 Tryz.underlying99, shrR, wrapU0 h0 (by omega)]
  simp only [evalE, e1, e3, Bool.true_and, andE, ieq]

/-- The number that truths make, the lowest first. -/
def idxE : List Bool → Int
  | [] => 0
  | b :: bs => (if b then 1 else 0) + 2 * idxE bs

theorem idxE_append (b : Bool) : ∀ l : List Bool, idxE (l ++ [b]) = idxE l + (if b then 2 ^ l.length else 0) := by
  intro l
  induction l with
  | nil => cases b <;> rfl
  | cons a l ih =>
    simp only [List.cons_append, idxE, ih, List.length_cons, Int.pow_succ]
    cases b <;> simp <;> omega

theorem idxE_range : ∀ l : List Bool, 0 ≤ idxE l ∧ idxE l < 2 ^ l.length := by
  intro l
  induction l with
  | nil => simp [idxE]
  | cons a l ih =>
    simp only [idxE, List.length_cons, Int.pow_succ]
    cases a <;> simp <;> omega

theorem eval28R {h : AH} {c : Cell} {dv iv : Value} {bs : List Bool} (hd : SlOf h dv (c.delay.map (.int .i64))) (ok : CellOK c) (hc : checkE c = 0) (hi : SlOf h iv (bs.map .bool)) (hl : (bs.length : Int) = c.pins) (hl4 : bs.length ≤ 4) :
    ACall Tryz.prog 58 [cellV c dv, iv] h (fun r _ => r = .tuple #[.bool (evalE c.table (idxE bs)), .int .i64 0]) := by
  refine ACall.wf ⟨_, Tryz.func58, rfl, by kernel_rfl⟩ fun hwf => ?_
  refine ACall.of_wp 38 [.tmp 4, .tmp 5] Tryz.func58 rfl (by kernel_rfl) rfl rfl fun a hn hdf ha => ?_
  have hbox := boxA 40 h [.string c.name, .int .i64 c.pins, .int .u64 c.table, .int .i64 c.area, dv] (by simp only [List.all_cons, List.all_nil, hd.one]; rfl)
  have hCs : CsAt (h.new (.row [.string c.name, .int .i64 c.pins, .int .u64 c.table, .int .i64 c.area, dv] 40 true)) h.next [.string c.name, .int .i64 c.pins, .int .u64 c.table, .int .i64 c.area, dv] := CsAt.new _ _ _ _
  have hs : Sub h (h.new (.row [.string c.name, .int .i64 c.pins, .int .u64 c.table, .int .i64 c.area, dv] 40 true)) := Sub.new hwf _
  simp (disch := first | omega | decide | (simp only [List.length_cons, List.length_nil] <;> omega)) only [push_cast, ↓reduceIte, Nat.reduceLT, Nat.reduceEqDiff, reduceCtorEq, Nat.reduceAdd, hn, hdf, ha, cellV, hbox, hCs.la agC]
  generalize h.new (.row [.string c.name, .int .i64 c.pins, .int .u64 c.table, .int .i64 c.area, dv] 40 true) = k at hCs hs ⊢
  generalize h.next = P at hCs ⊢
  obtain ⟨o1, o2, o3⟩ := ok
  have h28 := one28 (h := k) (hd.sub hs) o1 o2 o3
  rw [cellV] at h28
  refine ACall.mono ?_ h28
  rintro _ k ⟨rfl, rfl⟩
  simp (disch := first | omega | decide | (simp only [List.length_cons, List.length_nil] <;> omega)) only [push_cast, ↓reduceIte, Nat.reduceLT, Nat.reduceEqDiff, reduceCtorEq, Nat.reduceAdd, hn, hdf, ha, hc, hi.lenA Tryz.underlying43, faL foC1, hCs.ld fl3, hl]
  refine AW.loopN 19 [7, 8] (fun q a' h' => h' = k ∧ ∃ i : Nat, a'.tm 8 = .int .i64 i ∧ i + q = bs.length ∧ a'.tm 7 = .int .i64 (idxE (bs.take i))) bs.length ?_ ?_
  · exact ⟨rfl, 0, by simp (disch := first | omega | decide | (simp only [List.length_cons, List.length_nil] <;> omega)) only [push_cast, ↓reduceIte, Nat.reduceLT, Nat.reduceEqDiff, reduceCtorEq, Nat.reduceAdd], by omega, by simp (disch := first | omega | decide | (simp only [List.length_cons, List.length_nil] <;> omega)) only [push_cast, ↓reduceIte, Nat.reduceLT, Nat.reduceEqDiff, reduceCtorEq, Nat.reduceAdd]; rfl⟩
  rintro a1 q a' h' hk kn kd kt ⟨rfl, i, h8, hiq, h7⟩
  simp (disch := first | omega | decide | (simp only [List.length_cons, List.length_nil] <;> omega)) only [push_cast, ↓reduceIte, Nat.reduceLT, Nat.reduceEqDiff, reduceCtorEq, Nat.reduceAdd, kn, kd, kt, hn, hdf, ha, h8, h7, hi.lenA Tryz.underlying43]
  refine condV_of (fun hlt => ?_) (fun hge => ?_)
  · have hil : i < bs.length := by have := hlt; simp at this; omega
    have hidx := (hi.sub hs).idxB sl23 .i64 i (by omega) (by omega)
    have hld := (hi.sub hs).ldB sl23 i (by omega)
    rw [Int.toNat_natCast] at hidx
    have htk : bs.take (i + 1) = bs.take i ++ [bs.getD i false] := take_succ_getD hil false
    have hlen : (bs.take i).length = i := by rw [List.length_take]; omega
    have hnx : idxE (bs.take (i + 1)) = idxE (bs.take i) + (if bs.getD i false then 2 ^ i else 0) := by rw [htk, idxE_append, hlen]
    have hr1 := idxE_range (bs.take i)
    rw [hlen] at hr1
    have hi4 : i = 0 ∨ i = 1 ∨ i = 2 ∨ i = 3 := by omega
    have hw : IntKind.i64.wrap ((i : Int) + 1) = i + 1 := wrapI (by omega) (by omega)
    have hsh : shlE .i64 (i : Int) = 2 ^ i := by rcases hi4 with rfl | rfl | rfl | rfl <;> rfl
    have hp : (2 : Int) ^ i ≤ 8 := by rcases hi4 with rfl | rfl | rfl | rfl <;> decide
    have hp0 : 0 ≤ (2 : Int) ^ i := by rcases hi4 with rfl | rfl | rfl | rfl <;> decide
    generalize idxE (bs.take i) = s at *
    simp (disch := first | omega | decide | (simp only [List.length_cons, List.length_nil] <;> omega)) only [push_cast, ↓reduceIte, Nat.reduceLT, Nat.reduceEqDiff, reduceCtorEq, Nat.reduceAdd, kn, kd, kt, hn, hdf, ha, h8, h7, hidx, hld]
    refine condV_of (fun e => ?_) (fun e => ?_)
    · rw [e, if_pos rfl] at hnx
      have hw2 : IntKind.i64.wrap (s + 2 ^ i) = s + 2 ^ i := wrapI (by omega) (by omega)
      simp (disch := first | omega | decide | (simp only [List.length_cons, List.length_nil] <;> omega)) only [push_cast, ↓reduceIte, Nat.reduceLT, Nat.reduceEqDiff, reduceCtorEq, Nat.reduceAdd, kn, kd, kt, hn, hdf, ha, h8, h7, aBytes_skip ⟨_, Tryz.underlying3⟩, aConvI Tryz.underlying3 Tryz.underlying99, wrapU0, shl1, hsh, hw2, hw]
      exact ⟨q - 1, by omega, (by simp (disch := decide) only [Kp_put, put_none, hk]), rfl, i + 1, by simp (disch := first | omega | decide | (simp only [List.length_cons, List.length_nil] <;> omega)) only [push_cast, ↓reduceIte, Nat.reduceLT, Nat.reduceEqDiff, reduceCtorEq, Nat.reduceAdd], by omega, by simp (disch := first | omega | decide | (simp only [List.length_cons, List.length_nil] <;> omega)) only [push_cast, ↓reduceIte, Nat.reduceLT, Nat.reduceEqDiff, reduceCtorEq, Nat.reduceAdd, hnx]⟩
    · rw [e, if_neg (by decide), Int.add_zero] at hnx
      simp (disch := first | omega | decide | (simp only [List.length_cons, List.length_nil] <;> omega)) only [push_cast, ↓reduceIte, Nat.reduceLT, Nat.reduceEqDiff, reduceCtorEq, Nat.reduceAdd, kn, kd, kt, hn, hdf, ha, h8, h7, hw]
      exact ⟨q - 1, by omega, (by simp (disch := decide) only [Kp_put, put_none, hk]), rfl, i + 1, by simp (disch := first | omega | decide | (simp only [List.length_cons, List.length_nil] <;> omega)) only [push_cast, ↓reduceIte, Nat.reduceLT, Nat.reduceEqDiff, reduceCtorEq, Nat.reduceAdd], by omega, by simp (disch := first | omega | decide | (simp only [List.length_cons, List.length_nil] <;> omega)) only [push_cast, ↓reduceIte, Nat.reduceLT, Nat.reduceEqDiff, reduceCtorEq, Nat.reduceAdd, hnx, h7]⟩
  · have hil : i = bs.length := by have := hge; simp at this; omega
    subst hil
    rw [List.take_length] at h7
    have hr := idxE_range bs
    have hp : (2 : Int) ^ bs.length ≤ 16 := by
      have : bs.length = 0 ∨ bs.length = 1 ∨ bs.length = 2 ∨ bs.length = 3 ∨ bs.length = 4 := by omega
      rcases this with e | e | e | e | e <;> rw [e] <;> decide
    simp (disch := first | omega | decide | (simp only [List.length_cons, List.length_nil] <;> omega)) only [push_cast, ↓reduceIte, Nat.reduceLT, Nat.reduceEqDiff, reduceCtorEq, Nat.reduceAdd, kn, kd, kt, hn, hdf, ha, h8, h7, faL foC2, hCs.ld flU]
    refine ACall.mono ?_ (eval21 hr.1 (by omega))
    rintro _ h' ⟨rfl, rfl⟩
    simp (disch := first | omega | decide | (simp only [List.length_cons, List.length_nil] <;> omega)) only [push_cast, ↓reduceIte, Nat.reduceLT, Nat.reduceEqDiff, reduceCtorEq, Nat.reduceAdd, kn, kd, kt, hn, hdf, ha, h8, h7]

theorem eval28 {h : AH} {c : Cell} {dv iv : Value} {bs : List Bool} (hd : SlOf h dv (c.delay.map (.int .i64))) (ok : CellOK c) (hc : checkE c = 0) (hi : SlOf h iv (bs.map .bool)) (hl : (bs.length : Int) = c.pins) (hl4 : bs.length ≤ 4) :
    ACall Tryz.prog 58 [cellV c dv, iv] h (fun r h' => r = .tuple #[.bool (evalE c.table (idxE bs)), .int .i64 0] ∧ h' = h) :=
  ACall.viewed rfl (eval28R hd.view ok hc hi.view hl hl4)

def makeGo : Int → Int → List Bool → Int
  | t, _, [] => t
  | t, k, b :: bs => makeGo (if b then orE .u64 t (shlE .u64 k) else t) (k + 1) bs

theorem make21 {h : AH} {v : Value} {bs : List Bool} (hv : SlOf h v (bs.map .bool)) (hb : bs.length ≤ 64) :
    ACall Tryz.prog 59 [v] h (fun r h' => r = .int .u64 (makeGo 0 0 bs) ∧ h' = h) := by
  refine ACall.of_wp 21 [.tmp 2] Tryz.func59 rfl (by kernel_rfl) rfl rfl fun a hn hd ha => ?_
  simp (disch := first | omega | decide | (simp only [List.length_cons, List.length_nil] <;> omega)) only [push_cast, ↓reduceIte, Nat.reduceLT, Nat.reduceEqDiff, reduceCtorEq, Nat.reduceAdd, hn, hd, ha]
  refine AW.loopN 5 [3, 4] (fun q a' h' => h' = h ∧ ∃ (i : Nat) (t : Int), a'.tm 4 = .int .i64 i ∧ i + q = bs.length ∧ a'.tm 3 = .int .u64 t ∧ makeGo t i (bs.drop i) = makeGo 0 0 bs) bs.length ?_ ?_
  · exact ⟨rfl, 0, 0, by simp (disch := first | omega | decide | (simp only [List.length_cons, List.length_nil] <;> omega)) only [push_cast, ↓reduceIte, Nat.reduceLT, Nat.reduceEqDiff, reduceCtorEq, Nat.reduceAdd], by omega, by simp (disch := first | omega | decide | (simp only [List.length_cons, List.length_nil] <;> omega)) only [push_cast, ↓reduceIte, Nat.reduceLT, Nat.reduceEqDiff, reduceCtorEq, Nat.reduceAdd], rfl⟩
  rintro a1 q a' h' hk kn kd kt ⟨rfl, i, t, h4, hiq, h3, hgo⟩
  simp (disch := first | omega | decide | (simp only [List.length_cons, List.length_nil] <;> omega)) only [push_cast, ↓reduceIte, Nat.reduceLT, Nat.reduceEqDiff, reduceCtorEq, Nat.reduceAdd, kn, kd, kt, hn, hd, ha, h4, h3, hv.lenA Tryz.underlying43]
  refine condV_of (fun hlt => ?_) (fun hge => ?_)
  · have hil : i < bs.length := by have := hlt; simp at this; omega
    have hidx := hv.idxB sl23 .i64 i (by omega) (by omega)
    have hld := hv.ldB sl23 i (by omega)
    rw [Int.toNat_natCast] at hidx
    rw [drop_cons_getD hil false, makeGo] at hgo
    have hw : IntKind.i64.wrap ((i : Int) + 1) = i + 1 := wrapI (by omega) (by omega)
    generalize bs.getD i false = x at *
    simp (disch := first | omega | decide | (simp only [List.length_cons, List.length_nil] <;> omega)) only [push_cast, ↓reduceIte, Nat.reduceLT, Nat.reduceEqDiff, reduceCtorEq, Nat.reduceAdd, kn, kd, kt, hn, hd, ha, h4, h3, hidx, hld]
    refine condV_of (fun e => ?_) (fun e => ?_)
    · subst e
      rw [if_pos rfl] at hgo
      simp (disch := first | omega | decide | (simp only [List.length_cons, List.length_nil] <;> omega)) only [push_cast, ↓reduceIte, Nat.reduceLT, Nat.reduceEqDiff, reduceCtorEq, Nat.reduceAdd, kn, kd, kt, hn, hd, ha, h4, h3, aBytes_skip ⟨_, Tryz.underlying3⟩, aConvI Tryz.underlying3 Tryz.underlying99, wrapU0, shl1, hw]
      exact ⟨q - 1, by omega, (by simp (disch := decide) only [Kp_put, put_none, hk]), rfl, i + 1, _, by simp (disch := first | omega | decide | (simp only [List.length_cons, List.length_nil] <;> omega)) only [push_cast, ↓reduceIte, Nat.reduceLT, Nat.reduceEqDiff, reduceCtorEq, Nat.reduceAdd], by omega, by simp (disch := first | omega | decide | (simp only [List.length_cons, List.length_nil] <;> omega)) only [push_cast, ↓reduceIte, Nat.reduceLT, Nat.reduceEqDiff, reduceCtorEq, Nat.reduceAdd]; rfl, hgo⟩
    · subst e
      simp (disch := first | omega | decide | (simp only [List.length_cons, List.length_nil] <;> omega)) only [push_cast, ↓reduceIte, Nat.reduceLT, Nat.reduceEqDiff, reduceCtorEq, Nat.reduceAdd, kn, kd, kt, hn, hd, ha, h4, h3, hw]
      exact ⟨q - 1, by omega, (by simp (disch := decide) only [Kp_put, put_none, hk]), rfl, i + 1, _, by simp (disch := first | omega | decide | (simp only [List.length_cons, List.length_nil] <;> omega)) only [push_cast, ↓reduceIte, Nat.reduceLT, Nat.reduceEqDiff, reduceCtorEq, Nat.reduceAdd], by omega, by simp (disch := first | omega | decide | (simp only [List.length_cons, List.length_nil] <;> omega)) only [push_cast, ↓reduceIte, Nat.reduceLT, Nat.reduceEqDiff, reduceCtorEq, Nat.reduceAdd, h3], hgo⟩
  · have hil : i = bs.length := by have := hge; simp at this; omega
    subst hil
    rw [List.drop_length] at hgo
    simp (disch := first | omega | decide | (simp only [List.length_cons, List.length_nil] <;> omega)) only [push_cast, ↓reduceIte, Nat.reduceLT, Nat.reduceEqDiff, reduceCtorEq, Nat.reduceAdd, kn, kd, kt, hn, hd, ha, h4, h3]
    exact congrArg (Value.int .u64) hgo

/-! ### The law -/

def inE (k : Int) (p : List Int) : List Bool := p.map fun z => decide (bitE k z = 1)
def valsE (t : Int) (p : List Int) (n : Nat) : List Bool := (List.range n).map fun (k : Nat) => evalE t (idxE (inE k p))
def hit28 (t : Int) (p : List Int) : Bool := decide (makeGo 0 0 (valsE t p 8) = 202)

theorem hit_all : ((List.range 256).all fun (t : Nat) => (ext 3 3 []).all fun p => hit28 t p == hitE t 202 3 p) = true := by kernel_rfl
theorem hit_eq {t : Int} (h0 : 0 ≤ t) (h1 : t < 256) {p : List Int} (hp : p ∈ ext 3 3 []) : hit28 t p = hitE t 202 3 p := by
  have h := List.all_eq_true.1 (List.all_eq_true.1 hit_all t.toNat (List.mem_range.2 (by omega))) p hp
  rw [Int.toNat_of_nonneg h0] at h
  exact eq_of_beq h


theorem frGrow {e : TypeId} {h0 h h' : AH} {v : Value} {vs : List Value} (f : FrSl e h0 h v vs) (s : Sub h h') : FrSl e h0 h' v vs := by
  obtain ⟨B, ⟨rfl, rfl⟩ | ⟨hn, rfl, hg⟩, hb⟩ := f
  · exact FrSl.nil _ _ _
  · exact ⟨B, .inr ⟨hn, rfl, s _ _ hg⟩, hb⟩

theorem matchBits {k : AH} {a : AAct} {pv : Value} {p : List Int} {kk : Nat} (hn : a.n = 105) (hd : a.df = []) (w0 : WFH k) (hp : SlOf k pv (p.map (.int .i64))) (hpl : p.length = 3) (hpz : ∀ z ∈ p, 0 ≤ z ∧ z < 3)
    (t2 : a.tm 2 = .int .i64 3) (t13 : a.tm 13 = pv) (t15 : a.tm 15 = .int .i64 kk) (t16 : a.tm 16 = .slice none 0 0) (t17 : a.tm 17 = .int .i64 0) :
    AW Tryz.prog none (bodyBlk Tryz.f30 6) (fun e a' h' => e = .exit 6 ∧ a'.n = 105 ∧ a'.df = [] ∧ (∀ i, i < 63 → i ∉ [16, 17] → a'.tm i = a.tm i) ∧ Gr k h' ∧ FrSl 4 k h' (a'.tm 16) ((inE kk p).map .bool)) a k := by
  refine AW.at (rfl : bodyBlk Tryz.f30 6 = .loop _) ?_
  refine AW.loopN 63 [16, 17] (fun q a' h' => ∃ (j : Nat) (rv : Value), a'.tm 17 = .int .i64 j ∧ a'.tm 16 = rv ∧ j + q = 3 ∧ Gr k h' ∧ FrSl 4 k h' rv ((inE kk (p.take j)).map .bool)) 3 ?_ ?_
  · exact ⟨0, _, by rw [t17]; rfl, t16, by omega, Gr.refl w0, FrSl.nil _ _ _⟩
  rintro a1 q a' h' hk kn kd kt ⟨j, rv, h17, h16, hjq, hg, hf⟩
  simp (disch := first | omega | decide) only [push_cast, ↓reduceIte, Nat.reduceLT, Nat.reduceEqDiff, reduceCtorEq, Nat.reduceAdd, kn, kd, kt, hn, hd, t2, t13, t15, h16, h17]
  refine condV_of (fun hlt => ?_) (fun hge => ?_)
  · have hj : j < p.length := by have := hlt; simp at this; omega
    have hz := hpz _ (getD_mem hj 0)
    have hidx := (hp.sub hg.sub).idxI sl22 .i64 j (by omega) (by omega)
    have hld := (hp.sub hg.sub).ldI sl22 j (by omega)
    rw [Int.toNat_natCast] at hidx
    have htk : inE kk (p.take (j + 1)) = inE kk (p.take j) ++ [decide (bitE kk (p.getD j 0) = 1)] := by rw [take_succ_getD hj 0, inE, List.map_append]; rfl
    have hil : (inE kk (p.take j)).length ≤ 3 := by unfold inE; rw [List.length_map, List.length_take]; omega
    generalize p.getD j 0 = z at *
    have hbz : decide (IntKind.i64.wrap ((BitVec.ofInt IntKind.i64.bits ((kk : Int).fdiv (2 ^ min z.toNat IntKind.i64.bits)) &&& BitVec.ofInt IntKind.i64.bits 1).toNat) = 1) = decide (bitE kk z = 1) := rfl
    have happ := fun x => app1 t23 (t := 43) hg hf (by rw [List.length_map]; omega) (by rw [List.length_map]; omega) (.bool x)
    have hw : IntKind.i64.wrap ((j : Int) + 1) = j + 1 := wrapI (by omega) (by omega)
    simp (disch := first | omega | decide) only [push_cast, ↓reduceIte, Nat.reduceLT, Nat.reduceEqDiff, reduceCtorEq, Nat.reduceAdd, kn, kd, kt, hn, hd, t2, t13, t15, h16, h17, hidx, hld, aBytes_skip ⟨_, Tryz.underlying3⟩, aConvI Tryz.underlying3 Tryz.underlying99, shrR, wrapU0, hbz, aBuild1 t23 h' (x := .bool (decide (bitE kk z = 1))) rfl rfl, happ, hw]
    refine ⟨q - 1, by omega, (by simp (disch := decide) only [Kp_put, put_none, hk]), j + 1, app1V h' (inE kk (p.take j)).length, by simp (disch := first | omega | decide) only [push_cast, ↓reduceIte, Nat.reduceLT, Nat.reduceEqDiff, reduceCtorEq, Nat.reduceAdd], by simp (disch := first | omega | decide) only [push_cast, ↓reduceIte, Nat.reduceLT, Nat.reduceEqDiff, reduceCtorEq, Nat.reduceAdd], by omega, app1_gr w0 hg hf, ?_⟩
    rw [htk, List.map_append]
    have := app1_fr (e := 4) (x := .bool (decide (bitE kk z = 1))) (v := rv) hg (vs := (inE kk (p.take j)).map .bool)
    simpa using this
  · have hj : j = p.length := by have := hge; simp at this; omega
    subst hj
    rw [List.take_length] at hf
    simp (disch := first | omega | decide) only [push_cast, ↓reduceIte, Nat.reduceLT, Nat.reduceEqDiff, reduceCtorEq, Nat.reduceAdd, kn, kd, kt, hn, hd, t2, t13, t15, h16, h17]
    exact ⟨fun j h1 h2 => by rw [if_neg (by omega), if_neg (by omega), if_neg (by omega)]; exact kt j h1 (by simpa using h2), hg, hf⟩

theorem valsE_succ (t : Int) (p : List Int) (n : Nat) : valsE t p (n + 1) = valsE t p n ++ [evalE t (idxE (inE n p))] := by
  unfold valsE; rw [List.range_succ, List.map_append]; rfl

theorem matchVals {k : AH} {a : AAct} {v pv : Value} {l : List Cell} {i : Nat} {c : Cell} {p : List Int} (hn : a.n = 105) (hd : a.df = []) (w0 : WFH k) (hv : RowOf cellL k v l) (hi : i < l.length) (hc : l.getD i default = c) (ok : CellOK c) (hck : checkE c = 0) (hpins : c.pins = 3)
    (hp : SlOf k pv (p.map (.int .i64))) (hpl : p.length = 3) (hpz : ∀ z ∈ p, 0 ≤ z ∧ z < 3)
    (t0 : a.tm 0 = v) (t2 : a.tm 2 = .int .i64 3) (t11 : a.tm 11 = .int .i64 i) (t13 : a.tm 13 = pv) (t14 : a.tm 14 = .slice none 0 0) (t15 : a.tm 15 = .int .i64 0) :
    AW Tryz.prog none (bodyBlk Tryz.f30 4) (fun e a' h' => e = .exit 4 ∧ a'.n = 105 ∧ a'.df = [] ∧ (∀ i, i < 56 → i ∉ [14, 15, 16, 17, 18, 19] → a'.tm i = a.tm i) ∧ Gr k h' ∧ FrSl 4 k h' (a'.tm 14) ((valsE c.table p 8).map .bool)) a k := by
  refine AW.at (rfl : bodyBlk Tryz.f30 4 = .loop _) ?_
  refine AW.loopN 56 [14, 15, 16, 17, 18, 19] (fun q a' h' => ∃ (kk : Nat) (rv : Value), a'.tm 15 = .int .i64 kk ∧ a'.tm 14 = rv ∧ kk + q = 8 ∧ Gr k h' ∧ FrSl 4 k h' rv ((valsE c.table p kk).map .bool)) 8 ?_ ?_
  · exact ⟨0, _, by rw [t15]; rfl, t14, by omega, Gr.refl w0, FrSl.nil _ _ _⟩
  rintro a1 q a' h' hk kn kd kt ⟨kk, rv, h15, h14, hkq, hg, hf⟩
  have e8 : shlE .i64 3 = 8 := rfl
  simp (disch := first | omega | decide) only [push_cast, ↓reduceIte, Nat.reduceLT, Nat.reduceEqDiff, reduceCtorEq, Nat.reduceAdd, kn, kd, kt, hn, hd, t0, t2, t11, t13, h14, h15, aBytes_skip ⟨_, Tryz.underlying3⟩, aConvI Tryz.underlying3 Tryz.underlying99, wrapU0, shl1, e8]
  refine condV_of (fun hlt => ?_) (fun hge => ?_)
  · have hk8 : kk < 8 := by have := hlt; simp at this; omega
    simp (disch := first | omega | decide) only [push_cast, ↓reduceIte, Nat.reduceLT, Nat.reduceEqDiff, reduceCtorEq, Nat.reduceAdd, kn, kd, kt, hn, hd, t0, t2, t11, t13, h14, h15]
    refine AW.keep 56 [14, 15, 16, 17, 18, 19] (a0 := a1) (by simp (disch := decide) only [Kp_put, put_none, hk]) (fun hkc => ?_)
    refine AW.mono ?_ (matchBits (kk := kk) (p := p) (pv := pv) (by simp (disch := first | omega | decide) only [push_cast, ↓reduceIte, Nat.reduceLT, Nat.reduceEqDiff, reduceCtorEq, Nat.reduceAdd, kn, hn]) (by simp (disch := first | omega | decide) only [push_cast, ↓reduceIte, Nat.reduceLT, Nat.reduceEqDiff, reduceCtorEq, Nat.reduceAdd, kd, hd]) hg.wf (hp.sub hg.sub) hpl hpz (by simp (disch := first | omega | decide) only [push_cast, ↓reduceIte, Nat.reduceLT, Nat.reduceEqDiff, reduceCtorEq, Nat.reduceAdd, kt, t2]) (by simp (disch := first | omega | decide) only [push_cast, ↓reduceIte, Nat.reduceLT, Nat.reduceEqDiff, reduceCtorEq, Nat.reduceAdd, kt, t13]) (by simp (disch := first | omega | decide) only [push_cast, ↓reduceIte, Nat.reduceLT, Nat.reduceEqDiff, reduceCtorEq, Nat.reduceAdd, h15]) (by simp (disch := first | omega | decide) only [push_cast, ↓reduceIte, Nat.reduceLT, Nat.reduceEqDiff, reduceCtorEq, Nat.reduceAdd]) (by simp (disch := first | omega | decide) only [push_cast, ↓reduceIte, Nat.reduceLT, Nat.reduceEqDiff, reduceCtorEq, Nat.reduceAdd]))
    rintro _ a3 h3 ⟨rfl, n3, d3, k3, g3, f3⟩
    have hx0 := (k3 0 (by omega) (by decide))
    have hx2 := (k3 2 (by omega) (by decide))
    have hx11 := (k3 11 (by omega) (by decide))
    have hx14 := (k3 14 (by omega) (by decide))
    have hx15 := (k3 15 (by omega) (by decide))
    have hkp : Kp 56 [14, 15, 16, 17, 18, 19] a1 a3 := Kp.trans (lo' := 63) (X' := [16, 17]) hkc ⟨by rw [n3]; simp (disch := first | omega | decide) only [push_cast, ↓reduceIte, Nat.reduceLT, Nat.reduceEqDiff, reduceCtorEq, Nat.reduceAdd, kn, hn], by rw [d3]; simp (disch := first | omega | decide) only [push_cast, ↓reduceIte, Nat.reduceLT, Nat.reduceEqDiff, reduceCtorEq, Nat.reduceAdd, kd, hd], k3⟩ (by omega) (by simp)
    obtain ⟨cs, ⟨dv, rfl, hdv⟩, hld, -, -⟩ := (hv.sub (hg.sub.trans g3.sub)).get hi default
    replace hld := hld _ agC
    rw [hc] at hld hdv
    have hidx := hv.idx (P := Tryz.prog) Tryz.underlying22 infC .i64 i (by omega) (by omega)
    rw [Int.toNat_natCast] at hidx
    have hlen : (inE kk p).length = 3 := by unfold inE; rw [List.length_map]; exact hpl
    have h28 := eval28 (h := h3) (bs := inE kk p) hdv ok hck f3.sl (by rw [hlen, hpins]; rfl) (by omega)
    rw [cellV] at h28
    generalize hiv : a3.tm 16 = iv at *
    have hw : IntKind.i64.wrap ((kk : Int) + 1) = kk + 1 := wrapI (by omega) (by omega)
    have g03 := hg.trans g3
    have hf3 := frGrow hf g3.sub
    have hvl : (valsE c.table p kk).length = kk := by unfold valsE; rw [List.length_map, List.length_range]
    have happ := fun x => app1 t23 (t := 43) g03 hf3 (by rw [List.length_map]; omega) (by rw [List.length_map]; omega) (.bool x)
    simp (disch := first | omega | decide) only [push_cast, ↓reduceIte, Nat.reduceLT, Nat.reduceEqDiff, reduceCtorEq, Nat.reduceAdd, n3, d3, hiv, hx0, hx2, hx11, hx14, hx15, kn, kd, kt, hn, hd, t0, t2, t11, t13, h14, h15, hidx, hld]
    refine ACall.mono ?_ h28
    rintro _ h3 ⟨rfl, rfl⟩
    simp (disch := first | omega | decide) only [push_cast, ↓reduceIte, Nat.reduceLT, Nat.reduceEqDiff, reduceCtorEq, Nat.reduceAdd, n3, d3, hiv, hx0, hx2, hx11, hx14, hx15, kn, kd, kt, hn, hd, t0, t2, t11, t13, h14, h15, aBuild1 t23 h3 (x := .bool (evalE c.table (idxE (inE kk p)))) rfl rfl, happ, hw]
    refine ⟨q - 1, by omega, (by simp (disch := decide) only [Kp_put, put_none, hkp]), kk + 1, app1V h3 (valsE c.table p kk).length, by simp (disch := first | omega | decide) only [push_cast, ↓reduceIte, Nat.reduceLT, Nat.reduceEqDiff, reduceCtorEq, Nat.reduceAdd], by simp (disch := first | omega | decide) only [push_cast, ↓reduceIte, Nat.reduceLT, Nat.reduceEqDiff, reduceCtorEq, Nat.reduceAdd], by omega, app1_gr w0 g03 hf3, ?_⟩
    rw [valsE_succ, List.map_append]
    have := app1_fr (e := 4) (x := .bool (evalE c.table (idxE (inE kk p)))) (v := rv) g03 (vs := (valsE c.table p kk).map .bool)
    simpa using this
  · have hk8 : kk = 8 := by have := hge; simp at this; omega
    subst hk8
    simp (disch := first | omega | decide) only [push_cast, ↓reduceIte, Nat.reduceLT, Nat.reduceEqDiff, reduceCtorEq, Nat.reduceAdd, kn, kd, kt, hn, hd, t0, t2, t11, t13, h14, h15]
    exact ⟨fun j h1 h2 => by repeat rw [if_neg (by omega)]
                             exact kt j h1 (by simpa using h2), hg, hf⟩


theorem smB8 : SlM Tryz.prog 68 72 2 32 := ⟨Tryz.underlying68, ⟨(Tryz.prog.info? 72).get (by kernel_rfl), .agg #[.int .i64 0, .slice none 0 0], by kernel_rfl, by kernel_rfl, by kernel_rfl, by kernel_rfl, rfl, rfl, rfl⟩, by decide⟩

theorem buildB8 {i : Int} {pv : Value} (hp : pv.cells.toList = [pv]) : aBuild Tryz.prog 72 [(0, .int .i64 i), (1, pv)] = some (.agg #[.int .i64 i, pv]) := by
  have hc : pv.cells.size = 1 := by
    have := congrArg List.length hp
    simpa using this
  have hc0 : (Value.int .i64 i).cells = #[.int .i64 i] := rfl
  rw [buildS (zs := [.int .i64 0, .slice none 0 0]) (pl := [(0, 1), (1, 1)]) ⟨(Tryz.prog.info? 72).get (by kernel_rfl), by kernel_rfl, by kernel_rfl⟩ rfl ⟨_, Tryz.underlying72, by kernel_rfl⟩]
  simp [fillL, hc0, hc, hp, setL]

/-- The bindings that were found, a row of one's own. -/
structure MK (b k : AH) (nm : Nat → Nat) (ob : Nat → Option AObj) (v : Value) (bs : List (Int × List Int)) : Prop where
  own : _root_.Go.Ab.Owns b k nm ob
  row : RowV instL 72 (hide (Own nm ob) k) v (ob 0) (nm 0) (bs.map bindI)

section
variable {b k k' : AH} {nm : Nat → Nat} {ob : Nat → Option AObj} {v : Value} {bs : List (Int × List Int)}

theorem MK.nil (w : WFH k) : MK k k (fun _ => 0) (fun _ => none) (.slice none 0 0) [] := ⟨ownsNone (Gr.refl w), RowV.nil⟩

theorem MK.grown (m : MK b k nm ob v bs) (g : Gr k k') : MK b k' nm ob v bs := ⟨m.own.grown g, m.row.sub (hide_mono g.sub)⟩

theorem MK.push (m : MK b k nm ob v bs) (w0 : WFH b) {i : Int} {pv : Value} {p : List Int} (hp : SlOf (hide (Own nm ob) k) pv (p.map (.int .i64))) (hb : bs.length ≤ 4294967296) :
    aBuildSlice Tryz.prog 68 1 [(0, .agg #[.int .i64 i, pv])] k = some (.slice (some ⟨k.next, 0, none⟩) 1 1, k.new (.row [.int .i64 i, pv] 72 true)) ∧
    ∃ v' k' nm' ob', aAppend Tryz.prog #[68, 68] v (.slice (some ⟨k.next, 0, none⟩) 1 1) (k.new (.row [.int .i64 i, pv] 72 true)) = some (v', k') ∧
      MK b k' nm' ob' v' (bs ++ [(i, p)]) ∧ Sub (hide (Own nm ob) k) (hide (Own nm' ob') k') := by
  obtain ⟨zs, h1, h2⟩ := m.row
  rw [List.length_map] at h1
  obtain ⟨e1, v', k', A', o', e2, hV, o2, s2, n2⟩ := ownPush (r := 0) (xs := [.int .i64 i, pv]) smB8 (by decide) w0 m.own h1 rfl (by simp only [List.all_cons, List.all_nil, hp.one]; rfl) (by omega) (by omega)
  refine ⟨e1, v', k', _, _, e2, ⟨o2, ?_⟩, s2⟩
  rw [upd_same, upd_same]
  refine ⟨zs ++ [.int .i64 i, pv], by rw [List.length_map, List.length_append]; exact hV, fun j x hx => ?_⟩
  have hjl : j < ((bs ++ [(i, p)]).map bindI).length := (List.getElem?_eq_some_iff.1 hx).1
  simp only [List.length_map, List.length_append, List.length_cons, List.length_nil] at hjl
  have hch := chunkPush (a := .int .i64 i) (c := pv) h1.1 (j := j) (by omega)
  show instL.rel _ (((zs ++ [.int .i64 i, pv]).drop (j * 2)).take 2) x
  rw [hch]
  rw [List.map_append] at hx
  by_cases e : j = bs.length
  · subst e
    rw [if_pos rfl]
    rw [List.getElem?_append_right (by simp)] at hx
    simp at hx
    subst hx
    exact ⟨pv, rfl, hp.sub s2⟩
  · rw [if_neg e]
    rw [List.getElem?_append_left (by simp; omega)] at hx
    exact instL.mono s2 (h2 j x hx)
end

theorem cellM_push (tt : Int) (N : Nat) (t : Int) (j : Nat) (ps : List (List Int)) (p : List Int) : cellM tt N t j (ps ++ [p]) = cellM tt N t j ps ++ (if hitE t tt N p = true then [((j : Int), p)] else []) := by
  unfold cellM
  rw [List.filter_append, List.map_append]
  cases h : hitE t tt N p <;> simp [h]

theorem ext3p : ∀ p ∈ ext 3 3 [], p.length = 3 ∧ ∀ z ∈ p, 0 ≤ z ∧ z < 3 := ext3
theorem ext3len : (ext 3 3 []).length = 6 := rfl

theorem match28 {h : AH} {v : Value} {l : List Cell} (hv : RowOf cellL h v l) (hok : ∀ c ∈ l, CellOK c) (hc : (cellsE l).2 = 0) :
    ACall Tryz.prog 30 [v, .int .u64 202, .int .i64 3] h (fun r h' => Gr h h' ∧ ∃ mv, r = .tuple #[mv, .int .i64 0] ∧ RowOf instL h' mv ((matchGo 202 3 0 l).map bindI)) := by
  have hcl := cellsE_len hc
  refine ACall.wf ⟨_, Tryz.func30, rfl, by kernel_rfl⟩ fun hwf => ?_
  refine ACall.of_wp 105 [.tmp 6, .tmp 7] Tryz.func30 rfl (by kernel_rfl) rfl rfl fun a hn hd ha => ?_
  simp (disch := first | omega | decide) only [push_cast, ↓reduceIte, Nat.reduceLT, Nat.reduceEqDiff, reduceCtorEq, Nat.reduceAdd, hn, hd, ha]
  refine ACall.mono ?_ (cells28 hv hok)
  rintro _ h ⟨rfl, rfl⟩
  have hval : validE 202 3 = true := by decide
  have e34 : decide ((3 : Int) > 4) = false := by decide
  simp (disch := first | omega | decide) only [push_cast, ↓reduceIte, Nat.reduceLT, Nat.reduceEqDiff, reduceCtorEq, Nat.reduceAdd, hn, hd, ha, hc, e34]
  refine ACall.mono ?_ (valid21 (t := 202) (n := 3) (by decide) (by decide) (by decide) (by decide))
  rintro _ h ⟨rfl, rfl⟩
  simp (disch := first | omega | decide) only [push_cast, ↓reduceIte, Nat.reduceLT, Nat.reduceEqDiff, reduceCtorEq, Nat.reduceAdd, hn, hd, ha, hval]
  refine AW.loopN 36 [10, 11, 13, 14, 15, 16, 17, 18, 19] (fun q a' k => ∃ (i : Nat) (nm : Nat → Nat) (ob : Nat → Option AObj) (ov : Value) (bs : List (Int × List Int)), a'.tm 11 = .int .i64 i ∧ a'.tm 10 = ov ∧ i + q = l.length ∧ MK h k nm ob ov bs ∧ bs ++ matchGo 202 3 i (l.drop i) = matchGo 202 3 0 l ∧ bs.length ≤ 6 * i) l.length ?_ ?_
  · exact ⟨0, _, _, _, [], by simp (disch := first | omega | decide) only [push_cast, ↓reduceIte, Nat.reduceLT, Nat.reduceEqDiff, reduceCtorEq, Nat.reduceAdd], by simp (disch := first | omega | decide) only [push_cast, ↓reduceIte, Nat.reduceLT, Nat.reduceEqDiff, reduceCtorEq, Nat.reduceAdd], by omega, MK.nil hwf, rfl, by simp⟩
  rintro a1 q a' k hk kn kd kt ⟨i, nm, ob, ov, bs, h11, h10, hiq, hM, hbs, hbl⟩
  simp (disch := first | omega | decide) only [push_cast, ↓reduceIte, Nat.reduceLT, Nat.reduceEqDiff, reduceCtorEq, Nat.reduceAdd, kn, kd, kt, hn, hd, ha, h10, h11, hv.len Tryz.underlying22]
  have hw : IntKind.i64.wrap ((i : Int) + 1) = i + 1 := wrapI (by omega) (by omega)
  refine condV_of (fun hlt => ?_) (fun hge => ?_)
  · have hi : i < l.length := by have := hlt; simp at this; omega
    have gk := hM.own.gr
    obtain ⟨cs, ⟨dv, rfl, hdv⟩, hld, hf, hfa⟩ := (hv.sub gk.sub).get (P := Tryz.prog) hi default
    have hl1 := hf 1 _ fl3 (by decide)
    have hf1 := hfa _ _ _ foC1
    have hidx := hv.idx (P := Tryz.prog) Tryz.underlying22 infC .i64 i (by omega) (by omega)
    rw [Int.toNat_natCast] at hidx
    have hcm := getD_mem hi default
    have hck := cellsE_zero hc _ hcm
    have hcok := hok _ hcm
    rw [drop_cons_getD hi default, matchGo] at hbs
    have hcd : ∃ c, c = l.getD i default := ⟨_, rfl⟩
    obtain ⟨c, hcd⟩ := hcd
    rw [← hcd] at hl1 hck hcok hbs
    simp (disch := first | omega | decide) only [push_cast, ↓reduceIte, Nat.reduceLT, Nat.reduceEqDiff, reduceCtorEq, Nat.reduceAdd, kn, kd, kt, hn, hd, ha, h10, h11, hidx, hf1, hl1]
    refine condV_not (fun e => ?_) (fun e => ?_)
    · have e : ¬ c.pins = 3 := by simpa using e
      rw [if_neg (by exact_mod_cast e), List.nil_append] at hbs
      simp (disch := first | omega | decide) only [push_cast, ↓reduceIte, Nat.reduceLT, Nat.reduceEqDiff, reduceCtorEq, Nat.reduceAdd, kn, kd, kt, hn, hd, ha, h10, h11, hw]
      exact ⟨q - 1, by omega, (by simp (disch := decide) only [Kp_put, put_none, hk]), i + 1, nm, ob, ov, bs, by simp (disch := first | omega | decide) only [push_cast, ↓reduceIte, Nat.reduceLT, Nat.reduceEqDiff, reduceCtorEq, Nat.reduceAdd], by simp (disch := first | omega | decide) only [push_cast, ↓reduceIte, Nat.reduceLT, Nat.reduceEqDiff, reduceCtorEq, Nat.reduceAdd, h10], by omega, hM, hbs, by omega⟩
    have e : c.pins = 3 := by simpa using e
    rw [if_pos (by exact_mod_cast e)] at hbs
    have htab := checkE_pins hck
    have ht0 : 0 ≤ c.table := hcok.1
    have ht1 : c.table < 256 := by
      have := htab.2.2.1
      rw [e] at this
      simp only [validE, Bool.and_eq_true, decide_eq_true_eq] at this
      have h2 := this.2
      have : maskE 3 = 255 := by decide
      omega
    simp (disch := first | omega | decide) only [push_cast, ↓reduceIte, Nat.reduceLT, Nat.reduceEqDiff, reduceCtorEq, Nat.reduceAdd, kn, kd, kt, hn, hd, ha, h10, h11]
    refine ACall.mono ?_ (sorted3 k)
    rintro sv k2 ⟨g2, hs⟩
    have hM2 := hM.grown g2
    have hs2 : RowOf isL (hide (Own nm ob) k2) sv (ext 3 3 []) := hs.sub (fun C o hC => by
      obtain ⟨x1, x2⟩ := hide_get.1 hC
      exact hide_get.2 ⟨fun hO => by have := ownLt hM.own hO; omega, x2⟩)
    simp (disch := first | omega | decide) only [push_cast, ↓reduceIte, Nat.reduceLT, Nat.reduceEqDiff, reduceCtorEq, Nat.reduceAdd, kn, kd, kt, hn, hd, ha, h10, h11, hs.len Tryz.underlying97]
    refine AW.keep 36 [10, 11, 13, 14, 15, 16, 17, 18, 19] (a0 := a1) (by simp (disch := decide) only [Kp_put, put_none, hk]) (fun hkc => ?_)
    refine AW.mono (Q := fun ex a3 k3 => ex = .exit 2 ∧ a3.n = 105 ∧ a3.df = [] ∧ a3.tm 11 = .int .i64 i ∧ Kp 36 [10, 11, 13, 14, 15, 16, 17, 18, 19] a1 a3 ∧ ∃ nm ob ov, a3.tm 10 = ov ∧ MK h k3 nm ob ov (bs ++ cellM 202 3 c.table i (ext 3 3 []))) ?_ ?_
    · rintro _ a3 k3 ⟨rfl, n3, d3, x11, hk3, nm, ob, ov, x10, hM3⟩
      simp (disch := first | omega | decide) only [push_cast, ↓reduceIte, Nat.reduceLT, Nat.reduceEqDiff, reduceCtorEq, Nat.reduceAdd, n3, d3, x11, hw]
      refine ⟨q - 1, by omega, (by simp (disch := decide) only [Kp_put, put_none, hk3]), i + 1, nm, ob, ov, _, by simp (disch := first | omega | decide) only [push_cast, ↓reduceIte, Nat.reduceLT, Nat.reduceEqDiff, reduceCtorEq, Nat.reduceAdd], by simp (disch := first | omega | decide) only [push_cast, ↓reduceIte, Nat.reduceLT, Nat.reduceEqDiff, reduceCtorEq, Nat.reduceAdd, x10], by omega, hM3, by rw [← hbs, List.append_assoc], ?_⟩
      have := cellM_le 202 3 c.table i (ext 3 3 [])
      rw [ext3len] at this
      rw [List.length_append]; omega
    refine AW.loopN 53 [10, 13, 14, 15, 16, 17, 18, 19, 52] (fun q a' k' => ∃ (m : Nat) (nm : Nat → Nat) (ob : Nat → Option AObj) (ov : Value), a'.tm 52 = .int .i64 m ∧ a'.tm 10 = ov ∧ m + q = 6 ∧ MK h k' nm ob ov (bs ++ cellM 202 3 c.table i ((ext 3 3 []).take m)) ∧ RowOf isL (hide (Own nm ob) k') sv (ext 3 3 [])) 6 ?_ ?_
    · exact ⟨0, nm, ob, ov, by simp (disch := first | omega | decide) only [push_cast, ↓reduceIte, Nat.reduceLT, Nat.reduceEqDiff, reduceCtorEq, Nat.reduceAdd], by simp (disch := first | omega | decide) only [push_cast, ↓reduceIte, Nat.reduceLT, Nat.reduceEqDiff, reduceCtorEq, Nat.reduceAdd, h10], by omega, by simpa [cellM] using hM2, hs2⟩
    clear hM hM2 hs2 hs h10 nm ob ov
    rintro a4 q2 a2 k3 hk2 kn2 kd2 kt2 ⟨m, nm, ob, ov, h52, h10, hmq, hM, hs⟩
    have hk0 : Kp 36 [10, 11, 13, 14, 15, 16, 17, 18, 19] a1 a2 := Kp.trans (lo' := 53) (X' := [10, 13, 14, 15, 16, 17, 18, 19, 52]) hkc ⟨kn2, kd2, kt2⟩ (by omega) (by simp)
    simp (disch := first | omega | decide) only [push_cast, ↓reduceIte, Nat.reduceLT, Nat.reduceEqDiff, reduceCtorEq, Nat.reduceAdd, kn2, kd2, kt2, kn, kd, kt, hn, hd, ha, h10, h11, h52, ext3len]
    have hw1 : IntKind.i64.wrap ((m : Int) + 1) = m + 1 := wrapI (by omega) (by omega)
    have gk3 := hM.own.gr
    refine condV_of (fun hlt => ?_) (fun hge => ?_)
    · have hm : m < 6 := by have := hlt; simp at this; omega
      have hm' : m < (ext 3 3 []).length := hm
      obtain ⟨cs, ⟨pv, rfl, hpv⟩, -, hl, -⟩ := hs.get (P := Tryz.prog) (i := m) hm' []
      have hl0 := aLoad_sub (hide_sub _ _) (hl 0 _ flI (by decide))
      simp only [List.getD_cons_zero] at hl0
      have hio : aIndexAddr Tryz.prog 97 sv (.int .i64 m) = some (slF isL.sz sv m 0) := by
        have := hs.idx Tryz.underlying97 infIs .i64 m (by omega) (by omega)
        rw [Int.toNat_natCast] at this; exact this
      have hpm := getD_mem hm' []
      have hpp := ext3p _ hpm
      have hht := hit_eq ht0 ht1 hpm
      have htk : (ext 3 3 []).take (m + 1) = (ext 3 3 []).take m ++ [(ext 3 3 []).getD m []] := take_succ_getD hm' []
      generalize (ext 3 3 []).getD m [] = p at *
      have hcp := cellM_push 202 3 c.table i ((ext 3 3 []).take m) p
      rw [← htk] at hcp
      have hbl2 := cellM_le 202 3 c.table i ((ext 3 3 []).take m)
      have htl : ((ext 3 3 []).take m).length ≤ 6 := by rw [List.length_take]; omega
      simp (disch := first | omega | decide) only [push_cast, ↓reduceIte, Nat.reduceLT, Nat.reduceEqDiff, reduceCtorEq, Nat.reduceAdd, kn2, kd2, kt2, kn, kd, kt, hn, hd, ha, h10, h11, h52, hio, hl0]
      refine AW.mono ?_ (matchVals (i := i) (c := c) (p := p) (pv := pv) (by simp (disch := first | omega | decide) only [push_cast, ↓reduceIte, Nat.reduceLT, Nat.reduceEqDiff, reduceCtorEq, Nat.reduceAdd, kn2, kn, hn]) (by simp (disch := first | omega | decide) only [push_cast, ↓reduceIte, Nat.reduceLT, Nat.reduceEqDiff, reduceCtorEq, Nat.reduceAdd, kd2, kd, hd]) gk3.wf (hv.sub gk3.sub) hi hcd.symm hcok hck e (hpv.sub (hide_sub _ _)) hpp.1 hpp.2 (by simp (disch := first | omega | decide) only [push_cast, ↓reduceIte, Nat.reduceLT, Nat.reduceEqDiff, reduceCtorEq, Nat.reduceAdd, kt2, kt, ha]) (by simp (disch := first | omega | decide) only [push_cast, ↓reduceIte, Nat.reduceLT, Nat.reduceEqDiff, reduceCtorEq, Nat.reduceAdd, kt2, kt, ha]) (by simp (disch := first | omega | decide) only [push_cast, ↓reduceIte, Nat.reduceLT, Nat.reduceEqDiff, reduceCtorEq, Nat.reduceAdd, kt2, h11]) (by simp (disch := first | omega | decide) only [push_cast, ↓reduceIte, Nat.reduceLT, Nat.reduceEqDiff, reduceCtorEq, Nat.reduceAdd]) (by simp (disch := first | omega | decide) only [push_cast, ↓reduceIte, Nat.reduceLT, Nat.reduceEqDiff, reduceCtorEq, Nat.reduceAdd]) (by simp (disch := first | omega | decide) only [push_cast, ↓reduceIte, Nat.reduceLT, Nat.reduceEqDiff, reduceCtorEq, Nat.reduceAdd]))
      rintro _ a3 k4 ⟨rfl, n3, d3, k3', g4, f4⟩
      have x1 := (k3' 1 (by omega) (by decide))
      have x10 := (k3' 10 (by omega) (by decide))
      have x11 := (k3' 11 (by omega) (by decide))
      have x13 := (k3' 13 (by omega) (by decide))
      have x50 := (k3' 50 (by omega) (by decide))
      have x51 := (k3' 51 (by omega) (by decide))
      have x52 := (k3' 52 (by omega) (by decide))
      have hkk : Kp 53 [10, 13, 14, 15, 16, 17, 18, 19, 52] a4 a3 := Kp.trans (lo' := 56) (X' := [14, 15, 16, 17, 18, 19]) (by simp (disch := decide) only [Kp_put, put_none, hk2]) ⟨by rw [n3]; simp (disch := first | omega | decide) only [push_cast, ↓reduceIte, Nat.reduceLT, Nat.reduceEqDiff, reduceCtorEq, Nat.reduceAdd, kn2, kn, hn], by rw [d3]; simp (disch := first | omega | decide) only [push_cast, ↓reduceIte, Nat.reduceLT, Nat.reduceEqDiff, reduceCtorEq, Nat.reduceAdd, kd2, kd, hd], k3'⟩ (by omega) (by simp)
      have hM4 := hM.grown g4
      have hs4 : RowOf isL (hide (Own nm ob) k4) sv (ext 3 3 []) := hs.sub (hide_mono g4.sub)
      have hpv4 := hpv.sub (hide_mono (K := Own nm ob) g4.sub)
      have hp1 : pv.cells.toList = [pv] := by obtain ⟨p, l, c, rfl, _⟩ := hpv; rfl
      generalize hrv : a3.tm 14 = rv at *
      have hvl : (valsE c.table p 8).length = 8 := by unfold valsE; rw [List.length_map, List.length_range]
      simp (disch := first | omega | decide) only [push_cast, ↓reduceIte, Nat.reduceLT, Nat.reduceEqDiff, reduceCtorEq, Nat.reduceAdd, n3, d3, hrv, x1, x10, x11, x13, x50, x51, x52, kn2, kd2, kt2, kn, kd, kt, hn, hd, ha, h10, h11, h52]
      refine ACall.mono ?_ (make21 f4.sl (by omega))
      rintro _ k4 ⟨rfl, rfl⟩
      simp (disch := first | omega | decide) only [push_cast, ↓reduceIte, Nat.reduceLT, Nat.reduceEqDiff, reduceCtorEq, Nat.reduceAdd, n3, d3, hrv, x1, x10, x11, x13, x50, x51, x52, kn2, kd2, kt2, kn, kd, kt, hn, hd, ha, h10, h11, h52]
      refine condV_of (fun eh => ?_) (fun eh => ?_)
      · have hh : hitE c.table 202 3 p = true := by rw [← hht]; exact eh
        rw [if_pos hh] at hcp
        obtain ⟨p1, v', k5, nm', ob', p2, hM5, s5⟩ := hM4.push hwf (i := (i : Int)) hpv4 (by rw [List.length_append]; omega)
        simp (disch := first | omega | decide) only [push_cast, ↓reduceIte, Nat.reduceLT, Nat.reduceEqDiff, reduceCtorEq, Nat.reduceAdd, n3, d3, hrv, x1, x10, x11, x13, x50, x51, x52, kn2, kd2, kt2, kn, kd, kt, hn, hd, ha, h10, h11, h52, buildB8 hp1, p1, p2, hw1]
        exact ⟨q2 - 1, by omega, (by simp (disch := decide) only [Kp_put, put_none, hkk]), m + 1, nm', ob', v', by simp (disch := first | omega | decide) only [push_cast, ↓reduceIte, Nat.reduceLT, Nat.reduceEqDiff, reduceCtorEq, Nat.reduceAdd], by simp (disch := first | omega | decide) only [push_cast, ↓reduceIte, Nat.reduceLT, Nat.reduceEqDiff, reduceCtorEq, Nat.reduceAdd], by omega, by rw [hcp, ← List.append_assoc]; exact hM5, hs4.sub s5⟩
      · have hh : ¬ hitE c.table 202 3 p = true := by rw [← hht]; simp only [hit28, eh]; decide
        rw [if_neg hh, List.append_nil] at hcp
        simp (disch := first | omega | decide) only [push_cast, ↓reduceIte, Nat.reduceLT, Nat.reduceEqDiff, reduceCtorEq, Nat.reduceAdd, n3, d3, hrv, x1, x10, x11, x13, x50, x51, x52, kn2, kd2, kt2, kn, kd, kt, hn, hd, ha, h10, h11, h52, hw1]
        exact ⟨q2 - 1, by omega, (by simp (disch := decide) only [Kp_put, put_none, hkk]), m + 1, nm, ob, ov, by simp (disch := first | omega | decide) only [push_cast, ↓reduceIte, Nat.reduceLT, Nat.reduceEqDiff, reduceCtorEq, Nat.reduceAdd], by simp (disch := first | omega | decide) only [push_cast, ↓reduceIte, Nat.reduceLT, Nat.reduceEqDiff, reduceCtorEq, Nat.reduceAdd, x10, h10], by omega, by rw [hcp]; exact hM4, hs4⟩
    · have hm : m = 6 := by have := hge; simp at this; omega
      subst hm
      have hall : (ext 3 3 []).take 6 = ext 3 3 [] := rfl
      rw [hall] at hM
      simp (disch := first | omega | decide) only [push_cast, ↓reduceIte, Nat.reduceLT, Nat.reduceEqDiff, reduceCtorEq, Nat.reduceAdd, kn2, kd2, kt2, kn, kd, kt, hn, hd, ha, h10, h11, h52]
      exact ⟨by simp (disch := decide) only [Kp_put, put_none, hk0], nm, ob, ov, rfl, hM⟩
  · have hi : i = l.length := by have := hge; simp at this; omega
    subst hi
    rw [List.drop_length, matchGo, List.append_nil] at hbs
    simp (disch := first | omega | decide) only [push_cast, ↓reduceIte, Nat.reduceLT, Nat.reduceEqDiff, reduceCtorEq, Nat.reduceAdd, kn, kd, kt, hn, hd, ha, h10, h11]
    refine ⟨hM.own.gr, ov, rfl, ?_⟩
    have hr := (hM.row.sub (hide_sub _ _)).row (hM.own.get 0) (by rw [List.length_map]; omega)
    rw [hbs] at hr
    exact hr


theorem refOuts {b k : AH} {T B0 : Nat} {n m : Net} {nm : Nat → Nat} {ob : Nat → Option AObj} {cv fv iv ov cv0 fv0 iv0 ov0 : Value} {dv : Nat → Value} {a : AAct} (hn : a.n = 194) (hd : a.df = []) (w0 : WFH b) (r : NetR b n cv0 fv0 iv0 ov0) (hN : NetAt b B0 n cv0 fv0 iv0 ov0)
    (hc : n.outs.length ≤ 4294967296) (hm : m.outs = n.outs) (Pv : PinV b k m nm ob cv fv iv ov dv) (hT : nm 4 = T) (h4 : ob 4 = some (.row (netC m cv fv iv ov) 27 true))
    (t2 : a.tm 2 = .pointer (some ⟨B0, 0, none⟩)) (t9 : a.tm 9 = .pointer (some ⟨T, 0, none⟩)) (t12 : a.tm 12 = .int .i64 0) :
    AW Tryz.prog none (bodyBlk Tryz.f11 4) (fun e a' h' => e = .exit 4 ∧ a'.n = 194 ∧ a'.df = [] ∧ (∀ i, i < 107 → i ∉ [12] → a'.tm i = a.tm i) ∧ ∃ ob', PinV b h' { m with outs := n.outs.map (shiftE n) } nm ob' cv fv iv ov dv ∧ ob' 4 = some (.row (netC m cv fv iv ov) 27 true)) a k := by
  refine AW.at (rfl : bodyBlk Tryz.f11 4 = .loop _) ?_
  refine AW.loopN 107 [12] (fun q a' h' => ∃ (i : Nat) (ob : Nat → Option AObj), a'.tm 12 = .int .i64 i ∧ i + q = n.outs.length ∧ PinV b h' { m with outs := (n.outs.take i).map (shiftE n) ++ n.outs.drop i } nm ob cv fv iv ov dv ∧ ob 4 = some (.row (netC m cv fv iv ov) 27 true)) n.outs.length ?_ ?_
  · exact ⟨0, ob, by rw [t12]; rfl, by omega, by rw [List.take_zero, List.map_nil, List.nil_append, List.drop_zero, Net.setO hm]; exact Pv, h4⟩
  clear Pv h4 ob
  rintro a1 q a' h' hk kn kd kt ⟨i, ob, h12, hiq, Pv, h4⟩
  have hM : NetAt h' T m cv fv iv ov := ⟨_, hT ▸ Pv.own.get 4 _ h4, rfl⟩
  have hil := mapUpto_len (shiftE n) n.outs i
  have hsl := Pv.ldO
  change SlOf h' ov (((n.outs.take i).map (shiftE n) ++ n.outs.drop i).map (.int .i64)) at hsl
  have hln := hsl.lenA Tryz.underlying25
  rw [hil] at hln
  simp (disch := first | omega | decide) only [push_cast, ↓reduceIte, Nat.reduceLT, Nat.reduceEqDiff, reduceCtorEq, Nat.reduceAdd, kn, kd, kt, hn, hd, t2, t9, h12, faL foN0, faL foN1, faL foN2, faL foN3, faL foN4, hM.l0, hM.l1, hM.l2, hM.l3, hM.l4, hM.la, hln]
  refine condV_of (fun hlt => ?_) (fun hge => ?_)
  · have hi : i < n.outs.length := by have := hlt; simp at this; omega
    have hN2 := hN.sub Pv.own.gr.sub
    have r2 := r.sub Pv.own.gr.sub
    have hix := hsl.idxI sl22 .i64 i (by omega) (by omega)
    have hld := hsl.ldI sl22 i (by omega)
    rw [Int.toNat_natCast] at hix
    rw [mapUpto_get (shiftE n) hi 0] at hld
    have hsj := mapUpto_set (shiftE n) hi 0
    obtain ⟨h3, ob3, st, P3, q3, n3, -⟩ := Pv.setO w0 (q := i) (by show i < ((n.outs.take i).map (shiftE n) ++ n.outs.drop i).length; omega) (shiftE n (n.outs.getD i 0))
    have eq3 : ({ ({ m with outs := (n.outs.take i).map (shiftE n) ++ n.outs.drop i } : Net) with outs := ({ m with outs := (n.outs.take i).map (shiftE n) ++ n.outs.drop i } : Net).outs.set i (shiftE n (n.outs.getD i 0)) } : Net) = { m with outs := (n.outs.take (i + 1)).map (shiftE n) ++ n.outs.drop (i + 1) } := by
      simp only [hsj]
    rw [eq3] at P3
    rw [h4] at q3
    have hM3 : NetAt h3 T m cv fv iv ov := ⟨_, hT ▸ P3.own.get 4 _ q3, rfl⟩
    have hw : IntKind.i64.wrap ((i : Int) + 1) = i + 1 := wrapI (by omega) (by omega)
    generalize n.outs.getD i 0 = z at *
    refine AW.drawP (.take 0 [11, 10, 1] (.take 2 [11, 10] (.take 3 [11, 10, 9] (.take 4 [11, 10, 9, 8, 7, 5] (.take 5 [11, 10, 9, 8, 7] (.take 6 [11, 10, 9, 8, 7] (.take 7 [11, 10, 9, 8] (.take 8 [11, 10, 9] (.watch 1 [11, 10] (.only 9 (.take 10 [11] (.only 11 .done)))))))))))) [(0, 0), (0, 2), (0, 3), (0, 4), (0, 5), (0, 6), (0, 7), (0, 8), (1, 1), (2, 9), (0, 10), (2, 11)] mixed (by kernel_rfl) (by kernel_rfl) ?_
    simp (disch := first | omega | decide) only [push_cast, ↓reduceIte, Nat.reduceLT, Nat.reduceEqDiff, reduceCtorEq, Nat.reduceAdd, kn, kd, kt, hn, hd, t2, t9, h12, faL foN0, faL foN1, faL foN2, faL foN3, faL foN4, hM.l0, hM.l1, hM.l2, hM.l3, hM.l4, hM.la, hN2.l0, hN2.l1, hN2.l2, hN2.l3, hN2.l4, hN2.la, hix, hld]
    refine ACall.mono ?_ (shifted31 r2)
    rintro _ h' ⟨rfl, rfl⟩
    simp (disch := first | omega | decide) only [push_cast, ↓reduceIte, Nat.reduceLT, Nat.reduceEqDiff, reduceCtorEq, Nat.reduceAdd, kn, kd, kt, hn, hd, t2, t9, h12, faL foN0, faL foN1, faL foN2, faL foN3, faL foN4, hM.l0, hM.l1, hM.l2, hM.l3, hM.l4, hM.la, hM3.l0, hM3.l1, hM3.l2, hM3.l3, hM3.l4, hM3.la, hix, st, hw]
    exact ⟨q - 1, by omega, (by simp (disch := decide) only [Kp_put, put_none, hk]), i + 1, ob3, by simp (disch := first | omega | decide) only [push_cast, ↓reduceIte, Nat.reduceLT, Nat.reduceEqDiff, reduceCtorEq, Nat.reduceAdd], by omega, P3, q3⟩
  · have hi : i = n.outs.length := by have := hge; simp at this; omega
    subst hi
    rw [List.take_length, List.drop_length, List.append_nil] at Pv
    simp (disch := first | omega | decide) only [push_cast, ↓reduceIte, Nat.reduceLT, Nat.reduceEqDiff, reduceCtorEq, Nat.reduceAdd, kn, kd, kt, hn, hd, t2, t9, h12]
    exact ⟨fun j h1 h2 => by repeat rw [if_neg (by omega)]
                             exact kt j h1 (by simpa using h2), ob, Pv, h4⟩

theorem infB8 : ∃ i, Tryz.prog.info? 72 = some i ∧ i.size = instL.sz := ⟨(Tryz.prog.info? 72).get (by kernel_rfl), by kernel_rfl, by kernel_rfl⟩
theorem foB80 : fOff Tryz.prog 72 0 = some 0 := by kernel_rfl
theorem foB81 : fOff Tryz.prog 72 1 = some 1 := by kernel_rfl

/-- A binding, as an instance: its first one's pins and cell, read. -/
theorem bind0 {k : AH} {mv : Value} {bs : List Inst} {x : Inst} (hmv : RowOf instL k mv bs) (hbs : bs ≠ []) (hx : bs.getD 0 default = x) :
    aIndexAddr Tryz.prog 68 mv (.int .i64 0) = some (slF instL.sz mv 0 0) ∧ aFieldAddr Tryz.prog 72 0 (slF instL.sz mv 0 0) = some (slF instL.sz mv 0 0) ∧ aFieldAddr Tryz.prog 72 1 (slF instL.sz mv 0 0) = some (slF instL.sz mv 0 1) ∧
    aLoad Tryz.prog 3 (slF instL.sz mv 0 0) k = some (.int .i64 x.cell) ∧ ∃ pv, aLoad Tryz.prog 25 (slF instL.sz mv 0 1) k = some pv ∧ SlOf k pv (x.pins.map (.int .i64)) := by
  have h0 : 0 < bs.length := List.length_pos_iff.2 hbs
  have hbi : aIndexAddr Tryz.prog 68 mv (.int .i64 0) = some (slF instL.sz mv 0 0) := hmv.idx Tryz.underlying68 infB8 .i64 0 (by omega) (by omega)
  obtain ⟨bcs, ⟨pv, rfl, hpv⟩, -, hbl, hba⟩ := hmv.get (P := Tryz.prog) h0 default
  rw [hx] at hbl hpv
  exact ⟨hbi, hba _ _ _ foB80, hba _ _ _ foB81, hbl 0 _ fl3 (by decide), pv, hbl 1 _ flI (by decide), hpv⟩

theorem refSel {k : AH} {mv nv : Value} {bs : List Inst} {x : Inst} {ns : List Int} {a : AAct} (hn : a.n = 194) (hd : a.df = []) (w0 : WFH k) (hmv : RowOf instL k mv bs) (hbs : bs ≠ []) (hx : bs.getD 0 default = x) (hns : SlOf k nv (ns.map (.int .i64)))
    (hpl : x.pins.length = 3) (hps : ∀ z ∈ x.pins, 0 ≤ z ∧ z < ns.length) (hnl : ns.length ≤ 8) (t7 : a.tm 7 = mv) (t16 : a.tm 16 = nv) (t17 : a.tm 17 = .slice none 0 0) (t18 : a.tm 18 = .int .i64 0) :
    AW Tryz.prog none (bodyBlk Tryz.f11 8) (fun e a' h' => e = .exit 8 ∧ a'.n = 194 ∧ a'.df = [] ∧ (∀ i, i < 146 → i ∉ [17, 18] → a'.tm i = a.tm i) ∧ Gr k h' ∧ FrSl 3 k h' (a'.tm 17) ((x.pins.map fun z => ns.getD z.toNat 0).map (.int .i64))) a k := by
  refine AW.at (rfl : bodyBlk Tryz.f11 8 = .loop _) ?_
  refine AW.loopN 146 [17, 18] (fun q a' h' => ∃ (i : Nat) (rv : Value), a'.tm 18 = .int .i64 i ∧ a'.tm 17 = rv ∧ i + q = 3 ∧ Gr k h' ∧ FrSl 3 k h' rv (((x.pins.take i).map fun z => ns.getD z.toNat 0).map (.int .i64))) 3 ?_ ?_
  · exact ⟨0, _, by rw [t18]; rfl, t17, by omega, Gr.refl w0, FrSl.nil _ _ _⟩
  rintro a1 q a' h' hk kn kd kt ⟨i, rv, h18, h17, hiq, hg, hf⟩
  simp (disch := first | omega | decide) only [push_cast, ↓reduceIte, Nat.reduceLT, Nat.reduceEqDiff, reduceCtorEq, Nat.reduceAdd, kn, kd, kt, hn, hd, t7, t16, h17, h18]
  refine condV_of (fun hlt => ?_) (fun hge => ?_)
  · have hi : i < x.pins.length := by have := hlt; simp at this; omega
    obtain ⟨b1, b2, b3, b4, pv, b5, hp⟩ := bind0 (hmv.sub hg.sub) hbs hx
    have hz := hps _ (getD_mem hi 0)
    have hidx := hp.idxI sl22 .i64 i (by omega) (by omega)
    have hld := hp.ldI sl22 i (by omega)
    rw [Int.toNat_natCast] at hidx
    have htake : (x.pins.take (i + 1)).map (fun z => ns.getD z.toNat 0) = (x.pins.take i).map (fun z => ns.getD z.toNat 0) ++ [ns.getD (x.pins.getD i 0).toNat 0] := by rw [take_succ_getD hi 0, List.map_append]; rfl
    generalize x.pins.getD i 0 = z at *
    have hidx2 := (hns.sub hg.sub).idxI sl22 .i64 z (by omega) (by omega)
    have hld2 := (hns.sub hg.sub).ldI sl22 z.toNat (by omega)
    have happ := app1 t22 (t := 25) hg hf (by rw [List.length_map, List.length_map, List.length_take]; omega) (by rw [List.length_map, List.length_map, List.length_take]; omega) (.int .i64 (ns.getD z.toNat 0))
    have hw : IntKind.i64.wrap ((i : Int) + 1) = i + 1 := wrapI (by omega) (by omega)
    simp (disch := first | omega | decide) only [push_cast, ↓reduceIte, Nat.reduceLT, Nat.reduceEqDiff, reduceCtorEq, Nat.reduceAdd, kn, kd, kt, hn, hd, t7, t16, h17, h18, b1, b3, b5, hidx, hld, hidx2, hld2, aBuild1 t22 h' (x := .int .i64 (ns.getD z.toNat 0)) rfl rfl, happ, hw]
    refine ⟨q - 1, by omega, (by simp (disch := decide) only [Kp_put, put_none, hk]), i + 1, app1V h' (x.pins.take i).length, by simp (disch := first | omega | decide) only [push_cast, ↓reduceIte, Nat.reduceLT, Nat.reduceEqDiff, reduceCtorEq, Nat.reduceAdd], by simp (disch := first | omega | decide) only [push_cast, ↓reduceIte, Nat.reduceLT, Nat.reduceEqDiff, reduceCtorEq, Nat.reduceAdd], by omega, app1_gr w0 hg hf, ?_⟩
    rw [htake, List.map_append]
    have := app1_fr (e := 3) (x := .int .i64 (ns.getD z.toNat 0)) (v := rv) hg (vs := ((x.pins.take i).map fun z => ns.getD z.toNat 0).map (.int .i64))
    simpa using this
  · have hi : i = x.pins.length := by have := hge; simp at this; omega
    subst hi
    rw [List.take_length] at hf
    simp (disch := first | omega | decide) only [push_cast, ↓reduceIte, Nat.reduceLT, Nat.reduceEqDiff, reduceCtorEq, Nat.reduceAdd, kn, kd, kt, hn, hd, t7, t16, h17, h18]
    exact ⟨fun j h1 h2 => by repeat rw [if_neg (by omega)]
                             exact kt j h1 (by simpa using h2), hg, hf⟩


theorem aBuild3 (h : AH) (x y z : Int) : aBuildSlice Tryz.prog 25 3 [(0, .int .i64 x), (1, .int .i64 y), (2, .int .i64 z)] h = some (.slice (some ⟨h.next, 0, none⟩) 3 3, h.new (.row [.int .i64 x, .int .i64 y, .int .i64 z] 3 true)) := by
  obtain ⟨i, hi, h1, hb, hz⟩ := t22.info
  have hp : plain 9 (.int .i64 0) = true := rfl
  have hc : (Value.int .i64 0).cells.size = 1 := rfl
  have hl : (Value.int .i64 0).cells.toList = [.int .i64 0] := rfl
  have hx1 : ∀ z : Int, (Value.int .i64 z).cells.size = 1 := fun _ => rfl
  have hx2 : ∀ z : Int, (Value.int .i64 z).cells.toList = [.int .i64 z] := fun _ => rfl
  simp only [aBuildSlice, t22.sl, hi, hz, h1, hp, hc, fillL, hl, zeros_one]
  simp [SL, hx1, hx2, setL, oneC, List.replicate]

set_option maxHeartbeats 8000000 in
theorem refOrd {b h : AH} {X T B0 : Nat} {n m : Net} {nm : Nat → Nat} {ob : Nat → Option AObj} {cv fv iv ov cv0 fv0 iv0 ov0 mv v : Value} {ord : List Int} {bs : List Inst} {a : AAct} (hn : a.n = 194) (hd : a.df = []) (hX : X < h.next) (w0 : WFH b) (r : NetR b n cv0 fv0 iv0 ov0) (hN : NetAt b B0 n cv0 fv0 iv0 ov0)
    (hv : SlOf b v (ord.map (.int .i64))) (hol : ord.length ≤ 64) (hord : ∀ z ∈ ord, 0 ≤ z ∧ z < n.flops.length) (hi0 : 0 ≤ n.inputs ∧ n.inputs ≤ 64) (hfl : n.flops.length ≤ 64) (hmf : m.flops.length = n.flops.length) (hml : m.insts.length ≤ 4096) (hmi : m.inputs = n.inputs + 2)
    (hmv : RowOf instL b mv bs) (hbs : bs ≠ []) (hpk : bs.getD 0 default = bindI (pick3 n)) (hpl : (pick3 n).2.length = 3) (hpz : ∀ z ∈ (pick3 n).2, 0 ≤ z ∧ z < 3)
    (B : Bld b h X T m nm ob cv fv iv ov) (h2 : a.tm 2 = .pointer (some ⟨B0, 0, none⟩)) (h7 : a.tm 7 = mv) (h9 : a.tm 9 = .pointer (some ⟨T, 0, none⟩)) (h13 : a.tm 13 = .int .i64 (n.inputs + 1)) (h128 : a.tm 128 = v) (h129 : a.tm 129 = .int .i64 ord.length) (h130 : a.tm 130 = .int .i64 0) :
    AW Tryz.prog none (bodyBlk Tryz.f11 6) (fun e a' h' => e = .exit 6 ∧ a'.n = 194 ∧ a'.df = [] ∧ (∀ i, i < 130 → i ∉ [13, 15, 16, 17, 18] → a'.tm i = a.tm i) ∧ h.next ≤ h'.next ∧ a'.tm 13 = .int .i64 (ord.foldl (insStep n) (n.inputs + 1, m)).1 ∧
      ∃ nm' ob' fv' iv', Bld b h' X T (ord.foldl (insStep n) (n.inputs + 1, m)).2 nm' ob' cv fv' iv' ov) a h := by
  refine AW.at (rfl : bodyBlk Tryz.f11 6 = .loop _) ?_
  refine AW.loopN 130 [13, 15, 16, 17, 18, 130] (fun k a' h' => ∃ (i : Nat) (nm : Nat → Nat) (ob : Nat → Option AObj) (fv iv : Value) (bf : Int), a'.tm 130 = .int .i64 i ∧ i + k = ord.length ∧ h.next ≤ h'.next ∧ a'.tm 13 = .int .i64 bf ∧ bf = ((ord.take i).foldl (insStep n) (n.inputs + 1, m)).1 ∧
      Bld b h' X T ((ord.take i).foldl (insStep n) (n.inputs + 1, m)).2 nm ob cv fv iv ov) ord.length ?_ ?_
  · exact ⟨0, nm, ob, fv, iv, _, by rw [h130]; rfl, by omega, Nat.le_refl _, h13, rfl, B⟩
  clear B nm ob fv iv
  rintro a1 k a' h' hk kn kd kt ⟨i, nm, ob, fv, iv, bf, h130', hik, hnx, h13', hbf, B⟩
  simp (disch := first | omega | decide) only [push_cast, ↓reduceIte, Nat.reduceLT, Nat.reduceEqDiff, reduceCtorEq, Nat.reduceAdd, kn, kd, kt, hn, hd, h2, h7, h9, h128, h129, h130', h13']
  refine condV_of (fun hlt => ?_) (fun hge => ?_)
  · have hi : i < ord.length := by have := hlt; simp at this; omega
    have hg := B.own.gr
    have hlo := B.lo
    obtain ⟨q1, q2, q3, q4, q5⟩ := insGo_keep n (ord.take i) (n.inputs + 1, m)
    have qb := insGo_before n (ord.take i) (n.inputs + 1, m) (fun z hz => hord z (List.mem_of_mem_take hz)) hi0 hfl ⟨by simp only; omega, by simp only; omega⟩
    rw [← hbf] at qb
    have hz := hord _ (getD_mem hi 0)
    have hfold : (ord.take (i + 1)).foldl (insStep n) (n.inputs + 1, m) = insStep n ((ord.take i).foldl (insStep n) (n.inputs + 1, m)) (ord.getD i 0) := by rw [take_succ_getD hi 0, List.foldl_append]; rfl
    have hidx := (hv.sub hg.sub).idxI sl22 .i64 i (by omega) (by omega)
    have hld := (hv.sub hg.sub).ldI sl22 i (by omega)
    rw [Int.toNat_natCast] at hidx
    generalize ord.getD i 0 = z at *
    have htl : (ord.take i).length = i := by rw [List.length_take]; omega
    rw [htl] at q2
    generalize hs : (ord.take i).foldl (insStep n) (n.inputs + 1, m) = s at *
    have hN1 := hN.sub hg.sub
    have hzl : z.toNat < n.flops.length := by omega
    obtain ⟨csf, hcsf, -, hff, hfa⟩ := r.f.get (P := Tryz.prog) hzl default
    have hcsf : csf = _ := hcsf
    subst hcsf
    have hff := aLoad_sub hg.sub (hff 0 _ fl3 (by decide))
    have hff : aLoad Tryz.prog 3 (slF flopL.sz fv0 z.toNat 0) h' = some (.int .i64 (n.flops.getD z.toNat default).next) := hff
    have r1 := r.sub hg.sub
    have hfidx := r.f.idx (P := Tryz.prog) Tryz.underlying23 infF .i64 z (by omega) (by omega)
    have hfa0 := hfa _ _ _ foF0
    have hnetn : insNets n s z = [shiftE n (n.flops.getD z.toNat default).next, s.1, n.inputs] := rfl
    generalize (n.flops.getD z.toNat default).next = nx at *
    have g1 := (Gr.refl hg.wf).new (.row [.int .i64 (shiftE n nx), .int .i64 bf, .int .i64 n.inputs] 3 true)
    have hsl1 : SlOf (h'.new (.row [.int .i64 (shiftE n nx), .int .i64 bf, .int .i64 n.inputs] 3 true)) (.slice (some ⟨h'.next, 0, none⟩) 3 3) ([shiftE n nx, bf, n.inputs].map (.int .i64)) :=
      SlOf.lit (by rw [AH.new_get, if_pos rfl]) rfl rfl
    have hN2 := hN1.sub g1.sub
    simp (disch := first | omega | decide) only [push_cast, ↓reduceIte, Nat.reduceLT, Nat.reduceEqDiff, reduceCtorEq, Nat.reduceAdd, kn, kd, kt, hn, hd, h2, h7, h9, h128, h129, h130', h13', hidx, hld]
    refine AW.drawP (.take 0 [12, 11, 7] (.take 1 [12, 11, 7, 6, 5, 4, 2] (.take 2 [12, 11, 7, 6, 5, 4] (.take 3 [12, 11, 7, 6, 5, 4] (.take 4 [12, 11, 7, 6, 5] (.take 5 [12, 11, 7, 6] (.take 6 [12, 11, 7] (.take 8 [12, 11] (.take 9 [12, 11, 10] (.watch 10 [12, 11] (.only 7 (.only 11 (.take 12 [] .done))))))))))))) [(0, 0), (0, 1), (0, 2), (0, 3), (0, 4), (0, 5), (0, 6), (0, 8), (0, 9), (1, 10), (2, 7), (2, 11), (0, 12)] mixed (by kernel_rfl) (by kernel_rfl) ?_
    simp (disch := first | omega | decide) only [push_cast, ↓reduceIte, Nat.reduceLT, Nat.reduceEqDiff, reduceCtorEq, Nat.reduceAdd, kn, kd, kt, hn, hd, h2, h7, h9, h128, h129, h130', h13', faL foN0, faL foN1, faL foN2, faL foN3, faL foN4, hN1.l0, hN1.l1, hN1.l2, hN1.l3, hN1.l4, hN1.la, hfidx, hfa0, hff]
    refine ACall.mono ?_ (shifted31 r1)
    rintro _ h' ⟨rfl, rfl⟩
    simp (disch := first | omega | decide) only [push_cast, ↓reduceIte, Nat.reduceLT, Nat.reduceEqDiff, reduceCtorEq, Nat.reduceAdd, kn, kd, kt, hn, hd, h2, h7, h9, h128, h129, h130', h13', faL foN0, faL foN1, faL foN2, faL foN3, faL foN4, hN1.l0, hN1.l1, hN1.l2, hN1.l3, hN1.l4, hN1.la, hN2.l0, hN2.l1, hN2.l2, hN2.l3, hN2.l4, hN2.la, aBuild3]
    generalize h'.new (.row [.int .i64 (shiftE n nx), .int .i64 bf, .int .i64 n.inputs] 3 true) = k1 at g1 hsl1 hN2 ⊢
    refine AW.keep 130 [13, 15, 16, 17, 18, 130] (a0 := a1) (by simp (disch := decide) only [Kp_put, put_none, hk]) (fun hkc => ?_)
    refine AW.mono ?_ (refSel (mv := mv) (bs := bs) (x := bindI (pick3 n)) (ns := [shiftE n nx, bf, n.inputs]) (by simp (disch := first | omega | decide) only [push_cast, ↓reduceIte, Nat.reduceLT, Nat.reduceEqDiff, reduceCtorEq, Nat.reduceAdd, kn, hn]) (by simp (disch := first | omega | decide) only [push_cast, ↓reduceIte, Nat.reduceLT, Nat.reduceEqDiff, reduceCtorEq, Nat.reduceAdd, kd, hd]) g1.wf (hmv.sub (hg.sub.trans g1.sub)) hbs hpk hsl1 hpl (by simpa [bindI] using hpz) (by simp) (by simp (disch := first | omega | decide) only [push_cast, ↓reduceIte, Nat.reduceLT, Nat.reduceEqDiff, reduceCtorEq, Nat.reduceAdd, kt, h7]) (by simp (disch := first | omega | decide) only [push_cast, ↓reduceIte, Nat.reduceLT, Nat.reduceEqDiff, reduceCtorEq, Nat.reduceAdd]) (by simp (disch := first | omega | decide) only [push_cast, ↓reduceIte, Nat.reduceLT, Nat.reduceEqDiff, reduceCtorEq, Nat.reduceAdd]) (by simp (disch := first | omega | decide) only [push_cast, ↓reduceIte, Nat.reduceLT, Nat.reduceEqDiff, reduceCtorEq, Nat.reduceAdd]))
    rintro _ a4 k4 ⟨rfl, hn4, hd4, ht4, g4, hf4⟩
    have hkk : Kp 130 [13, 15, 16, 17, 18, 130] a1 a4 := Kp.trans (lo' := 146) (X' := [17, 18]) hkc ⟨by rw [hn4]; simp (disch := first | omega | decide) only [push_cast, ↓reduceIte, Nat.reduceLT, Nat.reduceEqDiff, reduceCtorEq, Nat.reduceAdd, kn, hn], by rw [hd4]; simp (disch := first | omega | decide) only [push_cast, ↓reduceIte, Nat.reduceLT, Nat.reduceEqDiff, reduceCtorEq, Nat.reduceAdd, kd, hd], ht4⟩ (by omega) (by simp)
    have hg4 := g1.trans g4
    have B4 := B.grown hg4
    have hM4 := B4.at
    have q3' : s.2.inputs = n.inputs + 2 := by rw [q3]; exact hmi
    have q1' : s.2.flops.length = n.flops.length := q1.trans hmf
    have q2' : s.2.insts.length ≤ 4096 + i := by rw [q2]; simp only; omega
    have hzt : ((z.toNat : Nat) : Int) = z := Int.toNat_of_nonneg hz.1
    have hfw := FrSl.wv hf4
    generalize hrv : a4.tm 17 = rv at *
    have hrv1 := hfw.one.2
    have hrel : (instW b.next).rel (away nm ob X k4) [Value.int .i64 (pick3 n).1, rv] (insInst n s z) := ⟨rv, rfl, by
      have := awayWV (X := X) B.own (by omega) (hfw.le g1.nx)
      rw [hbf] at this
      show WV 3 b.next _ rv (((pick3 n).2.map fun k => (insNets n s z).getD k.toNat 0).map (.int .i64))
      rw [hnetn]; exact this⟩
    obtain ⟨e4, v', k6, k7, e5, e6, nm7, ob7, B7, n7, -, -⟩ := B4.pushI w0 hrel (by omega)
    have hM7 := B7.at
    obtain ⟨b1, b2, b3, b4, pv, b5, hp⟩ := bind0 (hmv.sub (hg.sub.trans hg4.sub)) hbs hpk
    have b4 : aLoad Tryz.prog 3 (slF instL.sz mv 0 0) k4 = some (.int .i64 (pick3 n).1) := b4
    have x1 := ht4 1 (by omega) (by decide)
    have x2 := ht4 2 (by omega) (by decide)
    have x7 := ht4 7 (by omega) (by decide)
    have x9 := ht4 9 (by omega) (by decide)
    have x13 := ht4 13 (by omega) (by decide)
    have x15 := ht4 15 (by omega) (by decide)
    have x128 := ht4 128 (by omega) (by decide)
    have x129 := ht4 129 (by omega) (by decide)
    have x130 := ht4 130 (by omega) (by decide)
    simp (disch := first | omega | decide) only [push_cast, ↓reduceIte, Nat.reduceLT, Nat.reduceEqDiff, reduceCtorEq, Nat.reduceAdd, hn4, hd4, hrv, x1, x2, x7, x9, x13, x15, x128, x129, x130, kn, kd, kt, hn, hd, h2, h7, h9, h128, h129, h130', h13']
    refine AW.drawP (.take 0 [11, 10, 9, 1] (.take 1 [11, 10, 9] (.take 2 [11, 10, 9, 8, 7, 5, 4, 3] (.take 3 [11, 10, 9, 8, 7, 5, 4] (.take 4 [11, 10, 9, 8, 7, 5] (.take 5 [11, 10, 9, 8, 7] (.take 6 [11, 10, 9, 8, 7] (.take 7 [11, 10, 9, 8] (.only 8 (.only 9 (.take 10 [11] (.only 11 .done)))))))))))) [(0, 0), (0, 1), (0, 2), (0, 3), (0, 4), (0, 5), (0, 6), (0, 7), (2, 8), (2, 9), (0, 10), (2, 11)] mixed (by kernel_rfl) (by kernel_rfl) ?_
    simp (disch := first | omega | decide) only [push_cast, ↓reduceIte, Nat.reduceLT, Nat.reduceEqDiff, reduceCtorEq, Nat.reduceAdd, hn4, hd4, hrv, x1, x2, x7, x9, x13, x15, x128, x129, x130, kn, kd, kt, hn, hd, h2, h7, h9, h128, h129, h130', h13', faL foN0, faL foN1, faL foN2, faL foN3, faL foN4, hM4.l0, hM4.l1, hM4.l2, hM4.l3, hM4.l4, hM4.la, b1, b2, b4, buildI hrv1, e4, e5, e6]
    have h1' := B7.i.len Tryz.underlying24
    have h2' := B7.f.len Tryz.underlying23
    have hl7 : ({ s.2 with insts := s.2.insts ++ [insInst n s z] } : Net).insts.length = s.2.insts.length + 1 := by simp
    have hn32 := nets32 (h := k7) B7.one h2' h1' ⟨by show 0 ≤ s.2.inputs; omega, by show s.2.inputs ≤ _; omega, by show s.2.flops.length ≤ _; omega, by rw [hl7]; omega⟩
    have hl7' : (s.2.insts ++ [insInst n s z]).length = s.2.insts.length + 1 := by simp
    obtain ⟨f1, f2, k8, ob8, f3, B8, n8, -⟩ := B7.setF w0 (by show s.2.flops.length ≤ _; omega) (i := z.toNat) (by show z.toNat < s.2.flops.length; omega) (n.inputs + 2 + s.2.flops.length + s.2.insts.length)
    rw [hzt] at f1
    have hM8 := B8.at
    have hw2 : IntKind.i64.wrap (n.inputs + 2 + s.2.flops.length + ((s.2.insts.length : Int) + 1) - 1) = n.inputs + 2 + s.2.flops.length + s.2.insts.length := by
      rw [wrapI (by omega) (by omega)]; omega
    have hw3 : IntKind.i64.wrap (n.inputs + 2 + z) = n.inputs + 2 + z := wrapI (by omega) (by omega)
    have hw4 : IntKind.i64.wrap ((i : Int) + 1) = i + 1 := wrapI (by omega) (by omega)
    refine AW.drawP (.take 0 [8, 7, 6, 1] (.take 2 [8, 7, 6] (.take 3 [8, 7, 6, 5, 4] (.watch 1 [8, 7, 6] (.only 4 (.take 5 [8, 7, 6] (.take 6 [8, 7] (.take 7 [8] (.only 8 .done))))))))) [(0, 0), (0, 2), (0, 3), (1, 1), (2, 4), (0, 5), (0, 6), (0, 7), (2, 8)] mixed (by kernel_rfl) (by kernel_rfl) ?_
    simp (disch := first | omega | decide) only [push_cast, ↓reduceIte, Nat.reduceLT, Nat.reduceEqDiff, reduceCtorEq, Nat.reduceAdd, hn4, hd4, hrv, x1, x2, x7, x9, x13, x15, x128, x129, x130, kn, kd, kt, hn, hd, h2, h7, h9, h128, h129, h130', h13', faL foN0, faL foN1, faL foN2, faL foN3, faL foN4, hM7.l0, hM7.l1, hM7.l2, hM7.l3, hM7.l4, hM7.la]
    refine ACall.mono ?_ hn32
    rintro _ k7 ⟨rfl, rfl⟩
    simp (disch := first | omega | decide) only [push_cast, ↓reduceIte, Nat.reduceLT, Nat.reduceEqDiff, reduceCtorEq, Nat.reduceAdd, hn4, hd4, hrv, x1, x2, x7, x9, x13, x15, x128, x129, x130, kn, kd, kt, hn, hd, h2, h7, h9, h128, h129, h130', h13', faL foN0, faL foN1, faL foN2, faL foN3, faL foN4, hM7.l0, hM7.l1, hM7.l2, hM7.l3, hM7.l4, hM7.la, q3', hl7', hw2, f1, f2, f3, hM8.l0, hM8.l1, hM8.l2, hM8.l3, hM8.l4, hM8.la, hw3, hw4]
    refine ⟨k - 1, by omega, (by simp (disch := decide) only [Kp_put, put_none, hkk]), i + 1, nm7, ob8, fv, v', n.inputs + 2 + z, by simp (disch := first | omega | decide) only [push_cast, ↓reduceIte, Nat.reduceLT, Nat.reduceEqDiff, reduceCtorEq, Nat.reduceAdd], by omega, ?_, by simp (disch := first | omega | decide) only [push_cast, ↓reduceIte, Nat.reduceLT, Nat.reduceEqDiff, reduceCtorEq, Nat.reduceAdd], by rw [hfold]; rfl, by rw [hfold]; exact B8⟩
    have := hg4.nx
    omega
  · have hi : i = ord.length := by have := hge; simp at this; omega
    subst hi
    rw [List.take_length] at B hbf
    simp (disch := first | omega | decide) only [push_cast, ↓reduceIte, Nat.reduceLT, Nat.reduceEqDiff, reduceCtorEq, Nat.reduceAdd, kn, kd, kt, hn, hd, h2, h7, h9, h128, h129, h130', h13']
    exact ⟨fun j h1 h2 => by
      by_cases hj : j = 130
      · omega
      · repeat rw [if_neg (by omega)]
        exact kt j h1 (by simp only [List.mem_cons, List.not_mem_nil, or_false] at h2 ⊢; omega), hnx, by rw [hbf], nm, ob, fv, iv, B⟩


theorem PinV.inp {b k : AH} {m m' : Net} {nm : Nat → Nat} {ob : Nat → Option AObj} {cv fv iv ov : Value} {dv : Nat → Value} (Pv : PinV b k m nm ob cv fv iv ov dv) (hc : m'.cells = m.cells) (hf : m'.flops = m.flops) (hi : m'.insts = m.insts) (ho : m'.outs = m.outs) : PinV b k m' nm ob cv fv iv ov dv :=
  ⟨Pv.own, by rw [hi]; exact Pv.hi, by rw [hc]; exact Pv.c, by rw [hf]; exact Pv.f, by rw [hi]; exact Pv.i, by rw [hi]; exact Pv.p, by rw [ho]; exact Pv.o⟩

theorem PinV.one {b k : AH} {m : Net} {nm : Nat → Nat} {ob : Nat → Option AObj} {cv fv iv ov : Value} {dv : Nat → Value} (Pv : PinV b k m nm ob cv fv iv ov dv) : (netC m cv fv iv ov).all oneC = true := by
  have h5 : oneC ov = true := by
    obtain ⟨p, l, c, rfl, _⟩ := Pv.o.sl (h := k) (Pv.own.get 3)
    rfl
  obtain ⟨zs, hzs, _⟩ := Pv.i
  simp only [netC, List.all_cons, List.all_nil, Pv.c.one.1, Pv.f.one.1, hzs.one.1, h5]; rfl

theorem InsOwn.post {n : Net} {ord : List Int} {h : AH} {r : Value} {h' : AH} (x : InsOwn n ord h r h') : InsPost n ord h r h' := let ⟨g, cv, fv, iv, ov, e, r, _⟩ := x; ⟨g, cv, fv, iv, ov, e, r⟩

set_option maxHeartbeats 8000000 in
theorem refInsert {h : AH} {n : Net} {cv fv iv ov v : Value} {ord : List Int} (r : NetR h n cv fv iv ov) (ok : NetOK n) (nb : NetB n) (hv : SlOf h v (ord.map (.int .i64))) (hb : ord.length ≤ 17592186043904) :
    ACall Tryz.prog 11 [.agg (netC n cv fv iv ov).toArray, v] h (InsPost n ord h) := by
  refine ACall.wf ⟨_, Tryz.func11, rfl, by kernel_rfl⟩ fun hwf => ?_
  refine ACall.of_wp 194 [.cell 4 27, .tmp 5] Tryz.func11 rfl (by kernel_rfl) rfl rfl fun a hn hd ha => ?_
  have hbox := boxA 27 h _ r.one
  have hN := NetAt.new (h := h) (n := n) (cv := cv) (fv := fv) (iv := iv) (ov := ov)
  have g1 : Gr h (h.new (.row (netC n cv fv iv ov) 27 true)) := (Gr.refl hwf).new _
  have hnx : (h.new (.row (netC n cv fv iv ov) 27 true)).next = h.next + 1 := rfl
  simp (disch := first | omega | decide) only [push_cast, ↓reduceIte, Nat.reduceLT, Nat.reduceEqDiff, reduceCtorEq, Nat.reduceAdd, hn, hd, ha, hbox, alL zrN]
  generalize h.new (.row (netC n cv fv iv ov) 27 true) = h1 at hN g1 hnx ⊢
  have g2 := (Gr.refl g1.wf).new (.row zeroC 27 true)
  have hX : (h1.new (.row zeroC 27 true)).get h1.next = some (.row zeroC 27 true) := by rw [AH.new_get, if_pos rfl]
  have hXlo : h.next ≤ h1.next := by omega
  replace g2 := g1.trans g2
  have hN2 := hN.sub (Sub.new g1.wf (.row zeroC 27 true))
  generalize h1.new (.row zeroC 27 true) = h2 at g2 hX hN2 ⊢
  generalize h1.next = X at hX hXlo ⊢
  generalize h.next = B0 at hN2 ⊢
  clear hN g1 hnx h1
  have r2 := r.sub g2.sub
  have hv2 := hv.sub g2.sub
  simp (disch := first | omega | decide) only [push_cast, ↓reduceIte, Nat.reduceLT, Nat.reduceEqDiff, reduceCtorEq, Nat.reduceAdd, hn, hd, ha, hN2.l0, hN2.l1, hN2.l2, hN2.l3, hN2.l4, hN2.la]
  refine ACall.mono ?_ (check29 r2 ok)
  rintro _ h2 ⟨rfl, rfl⟩
  simp (disch := first | omega | decide) only [push_cast, ↓reduceIte, Nat.reduceLT, Nat.reduceEqDiff, reduceCtorEq, Nat.reduceAdd, hn, hd, ha]
  refine condV_not (fun e0 => ?_) (fun e0 => ?_)
  · have e : ¬ netE n = 0 := by simpa using e0
    have es : scanE n ord = netE n := by rw [scanE, if_pos e]
    obtain ⟨f1, f2, f3⟩ := insFail (n := n) (ord := ord) hwf g2 hXlo hX (netE n) (by rw [insE, if_pos (by rw [es]; exact e), es]) e
    simp (disch := first | omega | decide) only [push_cast, ↓reduceIte, Nat.reduceLT, Nat.reduceEqDiff, reduceCtorEq, Nat.reduceAdd, hn, hd, ha, buildN0, f1, f2]
    exact f3.post
  have hnet : netE n = 0 := by simpa using e0
  have s := ShapeOK.of (netE_zero.1 hnet).1
  have hcl := cellsE_len s.cells
  have hi0 := s.i0
  have hi1 := s.i1
  have hfl := s.fl
  have houl := s.ol
  have hil := s.il
  simp (disch := first | omega | decide) only [push_cast, ↓reduceIte, Nat.reduceLT, Nat.reduceEqDiff, reduceCtorEq, Nat.reduceAdd, hn, hd, ha, faL foN0, faL foN1, faL foN2, faL foN3, faL foN4, hN2.l0, hN2.l1, hN2.l2, hN2.l3, hN2.l4, hN2.la, r2.f.len Tryz.underlying23]
  refine ACall.mono ?_ (order hv2 hb)
  rintro _ h2 ⟨rfl, rfl⟩
  by_cases hperm : IsPerm ord ∧ (ord.length : Int) = n.flops.length
  case neg =>
    have es : scanE n ord = 1 := by rw [scanE, if_neg (by simpa using hnet), if_neg hperm]
    obtain ⟨f1, f2, f3⟩ := insFail (n := n) (ord := ord) hwf g2 hXlo hX 1 (by rw [insE, if_pos (by rw [es]; decide), es]) (by decide)
    simp (disch := first | omega | decide) only [push_cast, ↓reduceIte, Nat.reduceLT, Nat.reduceEqDiff, reduceCtorEq, Nat.reduceAdd, hn, hd, ha, decide_eq_false hperm, buildN0, f1, f2]
    exact f3.post
  have es : scanE n ord = 0 := by rw [scanE, if_neg (by simpa using hnet), if_pos hperm]
  obtain ⟨hperm', hol⟩ := id hperm
  have hm : matchE n.cells 202 3 = 0 := by rw [matchE, if_neg (by simpa using s.cells), if_neg (by decide)]
  simp (disch := first | omega | decide) only [push_cast, ↓reduceIte, Nat.reduceLT, Nat.reduceEqDiff, reduceCtorEq, Nat.reduceAdd, hn, hd, ha, decide_eq_true hperm, faL foN0, faL foN1, faL foN2, faL foN3, faL foN4, hN2.l0, hN2.l1, hN2.l2, hN2.l3, hN2.l4, hN2.la]
  refine ACall.mono ?_ (match28 r2.c ok.cell s.cells)
  rintro _ h3 ⟨g3, mv, rfl, hmv⟩
  have gb := g2.trans g3
  have hX3 := g3.sub _ _ hX
  have hN3 := hN2.sub g3.sub
  have r3 := r2.sub g3.sub
  have hv3 := hv2.sub g3.sub
  have hlen := hmv.len (P := Tryz.prog) Tryz.underlying68
  rw [List.length_map] at hlen
  by_cases hl : matchGo 202 3 0 n.cells = []
  · obtain ⟨f1, f2, f3⟩ := insFail (n := n) (ord := ord) hwf gb hXlo hX3 20 (by rw [insE, if_neg (by simpa using es), if_pos (.inr hl)]) (by decide)
    rw [hl] at hlen
    simp (disch := first | omega | decide) only [push_cast, ↓reduceIte, Nat.reduceLT, Nat.reduceEqDiff, reduceCtorEq, Nat.reduceAdd, hn, hd, ha, hlen, List.length_nil, Int.natCast_zero, Int.ofNat_zero, buildN0, f1, f2]
    exact f3.post
  have hl0 : ¬ (((matchGo 202 3 0 n.cells).length : Int) = 0) := fun x => hl (List.eq_nil_of_length_eq_zero (by omega))
  have hw0 : IntKind.i64.wrap (n.inputs + 2) = n.inputs + 2 := wrapI (by omega) (by omega)
  have hw1 : IntKind.i64.wrap (n.inputs + 1) = n.inputs + 1 := wrapI (by omega) (by omega)
  have hw2 : IntKind.i64.wrap ((n.insts.length : Int) + n.flops.length) = n.insts.length + n.flops.length := wrapI (by omega) (by omega)
  have hw3 : IntKind.i64.wrap ((n.outs.length : Int) + 1) = n.outs.length + 1 := wrapI (by omega) (by omega)
  by_cases hbig : n.inputs + 2 > 64 ∨ (n.outs.length : Int) ≥ 64 ∨ ((n.insts.length : Int) + n.flops.length > 4096)
  · obtain ⟨f1, f2, f3⟩ := insFail (n := n) (ord := ord) hwf gb hXlo hX3 5 (by rw [insE, if_neg (by simpa using es), if_neg (by rintro (x | x); exact x hm; exact hl x), if_pos hbig]) (by decide)
    by_cases c1 : n.inputs + 2 > 64
    · simp (disch := first | omega | decide) only [push_cast, ↓reduceIte, Nat.reduceLT, Nat.reduceEqDiff, reduceCtorEq, Nat.reduceAdd, hn, hd, ha, hlen, hl0, faL foN0, faL foN1, faL foN2, faL foN3, faL foN4, hN3.l0, hN3.l1, hN3.l2, hN3.l3, hN3.l4, hN3.la, hw0, c1, buildN0, f1, f2]
      exact f3.post
    by_cases c2 : (n.outs.length : Int) + 1 > 64
    · simp (disch := first | omega | decide) only [push_cast, ↓reduceIte, Nat.reduceLT, Nat.reduceEqDiff, reduceCtorEq, Nat.reduceAdd, hn, hd, ha, hlen, hl0, faL foN0, faL foN1, faL foN2, faL foN3, faL foN4, hN3.l0, hN3.l1, hN3.l2, hN3.l3, hN3.l4, hN3.la, hw0, hw3, c1, c2, r3.o.lenA Tryz.underlying25, buildN0, f1, f2]
      exact f3.post
    have c3 : (n.insts.length : Int) + n.flops.length > 4096 := by
      rcases hbig with x | x | x
      · exact absurd x c1
      · omega
      · exact x
    simp (disch := first | omega | decide) only [push_cast, ↓reduceIte, Nat.reduceLT, Nat.reduceEqDiff, reduceCtorEq, Nat.reduceAdd, hn, hd, ha, hlen, hl0, faL foN0, faL foN1, faL foN2, faL foN3, faL foN4, hN3.l0, hN3.l1, hN3.l2, hN3.l3, hN3.l4, hN3.la, hw0, hw2, hw3, c1, c2, c3, r3.o.lenA Tryz.underlying25, r3.i.len Tryz.underlying24, r3.f.len Tryz.underlying23, buildN0, f1, f2]
    exact f3.post
  have he : insE n ord = 0 := by rw [insE, if_neg (by simpa using es), if_neg (by rintro (x | x); exact x hm; exact hl x), if_neg hbig]
  have c1 : ¬ n.inputs + 2 > 64 := fun x => hbig (.inl x)
  have c2 : ¬ (n.outs.length : Int) + 1 > 64 := fun x => hbig (.inr (.inl (by omega)))
  have c3 : ¬ (n.insts.length : Int) + n.flops.length > 4096 := fun x => hbig (.inr (.inr x))
  have hXb : X < h3.next := AH.get_lt gb.wf hX3
  simp (disch := first | omega | decide) only [push_cast, ↓reduceIte, Nat.reduceLT, Nat.reduceEqDiff, reduceCtorEq, Nat.reduceAdd, hn, hd, ha, hlen, hl0, faL foN0, faL foN1, faL foN2, faL foN3, faL foN4, hN3.l0, hN3.l1, hN3.l2, hN3.l3, hN3.l4, hN3.la, hw0, hw2, hw3, c1, c2, c3, r3.o.lenA Tryz.underlying25, r3.i.len Tryz.underlying24, r3.f.len Tryz.underlying23]
  refine ACall.mono ?_ (copy29 r3 nb)
  rintro _ h4 ⟨cv', fv', iv', ov', nm, ob, dv, rfl, Pv, h40⟩
  have hst := fun (hh : AH) cs e hl => stN agN hh cs e (netC n cv' fv' iv' ov') hl rfl Pv.one
  have Pv5 := Pv.add4 gb.wf (.row (netC n cv' fv' iv' ov') 27 true)
  have hM5 : NetAt (h4.new (.row (netC n cv' fv' iv' ov') 27 true)) h4.next n cv' fv' iv' ov' := NetAt.new
  have hN5 := hN3.sub Pv5.own.gr.sub
  have h54 := upd_same ob 4 (some (.row (netC n cv' fv' iv' ov') 27 true))
  have n54 := upd_same nm 4 h4.next
  have hg5 : (h4.new (.row (netC n cv' fv' iv' ov') 27 true)).get h4.next = some (.row (netC n cv' fv' iv' ov') 27 true) := by rw [AH.new_get, if_pos rfl]
  have est := stC sz3 hg5 1 (.int .i64 (n.inputs + 2)) (by simp [netC]) rfl rfl
  have Pv6 := (Pv5.set4 gb.wf n54 h54 (.row (netC { n with inputs := n.inputs + 2 } cv' fv' iv' ov') 27 true)).1
  replace Pv6 := Pv6.inp (m' := { n with inputs := n.inputs + 2 }) rfl rfl rfl rfl
  have h64 := upd_same (upd ob 4 (some (.row (netC n cv' fv' iv' ov') 27 true))) 4 (some (.row (netC { n with inputs := n.inputs + 2 } cv' fv' iv' ov') 27 true))
  simp (disch := first | omega | decide) only [push_cast, ↓reduceIte, Nat.reduceLT, Nat.reduceEqDiff, reduceCtorEq, Nat.reduceAdd, hn, hd, ha, hlen, alL zrN, hst, faL foN0, faL foN1, faL foN2, faL foN3, faL foN4, hN5.l0, hN5.l1, hN5.l2, hN5.l3, hN5.l4, hN5.la, hw0, est]
  have e6 : (netC n cv' fv' iv' ov').set 1 (.int .i64 (n.inputs + 2)) = netC { n with inputs := n.inputs + 2 } cv' fv' iv' ov' := rfl
  rw [e6]
  have n64 : upd nm 4 h4.next 4 = h4.next := n54
  have x0 := ha 0
  have x1 := ha 1
  generalize h4.new (.row (netC n cv' fv' iv' ov') 27 true) = h5 at *
  generalize h4.next = T at *
  generalize h5.set T (.row (netC { n with inputs := n.inputs + 2 } cv' fv' iv' ov') 27 true) = k6 at *
  generalize upd nm 4 T = nm6 at *
  generalize upd (upd ob 4 (some (.row (netC n cv' fv' iv' ov') 27 true))) 4 (some (.row (netC { n with inputs := n.inputs + 2 } cv' fv' iv' ov') 27 true)) = ob6 at *
  have nbi := nb.i
  refine AW.mono ?_ (refPins (B0 := B0) (T := T) (m := { n with inputs := n.inputs + 2 }) (by simp (disch := first | omega | decide) only [push_cast, ↓reduceIte, Nat.reduceLT, Nat.reduceEqDiff, reduceCtorEq, Nat.reduceAdd, hn]) (by simp (disch := first | omega | decide) only [push_cast, ↓reduceIte, Nat.reduceLT, Nat.reduceEqDiff, reduceCtorEq, Nat.reduceAdd, hd]) gb.wf r3 hN3 nb.i nb.p rfl Pv6 n64 h64 (by simp (disch := first | omega | decide) only [push_cast, ↓reduceIte, Nat.reduceLT, Nat.reduceEqDiff, reduceCtorEq, Nat.reduceAdd]) (by simp (disch := first | omega | decide) only [push_cast, ↓reduceIte, Nat.reduceLT, Nat.reduceEqDiff, reduceCtorEq, Nat.reduceAdd]) (by simp (disch := first | omega | decide) only [push_cast, ↓reduceIte, Nat.reduceLT, Nat.reduceEqDiff, reduceCtorEq, Nat.reduceAdd]))
  rintro _ a7 k7 ⟨rfl, hn7, hd7, ht7, ob7, P7, h74⟩
  have t71 := ht7 1 (by omega) (by decide)
  have t72 := ht7 2 (by omega) (by decide)
  have t74 := ht7 4 (by omega) (by decide)
  have t77 := ht7 7 (by omega) (by decide)
  have t79 := ht7 9 (by omega) (by decide)
  simp (disch := first | omega | decide) only [push_cast, ↓reduceIte, Nat.reduceLT, Nat.reduceEqDiff, reduceCtorEq, Nat.reduceAdd, hn7, hd7, t72, t79]
  refine AW.mono ?_ (refOuts (B0 := B0) (T := T) (m := { ({ n with inputs := n.inputs + 2 } : Net) with insts := n.insts.map (instS n) }) (by simp (disch := first | omega | decide) only [push_cast, ↓reduceIte, Nat.reduceLT, Nat.reduceEqDiff, reduceCtorEq, Nat.reduceAdd, hn7]) (by simp (disch := first | omega | decide) only [push_cast, ↓reduceIte, Nat.reduceLT, Nat.reduceEqDiff, reduceCtorEq, Nat.reduceAdd, hd7]) gb.wf r3 hN3 nb.o rfl P7 n64 h74 (by simp (disch := first | omega | decide) only [push_cast, ↓reduceIte, Nat.reduceLT, Nat.reduceEqDiff, reduceCtorEq, Nat.reduceAdd, t72]) (by simp (disch := first | omega | decide) only [push_cast, ↓reduceIte, Nat.reduceLT, Nat.reduceEqDiff, reduceCtorEq, Nat.reduceAdd, t79]) (by simp (disch := first | omega | decide) only [push_cast, ↓reduceIte, Nat.reduceLT, Nat.reduceEqDiff, reduceCtorEq, Nat.reduceAdd]))
  rintro _ a8 k8 ⟨rfl, hn8, hd8, ht8, ob8, P8, h84⟩
  have t81 : a8.tm 1 = v := (ht8 1 (by omega) (by decide)).trans (by simp (disch := first | omega | decide) only [push_cast, ↓reduceIte, Nat.reduceLT, Nat.reduceEqDiff, reduceCtorEq, Nat.reduceAdd, t71, ha])
  have t82 : a8.tm 2 = .pointer (some ⟨B0, 0, none⟩) := (ht8 2 (by omega) (by decide)).trans (by simp (disch := first | omega | decide) only [push_cast, ↓reduceIte, Nat.reduceLT, Nat.reduceEqDiff, reduceCtorEq, Nat.reduceAdd, t72])
  have t84 : a8.tm 4 = .pointer (some ⟨X, 0, none⟩) := (ht8 4 (by omega) (by decide)).trans (by simp (disch := first | omega | decide) only [push_cast, ↓reduceIte, Nat.reduceLT, Nat.reduceEqDiff, reduceCtorEq, Nat.reduceAdd, t74])
  have t87 : a8.tm 7 = mv := (ht8 7 (by omega) (by decide)).trans (by simp (disch := first | omega | decide) only [push_cast, ↓reduceIte, Nat.reduceLT, Nat.reduceEqDiff, reduceCtorEq, Nat.reduceAdd, t77])
  have t89 : a8.tm 9 = .pointer (some ⟨T, 0, none⟩) := (ht8 9 (by omega) (by decide)).trans (by simp (disch := first | omega | decide) only [push_cast, ↓reduceIte, Nat.reduceLT, Nat.reduceEqDiff, reduceCtorEq, Nat.reduceAdd, t79])
  clear ht7 t71 t72 t74 t77 t79 hn7 hd7 ht8
  obtain ⟨ob9, B9⟩ := P8.bld hXb n64 h84
  replace B9 : Bld h3 k8 X T (insBase n) nm6 ob9 cv' fv' iv' ov' := B9
  have hN9 := hN3.sub B9.own.gr.sub
  have n9 := B9.own.gr.nx
  simp (disch := first | omega | decide) only [push_cast, ↓reduceIte, Nat.reduceLT, Nat.reduceEqDiff, reduceCtorEq, Nat.reduceAdd, hn8, hd8, t81, t82, t84, t87, t89, faL foN0, faL foN1, faL foN2, faL foN3, faL foN4, hN9.l0, hN9.l1, hN9.l2, hN9.l3, hN9.l4, hN9.la, hw1, hv.lenA Tryz.underlying25]
  have hpk := pick3_ok hl
  have hbs : (matchGo 202 3 0 n.cells).map bindI ≠ [] := by simpa using hl
  have hp0 : ((matchGo 202 3 0 n.cells).map bindI).getD 0 default = bindI (pick3 n) := by
    unfold pick3
    cases hx : matchGo 202 3 0 n.cells with
    | nil => exact absurd hx hl
    | cons y ys => rfl
  refine AW.mono ?_ (refOrd (B0 := B0) (X := X) (T := T) (m := insBase n) (by simp (disch := first | omega | decide) only [push_cast, ↓reduceIte, Nat.reduceLT, Nat.reduceEqDiff, reduceCtorEq, Nat.reduceAdd, hn8]) (by simp (disch := first | omega | decide) only [push_cast, ↓reduceIte, Nat.reduceLT, Nat.reduceEqDiff, reduceCtorEq, Nat.reduceAdd, hd8]) (by omega) gb.wf r3 hN3 hv3 (by omega) (fun z hz => by obtain ⟨i, hi, rfl⟩ := hperm'.range hz; omega) ⟨hi0, hi1⟩ hfl rfl (by show (n.insts.map (instS n)).length ≤ 4096; simpa using hil) rfl
    hmv hbs hp0 hpk.2.2.2.1 hpk.2.2.2.2 B9 (by simp (disch := first | omega | decide) only [push_cast, ↓reduceIte, Nat.reduceLT, Nat.reduceEqDiff, reduceCtorEq, Nat.reduceAdd, t82]) (by simp (disch := first | omega | decide) only [push_cast, ↓reduceIte, Nat.reduceLT, Nat.reduceEqDiff, reduceCtorEq, Nat.reduceAdd, t87]) (by simp (disch := first | omega | decide) only [push_cast, ↓reduceIte, Nat.reduceLT, Nat.reduceEqDiff, reduceCtorEq, Nat.reduceAdd, t89]) (by simp (disch := first | omega | decide) only [push_cast, ↓reduceIte, Nat.reduceLT, Nat.reduceEqDiff, reduceCtorEq, Nat.reduceAdd]) (by simp (disch := first | omega | decide) only [push_cast, ↓reduceIte, Nat.reduceLT, Nat.reduceEqDiff, reduceCtorEq, Nat.reduceAdd]) (by simp (disch := first | omega | decide) only [push_cast, ↓reduceIte, Nat.reduceLT, Nat.reduceEqDiff, reduceCtorEq, Nat.reduceAdd]) (by simp (disch := first | omega | decide) only [push_cast, ↓reduceIte, Nat.reduceLT, Nat.reduceEqDiff, reduceCtorEq, Nat.reduceAdd]))
  rintro _ a7 h7' ⟨rfl, hn7, hd7, ht7, n7, h13', nm7, ob7, fv7, iv7, B7⟩
  have hgo : (ord.foldl (insStep n) (n.inputs + 1, insBase n)) = insGo n ord := rfl
  rw [hgo] at h13' B7
  obtain ⟨q1, q2, q3, q4, q5⟩ := insGo_keep n ord (n.inputs + 1, insBase n)
  rw [hgo] at q1 q2 q3 q4 q5
  have q5l : (insGo n ord).2.outs.length = n.outs.length := by rw [q5]; simp [insBase]
  obtain ⟨e1, v', k1, k2, e2, e3, nm8, ob8, B8⟩ := B7.pushO gb.wf (insGo n ord).1 (by omega)
  have hM7 := B7.at
  have hM8 := B8.at
  have hX8 := B8.own.gr.sub _ _ hX3
  have hins : insR n ord = insN n ord := by unfold insR; rw [if_pos he]
  have hnl : (insN n ord).insts.length ≤ 4294967296 := by show (insGo n ord).2.insts.length ≤ _; rw [q2]; simp [insBase]; omega
  have hfn : (insN n ord).flops.length ≤ 4294967296 := by show (insGo n ord).2.flops.length ≤ _; rw [q1]; simp [insBase]; omega
  have hcn : (insN n ord).cells.length ≤ 4294967296 := by show (insGo n ord).2.cells.length ≤ _; rw [q4]; simp [insBase]; omega
  have hlt8 := AH.get_lt B8.own.gr.wf hX8
  have hst8 := stA agN hX8 rfl _ rfl B8.one
  have hld8 : aLoad Tryz.prog 27 (.pointer (some ⟨X, 0, none⟩)) (k2.set X (.row (netC { (insGo n ord).2 with outs := (insGo n ord).2.outs ++ [(insGo n ord).1] } cv' fv7 iv7 v') 27 true)) = some (.agg (netC { (insGo n ord).2 with outs := (insGo n ord).2.outs ++ [(insGo n ord).1] } cv' fv7 iv7 v').toArray) := ldLA (by rw [AH.set_get, if_pos rfl]) rfl agN rfl
  have y4 : a7.tm 4 = .pointer (some ⟨X, 0, none⟩) := (ht7 4 (by omega) (by decide)).trans (by simp (disch := first | omega | decide) only [push_cast, ↓reduceIte, Nat.reduceLT, Nat.reduceEqDiff, reduceCtorEq, Nat.reduceAdd, t84])
  have y9 : a7.tm 9 = .pointer (some ⟨T, 0, none⟩) := (ht7 9 (by omega) (by decide)).trans (by simp (disch := first | omega | decide) only [push_cast, ↓reduceIte, Nat.reduceLT, Nat.reduceEqDiff, reduceCtorEq, Nat.reduceAdd, t89])
  simp (disch := first | omega | decide) only [push_cast, ↓reduceIte, Nat.reduceLT, Nat.reduceEqDiff, reduceCtorEq, Nat.reduceAdd, hn7, hd7, y4, y9, h13', faL foN0, faL foN1, faL foN2, faL foN3, faL foN4, hM7.l0, hM7.l1, hM7.l2, hM7.l3, hM7.l4, hM7.la, e1, e2, e3, hM8.l0, hM8.l1, hM8.l2, hM8.l3, hM8.l4, hM8.la, hst8, hld8]
  have hnet8 := B8.net hXb (.row (netC { (insGo n ord).2 with outs := (insGo n ord).2.outs ++ [(insGo n ord).1] } cv' fv7 iv7 v') 27 true) hcn hfn hnl
  refine ⟨(gb.trans B8.own.gr).set hwf hXlo hlt8 _, cv', fv7, iv7, v', ?_, ?_⟩
  · rw [hins, he]; rfl
  · rw [hins]; exact hnet8


/-- A library of bounded size. -/
structure LibB (cs : List Cell) : Prop where
  c : cs.length ≤ 4294967296
  d : ∀ c ∈ cs, c.delay.length ≤ 4294967296

theorem long28b {h : AH} {v : Value} {cs : List Cell} (hv : RowOf cellL h v cs) (hb : cs.length ≤ 4611686018427387904) :
    ACall Tryz.prog 25 [v] h (fun r h' => (∃ b, r = .bool b ∧ (b = false → LibB cs)) ∧ h' = h) := by
  refine ACall.of_wp 29 [.tmp 2] Tryz.func25 rfl (by kernel_rfl) rfl rfl fun a hn hd ha => ?_
  simp (disch := first | omega | decide | (simp only [List.length_cons, List.length_nil] <;> omega)) only [push_cast, ↓reduceIte, Nat.reduceLT, Nat.reduceEqDiff, reduceCtorEq, Nat.reduceAdd, hn, hd, ha, hv.len Tryz.underlying22]
  refine condV_of (fun h0 => ?_) (fun h0 => ?_)
  · simp (disch := first | omega | decide | (simp only [List.length_cons, List.length_nil] <;> omega)) only [push_cast, ↓reduceIte, Nat.reduceLT, Nat.reduceEqDiff, reduceCtorEq, Nat.reduceAdd, hn, hd, ha]
    exact ⟨_, rfl, fun e => by cases e⟩
  simp (disch := first | omega | decide | (simp only [List.length_cons, List.length_nil] <;> omega)) only [push_cast, ↓reduceIte, Nat.reduceLT, Nat.reduceEqDiff, reduceCtorEq, Nat.reduceAdd, hn, hd, ha]
  refine AW.loopN 4 [3] (fun m a' h' => h' = h ∧ ∃ i : Nat, a'.tm 3 = .int .i64 i ∧ i + m = cs.length ∧ ∀ j, j < i → (cs.getD j default).delay.length ≤ 100) cs.length ?_ ?_
  · exact ⟨rfl, 0, by simp (disch := first | omega | decide | (simp only [List.length_cons, List.length_nil] <;> omega)) only [push_cast, ↓reduceIte, Nat.reduceLT, Nat.reduceEqDiff, reduceCtorEq, Nat.reduceAdd], by omega, fun j hj => by omega⟩
  · rintro a1 m a' h' hk kn kd kt ⟨rfl, i, h3, him, hd100⟩
    simp (disch := first | omega | decide | (simp only [List.length_cons, List.length_nil] <;> omega)) only [push_cast, ↓reduceIte, Nat.reduceLT, Nat.reduceEqDiff, reduceCtorEq, Nat.reduceAdd, kn, kd, kt, hn, hd, ha, h3, hv.len Tryz.underlying22]
    refine condV_of (fun hlt => ?_) (fun hge => ?_)
    · have hi : i < cs.length := by have := hlt; simp at this; omega
      obtain ⟨ccs, ⟨dv, rfl, hdv⟩, -, hcf, hca⟩ := hv.get (P := Tryz.prog) hi default
      have hw : IntKind.i64.wrap ((i : Int) + 1) = i + 1 := wrapI (by omega) (by omega)
      simp (disch := first | omega | decide | (simp only [List.length_cons, List.length_nil] <;> omega)) only [push_cast, ↓reduceIte, Nat.reduceLT, Nat.reduceEqDiff, reduceCtorEq, Nat.reduceAdd, kn, kd, kt, hn, hd, ha, h3, hv.idx Tryz.underlying22 infC, hca _ _ _ foC0, hca _ _ _ foC4, hcf 0 _ fl9 (by decide), hcf 4 _ flL (by decide), lenStr Tryz.underlying9, hdv.lenM Tryz.underlying38]
      refine wantM_not (fun e => ?_) (fun e => ?_)
      · simp (disch := first | omega | decide | (simp only [List.length_cons, List.length_nil] <;> omega)) only [push_cast, ↓reduceIte, Nat.reduceLT, Nat.reduceEqDiff, reduceCtorEq, Nat.reduceAdd, kn, kd, kt, hn, hd, ha, h3, e]
        exact ⟨_, rfl, fun e => by cases e⟩
      · simp (disch := first | omega | decide | (simp only [List.length_cons, List.length_nil] <;> omega)) only [push_cast, ↓reduceIte, Nat.reduceLT, Nat.reduceEqDiff, reduceCtorEq, Nat.reduceAdd, kn, kd, kt, hn, hd, ha, h3, e, hv.idx Tryz.underlying22 infC, hca _ _ _ foC0, hca _ _ _ foC4, hcf 0 _ fl9 (by decide), hcf 4 _ flL (by decide), lenStr Tryz.underlying9, hdv.lenM Tryz.underlying38]
        refine condV_of (fun e2 => ?_) (fun e2 => ?_)
        · simp (disch := first | omega | decide | (simp only [List.length_cons, List.length_nil] <;> omega)) only [push_cast, ↓reduceIte, Nat.reduceLT, Nat.reduceEqDiff, reduceCtorEq, Nat.reduceAdd, kn, kd, kt, hn, hd, ha, h3, e]
          exact ⟨_, rfl, fun e => by cases e⟩
        · simp (disch := first | omega | decide | (simp only [List.length_cons, List.length_nil] <;> omega)) only [push_cast, ↓reduceIte, Nat.reduceLT, Nat.reduceEqDiff, reduceCtorEq, Nat.reduceAdd, kn, kd, kt, hn, hd, ha, h3, e, hw]
          exact ⟨m - 1, by omega, (by simp (disch := decide) only [Kp_put, put_none, hk]), rfl, i + 1, by simp (disch := first | omega | decide | (simp only [List.length_cons, List.length_nil] <;> omega)) only [push_cast, ↓reduceIte, Nat.reduceLT, Nat.reduceEqDiff, reduceCtorEq, Nat.reduceAdd], by omega, fun j hj => by
            by_cases hji : j = i
            · subst hji; have := of_decide_eq_false e2; omega
            · exact hd100 j (by omega)⟩
    · simp (disch := first | omega | decide | (simp only [List.length_cons, List.length_nil] <;> omega)) only [push_cast, ↓reduceIte, Nat.reduceLT, Nat.reduceEqDiff, reduceCtorEq, Nat.reduceAdd, kn, kd, kt, hn, hd, ha, h3]
      refine ⟨_, rfl, fun _ => ⟨by simp at h0; omega, fun c hc => ?_⟩⟩
      obtain ⟨j, hj⟩ := List.getElem?_of_mem hc
      have hjl : j < cs.length := (List.getElem?_eq_some_iff.1 hj).1
      have hge' : cs.length ≤ i := by have := hge; simp at this; omega
      have := hd100 j (by omega)
      rw [List.getD_eq_getElem?_getD, hj] at this
      simp at this; omega

theorem long29b {h : AH} {n : Net} {cv fv iv ov : Value} (r : NetR h n cv fv iv ov) (ok : NetOK n) (hc : n.cells.length ≤ 4611686018427387904) :
    ACall Tryz.prog 8 [.agg (netC n cv fv iv ov).toArray] h (fun v h' => (∃ b, v = .bool b ∧ (b = false → NetB n)) ∧ Gr h h') := by
  refine ACall.wf ⟨_, Tryz.func8, rfl, by kernel_rfl⟩ fun hwf => ?_
  refine ACall.of_wp 38 [.tmp 2] Tryz.func8 rfl (by kernel_rfl) rfl rfl fun a hn hd ha => ?_
  have hbox := boxA 27 h _ r.one
  have hN := NetAt.new (h := h) (n := n) (cv := cv) (fv := fv) (iv := iv) (ov := ov)
  have r1 := r.sub (Sub.new hwf (.row (netC n cv fv iv ov) 27 true))
  have g1 : Gr h (h.new (.row (netC n cv fv iv ov) 27 true)) := (Gr.refl hwf).new _
  have hil := ok.il
  simp (disch := first | omega | decide | (simp only [List.length_cons, List.length_nil] <;> omega)) only [push_cast, ↓reduceIte, Nat.reduceLT, Nat.reduceEqDiff, reduceCtorEq, Nat.reduceAdd, hn, hd, ha, hbox, faL foN0, faL foN1, faL foN2, faL foN3, faL foN4, hN.l0, hN.l1, hN.l2, hN.l3, hN.l4, hN.la]
  generalize h.new (.row (netC n cv fv iv ov) 27 true) = h1 at hN r1 g1 ⊢
  generalize h.next = B at hN ⊢
  refine ACall.mono ?_ (long28b r1.c hc)
  rintro _ h1 ⟨⟨b, rfl, hB⟩, rfl⟩
  simp (disch := first | omega | decide | (simp only [List.length_cons, List.length_nil] <;> omega)) only [push_cast, ↓reduceIte, Nat.reduceLT, Nat.reduceEqDiff, reduceCtorEq, Nat.reduceAdd, hn, hd, ha]
  cases b with
  | true =>
    simp (disch := first | omega | decide | (simp only [List.length_cons, List.length_nil] <;> omega)) only [push_cast, ↓reduceIte, Nat.reduceLT, Nat.reduceEqDiff, reduceCtorEq, Nat.reduceAdd, hn, hd, ha]
    exact ⟨⟨_, rfl, fun e => by cases e⟩, g1⟩
  | false =>
    simp (disch := first | omega | decide | (simp only [List.length_cons, List.length_nil] <;> omega)) only [push_cast, ↓reduceIte, Nat.reduceLT, Nat.reduceEqDiff, reduceCtorEq, Nat.reduceAdd, hn, hd, ha, faL foN0, faL foN1, faL foN2, faL foN3, faL foN4, hN.l0, hN.l1, hN.l2, hN.l3, hN.l4, hN.la, r1.i.len Tryz.underlying24]
    refine wantM_not (fun e => ?_) (fun e => ?_)
    · simp (disch := first | omega | decide | (simp only [List.length_cons, List.length_nil] <;> omega)) only [push_cast, ↓reduceIte, Nat.reduceLT, Nat.reduceEqDiff, reduceCtorEq, Nat.reduceAdd, hn, hd, ha, e]
      exact ⟨⟨_, rfl, fun e => by cases e⟩, g1⟩
    have b1 := e
    simp (disch := first | omega | decide | (simp only [List.length_cons, List.length_nil] <;> omega)) only [push_cast, ↓reduceIte, Nat.reduceLT, Nat.reduceEqDiff, reduceCtorEq, Nat.reduceAdd, hn, hd, ha, e, faL foN0, faL foN1, faL foN2, faL foN3, faL foN4, hN.l0, hN.l1, hN.l2, hN.l3, hN.l4, hN.la, r1.f.len Tryz.underlying23]
    refine wantM_not (fun e => ?_) (fun e => ?_)
    · simp (disch := first | omega | decide | (simp only [List.length_cons, List.length_nil] <;> omega)) only [push_cast, ↓reduceIte, Nat.reduceLT, Nat.reduceEqDiff, reduceCtorEq, Nat.reduceAdd, hn, hd, ha, e]
      exact ⟨⟨_, rfl, fun e => by cases e⟩, g1⟩
    have b2 := e
    simp (disch := first | omega | decide | (simp only [List.length_cons, List.length_nil] <;> omega)) only [push_cast, ↓reduceIte, Nat.reduceLT, Nat.reduceEqDiff, reduceCtorEq, Nat.reduceAdd, hn, hd, ha, e, faL foN0, faL foN1, faL foN2, faL foN3, faL foN4, hN.l0, hN.l1, hN.l2, hN.l3, hN.l4, hN.la, r1.o.lenM Tryz.underlying25]
    refine condV_of (fun e => ?_) (fun e => ?_)
    · simp (disch := first | omega | decide | (simp only [List.length_cons, List.length_nil] <;> omega)) only [push_cast, ↓reduceIte, Nat.reduceLT, Nat.reduceEqDiff, reduceCtorEq, Nat.reduceAdd, hn, hd, ha, e]
      exact ⟨⟨_, rfl, fun e => by cases e⟩, g1⟩
    have b3 := e
    simp (disch := first | omega | decide | (simp only [List.length_cons, List.length_nil] <;> omega)) only [push_cast, ↓reduceIte, Nat.reduceLT, Nat.reduceEqDiff, reduceCtorEq, Nat.reduceAdd, hn, hd, ha, e, faL foN0, faL foN1, faL foN2, faL foN3, faL foN4, hN.l0, hN.l1, hN.l2, hN.l3, hN.l4, hN.la, r1.i.len Tryz.underlying24]
    refine AW.loopN 29 [4] (fun m a' h' => Gr h1 h' ∧ ∃ i : Nat, a'.tm 29 = .int .i64 i ∧ i + m = n.insts.length ∧ ∀ j, j < i → (n.insts.getD j default).pins.length ≤ 40) n.insts.length ?_ ?_
    · exact ⟨Gr.refl g1.wf, 0, by simp (disch := first | omega | decide | (simp only [List.length_cons, List.length_nil] <;> omega)) only [push_cast, ↓reduceIte, Nat.reduceLT, Nat.reduceEqDiff, reduceCtorEq, Nat.reduceAdd], by omega, fun j hj => by omega⟩
    rintro a1 m a' h' hk kn kd kt ⟨hg, i, h29, him, h40⟩
    simp (disch := first | omega | decide | (simp only [List.length_cons, List.length_nil] <;> omega)) only [push_cast, ↓reduceIte, Nat.reduceLT, Nat.reduceEqDiff, reduceCtorEq, Nat.reduceAdd, kn, kd, kt, hn, hd, ha, h29]
    refine condV_of (fun hlt => ?_) (fun hge => ?_)
    · have hi : i < n.insts.length := by have := hlt; simp at this; omega
      obtain ⟨cs, ⟨pv, rfl, hpv⟩, hld, -, -⟩ := r1.i.get hi default
      replace hld := aLoad_sub hg.sub (hld _ agI)
      generalize hx : n.insts.getD i default = x at *
      have hst := fun (hh : AH) cs e hl => stN agI hh cs e [Value.int .i64 x.cell, pv] hl rfl (by simp only [List.all_cons, List.all_nil, hpv.one]; rfl)
      have gI := hg.new (.row [Value.int .i64 x.cell, pv] 36 true)
      have hI := CsAt.new h' [Value.int .i64 x.cell, pv] 36 true
      have hw : IntKind.i64.wrap ((i : Int) + 1) = i + 1 := wrapI (by omega) (by omega)
      simp (disch := first | omega | decide | (simp only [List.length_cons, List.length_nil] <;> omega)) only [push_cast, ↓reduceIte, Nat.reduceLT, Nat.reduceEqDiff, reduceCtorEq, Nat.reduceAdd, kn, kd, kt, hn, hd, ha, h29, r1.i.idx Tryz.underlying24 infI, hld, alL zrI, hst]
      generalize h'.new (.row [Value.int .i64 x.cell, pv] 36 true) = k2 at gI hI ⊢
      generalize h'.next = I0 at hI ⊢
      simp (disch := first | omega | decide | (simp only [List.length_cons, List.length_nil] <;> omega)) only [push_cast, ↓reduceIte, Nat.reduceLT, Nat.reduceEqDiff, reduceCtorEq, Nat.reduceAdd, kn, kd, kt, hn, hd, ha, h29, faL foI0, faL foI1, hI.ld flI, hpv.lenA Tryz.underlying25]
      refine condV_of (fun e2 => ?_) (fun e2 => ?_)
      · simp (disch := first | omega | decide | (simp only [List.length_cons, List.length_nil] <;> omega)) only [push_cast, ↓reduceIte, Nat.reduceLT, Nat.reduceEqDiff, reduceCtorEq, Nat.reduceAdd, kn, kd, kt, hn, hd, ha, h29]
        exact ⟨⟨_, rfl, fun e => by cases e⟩, g1.trans gI⟩
      · simp (disch := first | omega | decide | (simp only [List.length_cons, List.length_nil] <;> omega)) only [push_cast, ↓reduceIte, Nat.reduceLT, Nat.reduceEqDiff, reduceCtorEq, Nat.reduceAdd, kn, kd, kt, hn, hd, ha, h29, hw]
        exact ⟨m - 1, by omega, (by simp (disch := decide) only [Kp_put, put_none, hk]), gI, i + 1, by simp (disch := first | omega | decide | (simp only [List.length_cons, List.length_nil] <;> omega)) only [push_cast, ↓reduceIte, Nat.reduceLT, Nat.reduceEqDiff, reduceCtorEq, Nat.reduceAdd], by omega, fun j hj => by
          by_cases hji : j = i
          · subst hji; rw [hx]; simp at e2; omega
          · exact h40 j (by omega)⟩
    · simp (disch := first | omega | decide | (simp only [List.length_cons, List.length_nil] <;> omega)) only [push_cast, ↓reduceIte, Nat.reduceLT, Nat.reduceEqDiff, reduceCtorEq, Nat.reduceAdd, kn, kd, kt, hn, hd, ha, h29]
      refine ⟨⟨_, rfl, fun _ => ?_⟩, g1.trans hg⟩
      obtain ⟨lb, ld⟩ := hB rfl
      have hge' : n.insts.length ≤ i := by have := hge; simp at this; omega
      refine ⟨lb, ld, by simp at b2; omega, by simp at b1; omega, fun x hx => ?_, by simp at b3; omega⟩
      obtain ⟨j, hj⟩ := List.getElem?_of_mem hx
      have hjl : j < n.insts.length := (List.getElem?_eq_some_iff.1 hj).1
      have := h40 j (by omega)
      rw [List.getD_eq_getElem?_getD, hj] at this
      simp at this; omega


theorem insGo_pins {n : Net} (hpl : (pick3 n).2.length ≤ 4294967296) : ∀ (ord : List Int) (s : Int × Net), (∀ x ∈ s.2.insts, x.pins.length ≤ 4294967296) → ∀ x ∈ (ord.foldl (insStep n) s).2.insts, x.pins.length ≤ 4294967296 := by
  intro ord
  induction ord with
  | nil => intro s h; exact h
  | cons i is ih =>
    intro s h
    rw [List.foldl_cons]
    refine ih _ (fun x hx => ?_)
    have hx : x ∈ s.2.insts ++ [insInst n s i] := hx
    rcases List.mem_append.1 hx with hx | hx
    · exact h x hx
    · simp only [List.mem_cons, List.not_mem_nil, or_false] at hx
      subst hx
      show ((pick3 n).2.map _).length ≤ _
      rw [List.length_map]; exact hpl

theorem zeroB : NetB zeroN := ⟨by decide, fun c hc => (nomatch hc), by decide, by decide, fun c hc => (nomatch hc), by decide⟩

theorem insR_B {n : Net} {ord : List Int} (b : NetB n) : NetB (insR n ord) := by
  by_cases he : insE n ord = 0
  case neg => unfold insR; rw [if_neg he]; exact zeroB
  have hR : insR n ord = insN n ord := by unfold insR; rw [if_pos he]
  rw [hR]
  have hs : scanE n ord = 0 := by
    unfold insE at he
    by_cases h : scanE n ord = 0
    · exact h
    · rw [if_pos h] at he; exact absurd he h
  obtain ⟨hnet, hperm, hol⟩ := scanE_zero hs
  have s := ShapeOK.of (netE_zero.1 hnet).1
  have hfl := s.fl
  have hil := s.il
  have hou := s.ol
  have hl : matchGo 202 3 0 n.cells ≠ [] := fun x => by
    unfold insE at he
    rw [if_neg (by simpa using hs), if_pos (.inr x)] at he; cases he
  have hpk := pick3_ok hl
  obtain ⟨q1, q2, q3, q4, q5⟩ := insGo_keep n ord (n.inputs + 1, insBase n)
  refine ⟨?_, ?_, ?_, ?_, ?_, ?_⟩
  · show (insGo n ord).2.cells.length ≤ _
    have : (insGo n ord).2.cells = n.cells := q4
    rw [this]; exact b.c
  · intro c hc
    have hc : c ∈ (insGo n ord).2.cells := hc
    have : (insGo n ord).2.cells = n.cells := q4
    rw [this] at hc; exact b.d c hc
  · show (insGo n ord).2.flops.length ≤ _
    have : (insGo n ord).2.flops.length = n.flops.length := q1
    omega
  · show (insGo n ord).2.insts.length ≤ _
    have : (insGo n ord).2.insts.length = (n.insts.map (instS n)).length + ord.length := q2
    rw [List.length_map] at this
    omega
  · refine insGo_pins (by omega) ord (n.inputs + 1, insBase n) (fun x hx => ?_)
    obtain ⟨y, hy, rfl⟩ := List.mem_map.1 hx
    show (y.pins.map _).length ≤ _
    rw [List.length_map]; exact b.p y hy
  · show ((insGo n ord).2.outs ++ [(insGo n ord).1]).length ≤ _
    have : (insGo n ord).2.outs = n.outs.map (shiftE n) := q5
    rw [this, List.length_append, List.length_map]
    simp only [List.length_cons, List.length_nil]
    omega

end Go.Ab.S1
