/- The scanned netlist can be put in order; its area and its start: plainly. netlablaw31.ScanArea on the abstract heap. A law of a netlist and a slice of ints: from the abstract heap to the world. The examples of the chapter hold: netlablaw31.awake returns true, evaluated. -/
import Derived.Test.YtnejoceplinjpaaB12
import Derived.Test.YtnejoceplinjpaaProg
import Derived.KernelRfl
set_option linter.unusedSimpArgs false
set_option linter.unusedVariables false
namespace Go.Ab.S1
open Go.Proofs

section
variable {n : Net} {ord : List Int}

theorem insN_pinsOld (o : InsOK n ord) {i : Nat} (hi : i < n.insts.length) : pinsOf (insN n ord) i = (pinsOf n i).map (shiftE n) := by
  unfold pinsOf
  rw [insN_split o, List.getD_eq_getElem?_getD, List.getElem?_append_left (by simpa using hi), List.getElem?_map, List.getD_eq_getElem?_getD, List.getElem?_eq_getElem hi]
  rfl

theorem insN_full (o : InsOK n ord) : Full (insN n ord) := by
  have s := ShapeOK.of (netE_zero.1 o.net).1
  obtain ⟨O, t, hO⟩ := (netE_zero.1 o.net).2
  have k := o.k
  have hf := insN_first o
  have hl := insN_len o
  have hall : ∀ i : Nat, i < n.insts.length → (i : Int) ∈ O := fun i hi => nodup_all t.nodup t.range hO hi
  refine ⟨O ++ (List.range n.flops.length).map (fun (j : Nat) => ((n.insts.length + j : Nat) : Int)), ⟨?_, fun x hx => ?_, fun j x hj p hp hF => ?_⟩, by simp [hO, hl]⟩
  · rw [List.nodup_append]
    refine ⟨t.nodup, ?_, fun a ha b hb => ?_⟩
    · exact List.Pairwise.map _ (fun a b hab e => hab (by omega)) (List.nodup_range (n := n.flops.length))
    · obtain ⟨j, _, rfl⟩ := List.mem_map.1 hb
      have := t.range a ha
      omega
  · rw [hl]
    rcases List.mem_append.1 hx with hx | hx
    · have := t.range x hx; omega
    · obtain ⟨j, hj, rfl⟩ := List.mem_map.1 hx
      have := List.mem_range.1 hj
      omega
  · by_cases hjO : j < O.length
    · rw [List.getElem?_append_left hjO] at hj
      rw [List.take_append_of_le_length (by omega)]
      have hxr := t.range x (List.mem_of_getElem? hj)
      rw [insN_pinsOld o (by omega)] at hp
      obtain ⟨q, hq, rfl⟩ := List.mem_map.1 hp
      have hqr := s.pinOf (by omega) hq
      have h2 := shiftE_first s hqr
      rw [hf] at hF ⊢
      have hqF := h2.1.1 hF
      have := t.before j x hj q hq hqF
      rw [h2.2 hqF, show q + 2 - (firstE n + 2) = q - firstE n by omega]; exact this
    · rw [List.getElem?_append_right (by omega)] at hj
      rw [List.take_append, List.take_of_length_le (by omega)]
      apply List.mem_append_left
      rw [List.getElem?_map, Option.map_eq_some_iff] at hj
      obtain ⟨y, hy, rfl⟩ := hj
      have hyr : y < n.flops.length := by
        have := List.mem_range.1 (List.mem_of_getElem? hy); exact this
      have hxm : (insN n ord).insts.getD (n.insts.length + y) default ∈ (insN n ord).insts.drop n.insts.length := by
        have hlt : n.insts.length + y < (insN n ord).insts.length := by omega
        refine List.mem_of_getElem? (i := y) ?_
        rw [List.getElem?_drop, List.getD_eq_getElem?_getD, List.getElem?_eq_getElem hlt]; rfl
      obtain ⟨_, _, h3⟩ := k.new _ hxm
      have hpr := h3 p (by rw [Int.toNat_natCast] at hp; exact hp)
      rw [hf] at hF ⊢
      have hF2 : firstE n = n.inputs + n.flops.length := rfl
      have := hall (p - (firstE n + 2)).toNat (by omega)
      rw [Int.toNat_of_nonneg (by omega)] at this
      exact this

theorem insN_net (o : InsOK n ord) : netE (insN n ord) = 0 := netE_zero.2 ⟨insN_shape o, insN_full o⟩

theorem insN_ok (ok : NetOK n) (o : InsOK n ord) : NetOK (insN n ord) := by
  have s := ShapeOK.of (insN_shape o)
  have hc : (insN n ord).cells = n.cells := o.k.cells
  refine ⟨fun c hm => ok.cell c (by rw [← hc]; exact hm), fun x hx => ?_, ?_, ?_, ?_⟩
  · have := s.pins4 hx; omega
  · have := s.fl; omega
  · have := s.il; omega
  · have := s.ol; omega

/-! ### The start -/

theorem insN_start (o : InsOK n ord) : startE (insN n ord) = startE n := by
  unfold startE
  rw [if_pos (insN_net o), if_pos o.net]
  have h1 : (insN n ord).flops.map (fun f => decide (f.init = 1)) = ((insN n ord).flops.map (·.init)).map (fun i => decide (i = 1)) := by rw [List.map_map]; rfl
  have h2 : n.flops.map (fun f => decide (f.init = 1)) = (n.flops.map (·.init)).map (fun i => decide (i = 1)) := by rw [List.map_map]; rfl
  rw [h1, h2]
  exact congrArg _ o.k.init

/-! ### The area -/

def cellArea (n : Net) (x : Inst) : Int := (n.cells.getD x.cell.toNat default).area

theorem checkE_area {c : Cell} (h : checkE c = 0) : 1 ≤ c.area ∧ c.area ≤ 1000000 := by
  unfold checkE at h
  split at h
  · cases h
  · split at h
    · cases h
    · rename_i h2
      simp only [Bool.or_eq_true, decide_eq_true_eq, not_or] at h2
      omega

theorem area_of {n : Net} (s : ShapeOK n) {x : Inst} (hx : x ∈ n.insts) : 1 ≤ cellArea n x ∧ cellArea n x ≤ 1000000 := by
  obtain ⟨c0, c1, _⟩ := s.cell x hx
  exact checkE_area (cellsE_zero s.cells _ (getD_mem (by omega) default))

theorem area_sum (n : Net) : ∀ (l : List Inst) (t : Int), (∀ x ∈ l, 0 ≤ cellArea n x ∧ cellArea n x ≤ 1000000) → 0 ≤ t → t + l.length * 1000000 < 9223372036854775808 → l.foldl (areaStep n) t = t + (l.map (cellArea n)).sum ∧ 0 ≤ (l.map (cellArea n)).sum ∧ (l.map (cellArea n)).sum ≤ l.length * 1000000 := by
  intro l
  induction l with
  | nil => intro t _ _ _; simp
  | cons x xs ih =>
    intro t h h0 h1
    have hx := h x (List.mem_cons_self ..)
    simp only [List.length_cons] at h1
    have hst : areaStep n t x = t + cellArea n x := wrapI (by show -9223372036854775808 ≤ t + cellArea n x; omega) (by show t + cellArea n x < 9223372036854775808; omega)
    obtain ⟨a, b, c⟩ := ih (t + cellArea n x) (fun y hy => h y (List.mem_cons_of_mem _ hy)) (by omega) (by omega)
    rw [List.foldl_cons, hst, a, List.map_cons, List.sum_cons, List.length_cons]
    refine ⟨by omega, by omega, by omega⟩

theorem areaE_sum {n : Net} (s : ShapeOK n) : areaE n = (n.insts.map (cellArea n)).sum ∧ 0 ≤ areaE n ∧ areaE n ≤ n.insts.length * 1000000 := by
  have h := s.il
  obtain ⟨a, b, c⟩ := area_sum n n.insts 0 (fun x hx => by have := area_of s hx; omega) (Int.le_refl _) (by omega)
  have : areaE n = (n.insts.map (cellArea n)).sum := by unfold areaE; rw [a]; omega
  rw [this]
  exact ⟨rfl, b, c⟩

theorem sum_const {α : Type} {f : α → Int} {A : Int} : ∀ {l : List α}, (∀ x ∈ l, f x = A) → (l.map f).sum = l.length * A := by
  intro l
  induction l with
  | nil => intro _; simp
  | cons x xs ih =>
    intro h
    rw [List.map_cons, List.sum_cons, ih (fun y hy => h y (List.mem_cons_of_mem _ hy)), h x (List.mem_cons_self ..), List.length_cons, Int.natCast_add, Int.add_mul]
    omega

def muxArea (n : Net) : Int := (n.cells.getD (pick3 n).1.toNat default).area

theorem insN_area (o : InsOK n ord) : areaE (insN n ord) = areaE n + n.flops.length * muxArea n := by
  have s := ShapeOK.of (netE_zero.1 o.net).1
  have sm := ShapeOK.of (insN_shape o)
  have hc : (insN n ord).cells = n.cells := o.k.cells
  rw [(areaE_sum sm).1, (areaE_sum s).1, insN_split o, List.map_append, List.sum_append, List.map_map]
  have h1 : (cellArea (insN n ord) ∘ instS n) = cellArea n := by
    funext x
    show ((insN n ord).cells.getD x.cell.toNat default).area = _
    rw [hc]; rfl
  rw [h1, sum_const (f := cellArea (insN n ord)) (A := muxArea n) (fun x hx => by
    unfold cellArea muxArea
    rw [hc, (o.k.new x hx).1]), List.length_drop, insN_len o]
  congr 3; omega

theorem muxArea_range (o : InsOK n ord) : 1 ≤ muxArea n ∧ muxArea n ≤ 1000000 := by
  have s := ShapeOK.of (netE_zero.1 o.net).1
  have hp := pick3_ok o.found
  exact checkE_area (cellsE_zero s.cells _ (getD_mem (by omega) default))

theorem insN_mux (o : InsOK n ord) (hf : n.flops.length ≠ 0) : ((insN n ord).insts.getD n.insts.length default).cell = (pick3 n).1 := by
  have hlt : n.insts.length < (insN n ord).insts.length := by rw [insN_len o]; omega
  refine (o.k.new _ (List.mem_of_getElem? (i := 0) ?_)).1
  show ((insN n ord).insts.drop n.insts.length)[0]? = _
  rw [List.getElem?_drop, List.getD_eq_getElem?_getD, Nat.add_zero, List.getElem?_eq_getElem hlt]; rfl
end

end Go.Ab.S1

namespace Go.Ab.S1
open Go.Proofs
set_option linter.unusedSimpArgs false
set_option linter.unusedVariables false
set_option maxRecDepth 100000
set_option maxHeartbeats 4000000
attribute [local push_cast] wpA_skip wpA_ret wpA_exit wpA_seq wpA_block wpA_cond2 andK_true wpA_region wpA_draw wpA_loop thenQ_normal thenQ_ret thenQ_exit blockQ_normal blockQ_ret blockQ_exit condV_true condV_false opsM_nil opsM_cons2 okM_true wantM_true wantM_false stepM seqM_cons2 seqM_nil2 okS_true wantS_true wantS_false stepS skipS okB Keeps_nil contK_app List.zip_cons_cons List.zip_nil_left List.zip_nil_right Op.operands Call.operands Array.toList_append List.append_nil List.nil_append List.all_cons List.all_nil cOK plain put_n put_tm put_none put_df ev_tmp ev_const ev_func wanted_none wanted_some callR_func dop ex_some1 aBuiltin aBin intBin aUn Option.map_some Bool.and_true Bool.true_and Bool.and_self List.map_cons List.map_nil List.toList_toArray List.getElem?_toArray List.getElem?_cons_zero List.getElem?_cons_succ Option.getD_some Option.getD_none Bool.false_eq_true eq_self_iff_true decide_true decide_false List.cons_append aExtract resL resV List.getD_cons_zero List.getD_cons_succ List.getD_nil Nat.succ_ne_self g1 g2 yieldedA2 isB_bool isB_undef g3 Option.bind_some Option.bind_none bne_self_eq_false beq_self_eq_true Bool.not_true Bool.not_false Int.toNat_natCast List.length_map List.mem_cons List.not_mem_nil or_false not_false_eq_true decide_not Bool.not_not bodyR_ret2 bodyR_normal2 closeMarks_nil ex_some0 Nat.zero_add Nat.add_zero ieq ine List.map_toArray Option.toArray_none Option.toArray_some oev Keeps_cons Still_eq selL wpX_skip wpX_ret wpX_exit wpX_seq wpX_block wpX_cond wpX_region wpX_draw wpX_loop List.take_succ_cons List.take_zero List.drop_succ_cons List.drop_zero Int.zero_add Int.add_zero aNil

theorem scanArea (aw : ∀ h, ACall Try.prog 7 [] h (fun v h' => v = .bool true ∧ h' = h)) {h : AH} {n : Net} {cv fv iv ov v : Value} {ord : List Int} (r : NetR h n cv fv iv ov) (ok : NetOK n) (hc : n.cells.length ≤ 4611686018427387904) (hv : SlOf h v (ord.map (.int .i64))) (hb : ord.length ≤ 17592186043904) :
    ACall Try.prog 5 [.agg (netC n cv fv iv ov).toArray, v] h (fun r _ => r = .bool true) := by
  refine ACall.wf ⟨_, Try.func5, rfl, by kernel_rfl⟩ fun hwf => ?_
  refine ACall.of_wp 109 [.tmp 4] Try.func5 rfl (by kernel_rfl) rfl rfl fun a hn hd ha => ?_
  have hbox := boxA 34 h _ r.one
  have hN := NetAt.new (h := h) (n := n) (cv := cv) (fv := fv) (iv := iv) (ov := ov)
  have g1 : Gr h (h.new (.row (netC n cv fv iv ov) 34 true)) := (Gr.refl hwf).new _
  simp (disch := first | omega | decide | (simp only [List.length_cons, List.length_nil] <;> omega)) only [push_cast, ↓reduceIte, Nat.reduceLT, Nat.reduceEqDiff, reduceCtorEq, Nat.reduceAdd, if_true, if_false, true_and, and_true, hn, hd, ha, hbox, hN.l0, hN.l1, hN.l2, hN.l3, hN.l4, hN.la]
  generalize h.new (.row (netC n cv fv iv ov) 34 true) = h1 at hN g1 ⊢
  generalize h.next = B0 at hN ⊢
  have r1 := r.sub g1.sub
  have hv1 := hv.sub g1.sub
  refine ACall.mono ?_ (long29 r1 ok hc)
  rintro _ h2 ⟨⟨b, rfl⟩, g2⟩
  have hN2 := hN.sub g2.sub
  have r2 := r1.sub g2.sub
  have hv2 := hv1.sub g2.sub
  cases b with
  | true =>
    simp (disch := first | omega | decide | (simp only [List.length_cons, List.length_nil] <;> omega)) only [push_cast, ↓reduceIte, Nat.reduceLT, Nat.reduceEqDiff, reduceCtorEq, Nat.reduceAdd, if_true, if_false, true_and, and_true, hn, hd, ha]
    refine ACall.mono ?_ (aw _)
    rintro _ _ ⟨rfl, _⟩
    simp (disch := first | omega | decide | (simp only [List.length_cons, List.length_nil] <;> omega)) only [push_cast, ↓reduceIte, Nat.reduceLT, Nat.reduceEqDiff, reduceCtorEq, Nat.reduceAdd, if_true, if_false, true_and, and_true, hn, hd, ha]
  | false =>
  simp (disch := first | omega | decide | (simp only [List.length_cons, List.length_nil] <;> omega)) only [push_cast, ↓reduceIte, Nat.reduceLT, Nat.reduceEqDiff, reduceCtorEq, Nat.reduceAdd, if_true, if_false, true_and, and_true, hn, hd, ha, hN2.l0, hN2.l1, hN2.l2, hN2.l3, hN2.l4, hN2.la]
  refine ACall.mono ?_ (check29 r2 ok)
  rintro _ h2 ⟨rfl, rfl⟩
  by_cases e : netE n = 0
  case neg =>
    simp (disch := first | omega | decide | (simp only [List.length_cons, List.length_nil] <;> omega)) only [push_cast, ↓reduceIte, Nat.reduceLT, Nat.reduceEqDiff, reduceCtorEq, Nat.reduceAdd, if_true, if_false, true_and, and_true, hn, hd, ha, e]
    refine ACall.mono ?_ (aw _)
    rintro _ _ ⟨rfl, _⟩
    simp (disch := first | omega | decide | (simp only [List.length_cons, List.length_nil] <;> omega)) only [push_cast, ↓reduceIte, Nat.reduceLT, Nat.reduceEqDiff, reduceCtorEq, Nat.reduceAdd, if_true, if_false, true_and, and_true, hn, hd, ha]
  simp (disch := first | omega | decide | (simp only [List.length_cons, List.length_nil] <;> omega)) only [push_cast, ↓reduceIte, Nat.reduceLT, Nat.reduceEqDiff, reduceCtorEq, Nat.reduceAdd, if_true, if_false, true_and, and_true, hn, hd, ha, e]
  refine ACall.mono ?_ (aw _)
  rintro _ h2 ⟨rfl, rfl⟩
  simp (disch := first | omega | decide | (simp only [List.length_cons, List.length_nil] <;> omega)) only [push_cast, ↓reduceIte, Nat.reduceLT, Nat.reduceEqDiff, reduceCtorEq, Nat.reduceAdd, if_true, if_false, true_and, and_true, hn, hd, ha, hN2.l0, hN2.l1, hN2.l2, hN2.l3, hN2.l4, hN2.la]
  refine ACall.mono ?_ (insertN r2 ok hv2 hb)
  rintro _ h3 ⟨g3, cm, fm, im, om, rfl, r3⟩
  have hstm := fun (hh : AH) cs e hl => stN agN hh cs e (netC (insR n ord) cm fm im om) hl rfl r3.one
  have hM := NetAt.new (h := h3) (n := insR n ord) (cv := cm) (fv := fm) (iv := im) (ov := om)
  have g4 : Gr h3 (h3.new (.row (netC (insR n ord) cm fm im om) 34 true)) := (Gr.refl g3.wf).new _
  simp (disch := first | omega | decide | (simp only [List.length_cons, List.length_nil] <;> omega)) only [push_cast, ↓reduceIte, Nat.reduceLT, Nat.reduceEqDiff, reduceCtorEq, Nat.reduceAdd, if_true, if_false, true_and, and_true, hn, hd, ha, alL zrN, hstm]
  generalize h3.new (.row (netC (insR n ord) cm fm im om) 34 true) = h4 at hM g4 ⊢
  generalize h3.next = BM at hM ⊢
  have rm := r3.sub g4.sub
  have rn := (r2.sub g3.sub).sub g4.sub
  have hN4 := (hN2.sub g3.sub).sub g4.sub
  by_cases e2 : insE n ord = 0
  case neg => simp (disch := first | omega | decide | (simp only [List.length_cons, List.length_nil] <;> omega)) only [push_cast, ↓reduceIte, Nat.reduceLT, Nat.reduceEqDiff, reduceCtorEq, Nat.reduceAdd, if_true, if_false, true_and, and_true, hn, hd, ha, e2]
  have o := InsOK.of e2
  have hR : insR n ord = insN n ord := by unfold insR; rw [if_pos e2]
  rw [hR] at rm hM
  have okm := insN_ok ok o
  have em := insN_net o
  have hst := insN_start o
  have har := insN_area o
  have hmr := muxArea_range o
  have hil := insN_len o
  have s := ShapeOK.of (netE_zero.1 e).1
  have hfl := s.fl
  have hil0 := s.il
  have has := (areaE_sum s).2
  have hwl : IntKind.i64.wrap ((n.insts.length : Int) + n.flops.length) = n.insts.length + n.flops.length := wrapI (by omega) (by omega)
  have hilI : ((insN n ord).insts.length : Int) = n.insts.length + n.flops.length := by rw [hil]; omega
  simp (disch := first | omega | decide | (simp only [List.length_cons, List.length_nil] <;> omega)) only [push_cast, ↓reduceIte, Nat.reduceLT, Nat.reduceEqDiff, reduceCtorEq, Nat.reduceAdd, if_true, if_false, true_and, and_true, hn, hd, ha, e2, hN4.l0, hN4.l1, hN4.l2, hN4.l3, hN4.l4, hN4.la]
  refine ACall.mono ?_ (areaN rn ok)
  rintro _ h4 ⟨rfl, rfl⟩
  simp (disch := first | omega | decide | (simp only [List.length_cons, List.length_nil] <;> omega)) only [push_cast, ↓reduceIte, Nat.reduceLT, Nat.reduceEqDiff, reduceCtorEq, Nat.reduceAdd, if_true, if_false, true_and, and_true, hn, hd, ha, e, hM.l0, hM.l1, hM.l2, hM.l3, hM.l4, hM.la]
  refine ACall.mono ?_ (areaN rm okm)
  rintro _ h4 ⟨rfl, rfl⟩
  simp (disch := first | omega | decide | (simp only [List.length_cons, List.length_nil] <;> omega)) only [push_cast, ↓reduceIte, Nat.reduceLT, Nat.reduceEqDiff, reduceCtorEq, Nat.reduceAdd, if_true, if_false, true_and, and_true, hn, hd, ha, e, em]
  refine AW.drawP (.take 0 [26, 25, 24, 23, 22, 21, 20, 19, 18, 17, 16, 15, 14, 13, 12, 11, 10, 9, 8, 7, 6, 5, 4, 3, 2, 1] (.take 1 [26, 25, 24, 23, 22, 21, 20, 19, 18, 17, 16, 15, 14, 13, 12, 11, 10, 9, 8, 7, 6, 5, 4, 3, 2] (.take 2 [26, 25, 24, 23, 22, 21, 20, 19, 18, 17, 16, 15, 14, 13, 12, 11, 10, 9, 8, 7, 6, 5, 4, 3] (.take 3 [26, 25, 24, 23, 22, 21, 20, 19, 18, 17, 16, 15, 14, 13, 12, 11, 10, 9, 8, 7, 6, 5, 4] (.take 4 [26, 25, 24, 23, 22, 21, 20, 19, 18, 17, 16, 15, 14, 13, 12, 11, 10, 9, 8, 7, 6, 5] (.take 5 [26, 25, 24, 23, 22, 21, 20, 19, 18, 17, 16, 15, 14, 13, 12, 11, 10, 9, 8, 7, 6] (.take 6 [26, 25, 24, 23, 22, 21, 20, 19, 18, 17, 16, 15, 14, 13, 12, 11, 10, 9, 8, 7] (.take 7 [26, 25, 24, 23, 22, 21, 20, 19, 18, 17, 9, 8] (.take 8 [26, 25, 24, 23, 22, 21, 20, 19, 18, 17, 9] (.take 9 [26, 25, 24, 23, 22, 21, 20, 19, 18, 17] (.take 10 [26, 25, 24, 23, 22, 21, 20, 19, 18, 17, 16, 12, 11] (.take 11 [26, 25, 24, 23, 22, 21, 20, 19, 18, 17, 16, 12] (.take 12 [26, 25, 24, 23, 22, 21, 20, 19, 18, 17, 16] (.take 13 [26, 25, 24, 23, 22, 21, 20, 19, 18, 17, 16, 15, 14] (.take 14 [26, 25, 24, 23, 22, 21, 20, 19, 18, 17, 16, 15] (.take 15 [26, 25, 24, 23, 22, 21, 20, 19, 18, 17, 16] (.take 16 [26, 25, 24, 23, 22, 21, 20, 19, 18, 17] (.take 17 [26, 25, 24, 23, 22, 21, 20, 19, 18] (.take 18 [26, 25, 24, 23, 22, 21, 20, 19] (.take 19 [26, 25, 24, 23, 22, 21, 20] (.take 20 [26, 25, 24, 23, 21] (.watch 22 [26, 25, 24, 23] (.only 21 (.only 23 (.only 24 (.take 25 [26] (.take 26 [] .done))))))))))))))))))))))))))) [(0, 0), (0, 1), (0, 2), (0, 3), (0, 4), (0, 5), (0, 6), (0, 7), (0, 8), (0, 9), (0, 10), (0, 11), (0, 12), (0, 13), (0, 14), (0, 15), (0, 16), (0, 17), (0, 18), (0, 19), (0, 20), (1, 22), (2, 21), (2, 23), (2, 24), (0, 25), (0, 26)] mixed (by kernel_rfl) (by kernel_rfl) ?_
  simp (disch := first | omega | decide | (simp only [List.length_cons, List.length_nil] <;> omega)) only [push_cast, ↓reduceIte, Nat.reduceLT, Nat.reduceEqDiff, reduceCtorEq, Nat.reduceAdd, if_true, if_false, true_and, and_true, hn, hd, ha, faL foN0, faL foN1, faL foN2, faL foN3, faL foN4, hM.l0, hM.l1, hM.l2, hM.l3, hM.l4, hM.la, hN4.l0, hN4.l1, hN4.l2, hN4.l3, hN4.l4, hN4.la, rm.i.len Try.underlying32, rn.i.len Try.underlying32, rn.f.len Try.underlying31, hwl, hilI]
  refine ACall.mono ?_ (startN rm okm)
  rintro va h5 ⟨g5, hva⟩
  have hN5 := hN4.sub g5.sub
  have hsl : (startE n).length ≤ 64 := by
    unfold startE; rw [if_pos e, List.length_map]; exact hfl
  simp (disch := first | omega | decide | (simp only [List.length_cons, List.length_nil] <;> omega)) only [push_cast, ↓reduceIte, Nat.reduceLT, Nat.reduceEqDiff, reduceCtorEq, Nat.reduceAdd, if_true, if_false, true_and, and_true, hn, hd, ha, faL foN0, faL foN1, faL foN2, faL foN3, faL foN4, hN5.l0, hN5.l1, hN5.l2, hN5.l3, hN5.l4, hN5.la]
  refine ACall.mono ?_ (startN (rn.sub g5.sub) ok)
  rintro vb h6 ⟨g6, hvb⟩
  have hN6 := hN5.sub g6.sub
  rw [hst] at hva
  simp (disch := first | omega | decide | (simp only [List.length_cons, List.length_nil] <;> omega)) only [push_cast, ↓reduceIte, Nat.reduceLT, Nat.reduceEqDiff, reduceCtorEq, Nat.reduceAdd, if_true, if_false, true_and, and_true, hn, hd, ha, faL foN0, faL foN1, faL foN2, faL foN3, faL foN4, hN6.l0, hN6.l1, hN6.l2, hN6.l3, hN6.l4, hN6.la]
  refine ACall.mono ?_ (eqBools (hva.sub g6.sub) hvb (by omega))
  rintro _ h6 ⟨rfl, rfl⟩
  have rn6 := (rn.sub g5.sub).sub g6.sub
  have rm6 := (rm.sub g5.sub).sub g6.sub
  have hM6 := (hM.sub g5.sub).sub g6.sub
  by_cases hz : n.flops.length = 0
  · rw [hz] at har
    have har' : areaE n = areaE (insN n ord) := by rw [har]; simp
    simp (disch := first | omega | decide | (simp only [List.length_cons, List.length_nil] <;> omega)) only [push_cast, ↓reduceIte, Nat.reduceLT, Nat.reduceEqDiff, reduceCtorEq, Nat.reduceAdd, if_true, if_false, true_and, and_true, hn, hd, ha, faL foN0, faL foN1, faL foN2, faL foN3, faL foN4, hN6.l0, hN6.l1, hN6.l2, hN6.l3, hN6.l4, hN6.la, rn6.f.len Try.underlying31, hz, har', Int.natCast_zero, Int.ofNat_zero]
  · have hz' : ¬ ((n.flops.length : Int) = 0) := by omega
    have hp := pick3_ok o.found
    have hidx := rm6.i.idx (P := Try.prog) Try.underlying32 infI .i64 n.insts.length (by omega) (by omega)
    rw [Int.toNat_natCast] at hidx
    obtain ⟨cs, ⟨pv, rfl, hpv⟩, -, hcf, hca⟩ := rm6.i.get (P := Try.prog) (i := n.insts.length) (by omega) default
    have hcf0 := hcf 0 _ fl3 (by decide)
    have hca0 := hca _ _ _ foI0
    rw [insN_mux o hz] at hcf0
    have hcf0' : aLoad Try.prog 3 (slF instL.sz im n.insts.length 0) h6 = some (.int .i64 (pick3 n).1) := hcf0
    have hidxc := rn6.c.idx (P := Try.prog) Try.underlying30 infC .i64 (pick3 n).1 (by omega) (by omega)
    obtain ⟨cc, ⟨dv, rfl, hdv⟩, -, hccf, hcca⟩ := rn6.c.get (P := Try.prog) (i := (pick3 n).1.toNat) (by omega) default
    have hcc3 : aLoad Try.prog 2 (slF cellL.sz cv (pick3 n).1.toNat 3) h6 = some (.int .i64 (muxArea n)) := hccf 3 _ fl2 (by decide)
    have hcca3 := hcca _ _ _ foC3
    have h0 := hp.1
    have h1 := hp.2.1
    have hmul1 : (n.flops.length : Int) * muxArea n ≤ 64 * 1000000 := Int.mul_le_mul (by omega) hmr.2 (by omega) (by omega)
    have hmul0 : 0 ≤ (n.flops.length : Int) * muxArea n := Int.mul_nonneg (by omega) (by omega)
    have hw1 : IntKind.i64.wrap ((n.flops.length : Int) * muxArea n) = n.flops.length * muxArea n := wrapI (by omega) (by omega)
    have hw2 : IntKind.i64.wrap (areaE n + n.flops.length * muxArea n) = areaE n + n.flops.length * muxArea n := wrapI (by omega) (by omega)
    simp (disch := first | omega | decide | (simp only [List.length_cons, List.length_nil] <;> omega)) only [push_cast, ↓reduceIte, Nat.reduceLT, Nat.reduceEqDiff, reduceCtorEq, Nat.reduceAdd, if_true, if_false, true_and, and_true, hn, hd, ha, faL foN0, faL foN1, faL foN2, faL foN3, faL foN4, hN6.l0, hN6.l1, hN6.l2, hN6.l3, hN6.l4, hN6.la, hM6.l0, hM6.l1, hM6.l2, hM6.l3, hM6.l4, hM6.la, rn6.f.len Try.underlying31, rn6.i.len Try.underlying32, hz', hidx, hca0, hcf0']
    refine AW.drawT (.take 0 [25, 24, 23, 22, 21, 20, 19, 18, 17, 16, 15, 14, 13, 12, 11, 10, 9, 8, 7, 6, 5, 4, 3, 2, 1] (.take 1 [25, 24, 23, 22, 21, 20, 19, 18, 17, 16, 15, 14, 13, 12, 11, 10, 9, 8, 7, 6, 5, 4, 3, 2] (.take 2 [25, 24, 23, 22, 21, 20, 19, 18, 17, 16, 15, 14, 13, 12, 11, 10, 9, 8, 7, 6, 5, 4, 3] (.take 3 [25, 24, 23, 22, 21, 20, 19, 18, 17, 16, 15, 14, 13, 12, 11, 10, 9, 8, 7] (.take 4 [25, 24, 23, 22, 21, 20, 19, 18, 17, 16, 15, 14, 13, 12, 11, 10, 9, 8, 7, 6, 5] (.take 5 [25, 24, 23, 22, 21, 20, 19, 18, 17, 16, 15, 14, 13, 12, 11, 10, 9, 8, 7, 6] (.take 6 [25, 24, 23, 22, 21, 20, 19, 18, 17, 16, 15, 14, 13, 12, 11, 10, 9, 8, 7] (.take 7 [25, 24, 23, 22, 21, 20, 19, 18, 17, 16, 15, 14, 13, 12, 11, 10, 9, 8] (.take 8 [25, 24, 23, 22, 21, 20, 19, 18, 17, 16, 15, 14, 13, 12, 11, 10, 9] (.take 9 [25, 24, 23, 22, 21, 20, 19, 18, 17, 16, 15, 14, 13, 12, 11, 10] (.take 10 [25, 24, 23] (.take 11 [25, 24, 23, 22] (.take 12 [25, 24, 23, 22, 21, 14, 13] (.take 13 [25, 24, 23, 22, 21, 14] (.take 14 [25, 24, 23, 22, 21] (.take 15 [25, 24, 23, 22, 21, 20, 19, 18, 16] (.take 16 [25, 24, 23, 22, 21, 20, 19, 18] (.take 17 [25, 24, 23, 22, 21, 20, 19, 18] (.take 18 [25, 24, 23, 22, 21, 20, 19] (.take 19 [25, 24, 23, 22, 21, 20] (.take 20 [25, 24, 23, 22, 21] (.take 21 [25, 24, 23, 22] (.take 22 [25, 24, 23] (.take 23 [25, 24] (.take 24 [25] (.take 25 [] .done)))))))))))))))))))))))))) [0, 0, 0, 0, 0, 0, 0, 0, 0, 0, 0, 0, 0, 0, 0, 0, 0, 0, 0, 0, 0, 0, 0, 0, 0, 0] mixed (by kernel_rfl) (by kernel_rfl) ?_
    simp (disch := first | omega | decide | (simp only [List.length_cons, List.length_nil] <;> omega)) only [push_cast, ↓reduceIte, Nat.reduceLT, Nat.reduceEqDiff, reduceCtorEq, Nat.reduceAdd, if_true, if_false, true_and, and_true, decide_eq_true, decide_eq_false, hn, hd, ha, ge_iff_le, h0, h1, faL foN0, faL foN1, faL foN2, faL foN3, faL foN4, hN6.l0, hN6.l1, hN6.l2, hN6.l3, hN6.l4, hN6.la, rn6.c.len Try.underlying30, rn6.f.len Try.underlying31, hidxc, hcca3, hcc3, hw1, hw2, har]

end Go.Ab.S1

namespace Go.Ab.S1
open Go.Proofs
open Go.ChangeShapes Go.WideShapes Go.ChangeAt Go.RowKit

/-- A netlist lies in a world. -/
def NetW (W : World) (v : Value) (n : Net) : Prop := ∀ ρ h, HR ρ h W → AllRO h → ∃ ρ' h' cv fv iv ov, GrA W ρ h ρ' h' ∧ VR ρ' (.agg (netC n cv fv iv ov).toArray) v ∧ NetR h' n cv fv iv ov
def IntsW (W : World) (v : Value) (zs : List Int) : Prop := ∀ ρ h, HR ρ h W → AllRO h → ∃ ρ' h' u, GrA W ρ h ρ' h' ∧ VR ρ' u v ∧ SlOf h' u (zs.map (.int .i64))

theorem lawNI {g : FuncId} {W : World} {v1 v2 : Value} {n : Net} {zs : List Int} (h1 : NetW W v1 n) (h2 : IntsW W v2 zs)
    (hc : ∀ h cv fv iv ov u, NetR h n cv fv iv ov → SlOf h u (zs.map (.int .i64)) → ACall Try.prog g [.agg (netC n cv fv iv ov).toArray, u] h (fun r _ => r = .bool true)) :
    Calls Try.prog g #[v1, v2] W fun e W' => e = .returned (.bool true) ∧ Below W.heap.size W W' := by
  obtain ⟨ρ1, k1, cv, fv, iv, ov, g1, vr1, s1⟩ := h1 _ _ (HR.empty W) (fun A o h => by cases h)
  obtain ⟨ρ2, k2, u2, g2, vr2, s2⟩ := h2 ρ1 k1 g1.hr g1.ro
  have hcall := (hc k2 cv fv iv ov u2 (s1.sub g2.sub) s2).2 ρ2 #[v1, v2] W ((LR.single vr2).cons (vr1.mono g2.le)) g2.hr
  refine hcall.mono ?_
  rintro e W' ⟨ρ', v, v', h', rfl, rfl, hv, _, hf⟩
  have : v' = .bool true := plain_only 9 _ _ rfl hv
  subst this
  refine ⟨rfl, hf.side.os, hf.side.tape, hf.side.output, hf.size, fun b hb => hf.rest b hb ?_⟩
  rintro ⟨A, o, r, ha, hown, _⟩
  rw [g2.ro A o ha] at hown; cases hown

theorem aggWide {P : Program} {r : Reach} {base : Nat} {W : World} {t : TypeId} {fs : Array Field} {v : Value} (ht : P.underlying t = some (.struct fs)) (h : Value.okWide P W r base t v) : ∃ cs, v = .agg cs := by
  unfold Value.okWide at h
  rw [ht] at h
  obtain ⟨cs, e, _⟩ := h
  exact ⟨cs, e⟩

theorem slWide {P : Program} {r : Reach} {base : Nat} {W : World} {t e : TypeId} {v : Value} (ht : P.underlying t = some (.slice e)) (h : Value.okWide P W r base t v) : v.cells.toList = [v] := by
  unfold Value.okWide at h
  rw [ht] at h
  simp only at h
  unfold Cell.okWide at h
  rw [ht] at h
  simp only [Cell.ok, ht] at h
  cases v <;> simp_all [Value.cells]

end Go.Ab.S1

namespace Go.Ab.S1
open Go.Proofs

def isTrueV : Value → EH → Bool
  | .bool true, _ => true
  | _, _ => false

def s1pures : List (FuncId × Value) := [(30, .int .i64 0)]

theorem awakeRuns : evCall Try.prog (evC ⟨Try.prog, s1plans, s1pures⟩ 100000) 7 [] { next := 0, hp := T.full 11 } isTrueV = true := by kernel_rfl

theorem mixedW : Try.prog.follows .mixedOrders = true := by kernel_rfl

theorem emptyDen : (EH.den { next := 0, hp := T.full 11 }) = emptyH := by
  simp only [EH.den, emptyH]; congr 1; funext i; exact full_get 11 i

theorem awake (h : AH) : ACall Try.prog 7 [] h (fun v h' => v = .bool true ∧ h' = h) := by
  refine ACall.closed rfl rfl ?_ h
  have := evCall_sound (evC_sound (E := ⟨Try.prog, s1plans, s1pures⟩) mixedW 100000) 7 [] _ isTrueV awakeRuns
  rw [emptyDen] at this
  refine ACall.mono ?_ this
  rintro v h' ⟨eh, rfl, hk⟩
  unfold isTrueV at hk
  split at hk
  · rfl
  · cases hk
end Go.Ab.S1
