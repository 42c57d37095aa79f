/- netlist.first, netlist.bad and netlist.shape on the abstract heap. The order of a netlist's instances, plainly: what the search keeps, and what it comes to. The set of ready instances: slices.BinarySearchFunc, slices.Insert, push and pop on the abstract heap. push and pop of the set of ready instances on the abstract heap. The steps of the search for an order, plainly. netlist.Order on the abstract heap: the state that its loops keep. netlist.Order and netlist.Check on the abstract heap. netlist.Check, netlist.Area, netlist.Start and scan.check on the abstract heap. table.Eval, table.permutation, table.permute and table.Permute on the abstract heap. slices.Clone of flops and of int64s, slices.Contains, scan.Insert's shift, the long-tests. slices.Clone of ints as a slice of one's own; scan.Insert's shift; slices.Contains; the long-tests. slices.Index and Contains for ints; the laws' Long. cell.orders: the orders of 0..n-1, by an iterator that calls itself. cell.orders: its closure. cell.Match: what its rounds keep. cell.Match. Blocks of one's own, and the part of the heap beside them. -/
import Derived.Test.YtnejoceplinjpaaB2
set_option linter.unusedSimpArgs false
set_option linter.unusedVariables false
namespace Go.Ab.S1
open Go.Proofs
set_option linter.unusedSimpArgs false
set_option linter.unusedVariables false
set_option maxRecDepth 100000
set_option maxHeartbeats 4000000
attribute [local push_cast] wpA_skip wpA_ret wpA_exit wpA_seq wpA_block wpA_cond2 andK_true wpA_region wpA_draw wpA_loop thenQ_normal thenQ_ret thenQ_exit blockQ_normal blockQ_ret blockQ_exit condV_true condV_false opsM_nil opsM_cons2 okM_true wantM_true wantM_false stepM seqM_cons2 seqM_nil2 okS_true wantS_true wantS_false stepS skipS okB Keeps_nil contK_app List.zip_cons_cons List.zip_nil_left List.zip_nil_right Op.operands Call.operands Array.toList_append List.append_nil List.nil_append List.all_cons List.all_nil cOK plain put_n put_tm put_none put_df ev_tmp ev_const ev_func wanted_none wanted_some callR_func dop ex_some1 aBuiltin aBin intBin aUn Option.map_some Bool.and_true Bool.true_and Bool.and_self List.map_cons List.map_nil List.toList_toArray List.getElem?_toArray List.getElem?_cons_zero List.getElem?_cons_succ Option.getD_some Option.getD_none Bool.false_eq_true eq_self_iff_true decide_true decide_false List.cons_append aExtract resL resV List.getD_cons_zero List.getD_cons_succ List.getD_nil Nat.succ_ne_self g1 g2 yieldedA2 isB_bool isB_undef g3 Option.bind_some Option.bind_none bne_self_eq_false beq_self_eq_true Bool.not_true Bool.not_false Int.toNat_natCast List.length_map List.mem_cons List.not_mem_nil or_false not_false_eq_true decide_not Bool.not_not bodyR_ret2 bodyR_normal2 closeMarks_nil ex_some0 Nat.zero_add Nat.add_zero ieq ine List.map_toArray Option.toArray_none Option.toArray_some oev Keeps_cons Still_eq selL wpX_skip wpX_ret wpX_exit wpX_seq wpX_block wpX_cond wpX_region wpX_draw wpX_loop List.take_succ_cons List.take_zero List.drop_succ_cons List.drop_zero Int.zero_add Int.add_zero aNil if_true if_false true_and and_true

/-- A netlist, as it is handed over. -/
structure NetR (h : AH) (n : Net) (cv fv iv ov : Value) : Prop where
  c : RowOf cellL h cv n.cells
  f : RowOf flopL h fv n.flops
  i : RowOf instL h iv n.insts
  o : SlOf h ov (n.outs.map (.int .i64))

theorem NetR.sub {h h' : AH} {n : Net} {cv fv iv ov : Value} (r : NetR h n cv fv iv ov) (s : Sub h h') : NetR h' n cv fv iv ov := ⟨r.c.sub s, r.f.sub s, r.i.sub s, r.o.sub s⟩
theorem NetR.view {h : AH} {n : Net} {cv fv iv ov : Value} (r : NetR h n cv fv iv ov) : NetR (AH.view h) n cv fv iv ov := ⟨r.c.view, r.f.view, r.i.view, r.o.view⟩

def netC (n : Net) (cv fv iv ov : Value) : List Value := [cv, .int .i64 n.inputs, fv, iv, ov]

theorem NetR.one {h : AH} {n : Net} {cv fv iv ov : Value} (r : NetR h n cv fv iv ov) : (netC n cv fv iv ov).all oneC = true := by
  simp only [netC, List.all_cons, List.all_nil, r.c.one, r.f.one, r.i.one, r.o.one]; rfl

theorem netC_len {n : Net} {cv fv iv ov : Value} : (netC n cv fv iv ov).length = 5 := rfl

/-- A netlist in a block. -/
def NetAt (h : AH) (B : Nat) (n : Net) (cv fv iv ov : Value) : Prop := ∃ o, h.get B = some o ∧ o.cells? = some (netC n cv fv iv ov)

section
variable {h h' : AH} {B : Nat} {n : Net} {cv fv iv ov : Value}
theorem NetAt.sub (r : NetAt h B n cv fv iv ov) (s : Sub h h') : NetAt h' B n cv fv iv ov := let ⟨o, x, y⟩ := r; ⟨o, s _ _ x, y⟩
theorem NetAt.view (r : NetAt h B n cv fv iv ov) : NetAt (AH.view h) B n cv fv iv ov := let ⟨_, x, y⟩ := r; viewCells x y
theorem NetAt.new : NetAt (h.new (.row (netC n cv fv iv ov) 34 true)) h.next n cv fv iv ov := ⟨_, by rw [AH.new_get, if_pos rfl], rfl⟩
theorem NetAt.l0 (r : NetAt h B n cv fv iv ov) : aLoad Try.prog 30 (.pointer (some ⟨B, 0, none⟩)) h = some cv := let ⟨_, x, y⟩ := r; ldL x y flC 0 (by rw [netC_len]; decide)
theorem NetAt.l1 (r : NetAt h B n cv fv iv ov) : aLoad Try.prog 3 (.pointer (some ⟨B, 1, none⟩)) h = some (.int .i64 n.inputs) := let ⟨_, x, y⟩ := r; ldL x y fl3 1 (by rw [netC_len]; decide)
theorem NetAt.l2 (r : NetAt h B n cv fv iv ov) : aLoad Try.prog 31 (.pointer (some ⟨B, 2, none⟩)) h = some fv := let ⟨_, x, y⟩ := r; ldL x y flF 2 (by rw [netC_len]; decide)
theorem NetAt.l3 (r : NetAt h B n cv fv iv ov) : aLoad Try.prog 32 (.pointer (some ⟨B, 3, none⟩)) h = some iv := let ⟨_, x, y⟩ := r; ldL x y flN 3 (by rw [netC_len]; decide)
theorem NetAt.l4 (r : NetAt h B n cv fv iv ov) : aLoad Try.prog 22 (.pointer (some ⟨B, 4, none⟩)) h = some ov := let ⟨_, x, y⟩ := r; ldL x y flI 4 (by rw [netC_len]; decide)
theorem NetAt.la (r : NetAt h B n cv fv iv ov) : aLoad Try.prog 34 (.pointer (some ⟨B, 0, none⟩)) h = some (.agg (netC n cv fv iv ov).toArray) := let ⟨_, x, y⟩ := r; ldLA x y agN netC_len
end

def firstE (n : Net) : Int := n.inputs + n.flops.length
def badB (n : Net) (x : Int) : Bool := decide (x < -2) || decide (x ≥ firstE n + n.insts.length)

/-- The sizes in which a netlist's numbers are reckoned. -/
structure Small (n : Net) : Prop where
  i0 : 0 ≤ n.inputs
  i1 : n.inputs ≤ 4294967296
  f : n.flops.length ≤ 4294967296
  i : n.insts.length ≤ 4294967296

theorem first {h : AH} {n : Net} {cv fv iv ov : Value} (r : NetR h n cv fv iv ov) (hs : Small n) :
    ACall Try.prog 66 [.agg (netC n cv fv iv ov).toArray] h (fun v h' => v = .int .i64 (firstE n) ∧ h' = h) := by
  refine ACall.viewed rfl ?_
  replace r := r.view
  generalize AH.view h = h at r
  have h0 := hs.i0; have h1 := hs.i1; have h2 := hs.f
  refine ACall.of_wp 9 [.tmp 2] Try.func66 rfl (by kernel_rfl) rfl rfl fun a hn hd ha => ?_
  have hbox := boxA 34 h _ r.one
  have hN := NetAt.new (h := h) (n := n) (cv := cv) (fv := fv) (iv := iv) (ov := ov)
  simp (disch := first | omega | decide | (simp only [List.length_cons, List.length_nil] <;> omega)) only [push_cast, ↓reduceIte, Nat.reduceLT, Nat.reduceEqDiff, reduceCtorEq, Nat.reduceAdd, hn, hd, ha, hbox, faL foN0, faL foN1, faL foN2, faL foN3, faL foN4, hN.l0, hN.l1, hN.l2, hN.l3, hN.l4, hN.la, r.f.len Try.underlying31, wrapI, firstE]

theorem bad {h : AH} {n : Net} {cv fv iv ov : Value} (r : NetR h n cv fv iv ov) :
    ACall Try.prog 80 [.agg (netC n cv fv iv ov).toArray] h (fun v h' => v = .func (.func 100) #[] #[.pointer (some ⟨h.next, 0, none⟩)] ∧ h' = h.new (.row (netC n cv fv iv ov) 34 true)) := by
  refine ACall.of_wp 4 [.tmp 2] Try.func80 rfl (by kernel_rfl) rfl rfl fun a hn hd ha => ?_
  have hbox := boxA 34 h _ r.one
  simp (disch := first | omega | decide | (simp only [List.length_cons, List.length_nil] <;> omega)) only [push_cast, ↓reduceIte, Nat.reduceLT, Nat.reduceEqDiff, reduceCtorEq, Nat.reduceAdd, hn, hd, ha, hbox]

theorem bad1 {h : AH} {n : Net} {cv fv iv ov : Value} (r : NetR h n cv fv iv ov) (hs : Small n) {B : Nat} (hB : NetAt h B n cv fv iv ov) {x : Int} :
    ACall Try.prog 100 [.int .i64 x, .pointer (some ⟨B, 0, none⟩)] h (fun v h' => v = .bool (badB n x) ∧ h' = h) := by
  have h0 := hs.i0; have h1 := hs.i1; have h2 := hs.f; have h3 := hs.i
  refine ACall.of_wp 16 [.tmp 3] Try.func100 rfl (by kernel_rfl) rfl rfl fun a hn hd ha => ?_
  simp (disch := first | omega | decide | (simp only [List.length_cons, List.length_nil] <;> omega)) only [push_cast, ↓reduceIte, Nat.reduceLT, Nat.reduceEqDiff, reduceCtorEq, Nat.reduceAdd, hn, hd, ha]
  refine AW.drawP (.take 0 [12, 11, 10, 9, 8, 7, 6, 5, 4, 3, 2, 1] (.take 1 [12, 11, 10, 9, 8, 7, 6, 5, 4, 3, 2] (.take 2 [12, 11, 10, 9, 8, 7, 6, 5, 4, 3] (.take 3 [12, 11, 10] (.take 4 [12, 11, 10, 9, 5] (.take 6 [12, 11, 10, 9, 8, 7] (.watch 7 [12, 11, 10, 9, 8] (.watch 8 [12, 11, 10, 9] (.only 5 (.take 9 [12, 11, 10] (.take 10 [12, 11] (.take 11 [12] (.take 12 [] .done))))))))))))) [(0, 0), (0, 1), (0, 2), (0, 3), (0, 4), (0, 6), (1, 7), (1, 8), (2, 5), (0, 9), (0, 10), (0, 11), (0, 12)] mixed (by kernel_rfl) (by kernel_rfl) ?_
  simp (disch := first | omega | decide | (simp only [List.length_cons, List.length_nil] <;> omega)) only [push_cast, ↓reduceIte, Nat.reduceLT, Nat.reduceEqDiff, reduceCtorEq, Nat.reduceAdd, hn, hd, ha]
  refine wantS_not (fun e => ?_) (fun e => ?_)
  · simp (disch := first | omega | decide | (simp only [List.length_cons, List.length_nil] <;> omega)) only [push_cast, ↓reduceIte, Nat.reduceLT, Nat.reduceEqDiff, reduceCtorEq, Nat.reduceAdd, hn, hd, ha, e, badB, Bool.true_or]
  · simp (disch := first | omega | decide | (simp only [List.length_cons, List.length_nil] <;> omega)) only [push_cast, ↓reduceIte, Nat.reduceLT, Nat.reduceEqDiff, reduceCtorEq, Nat.reduceAdd, hn, hd, ha, e, faL foN0, faL foN1, faL foN2, faL foN3, faL foN4, hB.l0, hB.l1, hB.l2, hB.l3, hB.l4, hB.la, r.i.len Try.underlying32]
    refine ACall.mono ?_ (first r hs)
    rintro _ _ ⟨rfl, rfl⟩
    have hw : IntKind.i64.wrap (firstE n + n.insts.length) = firstE n + n.insts.length := wrapI (by unfold firstE; omega) (by unfold firstE; omega)
    simp (disch := first | omega | decide | (simp only [List.length_cons, List.length_nil] <;> omega)) only [push_cast, ↓reduceIte, Nat.reduceLT, Nat.reduceEqDiff, reduceCtorEq, Nat.reduceAdd, hn, hd, ha, e, faL foN0, faL foN1, faL foN2, faL foN3, faL foN4, hB.l0, hB.l1, hB.l2, hB.l3, hB.l4, hB.la, r.i.len Try.underlying32, badB, Bool.false_or, hw]

def instE (n : Net) (x : Inst) : Int :=
  if (decide (x.cell < 0) || decide (x.cell ≥ n.cells.length)) = true then 1
  else if (x.pins.length : Int) ≠ (n.cells.getD x.cell.toNat default).pins then 12
  else if x.pins.any (badB n) = true then 1
  else 0
def flopB (n : Net) (x : Flop) : Bool := badB n x.next || decide (x.init > 1)
def instsGo (n : Net) : List Inst → Int
  | [] => 0
  | x :: xs => if instE n x ≠ 0 then instE n x else instsGo n xs
def bigB (n : Net) : Bool := decide (max (max n.inputs n.flops.length) n.outs.length > 64) || decide ((n.insts.length : Int) > 4096)
def shapeE (n : Net) : Int :=
  if (cellsE n.cells).2 ≠ 0 then (cellsE n.cells).2
  else if n.inputs < 0 then 1
  else if bigB n = true then 5
  else if instsGo n n.insts ≠ 0 then instsGo n n.insts
  else if n.flops.any (flopB n) = true then 1
  else if n.outs.any (badB n) = true then 1
  else 0

/-- The numbers of a netlist are in range. -/
structure NetOK (n : Net) : Prop where
  cell : ∀ c ∈ n.cells, CellOK c
  pins : ∀ x ∈ n.insts, x.pins.length ≤ 4611686018427387904
  fl : n.flops.length ≤ 4611686018427387904
  il : n.insts.length ≤ 4611686018427387904
  ol : n.outs.length ≤ 4611686018427387904

theorem shapeR {h : AH} {n : Net} {cv fv iv ov : Value} (r : NetR h n cv fv iv ov) (ok : NetOK n) :
    ACall Try.prog 65 [.agg (netC n cv fv iv ov).toArray] h (fun v _ => v = .int .i64 (shapeE n)) := by
  refine ACall.wf ⟨_, Try.func65, rfl, by kernel_rfl⟩ fun hwf => ?_
  refine ACall.of_wp 101 [.tmp 2] Try.func65 rfl (by kernel_rfl) rfl rfl fun a hn hd ha => ?_
  have hbox := boxA 34 h _ r.one
  have hN := NetAt.new (h := h) (n := n) (cv := cv) (fv := fv) (iv := iv) (ov := ov)
  have r1 := r.sub (Sub.new hwf (.row (netC n cv fv iv ov) 34 true))
  have g1 := Gr.refl (hwf.new (.row (netC n cv fv iv ov) 34 true))
  simp (disch := first | omega | decide | (simp only [List.length_cons, List.length_nil] <;> omega)) only [push_cast, ↓reduceIte, Nat.reduceLT, Nat.reduceEqDiff, reduceCtorEq, Nat.reduceAdd, hn, hd, ha, hbox, faL foN0, faL foN1, faL foN2, faL foN3, faL foN4, hN.l0, hN.l1, hN.l2, hN.l3, hN.l4, hN.la]
  generalize h.new (.row (netC n cv fv iv ov) 34 true) = h1 at hN r1 g1 ⊢
  generalize h.next = B at hN ⊢
  refine ACall.mono ?_ (cells r1.c ok.cell)
  rintro _ h1 ⟨rfl, rfl⟩
  simp (disch := first | omega | decide | (simp only [List.length_cons, List.length_nil] <;> omega)) only [push_cast, ↓reduceIte, Nat.reduceLT, Nat.reduceEqDiff, reduceCtorEq, Nat.reduceAdd, hn, hd, ha]
  refine condV_not (fun e0 => ?_) (fun e0 => ?_)
  · have e : ¬ (cellsE n.cells).2 = 0 := by simpa using e0
    simp (disch := first | omega | decide | (simp only [List.length_cons, List.length_nil] <;> omega)) only [push_cast, ↓reduceIte, Nat.reduceLT, Nat.reduceEqDiff, reduceCtorEq, Nat.reduceAdd, hn, hd, ha, shapeE, ne_eq, e]
  have e0' : (cellsE n.cells).2 = 0 := by simpa using e0
  simp (disch := first | omega | decide | (simp only [List.length_cons, List.length_nil] <;> omega)) only [push_cast, ↓reduceIte, Nat.reduceLT, Nat.reduceEqDiff, reduceCtorEq, Nat.reduceAdd, hn, hd, ha, faL foN0, faL foN1, faL foN2, faL foN3, faL foN4, hN.l0, hN.l1, hN.l2, hN.l3, hN.l4, hN.la]
  refine condV_of (fun e1 => ?_) (fun e1 => ?_)
  · have e : n.inputs < 0 := by simpa using e1
    simp (disch := first | omega | decide | (simp only [List.length_cons, List.length_nil] <;> omega)) only [push_cast, ↓reduceIte, Nat.reduceLT, Nat.reduceEqDiff, reduceCtorEq, Nat.reduceAdd, hn, hd, ha, shapeE, ne_eq, e0', e, not_true_eq_false]
  have e1' : ¬ n.inputs < 0 := by simpa using e1
  simp (disch := first | omega | decide | (simp only [List.length_cons, List.length_nil] <;> omega)) only [push_cast, ↓reduceIte, Nat.reduceLT, Nat.reduceEqDiff, reduceCtorEq, Nat.reduceAdd, hn, hd, ha, faL foN0, faL foN1, faL foN2, faL foN3, faL foN4, hN.l0, hN.l1, hN.l2, hN.l3, hN.l4, hN.la, r1.f.len Try.underlying31, r1.o.lenA Try.underlying22, aFold, aMax2R]
  have hS : shapeE n = if bigB n = true then 5 else if instsGo n n.insts ≠ 0 then instsGo n n.insts else if n.flops.any (flopB n) = true then 1 else if n.outs.any (badB n) = true then 1 else 0 := by
    simp only [shapeE, ne_eq, e0', e1', not_true_eq_false, if_false]
  refine wantM_not (fun e2 => ?_) (fun e2 => ?_)
  · simp (disch := first | omega | decide | (simp only [List.length_cons, List.length_nil] <;> omega)) only [push_cast, ↓reduceIte, Nat.reduceLT, Nat.reduceEqDiff, reduceCtorEq, Nat.reduceAdd, hn, hd, ha, e2, hS, bigB, Bool.true_or]
  simp (disch := first | omega | decide | (simp only [List.length_cons, List.length_nil] <;> omega)) only [push_cast, ↓reduceIte, Nat.reduceLT, Nat.reduceEqDiff, reduceCtorEq, Nat.reduceAdd, hn, hd, ha, e2, faL foN0, faL foN1, faL foN2, faL foN3, faL foN4, hN.l0, hN.l1, hN.l2, hN.l3, hN.l4, hN.la, r1.i.len Try.underlying32]
  refine condV_of (fun e3 => ?_) (fun e3 => ?_)
  · simp (disch := first | omega | decide | (simp only [List.length_cons, List.length_nil] <;> omega)) only [push_cast, ↓reduceIte, Nat.reduceLT, Nat.reduceEqDiff, reduceCtorEq, Nat.reduceAdd, hn, hd, ha, hS, bigB, e2, e3, Bool.false_or]
  have hbig : ¬ bigB n = true := by simp only [bigB, e2, e3, Bool.false_or]; decide
  have hsm : Small n := by
    simp at e2 e3
    exact ⟨by omega, by omega, by omega, by omega⟩
  have hsi := hsm.i
  have hsf := hsm.f
  rw [if_neg hbig] at hS
  simp (disch := first | omega | decide | (simp only [List.length_cons, List.length_nil] <;> omega)) only [push_cast, ↓reduceIte, Nat.reduceLT, Nat.reduceEqDiff, reduceCtorEq, Nat.reduceAdd, hn, hd, ha, faL foN0, faL foN1, faL foN2, faL foN3, faL foN4, hN.l0, hN.l1, hN.l2, hN.l3, hN.l4, hN.la, r1.i.len Try.underlying32]
  refine AW.loopN 43 [2, 5, 6, 43] (fun m a' h' => Gr h1 h' ∧ ∃ i : Nat, a'.tm 43 = .int .i64 i ∧ i + m = n.insts.length ∧ instsGo n (n.insts.drop i) = instsGo n n.insts) n.insts.length ?_ ?_
  · exact ⟨g1, 0, by simp (disch := first | omega | decide | (simp only [List.length_cons, List.length_nil] <;> omega)) only [push_cast, ↓reduceIte, Nat.reduceLT, Nat.reduceEqDiff, reduceCtorEq, Nat.reduceAdd], by omega, rfl⟩
  · rintro a1 m a' h' hk kn kd kt ⟨hg, i, h43, him, hgo⟩
    simp (disch := first | omega | decide | (simp only [List.length_cons, List.length_nil] <;> omega)) only [push_cast, ↓reduceIte, Nat.reduceLT, Nat.reduceEqDiff, reduceCtorEq, Nat.reduceAdd, kn, kd, kt, hn, hd, ha, h43]
    refine condV_of (fun hlt => ?_) (fun hge => ?_)
    · have hi : i < n.insts.length := by have := hlt; simp at this; omega
      have r2 := r1.sub hg.sub
      have hN2 := hN.sub hg.sub
      obtain ⟨cs, ⟨pv, rfl, hpv⟩, hld, -, -⟩ := r2.i.get hi default
      replace hld := hld _ agI
      have hpl := ok.pins _ (getD_mem hi default)
      have hdrop : n.insts.drop i = n.insts.getD i default :: n.insts.drop (i + 1) := by
        rw [List.drop_eq_getElem_cons hi]
        simp [List.getD_eq_getElem?_getD, hi]
      rw [hdrop] at hgo
      generalize n.insts.getD i default = x at *
      have hone : [Value.int .i64 x.cell, pv].all oneC = true := by simp only [List.all_cons, List.all_nil, hpv.one]; rfl
      have hst := fun (hh : AH) cs e hl => stN agI hh cs e [Value.int .i64 x.cell, pv] hl rfl hone
      have hg2 := hg.new (.row [Value.int .i64 x.cell, pv] 43 true)
      have hs2 := Sub.new hg.wf (.row [Value.int .i64 x.cell, pv] 43 true)
      have hI := CsAt.new h' [Value.int .i64 x.cell, pv] 43 true
      simp (disch := first | omega | decide | (simp only [List.length_cons, List.length_nil] <;> omega)) only [push_cast, ↓reduceIte, Nat.reduceLT, Nat.reduceEqDiff, reduceCtorEq, Nat.reduceAdd, kn, kd, kt, hn, hd, ha, h43, r2.i.idx Try.underlying32 infI, hld, alL zrI, hst, faL foI0, faL foI1, hI.ld fl3]
      generalize h'.new (.row [Value.int .i64 x.cell, pv] 43 true) = h2 at hg2 hs2 hI ⊢
      generalize h'.next = C at hI ⊢
      have r3 := r2.sub hs2
      have hN3 := hN2.sub hs2
      have hpv3 := hpv.sub hs2
      have loop2 : ∀ e, instE n x = e → e ≠ 0 → shapeE n = e := by
        intro e he h0
        rw [hS, ← hgo]; simp only [instsGo, he, ne_eq, h0, not_false_eq_true, if_true]
      refine wantM_not (fun e4 => ?_) (fun e4 => ?_)
      · have hE := loop2 1 (by simp only [instE, e4, Bool.true_or, if_true]) (by decide)
        simp (disch := first | omega | decide | (simp only [List.length_cons, List.length_nil] <;> omega)) only [push_cast, ↓reduceIte, Nat.reduceLT, Nat.reduceEqDiff, reduceCtorEq, Nat.reduceAdd, kn, kd, kt, hn, hd, ha, h43, e4, hE]
      simp (disch := first | omega | decide | (simp only [List.length_cons, List.length_nil] <;> omega)) only [push_cast, ↓reduceIte, Nat.reduceLT, Nat.reduceEqDiff, reduceCtorEq, Nat.reduceAdd, kn, kd, kt, hn, hd, ha, h43, e4, faL foI0, faL foI1, hI.ld fl3, faL foN0, faL foN1, faL foN2, faL foN3, faL foN4, hN3.l0, hN3.l1, hN3.l2, hN3.l3, hN3.l4, hN3.la, r3.c.len Try.underlying30]
      refine condV_of (fun e5 => ?_) (fun e5 => ?_)
      · have hE := loop2 1 (by simp only [instE, e4, e5, Bool.false_or, if_true]) (by decide)
        simp (disch := first | omega | decide | (simp only [List.length_cons, List.length_nil] <;> omega)) only [push_cast, ↓reduceIte, Nat.reduceLT, Nat.reduceEqDiff, reduceCtorEq, Nat.reduceAdd, kn, kd, kt, hn, hd, ha, h43, hE]
      have hc0 : 0 ≤ x.cell := by simpa using e4
      have hc1 : x.cell < n.cells.length := by simpa using e5
      obtain ⟨cs, ⟨dv, rfl, hdv⟩, -, hfl, hfa⟩ := r3.c.get (i := x.cell.toNat) (by omega) default
      have hfa1 := hfa _ _ _ foC1
      have hfl1 := hfl 1 _ fl3 (by decide)
      simp (disch := first | omega | decide | (simp only [List.length_cons, List.length_nil] <;> omega)) only [push_cast, ↓reduceIte, Nat.reduceLT, Nat.reduceEqDiff, reduceCtorEq, Nat.reduceAdd, kn, kd, kt, hn, hd, ha, h43]
      refine AW.drawT (.take 0 [11, 10, 2, 1] (.take 1 [11, 10, 2] (.take 2 [11, 10] (.take 3 [11, 10, 9, 8, 7, 4] (.take 4 [11, 10, 9, 8, 7] (.take 5 [11, 10, 9, 8, 7, 6] (.take 6 [11, 10, 9, 8, 7] (.take 7 [11, 10, 9, 8] (.take 8 [11, 10, 9] (.take 9 [11, 10] (.take 10 [11] (.take 11 [] .done)))))))))))) [0, 0, 0, 0, 0, 0, 0, 0, 0, 0, 0, 0] mixed (by kernel_rfl) (by kernel_rfl) ?_
      simp (disch := first | omega | decide | (simp only [List.length_cons, List.length_nil] <;> omega)) only [push_cast, ↓reduceIte, Nat.reduceLT, Nat.reduceEqDiff, reduceCtorEq, Nat.reduceAdd, kn, kd, kt, hn, hd, ha, h43, faL foI0, faL foI1, hI.ld fl3, hI.ld flI, faL foN0, faL foN1, faL foN2, faL foN3, faL foN4, hN3.l0, hN3.l1, hN3.l2, hN3.l3, hN3.l4, hN3.la, hpv3.lenA Try.underlying22, r3.c.idx Try.underlying30 infC, hfa1, hfl1]
      have hC : instE n x = if (x.pins.length : Int) ≠ (n.cells.getD x.cell.toNat default).pins then 12 else if x.pins.any (badB n) = true then 1 else 0 := by
        simp only [instE, e4, e5, Bool.false_or, Bool.false_eq_true, if_false]
      refine condV_not (fun e6 => ?_) (fun e6 => ?_)
      · have e : ¬ (x.pins.length : Int) = (n.cells.getD x.cell.toNat default).pins := by simpa using e6
        have hE := loop2 12 (by rw [hC, if_pos e]) (by decide)
        simp (disch := first | omega | decide | (simp only [List.length_cons, List.length_nil] <;> omega)) only [push_cast, ↓reduceIte, Nat.reduceLT, Nat.reduceEqDiff, reduceCtorEq, Nat.reduceAdd, kn, kd, kt, hn, hd, ha, h43, hE]
      have e6' : (x.pins.length : Int) = (n.cells.getD x.cell.toNat default).pins := by simpa using e6
      rw [if_neg (fun x => x e6')] at hC
      simp (disch := first | omega | decide | (simp only [List.length_cons, List.length_nil] <;> omega)) only [push_cast, ↓reduceIte, Nat.reduceLT, Nat.reduceEqDiff, reduceCtorEq, Nat.reduceAdd, kn, kd, kt, hn, hd, ha, h43]
      refine AW.drawP (.take 0 [5, 4, 1] (.take 2 [5, 4, 3] (.watch 1 [5, 4] (.only 3 (.only 4 (.take 5 [] .done)))))) [(0, 0), (0, 2), (1, 1), (2, 3), (2, 4), (0, 5)] mixed (by kernel_rfl) (by kernel_rfl) ?_
      simp (disch := first | omega | decide | (simp only [List.length_cons, List.length_nil] <;> omega)) only [push_cast, ↓reduceIte, Nat.reduceLT, Nat.reduceEqDiff, reduceCtorEq, Nat.reduceAdd, kn, kd, kt, hn, hd, ha, h43, faL foI0, faL foI1, hI.ld flI, faL foN0, faL foN1, faL foN2, faL foN3, faL foN4, hN3.l0, hN3.l1, hN3.l2, hN3.l3, hN3.l4, hN3.la]
      refine ACall.mono ?_ (bad r3)
      rintro _ h4 ⟨rfl, rfl⟩
      simp (disch := first | omega | decide | (simp only [List.length_cons, List.length_nil] <;> omega)) only [push_cast, ↓reduceIte, Nat.reduceLT, Nat.reduceEqDiff, reduceCtorEq, Nat.reduceAdd, kn, kd, kt, hn, hd, ha, h43]
      have hI4 := fun o => (hI.sub (Sub.new hg2.wf o)).ld fl3
      have hI5 := fun o => (hI.sub (Sub.new hg2.wf o)).ld flI
      have hs4 := Sub.new hg2.wf (.row (netC n cv fv iv ov) 34 true)
      have hg4 := hg2.new (.row (netC n cv fv iv ov) 34 true)
      have hN4 := NetAt.new (h := h2) (n := n) (cv := cv) (fv := fv) (iv := iv) (ov := ov)
      have hI6 := (hI.sub (Sub.new hg2.wf (.row (netC n cv fv iv ov) 34 true))).ld flI
      simp (disch := first | omega | decide | (simp only [List.length_cons, List.length_nil] <;> omega)) only [push_cast, ↓reduceIte, Nat.reduceLT, Nat.reduceEqDiff, reduceCtorEq, Nat.reduceAdd, kn, kd, kt, hn, hd, ha, h43, hI5]
      generalize h2.new (.row (netC n cv fv iv ov) 34 true) = h4 at hs4 hg4 hN4 hI6 ⊢
      generalize hDe : h2.next = D at hN4 ⊢
      refine ACall.mono ?_ (containsI (h := h4) (f := .func (.func 100) #[] #[.pointer (some ⟨D, 0, none⟩)]) (p := badB n) (hpv3.sub hs4) (fun x _ => bad1 (r3.sub hs4) hsm hN4) hpl)
      rintro _ h4 ⟨rfl, rfl⟩
      simp (disch := first | omega | decide | (simp only [List.length_cons, List.length_nil] <;> omega)) only [push_cast, ↓reduceIte, Nat.reduceLT, Nat.reduceEqDiff, reduceCtorEq, Nat.reduceAdd, kn, kd, kt, hn, hd, ha, h43, hI6]
      refine condV_of (fun e7 => ?_) (fun e7 => ?_)
      · have hE := loop2 1 (by rw [hC, if_pos e7]) (by decide)
        simp (disch := first | omega | decide | (simp only [List.length_cons, List.length_nil] <;> omega)) only [push_cast, ↓reduceIte, Nat.reduceLT, Nat.reduceEqDiff, reduceCtorEq, Nat.reduceAdd, kn, kd, kt, hn, hd, ha, h43, hE]
      · have e7' : ¬ x.pins.any (badB n) = true := by rw [e7]; decide
        simp (disch := first | omega | decide | (simp only [List.length_cons, List.length_nil] <;> omega)) only [push_cast, ↓reduceIte, Nat.reduceLT, Nat.reduceEqDiff, reduceCtorEq, Nat.reduceAdd, kn, kd, kt, hn, hd, ha, h43, wrapI]
        refine ⟨m - 1, by omega, (by simp (disch := decide) only [Kp_put, put_none, hk]), hg4, i + 1, by simp (disch := first | omega | decide | (simp only [List.length_cons, List.length_nil] <;> omega)) only [push_cast, ↓reduceIte, Nat.reduceLT, Nat.reduceEqDiff, reduceCtorEq, Nat.reduceAdd], by omega, ?_⟩
        rw [← hgo]
        simp only [instsGo, hC, if_neg e7', ne_eq, not_true_eq_false, if_false]
    · have hi : n.insts.length ≤ i := by have := hge; simp at this; omega
      rw [List.drop_of_length_le hi] at hgo
      have hG : instsGo n n.insts = 0 := by rw [← hgo]; rfl
      rw [if_neg (fun x => x hG)] at hS
      have r2 := r1.sub hg.sub
      have hN2 := hN.sub hg.sub
      clear hgo h43 him hi
      simp (disch := first | omega | decide | (simp only [List.length_cons, List.length_nil] <;> omega)) only [push_cast, ↓reduceIte, Nat.reduceLT, Nat.reduceEqDiff, reduceCtorEq, Nat.reduceAdd, kn, kd, kt, hn, hd, ha, faL foN0, faL foN1, faL foN2, faL foN3, faL foN4, hN2.l0, hN2.l1, hN2.l2, hN2.l3, hN2.l4, hN2.la, r2.f.len Try.underlying31]
      refine AW.loopN 81 [2, 5, 6, 7, 8, 43, 81] (fun m a' h' => Gr h1 h' ∧ ∃ i : Nat, a'.tm 81 = .int .i64 i ∧ i + m = n.flops.length ∧ (n.flops.drop i).any (flopB n) = n.flops.any (flopB n)) n.flops.length ?_ ?_
      · exact ⟨hg, 0, by simp (disch := first | omega | decide | (simp only [List.length_cons, List.length_nil] <;> omega)) only [push_cast, ↓reduceIte, Nat.reduceLT, Nat.reduceEqDiff, reduceCtorEq, Nat.reduceAdd], by omega, rfl⟩
      · rintro b1 m2 b h5 hk2 kn2 kd2 kt2 ⟨hg5, i, h81, him, hany⟩
        have r5 := r1.sub hg5.sub
        have hN5 := hN.sub hg5.sub
        simp (disch := first | omega | decide | (simp only [List.length_cons, List.length_nil] <;> omega)) only [push_cast, ↓reduceIte, Nat.reduceLT, Nat.reduceEqDiff, reduceCtorEq, Nat.reduceAdd, kn2, kd2, kt2, kn, kd, kt, hn, hd, ha, h81]
        refine condV_of (fun hlt => ?_) (fun hge => ?_)
        · have hi : i < n.flops.length := by have := hlt; simp at this; omega
          obtain ⟨cs, rfl, hld, -, -⟩ := r5.f.get hi default
          replace hld := hld _ agF
          rw [any_drop hi default] at hany
          generalize n.flops.getD i default = x at *
          have hst := fun (hh : AH) cs e hl => stN agF hh cs e [Value.int .i64 x.next, .int .u8 x.init] hl rfl rfl
          have hg6 := hg5.new (.row [Value.int .i64 x.next, .int .u8 x.init] 62 true)
          have hs6 := Sub.new hg5.wf (.row [Value.int .i64 x.next, .int .u8 x.init] 62 true)
          have hI6 := CsAt.new h5 [Value.int .i64 x.next, .int .u8 x.init] 62 true
          simp (disch := first | omega | decide | (simp only [List.length_cons, List.length_nil] <;> omega)) only [push_cast, ↓reduceIte, Nat.reduceLT, Nat.reduceEqDiff, reduceCtorEq, Nat.reduceAdd, kn2, kd2, kt2, kn, kd, kt, hn, hd, ha, h81, r5.f.idx Try.underlying31 infF, hld, alL zrF, hst]
          generalize h5.new (.row [Value.int .i64 x.next, .int .u8 x.init] 62 true) = h6 at hg6 hs6 hI6 ⊢
          generalize h5.next = C at hI6 ⊢
          have r6 := r5.sub hs6
          have hN6 := hN5.sub hs6
          refine AW.drawP (.take 0 [9, 8, 7, 6, 5, 4, 1] (.take 2 [9, 8, 7, 6, 5, 4, 3] (.watch 3 [9, 8, 7, 6, 5, 4] (.only 1 (.only 4 (.take 5 [9, 8, 7, 6] (.take 6 [9, 8, 7] (.take 7 [9, 8] (.take 8 [9] (.take 9 [] .done)))))))))) [(0, 0), (0, 2), (1, 3), (2, 1), (2, 4), (0, 5), (0, 6), (0, 7), (0, 8), (0, 9)] mixed (by kernel_rfl) (by kernel_rfl) ?_
          simp (disch := first | omega | decide | (simp only [List.length_cons, List.length_nil] <;> omega)) only [push_cast, ↓reduceIte, Nat.reduceLT, Nat.reduceEqDiff, reduceCtorEq, Nat.reduceAdd, kn2, kd2, kt2, kn, kd, kt, hn, hd, ha, h81, faL foF0, faL foF1, hI6.ld fl3, faL foN0, faL foN1, faL foN2, faL foN3, faL foN4, hN6.l0, hN6.l1, hN6.l2, hN6.l3, hN6.l4, hN6.la]
          refine ACall.mono ?_ (bad r6)
          rintro _ h7 ⟨rfl, rfl⟩
          have hI7 := fun o => (hI6.sub (Sub.new hg6.wf o)).ld fl3
          have hs7 := Sub.new hg6.wf (.row (netC n cv fv iv ov) 34 true)
          have hg7 := hg6.new (.row (netC n cv fv iv ov) 34 true)
          have hN7 := NetAt.new (h := h6) (n := n) (cv := cv) (fv := fv) (iv := iv) (ov := ov)
          have hI8 := (hI6.sub (Sub.new hg6.wf (.row (netC n cv fv iv ov) 34 true))).ld fl5
          have hI9 := (hI6.sub (Sub.new hg6.wf (.row (netC n cv fv iv ov) 34 true))).ld fl3
          simp (disch := first | omega | decide | (simp only [List.length_cons, List.length_nil] <;> omega)) only [push_cast, ↓reduceIte, Nat.reduceLT, Nat.reduceEqDiff, reduceCtorEq, Nat.reduceAdd, kn2, kd2, kt2, kn, kd, kt, hn, hd, ha, h81, hI7]
          generalize h6.new (.row (netC n cv fv iv ov) 34 true) = h7 at hs7 hg7 hN7 hI8 hI9 ⊢
          generalize h6.next = D at hN7 ⊢
          refine ACall.mono ?_ (bad1 (r6.sub hs7) hsm hN7)
          rintro _ h7 ⟨rfl, rfl⟩
          simp (disch := first | omega | decide | (simp only [List.length_cons, List.length_nil] <;> omega)) only [push_cast, ↓reduceIte, Nat.reduceLT, Nat.reduceEqDiff, reduceCtorEq, Nat.reduceAdd, kn2, kd2, kt2, kn, kd, kt, hn, hd, ha, h81, hI9]
          refine wantS_not (fun e8 => ?_) (fun e8 => ?_)
          · have hF : n.flops.any (flopB n) = true := by rw [← hany]; simp only [flopB, e8, Bool.true_or]
            rw [if_pos hF] at hS
            simp (disch := first | omega | decide | (simp only [List.length_cons, List.length_nil] <;> omega)) only [push_cast, ↓reduceIte, Nat.reduceLT, Nat.reduceEqDiff, reduceCtorEq, Nat.reduceAdd, kn2, kd2, kt2, kn, kd, kt, hn, hd, ha, h81, e8, hS]
          simp (disch := first | omega | decide | (simp only [List.length_cons, List.length_nil] <;> omega)) only [push_cast, ↓reduceIte, Nat.reduceLT, Nat.reduceEqDiff, reduceCtorEq, Nat.reduceAdd, kn2, kd2, kt2, kn, kd, kt, hn, hd, ha, h81, e8, faL foF0, faL foF1, hI8]
          refine condV_of (fun e9 => ?_) (fun e9 => ?_)
          · have hF : n.flops.any (flopB n) = true := by rw [← hany]; simp only [flopB, e8, e9, Bool.true_or, Bool.false_or]
            rw [if_pos hF] at hS
            simp (disch := first | omega | decide | (simp only [List.length_cons, List.length_nil] <;> omega)) only [push_cast, ↓reduceIte, Nat.reduceLT, Nat.reduceEqDiff, reduceCtorEq, Nat.reduceAdd, kn2, kd2, kt2, kn, kd, kt, hn, hd, ha, hS]
          · simp (disch := first | omega | decide | (simp only [List.length_cons, List.length_nil] <;> omega)) only [push_cast, ↓reduceIte, Nat.reduceLT, Nat.reduceEqDiff, reduceCtorEq, Nat.reduceAdd, kn2, kd2, kt2, kn, kd, kt, hn, hd, ha, h81, wrapI]
            refine ⟨m2 - 1, by omega, (by simp (disch := decide) only [Kp_put, put_none, hk2]), hg7, i + 1, by simp (disch := first | omega | decide | (simp only [List.length_cons, List.length_nil] <;> omega)) only [push_cast, ↓reduceIte, Nat.reduceLT, Nat.reduceEqDiff, reduceCtorEq, Nat.reduceAdd], by omega, ?_⟩
            rw [← hany]; simp only [flopB, e8, e9, Bool.false_or]
        · have hi : n.flops.length ≤ i := by have := hge; simp at this; omega
          rw [List.drop_of_length_le hi] at hany
          have hF : ¬ n.flops.any (flopB n) = true := by rw [← hany]; simp
          rw [if_neg hF] at hS
          simp (disch := first | omega | decide | (simp only [List.length_cons, List.length_nil] <;> omega)) only [push_cast, ↓reduceIte, Nat.reduceLT, Nat.reduceEqDiff, reduceCtorEq, Nat.reduceAdd, kn2, kd2, kt2, kn, kd, kt, hn, hd, ha]
          refine AW.drawP (.take 0 [4, 1] (.take 2 [4, 3] (.watch 1 [4] (.only 3 (.only 4 .done))))) [(0, 0), (0, 2), (1, 1), (2, 3), (2, 4)] mixed (by kernel_rfl) (by kernel_rfl) ?_
          simp (disch := first | omega | decide | (simp only [List.length_cons, List.length_nil] <;> omega)) only [push_cast, ↓reduceIte, Nat.reduceLT, Nat.reduceEqDiff, reduceCtorEq, Nat.reduceAdd, kn2, kd2, kt2, kn, kd, kt, hn, hd, ha, faL foN0, faL foN1, faL foN2, faL foN3, faL foN4, hN5.l0, hN5.l1, hN5.l2, hN5.l3, hN5.l4, hN5.la]
          refine ACall.mono ?_ (bad r5)
          rintro _ h6 ⟨rfl, rfl⟩
          have hs6 := Sub.new hg5.wf (.row (netC n cv fv iv ov) 34 true)
          have hN6 := NetAt.new (h := h5) (n := n) (cv := cv) (fv := fv) (iv := iv) (ov := ov)
          have hN7 := fun o => hN5.sub (Sub.new hg5.wf o)
          have hl7 := (hN5.sub (Sub.new hg5.wf (.row (netC n cv fv iv ov) 34 true))).l4
          simp (disch := first | omega | decide | (simp only [List.length_cons, List.length_nil] <;> omega)) only [push_cast, ↓reduceIte, Nat.reduceLT, Nat.reduceEqDiff, reduceCtorEq, Nat.reduceAdd, kn2, kd2, kt2, kn, kd, kt, hn, hd, ha, hl7]
          generalize h5.new (.row (netC n cv fv iv ov) 34 true) = h6 at hs6 hN6 hl7 ⊢
          generalize h5.next = D at hN6 ⊢
          refine ACall.mono ?_ (containsI (h := h6) (f := .func (.func 100) #[] #[.pointer (some ⟨D, 0, none⟩)]) (p := badB n) (r5.sub hs6).o (fun x _ => bad1 (r5.sub hs6) hsm hN6) ok.ol)
          rintro _ h6 ⟨rfl, rfl⟩
          simp (disch := first | omega | decide | (simp only [List.length_cons, List.length_nil] <;> omega)) only [push_cast, ↓reduceIte, Nat.reduceLT, Nat.reduceEqDiff, reduceCtorEq, Nat.reduceAdd, kn2, kd2, kt2, kn, kd, kt, hn, hd, ha, hl7]
          refine condV_of (fun e7 => ?_) (fun e7 => ?_)
          · rw [if_pos e7] at hS
            simp (disch := first | omega | decide | (simp only [List.length_cons, List.length_nil] <;> omega)) only [push_cast, ↓reduceIte, Nat.reduceLT, Nat.reduceEqDiff, reduceCtorEq, Nat.reduceAdd, kn2, kd2, kt2, kn, kd, kt, hn, hd, ha, hS]
          · rw [if_neg (by rw [e7]; decide)] at hS
            simp (disch := first | omega | decide | (simp only [List.length_cons, List.length_nil] <;> omega)) only [push_cast, ↓reduceIte, Nat.reduceLT, Nat.reduceEqDiff, reduceCtorEq, Nat.reduceAdd, kn2, kd2, kt2, kn, kd, kt, hn, hd, ha, hS]

theorem shape {h : AH} {n : Net} {cv fv iv ov : Value} (r : NetR h n cv fv iv ov) (ok : NetOK n) :
    ACall Try.prog 65 [.agg (netC n cv fv iv ov).toArray] h (fun v h' => v = .int .i64 (shapeE n) ∧ h' = h) :=
  ACall.viewed rfl (shapeR r.view ok)

end Go.Ab.S1

namespace Go.Ab.S1
open Go.Proofs

def pinsOf (n : Net) (i : Nat) : List Int := (n.insts.getD i default).pins

/-- What a valid shape tells. -/
structure ShapeOK (n : Net) : Prop where
  cells : (cellsE n.cells).2 = 0
  i0 : 0 ≤ n.inputs
  i1 : n.inputs ≤ 64
  fl : n.flops.length ≤ 64
  ol : n.outs.length ≤ 64
  il : n.insts.length ≤ 4096
  cell : ∀ x ∈ n.insts, 0 ≤ x.cell ∧ x.cell < n.cells.length ∧ (x.pins.length : Int) = (n.cells.getD x.cell.toNat default).pins
  pin : ∀ x ∈ n.insts, ∀ p ∈ x.pins, -2 ≤ p ∧ p < firstE n + n.insts.length
  flop : ∀ x ∈ n.flops, (-2 ≤ x.next ∧ x.next < firstE n + n.insts.length) ∧ x.init ≤ 1
  out : ∀ p ∈ n.outs, -2 ≤ p ∧ p < firstE n + n.insts.length

theorem badB_false {n : Net} {x : Int} : badB n x = false ↔ -2 ≤ x ∧ x < firstE n + n.insts.length := by
  simp only [badB, Bool.or_eq_false_iff, decide_eq_false_iff_not]; omega

theorem instsGo_zero {n : Net} : ∀ {l : List Inst}, instsGo n l = 0 → ∀ x ∈ l, instE n x = 0 := by
  intro l
  induction l with
  | nil => intro _ x hx; simp at hx
  | cons y l ih =>
    intro h x hx
    simp only [instsGo] at h
    by_cases hy : instE n y = 0
    · rw [if_neg (fun z => z hy)] at h
      rcases List.mem_cons.1 hx with rfl | hx
      · exact hy
      · exact ih h x hx
    · rw [if_pos hy] at h; exact absurd h hy

theorem instE_zero {n : Net} {x : Inst} (h : instE n x = 0) : (0 ≤ x.cell ∧ x.cell < n.cells.length ∧ (x.pins.length : Int) = (n.cells.getD x.cell.toNat default).pins) ∧ ∀ p ∈ x.pins, -2 ≤ p ∧ p < firstE n + n.insts.length := by
  unfold instE at h
  split at h
  · omega
  · rename_i h1
    split at h
    · omega
    · rename_i h2
      split at h
      · omega
      · rename_i h3
        simp only [Bool.or_eq_true, decide_eq_true_eq, not_or] at h1
        have h2' : (x.pins.length : Int) = (n.cells.getD x.cell.toNat default).pins := Classical.not_not.1 h2
        refine ⟨⟨by omega, by omega, h2'⟩, fun p hp => badB_false.1 ?_⟩
        cases hb : badB n p with
        | false => rfl
        | true => exact absurd (List.any_eq_true.2 ⟨p, hp, hb⟩) h3

theorem ShapeOK.of {n : Net} (h : shapeE n = 0) : ShapeOK n := by
  unfold shapeE at h
  split at h
  · omega
  rename_i h1
  split at h
  · omega
  rename_i h2
  split at h
  · omega
  rename_i h3
  split at h
  · omega
  rename_i h4
  split at h
  · omega
  rename_i h5
  split at h
  · omega
  rename_i h6
  have h1' : (cellsE n.cells).2 = 0 := Classical.not_not.1 h1
  have h4' : instsGo n n.insts = 0 := Classical.not_not.1 h4
  simp only [bigB, Bool.or_eq_true, decide_eq_true_eq, not_or] at h3
  refine ⟨h1', by omega, by omega, by omega, by omega, by omega, fun x hx => (instE_zero (instsGo_zero h4' x hx)).1, fun x hx => (instE_zero (instsGo_zero h4' x hx)).2, fun x hx => ?_, fun p hp => ?_⟩
  · have : flopB n x = false := by
      cases hb : flopB n x with
      | false => rfl
      | true => exact absurd (List.any_eq_true.2 ⟨x, hx, hb⟩) h5
    simp only [flopB, Bool.or_eq_false_iff, decide_eq_false_iff_not] at this
    exact ⟨badB_false.1 this.1, by omega⟩
  · cases hb : badB n p with
    | false => exact badB_false.1 hb
    | true => exact absurd (List.any_eq_true.2 ⟨p, hp, hb⟩) h6

theorem cellsGo_zero : ∀ (l pre : List Cell) (i : Nat), (cellsGo pre i l).2 = 0 → ∀ c ∈ l, checkE c = 0 := by
  intro l
  induction l with
  | nil => intro _ _ _ c hc; simp at hc
  | cons d l ih =>
    intro pre i h c hc
    simp only [cellsGo] at h
    split at h
    · rename_i h0; exact absurd h h0
    · rename_i h0
      split at h
      · simp at h
      · rcases List.mem_cons.1 hc with rfl | hc
        · exact Classical.not_not.1 h0
        · exact ih _ _ h c hc

theorem cellsE_zero {l : List Cell} (h : (cellsE l).2 = 0) : ∀ c ∈ l, checkE c = 0 := by
  unfold cellsE at h
  split at h
  · simp at h
  · exact cellsGo_zero l [] 0 h

theorem checkE_pins {c : Cell} (h : checkE c = 0) : 1 ≤ c.pins ∧ c.pins ≤ 4 ∧ validE c.table c.pins = true ∧ (c.delay.length : Int) = c.pins := by
  unfold checkE at h
  split at h
  · omega
  split at h
  · omega
  rename_i h2
  split at h
  · omega
  rename_i h3
  have h3' : (c.delay.length : Int) = c.pins := Classical.not_not.1 h3
  simp only [Bool.or_eq_true, decide_eq_true_eq, not_or, Bool.not_eq_true', Bool.not_eq_false] at h2
  exact ⟨by omega, by omega, by simpa using h2.2.2.1, h3'⟩

theorem ShapeOK.pins4 {n : Net} (s : ShapeOK n) {x : Inst} (hx : x ∈ n.insts) : x.pins.length ≤ 4 := by
  obtain ⟨h0, h1, h2⟩ := s.cell x hx
  have hlt : x.cell.toNat < n.cells.length := by omega
  have hc := checkE_pins (cellsE_zero s.cells _ (getD_mem hlt default))
  omega

theorem ShapeOK.pinsOf4 {n : Net} (s : ShapeOK n) {i : Nat} (hi : i < n.insts.length) : (pinsOf n i).length ≤ 4 := s.pins4 (getD_mem hi default)
theorem ShapeOK.pinOf {n : Net} (s : ShapeOK n) {i : Nat} (hi : i < n.insts.length) {p : Int} (hp : p ∈ pinsOf n i) : -2 ≤ p ∧ p < firstE n + n.insts.length := s.pin _ (getD_mem hi default) p hp

/-- How many pins of an instance still wait: those at instances outside O. -/
def remB (n : Net) (O : List Int) (p : Int) : Bool := decide (firstE n ≤ p) && !decide (p - firstE n ∈ O)
def rem (n : Net) (O : List Int) (j : Nat) : Nat := (pinsOf n j).countP (remB n O)

theorem countP_split {O : List Int} {n : Net} {i : Int} (hi : i ∉ O) : ∀ l : List Int, l.countP (remB n O) = l.countP (remB n (O ++ [i])) + (if 0 ≤ i then l.count (firstE n + i) else l.countP fun p => decide (p - firstE n = i) && decide (firstE n ≤ p)) := by
  intro l
  induction l with
  | nil => simp
  | cons p l ih =>
    rw [List.countP_cons, List.countP_cons, ih]
    by_cases h0 : 0 ≤ i
    · simp only [if_pos h0]
      rw [List.count_cons]
      by_cases hp : p = firstE n + i
      · subst hp
        have e : firstE n + i - firstE n = i := by omega
        have h1 : firstE n ≤ firstE n + i := by omega
        have h2 : i ∉ O := hi
        simp [remB, e, h0, h2, h1]; omega
      · have e : ¬ (p - firstE n = i) := by omega
        have hb : ¬ ((p == firstE n + i) = true) := by simpa using hp
        simp [remB, e, hb, hp]; omega
    · simp only [if_neg h0]
      rw [List.countP_cons]
      by_cases hp : p - firstE n = i
      · have hq : ¬ firstE n ≤ p := by omega
        simp [remB, hq]
      · simp [remB, hp]; omega

theorem rem_push {n : Net} {O : List Int} {i : Int} (hi : i ∉ O) (h0 : 0 ≤ i) (j : Nat) : rem n O j = rem n (O ++ [i]) j + (pinsOf n j).count (firstE n + i) := by
  unfold rem
  rw [countP_split hi, if_pos h0]

theorem rem_zero {n : Net} {O : List Int} {j : Nat} (h : rem n O j = 0) {p : Int} (hp : p ∈ pinsOf n j) (hF : firstE n ≤ p) : p - firstE n ∈ O := by
  unfold rem at h
  rw [List.countP_eq_zero] at h
  have := h p hp
  simp only [remB, Bool.and_eq_true, decide_eq_true_eq, Bool.not_eq_true', decide_eq_false_iff_not, not_and, Classical.not_not] at this
  exact this hF

theorem rem_pos {n : Net} {O : List Int} {j : Nat} (h : rem n O j ≠ 0) : ∃ p ∈ pinsOf n j, firstE n ≤ p ∧ p - firstE n ∉ O := by
  unfold rem at h
  rw [Ne, List.countP_eq_zero] at h
  simp only [remB, Bool.and_eq_true, decide_eq_true_eq, Bool.not_eq_true', decide_eq_false_iff_not] at h
  apply Classical.byContradiction
  intro hn
  exact h fun p hp ⟨a, b⟩ => hn ⟨p, hp, a, b⟩

/-- An order in which each instance stands behind those that its pins name. -/
structure Topo (n : Net) (O : List Int) : Prop where
  nodup : O.Nodup
  range : ∀ x ∈ O, 0 ≤ x ∧ x < n.insts.length
  before : ∀ (j : Nat) (x : Int), O[j]? = some x → ∀ p ∈ pinsOf n x.toNat, firstE n ≤ p → p - firstE n ∈ O.take j

theorem Topo.push {n : Net} {O : List Int} (t : Topo n O) {i : Int} (h0 : 0 ≤ i) (h1 : i < n.insts.length) (hi : i ∉ O) (hr : rem n O i.toNat = 0) : Topo n (O ++ [i]) := by
  refine ⟨?_, fun x hx => ?_, fun j x hj p hp hF => ?_⟩
  · rw [List.nodup_append]
    exact ⟨t.nodup, by simp, fun a ha b hb => by simp at hb; subst hb; rintro rfl; exact hi ha⟩
  · rcases List.mem_append.1 hx with hx | hx
    · exact t.range x hx
    · simp at hx; subst hx; exact ⟨h0, h1⟩
  · by_cases hlt : j < O.length
    · rw [List.getElem?_append_left hlt] at hj
      rw [List.take_append_of_le_length (by omega)]
      exact t.before j x hj p hp hF
    · rw [List.getElem?_append_right (by omega)] at hj
      have hj0 : j = O.length := by
        have := (List.getElem?_eq_some_iff.1 hj).1
        simp at this; omega
      subst hj0
      rw [Nat.sub_self] at hj
      cases hj
      rw [List.take_append_of_le_length (Nat.le_refl _), List.take_length]
      exact rem_zero hr hp hF

theorem nodup_le {N : Nat} {l : List Int} (hn : l.Nodup) (hr : ∀ x ∈ l, 0 ≤ x ∧ x < N) : l.length ≤ N := by
  by_cases h0 : l.length = 0
  · omega
  have hperm := sortL_perm l
  have hn' : (sortL l).Nodup := hperm.nodup_iff.2 hn
  have hs : (sortL l).Pairwise (fun x y => x < y) := by
    have h1 := sortL_sorted l
    rw [List.nodup_iff_pairwise_ne] at hn'
    exact (h1.and hn').imp (fun ⟨a, b⟩ => by omega)
  have hl := sortL_len l
  have hlt : l.length - 1 < (sortL l).length := by omega
  have a := climb hs (fun z hz => (hr z (hperm.mem_iff.1 hz)).1) (l.length - 1) hlt
  have b := hr _ (hperm.mem_iff.1 (List.getElem_mem hlt))
  omega

/-! ### The first phase -/

structure BuildP (n : Net) (i q : Nat) (M : List Int) (us : Nat → List Int) (R : List Int) : Prop where
  len : M.length = n.insts.length
  m : ∀ j, j < n.insts.length → M.getD j 0 = if j < i then (rem n [] j : Int) else if j = i then (((pinsOf n i).take q).countP (remB n []) : Int) else 0
  u : ∀ k, k < n.insts.length → ∀ j : Int, (us k).count j = if 0 ≤ j ∧ j < i then (pinsOf n j.toNat).count (firstE n + k) else if j = i then ((pinsOf n i).take q).count (firstE n + k) else 0
  ul : ∀ k, k < n.insts.length → (us k).length ≤ 4 * i + q
  nd : R.Nodup
  r : ∀ j : Int, j ∈ R ↔ 0 ≤ j ∧ j < i ∧ rem n [] j.toNat = 0

/-! ### The second phase -/

structure MainP (n : Net) (us : Nat → List Int) (O R : List Int) (M : List Int) (w : List Int) : Prop where
  len : M.length = n.insts.length
  m : ∀ j, j < n.insts.length → M.getD j 0 = (rem n O j : Int) + (w.count (j : Int) : Int)
  topo : Topo n O
  nd : (O ++ R).Nodup
  r : ∀ j : Int, j ∈ O ∨ j ∈ R ↔ 0 ≤ j ∧ j < n.insts.length ∧ M.getD j.toNat 0 = 0

end Go.Ab.S1

namespace Go.Ab.S1
open Go.Proofs
set_option linter.unusedSimpArgs false
set_option linter.unusedVariables false
set_option maxRecDepth 100000
set_option maxHeartbeats 4000000
attribute [local push_cast] wpA_skip wpA_ret wpA_exit wpA_seq wpA_block wpA_cond2 andK_true wpA_region wpA_draw wpA_loop thenQ_normal thenQ_ret thenQ_exit blockQ_normal blockQ_ret blockQ_exit condV_true condV_false opsM_nil opsM_cons2 okM_true wantM_true wantM_false stepM seqM_cons2 seqM_nil2 okS_true wantS_true wantS_false stepS skipS okB Keeps_nil contK_app List.zip_cons_cons List.zip_nil_left List.zip_nil_right Op.operands Call.operands Array.toList_append List.append_nil List.nil_append List.all_cons List.all_nil cOK plain put_n put_tm put_none put_df ev_tmp ev_const ev_func wanted_none wanted_some callR_func dop ex_some1 aBuiltin aBin intBin aUn Option.map_some Bool.and_true Bool.true_and Bool.and_self List.map_cons List.map_nil List.toList_toArray List.getElem?_toArray List.getElem?_cons_zero List.getElem?_cons_succ Option.getD_some Option.getD_none Bool.false_eq_true eq_self_iff_true decide_true decide_false List.cons_append aExtract resL resV List.getD_cons_zero List.getD_cons_succ List.getD_nil Nat.succ_ne_self g1 g2 yieldedA2 isB_bool isB_undef g3 Option.bind_some Option.bind_none bne_self_eq_false beq_self_eq_true Bool.not_true Bool.not_false Int.toNat_natCast List.length_map List.mem_cons List.not_mem_nil or_false not_false_eq_true decide_not Bool.not_not bodyR_ret2 bodyR_normal2 closeMarks_nil ex_some0 Nat.zero_add Nat.add_zero ieq ine List.map_toArray Option.toArray_none Option.toArray_some oev Keeps_cons Still_eq selL wpX_skip wpX_ret wpX_exit wpX_seq wpX_block wpX_cond wpX_region wpX_draw wpX_loop List.take_succ_cons List.take_zero List.drop_succ_cons List.drop_zero Int.zero_add Int.add_zero aNil if_true if_false true_and and_true

theorem slH : Sl1 Try.prog 102 3 := ⟨Try.underlying102, ⟨(Try.prog.info? 3).get (by kernel_rfl), by kernel_rfl, by kernel_rfl⟩, ⟨_, Try.underlying3, rfl⟩⟩
theorem slTH : SlT Try.prog 102 3 8 (.int .i64 0) := ⟨Try.underlying102, info3, ⟨_, Try.underlying3, rfl⟩, rfl, rfl, rfl⟩

theorem push1 {h : AH} {x y : Int} : ACall Try.prog 82 [.int .i64 x, .int .i64 y] h (fun r h' => (∃ k : Int, r = .int .i64 k) ∧ h' = h) := by
  refine ACall.of_wp 8 [.tmp 4] Try.func82 rfl (by kernel_rfl) rfl rfl fun a hn hd ha => ?_
  simp (disch := first | omega | decide) only [push_cast, ↓reduceIte, Nat.reduceLT, Nat.reduceEqDiff, reduceCtorEq, Nat.reduceAdd, hn, hd, ha]
  exact ⟨_, rfl⟩

theorem wrapU {x : Int} (h0 : 0 ≤ x) (h1 : x < 18446744073709551616) : IntKind.u64.wrap x = x := by
  unfold IntKind.wrap
  simp [IntKind.bits, IntKind.signed]
  omega
theorem half (i j : Nat) : (((i : Int) + (j : Int)).fdiv 2) = (((i + j) / 2 : Nat) : Int) := by
  rw [Int.fdiv_eq_ediv_of_nonneg _ (by omega)]; omega

theorem pow1 : (2 : Int) ^ min (Int.toNat 1) IntKind.u64.bits = 2 := by decide

theorem search {h : AH} {v : Value} {zs : List Int} {t : Int} (hv : SlOf h v (zs.map (.int .i64))) (hb : zs.length ≤ 4294967296) :
    ACall Try.prog 81 [v, .int .i64 t, .func (.func 82) #[] #[]] h (fun r h' => (∃ (p : Nat) (b : Bool), p ≤ zs.length ∧ r = .tuple #[.int .i64 p, .bool b]) ∧ h' = h) := by
  refine ACall.of_wp 49 [.tmp 6, .tmp 7] Try.func81 rfl (by kernel_rfl) rfl rfl fun a hn hd ha => ?_
  simp (disch := first | omega | decide) only [push_cast, ↓reduceIte, Nat.reduceLT, Nat.reduceEqDiff, reduceCtorEq, Nat.reduceAdd, hn, hd, ha, hv.lenA Try.underlying102]
  refine AW.loopN 15 [9, 10, 11] (fun m a' h' => h' = h ∧ ∃ i j : Nat, a'.tm 9 = .int .i64 i ∧ a'.tm 10 = .int .i64 j ∧ i + m = j ∧ j ≤ zs.length) zs.length ?_ ?_
  · exact ⟨rfl, 0, zs.length, by simp (disch := first | omega | decide) only [push_cast, ↓reduceIte, Nat.reduceLT, Nat.reduceEqDiff, reduceCtorEq, Nat.reduceAdd], by simp (disch := first | omega | decide) only [push_cast, ↓reduceIte, Nat.reduceLT, Nat.reduceEqDiff, reduceCtorEq, Nat.reduceAdd], by omega, by omega⟩
  · rintro a1 m a' h' hk kn kd kt ⟨rfl, i, j, h9, h10, him, hj⟩
    simp (disch := first | omega | decide) only [push_cast, ↓reduceIte, Nat.reduceLT, Nat.reduceEqDiff, reduceCtorEq, Nat.reduceAdd, kn, kd, kt, hn, hd, ha, h9, h10]
    refine condV_of (fun hlt => ?_) (fun hge => ?_)
    · have hij : i < j := by have := hlt; simp at this; omega
      have hmid : (i + j) / 2 < zs.length := by omega
      simp (disch := first | omega | decide) only [push_cast, ↓reduceIte, Nat.reduceLT, Nat.reduceEqDiff, reduceCtorEq, Nat.reduceAdd, kn, kd, kt, hn, hd, ha, h9, h10, aBytes_skip ⟨_, Try.underlying3⟩, aBytes_skip ⟨_, Try.underlying107⟩, aConvI Try.underlying3 Try.underlying107, aConvI Try.underlying107 Try.underlying3, shrR, pow1, half, wrapI, wrapU, hv.idxI slH, hv.ldI slH]
      refine ACall.mono ?_ push1
      rintro _ _ ⟨⟨k, rfl⟩, rfl⟩
      simp (disch := first | omega | decide) only [push_cast, ↓reduceIte, Nat.reduceLT, Nat.reduceEqDiff, reduceCtorEq, Nat.reduceAdd, kn, kd, kt, hn, hd, ha, h9, h10]
      refine condV_of (fun hc => ?_) (fun hc => ?_)
      · simp (disch := first | omega | decide) only [push_cast, ↓reduceIte, Nat.reduceLT, Nat.reduceEqDiff, reduceCtorEq, Nat.reduceAdd, kn, kd, kt, hn, hd, ha, h9, h10, wrapI]
        exact ⟨j - ((i + j) / 2 + 1), by omega, (by simp (disch := decide) only [Kp_put, put_none, hk]), rfl, (i + j) / 2 + 1, j, by simp (disch := first | omega | decide) only [push_cast, ↓reduceIte, Nat.reduceLT, Nat.reduceEqDiff, reduceCtorEq, Nat.reduceAdd, h10], by simp (disch := first | omega | decide) only [push_cast, ↓reduceIte, Nat.reduceLT, Nat.reduceEqDiff, reduceCtorEq, Nat.reduceAdd, h10], by omega, hj⟩
      · simp (disch := first | omega | decide) only [push_cast, ↓reduceIte, Nat.reduceLT, Nat.reduceEqDiff, reduceCtorEq, Nat.reduceAdd, kn, kd, kt, hn, hd, ha, h9, h10]
        exact ⟨(i + j) / 2 - i, by omega, (by simp (disch := decide) only [Kp_put, put_none, hk]), rfl, i, (i + j) / 2, by simp (disch := first | omega | decide) only [push_cast, ↓reduceIte, Nat.reduceLT, Nat.reduceEqDiff, reduceCtorEq, Nat.reduceAdd, h9], by simp (disch := first | omega | decide) only [push_cast, ↓reduceIte, Nat.reduceLT, Nat.reduceEqDiff, reduceCtorEq, Nat.reduceAdd], by omega, by omega⟩
    · have hij : i = j := by have := hge; simp at this; omega
      subst hij
      simp (disch := first | omega | decide) only [push_cast, ↓reduceIte, Nat.reduceLT, Nat.reduceEqDiff, reduceCtorEq, Nat.reduceAdd, kn, kd, kt, hn, hd, ha, h9, h10]
      refine wantM_of (fun hc => ?_) (fun hc => ?_)
      · have hi : i < zs.length := by simp at hc; omega
        simp (disch := first | omega | decide) only [push_cast, ↓reduceIte, Nat.reduceLT, Nat.reduceEqDiff, reduceCtorEq, Nat.reduceAdd, kn, kd, kt, hn, hd, ha, h9, h10, hc, hv.idxI slH, hv.ldI slH]
        refine ACall.mono ?_ push1
        rintro _ _ ⟨⟨k, rfl⟩, rfl⟩
        simp (disch := first | omega | decide) only [push_cast, ↓reduceIte, Nat.reduceLT, Nat.reduceEqDiff, reduceCtorEq, Nat.reduceAdd, kn, kd, kt, hn, hd, ha, h9, h10, hc]
        exact ⟨i, _, hj, rfl⟩
      · simp (disch := first | omega | decide) only [push_cast, ↓reduceIte, Nat.reduceLT, Nat.reduceEqDiff, reduceCtorEq, Nat.reduceAdd, kn, kd, kt, hn, hd, ha, h9, h10, hc]
        exact ⟨i, _, hj, rfl⟩

/-! ### slices.Insert -/

theorem undI : Try.prog.underlying 3 = some (.int .i64) := Try.underlying3

/-- Insertion at the end is an append. -/
theorem insertEnd {h : AH} {v : Value} {ob : Option AObj} {A B : Nat} {zs : List Value} {x : Int} {oB : AObj} (hw : WFH h) (hv : Vec 3 v ob A zs) (hg : ∀ o, ob = some o → h.get A = some o) (hB : h.get B = some oB) (hBc : oB.cells? = some [.int .i64 x]) (hb : zs.length ≤ 4294967296) :
    ACall Try.prog 83 [v, .int .i64 zs.length, .slice (some ⟨B, 0, none⟩) 1 1] h (fun r h' => VecUp 3 h ob A r (zs ++ [.int .i64 x]) h') := by
  refine ACall.of_wp 95 [.tmp 6] Try.func83 rfl (by kernel_rfl) rfl rfl fun a hn hd ha => ?_
  obtain ⟨r, h', happ, hup⟩ := appendV slTH ⟨_, Try.underlying22⟩ hw hv hg hB hBc rfl (by omega) (by omega)
  have hsl : ∃ r, aSlice Try.prog 102 v (some (.int .i64 zs.length)) none = some r := by
    have hb2 : bnd (some (.int .i64 (zs.length : Int))) 0 = some zs.length := by simp [bnd]
    have hb3 : bnd none zs.length = some zs.length := rfl
    obtain ⟨ie, hie, hs⟩ := slH.one
    rcases hv with ⟨rfl, rfl, _⟩ | ⟨cs, rfl, rfl, _, ht⟩ | ⟨cs, C, rfl, hc, hle, _, rfl, ht⟩
    · have hb2' : bnd (some (.int .i64 (([] : List Value).length : Int))) 0 = some 0 := rfl
      have hb3' : bnd none 0 = some 0 := rfl
      simp only [aSlice, Try.underlying102, hb2', hb3', hie]
      simp
    · have hn : ¬ (SL + 1 < SL) := by omega
      simp only [aSlice, Try.underlying102, hb2, hb3, hie]
      rw [if_neg hn, if_pos ⟨by rw [hs], by omega, by omega⟩]
      exact ⟨_, rfl⟩
    · have hn : C < SL := by unfold SL; omega
      simp only [aSlice, Try.underlying102, hb2, hb3, hie]
      rw [if_pos hn, if_pos ⟨by omega, by omega⟩]
      exact ⟨_, rfl⟩
  obtain ⟨r0, hsl⟩ := hsl
  have hl : aLen Try.prog 102 v h = some (.int .i64 zs.length) := (hv.sl hg).len Try.underlying102
  simp (disch := first | omega | decide) only [push_cast, ↓reduceIte, Nat.reduceLT, Nat.reduceEqDiff, reduceCtorEq, Nat.reduceAdd, hn, hd, ha, hsl, lenS Try.underlying22, hl, happ, decide_eq_false, decide_eq_true]
  exact hup

theorem ins_grow {cs : List Value} {C i k : Nat} {x z : Value} (hi : i < C) (hC : C ≤ cs.length) (hk : i + k = C + 1) :
    setL ((cs.take i ++ List.replicate k z).set i x) (i + 1) ((cs.drop i).take (C - i)) = (cs.take C).take i ++ [x] ++ (cs.take C).drop i := by
  obtain ⟨k, rfl⟩ : ∃ m, k = m + 1 := ⟨k - 1, by omega⟩
  have hl : (cs.take i).length = i := by simp; omega
  have e1 : (cs.take i ++ List.replicate (k + 1) z).set i x = (cs.take i ++ [x]) ++ List.replicate k z := by
    rw [List.set_append_right _ _ (by omega), hl, Nat.sub_self]
    simp [List.replicate_succ]
  rw [e1]
  have := setL_all ((cs.drop i).take (C - i)) (List.replicate k z) (cs.take i ++ [x]) (by simp; omega)
  simp only [List.length_append, hl, List.length_cons, List.length_nil] at this
  rw [this, List.take_take, List.drop_take, Nat.min_eq_left (by omega)]

theorem ins_room {cs : List Value} {n C i : Nat} {x : Value} (hi : i < n) (hn : n + 1 ≤ C) (hC : C ≤ cs.length) :
    ((setL cs (i + 1) ((cs.drop i).take (n - i))).set i x).take (n + 1) = (cs.take n).take i ++ [x] ++ (cs.take n).drop i := by
  have h0 : (cs.take (i + 1)).length = i + 1 := by simp; omega
  have h1 : ((cs.drop (i + 1)).take (n - i)).length = n - i := by simp; omega
  have e0 : cs = cs.take (i + 1) ++ ((cs.drop (i + 1)).take (n - i) ++ cs.drop (n + 1)) := by
    have e : cs.drop (n + 1) = (cs.drop (i + 1)).drop (n - i) := by rw [List.drop_drop]; congr 1; omega
    rw [e, List.take_append_drop, List.take_append_drop]
  have e1 : setL cs (i + 1) ((cs.drop i).take (n - i)) = cs.take (i + 1) ++ ((cs.drop i).take (n - i) ++ cs.drop (n + 1)) := by
    have key : ∀ (xs a pre post : List Value), a.length = xs.length → setL (pre ++ (a ++ post)) pre.length xs = pre ++ (xs ++ post) := by
      intro xs
      induction xs with
      | nil => intro a pre post h; have : a = [] := List.eq_nil_of_length_eq_zero h; simp [setL, this]
      | cons y xs ih =>
        intro a pre post h
        cases a with
        | nil => simp at h
        | cons b a =>
          simp only [setL]
          have e : (pre ++ (b :: a ++ post)).set pre.length y = (pre ++ [y]) ++ (a ++ post) := by simp
          rw [e]
          have := ih a (pre ++ [y]) post (by simpa using h)
          simp only [List.length_append, List.length_cons, List.length_nil] at this
          rw [this]; simp
    have := key ((cs.drop i).take (n - i)) ((cs.drop (i + 1)).take (n - i)) (cs.take (i + 1)) (cs.drop (n + 1)) (by simp; omega)
    rw [h0, ← e0] at this
    exact this
  rw [e1]
  have e2 : (cs.take (i + 1) ++ ((cs.drop i).take (n - i) ++ cs.drop (n + 1))).set i x = cs.take i ++ ([x] ++ ((cs.drop i).take (n - i) ++ cs.drop (n + 1))) := by
    have e : cs.take (i + 1) = cs.take i ++ [cs[i]'(by omega)] := by rw [List.take_add_one]; simp [show i < cs.length by omega]
    have hl : (cs.take i).length = i := by simp; omega
    rw [e, List.append_assoc, List.set_append_right _ _ (by omega), hl, Nat.sub_self]
    simp
  rw [e2]
  have e3 : cs.take i ++ ([x] ++ ((cs.drop i).take (n - i) ++ cs.drop (n + 1))) = (cs.take i ++ [x] ++ (cs.drop i).take (n - i)) ++ cs.drop (n + 1) := by simp
  rw [e3, List.take_append_of_le_length (by simp; omega), List.take_of_length_le (by simp; omega), List.take_take, List.drop_take, Nat.min_eq_left (by omega)]

theorem insertX {h : AH} {A B C n i : Nat} {cs : List Value} {x : Int} {eB : TypeId} (hw : WFH h) (hA : h.get A = some (.row cs 3 true)) (hB : h.get B = some (.row [.int .i64 x] eB true)) (hne : A ≠ B) (hi : i < n) (hnC : n ≤ C) (hCl : C ≤ cs.length) (hCm : C ≤ 9223372036854775807) (hb : n ≤ 4294967296) :
    ACall Try.prog 83 [.slice (some ⟨A, 0, none⟩) n C, .int .i64 i, .slice (some ⟨B, 0, none⟩) 1 1] h (fun r h' => VecUp 3 h (some (.row cs 3 true)) A r ((cs.take n).take i ++ [.int .i64 x] ++ (cs.take n).drop i) h') := by
  refine ACall.of_wpX [8, 9, 14] 95 [.tmp 6] Try.func83 rfl (by kernel_rfl) rfl rfl fun a hn hd ha => ?_
  have hCS : C < SL := by unfold SL; omega
  simp (disch := first | omega | decide) only [push_cast, ↓reduceIte, Nat.reduceLT, Nat.reduceEqDiff, reduceCtorEq, Nat.reduceAdd, hn, hd, ha, sliceLoX slH, lenS Try.underlying22, lenS Try.underlying102, decide_eq_false]
  refine AW.regionN 4 (by simp) ?_
  simp (disch := first | omega | decide) only [push_cast, ↓reduceIte, Nat.reduceLT, Nat.reduceEqDiff, reduceCtorEq, Nat.reduceAdd, hn, hd, ha, wrapI]
  refine SemOp.cap (T := 102) (e := 3) (p := some ⟨A, 0, none⟩) (l := n) (c := C) (x := .tmp 29) rfl rfl rfl (by simp (disch := first | omega | decide) only [push_cast, ↓reduceIte, Nat.reduceLT, Nat.reduceEqDiff, reduceCtorEq, Nat.reduceAdd, dst_some, hn]) Try.underlying102 (by simp (disch := first | omega | decide) only [push_cast, ↓reduceIte, Nat.reduceLT, Nat.reduceEqDiff, reduceCtorEq, Nat.reduceAdd, hn, ha]) hCS ?_
  have hAn : A < h.next := AH.get_lt hw hA
  have hBn : B < h.next := AH.get_lt hw hB
  simp (disch := first | omega | decide) only [push_cast, ↓reduceIte, Nat.reduceLT, Nat.reduceEqDiff, reduceCtorEq, Nat.reduceAdd, hn, hd, ha]
  refine condV_of (fun h0 => ?_) (fun h0 => ?_)
  · -- no room
    have hC : C = n := by have := h0; simp at this; omega
    subst hC
    simp (disch := first | omega | decide) only [push_cast, ↓reduceIte, Nat.reduceLT, Nat.reduceEqDiff, reduceCtorEq, Nat.reduceAdd, hn, hd, ha]
    refine AW.regionN 8 (by simp) ?_
    obtain ⟨k, hk⟩ : ∃ k : Nat, (C : Int) + 1 - i = k := ⟨C + 1 - i, by omega⟩
    simp (disch := first | omega | decide) only [push_cast, ↓reduceIte, Nat.reduceLT, Nat.reduceEqDiff, reduceCtorEq, Nat.reduceAdd, hn, hd, ha, sliceHiX slH, wrapI]
    refine SemOp.appendZ (T := 102) (TI := 3) (B := 8) (z := .int .i64 0) (A := A) (i := i) (C := C) (k := k) (cs := cs) (s := .tmp 34) (x := .tmp 39) rfl rfl rfl rfl (by simp (disch := first | omega | decide) only [push_cast, ↓reduceIte, Nat.reduceLT, Nat.reduceEqDiff, reduceCtorEq, Nat.reduceAdd, dst_some, hn]) slTH undI (by simp (disch := first | omega | decide) only [push_cast, ↓reduceIte, Nat.reduceLT, Nat.reduceEqDiff, reduceCtorEq, Nat.reduceAdd, hn, ha]) hCS (by omega) (by simp (disch := first | omega | decide) only [push_cast, ↓reduceIte, Nat.reduceLT, Nat.reduceEqDiff, reduceCtorEq, Nat.reduceAdd, hn, ha, hk]) hA rfl (by omega) (by omega) (by omega) (by omega) (by omega) ?_
    generalize hG : h.new (.grow (cs.take i ++ List.replicate k (.int .i64 0)) 3) = h2
    have hw2 : WFH h2 := by rw [← hG]; exact hw.new _
    have hGg : h2.get h.next = some (.grow (cs.take i ++ List.replicate k (.int .i64 0)) 3) := by rw [← hG, AH.new_get, if_pos rfl]
    have hB2 : h2.get B = some (.row [.int .i64 x] eB true) := by rw [← hG, AH.new_get, if_neg (by omega)]; exact hB
    have hA2 : h2.get A = some (.row cs 3 true) := by rw [← hG, AH.new_get, if_neg (by omega)]; exact hA
    have hc1 := aCopyL (n := 1) (la := i + k - i) (lb := 1) (ca := SL + 1) (cb := 1) (oa := i) (ob := 0) slH (by omega) (by omega) hB2 rfl (by simp) hGg (o' := .grow ((cs.take i ++ List.replicate k (Value.int .i64 0)).set i (.int .i64 x)) 3) (by
      have hle : i + 1 ≤ (cs.take i ++ List.replicate k (Value.int .i64 0)).length := by simp; omega
      simp only [AObj.setCells, List.drop_zero, List.take_succ_cons, List.take_zero, List.length_cons, List.length_nil, Nat.zero_add, if_pos hle]
      rfl)
    simp (disch := first | omega | decide) only [push_cast, ↓reduceIte, Nat.reduceLT, Nat.reduceEqDiff, reduceCtorEq, Nat.reduceAdd, hn, hd, ha, sliceLoS slH, hc1]
    generalize hG3 : h2.set h.next _ = h3
    have hw3 : WFH h3 := by rw [← hG3]; exact hw2.set (AH.get_lt hw2 hGg) _
    have hGg3 : h3.get h.next = some (.grow ((cs.take i ++ List.replicate k (Value.int .i64 0)).set i (.int .i64 x)) 3) := by rw [← hG3, AH.set_get, if_pos rfl]
    have hA3 : h3.get A = some (.row cs 3 true) := by rw [← hG3, AH.set_get, if_neg (by omega)]; exact hA2
    refine AW.drawT (.take 0 [8, 4] (.take 1 [8, 4, 3] (.take 2 [8, 4, 3] (.take 3 [8, 4] (.take 4 [8] (.take 5 [8, 7] (.take 6 [8, 7] (.take 7 [8] (.only 8 .done))))))))) [0, 0, 0, 0, 0, 0, 0, 0, 2] mixed (by kernel_rfl) (by kernel_rfl) ?_
    have hc2 := aCopyL (n := C - i) (la := i + k - (i + 1)) (lb := C - i) (ca := SL + 1) (cb := C - i) (oa := i + 1) (ob := i) slH (by omega) (by omega) hA3 rfl (by omega) hGg3 (o' := .grow (setL ((cs.take i ++ List.replicate k (Value.int .i64 0)).set i (.int .i64 x)) (i + 1) ((cs.drop i).take (C - i))) 3) (by
      have hle : i + 1 + ((cs.drop i).take (C - i)).length ≤ ((cs.take i ++ List.replicate k (Value.int .i64 0)).set i (.int .i64 x)).length := by simp; omega
      simp only [AObj.setCells, if_pos hle])
    have ht1 : ((i : Int) + 1).toNat = i + 1 := by omega
    simp (disch := first | omega | decide) only [push_cast, ↓reduceIte, Nat.reduceLT, Nat.reduceEqDiff, reduceCtorEq, Nat.reduceAdd, hn, hd, ha, sliceLoS slH, sliceLoX slH, ht1, hc2, wrapI]
    have hik : i + k = C + 1 := by omega
    rw [ins_grow hi hCl hik]
    have hlz : ((cs.take C).take i ++ [Value.int .i64 x] ++ (cs.take C).drop i).length = i + k := by simp; omega
    refine ⟨⟨h.next, _, .inr (.inl ⟨_, by rw [hlz], rfl, Nat.le_refl _, List.take_length⟩), by rw [AH.set_get, if_pos rfl], .inr (Nat.le_refl _)⟩, fun D o hD hDA => ?_, hw3.set (AH.get_lt hw3 hGg3) _, by rw [AH.set_next, ← hG3, AH.set_next, ← hG]; simp⟩
    have hDn := AH.get_lt hw hD
    rw [AH.set_get, if_neg (by omega), ← hG3, AH.set_get, if_neg (by omega), ← hG, AH.new_get, if_neg (by omega)]; exact hD
  · -- room
    have hroom : n + 1 ≤ C := by have := h0; simp at this; omega
    simp (disch := first | omega | decide) only [push_cast, ↓reduceIte, Nat.reduceLT, Nat.reduceEqDiff, reduceCtorEq, Nat.reduceAdd, hn, hd, ha, sliceHiX slH, wrapI]
    refine AW.regionN 6 (by simp) ?_
    have ht1 : ((i : Int) + 1).toNat = i + 1 := by omega
    have ht2 : ((n : Int) + 1).toNat = n + 1 := by omega
    simp (disch := first | omega | decide) only [push_cast, ↓reduceIte, Nat.reduceLT, Nat.reduceEqDiff, reduceCtorEq, Nat.reduceAdd, hn, hd, ha, sliceLoX slH, wrapI, ht1, ht2]
    refine SemOp.overlaps (x := .tmp 61) (y := .tmp 66) (g := 101) (T := 22) (TB := 4) (e := 3) (B := B) (A := A) (ob := 0) (oa := i + 1) (lb := 1) (cb := 1) (la := n + 1 - (i + 1)) (ca' := C - (i + 1)) rfl rfl rfl rfl (by simp (disch := first | omega | decide) only [push_cast, ↓reduceIte, Nat.reduceLT, Nat.reduceEqDiff, reduceCtorEq, Nat.reduceAdd, dst_some, hn])
      Try.func101 (by kernel_rfl) (by kernel_rfl) (by kernel_rfl) (by kernel_rfl) Try.underlying22 sl22.one (by simp (disch := first | omega | decide) only [push_cast, ↓reduceIte, Nat.reduceLT, Nat.reduceEqDiff, reduceCtorEq, Nat.reduceAdd, hn, ha]) (by unfold SL; omega) (by simp (disch := first | omega | decide) only [push_cast, ↓reduceIte, Nat.reduceLT, Nat.reduceEqDiff, reduceCtorEq, Nat.reduceAdd, hn, ha]) (by omega) ⟨by omega, by omega⟩ hne hB (by simp) hA rfl rfl (by omega) ?_
    simp (disch := first | omega | decide) only [push_cast, ↓reduceIte, Nat.reduceLT, Nat.reduceEqDiff, reduceCtorEq, Nat.reduceAdd, hn, hd, ha]
    refine AW.drawT (.take 0 [8, 4] (.take 1 [8, 4, 3] (.take 2 [8, 4, 3] (.take 3 [8, 4] (.take 4 [8] (.take 5 [8, 7] (.take 6 [8, 7] (.take 7 [8] (.only 8 .done))))))))) [0, 0, 0, 0, 0, 0, 0, 0, 2] mixed (by kernel_rfl) (by kernel_rfl) ?_
    have hc1 := aCopyL (n := n - i) (la := n + 1 - (i + 1)) (lb := n + 1 - i) (ca := C - (i + 1)) (cb := C - i) (oa := i + 1) (ob := i) slH (by omega) (by omega) hA rfl (by omega) hA (o' := .row (setL cs (i + 1) ((cs.drop i).take (n - i))) 3 true) (by
      have hle : i + 1 + ((cs.drop i).take (n - i)).length ≤ cs.length := by simp; omega
      simp only [AObj.setCells, if_pos hle])
    simp (disch := first | omega | decide) only [push_cast, ↓reduceIte, Nat.reduceLT, Nat.reduceEqDiff, reduceCtorEq, Nat.reduceAdd, hn, hd, ha, sliceLoX slH, ht1, hc1, wrapI]
    generalize hG3 : h.set A _ = h3
    have hw3 : WFH h3 := by rw [← hG3]; exact hw.set hAn _
    have hA3 : h3.get A = some (.row (setL cs (i + 1) ((cs.drop i).take (n - i))) 3 true) := by rw [← hG3, AH.set_get, if_pos rfl]
    have hB3 : h3.get B = some (.row [.int .i64 x] eB true) := by rw [← hG3, AH.set_get, if_neg (fun e => hne e.symm)]; exact hB
    have hsl : (setL cs (i + 1) ((cs.drop i).take (n - i))).length = cs.length := setL_length _ _ _
    have hc2 := aCopyL (n := 1) (la := n + 1 - i) (lb := 1) (ca := C - i) (cb := 1) (oa := i) (ob := 0) slH (by omega) (by omega) hB3 rfl (by simp) hA3 (o' := .row ((setL cs (i + 1) ((cs.drop i).take (n - i))).set i (.int .i64 x)) 3 true) (by
      have hle : i + 1 ≤ (setL cs (i + 1) ((cs.drop i).take (n - i))).length := by omega
      simp only [AObj.setCells, List.drop_zero, List.take_succ_cons, List.take_zero, List.length_cons, List.length_nil, Nat.zero_add, if_pos hle]
      rfl)
    simp (disch := first | omega | decide) only [push_cast, ↓reduceIte, Nat.reduceLT, Nat.reduceEqDiff, reduceCtorEq, Nat.reduceAdd, hn, hd, ha, sliceLoX slH, hc2]
    have hlz : ((cs.take n).take i ++ [Value.int .i64 x] ++ (cs.take n).drop i).length = n + 1 := by simp; omega
    refine ⟨⟨A, _, .inr (.inr ⟨_, C, by rw [hlz], hCm, by rw [hlz]; exact hroom, ?_, rfl, by rw [hlz]; exact ins_room hi hroom hCl⟩), by rw [AH.set_get, if_pos rfl], .inl ⟨rfl, by simp⟩⟩, fun D o hD hDA => ?_, hw3.set (AH.get_lt hw3 hA3) _, by rw [AH.set_next, ← hG3]; simp⟩
    · rw [List.length_set, hsl]; exact hCl
    · have hD2 : D ≠ A := fun e => by have := hDA e; simp at this
      rw [AH.set_get, if_neg hD2, ← hG3, AH.set_get, if_neg hD2]; exact hD

theorem insert {h : AH} {v : Value} {ob : Option AObj} {A B i : Nat} {zs : List Value} {x : Int} {eB : TypeId} (hw : WFH h) (hv : Vec 3 v ob A zs) (hg : ∀ o, ob = some o → h.get A = some o) (hB : h.get B = some (.row [.int .i64 x] eB true)) (hne : ob ≠ none → A ≠ B) (hi : i ≤ zs.length) (hb : zs.length ≤ 4294967296) :
    ACall Try.prog 83 [v, .int .i64 i, .slice (some ⟨B, 0, none⟩) 1 1] h (fun r h' => VecUp 3 h ob A r (zs.take i ++ [.int .i64 x] ++ zs.drop i) h') := by
  by_cases he : i = zs.length
  · subst he
    rw [List.take_length, List.drop_length, List.append_nil]
    exact insertEnd hw hv hg hB rfl hb
  · have hlt : i < zs.length := by omega
    rcases hv with ⟨rfl, _⟩ | ⟨cs, rfl, rfl, hle, ht⟩ | ⟨cs, C, rfl, hCm, hnC, hCl, rfl, ht⟩
    · simp at hlt
    · refine ACall.reveal (hg _ rfl) (by omega) ⟨_, Try.func83, rfl, by kernel_rfl⟩ fun C junk h1 h2 h3 => ?_
      have hA := hg _ rfl
      have hAn := AH.get_lt hw hA
      have hne' := hne (by simp)
      refine ACall.mono ?_ (insertX (A := A) (C := C) (n := zs.length) (cs := cs ++ junk) (i := i) (hw.set hAn _) (by rw [AH.set_get, if_pos rfl]) (by rw [AH.set_get, if_neg (fun e => hne' e.symm)]; exact hB) hne' hlt h1 h3 h2 hb)
      intro r h' hu
      have e : (cs ++ junk).take zs.length = zs := by rw [List.take_append_of_le_length hle, ht]
      rw [e] at hu
      obtain ⟨⟨A', o', u1, u2, u3⟩, u4, u5, u6⟩ := hu
      refine ⟨⟨A', o', u1, u2, u3.imp (fun x => ⟨x.1, by simp⟩) id⟩, fun D o hD hDA => u4 D o ?_ ?_, u5, u6⟩
      · have hD2 : D ≠ A := fun e => by have := hDA e; simp at this
        rw [AH.set_get, if_neg hD2]; exact hD
      · intro e; have := hDA e; simp at this
    · have hne' := hne (by simp)
      have := insertX (A := A) (C := C) (n := zs.length) (cs := cs) (i := i) hw (hg _ rfl) hB hne' hlt hnC hCl hCm hb
      rw [ht] at this
      exact this


theorem flH : Fl Try.prog 102 := ⟨_, Try.underlying102, rfl⟩
theorem szH : ∃ i, Try.prog.info? 102 = some i ∧ i.size = 1 := ⟨(Try.prog.info? 102).get (by kernel_rfl), by kernel_rfl, by kernel_rfl⟩

theorem _root_.Go.Ab.Vec.shape {e : TypeId} {v : Value} {ob : Option AObj} {A : Nat} {zs : List Value} (hv : Vec e v ob A zs) : v.cells.toList = [v] ∧ oneC v = true := by
  rcases hv with ⟨_, rfl, _⟩ | ⟨cs, rfl, _⟩ | ⟨cs, C, rfl, _⟩ <;> exact ⟨rfl, rfl⟩

theorem _root_.Go.Ab.Vec.pre {e : TypeId} {v : Value} {ob : Option AObj} {A : Nat} {zs : List Value} (hv : Vec e v ob A zs) {t : TypeId} (ht : Sl1 Try.prog t e) (h0 : 0 < zs.length) {n : Nat} (hn : n ≤ zs.length) :
    ∃ v', aSlice Try.prog t v none (some (.int .i64 n)) = some v' ∧ Vec e v' ob A (zs.take n) := by
  have hl : (zs.take n).length = n := by simp; omega
  rcases hv with ⟨rfl, _⟩ | ⟨cs, rfl, rfl, hle, htk⟩ | ⟨cs, C, rfl, hc, hle, hcl, rfl, htk⟩
  · simp at h0
  · refine ⟨.slice (some ⟨A, 0, none⟩) n (SL + 1), ?_, .inr (.inl ⟨cs, by rw [hl], rfl, by omega, ?_⟩)⟩
    · rw [sliceHiS ht A 0 zs.length .i64 n (by omega) (by omega), Int.toNat_natCast]
    · rw [hl, ← htk, List.take_take, Nat.min_eq_left hn]
  · refine ⟨.slice (some ⟨A, 0, none⟩) n C, ?_, .inr (.inr ⟨cs, C, by rw [hl], hc, by omega, hcl, rfl, ?_⟩)⟩
    · rw [sliceHiX ht A 0 zs.length C .i64 n (by unfold SL; omega) (by omega) (by omega), Int.toNat_natCast]
    · rw [hl, ← htk, List.take_take, Nat.min_eq_left hn]

def ins (p : Nat) (x : Int) (zs : List Int) : List Int := zs.take p ++ [x] ++ zs.drop p

/-- What push leaves. -/
def PushPost (b : AH) (nm : Nat → Nat) (ob : Nat → Option AObj) (zs : List Int) (x : Int) (_ : Value) (h' : AH) : Prop :=
  ∃ rv A' o' p, p ≤ zs.length ∧ Vec 3 rv (some o') A' ((ins p x zs).map (.int .i64)) ∧ Owns b h' (upd nm 3 A') (upd (upd ob 3 (some o')) 2 (some (.row [rv] 102 true)))

theorem push {b h : AH} (w0 : WFH b) {nm : Nat → Nat} {ob : Nat → Option AObj} (ho : Owns b h nm ob) {rv : Value} (h2 : ob 2 = some (.row [rv] 102 true)) {zs : List Int} (hv : Vec 3 rv (ob 3) (nm 3) (zs.map (.int .i64))) (hb : zs.length ≤ 4294967296) (x : Int) :
    ACall Try.prog 67 [.pointer (some ⟨nm 2, 0, none⟩), .int .i64 x] h (PushPost b nm ob zs x) := by
  refine ACall.of_wp 23 [] Try.func67 rfl (by kernel_rfl) rfl rfl fun a hn hd ha => ?_
  have hH := ho.get 2 _ h2
  have hld := ldL (P := Try.prog) hH rfl flH
  simp only [List.length_cons, List.length_nil] at hld
  have hsl : SlOf h rv (zs.map (.int .i64)) := hv.sl (ho.get 3)
  simp (disch := first | omega | decide) only [push_cast, ↓reduceIte, Nat.reduceLT, Nat.reduceEqDiff, reduceCtorEq, Nat.reduceAdd, hn, hd, ha, hld]
  refine ACall.mono ?_ (search hsl hb)
  rintro _ _ ⟨⟨p, q, hp, rfl⟩, rfl⟩
  rename_i h
  have hw := ho.gr.wf
  have g1 : Gr h (h.new (.row [.int .i64 x] 3 true)) := (Gr.refl hw).new _
  have hB : (h.new (.row [.int .i64 x] 3 true)).get h.next = some (.row [.int .i64 x] 3 true) := by rw [AH.new_get, if_pos rfl]
  have ho1 := ho.grown g1
  simp (disch := first | omega | decide) only [push_cast, ↓reduceIte, Nat.reduceLT, Nat.reduceEqDiff, reduceCtorEq, Nat.reduceAdd, hn, hd, ha, hld, aBuild1 t22 h (x := .int .i64 x) rfl rfl]
  generalize h.new (.row [.int .i64 x] 3 true) = h1 at hB ho1 g1 ⊢
  have hne : ob 3 ≠ none → nm 3 ≠ h.next := by
    intro h3
    cases h3' : ob 3 with
    | none => exact absurd h3' h3
    | some o => have := AH.get_lt hw (ho.get 3 o h3'); omega
  refine ACall.mono ?_ (insert (i := p) ho1.gr.wf hv (ho1.get 3) hB hne (by simpa using hp) (by simpa using hb))
  intro r h' hu
  obtain ⟨A', o', hv', ho'⟩ := ho1.vec w0 hu
  have h2' : upd ob 3 (some o') 2 = some (.row [rv] 102 true) := by rw [upd_ne _ _ (by decide)]; exact h2
  have hH' := ho'.get 2 _ h2'
  rw [upd_ne _ _ (by decide)] at hH'
  have hst := stC szH hH' 0 r (by simp) hv'.shape.1 hv'.shape.2
  simp (disch := first | omega | decide) only [push_cast, ↓reduceIte, Nat.reduceLT, Nat.reduceEqDiff, reduceCtorEq, Nat.reduceAdd, hn, hd, ha, hst]
  refine ⟨r, A', o', p, hp, ?_, ?_⟩
  · have e : (ins p x zs).map (Value.int .i64) = (zs.map (Value.int .i64)).take p ++ [.int .i64 x] ++ (zs.map (Value.int .i64)).drop p := by simp [ins]
    rw [e]; exact hv'
  · have := ho'.set w0 h2' (o' := .row [r] 102 true)
    rwa [upd_ne _ _ (by decide)] at this

/-- What pop leaves. -/
def PopPost (b : AH) (nm : Nat → Nat) (ob : Nat → Option AObj) (zs : List Int) (r : Value) (h' : AH) : Prop :=
  r = .int .i64 (zs.getD (zs.length - 1) 0) ∧ ∃ rv, Vec 3 rv (ob 3) (nm 3) ((zs.take (zs.length - 1)).map (.int .i64)) ∧ Owns b h' nm (upd ob 2 (some (.row [rv] 102 true)))

theorem pop {b h : AH} (w0 : WFH b) {nm : Nat → Nat} {ob : Nat → Option AObj} (ho : Owns b h nm ob) {rv : Value} (h2 : ob 2 = some (.row [rv] 102 true)) {zs : List Int} (hv : Vec 3 rv (ob 3) (nm 3) (zs.map (.int .i64))) (hb : zs.length ≤ 4294967296) (h0 : 0 < zs.length) :
    ACall Try.prog 68 [.pointer (some ⟨nm 2, 0, none⟩)] h (PopPost b nm ob zs) := by
  refine ACall.of_wp 24 [.tmp 2] Try.func68 rfl (by kernel_rfl) rfl rfl fun a hn hd ha => ?_
  have hH := ho.get 2 _ h2
  have hld := ldL (P := Try.prog) hH rfl flH
  simp only [List.length_cons, List.length_nil] at hld
  have hsl : SlOf h rv (zs.map (.int .i64)) := hv.sl (ho.get 3)
  obtain ⟨rv', hsv, hv'⟩ := hv.pre (t := 102) slH (by simpa using h0) (n := zs.length - 1) (by simp)
  have hk : ((zs.length : Int) - 1).toNat = zs.length - 1 := by omega
  obtain ⟨k, hk1⟩ : ∃ k : Nat, (zs.length : Int) - 1 = k := ⟨zs.length - 1, by omega⟩
  have hk2 : zs.length - 1 = k := by omega
  rw [hk2] at hsv hv'
  have hst := stC szH hH 0 rv' (by simp) hv'.shape.1 hv'.shape.2
  simp (disch := first | omega | decide) only [push_cast, ↓reduceIte, Nat.reduceLT, Nat.reduceEqDiff, reduceCtorEq, Nat.reduceAdd, hn, hd, ha, hld, hsl.lenM Try.underlying102, hk1, hsl.idxI slH, hsl.ldI slH, hsv, hst, wrapI]
  refine ⟨by rw [hk2], rv', by rw [hk2, List.map_take]; exact hv', ?_⟩
  exact ho.set w0 h2

end Go.Ab.S1

namespace Go.Ab.S1
open Go.Proofs

theorem getD_set {α : Type} {l : List α} {i j : Nat} {x d : α} (hi : i < l.length) : (l.set i x).getD j d = if j = i then x else l.getD j d := by
  simp only [List.getD_eq_getElem?_getD, List.getElem?_set]
  by_cases h : i = j
  · subst h; simp [hi]
  · have : ¬ j = i := fun e => h e.symm
    simp [h, this]

theorem take_succ_getD {α : Type} {l : List α} {q : Nat} (hq : q < l.length) (d : α) : l.take (q + 1) = l.take q ++ [l.getD q d] := by
  rw [List.take_add_one]
  simp [List.getD_eq_getElem?_getD, hq]

theorem ins_perm (p : Nat) (x : Int) (zs : List Int) : (ins p x zs).Perm (x :: zs) := by
  unfold ins
  have h : (zs.take p ++ [x] ++ zs.drop p).Perm ([x] ++ zs.take p ++ zs.drop p) := List.Perm.append_right _ List.perm_append_comm
  refine h.trans ?_
  simp

theorem BuildP.start (n : Net) : BuildP n 0 0 (List.replicate n.insts.length 0) (fun _ => []) [] := by
  refine ⟨by simp, fun j hj => ?_, fun k _ j => ?_, fun k _ => by simp, by simp, fun j => by simp; omega⟩
  · by_cases h : j = 0
    · subst h; simp [List.getD_eq_getElem?_getD, hj]
    · simp [List.getD_eq_getElem?_getD, hj, h]
  · show List.count j [] = _
    rw [List.count_nil]
    split
    · rename_i h; omega
    · split <;> simp

theorem BuildP.lt {n : Net} {i q : Nat} {M : List Int} {us : Nat → List Int} {R : List Int} (b : BuildP n i q M us R) (hi : i < n.insts.length) : M.getD i 0 = (((pinsOf n i).take q).countP (remB n []) : Int) := by
  have := b.m i hi
  rw [if_neg (by omega), if_pos rfl] at this; exact this

/-- A pin at an instance. -/
theorem BuildP.pin {n : Net} {i q : Nat} {M : List Int} {us : Nat → List Int} {R : List Int} (b : BuildP n i q M us R) (hi : i < n.insts.length) (hq : q < (pinsOf n i).length) {k : Nat} (hk : k < n.insts.length) (hp : (pinsOf n i).getD q 0 = firstE n + k) :
    BuildP n i (q + 1) (M.set i (M.getD i 0 + 1)) (upd us k (us k ++ [(i : Int)])) R := by
  have hM : i < M.length := by rw [b.len]; exact hi
  have hF : remB n [] (firstE n + k) = true := by simp [remB]; omega
  refine ⟨by rw [List.length_set]; exact b.len, fun j hj => ?_, fun k' hk' j => ?_, fun k' hk' => ?_, b.nd, b.r⟩
  · rw [getD_set hM]
    by_cases e : j = i
    · subst e
      rw [if_pos rfl, b.lt hi, if_neg (by omega), if_pos rfl, take_succ_getD hq 0, List.countP_append, hp]
      simp [hF]
    · rw [if_neg e, b.m j hj]
      by_cases h1 : j < i
      · rw [if_pos h1, if_pos h1]
      · rw [if_neg h1, if_neg h1, if_neg e, if_neg e]
  · have hb := b.u k' hk' j
    by_cases e : k' = k
    · subst e
      rw [upd_same, List.count_append, hb, take_succ_getD hq 0, List.count_append, hp]
      by_cases h1 : 0 ≤ j ∧ j < (i : Int)
      · rw [if_pos h1, if_pos h1]
        have : ¬ (i : Int) = j := by omega
        simp [List.count_cons, this]
      · rw [if_neg h1, if_neg h1]
        by_cases h2 : j = (i : Int)
        · subst h2; rw [if_pos rfl, if_pos rfl]; simp
        · rw [if_neg h2, if_neg h2]
          have : ¬ (i : Int) = j := fun e => h2 e.symm
          simp [List.count_cons, this]
    · rw [upd_ne _ _ e, hb]
      by_cases h1 : 0 ≤ j ∧ j < (i : Int)
      · rw [if_pos h1, if_pos h1]
      · rw [if_neg h1, if_neg h1]
        by_cases h2 : j = (i : Int)
        · rw [if_pos h2, if_pos h2, take_succ_getD hq 0, List.count_append, hp]
          have : ¬ (firstE n + (k : Int)) = firstE n + (k' : Int) := by omega
          simp [List.count_cons, this]
        · rw [if_neg h2, if_neg h2]
  · have := b.ul k' hk'
    by_cases e : k' = k
    · subst e; rw [upd_same]; simp; omega
    · rw [upd_ne _ _ e]; omega

/-- Another pin. -/
theorem BuildP.skip {n : Net} {i q : Nat} {M : List Int} {us : Nat → List Int} {R : List Int} (b : BuildP n i q M us R) (hq : q < (pinsOf n i).length) (hp : (pinsOf n i).getD q 0 < firstE n) :
    BuildP n i (q + 1) M us R := by
  refine ⟨b.len, fun j hj => ?_, fun k' hk' j => ?_, fun k' hk' => by have := b.ul k' hk'; omega, b.nd, b.r⟩
  · rw [b.m j hj, take_succ_getD hq 0, List.countP_append]
    have : remB n [] ((pinsOf n i).getD q 0) = false := by simp only [remB, Bool.and_eq_false_iff, decide_eq_false_iff_not]; left; omega
    have hs : List.countP (remB n []) [(pinsOf n i).getD q 0] = 0 := by simp only [List.countP_cons, List.countP_nil, this]; rfl
    rw [hs, Nat.add_zero]
  · rw [b.u k' hk' j, take_succ_getD hq 0, List.count_append]
    have : ¬ (pinsOf n i).getD q 0 = firstE n + (k' : Int) := by omega
    simp only [List.count_cons, List.count_nil, beq_iff_eq, this, if_false, Nat.add_zero]

/-- Behind an instance's pins. -/
theorem BuildP.next {n : Net} {i : Nat} {M : List Int} {us : Nat → List Int} {R R' : List Int} (s : ShapeOK n) (b : BuildP n i (pinsOf n i).length M us R) (hi : i < n.insts.length)
    (hR : (M.getD i 0 = 0 ∧ R'.Perm ((i : Int) :: R)) ∨ (M.getD i 0 ≠ 0 ∧ R' = R)) : BuildP n (i + 1) 0 M us R' := by
  have hMi := b.lt hi
  rw [List.take_length] at hMi
  have hrem : M.getD i 0 = (rem n [] i : Int) := hMi
  have hni : (i : Int) ∉ R := fun h => by have := (b.r i).1 h; omega
  refine ⟨b.len, fun j hj => ?_, fun k hk j => ?_, fun k hk => ?_, ?_, fun j => ?_⟩
  · rw [b.m j hj, List.take_length]
    by_cases h1 : j < i
    · rw [if_pos h1, if_pos (by omega)]
    · by_cases h2 : j = i
      · subst h2; rw [if_neg (by omega), if_pos rfl, if_pos (by omega)]; rfl
      · rw [if_neg h1, if_neg h2, if_neg (by omega)]
        by_cases h3 : j = i + 1
        · subst h3; rw [if_pos rfl]; simp
        · rw [if_neg h3]
  · rw [b.u k hk j, List.take_length]
    by_cases h1 : 0 ≤ j ∧ j < (i : Int)
    · rw [if_pos h1, if_pos ⟨h1.1, by omega⟩]
    · by_cases h2 : j = (i : Int)
      · subst h2; rw [if_neg h1, if_pos rfl, if_pos ⟨by omega, by omega⟩]; simp
      · rw [if_neg h1, if_neg h2, if_neg (by omega)]
        simp
  · have := b.ul k hk
    have := s.pinsOf4 hi
    omega
  · rcases hR with ⟨_, hp⟩ | ⟨_, rfl⟩
    · rw [hp.nodup_iff]; exact List.nodup_cons.2 ⟨hni, b.nd⟩
    · exact b.nd
  · rcases hR with ⟨h0, hp⟩ | ⟨h0, rfl⟩
    · rw [hp.mem_iff, List.mem_cons, b.r j]
      constructor
      · rintro (rfl | ⟨h1, h2, h3⟩)
        · exact ⟨by omega, by omega, by rw [Int.toNat_natCast]; omega⟩
        · exact ⟨h1, by omega, h3⟩
      · rintro ⟨h1, h2, h3⟩
        by_cases e : j = (i : Int)
        · left; exact e
        · right; exact ⟨h1, by omega, h3⟩
    · rw [b.r j]
      constructor
      · rintro ⟨h1, h2, h3⟩; exact ⟨h1, by omega, h3⟩
      · rintro ⟨h1, h2, h3⟩
        refine ⟨h1, ?_, h3⟩
        by_cases e : j = (i : Int)
        · subst e; rw [Int.toNat_natCast] at h3; omega
        · omega

theorem MainP.start {n : Net} {M : List Int} {us : Nat → List Int} {R : List Int} (b : BuildP n n.insts.length 0 M us R) : MainP n us [] R M [] := by
  have hm : ∀ j, j < n.insts.length → M.getD j 0 = (rem n [] j : Int) := fun j hj => by rw [b.m j hj, if_pos hj]
  refine ⟨b.len, fun j hj => by rw [hm j hj]; simp, ⟨by simp, by simp, fun j x h => by simp at h⟩, by simpa using b.nd, fun j => ?_⟩
  rw [b.r j]
  constructor
  · rintro (h | ⟨h1, h2, h3⟩)
    · simp at h
    · exact ⟨h1, h2, by rw [hm _ (by omega), h3]; rfl⟩
  · rintro ⟨h1, h2, h3⟩
    right
    rw [hm _ (by omega)] at h3
    exact ⟨h1, h2, by omega⟩

theorem us_count {n : Net} {M : List Int} {us : Nat → List Int} {R : List Int} (b : BuildP n n.insts.length 0 M us R) {k : Nat} (hk : k < n.insts.length) {j : Nat} (hj : j < n.insts.length) : (us k).count (j : Int) = (pinsOf n j).count (firstE n + k) := by
  rw [b.u k hk j, if_pos ⟨by omega, by omega⟩, Int.toNat_natCast]

theorem us_range {n : Net} {M : List Int} {us : Nat → List Int} {R : List Int} (b : BuildP n n.insts.length 0 M us R) {k : Nat} (hk : k < n.insts.length) {x : Int} (hx : x ∈ us k) : 0 ≤ x ∧ x < n.insts.length := by
  have h := b.u k hk x
  have hpos : 0 < (us k).count x := List.count_pos_iff.2 hx
  by_cases h1 : 0 ≤ x ∧ x < (n.insts.length : Int)
  · exact h1
  · rw [if_neg h1] at h
    by_cases h2 : x = (n.insts.length : Int)
    · rw [if_pos h2] at h; simp at h; omega
    · rw [if_neg h2] at h; omega

/-- An instance that is ready is taken. -/
theorem MainP.pop {n : Net} {us : Nat → List Int} {O R M : List Int} (m : MainP n us O R M []) (h0 : 0 < R.length) (hu : ∀ i j : Nat, i < n.insts.length → j < n.insts.length → (us i).count (j : Int) = (pinsOf n j).count (firstE n + i)) :
    (0 ≤ R.getD (R.length - 1) 0 ∧ R.getD (R.length - 1) 0 < n.insts.length) ∧ MainP n us (O ++ [R.getD (R.length - 1) 0]) (R.take (R.length - 1)) M (us (R.getD (R.length - 1) 0).toNat) := by
  have hR : R = R.take (R.length - 1) ++ [R.getD (R.length - 1) 0] := by
    have := take_succ_getD (l := R) (q := R.length - 1) (by omega) 0
    rw [← this, List.take_of_length_le (by omega)]
  generalize R.getD (R.length - 1) 0 = i at *
  generalize R.take (R.length - 1) = R' at *
  subst hR
  have hin := (m.r i).1 (.inr (by simp))
  have hrange : 0 ≤ i ∧ i < n.insts.length := ⟨hin.1, hin.2.1⟩
  have hnd := m.nd
  have hiO : i ∉ O := fun h => by
    rw [List.nodup_append] at hnd
    exact hnd.2.2 i h i (by simp) rfl
  have hrem : rem n O i.toNat = 0 := by
    have := m.m i.toNat (by omega)
    rw [hin.2.2] at this
    simp at this; omega
  refine ⟨hrange, m.len, fun j hj => ?_, m.topo.push hrange.1 hrange.2 hiO hrem, ?_, fun j => ?_⟩
  · have := m.m j hj
    rw [this, rem_push hiO hrange.1 j, hu i.toNat j (by omega) hj]
    have e : ((i.toNat : Nat) : Int) = i := by omega
    rw [e]
    simp
  · have hp : (O ++ [i] ++ R').Perm (O ++ (R' ++ [i])) := by
      rw [List.append_assoc]
      exact List.Perm.append_left _ List.perm_append_comm
    exact hp.nodup_iff.2 hnd
  · rw [← m.r j]
    simp only [List.mem_append, List.mem_singleton]
    constructor
    · rintro ((h | h) | h)
      · exact .inl h
      · exact .inr (.inr h)
      · exact .inr (.inl h)
    · rintro (h | h | h)
      · exact .inl (.inl h)
      · exact .inr h
      · exact .inl (.inr h)

/-- A user of the instance that was taken waits for one less. -/
theorem MainP.dec {n : Net} {us : Nat → List Int} {O R R' M w : List Int} {u : Int} (m : MainP n us O R M (u :: w)) (h0 : 0 ≤ u) (h1 : u < n.insts.length)
    (hR : (M.getD u.toNat 0 - 1 = 0 ∧ R'.Perm (u :: R)) ∨ (M.getD u.toNat 0 - 1 ≠ 0 ∧ R' = R)) : 1 ≤ M.getD u.toNat 0 ∧ MainP n us O R' (M.set u.toNat (M.getD u.toNat 0 - 1)) w := by
  have hlt : u.toNat < n.insts.length := by omega
  have hM : u.toNat < M.length := by rw [m.len]; exact hlt
  have hu : ((u.toNat : Nat) : Int) = u := by omega
  have hmu := m.m u.toNat hlt
  rw [hu, List.count_cons_self] at hmu
  have hpos : 1 ≤ M.getD u.toNat 0 := by rw [hmu]; omega
  have hnot : ¬ (u ∈ O ∨ u ∈ R) := fun h => by have := (m.r u).1 h; omega
  refine ⟨hpos, by rw [List.length_set]; exact m.len, fun j hj => ?_, m.topo, ?_, fun j => ?_⟩
  · rw [getD_set hM]
    by_cases e : j = u.toNat
    · subst e
      rw [if_pos rfl, hu, hmu]; omega
    · have hne : ¬ u = (j : Int) := by omega
      rw [if_neg e, m.m j hj, List.count_cons]
      simp [hne]
  · rcases hR with ⟨_, hp⟩ | ⟨_, rfl⟩
    · have h2 : (O ++ R').Perm (u :: (O ++ R)) := (List.Perm.append_left O hp).trans List.perm_middle
      rw [h2.nodup_iff]
      exact List.nodup_cons.2 ⟨fun h => hnot (List.mem_append.1 h), m.nd⟩
    · exact m.nd
  · have hmr := m.r j
    by_cases e : j = u
    · subst e
      rw [getD_set hM, if_pos rfl]
      rcases hR with ⟨hz, hp⟩ | ⟨hz, rfl⟩
      · constructor
        · intro _; exact ⟨h0, h1, hz⟩
        · intro _; right; rw [hp.mem_iff]; simp
      · constructor
        · intro h; exact absurd h hnot
        · rintro ⟨_, _, h⟩; exact absurd h hz
    · have hside : j ∈ O ∨ j ∈ R' ↔ j ∈ O ∨ j ∈ R := by
        rcases hR with ⟨hz, hp⟩ | ⟨hz, rfl⟩
        · rw [hp.mem_iff, List.mem_cons]; simp [e]
        · exact Iff.rfl
      rw [hside, hmr, getD_set hM]
      constructor
      · rintro ⟨a, b, c⟩; exact ⟨a, b, by rw [if_neg (by omega)]; exact c⟩
      · rintro ⟨a, b, c⟩; refine ⟨a, b, ?_⟩; rw [if_neg (by omega)] at c; exact c

/-- Some instances wait for one another. -/
def Stuck (n : Net) (O : List Int) : Prop := ∀ i : Nat, i < n.insts.length → (i : Int) ∉ O → ∃ p ∈ pinsOf n i, firstE n ≤ p ∧ p - firstE n ∉ O

theorem MainP.stuck {n : Net} {us : Nat → List Int} {O M : List Int} (m : MainP n us O [] M []) : Stuck n O := by
  intro i hi hO
  have h := m.r i
  have hm := m.m i hi
  have : M.getD i 0 ≠ 0 := fun e => by
    have := h.2 ⟨by omega, by omega, by rw [Int.toNat_natCast]; exact e⟩
    rcases this with h | h
    · exact hO h
    · simp at h
  exact rem_pos (O := O) (j := i) (fun e => this (by rw [hm, e]; simp))

end Go.Ab.S1

namespace Go.Ab.S1
open Go.Proofs
set_option linter.unusedSimpArgs false
set_option linter.unusedVariables false
set_option maxRecDepth 100000
set_option maxHeartbeats 4000000
attribute [local push_cast] wpA_skip wpA_ret wpA_exit wpA_seq wpA_block wpA_cond2 andK_true wpA_region wpA_draw wpA_loop thenQ_normal thenQ_ret thenQ_exit blockQ_normal blockQ_ret blockQ_exit condV_true condV_false opsM_nil opsM_cons2 okM_true wantM_true wantM_false stepM seqM_cons2 seqM_nil2 okS_true wantS_true wantS_false stepS skipS okB Keeps_nil contK_app List.zip_cons_cons List.zip_nil_left List.zip_nil_right Op.operands Call.operands Array.toList_append List.append_nil List.nil_append List.all_cons List.all_nil cOK plain put_n put_tm put_none put_df ev_tmp ev_const ev_func wanted_none wanted_some callR_func dop ex_some1 aBuiltin aBin intBin aUn Option.map_some Bool.and_true Bool.true_and Bool.and_self List.map_cons List.map_nil List.toList_toArray List.getElem?_toArray List.getElem?_cons_zero List.getElem?_cons_succ Option.getD_some Option.getD_none Bool.false_eq_true eq_self_iff_true decide_true decide_false List.cons_append aExtract resL resV List.getD_cons_zero List.getD_cons_succ List.getD_nil Nat.succ_ne_self g1 g2 yieldedA2 isB_bool isB_undef g3 Option.bind_some Option.bind_none bne_self_eq_false beq_self_eq_true Bool.not_true Bool.not_false Int.toNat_natCast List.length_map List.mem_cons List.not_mem_nil or_false not_false_eq_true decide_not Bool.not_not bodyR_ret2 bodyR_normal2 closeMarks_nil ex_some0 Nat.zero_add Nat.add_zero ieq ine List.map_toArray Option.toArray_none Option.toArray_some oev Keeps_cons Still_eq selL wpX_skip wpX_ret wpX_exit wpX_seq wpX_block wpX_cond wpX_region wpX_draw wpX_loop List.take_succ_cons List.take_zero List.drop_succ_cons List.drop_zero Int.zero_add Int.add_zero aNil if_true if_false true_and and_true

theorem slU : Sl1 Try.prog 101 22 := ⟨Try.underlying101, ⟨(Try.prog.info? 22).get (by kernel_rfl), by kernel_rfl, by kernel_rfl⟩, ⟨_, Try.underlying22, rfl⟩⟩
theorem szI : ∃ i, Try.prog.info? 22 = some i ∧ i.size = 1 := slU.one
theorem slTU : SlT Try.prog 101 22 24 (.slice none 0 0) := ⟨Try.underlying101, ⟨(Try.prog.info? 22).get (by kernel_rfl), by kernel_rfl, by kernel_rfl, by kernel_rfl, by kernel_rfl⟩, ⟨_, Try.underlying22, rfl⟩, rfl, rfl, rfl⟩

structure St (N : Nat) (b h : AH) (nm : Nat → Nat) (ob : Nat → Option AObj) (M : List Int) (us : Nat → List Int) (uv : List Value) (R O : List Int) (ov : Value) : Prop where
  own : Owns b h nm ob
  m : ob 0 = some (.row (M.map (.int .i64)) 3 true)
  u : ob 1 = some (.row uv 22 true)
  ul : uv.length = N
  ue : ∀ k, k < N → Vec 3 (uv.getD k undef) (ob (5 + k)) (nm (5 + k)) ((us k).map (.int .i64))
  r : ∃ rv, ob 2 = some (.row [rv] 102 true) ∧ Vec 3 rv (ob 3) (nm 3) (R.map (.int .i64))
  o : Vec 3 ov (ob 4) (nm 4) (O.map (.int .i64))

section
variable {N : Nat} {b h : AH} {nm : Nat → Nat} {ob : Nat → Option AObj} {M : List Int} {us : Nat → List Int} {uv : List Value} {R O : List Int} {ov : Value}

theorem St.grown {h' : AH} (s : St N b h nm ob M us uv R O ov) (g : Gr h h') : St N b h' nm ob M us uv R O ov := ⟨s.own.grown g, s.m, s.u, s.ul, s.ue, s.r, s.o⟩

theorem St.setM (w0 : WFH b) (s : St N b h nm ob M us uv R O ov) (M' : List Int) : St N b (h.set (nm 0) (.row (M'.map (.int .i64)) 3 true)) nm (upd ob 0 (some (.row (M'.map (.int .i64)) 3 true))) M' us uv R O ov := by
  refine ⟨s.own.set w0 s.m, upd_same _ _ _, by rw [upd_ne _ _ (by omega)]; exact s.u, s.ul, fun k hk => by rw [upd_ne _ _ (by omega)]; exact s.ue k hk, ?_, by rw [upd_ne _ _ (by omega)]; exact s.o⟩
  obtain ⟨rv, h1, h2⟩ := s.r
  exact ⟨rv, by rw [upd_ne _ _ (by omega)]; exact h1, by rw [upd_ne _ _ (by omega)]; exact h2⟩

/-- One more user of an instance. -/
theorem St.user (w0 : WFH b) (s : St N b h nm ob M us uv R O ov) {k : Nat} (hk : k < N) (x : Int) (hb : (us k).length ≤ 4294967296) :
    ∃ r h2 nm' ob', aAppend Try.prog #[22, 22] (uv.getD k undef) (.slice (some ⟨h.next, 0, none⟩) 1 1) (h.new (.row [.int .i64 x] 3 true)) = some (r, h2) ∧ r.cells.toList = [r] ∧ oneC r = true ∧
      h2.get (nm 1) = some (.row uv 22 true) ∧ nm' 0 = nm 0 ∧ nm' 1 = nm 1 ∧ nm' 2 = nm 2 ∧
      St N b (h2.set (nm 1) (.row (uv.set k r) 22 true)) nm' ob' M (upd us k (us k ++ [x])) (uv.set k r) R O ov := by
  have hw := s.own.gr.wf
  have g1 : Gr h (h.new (.row [.int .i64 x] 3 true)) := (Gr.refl hw).new _
  have s1 := s.grown g1
  have hB : (h.new (.row [.int .i64 x] 3 true)).get h.next = some (.row [.int .i64 x] 3 true) := by rw [AH.new_get, if_pos rfl]
  have hv := s.ue k hk
  obtain ⟨r, h2, happ, hup⟩ := appendV (t := 22) (t2 := 22) t22 ⟨_, Try.underlying22⟩ s1.own.gr.wf hv (s1.own.get (5 + k)) hB rfl rfl (by simp; omega) (by simp; omega)
  obtain ⟨A', o', hv', ho'⟩ := s1.own.vec w0 hup
  have hu1 : upd ob (5 + k) (some o') 1 = some (.row uv 22 true) := by rw [upd_ne _ _ (by omega)]; exact s.u
  have hg1 := ho'.get 1 _ hu1
  rw [upd_ne _ _ (by omega)] at hg1
  have ho2 := ho'.set w0 hu1 (o' := .row (uv.set k r) 22 true)
  rw [upd_ne nm _ (by omega : 1 ≠ 5 + k)] at ho2
  refine ⟨r, h2, _, _, happ, hv'.shape.1, hv'.shape.2, hg1, upd_ne _ _ (by omega), upd_ne _ _ (by omega), upd_ne _ _ (by omega), ho2, ?_, upd_same _ _ _, by rw [List.length_set]; exact s.ul, fun j hj => ?_, ?_, ?_⟩
  · rw [upd_ne _ _ (by omega), upd_ne _ _ (by omega)]; exact s.m
  · rw [getD_set (by rw [s.ul]; exact hk), upd_ne _ _ (by omega)]
    by_cases e : j = k
    · subst e
      rw [if_pos rfl, upd_same, upd_same, upd_same]
      simpa using hv'
    · rw [if_neg e, upd_ne _ _ (by omega), upd_ne _ _ (by omega), upd_ne _ _ e]; exact s.ue j hj
  · obtain ⟨rv, h1, h3⟩ := s.r
    refine ⟨rv, ?_, ?_⟩
    · rw [upd_ne _ _ (by omega), upd_ne _ _ (by omega)]; exact h1
    · rw [upd_ne _ _ (by omega), upd_ne _ _ (by omega), upd_ne _ _ (by omega)]; exact h3
  · rw [upd_ne _ _ (by omega), upd_ne _ _ (by omega), upd_ne _ _ (by omega)]; exact s.o

/-- One more instance in the order. -/
theorem St.put (w0 : WFH b) (s : St N b h nm ob M us uv R O ov) (x : Int) (hb : O.length ≤ 4294967296) :
    ∃ r h2 nm' ob', aAppend Try.prog #[22, 22] ov (.slice (some ⟨h.next, 0, none⟩) 1 1) (h.new (.row [.int .i64 x] 3 true)) = some (r, h2) ∧ nm' 0 = nm 0 ∧ nm' 1 = nm 1 ∧ nm' 2 = nm 2 ∧
      St N b h2 nm' ob' M us uv R (O ++ [x]) r := by
  have hw := s.own.gr.wf
  have g1 : Gr h (h.new (.row [.int .i64 x] 3 true)) := (Gr.refl hw).new _
  have s1 := s.grown g1
  have hB : (h.new (.row [.int .i64 x] 3 true)).get h.next = some (.row [.int .i64 x] 3 true) := by rw [AH.new_get, if_pos rfl]
  obtain ⟨r, h2, happ, hup⟩ := appendV (t := 22) (t2 := 22) t22 ⟨_, Try.underlying22⟩ s1.own.gr.wf s.o (s1.own.get 4) hB rfl rfl (by simp; omega) (by simp; omega)
  obtain ⟨A', o', hv', ho'⟩ := s1.own.vec w0 hup
  refine ⟨r, h2, _, _, happ, upd_ne _ _ (by omega), upd_ne _ _ (by omega), upd_ne _ _ (by omega), ho', ?_, ?_, s.ul, fun j hj => ?_, ?_, ?_⟩
  · rw [upd_ne _ _ (by omega)]; exact s.m
  · rw [upd_ne _ _ (by omega)]; exact s.u
  · rw [upd_ne _ _ (by omega), upd_ne _ _ (by omega)]; exact s.ue j hj
  · obtain ⟨rv, h1, h3⟩ := s.r
    refine ⟨rv, ?_, ?_⟩
    · rw [upd_ne _ _ (by omega)]; exact h1
    · rw [upd_ne _ _ (by omega), upd_ne _ _ (by omega)]; exact h3
  · rw [upd_same, upd_same]; simpa using hv'

theorem St.push (w0 : WFH b) (s : St N b h nm ob M us uv R O ov) (hb : R.length ≤ 4294967296) (x : Int) :
    ACall Try.prog 67 [.pointer (some ⟨nm 2, 0, none⟩), .int .i64 x] h (fun _ h' => ∃ nm' ob' R', R'.Perm (x :: R) ∧ nm' 0 = nm 0 ∧ nm' 1 = nm 1 ∧ nm' 2 = nm 2 ∧ St N b h' nm' ob' M us uv R' O ov) := by
  obtain ⟨rv, h1, h2⟩ := s.r
  refine ACall.mono ?_ (S1.push w0 s.own h1 h2 hb x)
  rintro v h' ⟨rv', A', o', p, hp, hv', ho'⟩
  refine ⟨_, _, ins p x R, ins_perm p x R, upd_ne _ _ (by omega), upd_ne _ _ (by omega), upd_ne _ _ (by omega), ho', ?_, ?_, s.ul, fun j hj => ?_, ⟨rv', upd_same _ _ _, ?_⟩, ?_⟩
  · rw [upd_ne _ _ (by omega), upd_ne _ _ (by omega)]; exact s.m
  · rw [upd_ne _ _ (by omega), upd_ne _ _ (by omega)]; exact s.u
  · rw [upd_ne _ _ (by omega), upd_ne _ _ (by omega), upd_ne _ _ (by omega)]; exact s.ue j hj
  · rw [upd_ne _ _ (by omega), upd_same, upd_same]; exact hv'
  · rw [upd_ne _ _ (by omega), upd_ne _ _ (by omega), upd_ne _ _ (by omega)]; exact s.o

theorem St.pop (w0 : WFH b) (s : St N b h nm ob M us uv R O ov) (hb : R.length ≤ 4294967296) (h0 : 0 < R.length) :
    ACall Try.prog 68 [.pointer (some ⟨nm 2, 0, none⟩)] h (fun r h' => r = .int .i64 (R.getD (R.length - 1) 0) ∧ ∃ ob', St N b h' nm ob' M us uv (R.take (R.length - 1)) O ov) := by
  obtain ⟨rv, h1, h2⟩ := s.r
  refine ACall.mono ?_ (S1.pop w0 s.own h1 h2 hb h0)
  rintro v h' ⟨rfl, rv', hv', ho'⟩
  refine ⟨rfl, _, ho', ?_, ?_, s.ul, fun j hj => ?_, ⟨rv', upd_same _ _ _, ?_⟩, ?_⟩
  · rw [upd_ne _ _ (by omega)]; exact s.m
  · rw [upd_ne _ _ (by omega)]; exact s.u
  · rw [upd_ne _ _ (by omega)]; exact s.ue j hj
  · rw [upd_ne _ _ (by omega)]; exact hv'
  · rw [upd_ne _ _ (by omega)]; exact s.o
end

/-- What Order hands back. -/
def OrderPost (n : Net) (h : AH) (r : Value) (h' : AH) : Prop :=
  Gr h h' ∧ ((shapeE n ≠ 0 ∧ r = .tuple #[.slice none 0 0, .int .i64 (shapeE n)]) ∨
    (shapeE n = 0 ∧ ∃ O, Topo n O ∧ ((O.length < n.insts.length ∧ Stuck n O ∧ r = .tuple #[.slice none 0 0, .int .i64 14]) ∨
      (O.length = n.insts.length ∧ ∃ v, r = .tuple #[v, .int .i64 0] ∧ SlOf h' v (O.map (.int .i64))))))


theorem zrH : Zr Try.prog 102 [.slice none 0 0] := ⟨(Try.prog.info? 102).get (by kernel_rfl), .slice none 0 0, by kernel_rfl, by kernel_rfl, rfl, rfl, rfl⟩

/-- Behind the two rows' laying. -/
def Laid (N : Nat) (b : AH) (B : Nat) (a : AAct) (h : AH) : Prop :=
  a.n = 114 ∧ a.df = [] ∧ a.tm 1 = .pointer (some ⟨B, 0, none⟩) ∧ ∃ M0 U0, a.tm 5 = .slice (some ⟨M0, 0, none⟩) N N ∧ a.tm 6 = .slice (some ⟨U0, 0, none⟩) N N ∧ Gr b h ∧ b.next ≤ M0 ∧ b.next ≤ U0 ∧ M0 ≠ U0 ∧
    h.get M0 = some (.row ((List.replicate N (0 : Int)).map (.int .i64)) 3 true) ∧ h.get U0 = some (.row (List.replicate N (.slice none 0 0)) 22 true)

theorem orderN {h : AH} {n : Net} {cv fv iv ov : Value} (r : NetR h n cv fv iv ov) (ok : NetOK n) :
    ACall Try.prog 50 [.agg (netC n cv fv iv ov).toArray] h (OrderPost n h) := by
  refine ACall.wf ⟨_, Try.func50, rfl, by kernel_rfl⟩ fun hwf => ?_
  refine ACall.of_wp 114 [.tmp 2, .tmp 3] Try.func50 rfl (by kernel_rfl) rfl rfl fun a hn hd ha => ?_
  have hbox := boxA 34 h _ r.one
  have hN := NetAt.new (h := h) (n := n) (cv := cv) (fv := fv) (iv := iv) (ov := ov)
  have r1 := r.sub (Sub.new hwf (.row (netC n cv fv iv ov) 34 true))
  have g1 : Gr h (h.new (.row (netC n cv fv iv ov) 34 true)) := (Gr.refl hwf).new _
  simp (disch := first | omega | decide | (simp only [List.length_cons, List.length_nil] <;> omega)) only [push_cast, ↓reduceIte, Nat.reduceLT, Nat.reduceEqDiff, reduceCtorEq, Nat.reduceAdd, hn, hd, ha, hbox, faL foN0, faL foN1, faL foN2, faL foN3, faL foN4, hN.l0, hN.l1, hN.l2, hN.l3, hN.l4, hN.la]
  generalize h.new (.row (netC n cv fv iv ov) 34 true) = h1 at hN r1 g1 ⊢
  generalize h.next = B at hN ⊢
  refine ACall.mono ?_ (shape r1 ok)
  rintro _ h1 ⟨rfl, rfl⟩
  simp (disch := first | omega | decide | (simp only [List.length_cons, List.length_nil] <;> omega)) only [push_cast, ↓reduceIte, Nat.reduceLT, Nat.reduceEqDiff, reduceCtorEq, Nat.reduceAdd, hn, hd, ha]
  refine condV_not (fun e0 => ?_) (fun e0 => ?_)
  · have e : shapeE n ≠ 0 := by simpa using e0
    simp (disch := first | omega | decide | (simp only [List.length_cons, List.length_nil] <;> omega)) only [push_cast, ↓reduceIte, Nat.reduceLT, Nat.reduceEqDiff, reduceCtorEq, Nat.reduceAdd, hn, hd, ha]
    exact ⟨g1, .inl ⟨e, rfl⟩⟩
  have e0' : shapeE n = 0 := by simpa using e0
  have s := ShapeOK.of e0'
  have hil := s.il
  have w0 := g1.wf
  simp (disch := first | omega | decide | (simp only [List.length_cons, List.length_nil] <;> omega)) only [push_cast, ↓reduceIte, Nat.reduceLT, Nat.reduceEqDiff, reduceCtorEq, Nat.reduceAdd, hn, hd, ha]
  refine AW.mono (Q := fun e a' h' => e = .normal ∧ Laid n.insts.length h1 B a' h') ?_ ?_
  case refine_2 =>
    have hm1 := fun hh => aMakeSlice_at t22 hh n.insts.length (by omega) (by omega)
    have hm2 := fun hh => aMakeSlice_at slTU hh n.insts.length (by omega) (by omega)
    have hN2 := fun o => hN.sub (Sub.new w0 o)
    refine AW.draw2 (.take 0 [9, 8, 3, 2, 1] (.take 1 [9, 8, 3, 2] (.take 2 [9, 8, 3] (.take 4 [9, 7, 6, 5] (.take 5 [9, 7, 6] (.take 6 [9, 7] (.two 3 (.take 8 [9] (.only 7 (.take 9 [] .done))) 7 (.only 3 (.take 8 [9] (.take 9 [] .done)))))))))) [(0, 0), (0, 1), (0, 2), (0, 4), (0, 5), (0, 6)] [(2, 3), (0, 8), (2, 7), (0, 9)] [(2, 7), (2, 3), (0, 8), (0, 9)] mixed (by kernel_rfl) (by kernel_rfl) ?_
    simp (disch := first | omega | decide | (simp only [List.length_cons, List.length_nil] <;> omega)) only [push_cast, ↓reduceIte, Nat.reduceLT, Nat.reduceEqDiff, reduceCtorEq, Nat.reduceAdd, hn, hd, ha, faL foN0, faL foN1, faL foN2, faL foN3, faL foN4, hN.l0, hN.l1, hN.l2, hN.l3, hN.l4, hN.la, r1.i.len Try.underlying32, hm1, hm2]
    have hrep : List.replicate n.insts.length (Value.int .i64 0) = (List.replicate n.insts.length (0 : Int)).map (.int .i64) := by simp
    have ga := (Gr.refl w0).new (.row (List.replicate n.insts.length (.int .i64 0)) 3 true)
    have gb := (Gr.refl w0).new (.row (List.replicate n.insts.length (.slice none 0 0)) 22 true)
    refine ⟨⟨by simp (disch := first | omega | decide | (simp only [List.length_cons, List.length_nil] <;> omega)) only [push_cast, ↓reduceIte, Nat.reduceLT, Nat.reduceEqDiff, reduceCtorEq, Nat.reduceAdd, hn], by simp (disch := first | omega | decide | (simp only [List.length_cons, List.length_nil] <;> omega)) only [push_cast, ↓reduceIte, Nat.reduceLT, Nat.reduceEqDiff, reduceCtorEq, Nat.reduceAdd, hd], by simp (disch := first | omega | decide | (simp only [List.length_cons, List.length_nil] <;> omega)) only [push_cast, ↓reduceIte, Nat.reduceLT, Nat.reduceEqDiff, reduceCtorEq, Nat.reduceAdd], h1.next, h1.next + 1, by simp (disch := first | omega | decide | (simp only [List.length_cons, List.length_nil] <;> omega)) only [push_cast, ↓reduceIte, Nat.reduceLT, Nat.reduceEqDiff, reduceCtorEq, Nat.reduceAdd], by simp (disch := first | omega | decide | (simp only [List.length_cons, List.length_nil] <;> omega)) only [push_cast, ↓reduceIte, Nat.reduceLT, Nat.reduceEqDiff, reduceCtorEq, Nat.reduceAdd, AH.new_next], ga.new _, Nat.le_refl _, by omega, by omega, ?_, ?_⟩, by simp (disch := first | omega | decide | (simp only [List.length_cons, List.length_nil] <;> omega)) only [push_cast, ↓reduceIte, Nat.reduceLT, Nat.reduceEqDiff, reduceCtorEq, Nat.reduceAdd, hn], by simp (disch := first | omega | decide | (simp only [List.length_cons, List.length_nil] <;> omega)) only [push_cast, ↓reduceIte, Nat.reduceLT, Nat.reduceEqDiff, reduceCtorEq, Nat.reduceAdd, hd], by simp (disch := first | omega | decide | (simp only [List.length_cons, List.length_nil] <;> omega)) only [push_cast, ↓reduceIte, Nat.reduceLT, Nat.reduceEqDiff, reduceCtorEq, Nat.reduceAdd], h1.next + 1, h1.next, by simp (disch := first | omega | decide | (simp only [List.length_cons, List.length_nil] <;> omega)) only [push_cast, ↓reduceIte, Nat.reduceLT, Nat.reduceEqDiff, reduceCtorEq, Nat.reduceAdd, AH.new_next], by simp (disch := first | omega | decide | (simp only [List.length_cons, List.length_nil] <;> omega)) only [push_cast, ↓reduceIte, Nat.reduceLT, Nat.reduceEqDiff, reduceCtorEq, Nat.reduceAdd], gb.new _, by omega, Nat.le_refl _, by omega, ?_, ?_⟩
    · rw [AH.new_get, if_neg (by simp), AH.new_get, if_pos rfl, hrep]
    · rw [AH.new_get, if_pos (by simp)]
    · rw [AH.new_get, if_pos (by simp), hrep]
    · rw [AH.new_get, if_neg (by simp), AH.new_get, if_pos rfl]
  clear ha hn hd a
  rintro _ a h' ⟨rfl, hn, hd, ht1, M0, U0, ht5, ht6, hg, hMlo, hUlo, hMU, hMg, hUg⟩
  have hM0 : M0 < h'.next := AH.get_lt hg.wf hMg
  have hU0 : U0 < h'.next := AH.get_lt hg.wf hUg
  have hN3 := hN.sub (hg.sub.trans (Sub.new hg.wf (.row [.slice none 0 0] 102 true)))
  have st0 : St n.insts.length h1 (h'.new (.row [.slice none 0 0] 102 true)) (fun i => if i = 0 then M0 else if i = 1 then U0 else h'.next)
      (fun i => if i = 0 then some (.row ((List.replicate n.insts.length (0 : Int)).map (.int .i64)) 3 true) else if i = 1 then some (.row (List.replicate n.insts.length (.slice none 0 0)) 22 true) else if i = 2 then some (.row [.slice none 0 0] 102 true) else none)
      (List.replicate n.insts.length 0) (fun _ => []) (List.replicate n.insts.length (.slice none 0 0)) [] [] (.slice none 0 0) := by
    refine ⟨⟨fun i o hi => ?_, fun i j o p hi hj hne => ?_, fun i o hi => ?_, hg.new _⟩, rfl, rfl, by simp, fun k hk => ?_, ⟨_, rfl, .inl ⟨rfl, rfl, rfl⟩⟩, .inl ⟨rfl, rfl, rfl⟩⟩
    · by_cases h0 : i = 0
      · subst h0; cases hi; simp only [if_true]; rw [AH.new_get, if_neg (by omega)]; exact hMg
      · by_cases h1 : i = 1
        · subst h1; cases hi; simp only [if_true, Nat.one_ne_zero, if_false]; rw [AH.new_get, if_neg (by omega)]; exact hUg
        · by_cases h2 : i = 2
          · subst h2; cases hi; simp only [show ¬ (2 = 0) by omega, show ¬ (2 = 1) by omega, if_false]; rw [AH.new_get, if_pos rfl]
          · simp [h0, h1, h2] at hi
    · have key : ∀ i o, (if i = 0 then some (AObj.row ((List.replicate n.insts.length (0 : Int)).map (.int .i64)) 3 true) else if i = 1 then some (.row (List.replicate n.insts.length (.slice none 0 0)) 22 true) else if i = 2 then some (.row [.slice none 0 0] 102 true) else none) = some o → i = 0 ∨ i = 1 ∨ i = 2 := by
        intro i o h; split at h
        · left; assumption
        · split at h
          · right; left; assumption
          · split at h
            · right; right; assumption
            · cases h
      rcases key i o hi with rfl | rfl | rfl <;> rcases key j p hj with rfl | rfl | rfl <;> simp <;> omega
    · have hnx := hg.nx
      by_cases h0 : i = 0
      · subst h0; exact hMlo
      · by_cases h1 : i = 1
        · subst h1; exact hUlo
        · simp only [h0, h1, if_false]; exact hnx
    · refine .inl ⟨rfl, by simp [List.getD_eq_getElem?_getD, hk], ?_⟩
      simp only [show ¬ (5 + k = 0) by omega, show ¬ (5 + k = 1) by omega, show ¬ (5 + k = 2) by omega, if_false]
  have hF : 0 ≤ firstE n ∧ firstE n ≤ 128 := by have := s.i0; have := s.i1; have := s.fl; unfold firstE; omega
  have hsm : Small n := ⟨s.i0, by have := s.i1; omega, by have := s.fl; omega, by omega⟩
  have hgH := hg.new (.row [.slice none 0 0] 102 true)
  simp (disch := first | omega | decide | (simp only [List.length_cons, List.length_nil] <;> omega)) only [push_cast, ↓reduceIte, Nat.reduceLT, Nat.reduceEqDiff, reduceCtorEq, Nat.reduceAdd, hn, hd, ht1, alL zrH, faL foN0, faL foN1, faL foN2, faL foN3, faL foN4, hN3.l0, hN3.l1, hN3.l2, hN3.l3, hN3.l4, hN3.la, r1.i.len Try.underlying32]
  generalize hH0 : h'.next = H0 at st0 ⊢
  refine AW.loopN 33 [8, 9, 10, 11, 12] (fun m a' k => ∃ (i : Nat) (nm : Nat → Nat) (ob : Nat → Option AObj) (M : List Int) (us : Nat → List Int) (uv : List Value) (R : List Int), a'.tm 33 = .int .i64 i ∧ i + m = n.insts.length ∧ nm 0 = M0 ∧ nm 1 = U0 ∧ nm 2 = H0 ∧
      St n.insts.length h1 k nm ob M us uv R [] (.slice none 0 0) ∧ BuildP n i 0 M us R) n.insts.length ?_ ?_
  · exact ⟨0, _, _, _, _, _, _, by simp (disch := first | omega | decide | (simp only [List.length_cons, List.length_nil] <;> omega)) only [push_cast, ↓reduceIte, Nat.reduceLT, Nat.reduceEqDiff, reduceCtorEq, Nat.reduceAdd], by omega, rfl, rfl, rfl, st0, BuildP.start n⟩
  rintro a1 m a2 k1 hk kn kd kt ⟨i, nm, ob, M, us, uv, R, h33, him, hm0, hm1, hm2, st, bp⟩
  have hgk := st.own.gr
  have r2 := r1.sub hgk.sub
  have hN4 := hN.sub hgk.sub
  simp (disch := first | omega | decide | (simp only [List.length_cons, List.length_nil] <;> omega)) only [push_cast, ↓reduceIte, Nat.reduceLT, Nat.reduceEqDiff, reduceCtorEq, Nat.reduceAdd, kn, kd, kt, hn, hd, ht1, ht5, ht6, h33]
  refine condV_of (fun hlt => ?_) (fun hge => ?_)
  · have hi : i < n.insts.length := by have := hlt; simp at this; omega
    obtain ⟨cs, ⟨pv, rfl, hpv⟩, hld, -, -⟩ := r1.i.get hi default
    replace hld := aLoad_sub hgk.sub (hld _ agI)
    have hp4 : (n.insts.getD i default).pins.length ≤ 4 := s.pinsOf4 hi
    have hpin : ∀ p ∈ (n.insts.getD i default).pins, -2 ≤ p ∧ p < firstE n + n.insts.length := fun p hp => s.pinOf hi hp
    have hpe : pinsOf n i = (n.insts.getD i default).pins := rfl
    rw [← hpe] at hpv hp4 hpin
    generalize (n.insts.getD i default).cell = xc at *
    have hst := fun (hh : AH) cs e hl => stN agI hh cs e [Value.int .i64 xc, pv] hl rfl (by simp only [List.all_cons, List.all_nil, hpv.one]; rfl)
    have gI := hgk.new (.row [Value.int .i64 xc, pv] 43 true)
    have sI := Sub.new hgk.wf (.row [Value.int .i64 xc, pv] 43 true)
    have hI := CsAt.new k1 [Value.int .i64 xc, pv] 43 true
    have stI := st.grown ((Gr.refl hgk.wf).new (.row [Value.int .i64 xc, pv] 43 true))
    simp (disch := first | omega | decide | (simp only [List.length_cons, List.length_nil] <;> omega)) only [push_cast, ↓reduceIte, Nat.reduceLT, Nat.reduceEqDiff, reduceCtorEq, Nat.reduceAdd, kn, kd, kt, hn, hd, ht1, ht5, ht6, h33, r2.i.idx Try.underlying32 infI, hld, alL zrI, hst, faL foI0, faL foI1, hI.ld flI, hpv.lenA Try.underlying22]
    generalize k1.new (.row [Value.int .i64 xc, pv] 43 true) = k2 at gI sI hI stI ⊢
    generalize k1.next = I0 at hI ⊢
    refine AW.loopN 41 [11, 12] (fun m a' k => ∃ (q : Nat) (nm : Nat → Nat) (ob : Nat → Option AObj) (M : List Int) (us : Nat → List Int) (uv : List Value), a'.tm 41 = .int .i64 q ∧ q + m = (pinsOf n i).length ∧ nm 0 = M0 ∧ nm 1 = U0 ∧ nm 2 = H0 ∧
        St n.insts.length h1 k nm ob M us uv R [] (.slice none 0 0) ∧ BuildP n i q M us R) (pinsOf n i).length ?_ ?_
    · exact ⟨0, nm, ob, M, us, uv, by simp (disch := first | omega | decide | (simp only [List.length_cons, List.length_nil] <;> omega)) only [push_cast, ↓reduceIte, Nat.reduceLT, Nat.reduceEqDiff, reduceCtorEq, Nat.reduceAdd], by omega, hm0, hm1, hm2, stI, bp⟩
    clear stI st bp hm0 hm1 hm2 hgk r2 hN4
    clear nm ob M us uv
    rintro b1 mi a3 k3 hki kni kdi kti ⟨q, nm, ob, M, us, uv, h41, hqm, hm0, hm1, hm2, st, bp⟩
    have hg3 := st.own.gr
    have r3 := r1.sub hg3.sub
    have hN5 := hN.sub hg3.sub
    have hpv3 := hpv.sub hg3.sub
    simp (disch := first | omega | decide | (simp only [List.length_cons, List.length_nil] <;> omega)) only [push_cast, ↓reduceIte, Nat.reduceLT, Nat.reduceEqDiff, reduceCtorEq, Nat.reduceAdd, kni, kdi, kti, kn, kd, kt, hn, hd, ht1, ht5, ht6, h33, h41]
    refine condV_of (fun hlt => ?_) (fun hge => ?_)
    · have hq : q < (pinsOf n i).length := by have := hlt; simp at this; omega
      have hpr := hpin _ (getD_mem hq 0)
      have hMl : i < M.length := by rw [bp.len]; exact hi
      have hMi := bp.lt hi
      have hMb : 0 ≤ M.getD i 0 ∧ M.getD i 0 ≤ 4 := by
        rw [hMi]
        have : ((pinsOf n i).take q).countP (remB n []) ≤ ((pinsOf n i).take q).length := List.countP_le_length
        rw [List.length_take] at this
        omega
      simp (disch := first | omega | decide | (simp only [List.length_cons, List.length_nil] <;> omega)) only [push_cast, ↓reduceIte, Nat.reduceLT, Nat.reduceEqDiff, reduceCtorEq, Nat.reduceAdd, kni, kdi, kti, kn, kd, kt, hn, hd, ht1, ht5, ht6, h33, h41, hpv3.idxI sl22, hpv3.ldI sl22, faL foN0, faL foN1, faL foN2, faL foN3, faL foN4, hN5.l0, hN5.l1, hN5.l2, hN5.l3, hN5.l4, hN5.la]
      refine ACall.mono ?_ (first r3 hsm)
      rintro _ k3 ⟨rfl, rfl⟩
      simp (disch := first | omega | decide | (simp only [List.length_cons, List.length_nil] <;> omega)) only [push_cast, ↓reduceIte, Nat.reduceLT, Nat.reduceEqDiff, reduceCtorEq, Nat.reduceAdd, kni, kdi, kti, kn, kd, kt, hn, hd, ht1, ht5, ht6, h33, h41, wrapI]
      generalize hpd : (pinsOf n i).getD q 0 = p at *
      refine condV_of (fun hp => ?_) (fun hp => ?_)
      · obtain ⟨k, hk0⟩ : ∃ k : Nat, p - firstE n = k := ⟨(p - firstE n).toNat, by have := hp; simp at this; omega⟩
        have hkN : k < n.insts.length := by omega
        have hgM : k3.get M0 = some (.row (M.map (.int .i64)) 3 true) := by rw [← hm0]; exact st.own.get 0 _ st.m
        have hst2 := fun b i' (hi' : i' < M.length) => stRow sl22 hgM (one_int .i64) i' b hi'
        have s2 := st.setM w0 (M.set i (M.getD i 0 + 1))
        rw [hm0] at s2
        obtain ⟨rr, k4, nm', ob', happ, hr1, hr2, hgU, e0, e1, e2, s3⟩ := s2.user w0 hkN (i : Int) (by have := bp.ul k hkN; omega)
        rw [hm1] at hgU s3
        have hgU2 : (k3.set M0 (.row ((M.set i (M.getD i 0 + 1)).map (.int .i64)) 3 true)).get U0 = some (.row uv 22 true) := by
          rw [← hm1]; exact s2.own.get 1 _ s2.u
        have hldU := ldL hgU2 rfl flI k (by rw [st.ul]; exact hkN)
        have hstU := stC szI hgU k rr (by rw [st.ul]; exact hkN) hr1 hr2
        simp (disch := first | omega | decide | (simp only [List.length_cons, List.length_nil] <;> omega)) only [push_cast, ↓reduceIte, Nat.reduceLT, Nat.reduceEqDiff, reduceCtorEq, Nat.reduceAdd, kni, kdi, kti, kn, kd, kt, hn, hd, ht1, ht5, ht6, h33, h41, hk0, idxL sl22, idxL slU, ldRow sl22 0 hgM rfl, hst2, hldU, aBuild1 t22 _ (x := .int .i64 (i : Int)) rfl rfl, happ, hstU, wrapI]
        refine ⟨mi - 1, by omega, (by simp (disch := decide) only [Kp_put, put_none, hki]), q + 1, nm', ob', _, _, _, by simp (disch := first | omega | decide | (simp only [List.length_cons, List.length_nil] <;> omega)) only [push_cast, ↓reduceIte, Nat.reduceLT, Nat.reduceEqDiff, reduceCtorEq, Nat.reduceAdd], by omega, by rw [e0, hm0], by rw [e1, hm1], by rw [e2, hm2], s3, ?_⟩
        exact bp.pin hi hq hkN (by rw [hpd]; omega)
      · have hlt2 : p < firstE n := by have := hp; simp at this; omega
        simp (disch := first | omega | decide | (simp only [List.length_cons, List.length_nil] <;> omega)) only [push_cast, ↓reduceIte, Nat.reduceLT, Nat.reduceEqDiff, reduceCtorEq, Nat.reduceAdd, kni, kdi, kti, kn, kd, kt, hn, hd, ht1, ht5, ht6, h33, h41, wrapI]
        exact ⟨mi - 1, by omega, (by simp (disch := decide) only [Kp_put, put_none, hki]), q + 1, nm, ob, M, us, uv, by simp (disch := first | omega | decide | (simp only [List.length_cons, List.length_nil] <;> omega)) only [push_cast, ↓reduceIte, Nat.reduceLT, Nat.reduceEqDiff, reduceCtorEq, Nat.reduceAdd], by omega, hm0, hm1, hm2, st, bp.skip hq (by rw [hpd]; exact hlt2)⟩
    · have hq : q = (pinsOf n i).length := by have := hge; simp at this; omega
      subst hq
      have hMl : i < M.length := by rw [bp.len]; exact hi
      have hgM : k3.get M0 = some (.row (M.map (.int .i64)) 3 true) := by rw [← hm0]; exact st.own.get 0 _ st.m
      have hRl : R.length ≤ 4294967296 := by
        have := nodup_le (N := n.insts.length) bp.nd (fun x hx => by have := (bp.r x).1 hx; omega)
        omega
      simp (disch := first | omega | decide | (simp only [List.length_cons, List.length_nil] <;> omega)) only [push_cast, ↓reduceIte, Nat.reduceLT, Nat.reduceEqDiff, reduceCtorEq, Nat.reduceAdd, kni, kdi, kti, kn, kd, kt, hn, hd, ht1, ht5, ht6, h33, idxL sl22, ldRow sl22 0 hgM rfl]
      refine condV_of (fun hz => ?_) (fun hz => ?_)
      · have hz' : M.getD i 0 = 0 := by simpa using hz
        have hpush := st.push w0 hRl (i : Int)
        rw [hm2] at hpush
        simp (disch := first | omega | decide | (simp only [List.length_cons, List.length_nil] <;> omega)) only [push_cast, ↓reduceIte, Nat.reduceLT, Nat.reduceEqDiff, reduceCtorEq, Nat.reduceAdd, kni, kdi, kti, kn, kd, kt, hn, hd, ht1, ht5, ht6, h33]
        refine ACall.mono ?_ hpush
        rintro _ k4 ⟨nm', ob', R', hperm, e0, e1, e2, s4⟩
        simp (disch := first | omega | decide | (simp only [List.length_cons, List.length_nil] <;> omega)) only [push_cast, ↓reduceIte, Nat.reduceLT, Nat.reduceEqDiff, reduceCtorEq, Nat.reduceAdd, kni, kdi, kti, kn, kd, kt, hn, hd, ht1, ht5, ht6, h33, wrapI]
        refine ⟨m - 1, by omega, ?_, i + 1, nm', ob', M, us, uv, R', by simp (disch := first | omega | decide | (simp only [List.length_cons, List.length_nil] <;> omega)) only [push_cast, ↓reduceIte, Nat.reduceLT, Nat.reduceEqDiff, reduceCtorEq, Nat.reduceAdd], by omega, by rw [e0, hm0], by rw [e1, hm1], by rw [e2], s4, bp.next s hi (.inl ⟨hz', hperm⟩)⟩
        simp (disch := decide) only [Kp_put, put_none]
        refine Kp.trans ?_ (⟨kni, kdi, kti⟩ : Kp 41 [11, 12] _ _) (by omega) (by simp)
        exact (by simp (disch := decide) only [Kp_put, put_none, hk])
      · have hz' : M.getD i 0 ≠ 0 := by simpa using hz
        simp (disch := first | omega | decide | (simp only [List.length_cons, List.length_nil] <;> omega)) only [push_cast, ↓reduceIte, Nat.reduceLT, Nat.reduceEqDiff, reduceCtorEq, Nat.reduceAdd, kni, kdi, kti, kn, kd, kt, hn, hd, ht1, ht5, ht6, h33, wrapI]
        refine ⟨m - 1, by omega, ?_, i + 1, nm, ob, M, us, uv, R, by simp (disch := first | omega | decide | (simp only [List.length_cons, List.length_nil] <;> omega)) only [push_cast, ↓reduceIte, Nat.reduceLT, Nat.reduceEqDiff, reduceCtorEq, Nat.reduceAdd], by omega, hm0, hm1, hm2, st, bp.next s hi (.inr ⟨hz', rfl⟩)⟩
        simp (disch := decide) only [Kp_put, put_none]
        refine Kp.trans ?_ (⟨kni, kdi, kti⟩ : Kp 41 [11, 12] _ _) (by omega) (by simp)
        exact (by simp (disch := decide) only [Kp_put, put_none, hk])
  · have hi : i = n.insts.length := by have := hge; simp at this; omega
    subst hi
    have hus := fun i j (hi : i < n.insts.length) (hj : j < n.insts.length) => us_count bp hi hj
    have hur := fun k (hk : k < n.insts.length) x (hx : x ∈ us k) => us_range bp hk hx
    have hul := fun k (hk : k < n.insts.length) => bp.ul k hk
    have mp := MainP.start bp
    clear bp h33 him
    simp (disch := first | omega | decide | (simp only [List.length_cons, List.length_nil] <;> omega)) only [push_cast, ↓reduceIte, Nat.reduceLT, Nat.reduceEqDiff, reduceCtorEq, Nat.reduceAdd, kn, kd, kt, hn, hd, ht1, ht5, ht6]
    refine AW.loopN 34 [8, 9, 10, 11, 12, 13, 14, 15, 16, 33] (fun m a' k => ∃ (nm : Nat → Nat) (ob : Nat → Option AObj) (M R O : List Int) (ov : Value), a'.tm 13 = ov ∧ O.length + m = n.insts.length ∧ nm 0 = M0 ∧ nm 1 = U0 ∧ nm 2 = H0 ∧
        St n.insts.length h1 k nm ob M us uv R O ov ∧ MainP n us O R M []) n.insts.length ?_ ?_
    · exact ⟨nm, ob, M, R, [], _, by simp (disch := first | omega | decide | (simp only [List.length_cons, List.length_nil] <;> omega)) only [push_cast, ↓reduceIte, Nat.reduceLT, Nat.reduceEqDiff, reduceCtorEq, Nat.reduceAdd], by simp, hm0, hm1, hm2, st, mp⟩
    clear st mp hm0 hm1 hm2 hgk r2 hN4
    clear nm ob M R
    rintro b1 mo a3 k3 hko kno kdo kto ⟨nm, ob, M, R, O, ov', h13, hom, hm0, hm1, hm2, st, mp⟩
    have hg3 := st.own.gr
    have r3 := r1.sub hg3.sub
    have hN5 := hN.sub hg3.sub
    have hORl := nodup_le (N := n.insts.length) mp.nd (fun x hx => by
      have := (mp.r x).1 (List.mem_append.1 hx)
      exact ⟨this.1, this.2.1⟩)
    rw [List.length_append] at hORl
    obtain ⟨rv, hr1, hr2⟩ := st.r
    have hgH2 := st.own.get 2 _ hr1
    rw [hm2] at hgH2
    have hldH := ldL (P := Try.prog) hgH2 rfl flH
    simp only [List.length_cons, List.length_nil] at hldH
    have hslR : SlOf k3 rv (R.map (.int .i64)) := hr2.sl (st.own.get 3)
    simp (disch := first | omega | decide | (simp only [List.length_cons, List.length_nil] <;> omega)) only [push_cast, ↓reduceIte, Nat.reduceLT, Nat.reduceEqDiff, reduceCtorEq, Nat.reduceAdd, kno, kdo, kto, kn, kd, kt, hn, hd, ht1, ht5, ht6, hldH, hslR.lenM Try.underlying102]
    refine condV_of (fun hgt => ?_) (fun hle => ?_)
    · have hR0 : 0 < R.length := by have := hgt; simp at this; omega
      have hpop := st.pop w0 (by omega) hR0
      rw [hm2] at hpop
      obtain ⟨hrg, mp2⟩ := mp.pop hR0 (fun i j hi hj => hus i j hi hj)
      simp (disch := first | omega | decide | (simp only [List.length_cons, List.length_nil] <;> omega)) only [push_cast, ↓reduceIte, Nat.reduceLT, Nat.reduceEqDiff, reduceCtorEq, Nat.reduceAdd, kno, kdo, kto, kn, kd, kt, hn, hd, ht1, ht5, ht6]
      refine ACall.mono ?_ hpop
      rintro _ k4 ⟨rfl, ob4, s4⟩
      generalize R.getD (R.length - 1) 0 = i at *
      generalize R.take (R.length - 1) = R2 at *
      obtain ⟨rr, k5, nm5, ob5, happ, e0, e1, e2, s5⟩ := s4.put w0 i (by omega)
      simp (disch := first | omega | decide | (simp only [List.length_cons, List.length_nil] <;> omega)) only [push_cast, ↓reduceIte, Nat.reduceLT, Nat.reduceEqDiff, reduceCtorEq, Nat.reduceAdd, kno, kdo, kto, kn, kd, kt, hn, hd, ht1, ht5, ht6, h13, aBuild1 t22 _ (x := .int .i64 i) rfl rfl, happ]
      rw [hm0] at e0
      rw [hm1] at e1
      rw [hm2] at e2
      have hgU5 : k5.get U0 = some (.row uv 22 true) := by rw [← e1]; exact s5.own.get 1 _ s5.u
      have hiN : i.toNat < n.insts.length := by omega
      have hldU := ldL hgU5 rfl flI i.toNat (by rw [s5.ul]; exact hiN)
      have hsu : SlOf k5 (uv.getD i.toNat undef) ((us i.toNat).map (.int .i64)) := (s5.ue _ hiN).sl (s5.own.get _)
      have hull := hul _ hiN
      simp (disch := first | omega | decide | (simp only [List.length_cons, List.length_nil] <;> omega)) only [push_cast, ↓reduceIte, Nat.reduceLT, Nat.reduceEqDiff, reduceCtorEq, Nat.reduceAdd, kno, kdo, kto, kn, kd, kt, hn, hd, ht1, ht5, ht6, idxL slU, hldU, hsu.lenM Try.underlying22]
      refine AW.loopN 89 [16] (fun mi a' k => ∃ (q : Nat) (nm : Nat → Nat) (ob : Nat → Option AObj) (M R : List Int), a'.tm 89 = .int .i64 q ∧ q + mi = (us i.toNat).length ∧ nm 0 = M0 ∧ nm 1 = U0 ∧ nm 2 = H0 ∧
          St n.insts.length h1 k nm ob M us uv R (O ++ [i]) rr ∧ MainP n us (O ++ [i]) R M ((us i.toNat).drop q)) (us i.toNat).length ?_ ?_
      · exact ⟨0, nm5, ob5, M, R2, by simp (disch := first | omega | decide | (simp only [List.length_cons, List.length_nil] <;> omega)) only [push_cast, ↓reduceIte, Nat.reduceLT, Nat.reduceEqDiff, reduceCtorEq, Nat.reduceAdd], by omega, e0, e1, e2, s5, mp2⟩
      rintro c1 mi a5 k6 hki kni kdi kti ⟨q, nm6, ob6, M6, R6, h89, hqm, f0, f1, f2, s6, mp6⟩
      have hgU6 : k6.get U0 = some (.row uv 22 true) := by rw [← f1]; exact s6.own.get 1 _ s6.u
      have hsu6 : SlOf k6 (uv.getD i.toNat undef) ((us i.toNat).map (.int .i64)) := (s6.ue _ hiN).sl (s6.own.get _)
      simp (disch := first | omega | decide | (simp only [List.length_cons, List.length_nil] <;> omega)) only [push_cast, ↓reduceIte, Nat.reduceLT, Nat.reduceEqDiff, reduceCtorEq, Nat.reduceAdd, kni, kdi, kti, kno, kdo, kto, kn, kd, kt, hn, hd, ht1, ht5, ht6, h89]
      refine condV_of (fun hlt => ?_) (fun hge => ?_)
      · have hq : q < (us i.toNat).length := by have := hlt; simp at this; omega
        have hdrop : (us i.toNat).drop q = (us i.toNat).getD q 0 :: (us i.toNat).drop (q + 1) := by
          rw [List.drop_eq_getElem_cons hq]
          simp [List.getD_eq_getElem?_getD, hq]
        have hu := hur i.toNat hiN _ (getD_mem hq 0)
        rw [hdrop] at mp6
        generalize hue : (us i.toNat).getD q 0 = u at *
        have hul6 : u.toNat < M6.length := by rw [mp6.len]; omega
        have hgM : k6.get M0 = some (.row (M6.map (.int .i64)) 3 true) := by rw [← f0]; exact s6.own.get 0 _ s6.m
        have hst2 := fun b i' (hi' : i' < M6.length) => stRow sl22 hgM (one_int .i64) i' b hi'
        have s7 := s6.setM w0 (M6.set u.toNat (M6.getD u.toNat 0 - 1))
        rw [f0] at s7
        have hmu := mp6.m u.toNat (by omega)
        have hMu : 0 ≤ M6.getD u.toNat 0 ∧ M6.getD u.toNat 0 ≤ 4294967296 := by
          rw [hmu]
          have h1 : rem n (O ++ [i]) u.toNat ≤ (pinsOf n u.toNat).length := List.countP_le_length
          have h2 := s.pinsOf4 (i := u.toNat) (by omega)
          have h3 : (u :: (us i.toNat).drop (q + 1)).count ((u.toNat : Nat) : Int) ≤ (u :: (us i.toNat).drop (q + 1)).length := List.count_le_length
          rw [List.length_cons, List.length_drop] at h3
          omega
        have hgM7 : (k6.set M0 (.row ((M6.set u.toNat (M6.getD u.toNat 0 - 1)).map (.int .i64)) 3 true)).get M0 = some (.row ((M6.set u.toNat (M6.getD u.toNat 0 - 1)).map (.int .i64)) 3 true) := by rw [AH.set_get, if_pos rfl]
        have hll : u.toNat < (M6.set u.toNat (M6.getD u.toNat 0 - 1)).length := by rw [List.length_set]; exact hul6
        have hld7 := ldRow sl22 0 hgM7 rfl u.toNat hll
        have hgs : (M6.set u.toNat (M6.getD u.toNat 0 - 1)).getD u.toNat 0 = M6.getD u.toNat 0 - 1 := by rw [getD_set hul6, if_pos rfl]
        rw [hgs] at hld7
        simp (disch := first | omega | decide | (simp only [List.length_cons, List.length_nil] <;> omega)) only [push_cast, ↓reduceIte, Nat.reduceLT, Nat.reduceEqDiff, reduceCtorEq, Nat.reduceAdd, kni, kdi, kti, kno, kdo, kto, kn, kd, kt, hn, hd, ht1, ht5, ht6, h89, hsu6.idxI sl22, hsu6.ldI sl22, hue, idxL sl22, ldRow sl22 0 hgM rfl, hst2, hld7, wrapI]
        refine condV_of (fun hz => ?_) (fun hz => ?_)
        · have hz' : M6.getD u.toNat 0 - 1 = 0 := by simpa using hz
          have hRb : R6.length ≤ 4294967296 := by
            have := nodup_le (N := n.insts.length) mp6.nd (fun x hx => by
              have := (mp6.r x).1 (List.mem_append.1 hx)
              exact ⟨this.1, this.2.1⟩)
            rw [List.length_append] at this
            omega
          have hpush := s7.push w0 hRb u
          rw [f2] at hpush
          simp (disch := first | omega | decide | (simp only [List.length_cons, List.length_nil] <;> omega)) only [push_cast, ↓reduceIte, Nat.reduceLT, Nat.reduceEqDiff, reduceCtorEq, Nat.reduceAdd, kni, kdi, kti, kno, kdo, kto, kn, kd, kt, hn, hd, ht1, ht5, ht6, h89]
          refine ACall.mono ?_ hpush
          rintro _ k8 ⟨nm8, ob8, R8, hperm, g0, g1', g2, s8⟩
          simp (disch := first | omega | decide | (simp only [List.length_cons, List.length_nil] <;> omega)) only [push_cast, ↓reduceIte, Nat.reduceLT, Nat.reduceEqDiff, reduceCtorEq, Nat.reduceAdd, kni, kdi, kti, kno, kdo, kto, kn, kd, kt, hn, hd, ht1, ht5, ht6, h89, wrapI]
          exact ⟨mi - 1, by omega, (by simp (disch := decide) only [Kp_put, put_none, hki]), q + 1, nm8, ob8, _, R8, by simp (disch := first | omega | decide | (simp only [List.length_cons, List.length_nil] <;> omega)) only [push_cast, ↓reduceIte, Nat.reduceLT, Nat.reduceEqDiff, reduceCtorEq, Nat.reduceAdd], by omega, by rw [g0, f0], by rw [g1', f1], by rw [g2], s8, (mp6.dec hu.1 hu.2 (.inl ⟨hz', hperm⟩)).2⟩
        · have hz' : M6.getD u.toNat 0 - 1 ≠ 0 := by simpa using hz
          simp (disch := first | omega | decide | (simp only [List.length_cons, List.length_nil] <;> omega)) only [push_cast, ↓reduceIte, Nat.reduceLT, Nat.reduceEqDiff, reduceCtorEq, Nat.reduceAdd, kni, kdi, kti, kno, kdo, kto, kn, kd, kt, hn, hd, ht1, ht5, ht6, h89, wrapI]
          exact ⟨mi - 1, by omega, (by simp (disch := decide) only [Kp_put, put_none, hki]), q + 1, nm6, _, _, R6, by simp (disch := first | omega | decide | (simp only [List.length_cons, List.length_nil] <;> omega)) only [push_cast, ↓reduceIte, Nat.reduceLT, Nat.reduceEqDiff, reduceCtorEq, Nat.reduceAdd], by omega, f0, f1, f2, s7, (mp6.dec hu.1 hu.2 (.inr ⟨hz', rfl⟩)).2⟩
      · have hq : q = (us i.toNat).length := by have := hge; simp at this; omega
        subst hq
        rw [List.drop_length] at mp6
        simp (disch := first | omega | decide | (simp only [List.length_cons, List.length_nil] <;> omega)) only [push_cast, ↓reduceIte, Nat.reduceLT, Nat.reduceEqDiff, reduceCtorEq, Nat.reduceAdd, kni, kdi, kti, kno, kdo, kto, kn, kd, kt, hn, hd, ht1, ht5, ht6]
        refine ⟨mo - 1, by omega, ?_, nm6, ob6, M6, R6, O ++ [i], rr, by simp (disch := first | omega | decide | (simp only [List.length_cons, List.length_nil] <;> omega)) only [push_cast, ↓reduceIte, Nat.reduceLT, Nat.reduceEqDiff, reduceCtorEq, Nat.reduceAdd, kni, kdi, kti], by rw [List.length_append]; simp only [List.length_cons, List.length_nil]; omega, f0, f1, f2, s6, mp6⟩
        simp (disch := decide) only [Kp_put, put_none]
        refine Kp.trans ?_ (⟨kni, kdi, kti⟩ : Kp 89 [16] _ _) (by omega) (by simp)
        simp (disch := decide) only [Kp_put, put_none, hko]
    · have hR0 : R = [] := by
        cases R with
        | nil => rfl
        | cons x R => simp at hle
      subst hR0
      have hslO : SlOf k3 ov' (O.map (.int .i64)) := st.o.sl (st.own.get 4)
      have hstuck := mp.stuck
      have htopo := mp.topo
      simp (disch := first | omega | decide | (simp only [List.length_cons, List.length_nil] <;> omega)) only [push_cast, ↓reduceIte, Nat.reduceLT, Nat.reduceEqDiff, reduceCtorEq, Nat.reduceAdd, kno, kdo, kto, kn, kd, kt, hn, hd, ht1, ht5, ht6, h13, hslO.lenM Try.underlying22, faL foN0, faL foN1, faL foN2, faL foN3, faL foN4, hN5.l0, hN5.l1, hN5.l2, hN5.l3, hN5.l4, hN5.la, r3.i.len Try.underlying32]
      refine condV_of (fun hl => ?_) (fun hl => ?_)
      · have hlt : O.length < n.insts.length := by have := hl; simp at this; omega
        simp (disch := first | omega | decide | (simp only [List.length_cons, List.length_nil] <;> omega)) only [push_cast, ↓reduceIte, Nat.reduceLT, Nat.reduceEqDiff, reduceCtorEq, Nat.reduceAdd, kno, kdo, kto, kn, kd, kt, hn, hd, ht1, ht5, ht6, h13]
        exact ⟨g1.trans hg3, .inr ⟨e0', O, htopo, .inl ⟨hlt, hstuck, rfl⟩⟩⟩
      · have heq : O.length = n.insts.length := by have := hl; simp at this; omega
        simp (disch := first | omega | decide | (simp only [List.length_cons, List.length_nil] <;> omega)) only [push_cast, ↓reduceIte, Nat.reduceLT, Nat.reduceEqDiff, reduceCtorEq, Nat.reduceAdd, kno, kdo, kto, kn, kd, kt, hn, hd, ht1, ht5, ht6, h13]
        exact ⟨g1.trans hg3, .inr ⟨e0', O, htopo, .inr ⟨heq, ov', rfl, hslO⟩⟩⟩


/-! ### Whether a netlist can be put in order, plainly -/

def Full (n : Net) : Prop := ∃ O, Topo n O ∧ O.length = n.insts.length

theorem nodup_all {N : Nat} {l : List Int} (hn : l.Nodup) (hr : ∀ x ∈ l, 0 ≤ x ∧ x < N) (hl : l.length = N) {i : Nat} (hi : i < N) : (i : Int) ∈ l := by
  apply Classical.byContradiction
  intro hx
  have := nodup_le (N := N) (l := (i : Int) :: l) (List.nodup_cons.2 ⟨hx, hn⟩) (fun x h => by
    rcases List.mem_cons.1 h with rfl | h
    · omega
    · exact hr x h)
  simp at this; omega

theorem all_le : ∀ (N : Nat) (l : List Int), (∀ i : Nat, i < N → (i : Int) ∈ l) → N ≤ l.length := by
  intro N
  induction N with
  | zero => intro l _; omega
  | succ N ih =>
    intro l h
    have h1 := h N (by omega)
    have h2 := ih (l.erase (N : Int)) (fun i hi => (List.mem_erase_of_ne (by omega)).2 (h i (by omega)))
    rw [List.length_erase_of_mem h1] at h2
    have := List.length_pos_of_mem h1
    omega

theorem stuck_not_full {n : Net} {O : List Int} (hs : Stuck n O) (ht : Topo n O) (hl : O.length < n.insts.length) : ¬ Full n := by
  rintro ⟨P, tp, lp⟩
  have key : ∀ j : Nat, ∀ x, P[j]? = some x → x ∈ O := by
    intro j
    induction j using Nat.strongRecOn with
    | _ j ih =>
      intro x hx
      apply Classical.byContradiction
      intro hO
      have hr := tp.range x (List.mem_of_getElem? hx)
      obtain ⟨p, hp, hF, hno⟩ := hs x.toNat (by omega) (by rw [Int.toNat_of_nonneg hr.1]; exact hO)
      have hb := tp.before j x hx p hp hF
      obtain ⟨k, hk, e⟩ := List.getElem_of_mem hb
      simp only [List.length_take] at hk
      rw [List.getElem_take] at e
      exact hno (ih k (by omega) _ (by rw [← e, List.getElem?_eq_getElem (by omega)]))
  have hall : ∀ i : Nat, i < n.insts.length → (i : Int) ∈ O := fun i hi => by
    have hm := nodup_all tp.nodup tp.range lp hi
    obtain ⟨k, hk, e⟩ := List.getElem_of_mem hm
    exact key k _ (by rw [List.getElem?_eq_getElem hk, e])
  have := all_le n.insts.length O hall
  omega

open Classical in
noncomputable def netE (n : Net) : Int := if shapeE n ≠ 0 then shapeE n else if Full n then 0 else 14

theorem netE_zero {n : Net} : netE n = 0 ↔ shapeE n = 0 ∧ Full n := by
  unfold netE
  by_cases h : shapeE n = 0
  · by_cases hf : Full n
    · simp [h, hf]
    · simp [h, hf]
  · simp [h]

theorem checkN {h : AH} {n : Net} {cv fv iv ov : Value} (r : NetR h n cv fv iv ov) (ok : NetOK n) :
    ACall Try.prog 36 [.agg (netC n cv fv iv ov).toArray] h (fun v h' => v = .int .i64 (netE n) ∧ h' = h) := by
  refine ACall.viewed rfl ?_
  replace r := r.view
  generalize AH.view h = h at r
  refine ACall.wf ⟨_, Try.func36, rfl, by kernel_rfl⟩ fun hwf => ?_
  refine ACall.of_wp 11 [.tmp 2] Try.func36 rfl (by kernel_rfl) rfl rfl fun a hn hd ha => ?_
  have hbox := boxA 34 h _ r.one
  have hN := NetAt.new (h := h) (n := n) (cv := cv) (fv := fv) (iv := iv) (ov := ov)
  have r1 := r.sub (Sub.new hwf (.row (netC n cv fv iv ov) 34 true))
  simp (disch := first | omega | decide | (simp only [List.length_cons, List.length_nil] <;> omega)) only [push_cast, ↓reduceIte, Nat.reduceLT, Nat.reduceEqDiff, reduceCtorEq, Nat.reduceAdd, hn, hd, ha, hbox, faL foN0, faL foN1, faL foN2, faL foN3, faL foN4, hN.l0, hN.l1, hN.l2, hN.l3, hN.l4, hN.la]
  refine ACall.mono ?_ (orderN r1 ok)
  rintro _ k ⟨hg, ⟨hs, rfl⟩ | ⟨hs, O, ht, ⟨hl, hst, rfl⟩ | ⟨hl, v, rfl, hv⟩⟩⟩
  · simp (disch := first | omega | decide | (simp only [List.length_cons, List.length_nil] <;> omega)) only [push_cast, ↓reduceIte, Nat.reduceLT, Nat.reduceEqDiff, reduceCtorEq, Nat.reduceAdd, hn, hd, ha, netE, ne_eq, hs]
  · simp (disch := first | omega | decide | (simp only [List.length_cons, List.length_nil] <;> omega)) only [push_cast, ↓reduceIte, Nat.reduceLT, Nat.reduceEqDiff, reduceCtorEq, Nat.reduceAdd, hn, hd, ha, netE, ne_eq, hs, stuck_not_full hst ht hl, not_true_eq_false]
  · have hf : Full n := ⟨O, ht, hl⟩
    simp (disch := first | omega | decide | (simp only [List.length_cons, List.length_nil] <;> omega)) only [push_cast, ↓reduceIte, Nat.reduceLT, Nat.reduceEqDiff, reduceCtorEq, Nat.reduceAdd, hn, hd, ha, netE, ne_eq, hs, hf, not_true_eq_false]

/-! ### netlist.Area -/

/-! ### netlist.Start -/

/-! ### scan.check -/

noncomputable def scanE (n : Net) (zs : List Int) : Int := if netE n ≠ 0 then netE n else if IsPerm zs ∧ (zs.length : Int) = n.flops.length then 0 else 1

theorem scanCheck {h : AH} {n : Net} {cv fv iv ov v : Value} {zs : List Int} (r : NetR h n cv fv iv ov) (ok : NetOK n) (hv : SlOf h v (zs.map (.int .i64))) (hb : zs.length ≤ 17592186043904) :
    ACall Try.prog 30 [.agg (netC n cv fv iv ov).toArray, v] h (fun v h' => v = .int .i64 (scanE n zs) ∧ h' = h) := by
  refine ACall.viewed rfl ?_
  replace r := r.view
  replace hv := hv.view
  generalize AH.view h = h at r hv
  refine ACall.wf ⟨_, Try.func30, rfl, by kernel_rfl⟩ fun hwf => ?_
  refine ACall.of_wp 17 [.tmp 4] Try.func30 rfl (by kernel_rfl) rfl rfl fun a hn hd ha => ?_
  have hbox := boxA 34 h _ r.one
  have hN := NetAt.new (h := h) (n := n) (cv := cv) (fv := fv) (iv := iv) (ov := ov)
  have s1 := Sub.new hwf (.row (netC n cv fv iv ov) 34 true)
  have r1 := r.sub s1
  have hv1 := hv.sub s1
  simp (disch := first | omega | decide | (simp only [List.length_cons, List.length_nil] <;> omega)) only [push_cast, ↓reduceIte, Nat.reduceLT, Nat.reduceEqDiff, reduceCtorEq, Nat.reduceAdd, hn, hd, ha, hbox, faL foN0, faL foN1, faL foN2, faL foN3, faL foN4, hN.l0, hN.l1, hN.l2, hN.l3, hN.l4, hN.la]
  generalize h.new (.row (netC n cv fv iv ov) 34 true) = h1 at hN r1 hv1 ⊢
  generalize h.next = B at hN ⊢
  refine ACall.mono ?_ (checkN r1 ok)
  rintro _ h1 ⟨rfl, rfl⟩
  simp (disch := first | omega | decide | (simp only [List.length_cons, List.length_nil] <;> omega)) only [push_cast, ↓reduceIte, Nat.reduceLT, Nat.reduceEqDiff, reduceCtorEq, Nat.reduceAdd, hn, hd, ha]
  refine condV_not (fun e0 => ?_) (fun e0 => ?_)
  · have e : ¬ netE n = 0 := by simpa using e0
    simp (disch := first | omega | decide | (simp only [List.length_cons, List.length_nil] <;> omega)) only [push_cast, ↓reduceIte, Nat.reduceLT, Nat.reduceEqDiff, reduceCtorEq, Nat.reduceAdd, hn, hd, ha, scanE, ne_eq, e]
  have e : netE n = 0 := by simpa using e0
  simp (disch := first | omega | decide | (simp only [List.length_cons, List.length_nil] <;> omega)) only [push_cast, ↓reduceIte, Nat.reduceLT, Nat.reduceEqDiff, reduceCtorEq, Nat.reduceAdd, hn, hd, ha, faL foN0, faL foN1, faL foN2, faL foN3, faL foN4, hN.l0, hN.l1, hN.l2, hN.l3, hN.l4, hN.la, r1.f.len Try.underlying31]
  refine ACall.mono ?_ (permutation hv1 hb)
  rintro _ k ⟨rfl, hsub⟩
  by_cases hp : IsPerm zs ∧ (zs.length : Int) = n.flops.length
  · simp (disch := first | omega | decide | (simp only [List.length_cons, List.length_nil] <;> omega)) only [push_cast, ↓reduceIte, Nat.reduceLT, Nat.reduceEqDiff, reduceCtorEq, Nat.reduceAdd, hn, hd, ha, scanE, ne_eq, e, hp, not_true_eq_false, and_self]
  · simp (disch := first | omega | decide | (simp only [List.length_cons, List.length_nil] <;> omega)) only [push_cast, ↓reduceIte, Nat.reduceLT, Nat.reduceEqDiff, reduceCtorEq, Nat.reduceAdd, hn, hd, ha, scanE, ne_eq, e, hp, not_true_eq_false, and_self]


def andE (k : IntKind) (a b : Int) : Int := k.wrap (BitVec.ofInt k.bits a &&& BitVec.ofInt k.bits b).toNat
def orE (k : IntKind) (a b : Int) : Int := k.wrap (BitVec.ofInt k.bits a ||| BitVec.ofInt k.bits b).toNat
def evalE (t i : Int) : Bool := decide (i ≥ 0) && (andE .u64 (t.fdiv (2 ^ min (min i 64).toNat IntKind.u64.bits)) 1 == 1)

theorem eval {h : AH} {t i : Int} : ACall Try.prog 78 [.int .u64 t, .int .i64 i] h (fun r h' => r = .bool (evalE t i) ∧ h' = h) := by
  refine ACall.of_wp 15 [.tmp 4] Try.func78 rfl (by kernel_rfl) rfl rfl fun a hn hd ha => ?_
  simp (disch := first | omega | decide) only [push_cast, ↓reduceIte, Nat.reduceLT, Nat.reduceEqDiff, reduceCtorEq, Nat.reduceAdd, hn, hd, ha]
  refine wantM_of (fun e => ?_) (fun e => ?_)
  · have e' : i ≥ 0 := by simpa using e
    simp (disch := first | omega | decide) only [push_cast, ↓reduceIte, Nat.reduceLT, Nat.reduceEqDiff, reduceCtorEq, Nat.reduceAdd, hn, hd, ha, e, aFold, aMin2R, shrR, evalE, andE, e']
  · simp (disch := first | omega | decide) only [push_cast, ↓reduceIte, Nat.reduceLT, Nat.reduceEqDiff, reduceCtorEq, Nat.reduceAdd, hn, hd, ha, e, evalE, Bool.false_and]

/-! ### table.permutation -/

def bitE (s v : Int) : Int := andE .i64 (s.fdiv (2 ^ min v.toNat IntKind.i64.bits)) 1
def shlE (k : IntKind) (v : Int) : Int := k.wrap (1 * 2 ^ min v.toNat k.bits)
theorem shl1 (k : IntKind) (v : Int) (hv : 0 ≤ v) : shBin .shl k 1 v = some (.int k (shlE k v)) := by rw [shlR _ _ _ hv]; rfl
def setE (s v : Int) : Int := orE .i64 s (shlE .i64 v)
def permGo (n : Int) : Int → List Int → Bool
  | _, [] => true
  | s, v :: vs => if ((decide (v < 0) || decide (v ≥ n)) || (bitE s v == 1)) = true then false else permGo n (setE s v) vs
def permE (zs : List Int) (n : Int) : Bool := permGo n 0 zs && ((zs.length : Int) == n)

theorem permGo_range {n : Int} : ∀ {zs : List Int} {s : Int}, permGo n s zs = true → ∀ z ∈ zs, 0 ≤ z ∧ z < n := by
  intro zs
  induction zs with
  | nil => intro s _ z hz; simp at hz
  | cons v vs ih =>
    intro s h z hz
    simp only [permGo] at h
    split at h
    · cases h
    · rename_i hc
      simp only [Bool.or_eq_true, decide_eq_true_eq, not_or] at hc
      rcases List.mem_cons.1 hz with rfl | hz
      · omega
      · exact ih h z hz

theorem drop_cons_getD {α : Type} {l : List α} {i : Nat} (hi : i < l.length) (d : α) : l.drop i = l.getD i d :: l.drop (i + 1) := by
  rw [List.drop_eq_getElem_cons hi, List.getD_eq_getElem?_getD, List.getElem?_eq_getElem hi]; rfl

theorem perm {h : AH} {v : Value} {zs : List Int} {n : Int} (hv : SlOf h v (zs.map (.int .i64))) (hb : zs.length ≤ 4294967296) :
    ACall Try.prog 63 [v, .int .i64 n] h (fun r h' => r = .bool (permE zs n) ∧ h' = h) := by
  refine ACall.of_wp 37 [.tmp 4] Try.func63 rfl (by kernel_rfl) rfl rfl fun a hn hd ha => ?_
  simp (disch := first | omega | decide) only [push_cast, ↓reduceIte, Nat.reduceLT, Nat.reduceEqDiff, reduceCtorEq, Nat.reduceAdd, hn, hd, ha, hv.lenM Try.underlying22]
  refine AW.loopN 10 [4, 5, 7] (fun m a' h' => h' = h ∧ ∃ (i : Nat) (s : Int), a'.tm 10 = .int .i64 i ∧ i + m = zs.length ∧ a'.tm 5 = .int .i64 s ∧ permGo n s (zs.drop i) = permGo n 0 zs) zs.length ?_ ?_
  · exact ⟨rfl, 0, 0, by simp (disch := first | omega | decide) only [push_cast, ↓reduceIte, Nat.reduceLT, Nat.reduceEqDiff, reduceCtorEq, Nat.reduceAdd], by omega, by simp (disch := first | omega | decide) only [push_cast, ↓reduceIte, Nat.reduceLT, Nat.reduceEqDiff, reduceCtorEq, Nat.reduceAdd], rfl⟩
  rintro a1 m a' h' hk kn kd kt ⟨rfl, i, s, h10, him, h5, hgo⟩
  simp (disch := first | omega | decide) only [push_cast, ↓reduceIte, Nat.reduceLT, Nat.reduceEqDiff, reduceCtorEq, Nat.reduceAdd, kn, kd, kt, hn, hd, ha, h10, h5]
  refine condV_of (fun hlt => ?_) (fun hge => ?_)
  · have hi : i < zs.length := by have := hlt; simp at this; omega
    rw [drop_cons_getD hi 0, permGo] at hgo
    simp (disch := first | omega | decide) only [push_cast, ↓reduceIte, Nat.reduceLT, Nat.reduceEqDiff, reduceCtorEq, Nat.reduceAdd, kn, kd, kt, hn, hd, ha, h10, h5, hv.idxI sl22, hv.ldI sl22]
    generalize zs.getD i 0 = z at *
    refine wantM_not (fun e1 => ?_) (fun e1 => ?_)
    · simp (disch := first | omega | decide) only [push_cast, ↓reduceIte, Nat.reduceLT, Nat.reduceEqDiff, reduceCtorEq, Nat.reduceAdd, kn, kd, kt, hn, hd, ha, h10, h5, e1]
      simp only [e1, Bool.true_or, if_true] at hgo
      simp only [permE, ← hgo, Bool.false_and, and_self]
    simp (disch := first | omega | decide) only [push_cast, ↓reduceIte, Nat.reduceLT, Nat.reduceEqDiff, reduceCtorEq, Nat.reduceAdd, kn, kd, kt, hn, hd, ha, h10, h5, e1]
    refine wantM_not (fun e2 => ?_) (fun e2 => ?_)
    · simp (disch := first | omega | decide) only [push_cast, ↓reduceIte, Nat.reduceLT, Nat.reduceEqDiff, reduceCtorEq, Nat.reduceAdd, kn, kd, kt, hn, hd, ha, h10, h5, e1, e2]
      simp only [e1, e2, Bool.true_or, Bool.or_true, if_true] at hgo
      simp only [permE, ← hgo, Bool.false_and, and_self]
    have hz0 : 0 ≤ z := by simpa using e1
    simp (disch := first | omega | decide) only [push_cast, ↓reduceIte, Nat.reduceLT, Nat.reduceEqDiff, reduceCtorEq, Nat.reduceAdd, kn, kd, kt, hn, hd, ha, h10, h5, e1, e2, shrR]
    refine condV_of (fun e3 => ?_) (fun e3 => ?_)
    · have e3' : (bitE s z == 1) = true := by simp only [bitE, andE, ieq]; exact e3
      simp (disch := first | omega | decide) only [push_cast, ↓reduceIte, Nat.reduceLT, Nat.reduceEqDiff, reduceCtorEq, Nat.reduceAdd, kn, kd, kt, hn, hd, ha, h10, h5]
      simp only [e1, e2, e3', Bool.true_or, Bool.or_true, if_true] at hgo
      simp only [permE, ← hgo, Bool.false_and, and_self]
    · have e3' : (bitE s z == 1) = false := by simp only [bitE, andE, ieq]; exact e3
      simp only [e1, e2, e3', Bool.or_false, Bool.false_eq_true, if_false] at hgo
      clear e3 e3'
      have hw : IntKind.i64.wrap ((i : Int) + 1) = i + 1 := wrapI (by omega) (by omega)
      simp only [setE] at hgo
      simp (disch := first | omega | decide) only [push_cast, ↓reduceIte, Nat.reduceLT, Nat.reduceEqDiff, reduceCtorEq, Nat.reduceAdd, kn, kd, kt, hn, hd, ha, h10, h5, hw]
      rw [shl1 _ _ hz0]
      generalize shlE .i64 z = y at hgo ⊢
      simp (disch := first | omega | decide) only [push_cast, ↓reduceIte, Nat.reduceLT, Nat.reduceEqDiff, reduceCtorEq, Nat.reduceAdd, kn, kd, kt, hn, hd, ha, h10, h5, hw]
      exact ⟨m - 1, by omega, (by simp (disch := decide) only [Kp_put, put_none, hk]), rfl, i + 1, orE .i64 s y, by simp (disch := first | omega | decide) only [push_cast, ↓reduceIte, Nat.reduceLT, Nat.reduceEqDiff, reduceCtorEq, Nat.reduceAdd], by omega, by simp (disch := first | omega | decide) only [push_cast, ↓reduceIte, Nat.reduceLT, Nat.reduceEqDiff, reduceCtorEq, Nat.reduceAdd, orE], hgo⟩
  · have hi : i = zs.length := by have := hge; simp at this; omega
    subst hi
    rw [List.drop_length, permGo] at hgo
    simp (disch := first | omega | decide) only [push_cast, ↓reduceIte, Nat.reduceLT, Nat.reduceEqDiff, reduceCtorEq, Nat.reduceAdd, kn, kd, kt, hn, hd, ha, h10, h5, hv.lenM Try.underlying22, permE, ← hgo]

/-! ### table.permute -/

def idxGo (row : Int) : Int → Nat → List Int → Int
  | acc, _, [] => acc
  | acc, j, v :: vs => idxGo row (orE .i64 acc (IntKind.i64.wrap (bitE row v * 2 ^ min j IntKind.i64.bits))) (j + 1) vs
def rowsGo (t : Int) (zs : List Int) : Int → Nat → Nat → Int
  | acc, _, 0 => acc
  | acc, r, c + 1 => rowsGo t zs (if evalE t (idxGo r 0 0 zs) = true then orE .u64 acc (shlE .u64 r) else acc) (r + 1) c
def permuteE (t n : Int) (zs : List Int) : Int := rowsGo t zs 0 0 (2 ^ n.toNat)

theorem permute {h : AH} {v : Value} {t n : Int} {zs : List Int} (hv : SlOf h v (zs.map (.int .i64))) (hb : zs.length ≤ 4294967296) (h0 : 0 ≤ n) (h1 : n ≤ 6) (hz : ∀ z ∈ zs, 0 ≤ z) :
    ACall Try.prog 64 [.int .u64 t, .int .i64 n, v] h (fun r h' => r = .int .u64 (permuteE t n zs) ∧ h' = h) := by
  refine ACall.of_wp 42 [.tmp 6] Try.func64 rfl (by kernel_rfl) rfl rfl fun a hn hd ha => ?_
  obtain ⟨N, hN, hN64, hpow⟩ : ∃ N : Nat, shlE .i64 n = N ∧ N ≤ 64 ∧ 2 ^ n.toNat = N := by
    refine ⟨2 ^ n.toNat, ?_, ?_, rfl⟩
    · have : n = 0 ∨ n = 1 ∨ n = 2 ∨ n = 3 ∨ n = 4 ∨ n = 5 ∨ n = 6 := by omega
      rcases this with rfl | rfl | rfl | rfl | rfl | rfl | rfl <;> rfl
    · exact Nat.le_trans (Nat.pow_le_pow_right (by omega) (show n.toNat ≤ 6 by omega)) (by decide)
  have hE : permuteE t n zs = rowsGo t zs 0 0 N := by rw [permuteE, hpow]
  rw [hE]
  simp (disch := first | omega | decide) only [push_cast, ↓reduceIte, Nat.reduceLT, Nat.reduceEqDiff, reduceCtorEq, Nat.reduceAdd, hn, hd, ha, shl1, hN]
  refine AW.loopN 14 [7, 8, 9, 10, 11, 17, 18, 19] (fun m a' h' => h' = h ∧ ∃ (i : Nat) (s : Int), a'.tm 14 = .int .i64 i ∧ i + m = N ∧ a'.tm 7 = .int .u64 s ∧ rowsGo t zs s i (N - i) = rowsGo t zs 0 0 N) N ?_ ?_
  · exact ⟨rfl, 0, 0, by simp (disch := first | omega | decide) only [push_cast, ↓reduceIte, Nat.reduceLT, Nat.reduceEqDiff, reduceCtorEq, Nat.reduceAdd], by omega, by simp (disch := first | omega | decide) only [push_cast, ↓reduceIte, Nat.reduceLT, Nat.reduceEqDiff, reduceCtorEq, Nat.reduceAdd], rfl⟩
  rintro a1 m a' h' hk kn kd kt ⟨rfl, i, s, h14, him, h7, hgo⟩
  simp (disch := first | omega | decide) only [push_cast, ↓reduceIte, Nat.reduceLT, Nat.reduceEqDiff, reduceCtorEq, Nat.reduceAdd, kn, kd, kt, hn, hd, ha, h14, h7]
  refine condV_of (fun hlt => ?_) (fun hge => ?_)
  · have hi : i < N := by have := hlt; simp at this; omega
    have hsub : N - i = (N - (i + 1)) + 1 := by omega
    rw [hsub, rowsGo] at hgo
    simp (disch := first | omega | decide) only [push_cast, ↓reduceIte, Nat.reduceLT, Nat.reduceEqDiff, reduceCtorEq, Nat.reduceAdd, kn, kd, kt, hn, hd, ha, h14, h7, hv.lenM Try.underlying22]
    refine AW.loopN 19 [9, 10, 11] (fun m a' k => k = h' ∧ ∃ (j : Nat) (s : Int), a'.tm 19 = .int .i64 j ∧ j + m = zs.length ∧ a'.tm 9 = .int .i64 s ∧ idxGo i s j (zs.drop j) = idxGo i 0 0 zs) zs.length ?_ ?_
    · exact ⟨rfl, 0, 0, by simp (disch := first | omega | decide) only [push_cast, ↓reduceIte, Nat.reduceLT, Nat.reduceEqDiff, reduceCtorEq, Nat.reduceAdd], by omega, by simp (disch := first | omega | decide) only [push_cast, ↓reduceIte, Nat.reduceLT, Nat.reduceEqDiff, reduceCtorEq, Nat.reduceAdd], rfl⟩
    rintro c1 mi a5 k6 hki kni kdi kti ⟨rfl, j, w, h19, hjm, h9, hjo⟩
    simp (disch := first | omega | decide) only [push_cast, ↓reduceIte, Nat.reduceLT, Nat.reduceEqDiff, reduceCtorEq, Nat.reduceAdd, kni, kdi, kti, kn, kd, kt, hn, hd, ha, h14, h7, h19, h9]
    refine condV_of (fun hlt => ?_) (fun hge => ?_)
    · have hj : j < zs.length := by have := hlt; simp at this; omega
      have hzj := hz _ (getD_mem hj 0)
      rw [drop_cons_getD hj 0, idxGo] at hjo
      simp (disch := first | omega | decide) only [push_cast, ↓reduceIte, Nat.reduceLT, Nat.reduceEqDiff, reduceCtorEq, Nat.reduceAdd, kni, kdi, kti, kn, kd, kt, hn, hd, ha, h14, h7, h19, h9, hv.idxI sl22, hv.ldI sl22]
      generalize zs.getD j 0 = z at *
      have hw : IntKind.i64.wrap ((j : Int) + 1) = j + 1 := wrapI (by omega) (by omega)
      simp (disch := first | omega | decide) only [push_cast, ↓reduceIte, Nat.reduceLT, Nat.reduceEqDiff, reduceCtorEq, Nat.reduceAdd, kni, kdi, kti, kn, kd, kt, hn, hd, ha, h14, h7, h19, h9, shrR, shlR, hw]
      exact ⟨mi - 1, by omega, (by simp (disch := decide) only [Kp_put, put_none, hki]), rfl, j + 1, _, by simp (disch := first | omega | decide) only [push_cast, ↓reduceIte, Nat.reduceLT, Nat.reduceEqDiff, reduceCtorEq, Nat.reduceAdd], by omega, by simp (disch := first | omega | decide) only [push_cast, ↓reduceIte, Nat.reduceLT, Nat.reduceEqDiff, reduceCtorEq, Nat.reduceAdd, bitE, andE, orE], hjo⟩
    · have hj : j = zs.length := by have := hge; simp at this; omega
      subst hj
      rw [List.drop_length, idxGo] at hjo
      rw [← hjo] at hgo
      simp (disch := first | omega | decide) only [push_cast, ↓reduceIte, Nat.reduceLT, Nat.reduceEqDiff, reduceCtorEq, Nat.reduceAdd, kni, kdi, kti, kn, kd, kt, hn, hd, ha, h14, h7, h19, h9]
      refine ACall.mono ?_ eval
      rintro _ _ ⟨rfl, rfl⟩
      simp (disch := first | omega | decide) only [push_cast, ↓reduceIte, Nat.reduceLT, Nat.reduceEqDiff, reduceCtorEq, Nat.reduceAdd, kni, kdi, kti, kn, kd, kt, hn, hd, ha, h14, h7, h19, h9]
      refine condV_of (fun e3 => ?_) (fun e3 => ?_)
      · rw [if_pos e3] at hgo
        have hw : IntKind.i64.wrap ((i : Int) + 1) = i + 1 := wrapI (by omega) (by omega)
        simp (disch := first | omega | decide) only [push_cast, ↓reduceIte, Nat.reduceLT, Nat.reduceEqDiff, reduceCtorEq, Nat.reduceAdd, kni, kdi, kti, kn, kd, kt, hn, hd, ha, h14, h7, h19, h9, shl1, hw]
        refine ⟨m - 1, by omega, ?_, rfl, i + 1, _, by simp (disch := first | omega | decide) only [push_cast, ↓reduceIte, Nat.reduceLT, Nat.reduceEqDiff, reduceCtorEq, Nat.reduceAdd], by omega, by simp (disch := first | omega | decide) only [push_cast, ↓reduceIte, Nat.reduceLT, Nat.reduceEqDiff, reduceCtorEq, Nat.reduceAdd, orE, shlE], hgo⟩
        simp (disch := decide) only [Kp_put, put_none]
        refine Kp.trans ?_ (⟨kni, kdi, kti⟩ : Kp 19 [9, 10, 11] _ _) (by omega) (by simp)
        exact (by simp (disch := decide) only [Kp_put, put_none, hk])
      · rw [e3, if_neg (by decide)] at hgo
        simp (disch := first | omega | decide) only [push_cast, ↓reduceIte, Nat.reduceLT, Nat.reduceEqDiff, reduceCtorEq, Nat.reduceAdd, kni, kdi, kti, kn, kd, kt, hn, hd, ha, h14, h7, h19, h9, wrapI]
        refine ⟨m - 1, by omega, ?_, rfl, i + 1, _, by simp (disch := first | omega | decide) only [push_cast, ↓reduceIte, Nat.reduceLT, Nat.reduceEqDiff, reduceCtorEq, Nat.reduceAdd], by omega, by simp (disch := first | omega | decide) only [push_cast, ↓reduceIte, Nat.reduceLT, Nat.reduceEqDiff, reduceCtorEq, Nat.reduceAdd, kti, h7], hgo⟩
        simp (disch := decide) only [Kp_put, put_none]
        refine Kp.trans ?_ (⟨kni, kdi, kti⟩ : Kp 19 [9, 10, 11] _ _) (by omega) (by simp)
        exact (by simp (disch := decide) only [Kp_put, put_none, hk])
  · have hi : i = N := by have := hge; simp at this; omega
    subst hi
    rw [Nat.sub_self, rowsGo] at hgo
    simp (disch := first | omega | decide) only [push_cast, ↓reduceIte, Nat.reduceLT, Nat.reduceEqDiff, reduceCtorEq, Nat.reduceAdd, kn, kd, kt, hn, hd, ha, h14, h7, ← hgo]

theorem permuteN {h : AH} {v : Value} {t n : Int} {zs : List Int} (hv : SlOf h v (zs.map (.int .i64))) (hb : zs.length ≤ 4294967296) (h0 : 0 ≤ t) (h1 : t < 18446744073709551616) :
    ACall Try.prog 49 [.int .u64 t, .int .i64 n, v] h (fun r h' => r = (if validE t n = true ∧ permE zs n = true then .tuple #[.int .u64 (permuteE t n zs), .int .i64 0] else .tuple #[.int .u64 0, .int .i64 1]) ∧ h' = h) := by
  refine ACall.of_wp 22 [.tmp 6, .tmp 7] Try.func49 rfl (by kernel_rfl) rfl rfl fun a hn hd ha => ?_
  simp (disch := first | omega | decide) only [push_cast, ↓reduceIte, Nat.reduceLT, Nat.reduceEqDiff, reduceCtorEq, Nat.reduceAdd, hn, hd, ha]
  refine ACall.mono ?_ (valid h0 h1)
  rintro _ _ ⟨rfl, rfl⟩
  simp (disch := first | omega | decide) only [push_cast, ↓reduceIte, Nat.reduceLT, Nat.reduceEqDiff, reduceCtorEq, Nat.reduceAdd, hn, hd, ha]
  cases e1 : validE t n with
  | false => simp (disch := first | omega | decide) only [push_cast, ↓reduceIte, Nat.reduceLT, Nat.reduceEqDiff, reduceCtorEq, Nat.reduceAdd, hn, hd, ha, false_and]
  | true =>
    simp (disch := first | omega | decide) only [push_cast, ↓reduceIte, Nat.reduceLT, Nat.reduceEqDiff, reduceCtorEq, Nat.reduceAdd, hn, hd, ha]
    refine ACall.mono ?_ (perm hv hb)
    rintro _ _ ⟨rfl, rfl⟩
    cases e2 : permE zs n with
    | false => simp (disch := first | omega | decide) only [push_cast, ↓reduceIte, Nat.reduceLT, Nat.reduceEqDiff, reduceCtorEq, Nat.reduceAdd, hn, hd, ha, and_false]
    | true =>
      have hr : ∀ z ∈ zs, 0 ≤ z ∧ z < n := permGo_range (by simp only [permE, Bool.and_eq_true] at e2; exact e2.1)
      have hl : n = lim n := by simp only [validE, Bool.and_eq_true, decide_eq_true_eq] at e1; exact e1.1
      have hn6 : 0 ≤ n ∧ n ≤ 6 := by have := lim_range n; omega
      simp (disch := first | omega | decide) only [push_cast, ↓reduceIte, Nat.reduceLT, Nat.reduceEqDiff, reduceCtorEq, Nat.reduceAdd, hn, hd, ha]
      refine ACall.mono ?_ (permute hv hb hn6.1 hn6.2 (fun z hz => (hr z hz).1))
      rintro _ _ ⟨rfl, rfl⟩
      simp (disch := first | omega | decide) only [push_cast, ↓reduceIte, Nat.reduceLT, Nat.reduceEqDiff, reduceCtorEq, Nat.reduceAdd, hn, hd, ha, and_self]


theorem smF : SlM Try.prog 31 62 2 16 := ⟨Try.underlying31, ⟨(Try.prog.info? 62).get (by kernel_rfl), .agg #[.int .i64 0, .int .u8 0], by kernel_rfl, by kernel_rfl, by kernel_rfl, by kernel_rfl, rfl, rfl, rfl⟩, by decide⟩
theorem smN : SlM Try.prog 32 43 2 32 := ⟨Try.underlying32, ⟨(Try.prog.info? 43).get (by kernel_rfl), .agg #[.int .i64 0, .slice none 0 0], by kernel_rfl, by kernel_rfl, by kernel_rfl, by kernel_rfl, rfl, rfl, rfl⟩, by decide⟩
theorem smC : SlM Try.prog 30 47 5 64 := ⟨Try.underlying30, ⟨(Try.prog.info? 47).get (by kernel_rfl), .agg #[.string ByteArray.empty, .int .i64 0, .int .u64 0, .int .i64 0, .slice none 0 0], by kernel_rfl, by kernel_rfl, by kernel_rfl, by kernel_rfl, rfl, rfl, rfl⟩, by decide⟩
theorem tL : SlT Try.prog 45 2 8 (.int .i64 0) := ⟨Try.underlying45, ⟨(Try.prog.info? 2).get (by kernel_rfl), by kernel_rfl, by kernel_rfl, by kernel_rfl, by kernel_rfl⟩, ⟨_, Try.underlying2, rfl⟩, rfl, rfl, rfl⟩

def flopC (x : Flop) : List Value := [.int .i64 x.next, .int .u8 x.init]

/-- A slice of one's own that holds these flops. -/
def FlopsV (h : AH) (v : Value) (ob : Option AObj) (A : Nat) (xs : List Flop) : Prop :=
  ∃ zs, VecM 2 62 v ob A xs.length zs ∧ (∀ o, ob = some o → h.get A = some o) ∧ ∀ (i : Nat) (x : Flop), xs[i]? = some x → (zs.drop (i * 2)).take 2 = flopC x

theorem cloneF {h : AH} {v : Value} {xs : List Flop} (hv : RowOf flopL h v xs) (hb : xs.length ≤ 4294967296) :
    ACall Try.prog 34 [v] h (fun r h' => Gr h h' ∧ ∃ ob A, FlopsV h' r ob A xs ∧ (∀ o, ob = some o → h.next ≤ A)) := by
  refine ACall.wf ⟨_, Try.func34, rfl, by kernel_rfl⟩ fun hwf => ?_
  refine ACall.of_wp 8 [.tmp 2] Try.func34 rfl (by kernel_rfl) rfl rfl fun a hn hd ha => ?_
  obtain ⟨p, l, c, rfl, hl, hsp, hcs⟩ := id hv
  simp (disch := first | omega | decide) only [push_cast, ↓reduceIte, Nat.reduceLT, Nat.reduceEqDiff, reduceCtorEq, Nat.reduceAdd, hn, hd, ha, eqBin_nil Try.underlying31]
  cases p with
  | none =>
    have hz : xs = [] := by
      rcases hcs with e | ⟨A, off, o, cs, e, _⟩
      · exact e
      · cases e
    subst hz
    simp (disch := first | omega | decide) only [push_cast, ↓reduceIte, Nat.reduceLT, Nat.reduceEqDiff, reduceCtorEq, Nat.reduceAdd, Option.isNone_none, hn, hd]
    exact ⟨Gr.refl hwf, none, 0, ⟨[], ⟨rfl, .inl ⟨rfl, rfl, rfl⟩⟩, fun o e => (nomatch e), fun i x e => by simp at e⟩, fun o e => (nomatch e)⟩
  | some q =>
    have g1 := (Gr.refl hwf).new (.row [] 62 true)
    have he : aBuildSlice Try.prog 31 0 [] h = some (.slice (some ⟨h.next, 0, none⟩) 0 0, h.new (.row [] 62 true)) := by
      obtain ⟨i, z, hi, h1, hb, hz, hc, hzk, hp⟩ := smF.info
      simp only [aBuildSlice, smF.sl, hi, hz, h1, hp, hc, fillL, zeros]
      simp [SL]
    simp (disch := first | omega | decide) only [push_cast, ↓reduceIte, Nat.reduceLT, Nat.reduceEqDiff, reduceCtorEq, Nat.reduceAdd, Option.isNone_some, hn, hd, ha, he]
    obtain ⟨ys, hsrc, hyl, hyr⟩ := (hv.sub g1.sub).src
    have hg1 : (h.new (.row [] 62 true)).get h.next = some (.row [] 62 true) := by rw [AH.new_get, if_pos rfl]
    by_cases hz : xs = []
    · subst hz
      have happ : aAppend Try.prog #[31, 31] (.slice (some ⟨h.next, 0, none⟩) 0 0) (.slice (some q) l c) (h.new (.row [] 62 true)) = some (.slice (some ⟨h.next, 0, none⟩) 0 0, h.new (.row [] 62 true)) := by
        obtain ⟨i, z, hi, h1, hbb, hzz, hc, hzk, _⟩ := smF.info
        have hsrc' : srcCells 2 (.slice (some q) l c) (h.new (.row [] 62 true)) = some (0, ys) := hsrc
        simp [aAppend, smF.sl, hi, hzz, h1, hc, isIntT, hsrc', hzk]
      simp (disch := first | omega | decide) only [push_cast, ↓reduceIte, Nat.reduceLT, Nat.reduceEqDiff, reduceCtorEq, Nat.reduceAdd, hn, hd, ha, happ]
      exact ⟨g1, _, h.next, ⟨[], ⟨rfl, .inr (.inl ⟨rfl, rfl, rfl⟩)⟩, fun o e => by cases e; exact hg1, fun i x e => by simp at e⟩, fun o e => Nat.le_refl _⟩
    · have hk : xs.length ≠ 0 := fun e => hz (List.eq_nil_of_length_eq_zero e)
      obtain ⟨r, h2, happ, ⟨A', o', hv', hA', hlo⟩, frx, w2, n2⟩ := appendM (t := 31) (t2 := 31) smF ⟨_, Try.underlying31⟩ g1.wf (v := .slice (some ⟨h.next, 0, none⟩) 0 0) (ob := some (.row [] 62 true)) (A := h.next) (n := 0) (zs := [])
        ⟨rfl, .inr (.inl ⟨rfl, rfl, rfl⟩)⟩ (fun o e => by cases e; exact hg1) hsrc hk hyl (by omega) (by omega)
      simp (disch := first | omega | decide) only [push_cast, ↓reduceIte, Nat.reduceLT, Nat.reduceEqDiff, reduceCtorEq, Nat.reduceAdd, hn, hd, ha, happ]
      rw [Nat.zero_add, List.nil_append] at hv'
      refine ⟨⟨w2, fun C o hC => frx C o (g1.sub C o hC) (fun e => by subst e; rw [hwf _ (Nat.le_refl _)] at hC; cases hC), Nat.le_trans g1.nx n2⟩, some o', A', ⟨ys, hv', fun o e => by cases e; exact hA', fun i x hx => hyr i x hx⟩, fun o e => Nat.le_trans g1.nx hlo⟩

/-- A slice of one's own, in a block of a number from N on. -/
def WV (e : TypeId) (N : Nat) (h : AH) (v : Value) (vs : List Value) : Prop := ∃ ob A, _root_.Go.Ab.Vec e v ob A vs ∧ ∀ o, ob = some o → h.get A = some o ∧ N ≤ A

section
variable {e : TypeId} {N : Nat} {h h' : AH} {v : Value} {vs : List Value}
theorem WV.sub (w : WV e N h v vs) (s : Sub h h') : WV e N h' v vs := let ⟨ob, A, a, b⟩ := w; ⟨ob, A, a, fun o e => ⟨s _ _ (b o e).1, (b o e).2⟩⟩
theorem WV.le (w : WV e N h v vs) {M : Nat} (hm : M ≤ N) : WV e M h v vs := let ⟨ob, A, a, b⟩ := w; ⟨ob, A, a, fun o e => ⟨(b o e).1, Nat.le_trans hm (b o e).2⟩⟩
theorem WV.sl (w : WV e N h v vs) : SlOf h v vs := let ⟨_, _, a, b⟩ := w; a.sl fun o e => (b o e).1
theorem WV.one (w : WV e N h v vs) : oneC v = true ∧ v.cells.toList = [v] := by
  obtain ⟨p, l, c, rfl, _⟩ := w.sl; exact ⟨rfl, rfl⟩
theorem WV.set (w : WV e N h v vs) {B : Nat} (hB : B < N) (o : AObj) : WV e N (h.set B o) v vs := let ⟨ob, A, a, b⟩ := w; ⟨ob, A, a, fun p e => ⟨by rw [AH.set_get, if_neg (by have := (b p e).2; omega)]; exact (b p e).1, (b p e).2⟩⟩
theorem WV.nil : WV e N h (.slice none 0 0) [] := ⟨none, 0, .inl ⟨rfl, rfl, rfl⟩, fun o e => (nomatch e)⟩
theorem FrSl.wv {h0 : AH} (f : FrSl e h0 h v vs) : WV e h0.next h v vs := by
  obtain ⟨B, ⟨rfl, rfl⟩ | ⟨hn, rfl, hg⟩, hb⟩ := f
  · exact WV.nil
  · exact ⟨_, B, .inr (.inl ⟨vs, rfl, rfl, Nat.le_refl _, List.take_length⟩), fun o e => by cases e; exact ⟨hg, hb hn⟩⟩
end

theorem cloneL {h : AH} {v : Value} {zs : List Int} (hv : SlOf h v (zs.map (.int .i64))) (hb : zs.length ≤ 4294967296) :
    ACall Try.prog 35 [v] h (fun r h' => Gr h h' ∧ WV 2 h.next h' r (zs.map (.int .i64))) := by
  refine ACall.wf ⟨_, Try.func35, rfl, by kernel_rfl⟩ fun hwf => ?_
  refine ACall.of_wp 8 [.tmp 2] Try.func35 rfl (by kernel_rfl) rfl rfl fun a hn hd ha => ?_
  have hsrc := hv.src
  obtain ⟨p, l, c, rfl, hl, hsp, _⟩ := id hv
  simp (disch := first | omega | decide) only [push_cast, ↓reduceIte, Nat.reduceLT, Nat.reduceEqDiff, reduceCtorEq, Nat.reduceAdd, hn, hd, ha, eqBin_nil Try.underlying45]
  cases p with
  | none =>
    have hz : zs = [] := by
      rcases hv with ⟨p', l', c', e, hl', _, hcs⟩
      cases e
      rcases hcs with e | ⟨A, off, o, cs, e, _⟩
      · simpa using e
      · cases e
    subst hz
    simp (disch := first | omega | decide) only [push_cast, ↓reduceIte, Nat.reduceLT, Nat.reduceEqDiff, reduceCtorEq, Nat.reduceAdd, Option.isNone_none, hn, hd]
    exact ⟨Gr.refl hwf, none, 0, .inl ⟨rfl, rfl, rfl⟩, fun o e => (nomatch e)⟩
  | some q =>
    simp (disch := first | omega | decide) only [push_cast, ↓reduceIte, Nat.reduceLT, Nat.reduceEqDiff, reduceCtorEq, Nat.reduceAdd, Option.isNone_some, hn, hd, ha, aBuildSlice_empty tL]
    have g1 := (Gr.refl hwf).new (.row [] 2 true)
    by_cases hz : zs = []
    · subst hz
      rw [List.map_nil] at hsrc
      have hs1 : srcCells 1 (.slice (some q) l c) (h.new (.row [] 2 true)) = some (0, []) := by
        have hl0 : l = 0 := by simpa using hl
        subst hl0
        obtain ⟨B, o, sp⟩ := q
        have : sp = none := hsp _ rfl
        subst this; rfl
      simp (disch := first | omega | decide) only [push_cast, ↓reduceIte, Nat.reduceLT, Nat.reduceEqDiff, reduceCtorEq, Nat.reduceAdd, aAppend_none tL hs1, hn, hd, ha]
      exact ⟨g1, _, h.next, .inr (.inr ⟨[], 0, rfl, by omega, Nat.le_refl _, Nat.le_refl _, rfl, rfl⟩), fun o e => by cases e; exact ⟨by rw [AH.new_get, if_pos rfl], Nat.le_refl _⟩⟩
    · have hv' := hv.sub g1.sub
      have hs1 := hv'.src
      have hz' : zs.map (Value.int .i64) ≠ [] := by simpa using hz
      have hg : (h.new (.row [] 2 true)).get h.next = some (.row [] 2 true) := by simp [AH.new_get]
      have happ := aAppend_first tL hg hs1 hz' (by simp; omega) (by simp [ML]; omega)
      simp (disch := first | omega | decide) only [push_cast, ↓reduceIte, Nat.reduceLT, Nat.reduceEqDiff, reduceCtorEq, Nat.reduceAdd, happ, hn, hd, ha]
      exact ⟨g1.new _, _, h.next + 1, .inr (.inl ⟨zs.map (.int .i64), by simp, rfl, Nat.le_refl _, List.take_length⟩), fun o e => by cases e; exact ⟨by rw [AH.new_get, if_pos (by simp)], by omega⟩⟩


/-- A slice of one's own that holds these numbers. -/
def IntsV (h : AH) (v : Value) (ob : Option AObj) (A : Nat) (zs : List Int) : Prop :=
  _root_.Go.Ab.Vec 3 v ob A (zs.map (.int .i64)) ∧ ∀ o, ob = some o → h.get A = some o

theorem IntsV.sl {h : AH} {v : Value} {ob : Option AObj} {A : Nat} {zs : List Int} (hv : IntsV h v ob A zs) : SlOf h v (zs.map (.int .i64)) := hv.1.sl hv.2

theorem cloneI {h : AH} {v : Value} {zs : List Int} (hv : SlOf h v (zs.map (.int .i64))) (hb : zs.length ≤ 4294967296) :
    ACall Try.prog 33 [v] h (fun r h' => Gr h h' ∧ ∃ ob A, IntsV h' r ob A zs ∧ (∀ o, ob = some o → h.next ≤ A)) := by
  refine ACall.wf ⟨_, Try.func33, rfl, by kernel_rfl⟩ fun hwf => ?_
  refine ACall.of_wp 8 [.tmp 2] Try.func33 rfl (by kernel_rfl) rfl rfl fun a hn hd ha => ?_
  have hsrc := hv.src
  obtain ⟨p, l, c, rfl, hl, hsp, _⟩ := id hv
  simp (disch := first | omega | decide) only [push_cast, ↓reduceIte, Nat.reduceLT, Nat.reduceEqDiff, reduceCtorEq, Nat.reduceAdd, hn, hd, ha, eqBin_nil Try.underlying22]
  cases p with
  | none =>
    have hz : zs = [] := by
      rcases hv with ⟨p', l', c', e, hl', _, hcs⟩
      cases e
      rcases hcs with e | ⟨A, off, o, cs, e, _⟩
      · simpa using e
      · cases e
    subst hz
    simp (disch := first | omega | decide) only [push_cast, ↓reduceIte, Nat.reduceLT, Nat.reduceEqDiff, reduceCtorEq, Nat.reduceAdd, Option.isNone_none, hn, hd]
    exact ⟨Gr.refl hwf, none, 0, ⟨.inl ⟨rfl, rfl, rfl⟩, fun o e => (nomatch e)⟩, fun o e => (nomatch e)⟩
  | some q =>
    simp (disch := first | omega | decide) only [push_cast, ↓reduceIte, Nat.reduceLT, Nat.reduceEqDiff, reduceCtorEq, Nat.reduceAdd, Option.isNone_some, hn, hd, ha, aBuildSlice_empty t22]
    have g1 := (Gr.refl hwf).new (.row [] 3 true)
    by_cases hz : zs = []
    · subst hz
      rw [List.map_nil] at hsrc
      have hs1 : srcCells 1 (.slice (some q) l c) (h.new (.row [] 3 true)) = some (0, []) := by
        have hl0 : l = 0 := by simpa using hl
        subst hl0
        obtain ⟨B, o, sp⟩ := q
        have : sp = none := hsp _ rfl
        subst this; rfl
      simp (disch := first | omega | decide) only [push_cast, ↓reduceIte, Nat.reduceLT, Nat.reduceEqDiff, reduceCtorEq, Nat.reduceAdd, aAppend_none t22 hs1, hn, hd, ha]
      exact ⟨g1, _, h.next, ⟨.inr (.inr ⟨[], 0, rfl, by omega, Nat.le_refl _, Nat.le_refl _, rfl, rfl⟩), fun o e => by cases e; rw [AH.new_get, if_pos rfl]⟩, fun o e => Nat.le_refl _⟩
    · have hv' := hv.sub g1.sub
      have hs1 := hv'.src
      have hz' : zs.map (Value.int .i64) ≠ [] := by simpa using hz
      have hg : (h.new (.row [] 3 true)).get h.next = some (.row [] 3 true) := by simp [AH.new_get]
      have happ := aAppend_first t22 hg hs1 hz' (by simp; omega) (by simp [ML]; omega)
      simp (disch := first | omega | decide) only [push_cast, ↓reduceIte, Nat.reduceLT, Nat.reduceEqDiff, reduceCtorEq, Nat.reduceAdd, happ, hn, hd, ha]
      exact ⟨g1.new _, _, h.next + 1, ⟨.inr (.inl ⟨zs.map (.int .i64), by simp, rfl, Nat.le_refl _, List.take_length⟩), fun o e => by cases e; rw [AH.new_get, if_pos (by simp)]⟩, fun o e => by omega⟩

/-! ### scan.Insert's shift -/

def shiftE (n : Net) (x : Int) : Int := if x ≥ n.inputs then IntKind.i64.wrap (x + 2) else x

theorem shift {h : AH} {B : Nat} {n : Net} {cv fv iv ov v : Value} {zs : List Int} (hN : NetAt h B n cv fv iv ov) (hv : SlOf h v (zs.map (.int .i64))) (hb : zs.length ≤ 4294967296) :
    ACall Try.prog 32 [v, .pointer (some ⟨B, 0, none⟩)] h (fun r h' => Gr h h' ∧ ∃ ob A, IntsV h' r ob A (zs.map (shiftE n)) ∧ (∀ o, ob = some o → h.next ≤ A)) := by
  refine ACall.wf ⟨_, Try.func32, rfl, by kernel_rfl⟩ fun hwf => ?_
  refine ACall.of_wp 27 [.tmp 3] Try.func32 rfl (by kernel_rfl) rfl rfl fun a hn hd ha => ?_
  simp (disch := first | omega | decide) only [push_cast, ↓reduceIte, Nat.reduceLT, Nat.reduceEqDiff, reduceCtorEq, Nat.reduceAdd, hn, hd, ha]
  refine ACall.mono ?_ (cloneI hv hb)
  rintro r k ⟨hg, ob, A, hr, hlo⟩
  simp (disch := first | omega | decide) only [push_cast, ↓reduceIte, Nat.reduceLT, Nat.reduceEqDiff, reduceCtorEq, Nat.reduceAdd, hn, hd, ha, hr.sl.lenM Try.underlying22]
  refine AW.loopN 11 [3, 5, 6] (fun m a' h' => Gr h h' ∧ ∃ (i : Nat) (ob : Option AObj), a'.tm 11 = .int .i64 i ∧ i + m = zs.length ∧ IntsV h' r ob A ((zs.take i).map (shiftE n) ++ zs.drop i) ∧ (∀ o, ob = some o → h.next ≤ A)) zs.length ?_ ?_
  · exact ⟨hg, 0, ob, by simp (disch := first | omega | decide) only [push_cast, ↓reduceIte, Nat.reduceLT, Nat.reduceEqDiff, reduceCtorEq, Nat.reduceAdd], by omega, by simpa using hr, hlo⟩
  clear hr hlo ob hg
  rintro a1 m a' h' hk kn kd kt ⟨hg, i, ob, h11, him, hr, hlo⟩
  have hlen : ((zs.take i).map (shiftE n) ++ zs.drop i).length = zs.length := by simp; omega
  simp (disch := first | omega | decide) only [push_cast, ↓reduceIte, Nat.reduceLT, Nat.reduceEqDiff, reduceCtorEq, Nat.reduceAdd, kn, kd, kt, hn, hd, ha, h11]
  refine condV_of (fun hlt => ?_) (fun hge => ?_)
  · have hi : i < zs.length := by have := hlt; simp at this; omega
    have hget : ((zs.take i).map (shiftE n) ++ zs.drop i).getD i 0 = zs.getD i 0 := by
      rw [List.getD_eq_getElem?_getD, List.getElem?_append_right (by simp; omega), List.getD_eq_getElem?_getD]
      simp [Nat.min_eq_left (Nat.le_of_lt hi)]
    have htake : zs.take (i + 1) = zs.take i ++ [zs.getD i 0] := take_succ_getD hi 0
    have hdrop := drop_cons_getD hi (0 : Int)
    have hidx := hr.sl.idxI sl22 .i64 i (by omega) (by omega)
    have hld := hr.sl.ldI sl22 i (by omega)
    rw [Int.toNat_natCast] at hidx
    rw [hget] at hld
    have hN2 := hN.sub hg.sub
    have hw : IntKind.i64.wrap ((i : Int) + 1) = i + 1 := wrapI (by omega) (by omega)
    have hset : ((zs.take i).map (shiftE n) ++ zs.drop i).set i (shiftE n (zs.getD i 0)) = (zs.take (i + 1)).map (shiftE n) ++ zs.drop (i + 1) := by
      rw [htake, hdrop, List.set_append_right _ _ (by simp; omega), List.map_append, List.append_assoc]
      simp [Nat.min_eq_left (Nat.le_of_lt hi)]
    generalize zs.getD i 0 = z at *
    simp (disch := first | omega | decide) only [push_cast, ↓reduceIte, Nat.reduceLT, Nat.reduceEqDiff, reduceCtorEq, Nat.reduceAdd, kn, kd, kt, hn, hd, ha, h11, hidx, hld, faL foN0, faL foN1, faL foN2, faL foN3, faL foN4, hN2.l0, hN2.l1, hN2.l2, hN2.l3, hN2.l4, hN2.la]
    refine condV_of (fun hz => ?_) (fun hz => ?_)
    · have hz' : z ≥ n.inputs := by simpa using hz
      obtain ⟨o', hst, hv', hob⟩ := _root_.Go.Ab.Vec.store (P := Try.prog) hr.1 hr.2 (i := i) ⟨_, (info3).choose_spec.1, info3.choose_spec.2.1⟩ (by simp; omega) (x := .int .i64 (IntKind.i64.wrap (z + 2))) rfl rfl
      have hAlo : h.next ≤ A := by
        cases ho : ob with
        | none => exact absurd ho hob
        | some o => exact hlo o ho
      have hAlt : A < h'.next := by
        cases ho : ob with
        | none => exact absurd ho hob
        | some o => exact AH.get_lt hg.wf (hr.2 o ho)
      simp (disch := first | omega | decide) only [push_cast, ↓reduceIte, Nat.reduceLT, Nat.reduceEqDiff, reduceCtorEq, Nat.reduceAdd, kn, kd, kt, hn, hd, ha, h11, hidx, hst, hw]
      refine ⟨m - 1, by omega, (by simp (disch := decide) only [Kp_put, put_none, hk]), hg.set hwf hAlo hAlt o', i + 1, some o', by simp (disch := first | omega | decide) only [push_cast, ↓reduceIte, Nat.reduceLT, Nat.reduceEqDiff, reduceCtorEq, Nat.reduceAdd], by omega, ⟨?_, fun o e => by cases e; simp [AH.set_get]⟩, fun _ _ => hAlo⟩
      rw [← hset, List.map_set, shiftE, if_pos hz']; exact hv'
    · have hz' : ¬ z ≥ n.inputs := by simpa using hz
      simp (disch := first | omega | decide) only [push_cast, ↓reduceIte, Nat.reduceLT, Nat.reduceEqDiff, reduceCtorEq, Nat.reduceAdd, kn, kd, kt, hn, hd, ha, h11, hw]
      refine ⟨m - 1, by omega, (by simp (disch := decide) only [Kp_put, put_none, hk]), hg, i + 1, ob, by simp (disch := first | omega | decide) only [push_cast, ↓reduceIte, Nat.reduceLT, Nat.reduceEqDiff, reduceCtorEq, Nat.reduceAdd], by omega, ?_, hlo⟩
      rw [← hset, shiftE, if_neg hz']
      have : ((zs.take i).map (shiftE n) ++ zs.drop i).set i z = (zs.take i).map (shiftE n) ++ zs.drop i := by
        rw [hdrop, List.set_append_right _ _ (by simp; omega)]
        simp [Nat.min_eq_left (Nat.le_of_lt hi)]
      rw [this]; exact hr
  · have hi : i = zs.length := by have := hge; simp at this; omega
    subst hi
    simp (disch := first | omega | decide) only [push_cast, ↓reduceIte, Nat.reduceLT, Nat.reduceEqDiff, reduceCtorEq, Nat.reduceAdd, kn, kd, kt, hn, hd, ha, h11]
    refine ⟨hg, ob, A, ?_, hlo⟩
    simpa using hr


theorem indexInt {h : AH} {v : Value} {zs : List Int} {x : Int} (hv : SlOf h v (zs.map (.int .i64))) (hb : zs.length ≤ 4611686018427387904) :
    ACall Try.prog 77 [v, .int .i64 x] h (IdxPost (fun z => decide (x = z)) zs h) := by
  refine ACall.of_wp 19 [.tmp 4] Try.func77 rfl (by kernel_rfl) rfl rfl fun a hn hd ha => ?_
  simp (disch := first | omega | decide | (simp only [List.length_cons, List.length_nil] <;> omega)) only [push_cast, ↓reduceIte, Nat.reduceLT, Nat.reduceEqDiff, reduceCtorEq, Nat.reduceAdd, hn, hd, ha, hv.lenM Try.underlying22]
  refine AW.loopN 8 [4, 5] (fun m a' h' => h' = h ∧ ∃ i : Nat, a'.tm 8 = .int .i64 i ∧ i + m = zs.length ∧ a'.tm 7 = .int .i64 zs.length ∧ (zs.drop i).any (fun z => decide (x = z)) = zs.any (fun z => decide (x = z))) zs.length ?_ ?_
  · exact ⟨rfl, 0, by simp (disch := first | omega | decide | (simp only [List.length_cons, List.length_nil] <;> omega)) only [push_cast, ↓reduceIte, Nat.reduceLT, Nat.reduceEqDiff, reduceCtorEq, Nat.reduceAdd], by omega, by simp (disch := first | omega | decide | (simp only [List.length_cons, List.length_nil] <;> omega)) only [push_cast, ↓reduceIte, Nat.reduceLT, Nat.reduceEqDiff, reduceCtorEq, Nat.reduceAdd], rfl⟩
  · rintro a1 m a' h' hk kn kd kt ⟨rfl, i, h8, him, h7, hany⟩
    simp (disch := first | omega | decide | (simp only [List.length_cons, List.length_nil] <;> omega)) only [push_cast, ↓reduceIte, Nat.reduceLT, Nat.reduceEqDiff, reduceCtorEq, Nat.reduceAdd, kn, kd, kt, hn, hd, ha, h8, h7]
    refine condV_of (fun hlt => ?_) (fun hge => ?_)
    · have hi : i < zs.length := by have := hlt; simp at this; omega
      rw [any_drop hi 0] at hany
      simp (disch := first | omega | decide | (simp only [List.length_cons, List.length_nil] <;> omega)) only [push_cast, ↓reduceIte, Nat.reduceLT, Nat.reduceEqDiff, reduceCtorEq, Nat.reduceAdd, kn, kd, kt, hn, hd, ha, h8, h7, hv.idxI sl22, hv.ldI sl22]
      refine condV_of (fun hp => ?_) (fun hp => ?_)
      · simp (disch := first | omega | decide | (simp only [List.length_cons, List.length_nil] <;> omega)) only [push_cast, ↓reduceIte, Nat.reduceLT, Nat.reduceEqDiff, reduceCtorEq, Nat.reduceAdd, kn, kd, kt, hn, hd, ha, h8, h7]
        refine ⟨rfl, i, rfl, ?_⟩
        rw [← hany, hp]; simp
      · simp (disch := first | omega | decide | (simp only [List.length_cons, List.length_nil] <;> omega)) only [push_cast, ↓reduceIte, Nat.reduceLT, Nat.reduceEqDiff, reduceCtorEq, Nat.reduceAdd, kn, kd, kt, hn, hd, ha, h8, h7, wrapI]
        exact ⟨m - 1, by omega, (by simp (disch := decide) only [Kp_put, put_none, hk]), rfl, i + 1, by simp (disch := first | omega | decide | (simp only [List.length_cons, List.length_nil] <;> omega)) only [push_cast, ↓reduceIte, Nat.reduceLT, Nat.reduceEqDiff, reduceCtorEq, Nat.reduceAdd], by omega, by simp (disch := first | omega | decide | (simp only [List.length_cons, List.length_nil] <;> omega)) only [push_cast, ↓reduceIte, Nat.reduceLT, Nat.reduceEqDiff, reduceCtorEq, Nat.reduceAdd, h7], by rw [← hany, hp]; simp⟩
    · have hi : zs.length ≤ i := by have := hge; simp at this; omega
      rw [List.drop_of_length_le hi] at hany
      simp (disch := first | omega | decide | (simp only [List.length_cons, List.length_nil] <;> omega)) only [push_cast, ↓reduceIte, Nat.reduceLT, Nat.reduceEqDiff, reduceCtorEq, Nat.reduceAdd, kn, kd, kt, hn, hd, ha, h8, h7]
      exact ⟨rfl, -1, rfl, by rw [← hany]; rfl⟩

theorem containsInt {h : AH} {v : Value} {zs : List Int} {x : Int} (hv : SlOf h v (zs.map (.int .i64))) (hb : zs.length ≤ 4611686018427387904) :
    ACall Try.prog 62 [v, .int .i64 x] h (fun r h' => r = .bool (decide (x ∈ zs)) ∧ h' = h) := by
  refine ACall.of_wp 9 [.tmp 4] Try.func62 rfl (by kernel_rfl) rfl rfl fun a hn hd ha => ?_
  simp (disch := first | omega | decide | (simp only [List.length_cons, List.length_nil] <;> omega)) only [push_cast, ↓reduceIte, Nat.reduceLT, Nat.reduceEqDiff, reduceCtorEq, Nat.reduceAdd, hn, hd, ha]
  refine ACall.mono ?_ (indexInt hv hb)
  rintro _ _ ⟨rfl, k, rfl, hk⟩
  have hm : zs.any (fun z => decide (x = z)) = decide (x ∈ zs) := by
    rw [Bool.eq_iff_iff, List.any_eq_true, decide_eq_true_iff]
    constructor
    · rintro ⟨z, hz, e⟩; simp only [decide_eq_true_eq] at e; subst e; exact hz
    · intro hz; exact ⟨x, hz, by simp⟩
  simp (disch := first | omega | decide | (simp only [List.length_cons, List.length_nil] <;> omega)) only [push_cast, ↓reduceIte, Nat.reduceLT, Nat.reduceEqDiff, reduceCtorEq, Nat.reduceAdd, hn, hd, ha, hk, hm]

/-! ### Long -/


theorem flY : Fl Try.prog 99 := ⟨_, Try.underlying99, rfl⟩

/-- The orders that begin with xs, f more to come. -/
def ext (N : Nat) : Nat → List Int → List (List Int)
  | 0, xs => [xs]
  | f + 1, xs => (List.range N).flatMap fun (i : Nat) => if (i : Int) ∈ xs then [] else ext N f (xs ++ [(i : Int)])

/-- All but the block A stays. -/
structure Ex (A : Nat) (h h' : AH) : Prop where
  wf : WFH h'
  nx : h.next ≤ h'.next
  keep : ∀ B o, h.get B = some o → B ≠ A → h'.get B = some o

theorem Ex.refl {A : Nat} {h : AH} (hw : WFH h) : Ex A h h := ⟨hw, Nat.le_refl _, fun _ _ x _ => x⟩
theorem Ex.trans {A : Nat} {a b c : AH} (x : Ex A a b) (y : Ex A b c) : Ex A a c := ⟨y.wf, Nat.le_trans x.nx y.nx, fun B o h n => y.keep B o (x.keep B o h n) n⟩
theorem grEx {A : Nat} {h h' : AH} (g : Gr h h') : Ex A h h' := ⟨g.wf, g.nx, fun B o x _ => g.sub B o x⟩
theorem csEx {A B : Nat} {h h' : AH} {cs : List Value} (c : CsAt h B cs) (e : Ex A h h') (hne : B ≠ A) : CsAt h' B cs := let ⟨o, x, y⟩ := c; ⟨o, e.keep B o x hne, y⟩

/-- An append that finds room. -/
theorem appFit {h : AH} {A n C D : Nat} {cs : List Value} {x : Value} {oD : AObj} (hA : h.get A = some (.row cs 3 true)) (hn : n + 1 ≤ C) (hC : C ≤ cs.length) (hS : C ≤ 64) (hD : h.get D = some oD) (hDc : oD.cells? = some [x]) :
    aAppend Try.prog #[22, 22] (.slice (some ⟨A, 0, none⟩) n C) (.slice (some ⟨D, 0, none⟩) 1 1) h = some (.slice (some ⟨A, 0, none⟩) (n + 1) C, h.set A (.row (cs.set n x) 3 true)) := by
  have hsrc : srcCells 1 (.slice (some ⟨D, 0, none⟩) 1 1) h = some (1, [x]) := by
    simp [srcCells, hD, hDc]
  obtain ⟨i, hi, h1, hbb, hzz⟩ := t22.info
  have hcap : C < SL := by unfold SL; omega
  have hset : n + 1 ≤ cs.length := by omega
  have hc : (Value.int .i64 0).cells.size = 1 := rfl
  simp [aAppend, t22.sl, hi, hzz, h1, hc, isIntT, hsrc, hcap, hA, hn, AObj.setCells, hset, setL_one, t22.zk]

/-- The three captured blocks. -/
structure Env (N P1 P2 P3 : Nat) (yv : Value) (h : AH) : Prop where
  n : CsAt h P1 [.int .i64 N]
  y : CsAt h P2 [yv]
  f : CsAt h P3 [.func (.func 61) #[] #[.pointer (some ⟨P1, 0, none⟩), .pointer (some ⟨P2, 0, none⟩), .pointer (some ⟨P3, 0, none⟩)]]

theorem Env.ex {N P1 P2 P3 A : Nat} {yv : Value} {h h' : AH} (e : Env N P1 P2 P3 yv h) (x : Ex A h h') (h1 : P1 ≠ A) (h2 : P2 ≠ A) (h3 : P3 ≠ A) : Env N P1 P2 P3 yv h' := ⟨csEx e.n x h1, csEx e.y x h2, csEx e.f x h3⟩

/-- The row in which the orders are built. -/
def Base (N A : Nat) (xs : List Int) (h : AH) : Prop := ∃ cs, h.get A = some (.row cs 3 true) ∧ cs.length = N ∧ cs.take xs.length = xs.map (.int .i64)

theorem Base.sl {N A : Nat} {xs : List Int} {h : AH} (b : Base N A xs h) : SlOf h (.slice (some ⟨A, 0, none⟩) xs.length N) (xs.map (.int .i64)) := by
  obtain ⟨cs, hg, hl, ht⟩ := b
  have ht' : cs.take (xs.map (Value.int .i64)).length = xs.map (.int .i64) := by simpa using ht
  exact ⟨_, _, _, rfl, by simp, (fun q x => by cases x; rfl), .inr ⟨A, 0, _, cs, rfl, hg, rfl, fun i x hx => by rw [Nat.zero_add]; exact take_get ht' i x hx⟩⟩

theorem IntsV.fresh {h : AH} {v : Value} {ob : Option AObj} {A k : Nat} {zs : List Int} (hv : IntsV h v ob A zs) (hlo : ∀ o, ob = some o → k ≤ A) : ∀ C off l c, v = .slice (some ⟨C, off, none⟩) l c → k ≤ C := by
  rintro C off l c rfl
  rcases hv.1 with ⟨_, e, _⟩ | ⟨cs, e, h2, _⟩ | ⟨cs, C', e, _, _, _, h2, _⟩
  · cases e
  · cases e; exact hlo _ h2
  · cases e; exact hlo _ h2

theorem flat_le {β : Type} (f : Nat → List β) {i N : Nat} (hi : i ≤ N) : ((List.range i).flatMap f).length ≤ ((List.range N).flatMap f).length := by
  have : List.range N = List.range i ++ (List.range N).drop i := by
    have h := List.take_append_drop i (List.range N)
    rw [List.take_range, Nat.min_eq_left hi] at h
    exact h.symm
  rw [this, List.flatMap_append, List.length_append]; omega

theorem inner {N P1 P2 P3 A M : Nat} {yv : Value} {I : List (List Int) → AH → Prop} (hN : N ≤ 8) (d1 : P1 ≠ A) (d2 : P2 ≠ A) (d3 : P3 ≠ A)
    (hfr : ∀ acc h h', I acc h → Ex A h h' → I acc h')
    (hy : ∀ acc h0 h p pv xs, I acc h0 → Gr h0 h → (∀ C off l c, pv = .slice (some ⟨C, off, none⟩) l c → h0.next ≤ C) → p.length ≤ 8 → acc.length < M → WFH h → Env N P1 P2 P3 yv h → Base N A xs h → SlOf h pv (p.map (.int .i64)) → callR Try.prog yv [pv] h (fun r h' => r = .bool true ∧ I (acc ++ [p]) h' ∧ WFH h' ∧ Env N P1 P2 P3 yv h' ∧ Base N A xs h')) :
    ∀ (f : Nat) (xs : List Int) (acc : List (List Int)) (h : AH), xs.length + f = N → acc.length + (ext N f xs).length ≤ M → WFH h → Env N P1 P2 P3 yv h → Base N A xs h → I acc h →
      ACall Try.prog 61 [.slice (some ⟨A, 0, none⟩) xs.length N, .pointer (some ⟨P1, 0, none⟩), .pointer (some ⟨P2, 0, none⟩), .pointer (some ⟨P3, 0, none⟩)] h
        (fun r h' => r = .bool true ∧ WFH h' ∧ Env N P1 P2 P3 yv h' ∧ Base N A xs h' ∧ I (acc ++ ext N f xs) h') := by
  intro f
  induction f with
  | zero =>
    intro xs acc h hf hM hwf he hb hI
    refine ACall.of_wp 33 [.tmp 5] Try.func61 rfl (by kernel_rfl) rfl rfl fun a hn hd ha => ?_
    have hxs : N = xs.length := by omega
    subst hxs
    have hsl := hb.sl
    simp (disch := first | omega | decide | (simp only [List.length_cons, List.length_nil] <;> omega)) only [push_cast, ↓reduceIte, Nat.reduceLT, Nat.reduceEqDiff, reduceCtorEq, Nat.reduceAdd, hn, hd, ha, hsl.lenM Try.underlying22, he.n.ld fl3]
    refine AW.drawP (.take 1 [4, 3, 2] (.watch 0 [4, 3] (.only 2 (.only 3 (.take 4 [] .done))))) [(0, 1), (1, 0), (2, 2), (2, 3), (0, 4)] mixed (by kernel_rfl) (by kernel_rfl) ?_
    simp (disch := first | omega | decide | (simp only [List.length_cons, List.length_nil] <;> omega)) only [push_cast, ↓reduceIte, Nat.reduceLT, Nat.reduceEqDiff, reduceCtorEq, Nat.reduceAdd, hn, hd, ha, he.y.ld flY]
    refine ACall.mono ?_ (cloneI hsl (by omega))
    rintro r k ⟨hg, ob, A', hr, hlo⟩
    have he' := he.ex (grEx (A := A) hg) d1 d2 d3
    have hb' : Base _ A xs k := let ⟨cs, x, y, z⟩ := hb; ⟨cs, hg.sub _ _ x, y, z⟩
    simp (disch := first | omega | decide | (simp only [List.length_cons, List.length_nil] <;> omega)) only [push_cast, ↓reduceIte, Nat.reduceLT, Nat.reduceEqDiff, reduceCtorEq, Nat.reduceAdd, hn, hd, ha, he'.y.ld flY]
    refine callR.mono ?_ (hy acc h k xs r xs hI hg (hr.fresh hlo) hN (by simp [ext] at hM; omega) hg.wf he' hb' hr.sl)
    rintro _ k2 ⟨rfl, hI2, w2, he2, hb2⟩
    simp (disch := first | omega | decide | (simp only [List.length_cons, List.length_nil] <;> omega)) only [push_cast, ↓reduceIte, Nat.reduceLT, Nat.reduceEqDiff, reduceCtorEq, Nat.reduceAdd, hn, hd, ha, he2.y.ld flY]
    exact ⟨w2, he2, hb2, hI2⟩
  | succ f ih =>
    intro xs acc h hf hM hwf he hb hI
    refine ACall.of_wp 33 [.tmp 5] Try.func61 rfl (by kernel_rfl) rfl rfl fun a hn hd ha => ?_
    have hxs : ¬ ((xs.length : Int) = N) := by omega
    simp (disch := first | omega | decide | (simp only [List.length_cons, List.length_nil] <;> omega)) only [push_cast, ↓reduceIte, Nat.reduceLT, Nat.reduceEqDiff, reduceCtorEq, Nat.reduceAdd, hn, hd, ha, hb.sl.lenM Try.underlying22, he.n.ld fl3, hxs]
    refine AW.loopN 16 [5, 6] (fun m a' h' => ∃ i : Nat, a'.tm 16 = .int .i64 i ∧ i + m = N ∧ WFH h' ∧ Env N P1 P2 P3 yv h' ∧ Base N A xs h' ∧ I (acc ++ (List.range i).flatMap fun (i : Nat) => if (i : Int) ∈ xs then [] else ext N f (xs ++ [(i : Int)])) h') N ?_ ?_
    · exact ⟨0, by simp (disch := first | omega | decide | (simp only [List.length_cons, List.length_nil] <;> omega)) only [push_cast, ↓reduceIte, Nat.reduceLT, Nat.reduceEqDiff, reduceCtorEq, Nat.reduceAdd], by omega, hwf, he, hb, by simpa using hI⟩
    clear hwf he hb hI
    rintro a1 m a' h' hk kn kd kt ⟨i, h16, him, hwf, he, hb, hI⟩
    simp (disch := first | omega | decide | (simp only [List.length_cons, List.length_nil] <;> omega)) only [push_cast, ↓reduceIte, Nat.reduceLT, Nat.reduceEqDiff, reduceCtorEq, Nat.reduceAdd, kn, kd, kt, hn, hd, ha, h16]
    refine condV_of (fun hlt => ?_) (fun hge => ?_)
    · have hi : i < N := by have := hlt; simp at this; omega
      have hw : IntKind.i64.wrap ((i : Int) + 1) = i + 1 := wrapI (by omega) (by omega)
      have hrange : (List.range (i + 1)).flatMap (fun (i : Nat) => if (i : Int) ∈ xs then [] else ext N f (xs ++ [(i : Int)])) = (List.range i).flatMap (fun (i : Nat) => if (i : Int) ∈ xs then [] else ext N f (xs ++ [(i : Int)])) ++ (if (i : Int) ∈ xs then [] else ext N f (xs ++ [(i : Int)])) := by
        rw [List.range_succ, List.flatMap_append]; simp
      have hfl := flat_le (fun (i : Nat) => if (i : Int) ∈ xs then [] else ext N f (xs ++ [(i : Int)])) (show i + 1 ≤ N by omega)
      rw [ext] at hM
      generalize (List.range N).flatMap (fun (i : Nat) => if (i : Int) ∈ xs then [] else ext N f (xs ++ [(i : Int)])) = eN at hfl hM
      generalize (List.range i).flatMap (fun (i : Nat) => if (i : Int) ∈ xs then [] else ext N f (xs ++ [(i : Int)])) = es at *
      simp (disch := first | omega | decide | (simp only [List.length_cons, List.length_nil] <;> omega)) only [push_cast, ↓reduceIte, Nat.reduceLT, Nat.reduceEqDiff, reduceCtorEq, Nat.reduceAdd, kn, kd, kt, hn, hd, ha, h16]
      refine AW.drawP (.take 0 [12, 11, 10, 9, 8, 7, 6, 5, 4, 3, 2] (.take 1 [12, 11, 10, 9, 8, 7, 6, 5, 4, 3, 2] (.only 2 (.take 3 [12, 11, 10, 9, 8, 7, 6, 5, 4] (.take 4 [12, 11, 10, 9, 8, 7, 6, 5] (.take 6 [12, 11, 10, 9] (.take 7 [12, 11, 10, 9, 8] (.watch 5 [12, 11, 10] (.only 8 (.only 9 (.only 10 (.take 11 [12] (.take 12 [] .done))))))))))))) [(0, 0), (0, 1), (2, 2), (0, 3), (0, 4), (0, 6), (0, 7), (1, 5), (2, 8), (2, 9), (2, 10), (0, 11), (0, 12)] mixed (by kernel_rfl) (by kernel_rfl) ?_
      simp (disch := first | omega | decide | (simp only [List.length_cons, List.length_nil] <;> omega)) only [push_cast, ↓reduceIte, Nat.reduceLT, Nat.reduceEqDiff, reduceCtorEq, Nat.reduceAdd, kn, kd, kt, hn, hd, ha, h16, he.f.ld flY]
      refine ACall.mono ?_ (containsInt hb.sl (by omega))
      rintro _ k ⟨rfl, rfl⟩
      by_cases hm : (i : Int) ∈ xs
      · rw [if_pos hm, List.append_nil] at hrange
        simp (disch := first | omega | decide | (simp only [List.length_cons, List.length_nil] <;> omega)) only [push_cast, ↓reduceIte, Nat.reduceLT, Nat.reduceEqDiff, reduceCtorEq, Nat.reduceAdd, kn, kd, kt, hn, hd, ha, h16, hm, he.f.ld flY, hw]
        exact ⟨m - 1, by omega, (by simp (disch := decide) only [Kp_put, put_none, hk]), i + 1, by simp (disch := first | omega | decide | (simp only [List.length_cons, List.length_nil] <;> omega)) only [push_cast, ↓reduceIte, Nat.reduceLT, Nat.reduceEqDiff, reduceCtorEq, Nat.reduceAdd], by omega, hwf, he, hb, by rw [hrange]; exact hI⟩
      · rw [if_neg hm] at hrange
        have g1 := (Gr.refl hwf).new (.row [.int .i64 i] 3 true)
        obtain ⟨cs, hA, hcl, hct⟩ := hb
        have hA1 := g1.sub _ _ hA
        have hAlt := AH.get_lt hwf hA
        have hD : (k.new (.row [.int .i64 i] 3 true)).get k.next = some (.row [.int .i64 i] 3 true) := by rw [AH.new_get, if_pos rfl]
        have happ := appFit (n := xs.length) (C := N) hA1 (by omega) (by omega) (by omega) hD rfl
        have x2 : Ex A k ((k.new (.row [.int .i64 i] 3 true)).set A (.row (cs.set xs.length (.int .i64 i)) 3 true)) :=
          ⟨g1.wf.set (by simp; omega) _, by simp, fun B o hB hne => by rw [AH.set_get, if_neg hne]; exact g1.sub _ _ hB⟩
        have he2 := he.ex x2 d1 d2 d3
        have hb2 : Base N A (xs ++ [(i : Int)]) ((k.new (.row [.int .i64 i] 3 true)).set A (.row (cs.set xs.length (.int .i64 i)) 3 true)) := by
          refine ⟨_, by rw [AH.set_get, if_pos rfl], by simpa using hcl, ?_⟩
          rw [List.length_append, List.length_singleton, List.map_append, List.map_singleton, ← hct]
          apply List.ext_getElem?
          intro j
          rw [List.getElem?_take]
          by_cases h1 : j < xs.length
          · rw [if_pos (by omega), List.getElem?_set_ne (by omega), List.getElem?_append_left (by simp; omega), List.getElem?_take, if_pos h1]
          · by_cases h2 : j = xs.length
            · subst h2
              rw [if_pos (by omega), List.getElem?_set_self (by omega), List.getElem?_append_right (by simp; omega)]
              simp [Nat.min_eq_left (show xs.length ≤ cs.length by omega)]
            · rw [if_neg (by omega), List.getElem?_eq_none (by simp; omega)]
        have hI2 := hfr _ _ _ hI x2
        have l1 := (he.f.sub g1.sub).ld (P := Try.prog) flY
        have l2 := he2.f.ld (P := Try.prog) flY
        simp (disch := first | omega | decide | (simp only [List.length_cons, List.length_nil] <;> omega)) only [push_cast, ↓reduceIte, Nat.reduceLT, Nat.reduceEqDiff, reduceCtorEq, Nat.reduceAdd, kn, kd, kt, hn, hd, ha, h16, hm, he.f.ld flY, l1, l2, aBuild1 t22 k (x := .int .i64 i) rfl rfl, happ]
        clear l1 l2
        generalize (k.new (.row [.int .i64 i] 3 true)).set A (.row (cs.set xs.length (.int .i64 i)) 3 true) = k2 at *
        have hcall := ih (xs ++ [(i : Int)]) _ k2 (by simp; omega) (by rw [hrange] at hfl; simp only [List.length_append] at hfl ⊢; omega) x2.wf he2 hb2 hI2
        rw [List.length_append, List.length_singleton] at hcall
        refine ACall.mono ?_ hcall
        rintro _ k3 ⟨rfl, w3, he3, ⟨cs3, hA3, hl3, ht3⟩, hI3⟩
        have hb3 : Base N A xs k3 := by
          refine ⟨cs3, hA3, hl3, ?_⟩
          have := congrArg (List.take xs.length) ht3
          rw [List.take_take] at this
          simpa using this
        simp (disch := first | omega | decide | (simp only [List.length_cons, List.length_nil] <;> omega)) only [push_cast, ↓reduceIte, Nat.reduceLT, Nat.reduceEqDiff, reduceCtorEq, Nat.reduceAdd, kn, kd, kt, hn, hd, ha, h16, hm, he3.f.ld flY, hw]
        exact ⟨m - 1, by omega, (by simp (disch := decide) only [Kp_put, put_none, hk]), i + 1, by simp (disch := first | omega | decide | (simp only [List.length_cons, List.length_nil] <;> omega)) only [push_cast, ↓reduceIte, Nat.reduceLT, Nat.reduceEqDiff, reduceCtorEq, Nat.reduceAdd], by omega, w3, he3, hb3, by rw [hrange, ← List.append_assoc]; exact hI3⟩
    · have hi : i = N := by have := hge; simp at this; omega
      subst hi
      simp (disch := first | omega | decide | (simp only [List.length_cons, List.length_nil] <;> omega)) only [push_cast, ↓reduceIte, Nat.reduceLT, Nat.reduceEqDiff, reduceCtorEq, Nat.reduceAdd, kn, kd, kt, hn, hd, ha, h16]
      exact ⟨hwf, he, hb, hI⟩


/-- What an iterator's rounds keep: K are the blocks that they leave alone. -/
structure Rounds (M : Nat) (yv : Value) (I : (Nat → Prop) → List (List Int) → AH → Prop) : Prop where
  fr : ∀ K acc h h', I K acc h → (∀ B o, h.get B = some o → ¬ K B → h'.get B = some o) → WFH h' → h.next ≤ h'.next → I K acc h'
  add : ∀ K acc h h', I K acc h → Gr h h' → I (fun C => K C ∨ (h.next ≤ C ∧ C < h'.next)) acc h'
  wk : ∀ (K K' : Nat → Prop) acc h, I K' acc h → (∀ C, K C → K' C) → I K acc h
  yl : ∀ K acc h0 h p pv, I K acc h0 → Gr h0 h → (∀ C off l c, pv = .slice (some ⟨C, off, none⟩) l c → h0.next ≤ C) → p.length ≤ 8 → acc.length < M → SlOf h pv (p.map (.int .i64)) → callR Try.prog yv [pv] h (fun r h' => r = .bool true ∧ I K (acc ++ [p]) h' ∧ WFH h' ∧ h.next ≤ h'.next ∧ ∀ B o, K B → h.get B = some o → h'.get B = some o)

theorem zrY : Zr Try.prog 99 [.nilFunc] := ⟨(Try.prog.info? 99).get (by kernel_rfl), .nilFunc, by kernel_rfl, by kernel_rfl, rfl, rfl, rfl⟩
theorem szY : ∃ i, Try.prog.info? 99 = some i ∧ i.size = 1 := ⟨(Try.prog.info? 99).get (by kernel_rfl), by kernel_rfl, by kernel_rfl⟩

/-- A store into the newest block. -/
theorem st1 {e : TypeId} (he : ∃ i, Try.prog.info? e = some i ∧ i.size = 1) (h : AH) {z x : Value} {t : TypeId} (hx : x.cells.toList = [x]) (ho : oneC x = true) :
    aStore Try.prog e (.pointer (some ⟨h.next, 0, none⟩)) x (h.new (.row [z] t true)) = some (h.new (.row [x] t true)) := by
  rw [stC he (by rw [AH.new_get, if_pos rfl]) 0 x (by simp) hx ho, AH.set_new]; rfl

theorem make0 (h : AH) {N : Nat} (hN : N ≤ 8) : aMakeSlice Try.prog 22 (.int .i64 0) (.int .i64 N) h = some (.slice (some ⟨h.next, 0, none⟩) 0 N, h.new (.row (List.replicate N (.int .i64 0)) 3 true)) := by
  obtain ⟨i, hi, h1, hb, hz⟩ := t22.info
  have hc : (Value.int .i64 0).cells.size = 1 := rfl
  simp only [aMakeSlice, t22.sl, hi, hz]
  rw [if_pos]
  · simp only [Int.toNat_natCast, t22.zc, zeros_one]; rfl
  · refine ⟨by omega, by omega, by simp only [Int.toNat_natCast, hb]; omega, by omega, t22.zp, by rw [hc, h1], by simp [t22.zc, t22.zo]⟩

theorem orders {h : AH} {N : Nat} (hN : N ≤ 8) :
    ACall Try.prog 48 [.int .i64 N] h (fun r h' => r = .func (.func 60) #[] #[.pointer (some ⟨h.next, 0, none⟩)] ∧ h' = h.new (.row [.int .i64 N] 3 true)) := by
  refine ACall.of_wp 4 [.tmp 2] Try.func48 rfl (by kernel_rfl) rfl rfl fun a hn hd ha => ?_
  have hbox : aBox 3 (.int .i64 N) h = some (.pointer (some ⟨h.next, 0, none⟩), h.new (.row [.int .i64 N] 3 true)) := rfl
  simp (disch := first | omega | decide | (simp only [List.length_cons, List.length_nil] <;> omega)) only [push_cast, ↓reduceIte, Nat.reduceLT, Nat.reduceEqDiff, reduceCtorEq, Nat.reduceAdd, hn, hd, ha, hbox]

theorem orders1 {h : AH} {N P1 : Nat} {yv : Value} {I : (Nat → Prop) → List (List Int) → AH → Prop} {K : Nat → Prop} (hN : N ≤ 8) (hP : CsAt h P1 [.int .i64 N]) (hy1 : yv.cells.toList = [yv]) (hy2 : oneC yv = true) (R : Rounds (ext N N []).length yv I) (hI : I K [] h) (hK : K P1) (hKlt : ∀ C, K C → C < h.next) :
    ACall Try.prog 60 [yv, .pointer (some ⟨P1, 0, none⟩)] h (fun _ h' => I K (ext N N []) h' ∧ WFH h' ∧ h.next ≤ h'.next ∧ ∀ B o, K B → h.get B = some o → h'.get B = some o) := by
  refine ACall.wf ⟨_, Try.func60, rfl, by kernel_rfl⟩ fun hwf => ?_
  refine ACall.of_wp 9 [] Try.func60 rfl (by kernel_rfl) rfl rfl fun a hn hd ha => ?_
  have hbox : aBox 99 yv h = some (.pointer (some ⟨h.next, 0, none⟩), h.new (.row [yv] 99 true)) := by
    simp [aBox, hy1, hy2]
  have g1 := (Gr.refl hwf).new (.row [yv] 99 true)
  have hst := st1 szY (h.new (.row [yv] 99 true)) (z := .nilFunc) (x := .func (.func 61) #[] #[.pointer (some ⟨P1, 0, none⟩), .pointer (some ⟨h.next, 0, none⟩), .pointer (some ⟨h.next + 1, 0, none⟩)]) (t := 99) rfl rfl
  simp (disch := first | omega | decide | (simp only [List.length_cons, List.length_nil] <;> omega)) only [push_cast, ↓reduceIte, Nat.reduceLT, Nat.reduceEqDiff, reduceCtorEq, Nat.reduceAdd, AH.new_next] at hst
  have g2 := g1.new (.row [.func (.func 61) #[] #[.pointer (some ⟨P1, 0, none⟩), .pointer (some ⟨h.next, 0, none⟩), .pointer (some ⟨h.next + 1, 0, none⟩)]] 99 true)
  have c2 := (CsAt.new h [yv] 99 true).sub (Sub.new g1.wf (.row [.func (.func 61) #[] #[.pointer (some ⟨P1, 0, none⟩), .pointer (some ⟨h.next, 0, none⟩), .pointer (some ⟨h.next + 1, 0, none⟩)]] 99 true))
  have c3 := CsAt.new (h.new (.row [yv] 99 true)) [.func (.func 61) #[] #[.pointer (some ⟨P1, 0, none⟩), .pointer (some ⟨h.next, 0, none⟩), .pointer (some ⟨h.next + 1, 0, none⟩)]] 99 true
  have n2 : ((h.new (.row [yv] 99 true)).new (.row [.func (.func 61) #[] #[.pointer (some ⟨P1, 0, none⟩), .pointer (some ⟨h.next, 0, none⟩), .pointer (some ⟨h.next + 1, 0, none⟩)]] 99 true)).next = h.next + 2 := rfl
  simp (disch := first | omega | decide | (simp only [List.length_cons, List.length_nil] <;> omega)) only [push_cast, ↓reduceIte, Nat.reduceLT, Nat.reduceEqDiff, reduceCtorEq, Nat.reduceAdd, hn, hd, ha, hbox, alL zrY, hst, AH.new_next]
  rw [AH.new_next] at c3
  generalize (h.new (.row [yv] 99 true)).new (.row [.func (.func 61) #[] #[.pointer (some ⟨P1, 0, none⟩), .pointer (some ⟨h.next, 0, none⟩), .pointer (some ⟨h.next + 1, 0, none⟩)]] 99 true) = k at g2 c2 c3 n2 ⊢
  refine AW.drawT (.take 0 [3] (.take 1 [3, 2] (.only 2 (.only 3 .done)))) [0, 0, 2, 2] mixed (by kernel_rfl) (by kernel_rfl) ?_
  have c1 := hP.sub g2.sub
  have hm := make0 k hN
  simp (disch := first | omega | decide | (simp only [List.length_cons, List.length_nil] <;> omega)) only [push_cast, ↓reduceIte, Nat.reduceLT, Nat.reduceEqDiff, reduceCtorEq, Nat.reduceAdd, hn, hd, ha, c3.ld flY, c1.ld fl3, hm]
  have g3 := g2.new (.row (List.replicate N (.int .i64 0)) 3 true)
  have hkA : k.next < (k.new (.row (List.replicate N (.int .i64 0)) 3 true)).next := by simp
  have c1' := c1.sub (Sub.new g2.wf (.row (List.replicate N (.int .i64 0)) 3 true))
  have c2' := c2.sub (Sub.new g2.wf (.row (List.replicate N (.int .i64 0)) 3 true))
  have c3' := c3.sub (Sub.new g2.wf (.row (List.replicate N (.int .i64 0)) 3 true))
  have hbase : Base N k.next [] (k.new (.row (List.replicate N (.int .i64 0)) 3 true)) := ⟨_, by rw [AH.new_get, if_pos rfl], by simp, rfl⟩
  have i1 := R.add _ _ _ _ hI g3
  generalize k.new (.row (List.replicate N (.int .i64 0)) 3 true) = k3 at *
  have hPlt : P1 < h.next := let ⟨o, x, _⟩ := hP; AH.get_lt hwf x
  have hcall := inner (N := N) (P1 := P1) (P2 := h.next) (P3 := h.next + 1) (A := k.next) (yv := yv)
    (I := fun acc h1 => I (fun C => K C ∨ (h.next ≤ C ∧ C < k3.next)) acc h1 ∧ k3.next ≤ h1.next ∧ ∀ B o, K B → h.get B = some o → h1.get B = some o) (M := (ext N N []).length) hN (by omega) (by omega) (by omega)
    (fun acc h1 h2 hi hx => ⟨R.fr _ _ _ _ hi.1 (fun B o hB hnK => hx.keep B o hB (fun e => hnK (.inr ⟨by omega, by omega⟩))) hx.wf hx.nx, Nat.le_trans hi.2.1 hx.nx, fun B o hKB hB => hx.keep B o (hi.2.2 B o hKB hB) (fun e => by have := AH.get_lt hwf hB; omega)⟩)
    (fun acc h1 h1' p pv xs hi hgr hfresh hpl hml hw he hb hpv => callR.mono (fun r h2 hq => ⟨hq.1, ⟨hq.2.1, Nat.le_trans hi.2.1 (Nat.le_trans hgr.nx hq.2.2.2.1), fun B o hKB hB => hq.2.2.2.2 B o (.inl hKB) (hgr.sub _ _ (hi.2.2 B o hKB hB))⟩, hq.2.2.1,
      ⟨let ⟨o, x, y⟩ := he.n; ⟨o, hq.2.2.2.2 _ o (.inl hK) x, y⟩, let ⟨o, x, y⟩ := he.y; ⟨o, hq.2.2.2.2 _ o (.inr ⟨by omega, by omega⟩) x, y⟩, let ⟨o, x, y⟩ := he.f; ⟨o, hq.2.2.2.2 _ o (.inr ⟨by omega, by omega⟩) x, y⟩⟩,
      let ⟨cs, x, y, z⟩ := hb; ⟨cs, hq.2.2.2.2 _ _ (.inr ⟨by omega, by omega⟩) x, y, z⟩⟩) (R.yl _ _ _ _ _ _ hi.1 hgr hfresh hpl hml hpv))
    N [] [] k3 (by simp) (by simp) g3.wf ⟨c1', c2', c3'⟩ hbase ⟨i1, Nat.le_refl _, fun B o _ hB => g3.sub B o hB⟩
  refine ACall.mono ?_ hcall
  rintro _ k4 ⟨rfl, w4, -, -, hi4, hn4, hk4⟩
  simp (disch := first | omega | decide | (simp only [List.length_cons, List.length_nil] <;> omega)) only [push_cast, ↓reduceIte, Nat.reduceLT, Nat.reduceEqDiff, reduceCtorEq, Nat.reduceAdd, hn, hd, ha]
  exact ⟨R.wk _ _ _ _ hi4 (fun C hC => .inl hC), w4, Nat.le_trans g3.nx hn4, hk4⟩


theorem wpA_rangeFunc {P : Program} {rd : Option Nat} {g : Operand} {ps : Array Tmp} {x y : Code} {Q : Exit → AAct → AH → Prop} {a : AAct} {h : AH} : wpA P rd (.rangeFunc g ps x y) Q a h = AW P rd (.rangeFunc g ps x y) Q a h := rfl

theorem smB : SlM Try.prog 67 73 2 32 := ⟨Try.underlying67, ⟨(Try.prog.info? 73).get (by kernel_rfl), .agg #[.int .i64 0, .slice none 0 0], by kernel_rfl, by kernel_rfl, by kernel_rfl, by kernel_rfl, rfl, rfl, rfl⟩, by decide⟩
theorem foB0 : fOff Try.prog 73 0 = some 0 := by kernel_rfl
theorem foB1 : fOff Try.prog 73 1 = some 1 := by kernel_rfl
theorem flB : Fl Try.prog 67 := ⟨_, Try.underlying67, rfl⟩
theorem szB : ∃ i, Try.prog.info? 67 = some i ∧ i.size = 1 := ⟨(Try.prog.info? 67).get (by kernel_rfl), by kernel_rfl, by kernel_rfl⟩
theorem zrB : Zr Try.prog 67 [.slice none 0 0] := ⟨(Try.prog.info? 67).get (by kernel_rfl), .slice none 0 0, by kernel_rfl, by kernel_rfl, rfl, rfl, rfl⟩
theorem zr3 : Zr Try.prog 3 [.int .i64 0] := ⟨(Try.prog.info? 3).get (by kernel_rfl), .int .i64 0, by kernel_rfl, by kernel_rfl, rfl, rfl, rfl⟩

theorem buildB {i : Int} {pv : Value} (hp : pv.cells.toList = [pv]) : aBuild Try.prog 73 [(0, .int .i64 i), (1, pv)] = some (.agg #[.int .i64 i, pv]) := by
  obtain ⟨ie, z, h1, h2, _, h4, h5, _, h7⟩ := smB.info
  have hz : ∃ i, Try.prog.info? 73 = some i ∧ i.zero = some (.agg #[.int .i64 0, .slice none 0 0]) := ⟨(Try.prog.info? 73).get (by kernel_rfl), by kernel_rfl, by kernel_rfl⟩
  obtain ⟨ib, hb1, hb2⟩ := hz
  have hs : ∃ fs, Try.prog.underlying 73 = some (.struct fs) ∧ sizesOf Try.prog fs.toList = some [(0, 1), (1, 1)] := ⟨_, Try.underlying73, by kernel_rfl⟩
  obtain ⟨fs, hf1, hf2⟩ := hs
  have hc : pv.cells.size = 1 := by
    have := congrArg List.length hp
    simpa using this
  have hc0 : (Value.int .i64 i).cells = #[.int .i64 i] := rfl
  have hcz : (Value.agg #[.int .i64 0, .slice none 0 0]).cells = #[.int .i64 0, .slice none 0 0] := rfl
  have hpl : plain 9 (.agg #[.int .i64 0, .slice none 0 0]) = true := rfl
  simp only [aBuild, hb1, hb2, hf1, hf2, hpl]
  simp [fillL, hcz, hc0, hc, hp, setL]

/-! ### The part of a heap that the rounds may use -/

open Classical in
noncomputable def hide (K : Nat → Prop) (h : AH) : AH := { next := h.next, get := fun B => if K B then none else h.get B }

theorem hide_get {K : Nat → Prop} {h : AH} {B : Nat} {o : AObj} : (hide K h).get B = some o ↔ ¬ K B ∧ h.get B = some o := by
  unfold hide
  by_cases hk : K B <;> simp [hk]
theorem hide_sub (K : Nat → Prop) (h : AH) : Sub (hide K h) h := fun _ _ x => (hide_get.1 x).2

theorem SlOf_hide {K : Nat → Prop} {h : AH} {v : Value} {vs : List Value} (hs : SlOf h v vs) (hf : ∀ C off l c, v = .slice (some ⟨C, off, none⟩) l c → ¬ K C) : SlOf (hide K h) v vs := by
  obtain ⟨p, l, c, rfl, hl, hsp, hcs⟩ := hs
  refine ⟨p, l, c, rfl, hl, hsp, ?_⟩
  rcases hcs with e | ⟨A, off, o, cs, rfl, hg, hc, hall⟩
  · exact .inl e
  · exact .inr ⟨A, off, o, cs, rfl, hide_get.2 ⟨hf _ _ _ _ rfl, hg⟩, hc, hall⟩

/-- The bindings that were found, as a row. -/
def BindV (h : AH) (v : Value) (ob : Option AObj) (A : Nat) (bs : List (Int × List Int)) : Prop :=
  ∃ zs, VecM 2 73 v ob A bs.length zs ∧ (∀ o, ob = some o → h.get A = some o) ∧ ∀ (i : Nat) (x : Int × List Int), bs[i]? = some x → ∃ pv, (zs.drop (i * 2)).take 2 = [.int .i64 x.1, pv] ∧ SlOf h pv (x.2.map (.int .i64))

theorem BindV.sub {h h' : AH} {v : Value} {ob : Option AObj} {A : Nat} {bs : List (Int × List Int)} (hb : BindV h v ob A bs) (s : Sub h h') : BindV h' v ob A bs := by
  obtain ⟨zs, h1, h2, h3⟩ := hb
  exact ⟨zs, h1, fun o e => s _ _ (h2 o e), fun i x hx => let ⟨pv, e, hs⟩ := h3 i x hx; ⟨pv, e, hs.sub s⟩⟩

/-- The bindings that were found, as a row; the pins lie in other blocks than X and the row. -/
def BindX (X : Nat) (h : AH) (v : Value) (ob : Option AObj) (A : Nat) (bs : List (Int × List Int)) : Prop :=
  ∃ zs, VecM 2 73 v ob A bs.length zs ∧ (∀ o, ob = some o → h.get A = some o) ∧ ∀ (i : Nat) (x : Int × List Int), bs[i]? = some x → ∃ pv, (zs.drop (i * 2)).take 2 = [.int .i64 x.1, pv] ∧ SlOf (hide (fun C => C = X ∨ C = A) h) pv (x.2.map (.int .i64))

theorem hide_mono {K : Nat → Prop} {h h' : AH} (s : Sub h h') : Sub (hide K h) (hide K h') := fun B o x => hide_get.2 ⟨(hide_get.1 x).1, s _ _ (hide_get.1 x).2⟩

theorem BindX.sub {X : Nat} {h h' : AH} {v : Value} {ob : Option AObj} {A : Nat} {bs : List (Int × List Int)} (hb : BindX X h v ob A bs) (s : Sub h h') : BindX X h' v ob A bs := by
  obtain ⟨zs, h1, h2, h3⟩ := hb
  exact ⟨zs, h1, fun o e => s _ _ (h2 o e), fun i x hx => let ⟨pv, e, hs⟩ := h3 i x hx; ⟨pv, e, hs.sub (hide_mono s)⟩⟩
theorem BindX.v {X : Nat} {h : AH} {v : Value} {ob : Option AObj} {A : Nat} {bs : List (Int × List Int)} (hb : BindX X h v ob A bs) : BindV h v ob A bs := by
  obtain ⟨zs, h1, h2, h3⟩ := hb
  exact ⟨zs, h1, h2, fun i x hx => let ⟨pv, e, hs⟩ := h3 i x hx; ⟨pv, e, hs.sub (hide_sub _ _)⟩⟩

/-- What stands between the rounds of Match. -/
structure MF (L Tb B11 B12 : Nat) (l0 : ALoop) (i : Int) (cc : List Value) (b : AH) (bs : List (Int × List Int)) (g : AH) : Prop where
  lp : g.get L = some (.loop l0)
  b11 : CsAt g B11 [.int .i64 i]
  b12 : CsAt g B12 cc
  sub : Sub b g
  tb : ∃ rv ob A, g.get Tb = some (.row [rv] 67 true) ∧ BindX Tb g rv ob A bs ∧ (∀ o, ob = some o → A ≠ L ∧ A ≠ Tb ∧ A ≠ B11 ∧ A ≠ B12 ∧ b.next ≤ A)

theorem MF.mono {L Tb B11 B12 : Nat} {l0 : ALoop} {i : Int} {cc : List Value} {b : AH} {bs : List (Int × List Int)} {g g' : AH} (m : MF L Tb B11 B12 l0 i cc b bs g) (s : Sub g g') : MF L Tb B11 B12 l0 i cc b bs g' := by
  obtain ⟨rv, ob, A, h1, h2, h3⟩ := m.tb
  exact ⟨s _ _ m.lp, m.b11.sub s, m.b12.sub s, m.sub.trans s, rv, ob, A, s _ _ h1, h2.sub s, h3⟩

/-- The invariant of the rounds, for what has been yielded. -/
def MI (F : List (List Int) → AH → Prop) (K : Nat → Prop) (acc : List (List Int)) (h : AH) : Prop := WFH h ∧ (∀ C, K C → C < h.next) ∧ F acc (hide K h)

theorem MI.rounds {M : Nat} {yv : Value} {F : List (List Int) → AH → Prop} (hF : ∀ acc g g', F acc g → Sub g g' → F acc g')
    (hy : ∀ K acc h0 h p pv, WFH h0 → (∀ C, K C → C < h0.next) → F acc (hide K h0) → Gr h0 h → (∀ C off l c, pv = .slice (some ⟨C, off, none⟩) l c → h0.next ≤ C) → p.length ≤ 8 → acc.length < M → SlOf h pv (p.map (.int .i64)) →
      callR Try.prog yv [pv] h (fun r h' => r = .bool true ∧ F (acc ++ [p]) (hide K h') ∧ WFH h' ∧ h.next ≤ h'.next ∧ ∀ B o, K B → h.get B = some o → h'.get B = some o)) : Rounds M yv (MI F) where
  fr := fun K acc h h' hI hk hw hn => ⟨hw, fun C hC => Nat.lt_of_lt_of_le (hI.2.1 C hC) hn, hF _ _ _ hI.2.2 (fun B o hB => by
    obtain ⟨h1, h2⟩ := hide_get.1 hB
    exact hide_get.2 ⟨h1, hk B o h2 h1⟩)⟩
  add := fun K acc h h' hI hg => ⟨hg.wf, fun C hC => by
      rcases hC with hC | hC
      · exact Nat.lt_of_lt_of_le (hI.2.1 C hC) hg.nx
      · exact hC.2, hF _ _ _ hI.2.2 (fun B o hB => by
      obtain ⟨h1, h2⟩ := hide_get.1 hB
      have := AH.get_lt hI.1 h2
      exact hide_get.2 ⟨by rintro (hC | hC); exact h1 hC; omega, hg.sub _ _ h2⟩)⟩
  wk := fun K K' acc h hI hk => ⟨hI.1, fun C hC => hI.2.1 C (hk C hC), hF _ _ _ hI.2.2 (fun B o hB => by
    obtain ⟨h1, h2⟩ := hide_get.1 hB
    exact hide_get.2 ⟨fun hC => h1 (hk B hC), h2⟩)⟩
  yl := fun K acc h0 h p pv hI hg hf hpl hml hs => callR.mono (fun r h' hq => ⟨hq.1, ⟨hq.2.2.1, fun C hC => Nat.lt_of_lt_of_le (hI.2.1 C hC) (Nat.le_trans hg.nx hq.2.2.2.1), hq.2.1⟩, hq.2.2.1, hq.2.2.2.1, hq.2.2.2.2⟩) (hy K acc h0 h p pv hI.1 hI.2.1 hI.2.2 hg hf hpl hml hs)

attribute [local push_cast] wpA_rangeFunc

theorem rangeN {P : Program} {g : Operand} {ps : Array Tmp} {assign body : Code} {Q : Exit → AAct → AH → Prop} {a : AAct} {h : AH} {gf : FuncId} {first cap : Array Value} (hc : cOK g = true) (hev : a.ev g = .func (.func gf) first cap)
    (hk : ∀ l0 : ALoop, l0.state = .ready → l0.pending = none → l0.n = a.n → l0.tm = a.tm → l0.params = ps → l0.assign = assign → l0.body = body →
      ACall P gf (first.toList ++ [.func (.yield (h.next + 1)) #[] #[]] ++ cap.toList) ((h.new (.dfr true)).new (.loop l0)) (rangeQ P none (h.next + 1) { a with df := h.next :: a.df } Q)) : AW P none (.rangeFunc g ps assign body) Q a h :=
  AW.rangeFunc ⟨gf, first, cap, hc, hev, hk _ rfl rfl rfl rfl rfl rfl rfl⟩

def hitE (t tt : Int) (N : Nat) (p : List Int) : Bool := decide ((if validE t N = true ∧ permE p N = true then permuteE t N p else 0) = tt)
def cellM (tt : Int) (N : Nat) (t : Int) (j : Nat) (ps : List (List Int)) : List (Int × List Int) := (ps.filter (hitE t tt N)).map fun p => ((j : Int), p)
theorem cellM_le (tt : Int) (N : Nat) (t : Int) (j : Nat) (ps : List (List Int)) : (cellM tt N t j ps).length ≤ ps.length := by
  unfold cellM; rw [List.length_map]; exact List.length_filter_le _ _
theorem ext_le {N : Nat} (hN : N ≤ 4) : (ext N N []).length ≤ 24 := by
  have : N = 0 ∨ N = 1 ∨ N = 2 ∨ N = 3 ∨ N = 4 := by omega
  rcases this with rfl | rfl | rfl | rfl | rfl <;> decide
def matchGo (tt : Int) (N : Nat) : Nat → List Cell → List (Int × List Int)
  | _, [] => []
  | j, c :: cs => (if c.pins = N then cellM tt N c.table j (ext N N []) else []) ++ matchGo tt N (j + 1) cs
def matchE (l : List Cell) (tt : Int) (N : Nat) : Int := if (cellsE l).2 ≠ 0 then (cellsE l).2 else if N > 4 ∨ validE tt N = false then 1 else 0

theorem closeMarks_ok : ∀ (D : List Nat) (h : AH), WFH h → (∀ d ∈ D, h.get d = some (.dfr true)) → D.Nodup → ∃ h', closeMarks D h = some h' ∧ h'.next = h.next ∧ WFH h' ∧ ∀ B, B ∉ D → h'.get B = h.get B := by
  intro D
  induction D with
  | nil => intro h hw _ _; exact ⟨h, rfl, rfl, hw, fun _ _ => rfl⟩
  | cons d D ih =>
    intro h hw hd hn
    obtain ⟨hn1, hn2⟩ := List.nodup_cons.1 hn
    have h0 := hd d (List.mem_cons_self ..)
    obtain ⟨h', e1, e2, e3, e4⟩ := ih (h.set d (.dfr false)) (hw.set (AH.get_lt hw h0) _) (fun x hx => by
      rw [AH.set_get, if_neg (by rintro rfl; exact hn1 hx)]; exact hd x (List.mem_cons_of_mem _ hx)) hn2
    refine ⟨h', ?_, e2, e3, fun B hB => ?_⟩
    · simp only [closeMarks, h0]; exact e1
    · rw [e4 B (fun hx => hB (List.mem_cons_of_mem _ hx)), AH.set_get, if_neg (by rintro rfl; exact hB (List.mem_cons_self ..))]

theorem info3' : ∃ i, Try.prog.info? 3 = some i ∧ i.size = 1 := ⟨(Try.prog.info? 3).get (by kernel_rfl), by kernel_rfl, by kernel_rfl⟩

/-- Blocks that hold cells stay. -/
def SubC (h h' : AH) : Prop := ∀ B o cs, h.get B = some o → o.cells? = some cs → h'.get B = some o

theorem SlOf_subC {h h' : AH} {v : Value} {vs : List Value} (hs : SlOf h v vs) (s : SubC h h') : SlOf h' v vs := by
  obtain ⟨p, l, c, rfl, hl, hsp, hcs⟩ := hs
  refine ⟨p, l, c, rfl, hl, hsp, ?_⟩
  rcases hcs with e | ⟨A, off, o, cs, rfl, hg, hc, hall⟩
  · exact .inl e
  · exact .inr ⟨A, off, o, cs, rfl, s _ _ _ hg hc, hc, hall⟩

theorem BindV.subC {h h' : AH} {v : Value} {ob : Option AObj} {A : Nat} {bs : List (Int × List Int)} (hb : BindV h v ob A bs) (s : SubC h h') : BindV h' v ob A bs := by
  obtain ⟨zs, h1, h2, h3⟩ := hb
  refine ⟨zs, h1, fun o e => ?_, fun i x hx => let ⟨pv, e, hs⟩ := h3 i x hx; ⟨pv, e, SlOf_subC hs s⟩⟩
  obtain ⟨_, ⟨_, _, h4⟩ | ⟨_, _, h4⟩ | ⟨_, h4⟩⟩ := h1
  · rw [h4] at e; cases e
  · rw [h4] at e; cases e; exact s _ _ [] (h2 _ h4) rfl
  · rw [h4] at e; cases e; exact s _ _ zs (h2 _ h4) rfl

theorem hideC {K : Nat → Prop} {h h' : AH} (s : SubC h h') : SubC (hide K h) (hide K h') := fun B o cs x y => hide_get.2 ⟨(hide_get.1 x).1, s _ _ _ (hide_get.1 x).2 y⟩
theorem BindX.subC {X : Nat} {h h' : AH} {v : Value} {ob : Option AObj} {A : Nat} {bs : List (Int × List Int)} (hb : BindX X h v ob A bs) (s : SubC h h') : BindX X h' v ob A bs := by
  obtain ⟨zs, h1, h2, h3⟩ := hb
  refine ⟨zs, h1, fun o e => ?_, fun i x hx => let ⟨pv, e, hs⟩ := h3 i x hx; ⟨pv, e, SlOf_subC hs (hideC s)⟩⟩
  obtain ⟨_, ⟨_, _, h4⟩ | ⟨_, _, h4⟩ | ⟨_, h4⟩⟩ := h1
  · rw [h4] at e; cases e
  · rw [h4] at e; cases e; exact s _ _ [] (h2 _ h4) rfl
  · rw [h4] at e; cases e; exact s _ _ zs (h2 _ h4) rfl

theorem lay2 {k : AH} (hw : WFH k) (z0 x : Value) (zc cs : List Value) (t0 T : TypeId) :
    Gr k ((((k.new (.row [z0] t0 true)).new (.row zc T true)).set k.next (.row [x] t0 true)).set (k.next + 1) (.row cs T true)) ∧
    CsAt ((((k.new (.row [z0] t0 true)).new (.row zc T true)).set k.next (.row [x] t0 true)).set (k.next + 1) (.row cs T true)) k.next [x] ∧
    CsAt ((((k.new (.row [z0] t0 true)).new (.row zc T true)).set k.next (.row [x] t0 true)).set (k.next + 1) (.row cs T true)) (k.next + 1) cs := by
  have g := ((Gr.refl hw).new (.row [z0] t0 true)).new (.row zc T true)
  have g1 := g.set hw (A := k.next) (Nat.le_refl _) (by simp; omega) (.row [x] t0 true)
  have g2 := g1.set hw (A := k.next + 1) (by omega) (by simp) (.row cs T true)
  refine ⟨g2, ⟨_, by rw [AH.set_get, if_neg (by omega), AH.set_get, if_pos rfl], rfl⟩, ⟨_, by rw [AH.set_get, if_pos rfl], rfl⟩⟩

/-- What stands between Match's cells. -/
def MatchI (h b : AH) (v : Value) (l : List Cell) (tt : Int) (N : Nat) (m : Nat) (a' : AAct) (h' : AH) : Prop :=
  ∃ (j : Nat) (D : List Nat) (bs : List (Int × List Int)) (rv : Value) (ob : Option AObj) (A : Nat), a'.n = 65 ∧ a'.df = D ∧ a'.tm 34 = .int .i64 j ∧ a'.tm 33 = .int .i64 l.length ∧ a'.tm 32 = v ∧ a'.tm 4 = .pointer (some ⟨h.next, 0, none⟩) ∧ a'.tm 5 = .pointer (some ⟨h.next + 1, 0, none⟩) ∧ a'.tm 10 = .pointer (some ⟨b.next, 0, none⟩) ∧ j + m = l.length ∧
      Gr b h' ∧ h'.get b.next = some (.row [rv] 67 true) ∧ BindX b.next h' rv ob A bs ∧ (∀ o, ob = some o → b.next < A) ∧ bs ++ matchGo tt N j (l.drop j) = matchGo tt N 0 l ∧ (∀ d ∈ D, h'.get d = some (.dfr true) ∧ b.next < d) ∧ D.Nodup ∧ bs.length ≤ 24 * j

theorem matchN {h : AH} {v : Value} {l : List Cell} {tt : Int} {N : Nat} (hv : RowOf cellL h v l) (hok : ∀ c ∈ l, CellOK c) (h0 : 0 ≤ tt) (h1 : tt < 18446744073709551616) (hN : N ≤ 6) (hl : l.length ≤ 4294967296) :
    ACall Try.prog 31 [v, .int .u64 tt, .int .i64 N] h (fun r h' => Gr h h' ∧ ∃ mv, r = .tuple #[mv, .int .i64 (matchE l tt N)] ∧ ∃ ob A, BindV h' mv ob A (if matchE l tt N = 0 then matchGo tt N 0 l else [])) := by
  refine ACall.wf ⟨_, Try.func31, rfl, by kernel_rfl⟩ fun hwf => ?_
  refine ACall.of_wp 65 [.tmp 6, .tmp 7] Try.func31 rfl (by kernel_rfl) rfl rfl fun a hn hd ha => ?_
  have hbox1 : aBox 44 (.int .u64 tt) h = some (.pointer (some ⟨h.next, 0, none⟩), h.new (.row [.int .u64 tt] 44 true)) := rfl
  have g1 := (Gr.refl hwf).new (.row [.int .u64 tt] 44 true)
  have hbox2 : aBox 3 (.int .i64 N) (h.new (.row [.int .u64 tt] 44 true)) = some (.pointer (some ⟨h.next + 1, 0, none⟩), (h.new (.row [.int .u64 tt] 44 true)).new (.row [.int .i64 N] 3 true)) := rfl
  have g2 := g1.new (.row [.int .i64 N] 3 true)
  have b4 := (CsAt.new h [.int .u64 tt] 44 true).sub (Sub.new g1.wf (.row [.int .i64 N] 3 true))
  have b5 := CsAt.new (h.new (.row [.int .u64 tt] 44 true)) [.int .i64 N] 3 true
  rw [AH.new_next] at b5
  simp (disch := first | omega | decide | (simp only [List.length_cons, List.length_nil] <;> omega)) only [push_cast, ↓reduceIte, Nat.reduceLT, Nat.reduceEqDiff, reduceCtorEq, Nat.reduceAdd, hn, hd, ha, hbox1, hbox2]
  have hnx : ((h.new (.row [.int .u64 tt] 44 true)).new (.row [.int .i64 N] 3 true)).next = h.next + 2 := rfl
  generalize (h.new (.row [.int .u64 tt] 44 true)).new (.row [.int .i64 N] 3 true) = b at g2 b4 b5 hnx ⊢
  have nilX : ∀ X g, BindX X g (.slice none 0 0) none 0 [] := fun X g => ⟨[], ⟨rfl, .inl ⟨rfl, rfl, rfl⟩⟩, fun o e => (nomatch e), fun i x e => by simp at e⟩
  have nil0 : ∀ g, BindV g (.slice none 0 0) none 0 [] := fun g => ⟨[], ⟨rfl, .inl ⟨rfl, rfl, rfl⟩⟩, fun o e => (nomatch e), fun i x e => by simp at e⟩
  refine ACall.mono ?_ (cells (hv.sub g2.sub) hok)
  rintro _ b ⟨rfl, rfl⟩
  simp (disch := first | omega | decide | (simp only [List.length_cons, List.length_nil] <;> omega)) only [push_cast, ↓reduceIte, Nat.reduceLT, Nat.reduceEqDiff, reduceCtorEq, Nat.reduceAdd, hn, hd, ha]
  refine condV_not (fun e0 => ?_) (fun e0 => ?_)
  · have e : ¬ (cellsE l).2 = 0 := by simpa using e0
    have hE : matchE l tt N = (cellsE l).2 := by rw [matchE, if_pos e]
    simp (disch := first | omega | decide | (simp only [List.length_cons, List.length_nil] <;> omega)) only [push_cast, ↓reduceIte, Nat.reduceLT, Nat.reduceEqDiff, reduceCtorEq, Nat.reduceAdd, hn, hd, ha, hE, e]
    exact ⟨g2, _, rfl, none, 0, nil0 _⟩
  have e : (cellsE l).2 = 0 := by simpa using e0
  simp (disch := first | omega | decide | (simp only [List.length_cons, List.length_nil] <;> omega)) only [push_cast, ↓reduceIte, Nat.reduceLT, Nat.reduceEqDiff, reduceCtorEq, Nat.reduceAdd, hn, hd, ha, b5.ld fl3]
  refine wantM_not (fun e1 => ?_) (fun e1 => ?_)
  · have hE : matchE l tt N = 1 := by rw [matchE, if_neg (by simpa using e), if_pos (.inl (by simp at e1; omega))]
    simp (disch := first | omega | decide | (simp only [List.length_cons, List.length_nil] <;> omega)) only [push_cast, ↓reduceIte, Nat.reduceLT, Nat.reduceEqDiff, reduceCtorEq, Nat.reduceAdd, hn, hd, ha, e1, hE]
    exact ⟨g2, _, rfl, none, 0, nil0 _⟩
  have hN4 : N ≤ 4 := by simp at e1; omega
  simp (disch := first | omega | decide | (simp only [List.length_cons, List.length_nil] <;> omega)) only [push_cast, ↓reduceIte, Nat.reduceLT, Nat.reduceEqDiff, reduceCtorEq, Nat.reduceAdd, hn, hd, ha, e1, b5.ld fl3, b4.ld flU]
  refine ACall.mono ?_ (valid h0 h1)
  rintro _ b ⟨rfl, rfl⟩
  cases e2 : validE tt N with
  | false =>
    have hE : matchE l tt N = 1 := by rw [matchE, if_neg (by simpa using e), if_pos (.inr e2)]
    simp (disch := first | omega | decide | (simp only [List.length_cons, List.length_nil] <;> omega)) only [push_cast, ↓reduceIte, Nat.reduceLT, Nat.reduceEqDiff, reduceCtorEq, Nat.reduceAdd, hn, hd, ha, e1, e2, hE]
    exact ⟨g2, _, rfl, none, 0, nil0 _⟩
  | true =>
    have hE : matchE l tt N = 0 := by rw [matchE, if_neg (by simpa using e), if_neg (by simp [e2]; omega)]
    have r2 := hv.sub g2.sub
    simp (disch := first | omega | decide | (simp only [List.length_cons, List.length_nil] <;> omega)) only [push_cast, ↓reduceIte, Nat.reduceLT, Nat.reduceEqDiff, reduceCtorEq, Nat.reduceAdd, hn, hd, ha, e1, e2, hE, alL zrB, r2.len Try.underlying30]
    have wb := g2.wf
    refine AW.loop (MatchI h b v l tt N) l.length ?_ ?_
    · exact ⟨0, [], [], .slice none 0 0, none, 0, by simp (disch := first | omega | decide | (simp only [List.length_cons, List.length_nil] <;> omega)) only [push_cast, ↓reduceIte, Nat.reduceLT, Nat.reduceEqDiff, reduceCtorEq, Nat.reduceAdd, hn], by simp (disch := first | omega | decide | (simp only [List.length_cons, List.length_nil] <;> omega)) only [push_cast, ↓reduceIte, Nat.reduceLT, Nat.reduceEqDiff, reduceCtorEq, Nat.reduceAdd, hd], by simp (disch := first | omega | decide | (simp only [List.length_cons, List.length_nil] <;> omega)) only [push_cast, ↓reduceIte, Nat.reduceLT, Nat.reduceEqDiff, reduceCtorEq, Nat.reduceAdd], by simp (disch := first | omega | decide | (simp only [List.length_cons, List.length_nil] <;> omega)) only [push_cast, ↓reduceIte, Nat.reduceLT, Nat.reduceEqDiff, reduceCtorEq, Nat.reduceAdd], by simp (disch := first | omega | decide | (simp only [List.length_cons, List.length_nil] <;> omega)) only [push_cast, ↓reduceIte, Nat.reduceLT, Nat.reduceEqDiff, reduceCtorEq, Nat.reduceAdd, ha], by simp (disch := first | omega | decide | (simp only [List.length_cons, List.length_nil] <;> omega)) only [push_cast, ↓reduceIte, Nat.reduceLT, Nat.reduceEqDiff, reduceCtorEq, Nat.reduceAdd], by simp (disch := first | omega | decide | (simp only [List.length_cons, List.length_nil] <;> omega)) only [push_cast, ↓reduceIte, Nat.reduceLT, Nat.reduceEqDiff, reduceCtorEq, Nat.reduceAdd], by simp (disch := first | omega | decide | (simp only [List.length_cons, List.length_nil] <;> omega)) only [push_cast, ↓reduceIte, Nat.reduceLT, Nat.reduceEqDiff, reduceCtorEq, Nat.reduceAdd], by omega, (Gr.refl wb).new _, by rw [AH.new_get, if_pos rfl], nilX _ _, fun o e => (nomatch e), rfl, fun d hd => by simp at hd, List.nodup_nil, Nat.zero_le _⟩
    clear hn hd ha
    rintro m a1 k ⟨j, D, bs, rv, ob, A, hn, hd, h34, h33, h32, h4, h5, h10, hjm, hg, hTb, hbs, hA, hgo, hD, hDn, hbl⟩
    refine wpA_sound _ _ _ _ ?_
    simp (disch := first | omega | decide | (simp only [List.length_cons, List.length_nil] <;> omega)) only [push_cast, ↓reduceIte, Nat.reduceLT, Nat.reduceEqDiff, reduceCtorEq, Nat.reduceAdd, hn, hd, h34, h33, h32, h4, h5, h10]
    refine condV_of (fun hlt => ?_) (fun hge => ?_)
    · have hj : j < l.length := by have := hlt; simp at this; omega
      obtain ⟨cs, ⟨dv, rfl, hdv⟩, hld, -, -⟩ := r2.get hj default
      replace hld := aLoad_sub hg.sub (hld _ agC)
      generalize hc0 : l.getD j default = c at *
      have hone : [Value.string c.name, .int .i64 c.pins, .int .u64 c.table, .int .i64 c.area, dv].all oneC = true := by simp only [List.all_cons, List.all_nil, hdv.one]; rfl
      obtain ⟨g4, c11, c12⟩ := lay2 hg.wf (.int .i64 0) (.int .i64 j) [.string ByteArray.empty, .int .i64 0, .int .u64 0, .int .i64 0, .slice none 0 0] [Value.string c.name, .int .i64 c.pins, .int .u64 c.table, .int .i64 c.area, dv] 3 47
      have hs1 := stC info3' (h := (k.new (.row [.int .i64 0] 3 true)).new (.row [.string ByteArray.empty, .int .i64 0, .int .u64 0, .int .i64 0, .slice none 0 0] 47 true)) (A := k.next) (cs := [.int .i64 0]) (e' := 3) (by rw [AH.new_get, if_neg (by simp), AH.new_get, if_pos rfl]) 0 (.int .i64 j) (by simp) rfl rfl
      have hs2 := stA agC (h := ((k.new (.row [.int .i64 0] 3 true)).new (.row [.string ByteArray.empty, .int .i64 0, .int .u64 0, .int .i64 0, .slice none 0 0] 47 true)).set k.next (.row [.int .i64 j] 3 true)) (A := k.next + 1) (cs := [.string ByteArray.empty, .int .i64 0, .int .u64 0, .int .i64 0, .slice none 0 0]) (e := 47) (by rw [AH.set_get, if_neg (by omega), AH.new_get, if_pos (by simp)]) rfl _ rfl hone
      have hs1' : aStore Try.prog 3 (.pointer (some ⟨k.next, 0, none⟩)) (.int .i64 j) ((k.new (.row [.int .i64 0] 3 true)).new (.row [.string ByteArray.empty, .int .i64 0, .int .u64 0, .int .i64 0, .slice none 0 0] 47 true)) = some (((k.new (.row [.int .i64 0] 3 true)).new (.row [.string ByteArray.empty, .int .i64 0, .int .u64 0, .int .i64 0, .slice none 0 0] 47 true)).set k.next (.row [.int .i64 j] 3 true)) := hs1
      simp (disch := first | omega | decide | (simp only [List.length_cons, List.length_nil] <;> omega)) only [push_cast, ↓reduceIte, Nat.reduceLT, Nat.reduceEqDiff, reduceCtorEq, Nat.reduceAdd, hn, hd, h34, h33, h32, h4, h5, h10, r2.idx Try.underlying30 infC, hld, alL zr3, alL zrC, AH.new_next, hs1', hs2]
      generalize (((k.new (.row [.int .i64 0] 3 true)).new (.row [.string ByteArray.empty, .int .i64 0, .int .u64 0, .int .i64 0, .slice none 0 0] 47 true)).set k.next (.row [.int .i64 j] 3 true)).set (k.next + 1) (.row [Value.string c.name, .int .i64 c.pins, .int .u64 c.table, .int .i64 c.area, dv] 47 true) = k4 at g4 c11 c12 ⊢
      have b5k := (b5.sub hg.sub).sub g4.sub
      simp (disch := first | omega | decide | (simp only [List.length_cons, List.length_nil] <;> omega)) only [push_cast, ↓reduceIte, Nat.reduceLT, Nat.reduceEqDiff, reduceCtorEq, Nat.reduceAdd, hn, hd, h34, h33, h32, h4, h5, h10, faL foC1, c12.ld fl3, b5k.ld fl3]
      have hw : IntKind.i64.wrap ((j : Int) + 1) = j + 1 := wrapI (by omega) (by omega)
      rw [drop_cons_getD hj default, hc0, matchGo, ← List.append_assoc] at hgo
      have hlt0 : b.next < k.next := AH.get_lt hg.wf hTb
      refine condV_not (fun ep => ?_) (fun ep => ?_)
      · have hp : ¬ (c.pins = N) := by simpa using ep
        rw [if_neg hp, List.append_nil] at hgo
        simp (disch := first | omega | decide | (simp only [List.length_cons, List.length_nil] <;> omega)) only [push_cast, ↓reduceIte, Nat.reduceLT, Nat.reduceEqDiff, reduceCtorEq, Nat.reduceAdd, hn, hd, h34, h33, h32, h4, h5, h10, hw]
        exact ⟨m - 1, by omega, j + 1, D, bs, rv, ob, A, by simp (disch := first | omega | decide | (simp only [List.length_cons, List.length_nil] <;> omega)) only [push_cast, ↓reduceIte, Nat.reduceLT, Nat.reduceEqDiff, reduceCtorEq, Nat.reduceAdd, hn], by simp (disch := first | omega | decide | (simp only [List.length_cons, List.length_nil] <;> omega)) only [push_cast, ↓reduceIte, Nat.reduceLT, Nat.reduceEqDiff, reduceCtorEq, Nat.reduceAdd, hd], by simp (disch := first | omega | decide | (simp only [List.length_cons, List.length_nil] <;> omega)) only [push_cast, ↓reduceIte, Nat.reduceLT, Nat.reduceEqDiff, reduceCtorEq, Nat.reduceAdd], by simp (disch := first | omega | decide | (simp only [List.length_cons, List.length_nil] <;> omega)) only [push_cast, ↓reduceIte, Nat.reduceLT, Nat.reduceEqDiff, reduceCtorEq, Nat.reduceAdd, h33], by simp (disch := first | omega | decide | (simp only [List.length_cons, List.length_nil] <;> omega)) only [push_cast, ↓reduceIte, Nat.reduceLT, Nat.reduceEqDiff, reduceCtorEq, Nat.reduceAdd, h32], by simp (disch := first | omega | decide | (simp only [List.length_cons, List.length_nil] <;> omega)) only [push_cast, ↓reduceIte, Nat.reduceLT, Nat.reduceEqDiff, reduceCtorEq, Nat.reduceAdd, h4], by simp (disch := first | omega | decide | (simp only [List.length_cons, List.length_nil] <;> omega)) only [push_cast, ↓reduceIte, Nat.reduceLT, Nat.reduceEqDiff, reduceCtorEq, Nat.reduceAdd, h5], by simp (disch := first | omega | decide | (simp only [List.length_cons, List.length_nil] <;> omega)) only [push_cast, ↓reduceIte, Nat.reduceLT, Nat.reduceEqDiff, reduceCtorEq, Nat.reduceAdd, h10], by omega, hg.trans g4, g4.sub _ _ hTb, hbs.sub g4.sub, hA, hgo, fun d hd => ⟨g4.sub _ _ (hD d hd).1, (hD d hd).2⟩, hDn, by omega⟩
      · have hp : c.pins = N := by simpa using ep
        rw [if_pos hp] at hgo
        simp (disch := first | omega | decide | (simp only [List.length_cons, List.length_nil] <;> omega)) only [push_cast, ↓reduceIte, Nat.reduceLT, Nat.reduceEqDiff, reduceCtorEq, Nat.reduceAdd, hn, hd, h34, h33, h32, h4, h5, h10, b5k.ld fl3]
        refine ACall.mono ?_ (orders (N := N) (by omega))
        rintro _ k5 ⟨rfl, rfl⟩
        simp (disch := first | omega | decide | (simp only [List.length_cons, List.length_nil] <;> omega)) only [push_cast, ↓reduceIte, Nat.reduceLT, Nat.reduceEqDiff, reduceCtorEq, Nat.reduceAdd, hn, hd, h34, h33, h32, h4, h5, h10]
        have gP := (Gr.refl g4.wf).new (.row [.int .i64 N] 3 true)
        have cP := CsAt.new k4 [.int .i64 N] 3 true
        have hn4 := g4.nx
        refine rangeN rfl (by simp (disch := first | omega | decide | (simp only [List.length_cons, List.length_nil] <;> omega)) only [push_cast, ↓reduceIte, Nat.reduceLT, Nat.reduceEqDiff, reduceCtorEq, Nat.reduceAdd]; rfl) ?_
        intro l0 q1 q2 q3 q4 q5 q6 q7
        generalize hk5 : k4.new (.row [.int .i64 N] 3 true) = k5 at gP cP ⊢
        have hn5 : k5.next = k4.next + 1 := by rw [← hk5]; rfl
        have g7 := (gP.new (.dfr true)).new (.loop l0)
        have hR : Rounds (ext N N []).length (.func (.yield (k5.next + 1)) #[] #[]) (MI fun acc g => MF (k5.next + 1) b.next k.next (k.next + 1) l0 j [Value.string c.name, .int .i64 c.pins, .int .u64 c.table, .int .i64 c.area, dv] b (bs ++ cellM tt N c.table j acc) g) := by
          refine MI.rounds (fun acc g g' hf hs => hf.mono hs) ?_
          intro K acc h8 h9 p pv w8 hK8 hF0 hgr hfresh hpl hml hs9
          have hF := hF0.mono (hide_mono hgr.sub)
          have w9 := hgr.wf
          have hK9 : ∀ C, K C → C < h9.next := fun C hC => Nat.lt_of_lt_of_le (hK8 C hC) hgr.nx
          have hlp9 := (hide_get.1 hF.lp)
          have hs9' := hs9
          refine ⟨l0, hlp9.2, by rw [q5]; rfl, by rw [q5, q3]; simp [put_n, hn], ?_⟩
          have t45 : (l0.act [pv]).tm 45 = pv := by simp [ALoop.act, q5]
          have tmo : ∀ i, i ≠ 45 → (l0.act [pv]).tm i = l0.tm i := fun i hi => by simp [ALoop.act, q5, hi]
          have ht4 := tmo 4 (by decide); have ht5 := tmo 5 (by decide); have ht10 := tmo 10 (by decide); have ht11 := tmo 11 (by decide); have ht12 := tmo 12 (by decide)
          rw [q4] at ht4 ht5 ht10 ht11 ht12
          simp (disch := first | omega | decide | (simp only [List.length_cons, List.length_nil] <;> omega)) only [push_cast, ↓reduceIte, Nat.reduceLT, Nat.reduceEqDiff, reduceCtorEq, Nat.reduceAdd, h34, h33, h32, h4, h5, h10] at ht4 ht5 ht10 ht11 ht12
          have hna : (l0.act [pv]).n = 65 := by simp [ALoop.act, q3, put_n, hn]
          have hda : (l0.act [pv]).df = [] := rfl
          show AW _ _ _ _ (l0.act [pv]) h9
          generalize l0.act [pv] = a9 at t45 ht4 ht5 ht10 ht11 ht12 hna hda ⊢
          rw [q6]
          refine wpA_sound _ _ _ _ ?_
          simp (disch := first | omega | decide | (simp only [List.length_cons, List.length_nil] <;> omega)) only [push_cast, ↓reduceIte, Nat.reduceLT, Nat.reduceEqDiff, reduceCtorEq, Nat.reduceAdd, hna, hda, t45, ht4, ht5, ht10, ht11, ht12]
          refine ⟨l0, hlp9.2, q1, ?_⟩
          have hs10 : SubC h9 (h9.set (k5.next + 1) (.loop { l0 with state := .busy })) := fun B o cs hB hc => by
            rw [AH.set_get, if_neg (by rintro rfl; rw [hlp9.2] at hB; cases hB; cases hc)]; exact hB
          have up : ∀ {B : Nat} {cs : List Value}, CsAt (hide K h9) B cs → CsAt (h9.set (k5.next + 1) (.loop { l0 with state := .busy })) B cs := fun ⟨o, x, y⟩ => ⟨o, hs10 _ _ _ (hide_sub _ _ _ _ x) y, y⟩
          have u4 := up (b4.sub hF.sub)
          have u5 := up (b5.sub hF.sub)
          have u11 := up hF.b11
          have u12 := up hF.b12
          have hcm := hok _ (getD_mem hj default)
          rw [hc0] at hcm
          have hpv := SlOf_subC hs9' hs10
          generalize hk10 : h9.set (k5.next + 1) (.loop { l0 with state := .busy }) = k10 at u4 u5 u11 u12 hpv ⊢
          rw [q7]
          refine wpA_sound _ _ _ _ ?_
          simp (disch := first | omega | decide | (simp only [List.length_cons, List.length_nil] <;> omega)) only [push_cast, ↓reduceIte, Nat.reduceLT, Nat.reduceEqDiff, reduceCtorEq, Nat.reduceAdd, hna, hda, t45, ht4, ht5, ht10, ht11, ht12, faL foC2, u12.ld flU, u5.ld fl3]
          refine ACall.mono ?_ (permuteN (n := N) hpv (by omega) hcm.1 hcm.2.1)
          have hEQ : (if validE c.table N = true ∧ permE p N = true then Value.tuple #[.int .u64 (permuteE c.table N p), .int .i64 0] else .tuple #[.int .u64 0, .int .i64 1]) = .tuple #[.int .u64 (if validE c.table N = true ∧ permE p N = true then permuteE c.table N p else 0), .int .i64 (if validE c.table N = true ∧ permE p N = true then 0 else 1)] := by split <;> rfl
          rintro _ k11 ⟨rfl, rfl⟩
          rw [hEQ]
          have hh : hitE c.table tt N p = decide ((if validE c.table N = true ∧ permE p N = true then permuteE c.table N p else 0) = tt) := rfl
          have hcell : cellM tt N c.table j (acc ++ [p]) = cellM tt N c.table j acc ++ (if hitE c.table tt N p = true then [((j : Int), p)] else []) := by
            unfold cellM
            rw [List.filter_append, List.map_append]
            by_cases hx : hitE c.table tt N p = true <;> simp [hx]
          rw [hcell, hh]
          generalize (if validE c.table N = true ∧ permE p N = true then permuteE c.table N p else 0) = X
          generalize (if validE c.table N = true ∧ permE p N = true then (0 : Int) else 1) = E
          simp (disch := first | omega | decide | (simp only [List.length_cons, List.length_nil] <;> omega)) only [push_cast, ↓reduceIte, Nat.reduceLT, Nat.reduceEqDiff, reduceCtorEq, Nat.reduceAdd, hna, hda, t45, ht4, ht5, ht10, ht11, ht12, u4.ld flU]
          refine condV_of (fun e => ?_) (fun e => ?_)
          · obtain ⟨rv', ob', A', hT0, hB0, hA'⟩ := hF0.tb
            have hT' := hide_mono hgr.sub _ _ hT0
            have hB' := hB0.sub (hide_mono hgr.sub)
            have hT9 := hide_sub _ _ _ _ hT'
            have hTk : k11.get b.next = some (.row [rv'] 67 true) := by rw [← hk10]; exact hs10 _ _ _ hT9 rfl
            have hpc : pv.cells.toList = [pv] ∧ oneC pv = true := by obtain ⟨p', l', c', rfl, _⟩ := hpv; exact ⟨rfl, rfl⟩
            have hL9 := AH.get_lt w9 hlp9.2
            have wk : WFH k11 := by rw [← hk10]; exact w9.set hL9 _
            have gD := (Gr.refl wk).new (.row [.int .i64 j, pv] 73 true)
            have hsrcN := srcNew (h := k11) (xs := [.int .i64 j, pv]) (e := 73) (sz := 2) rfl
            obtain ⟨zs, hV, hVg, hVe⟩ := hB'
            have hcl := cellM_le tt N c.table j acc
            have hel := ext_le hN4
            have hbld := aBuildM smB (by decide) k11 (xs := [.int .i64 j, pv]) rfl (by simp [hpc.2]; rfl)
            obtain ⟨r', k12, happ, ⟨A2, o2, hV2, hA2, hlo2⟩, frx, w12, n12⟩ := appendM (t := 67) (t2 := 67) smB ⟨_, Try.underlying67⟩ gD.wf hV (fun o e => gD.sub _ _ (by rw [← hk10, AH.set_get, if_neg (hA' o e).1]; exact hide_sub _ _ _ _ (hVg o e))) hsrcN (by decide) rfl (by rw [List.length_append]; omega) (by rw [List.length_append]; omega)
            simp (disch := first | omega | decide | (simp only [List.length_cons, List.length_nil] <;> omega)) only [push_cast, ↓reduceIte, Nat.reduceLT, Nat.reduceEqDiff, reduceCtorEq, Nat.reduceAdd, hna, hda, t45, ht4, ht5, ht10, ht11, ht12, ldL (P := Try.prog) hTk rfl flB, u11.ld fl3, buildB hpc.1, hbld, happ]
            have hTk12 : k12.get b.next = some (.row [rv'] 67 true) := frx _ _ (gD.sub _ _ hTk) (fun hx => by
              cases hob : ob' with
              | none => rfl
              | some o => exact absurd hx.symm (hA' o hob).2.1)
            have hst := stC szB hTk12 0 r' (by simp) hV2.one.2 hV2.one.1
            have hLk12 : k12.get (k5.next + 1) = some (.loop { l0 with state := .busy }) := frx _ _ (gD.sub _ _ (by rw [← hk10, AH.set_get, if_pos rfl])) (fun hx => by
              cases hob : ob' with
              | none => rfl
              | some o => exact absurd hx.symm (hA' o hob).1)
            have hb2 : ({ ({ l0 with state := .busy } : ALoop) with state := .ready, pending := none } : ALoop) = l0 := by
              cases l0; simp only at q1 q2; subst q1; subst q2; rfl
            have hTb9 := AH.get_lt w9 hT9
            simp (disch := first | omega | decide | (simp only [List.length_cons, List.length_nil] <;> omega)) only [push_cast, ↓reduceIte, Nat.reduceLT, Nat.reduceEqDiff, reduceCtorEq, Nat.reduceAdd, hna, hda, hst]
            refine ⟨_, by rw [AH.set_get, if_neg (by omega)]; exact hLk12, ?_⟩
            rw [hb2]
            have hKL : ¬ K (k5.next + 1) := (hide_get.1 hF.lp).1
            have hKT : ¬ K b.next := (hide_get.1 hT').1
            have hne : k5.next + 1 ≠ b.next := by omega
            have hall : ∀ B o, h9.get B = some o → B ≠ b.next → B ≠ k5.next + 1 → (B = A' → ob' = none) → ((k12.set b.next (.row ([rv'].set 0 r') 67 true)).set (k5.next + 1) (.loop l0)).get B = some o := fun B o hB h1 h2 h3 => by
              rw [AH.set_get, if_neg h2, AH.set_get, if_neg h1]
              exact frx _ _ (gD.sub _ _ (by rw [← hk10, AH.set_get, if_neg h2]; exact hB)) h3
            have hh : ∀ B o, (hide K h9).get B = some o → B ≠ b.next → B ≠ k5.next + 1 → (B = A' → ob' = none) → (hide K ((k12.set b.next (.row ([rv'].set 0 r') 67 true)).set (k5.next + 1) (.loop l0))).get B = some o := fun B o hB h1 h2 h3 =>
              hide_get.2 ⟨(hide_get.1 hB).1, hall B o (hide_get.1 hB).2 h1 h2 h3⟩
            have hgt : k5.next + 1 < h9.next := hL9
            have hget13 : ((k12.set b.next (.row ([rv'].set 0 r') 67 true)).set (k5.next + 1) (.loop l0)).get (k5.next + 1) = some (.loop l0) := by rw [AH.set_get, if_pos rfl]
            refine ⟨rfl, ⟨hide_get.2 ⟨hKL, hget13⟩, ?_, ?_, ?_, ?_⟩, ?_, ?_, ?_⟩
            · obtain ⟨o, x, y⟩ := hF.b11
              exact ⟨o, hh _ _ x (by omega) (by omega) (fun hx => by cases hob : ob' with | none => rfl | some o2 => exact absurd hx.symm (hA' o2 hob).2.2.1), y⟩
            · obtain ⟨o, x, y⟩ := hF.b12
              exact ⟨o, hh _ _ x (by omega) (by omega) (fun hx => by cases hob : ob' with | none => rfl | some o2 => exact absurd hx.symm (hA' o2 hob).2.2.2.1), y⟩
            · intro B o hB
              have := AH.get_lt wb hB
              exact hh _ _ (hF.sub B o hB) (by omega) (by omega) (fun hx => by cases hob : ob' with | none => rfl | some o2 => have := (hA' o2 hob).2.2.2.2; omega)
            · have hk11n : k11.next = h9.next := by rw [← hk10]; rfl
              have hlo3 : h9.next + 1 ≤ A2 := by simpa [hk11n] using hlo2
              have hKA2 : ¬ K A2 := fun hK => by have := hK9 _ hK; omega
              have hTlt := AH.get_lt w9 hT9
              have hgA2 : (hide K ((k12.set b.next (.row ([rv'].set 0 r') 67 true)).set (k5.next + 1) (.loop l0))).get A2 = some o2 := hide_get.2 ⟨hKA2, by rw [AH.set_get, if_neg (by omega), AH.set_get, if_neg (by omega)]; exact hA2⟩
              refine ⟨r', some o2, A2, hide_get.2 ⟨hKT, by rw [AH.set_get, if_neg (by omega), AH.set_get, if_pos rfl]; rfl⟩, ⟨zs ++ [.int .i64 j, pv], by simpa [e, Nat.add_assoc] using hV2, fun o ho => by cases ho; exact hgA2, fun i x hx => ?_⟩, fun o ho => by omega⟩
              rw [if_pos e, ← List.append_assoc] at hx
              have hzl : zs.length = (bs ++ cellM tt N c.table j acc).length * 2 := hV.1
              have hLnc : ∀ B o cs, h9.get B = some o → o.cells? = some cs → B ≠ k5.next + 1 := fun B o cs hB hc => by
                rintro rfl; rw [hlp9.2] at hB; cases hB; cases hc
              by_cases hi : i < (bs ++ cellM tt N c.table j acc).length
              · rw [List.getElem?_append_left hi] at hx
                obtain ⟨pv2, e2, hs2⟩ := hVe i x hx
                refine ⟨pv2, ?_, ?_⟩
                · rw [List.drop_append_of_le_length (by omega), List.take_append_of_le_length (by rw [List.length_drop]; omega)]; exact e2
                · refine SlOf_subC hs2 (fun B o cs hB hc => ?_)
                  obtain ⟨hn1, hB1⟩ := hide_get.1 hB
                  have hB9 := (hide_get.1 hB1).2
                  have := AH.get_lt w9 hB9
                  refine hide_get.2 ⟨?_, hh _ _ hB1 (fun hx => hn1 (.inl hx)) (hLnc _ _ _ hB9 hc) (fun hx => absurd (.inr hx) hn1)⟩
                  rintro (hx | hx)
                  · exact hn1 (.inl hx)
                  · omega
              · rw [List.getElem?_append_right (by omega)] at hx
                have hi0 : i = (bs ++ cellM tt N c.table j acc).length := by
                  have := (List.getElem?_eq_some_iff.1 hx).1
                  simp only [List.length_cons, List.length_nil] at this; omega
                rw [hi0, Nat.sub_self] at hx
                cases hx
                have hT8 := AH.get_lt w8 (hide_sub _ _ _ _ hT0)
                refine ⟨pv, ?_, ?_⟩
                · rw [hi0, ← hzl, List.drop_left]; rfl
                · refine SlOf_subC (SlOf_hide (K := fun C => C < h8.next) hs9 (fun C off l' c' ee hC => by have := hfresh C off l' c' ee; omega)) (fun B o cs hB hc => ?_)
                  obtain ⟨hn1, hB9⟩ := hide_get.1 hB
                  have := AH.get_lt w9 hB9
                  have hnK : ¬ K B := fun hK => by have := hK8 B hK; omega
                  refine hide_get.2 ⟨?_, hh _ _ (hide_get.2 ⟨hnK, hB9⟩) (by omega) (hLnc _ _ _ hB9 hc) (fun hx => ?_)⟩
                  · rintro (hx | hx) <;> omega
                  · cases hob : ob' with
                    | none => rfl
                    | some o2 =>
                      obtain ⟨zs0, hV0, hg0, -⟩ := hB0
                      have := AH.get_lt w8 (hide_sub _ _ _ _ (hg0 o2 hob))
                      omega
            · exact (w12.set (AH.get_lt w12 hTk12) _).set (by simpa using AH.get_lt w12 hLk12) _
            · have hk11n : k11.next = h9.next := by rw [← hk10]; rfl
              simp only [AH.new_next] at n12
              simp only [AH.set_next]
              omega
            · exact fun B o hK hB => hall B o hB (by rintro rfl; exact hKT hK) (by rintro rfl; exact hKL hK) (fun hx => by
                cases hob : ob' with
                | none => rfl
                | some o2 => subst hx; exact absurd hK (hide_get.1 (hVg o2 hob)).1)
          · simp (disch := first | omega | decide | (simp only [List.length_cons, List.length_nil] <;> omega)) only [push_cast, ↓reduceIte, Nat.reduceLT, Nat.reduceEqDiff, reduceCtorEq, Nat.reduceAdd, hna, hda, e]
            have hb2 : ({ ({ l0 with state := .busy } : ALoop) with state := .ready, pending := none } : ALoop) = l0 := by
              cases l0; simp only at q1 q2; subst q1; subst q2; rfl
            refine ⟨_, by rw [← hk10, AH.set_get, if_pos rfl], ?_⟩
            rw [hb2]
            have hall : ∀ B o, h9.get B = some o → (k11.set (k5.next + 1) (.loop l0)).get B = some o := fun B o hB => by
              rw [AH.set_get]
              split
              · rename_i hBL; subst hBL; rw [hlp9.2] at hB; exact hB
              · rename_i hBL; rw [← hk10, AH.set_get, if_neg hBL]; exact hB
            have hL9 := AH.get_lt w9 hlp9.2
            refine ⟨rfl, ?_, ?_, ?_, fun B o _ hB => hall B o hB⟩
            · exact hF.mono (fun B o hB => hide_get.2 ⟨(hide_get.1 hB).1, hall B o (hide_get.1 hB).2⟩)
            · rw [← hk10]; exact (w9.set hL9 _).set (by simpa using hL9) _
            · rw [← hk10]; simp
        have hDk : ∀ d ∈ D, d < k.next := fun d hd => AH.get_lt hg.wf (hD d hd).1
        have hk4n : k.next + 2 ≤ k4.next := by
          obtain ⟨o, x, _⟩ := c12
          have := AH.get_lt g4.wf x; omega
        have g47 : Sub k4 ((k5.new (.dfr true)).new (.loop l0)) := g7.sub
        have hkeep : ∀ B o, k4.get B = some o → B ∉ D → (hide (fun C => C = k4.next ∨ C ∈ D ∨ C = k5.next) ((k5.new (.dfr true)).new (.loop l0))).get B = some o := fun B o hB hn => by
          have := AH.get_lt g4.wf hB
          exact hide_get.2 ⟨by rintro (h | h | h); omega; exact hn h; omega, g47 _ _ hB⟩
        have hsc : SubC k (hide (fun C => C = k4.next ∨ C ∈ D ∨ C = k5.next) ((k5.new (.dfr true)).new (.loop l0))) := fun B o cs hB hc => hkeep B o (g4.sub _ _ hB) (fun hm => by have := (hD B hm).1; rw [hB] at this; cases this; cases hc)
        have hAlt : ∀ o, ob = some o → A < k.next := fun o e => by obtain ⟨zs, _, h2, _⟩ := hbs; exact AH.get_lt hg.wf (h2 o e)
        refine ACall.mono ?_ (orders1 (N := N) (P1 := k4.next) (K := fun C => C = k4.next ∨ C ∈ D ∨ C = k5.next) (by omega) ?_ rfl rfl hR ?_ (.inl rfl) ?_)
        · rintro r k8 ⟨⟨w8', hK8, hMF⟩, w8, n8, hkp⟩
          have hlp := hide_get.1 hMF.lp
          refine ⟨l0, hlp.2, by rw [q1]; decide, ?_⟩
          rw [q2]
          obtain ⟨rv', ob', A', hT', hB', hA'⟩ := hMF.tb
          have hTb8 := hide_sub _ _ _ _ hT'
          have gb8 : Gr b k8 := ⟨w8, fun B o hB => hide_sub _ _ _ _ (hMF.sub B o hB), Nat.le_trans (hg.trans g4).nx (Nat.le_trans g7.nx n8)⟩
          have hL8 : k5.next + 1 < k8.next := AH.get_lt w8 hlp.2
          simp (disch := first | omega | decide | (simp only [List.length_cons, List.length_nil] <;> omega)) only [push_cast, ↓reduceIte, Nat.reduceLT, Nat.reduceEqDiff, reduceCtorEq, Nat.reduceAdd, hn, hd, h34, h33, h32, h4, h5, h10, hw]
          refine ⟨m - 1, by omega, j + 1, k5.next :: D, _, rv', ob', A', by simp (disch := first | omega | decide | (simp only [List.length_cons, List.length_nil] <;> omega)) only [push_cast, ↓reduceIte, Nat.reduceLT, Nat.reduceEqDiff, reduceCtorEq, Nat.reduceAdd, hn], by simp (disch := first | omega | decide | (simp only [List.length_cons, List.length_nil] <;> omega)) only [push_cast, ↓reduceIte, Nat.reduceLT, Nat.reduceEqDiff, reduceCtorEq, Nat.reduceAdd, hd], by simp (disch := first | omega | decide | (simp only [List.length_cons, List.length_nil] <;> omega)) only [push_cast, ↓reduceIte, Nat.reduceLT, Nat.reduceEqDiff, reduceCtorEq, Nat.reduceAdd], by simp (disch := first | omega | decide | (simp only [List.length_cons, List.length_nil] <;> omega)) only [push_cast, ↓reduceIte, Nat.reduceLT, Nat.reduceEqDiff, reduceCtorEq, Nat.reduceAdd, h33], by simp (disch := first | omega | decide | (simp only [List.length_cons, List.length_nil] <;> omega)) only [push_cast, ↓reduceIte, Nat.reduceLT, Nat.reduceEqDiff, reduceCtorEq, Nat.reduceAdd, h32], by simp (disch := first | omega | decide | (simp only [List.length_cons, List.length_nil] <;> omega)) only [push_cast, ↓reduceIte, Nat.reduceLT, Nat.reduceEqDiff, reduceCtorEq, Nat.reduceAdd, h4], by simp (disch := first | omega | decide | (simp only [List.length_cons, List.length_nil] <;> omega)) only [push_cast, ↓reduceIte, Nat.reduceLT, Nat.reduceEqDiff, reduceCtorEq, Nat.reduceAdd, h5], by simp (disch := first | omega | decide | (simp only [List.length_cons, List.length_nil] <;> omega)) only [push_cast, ↓reduceIte, Nat.reduceLT, Nat.reduceEqDiff, reduceCtorEq, Nat.reduceAdd, h10], by omega, gb8.set wb (by omega) hL8 _, ?_, ?_, ?_, hgo, ?_, ?_, ?_⟩
          · rw [AH.set_get, if_neg (by omega)]; exact hTb8
          · refine (hB'.sub (hide_sub _ _)).subC (fun B o cs hB hc => ?_)
            rw [AH.set_get, if_neg (by rintro rfl; rw [hlp.2] at hB; cases hB; cases hc)]; exact hB
          · intro o e
            have := hA' o e
            omega
          · intro d hd
            rcases List.mem_cons.1 hd with rfl | hd
            · refine ⟨?_, by omega⟩
              rw [AH.set_get, if_neg (by omega)]
              exact hkp _ _ (.inr (.inr rfl)) (by rw [AH.new_get, if_neg (by simp), AH.new_get, if_pos rfl])
            · have hdk := hDk d hd
              refine ⟨?_, (hD d hd).2⟩
              rw [AH.set_get, if_neg (by omega)]
              exact hkp _ _ (.inr (.inl hd)) (g47 _ _ (g4.sub _ _ (hD d hd).1))
          · exact List.nodup_cons.2 ⟨fun hm => by have := hDk _ hm; omega, hDn⟩
          · have := cellM_le tt N c.table j (ext N N [])
            have := ext_le hN4
            rw [List.length_append]; omega
        · exact cP.sub (Sub.trans (Sub.new gP.wf _) (Sub.new (gP.wf.new _) _))
        · refine ⟨g7.wf, ?_, ?_⟩
          · rintro C (rfl | h | rfl)
            · simp; omega
            · have := hDk C h; simp; omega
            · simp; omega
          · refine ⟨hide_get.2 ⟨?_, by rw [AH.new_get, if_pos (by simp)]⟩, ?_, ?_, ?_, ?_⟩
            · rintro (h | h | h)
              · omega
              · have := hDk _ h; omega
              · omega
            · obtain ⟨o, x, y⟩ := c11
              exact ⟨o, hkeep _ _ x (fun h => by have := hDk _ h; omega), y⟩
            · obtain ⟨o, x, y⟩ := c12
              exact ⟨o, hkeep _ _ x (fun h => by have := hDk _ h; omega), y⟩
            · intro B o hB
              have := AH.get_lt wb hB
              exact hkeep _ _ (g4.sub _ _ (hg.sub _ _ hB)) (fun h => by have := (hD _ h).2; omega)
            · refine ⟨rv, ob, A, hkeep _ _ (g4.sub _ _ hTb) (fun h => by have := (hD _ h).2; omega), by simpa [cellM] using hbs.subC hsc, fun o e => ?_⟩
              have := hA o e
              have := hAlt o e
              omega
        · rintro C (rfl | h | rfl)
          · simp; omega
          · have := hDk C h; simp; omega
          · simp; omega
    · have hj : j = l.length := by have := hge; simp at this; omega
      subst hj
      rw [List.drop_length, matchGo, List.append_nil] at hgo
      obtain ⟨h', ec, en, ew, eg⟩ := closeMarks_ok D k hg.wf (fun d hd => (hD d hd).1) hDn
      have hlT := ldL (P := Try.prog) hTb rfl flB 0 (by simp)
      simp (disch := first | omega | decide | (simp only [List.length_cons, List.length_nil] <;> omega)) only [push_cast, ↓reduceIte, Nat.reduceLT, Nat.reduceEqDiff, reduceCtorEq, Nat.reduceAdd, hn, hd, h34, h33, h32, h4, h5, h10, hlT, ec]
      have hsc : SubC k h' := fun B o cs hB hc => by
        rw [eg B (fun hm => by have := (hD B hm).1; rw [hB] at this; cases this; cases hc)]; exact hB
      refine ⟨g2.trans ⟨ew, fun B o hB => ?_, by rw [en]; exact hg.nx⟩, rv, rfl, ob, A, by rw [← hgo]; exact hbs.v.subC hsc⟩
      have := AH.get_lt wb hB
      rw [eg B (fun hm => by have := (hD B hm).2; omega)]; exact hg.sub _ _ hB


/-- A role's block. -/
def Own (nm : Nat → Nat) (ob : Nat → Option AObj) : Nat → Prop := fun C => ∃ r, ob r ≠ none ∧ nm r = C

variable {b h h' : AH} {nm : Nat → Nat} {ob : Nat → Option AObj}

theorem ownLt (ho : _root_.Go.Ab.Owns b h nm ob) {C : Nat} (hC : Own nm ob C) : C < h.next := by
  obtain ⟨r, hr, rfl⟩ := hC
  cases hx : ob r with
  | none => exact absurd hx hr
  | some p => exact AH.get_lt ho.gr.wf (ho.get r p hx)

/-- A role's block turned, or laid anew: what lies beside one's own stays. -/
theorem ownUp (w0 : WFH b) (ho : _root_.Go.Ab.Owns b h nm ob) {r A' : Nat} {o' : AObj} (hg : h'.get A' = some o') (hA : (A' = nm r ∧ ob r ≠ none) ∨ h.next ≤ A')
    (frx : ∀ B o, h.get B = some o → (B = nm r → ob r = none) → h'.get B = some o) (wf : WFH h') (nx : h.next ≤ h'.next) :
    _root_.Go.Ab.Owns b h' (upd nm r A') (upd ob r (some o')) ∧ Sub (hide (Own nm ob) h) (hide (Own (upd nm r A') (upd ob r (some o'))) h') := by
  refine ⟨ho.up w0 hg hA frx wf nx, fun B o hB => ?_⟩
  obtain ⟨hn, hB⟩ := hide_get.1 hB
  refine hide_get.2 ⟨?_, frx B o hB (fun e => ?_)⟩
  · rintro ⟨s, hs, e⟩
    by_cases hsr : s = r
    · subst hsr
      rw [upd_same] at e
      subst e
      rcases hA with ⟨e1, e2⟩ | hA
      · exact hn ⟨s, e2, e1.symm⟩
      · have := AH.get_lt ho.gr.wf hB; omega
    · rw [upd_ne _ _ hsr] at e hs
      exact hn ⟨s, hs, e⟩
  · cases hr : ob r with
    | none => rfl
    | some p => exact absurd ⟨r, by rw [hr]; simp, e.symm⟩ hn

theorem ownGrown (ho : _root_.Go.Ab.Owns b h nm ob) (g : Gr h h') : _root_.Go.Ab.Owns b h' nm ob ∧ Sub (hide (Own nm ob) h) (hide (Own nm ob) h') := ⟨ho.grown g, hide_mono g.sub⟩

/-- One's own row of structs, appended to by one. -/
theorem ownPush {t e : TypeId} {sz B : Nat} (ht : SlM Try.prog t e sz B) (hs : sz ≤ 16777216) (w0 : WFH b) (ho : _root_.Go.Ab.Owns b h nm ob) {r n : Nat} {v : Value} {zs xs : List Value} (hv : VecM sz e v (ob r) (nm r) n zs)
    (hx : xs.length = sz) (hone : xs.all oneC = true) (hb : (2 * (n + 1) + 192) * B ≤ 281474976710656) (hm : n + 1 < 4611686018427387904) :
    aBuildSlice Try.prog t 1 [(0, .agg xs.toArray)] h = some (.slice (some ⟨h.next, 0, none⟩) 1 1, h.new (.row xs e true)) ∧
    ∃ v' h' A' o', aAppend Try.prog #[t, t] v (.slice (some ⟨h.next, 0, none⟩) 1 1) (h.new (.row xs e true)) = some (v', h') ∧ VecM sz e v' (some o') A' (n + 1) (zs ++ xs) ∧
      _root_.Go.Ab.Owns b h' (upd nm r A') (upd ob r (some o')) ∧ Sub (hide (Own nm ob) h) (hide (Own (upd nm r A') (upd ob r (some o'))) h') ∧ h.next ≤ h'.next := by
  refine ⟨aBuildM ht hs h hx hone, ?_⟩
  have g1 := (Gr.refl ho.gr.wf).new (.row xs e true)
  obtain ⟨o1, s1⟩ := ownGrown ho g1
  obtain ⟨v', h', happ, ⟨A', o', hV, hA, hlo⟩, frx, w', n'⟩ := appendM (t := t) (t2 := t) ht ⟨_, ht.sl⟩ g1.wf hv (fun o e => o1.get r o e) (srcNew hx) (by decide) (by omega) hb hm
  obtain ⟨o2, s2⟩ := ownUp (r := r) w0 o1 hA (.inr hlo) frx w' n'
  exact ⟨v', h', A', o', happ, hV, o2, s1.trans s2, Nat.le_trans g1.nx n'⟩

end Go.Ab.S1
