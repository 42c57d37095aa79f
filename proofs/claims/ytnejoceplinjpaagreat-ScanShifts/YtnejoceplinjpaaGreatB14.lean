/- The values of the scanned netlist, plainly. netlabref20.Bits. netlablaw31.ScanTransparent and ScanShifts: what they append and compare. netlablaw31.ScanShifts on the abstract heap. The examples of the chapter hold: netlablaw31.awake returns true, evaluated. -/
import Derived.Test.YtnejoceplinjpaaGreatB13
import Derived.Test.YtnejoceplinjpaaGreatProg
import Derived.KernelRfl
set_option linter.unusedSimpArgs false
set_option linter.unusedVariables false
namespace Go.Ab.S1
open Go.Proofs

/-! ### The multiplexer -/

def rows8 (b0 b1 b2 b3 b4 b5 b6 b7 : Bool) : Int :=
  let a0 : Int := if b0 = true then orE .u64 0 (shlE .u64 0) else 0
  let a1 := if b1 = true then orE .u64 a0 (shlE .u64 1) else a0
  let a2 := if b2 = true then orE .u64 a1 (shlE .u64 2) else a1
  let a3 := if b3 = true then orE .u64 a2 (shlE .u64 3) else a2
  let a4 := if b4 = true then orE .u64 a3 (shlE .u64 4) else a3
  let a5 := if b5 = true then orE .u64 a4 (shlE .u64 5) else a4
  let a6 := if b6 = true then orE .u64 a5 (shlE .u64 6) else a5
  if b7 = true then orE .u64 a6 (shlE .u64 7) else a6

theorem permute8 (t : Int) (p : List Int) : permuteE t 3 p = rows8 (evalE t (idxGo 0 0 0 p)) (evalE t (idxGo 1 0 0 p)) (evalE t (idxGo 2 0 0 p)) (evalE t (idxGo 3 0 0 p)) (evalE t (idxGo 4 0 0 p)) (evalE t (idxGo 5 0 0 p)) (evalE t (idxGo 6 0 0 p)) (evalE t (idxGo 7 0 0 p)) := rfl

theorem rows8_202 : ∀ b0 b1 b2 b3 b4 b5 b6 b7 : Bool, rows8 b0 b1 b2 b3 b4 b5 b6 b7 = 202 → b0 = false ∧ b1 = true ∧ b2 = false ∧ b3 = true ∧ b4 = false ∧ b5 = false ∧ b6 = true ∧ b7 = true := by
  intro b0 b1 b2 b3 b4 b5 b6 b7
  cases b0 <;> cases b1 <;> cases b2 <;> cases b3 <;> cases b4 <;> cases b5 <;> cases b6 <;> cases b7 <;> decide

def kb (x y z : Bool) : Int :=
  let a0 : Int := if x = true then orE .i64 0 (shlE .i64 0) else 0
  let a1 := if y = true then orE .i64 a0 (shlE .i64 1) else a0
  if z = true then orE .i64 a1 (shlE .i64 2) else a1

theorem kGo3 (V : List Bool) (a b c : Int) : kGo V 0 0 [a, b, c] = kb (ofE V a) (ofE V b) (ofE V c) := rfl

theorem ext33 : ext 3 3 [] = [[0, 1, 2], [0, 2, 1], [1, 0, 2], [1, 2, 0], [2, 0, 1], [2, 1, 0]] := by decide

theorem muxVal {t : Int} {p : List Int} (hp : p ∈ ext 3 3 []) (hh : hitE t 202 3 p = true) (V : List Bool) (q0 q1 q2 : Int) :
    evalE t (kGo V 0 0 (p.map fun k => [q0, q1, q2].getD k.toNat 0)) = if ofE V q2 = true then ofE V q1 else ofE V q0 := by
  have hpm : permuteE t 3 p = 202 := by
    simp only [hitE, decide_eq_true_eq] at hh
    split at hh
    · exact hh
    · cases hh
  rw [permute8] at hpm
  obtain ⟨h0, h1, h2, h3, h4, h5, h6, h7⟩ := rows8_202 _ _ _ _ _ _ _ _ hpm
  clear hpm hh
  rw [ext33] at hp
  simp only [List.mem_cons, List.not_mem_nil, or_false] at hp
  rcases hp with rfl | rfl | rfl | rfl | rfl | rfl
  all_goals
    simp only [List.map_cons, List.map_nil]
    rw [kGo3]
    simp only [show Int.toNat 0 = 0 from rfl, show Int.toNat 1 = 1 from rfl, show Int.toNat 2 = 2 from rfl, List.getD_cons_zero, List.getD_cons_succ]
    generalize ofE V q0 = b0
    generalize ofE V q1 = b1
    generalize ofE V q2 = b2
    cases b0 <;> cases b1 <;> cases b2
    all_goals first
      | exact (congrArg (evalE t) (by decide)).trans h0
      | exact (congrArg (evalE t) (by decide)).trans h1
      | exact (congrArg (evalE t) (by decide)).trans h2
      | exact (congrArg (evalE t) (by decide)).trans h3
      | exact (congrArg (evalE t) (by decide)).trans h4
      | exact (congrArg (evalE t) (by decide)).trans h5
      | exact (congrArg (evalE t) (by decide)).trans h6
      | exact (congrArg (evalE t) (by decide)).trans h7

/-! ### The steps, one by one -/

theorem insGo_prefix (n : Net) : ∀ (ord : List Int) (s : Int × Net), ∃ l, (ord.foldl (insStep n) s).2.insts = s.2.insts ++ l := by
  intro ord
  induction ord with
  | nil => intro s; exact ⟨[], by simp⟩
  | cons i is ih =>
    intro s
    obtain ⟨l, hl⟩ := ih (insStep n s i)
    exact ⟨[insInst n s i] ++ l, by rw [List.foldl_cons, hl]; simp [insStep]⟩

theorem insGo_flop (n : Net) {j : Nat} : ∀ (ord : List Int) (s : Int × Net), (∀ z ∈ ord, z.toNat ≠ j) → (ord.foldl (insStep n) s).2.flops.getD j default = s.2.flops.getD j default := by
  intro ord
  induction ord with
  | nil => intro s _; rfl
  | cons i is ih =>
    intro s h
    rw [List.foldl_cons, ih _ (fun z hz => h z (List.mem_cons_of_mem _ hz))]
    show (s.2.flops.set i.toNat _).getD j default = _
    rw [List.getD_eq_getElem?_getD, List.getElem?_set_ne (h i (List.mem_cons_self ..)), List.getD_eq_getElem?_getD]

def insAt (n : Net) (ord : List Int) (k : Nat) : Int × Net := (ord.take k).foldl (insStep n) (n.inputs + 1, insBase n)

theorem insAt_succ {n : Net} {ord : List Int} {k : Nat} (hk : k < ord.length) : insAt n ord (k + 1) = insStep n (insAt n ord k) (ord.getD k 0) := by
  unfold insAt
  rw [take_succ_getD hk 0, List.foldl_append]; rfl

theorem insAt_go {n : Net} {ord : List Int} (k : Nat) : insGo n ord = (ord.drop k).foldl (insStep n) (insAt n ord k) := by
  unfold insGo insAt
  rw [← List.foldl_append, List.take_append_drop]

section
variable {n : Net} {ord : List Int}

theorem insAt_k (o : InsOK n ord) {k : Nat} (hk : k ≤ ord.length) : InsK n k (insAt n ord k) := by
  have s := ShapeOK.of (netE_zero.1 o.net).1
  have hp := pick3_ok o.found
  have := InsK.go s hp.2.2.2.1 hp.2.2.2.2 (ord.take k) (InsK.start s) (fun z hz => by obtain ⟨i, hi, rfl⟩ := o.perm.range (List.mem_of_mem_take hz); have := o.len; omega)
  rw [Nat.zero_add, List.length_take, Nat.min_eq_left hk] at this
  exact this

theorem insAt_before (k : Nat) (hk : k ≤ ord.length) : (insAt n ord k).1 = if k = 0 then n.inputs + 1 else n.inputs + 2 + ord.getD (k - 1) 0 := by
  cases k with
  | zero => rfl
  | succ k => rw [insAt_succ (by omega)]; simp [insStep]

theorem insN_inst (o : InsOK n ord) {k : Nat} (hk : k < ord.length) : (insN n ord).insts.getD (n.insts.length + k) default = insInst n (insAt n ord k) (ord.getD k 0) := by
  have hK := insAt_k o (k := k) (by omega)
  show (insGo n ord).2.insts.getD _ _ = _
  rw [insAt_go (k + 1)]
  obtain ⟨l, hl⟩ := insGo_prefix n (ord.drop (k + 1)) (insAt n ord (k + 1))
  rw [hl, insAt_succ hk]
  show ((insAt n ord k).2.insts ++ [_] ++ l).getD _ _ = _
  rw [List.append_assoc, List.getD_eq_getElem?_getD, List.getElem?_append_right (by rw [hK.il]; omega), hK.il, Nat.sub_self]
  rfl

theorem insN_next (o : InsOK n ord) {k : Nat} (hk : k < ord.length) : ((insN n ord).flops.getD (ord.getD k 0).toNat default).next = firstE n + 2 + n.insts.length + k := by
  have hK := insAt_k o (k := k) (by omega)
  have hz : ord[k]? = some (ord.getD k 0) := by simp [List.getD_eq_getElem?_getD, List.getElem?_eq_getElem hk]
  obtain ⟨i0, hi0, e0⟩ := o.perm.range (List.mem_of_getElem? hz)
  have hlen := o.len
  show ((insGo n ord).2.flops.getD _ _).next = _
  rw [insAt_go (k + 1), insGo_flop n _ _ (fun z hzm e => by
    obtain ⟨q, hq, e2⟩ := List.getElem_of_mem hzm
    rw [List.getElem_drop] at e2
    have hql : k + 1 + q < ord.length := by rw [List.length_drop] at hq; omega
    obtain ⟨i1, hi1, e1⟩ := o.perm.range (List.mem_of_mem_drop hzm)
    have e3 : ord[k + 1 + q]? = some (ord.getD k 0) := by
      rw [List.getElem?_eq_getElem hql, e2]; congr 1; omega
    have := (List.getElem?_inj hql o.perm.nodup).1 (e3.trans hz.symm)
    omega), insAt_succ hk]
  show (((insAt n ord k).2.flops.set (ord.getD k 0).toNat (insFlop n (insAt n ord k).2 (ord.getD k 0))).getD _ _).next = _
  rw [List.getD_eq_getElem?_getD, List.getElem?_set_self (by rw [hK.fl]; omega)]
  show n.inputs + 2 + ((insAt n ord k).2.flops.length : Int) + (insAt n ord k).2.insts.length = _
  rw [hK.fl, hK.il]; unfold firstE; omega

/-! ### The values -/

def prevE (ys : List Bool) (ord : List Int) (si : Bool) (k : Nat) : Bool := if k = 0 then si else ys.getD (ord.getD (k - 1) 0).toNat false

theorem kGo_map {V W : List Bool} {f : Int → Int} : ∀ (ps : List Int) (acc : Int) (j : Nat), (∀ p ∈ ps, ofE V (f p) = ofE W p) → kGo V acc j (ps.map f) = kGo W acc j ps := by
  intro ps
  induction ps with
  | nil => intro acc j _; rfl
  | cons p ps ih =>
    intro acc j h
    rw [List.map_cons, kGo, kGo, h p (List.mem_cons_self ..), ih _ _ (fun q hq => h q (List.mem_cons_of_mem _ hq))]

theorem scanVals (o : InsOK n ord) {xs ys V W : List Bool} {en si : Bool} (hx : (xs.length : Int) = n.inputs) (hy : ys.length = n.flops.length) (hV : IsVals n xs ys V) (hW : IsVals (insN n ord) (xs ++ [en, si]) ys W) :
    (∀ p, -2 ≤ p ∧ p < firstE n + n.insts.length → ofE W (shiftE n p) = ofE V p) ∧
    (∀ k, k < ord.length → ofE W ((insN n ord).flops.getD (ord.getD k 0).toNat default).next = if en = true then prevE ys ord si k else ofE V (n.flops.getD (ord.getD k 0).toNat default).next) ∧
    ofE W (insGo n ord).1 = prevE ys ord si ord.length := by
  have s := ShapeOK.of (netE_zero.1 o.net).1
  have hi0 := s.i0
  have hFe : firstE n = n.inputs + n.flops.length := rfl
  have hFm := insN_first o
  have hlm := insN_len o
  have hcm : (insN n ord).cells = n.cells := o.k.cells
  have hol := o.len
  -- the old nets
  have hlow : ∀ i, i < xs.length + 2 + ys.length → W.getD i false = (xs ++ [en, si] ++ ys).getD i false := fun i hi => hW.inp i (by simp; omega)
  let U : List Bool := (xs ++ ys) ++ (W.drop (firstE n + 2).toNat).take n.insts.length
  have hWl := hW.len
  simp only [List.length_append, List.length_cons, List.length_nil] at hWl
  have hUh : ∀ i, i < n.insts.length → U.getD ((firstE n).toNat + i) false = W.getD ((firstE n + 2).toNat + i) false := by
    intro i hi
    show ((xs ++ ys) ++ _).getD _ _ = _
    rw [List.getD_eq_getElem?_getD, List.getElem?_append_right (by simp; omega), List.getElem?_take, if_pos (by simp; omega), List.getElem?_drop, List.getD_eq_getElem?_getD]
    congr 2; simp; omega
  have hUl : ∀ i, i < xs.length + ys.length → U.getD i false = (xs ++ ys).getD i false := by
    intro i hi
    show ((xs ++ ys) ++ _).getD _ _ = _
    rw [List.getD_eq_getElem?_getD, List.getElem?_append_left (by simpa using hi), List.getD_eq_getElem?_getD]
  have hsh : ∀ p, -2 ≤ p ∧ p < firstE n + n.insts.length → ofE W (shiftE n p) = ofE U p := by
    intro p hp
    rw [shiftE_eq s hp]
    by_cases hpi : p ≥ n.inputs
    · rw [if_pos hpi]
      by_cases hpF : p < firstE n
      · have e1 : ¬ p = -2 := by omega
        have e2 : ¬ p + 2 = -2 := by omega
        have e3 : 0 ≤ p := by omega
        have e4 : 0 ≤ p + 2 := by omega
        simp only [ofE, e1, e2, e3, e4, decide_false, decide_true, Bool.false_or, Bool.true_and]
        rw [hlow _ (by omega), hUl _ (by omega), List.getD_eq_getElem?_getD, List.getElem?_append_right (by simp; omega), List.getD_eq_getElem?_getD, List.getElem?_append_right (by omega)]
        congr 2; simp; omega
      · rw [ofE_high (V := W) (F := firstE n + 2) (by omega) (by omega), ofE_high (V := U) (F := firstE n) (by omega) (by omega), hUh _ (by omega)]
        congr 2; omega
    · rw [if_neg hpi]
      unfold ofE
      by_cases h0 : 0 ≤ p
      · rw [hlow _ (by omega), hUl _ (by omega), List.getD_eq_getElem?_getD, List.append_assoc, List.getElem?_append_left (by omega), List.getD_eq_getElem?_getD, List.getElem?_append_left (by omega)]
      · simp [h0]
  have hU : IsVals n xs ys U := by
    refine ⟨by show ((xs ++ ys) ++ _).length = _; simp; omega, hUl, fun i hi => ?_⟩
    rw [hUh i hi, ← hFm, hW.inst i (by omega), insN_pinsOld o hi, kGo_map (W := U) _ _ _ (fun p hp => hsh p (s.pinOf hi hp))]
    congr 1
    unfold instTable
    rw [hcm, insN_split o, List.getD_eq_getElem?_getD (l := _ ++ _), List.getElem?_append_left (by simpa using hi), List.getElem?_map, List.getElem?_eq_getElem hi, List.getD_eq_getElem?_getD (l := n.insts), List.getElem?_eq_getElem hi]
    rfl
  have hUV : U = V := IsVals.unique s (netE_zero.1 o.net).2 (by omega) hU hV
  rw [hUV] at hsh
  -- the net before
  have hbef : ∀ k, k ≤ ord.length → ofE W (insAt n ord k).1 = prevE ys ord si k := by
    intro k hk
    rw [insAt_before k hk]
    unfold prevE
    by_cases h0 : k = 0
    · rw [if_pos h0, if_pos h0]
      have e1 : ¬ n.inputs + 1 = -2 := by omega
      have e2 : 0 ≤ n.inputs + 1 := by omega
      simp only [ofE, e1, e2, decide_false, decide_true, Bool.false_or, Bool.true_and]
      rw [hlow _ (by omega), List.getD_eq_getElem?_getD, List.append_assoc, List.getElem?_append_right (by omega), show (n.inputs + 1).toNat - xs.length = 1 by omega]
      rfl
    · rw [if_neg h0, if_neg h0]
      have hz : ord[k - 1]? = some (ord.getD (k - 1) 0) := by simp [List.getD_eq_getElem?_getD, List.getElem?_eq_getElem (show k - 1 < ord.length by omega)]
      obtain ⟨i1, hi1, e1⟩ := o.perm.range (List.mem_of_getElem? hz)
      rw [e1]
      have e2 : ¬ n.inputs + 2 + (i1 : Int) = -2 := by omega
      have e3 : 0 ≤ n.inputs + 2 + (i1 : Int) := by omega
      simp only [ofE, e2, e3, decide_false, decide_true, Bool.false_or, Bool.true_and]
      rw [hlow _ (by omega), List.getD_eq_getElem?_getD, List.getElem?_append_right (by simp; omega), List.getD_eq_getElem?_getD]
      congr 2; simp; omega
  refine ⟨hsh, fun k hk => ?_, ?_⟩
  · rw [insN_next o hk, ofE_high (V := W) (F := firstE n + 2) (by omega) (by omega)]
    have e1 : (firstE n + 2 + (n.insts.length : Int) + k - (firstE n + 2)).toNat = n.insts.length + k := by omega
    rw [e1, ← hFm, hW.inst _ (by omega)]
    have hpin : pinsOf (insN n ord) (n.insts.length + k) = (pick3 n).2.map fun z => [shiftE n (n.flops.getD (ord.getD k 0).toNat default).next, (insAt n ord k).1, n.inputs].getD z.toNat 0 := by
      unfold pinsOf; rw [insN_inst o hk]; rfl
    have htab : instTable (insN n ord) (n.insts.length + k) = (n.cells.getD (pick3 n).1.toNat default).table := by
      unfold instTable; rw [insN_inst o hk, hcm]; rfl
    obtain ⟨q, hq1, hq2, hq3, hq4, hq5⟩ := matchGo_mem (pick3_mem o.found)
    rw [Nat.zero_add] at hq2
    rw [hpin, htab, hq2, Int.toNat_natCast, muxVal hq4 hq5]
    have hz : ord[k]? = some (ord.getD k 0) := by simp [List.getD_eq_getElem?_getD, List.getElem?_eq_getElem hk]
    obtain ⟨i1, hi1, ei⟩ := o.perm.range (List.mem_of_getElem? hz)
    have hfl : n.flops.getD (ord.getD k 0).toNat default ∈ n.flops := getD_mem (by omega) default
    rw [hbef k (by omega), hsh _ (s.flop _ hfl).1]
    have hen : ofE W n.inputs = en := by
      have e1 : ¬ n.inputs = -2 := by omega
      simp only [ofE, e1, hi0, decide_false, decide_true, Bool.false_or, Bool.true_and]
      rw [hlow _ (by omega), List.getD_eq_getElem?_getD, List.append_assoc, List.getElem?_append_right (by omega), show n.inputs.toNat - xs.length = 0 by omega]
      rfl
    rw [hen]
  · have := hbef ord.length (Nat.le_refl _)
    unfold insAt at this
    rw [List.take_length] at this
    exact this
end

end Go.Ab.S1

namespace Go.Ab.S1
open Go.Proofs
set_option linter.unusedSimpArgs false
set_option linter.unusedVariables false
set_option maxRecDepth 100000
set_option maxHeartbeats 4000000
attribute [local push_cast] wpA_skip wpA_ret wpA_exit wpA_seq wpA_block wpA_cond2 andK_true wpA_region wpA_draw wpA_loop thenQ_normal thenQ_ret thenQ_exit blockQ_normal blockQ_ret blockQ_exit condV_true condV_false opsM_nil opsM_cons2 okM_true wantM_true wantM_false stepM seqM_cons2 seqM_nil2 okS_true wantS_true wantS_false stepS skipS okB Keeps_nil contK_app List.zip_cons_cons List.zip_nil_left List.zip_nil_right Op.operands Call.operands Array.toList_append List.append_nil List.nil_append List.all_cons List.all_nil cOK plain put_n put_tm put_none put_df ev_tmp ev_const ev_func wanted_none wanted_some callR_func dop ex_some1 aBuiltin aBin intBin aUn Option.map_some Bool.and_true Bool.true_and Bool.and_self List.map_cons List.map_nil List.toList_toArray List.getElem?_toArray List.getElem?_cons_zero List.getElem?_cons_succ Option.getD_some Option.getD_none Bool.false_eq_true eq_self_iff_true decide_true decide_false List.cons_append aExtract resL resV List.getD_cons_zero List.getD_cons_succ List.getD_nil Nat.succ_ne_self g1 g2 yieldedA2 isB_bool isB_undef g3 Option.bind_some Option.bind_none bne_self_eq_false beq_self_eq_true Bool.not_true Bool.not_false Int.toNat_natCast List.length_map List.mem_cons List.not_mem_nil or_false not_false_eq_true decide_not Bool.not_not bodyR_ret2 bodyR_normal2 closeMarks_nil ex_some0 Nat.zero_add Nat.add_zero ieq ine List.map_toArray Option.toArray_none Option.toArray_some oev Keeps_cons Still_eq selL wpX_skip wpX_ret wpX_exit wpX_seq wpX_block wpX_cond wpX_region wpX_draw wpX_loop List.take_succ_cons List.take_zero List.drop_succ_cons List.drop_zero Int.zero_add Int.add_zero aNil

theorem tmod64 (i : Nat) : (i : Int).tmod 64 = ((i % 64 : Nat) : Int) := by
  rw [Int.ofNat_tmod]; rfl

theorem bitsB {h : AH} {x : Int} {n : Int} (h0 : 0 ≤ n) (h1 : n ≤ 64) :
    ACall Tryz.prog 22 [.int .u64 x, .int .i64 n] h (fun r h' => Gr h h' ∧ ∃ bs : List Bool, (bs.length : Int) = n ∧ SlOf h' r (bs.map .bool)) := by
  refine ACall.wf ⟨_, Tryz.func22, rfl, by kernel_rfl⟩ fun hwf => ?_
  refine ACall.of_wp 22 [.tmp 4] Tryz.func22 rfl (by kernel_rfl) rfl rfl fun a hn hd ha => ?_
  simp (disch := first | omega | decide | (simp only [List.length_cons, List.length_nil] <;> omega)) only [push_cast, ↓reduceIte, Nat.reduceLT, Nat.reduceEqDiff, reduceCtorEq, Nat.reduceAdd, if_true, if_false, true_and, and_true, hn, hd, ha]
  refine AW.loopN 7 [5, 6] (fun m a' h' => ∃ (i : Nat) (rv : Value) (bs : List Bool), a'.tm 6 = .int .i64 i ∧ i + m = n.toNat ∧ a'.tm 5 = rv ∧ bs.length = i ∧ Gr h h' ∧ FrSl 4 h h' rv (bs.map .bool)) n.toNat ?_ ?_
  · exact ⟨0, _, [], by simp (disch := first | omega | decide | (simp only [List.length_cons, List.length_nil] <;> omega)) only [push_cast, ↓reduceIte, Nat.reduceLT, Nat.reduceEqDiff, reduceCtorEq, Nat.reduceAdd, if_true, if_false, true_and, and_true], by omega, by simp (disch := first | omega | decide | (simp only [List.length_cons, List.length_nil] <;> omega)) only [push_cast, ↓reduceIte, Nat.reduceLT, Nat.reduceEqDiff, reduceCtorEq, Nat.reduceAdd, if_true, if_false, true_and, and_true], rfl, Gr.refl hwf, FrSl.nil _ _ _⟩
  rintro a1 m a' h' hk kn kd kt ⟨i, rv, bs, h6, him, h5, hbl, hg, hf⟩
  simp (disch := first | omega | decide | (simp only [List.length_cons, List.length_nil] <;> omega)) only [push_cast, ↓reduceIte, Nat.reduceLT, Nat.reduceEqDiff, reduceCtorEq, Nat.reduceAdd, if_true, if_false, true_and, and_true, kn, kd, kt, hn, hd, ha, h6, h5]
  refine condV_of (fun hlt => ?_) (fun hge => ?_)
  · have hi : (i : Int) < n := by simpa using hlt
    have hw : IntKind.i64.wrap ((i : Int) + 1) = i + 1 := wrapI (by omega) (by omega)
    have h64 : ¬ ((64 : Int) = 0) := by decide
    have h2 : ¬ ((2 : Int) = 0) := by decide
    have hsh : ∃ y, shBin .shr .u64 x ((i : Int).tmod 64) = some (.int .u64 y) := ⟨_, shrR .u64 x _ (by rw [tmod64]; omega)⟩
    obtain ⟨y, hsh⟩ := hsh
    simp (disch := first | omega | decide | (simp only [List.length_cons, List.length_nil] <;> omega)) only [push_cast, ↓reduceIte, Nat.reduceLT, Nat.reduceEqDiff, reduceCtorEq, Nat.reduceAdd, if_true, if_false, true_and, and_true, kn, kd, kt, hn, hd, ha, h6, h5, h64]
    rw [hsh]
    simp (disch := first | omega | decide | (simp only [List.length_cons, List.length_nil] <;> omega)) only [push_cast, ↓reduceIte, Nat.reduceLT, Nat.reduceEqDiff, reduceCtorEq, Nat.reduceAdd, if_true, if_false, true_and, and_true, kn, kd, kt, hn, hd, ha, h6, h5, h2]
    generalize decide (y.tmod 2 = 1) = b
    have happ := app1 t23 (t := 43) hg hf (by simp; omega) (by simp; omega) (.bool b)
    simp (disch := first | omega | decide | (simp only [List.length_cons, List.length_nil] <;> omega)) only [push_cast, ↓reduceIte, Nat.reduceLT, Nat.reduceEqDiff, reduceCtorEq, Nat.reduceAdd, if_true, if_false, true_and, and_true, kn, kd, kt, hn, hd, ha, h6, h5, aBuild1 t23 h' (x := .bool b) rfl rfl, happ, hw]
    refine ⟨m - 1, by omega, (by simp (disch := decide) only [Kp_put, put_none, hk]), i + 1, app1V h' bs.length, bs ++ [b], by simp (disch := first | omega | decide | (simp only [List.length_cons, List.length_nil] <;> omega)) only [push_cast, ↓reduceIte, Nat.reduceLT, Nat.reduceEqDiff, reduceCtorEq, Nat.reduceAdd, if_true, if_false, true_and, and_true], by omega, by simp (disch := first | omega | decide | (simp only [List.length_cons, List.length_nil] <;> omega)) only [push_cast, ↓reduceIte, Nat.reduceLT, Nat.reduceEqDiff, reduceCtorEq, Nat.reduceAdd, if_true, if_false, true_and, and_true], by simp [hbl], app1_gr hwf hg hf, ?_⟩
    have := app1_fr (e := 4) (x := .bool b) (v := rv) hg (vs := bs.map .bool)
    simpa using this
  · have hi : ¬ (i : Int) < n := by simpa using hge
    simp (disch := first | omega | decide | (simp only [List.length_cons, List.length_nil] <;> omega)) only [push_cast, ↓reduceIte, Nat.reduceLT, Nat.reduceEqDiff, reduceCtorEq, Nat.reduceAdd, if_true, if_false, true_and, and_true, kn, kd, kt, hn, hd, ha, h6, h5]
    exact ⟨hg, bs, by omega, hf.sl⟩

end Go.Ab.S1

namespace Go.Ab.S1
open Go.Proofs
set_option linter.unusedSimpArgs false
set_option linter.unusedVariables false
set_option maxRecDepth 100000
set_option maxHeartbeats 4000000
attribute [local push_cast] wpA_skip wpA_ret wpA_exit wpA_seq wpA_block wpA_cond2 andK_true wpA_region wpA_draw wpA_loop thenQ_normal thenQ_ret thenQ_exit blockQ_normal blockQ_ret blockQ_exit condV_true condV_false opsM_nil opsM_cons2 okM_true wantM_true wantM_false stepM seqM_cons2 seqM_nil2 okS_true wantS_true wantS_false stepS skipS okB Keeps_nil contK_app List.zip_cons_cons List.zip_nil_left List.zip_nil_right Op.operands Call.operands Array.toList_append List.append_nil List.nil_append List.all_cons List.all_nil cOK plain put_n put_tm put_none put_df ev_tmp ev_const ev_func wanted_none wanted_some callR_func dop ex_some1 aBuiltin aBin intBin aUn Option.map_some Bool.and_true Bool.true_and Bool.and_self List.map_cons List.map_nil List.toList_toArray List.getElem?_toArray List.getElem?_cons_zero List.getElem?_cons_succ Option.getD_some Option.getD_none Bool.false_eq_true eq_self_iff_true decide_true decide_false List.cons_append aExtract resL resV List.getD_cons_zero List.getD_cons_succ List.getD_nil Nat.succ_ne_self g1 g2 yieldedA2 isB_bool isB_undef g3 Option.bind_some Option.bind_none bne_self_eq_false beq_self_eq_true Bool.not_true Bool.not_false Int.toNat_natCast List.length_map List.mem_cons List.not_mem_nil or_false not_false_eq_true decide_not Bool.not_not bodyR_ret2 bodyR_normal2 closeMarks_nil ex_some0 Nat.zero_add Nat.add_zero ieq ine List.map_toArray Option.toArray_none Option.toArray_some oev Keeps_cons Still_eq selL wpX_skip wpX_ret wpX_exit wpX_seq wpX_block wpX_cond wpX_region wpX_draw wpX_loop List.take_succ_cons List.take_zero List.drop_succ_cons List.drop_zero Int.zero_add Int.add_zero aNil
attribute [local push_cast] treeM_nil treeM_step treeM_two okX_true wantX_true wantX_false stepX skipX

theorem ownPre {P : Program} {t e : TypeId} (ht : Sl1 P t e) {h : AH} {v : Value} {B : Nat} {vs : List Value} (ho : OwnSl e h v B vs) {k : IntKind} {n : Nat} (hn : n ≤ vs.length) :
    ∃ v', aSlice P t v none (some (.int k n)) = some v' ∧ SlOf h v' (vs.take n) := by
  rcases ho with ⟨rfl, rfl⟩ | ⟨hne, rfl, hg⟩
  · have hn0 : n = 0 := by simpa using hn
    subst hn0
    exact ⟨_, sliceNil ht k, none, 0, 0, rfl, by simp, fun q e => (nomatch e), .inl (by simp)⟩
  · refine ⟨_, sliceHiS ht B 0 vs.length k n (by omega) (by omega), some ⟨B, 0, none⟩, n, SL + 1, rfl, by rw [List.length_take]; omega, fun q e => by cases e; rfl, .inr ⟨B, 0, _, vs, rfl, hg, rfl, fun i x hx => ?_⟩⟩
    rw [Nat.zero_add]
    rw [List.getElem?_take] at hx
    split at hx
    · exact hx
    · cases hx

theorem appOwn {h0 k : AH} {rv sv : Value} {ob : Option AObj} {A : Nat} {zs ys : List Bool} (w0 : WFH h0) (g : Gr h0 k) (hv : BoolsV k rv ob A zs) (lo : ∀ o, ob = some o → h0.next ≤ A) (hs : SlOf k sv (ys.map .bool)) (hb : zs.length + ys.length ≤ 4294967296) :
    ∃ r h' ob' A', aAppend Tryz.prog #[43, 43] rv sv k = some (r, h') ∧ Gr h0 h' ∧ BoolsV h' r ob' A' (zs ++ ys) ∧ (∀ o, ob' = some o → h0.next ≤ A') ∧ (∀ B o, k.get B = some o → (B = A → ob = none) → h'.get B = some o) ∧ k.next ≤ h'.next := by
  obtain ⟨r', h'', happ, hgo⟩ := appendAny (t := 43) (t2 := 43) t23 ⟨_, Tryz.underlying43⟩ g.wf hv.1 hv.2 hs.src (by simp [oneC]) (by simp only [List.length_map]; omega) (by simp only [List.length_map]; omega)
  obtain ⟨ob', A', hV, hgA, hA⟩ := hgo.up
  refine ⟨r', h'', ob', A', happ, ⟨hgo.wf, fun B o hB => hgo.frx B o (g.sub B o hB) (fun e => ?_), Nat.le_trans g.nx hgo.nx⟩, ⟨by rw [List.map_append]; exact hV, hgA⟩, fun o e => ?_, hgo.frx, hgo.nx⟩
  · cases hob : ob with
    | none => rfl
    | some o2 =>
      have h8 := lo o2 hob
      have := AH.get_lt w0 hB
      omega
  · rcases hA (by rw [e]; simp) with ⟨rfl, hne⟩ | hA
    · cases hob : ob with
      | none => exact absurd hob hne
      | some o2 => exact lo o2 hob
    · exact Nat.le_trans g.nx hA

theorem aBuild2b (h : AH) (x y : Bool) : aBuildSlice Tryz.prog 43 2 [(0, .bool x), (1, .bool y)] h = some (.slice (some ⟨h.next, 0, none⟩) 2 2, h.new (.row [.bool x, .bool y] 4 true)) := by
  obtain ⟨i, hi, h1, hb, hz⟩ := t23.info
  have hp : plain 9 (.bool false) = true := rfl
  have hc : (Value.bool false).cells.size = 1 := rfl
  have hl : (Value.bool false).cells.toList = [.bool false] := rfl
  have hx1 : ∀ z : Bool, (Value.bool z).cells.size = 1 := fun _ => rfl
  have hx2 : ∀ z : Bool, (Value.bool z).cells.toList = [.bool z] := fun _ => rfl
  simp only [aBuildSlice, t23.sl, hi, hz, h1, hp, hc, fillL, hl, zeros_one]
  simp [SL, hx1, hx2, setL, oneC, List.replicate]

/-- The three ways in which the inputs are laid. -/
structure Laid3 (k0 : AH) (xv : Value) (xs : List Bool) (en si : Bool) (Fin : Value → AH → Prop) : Prop where
  w1 : ∃ r1 k1, aAppend Tryz.prog #[43, 43] (.slice (some ⟨k0.next, 0, none⟩) 0 0) xv (k0.new (.row [] 4 true)) = some (r1, k1) ∧ Gr k0 k1 ∧ Gr k0 (k1.new (.row [.bool en, .bool si] 4 true)) ∧
    ∃ r2 k2, aAppend Tryz.prog #[43, 43] r1 (.slice (some ⟨k1.next, 0, none⟩) 2 2) (k1.new (.row [.bool en, .bool si] 4 true)) = some (r2, k2) ∧ Gr k0 k2 ∧ Fin r2 k2
  w2 : Gr k0 (k0.new (.row [] 4 true)) ∧ Gr k0 ((k0.new (.row [] 4 true)).new (.row [.bool en, .bool si] 4 true)) ∧
    ∃ r1 k1, aAppend Tryz.prog #[43, 43] (.slice (some ⟨k0.next, 0, none⟩) 0 0) xv ((k0.new (.row [] 4 true)).new (.row [.bool en, .bool si] 4 true)) = some (r1, k1) ∧ Gr k0 k1 ∧
    ∃ r2 k2, aAppend Tryz.prog #[43, 43] r1 (.slice (some ⟨k0.next + 1, 0, none⟩) 2 2) k1 = some (r2, k2) ∧ Gr k0 k2 ∧ Fin r2 k2
  w3 : Gr k0 (k0.new (.row [.bool en, .bool si] 4 true)) ∧ Gr k0 ((k0.new (.row [.bool en, .bool si] 4 true)).new (.row [] 4 true)) ∧
    ∃ r1 k1, aAppend Tryz.prog #[43, 43] (.slice (some ⟨k0.next + 1, 0, none⟩) 0 0) xv ((k0.new (.row [.bool en, .bool si] 4 true)).new (.row [] 4 true)) = some (r1, k1) ∧ Gr k0 k1 ∧
    ∃ r2 k2, aAppend Tryz.prog #[43, 43] r1 (.slice (some ⟨k0.next, 0, none⟩) 2 2) k1 = some (r2, k2) ∧ Gr k0 k2 ∧ Fin r2 k2

theorem laid3 {k0 : AH} {xv : Value} {xs : List Bool} {en si : Bool} (w0 : WFH k0) (hx : SlOf k0 xv (xs.map .bool)) (hl : xs.length ≤ 4294967296 - 2) : Laid3 k0 xv xs en si (fun r k => SlOf k r ((xs ++ [en, si]).map .bool)) := by
  have g0 := Gr.refl w0
  have hE : ∀ {k : AH} {A : Nat}, k.get A = some (.row [] 4 true) → BoolsV k (.slice (some ⟨A, 0, none⟩) 0 0) (some (.row [] 4 true)) A [] := fun hg => ⟨.inr (.inr ⟨[], 0, rfl, by omega, Nat.le_refl _, Nat.le_refl _, rfl, rfl⟩), fun o e => by cases e; exact hg⟩
  have hD : ∀ {k : AH} {D : Nat}, k.get D = some (.row [.bool en, .bool si] 4 true) → SlOf k (.slice (some ⟨D, 0, none⟩) 2 2) ([en, si].map .bool) := fun hg => SlOf.lit hg rfl rfl
  refine ⟨?_, ?_, ?_⟩
  · have g1 := g0.new (.row [] 4 true)
    obtain ⟨r1, k1, ob, A, e1, g2, hv, lo, _, n1⟩ := appOwn w0 g1 (hE (by rw [AH.new_get, if_pos rfl])) (fun o e => Nat.le_refl _) (hx.sub g1.sub) (by simp; omega)
    have g3 := g2.new (.row [.bool en, .bool si] 4 true)
    have s3 := Sub.new g2.wf (.row [.bool en, .bool si] 4 true)
    obtain ⟨r2, k2, _, _, e2, g4, hv2, _⟩ := appOwn w0 g3 (hv.sub s3) lo (hD (by rw [AH.new_get, if_pos rfl])) (by simp; omega)
    exact ⟨r1, k1, e1, g2, g3, r2, k2, e2, g4, by simpa using hv2.sl⟩
  · have g1 := g0.new (.row [] 4 true)
    have g2 := g1.new (.row [.bool en, .bool si] 4 true)
    have s2 := Sub.new g1.wf (.row [.bool en, .bool si] 4 true)
    have hA1 : ((k0.new (.row [] 4 true)).new (.row [.bool en, .bool si] 4 true)).get k0.next = some (.row [] 4 true) := s2 _ _ (by rw [AH.new_get, if_pos rfl])
    have hD1 : ((k0.new (.row [] 4 true)).new (.row [.bool en, .bool si] 4 true)).get (k0.next + 1) = some (.row [.bool en, .bool si] 4 true) := by rw [AH.new_get, if_pos (by simp)]
    obtain ⟨r1, k1, ob, A, e1, g3, hv, lo, frx, n1⟩ := appOwn w0 g2 (hE hA1) (fun o e => Nat.le_refl _) (hx.sub g2.sub) (by simp; omega)
    have hD2 := frx _ _ hD1 (fun e => by omega)
    obtain ⟨r2, k2, _, _, e2, g4, hv2, _⟩ := appOwn w0 g3 hv lo (hD hD2) (by simp; omega)
    exact ⟨g1, g2, r1, k1, e1, g3, r2, k2, e2, g4, by simpa using hv2.sl⟩
  · have g1 := g0.new (.row [.bool en, .bool si] 4 true)
    have g2 := g1.new (.row [] 4 true)
    have s2 := Sub.new g1.wf (.row [] 4 true)
    have hD1 : ((k0.new (.row [.bool en, .bool si] 4 true)).new (.row [] 4 true)).get k0.next = some (.row [.bool en, .bool si] 4 true) := s2 _ _ (by rw [AH.new_get, if_pos rfl])
    have hA1 : ((k0.new (.row [.bool en, .bool si] 4 true)).new (.row [] 4 true)).get (k0.next + 1) = some (.row [] 4 true) := by rw [AH.new_get, if_pos (by simp)]
    obtain ⟨r1, k1, ob, A, e1, g3, hv, lo, frx, n1⟩ := appOwn w0 g2 (hE hA1) (fun o e => by omega) (hx.sub g2.sub) (by simp; omega)
    have hD2 := frx _ _ hD1 (fun e => by omega)
    obtain ⟨r2, k2, _, _, e2, g4, hv2, _⟩ := appOwn w0 g3 hv lo (hD hD2) (by simp; omega)
    exact ⟨g1, g2, r1, k1, e1, g3, r2, k2, e2, g4, by simpa using hv2.sl⟩

/-! ### Plainly -/

section
variable {n : Net} {ord : List Int}

theorem scan_outs (o : InsOK n ord) {V W : List Bool} (hs : ∀ p, -2 ≤ p ∧ p < firstE n + n.insts.length → ofE W (shiftE n p) = ofE V p) : (insN n ord).outs.map (ofE W) = n.outs.map (ofE V) ++ [ofE W (insGo n ord).1] := by
  have s := ShapeOK.of (netE_zero.1 o.net).1
  show ((insGo n ord).2.outs ++ [(insGo n ord).1]).map (ofE W) = _
  rw [o.k.outs, List.map_append, List.map_map]
  congr 1
  exact List.map_congr_left fun p hp => hs p (s.out p hp)

theorem scan_next (o : InsOK n ord) {F G : Flop → Bool} (hq : ∀ k, k < ord.length → F ((insN n ord).flops.getD (ord.getD k 0).toNat default) = G (n.flops.getD (ord.getD k 0).toNat default)) : (insN n ord).flops.map F = n.flops.map G := by
  have hfl : (insN n ord).flops.length = n.flops.length := o.k.fl
  apply List.ext_getElem (by simp [hfl])
  intro i h1 h2
  have hi : i < n.flops.length := by simpa using h2
  obtain ⟨k, hk⟩ := o.perm.onto (j := i) (by rw [o.len]; exact hi)
  have hkl := (List.getElem?_eq_some_iff.1 hk).1
  have := hq k hkl
  rw [List.getD_eq_getElem?_getD (l := ord), hk, Option.getD_some, Int.toNat_natCast, List.getD_eq_getElem?_getD, List.getElem?_eq_getElem (by omega), List.getD_eq_getElem?_getD, List.getElem?_eq_getElem hi] at this
  rw [List.getElem_map, List.getElem_map]; exact this
end


theorem scanShifts (aw : ∀ h, ACall Tryz.prog 9 [] h (fun v h' => v = .bool true ∧ h' = h)) {h : AH} {n : Net} {cv fv iv ov v : Value} {ord : List Int} {c1 c2 : Int} {si : Bool} (r : NetR h n cv fv iv ov) (ok : NetOK n) (hc : n.cells.length ≤ 4611686018427387904) (hv : SlOf h v (ord.map (.int .i64))) (hb : ord.length ≤ 17592186043904) :
    ACall Tryz.prog 6 [.agg (netC n cv fv iv ov).toArray, v, .int .u64 c1, .int .u64 c2, .bool si] h (fun r _ => r = .bool true) := by
  refine ACall.wf ⟨_, Tryz.func6, rfl, by kernel_rfl⟩ fun hwf => ?_
  refine ACall.of_wp 113 [.tmp 10] Tryz.func6 rfl (by kernel_rfl) rfl rfl fun a hn hd ha => ?_
  have hbox := boxA 27 h _ r.one
  have hN := NetAt.new (h := h) (n := n) (cv := cv) (fv := fv) (iv := iv) (ov := ov)
  have g1 : Gr h (h.new (.row (netC n cv fv iv ov) 27 true)) := (Gr.refl hwf).new _
  simp (disch := first | omega | decide | (simp only [List.length_cons, List.length_nil] <;> omega)) only [push_cast, ↓reduceIte, Nat.reduceLT, Nat.reduceEqDiff, reduceCtorEq, Nat.reduceAdd, if_true, if_false, true_and, and_true, hn, hd, ha, hbox, hN.l0, hN.l1, hN.l2, hN.l3, hN.l4, hN.la]
  generalize h.new (.row (netC n cv fv iv ov) 27 true) = h1 at hN g1 ⊢
  generalize h.next = B0 at hN ⊢
  have r1 := r.sub g1.sub
  have hv1 := hv.sub g1.sub
  refine ACall.mono ?_ (long29 r1 ok hc)
  rintro _ h2 ⟨⟨b, rfl⟩, g2⟩
  have hN2 := hN.sub g2.sub
  have r2 := r1.sub g2.sub
  have hv2 := hv1.sub g2.sub
  cases b with
  | true =>
    simp (disch := first | omega | decide | (simp only [List.length_cons, List.length_nil] <;> omega)) only [push_cast, ↓reduceIte, Nat.reduceLT, Nat.reduceEqDiff, reduceCtorEq, Nat.reduceAdd, if_true, if_false, true_and, and_true, hn, hd, ha]
    refine ACall.mono ?_ (aw _)
    rintro _ _ ⟨rfl, _⟩
    simp (disch := first | omega | decide | (simp only [List.length_cons, List.length_nil] <;> omega)) only [push_cast, ↓reduceIte, Nat.reduceLT, Nat.reduceEqDiff, reduceCtorEq, Nat.reduceAdd, if_true, if_false, true_and, and_true, hn, hd, ha]
  | false =>
  simp (disch := first | omega | decide | (simp only [List.length_cons, List.length_nil] <;> omega)) only [push_cast, ↓reduceIte, Nat.reduceLT, Nat.reduceEqDiff, reduceCtorEq, Nat.reduceAdd, if_true, if_false, true_and, and_true, hn, hd, ha, hN2.l0, hN2.l1, hN2.l2, hN2.l3, hN2.l4, hN2.la]
  refine ACall.mono ?_ (check29 r2 ok)
  rintro _ h2 ⟨rfl, rfl⟩
  by_cases e : netE n = 0
  case neg =>
    simp (disch := first | omega | decide | (simp only [List.length_cons, List.length_nil] <;> omega)) only [push_cast, ↓reduceIte, Nat.reduceLT, Nat.reduceEqDiff, reduceCtorEq, Nat.reduceAdd, if_true, if_false, true_and, and_true, hn, hd, ha, e]
    refine ACall.mono ?_ (aw _)
    rintro _ _ ⟨rfl, _⟩
    simp (disch := first | omega | decide | (simp only [List.length_cons, List.length_nil] <;> omega)) only [push_cast, ↓reduceIte, Nat.reduceLT, Nat.reduceEqDiff, reduceCtorEq, Nat.reduceAdd, if_true, if_false, true_and, and_true, hn, hd, ha]
  simp (disch := first | omega | decide | (simp only [List.length_cons, List.length_nil] <;> omega)) only [push_cast, ↓reduceIte, Nat.reduceLT, Nat.reduceEqDiff, reduceCtorEq, Nat.reduceAdd, if_true, if_false, true_and, and_true, hn, hd, ha, e]
  refine ACall.mono ?_ (aw _)
  rintro _ h2 ⟨rfl, rfl⟩
  simp (disch := first | omega | decide | (simp only [List.length_cons, List.length_nil] <;> omega)) only [push_cast, ↓reduceIte, Nat.reduceLT, Nat.reduceEqDiff, reduceCtorEq, Nat.reduceAdd, if_true, if_false, true_and, and_true, hn, hd, ha, hN2.l0, hN2.l1, hN2.l2, hN2.l3, hN2.l4, hN2.la]
  refine ACall.mono ?_ (insertN r2 ok hv2 hb)
  rintro _ h3 ⟨g3, cm, fm, im, om, rfl, r3⟩
  have hstm := fun (hh : AH) cs e hl => stN agN hh cs e (netC (insR n ord) cm fm im om) hl rfl r3.one
  have hM := NetAt.new (h := h3) (n := insR n ord) (cv := cm) (fv := fm) (iv := im) (ov := om)
  have g4 : Gr h3 (h3.new (.row (netC (insR n ord) cm fm im om) 27 true)) := (Gr.refl g3.wf).new _
  simp (disch := first | omega | decide | (simp only [List.length_cons, List.length_nil] <;> omega)) only [push_cast, ↓reduceIte, Nat.reduceLT, Nat.reduceEqDiff, reduceCtorEq, Nat.reduceAdd, if_true, if_false, true_and, and_true, hn, hd, ha, alL zrN, hstm]
  generalize h3.new (.row (netC (insR n ord) cm fm im om) 27 true) = h4 at hM g4 ⊢
  generalize h3.next = BM at hM ⊢
  have rm := r3.sub g4.sub
  have rn := (r2.sub g3.sub).sub g4.sub
  have hN4 := (hN2.sub g3.sub).sub g4.sub
  by_cases e2 : insE n ord = 0
  case neg => simp (disch := first | omega | decide | (simp only [List.length_cons, List.length_nil] <;> omega)) only [push_cast, ↓reduceIte, Nat.reduceLT, Nat.reduceEqDiff, reduceCtorEq, Nat.reduceAdd, if_true, if_false, true_and, and_true, hn, hd, ha, e2]
  have o := InsOK.of e2
  have hR : insR n ord = insN n ord := by unfold insR; rw [if_pos e2]
  rw [hR] at rm hM
  have okm := insN_ok ok o
  have em := insN_net o
  have s := ShapeOK.of (netE_zero.1 e).1
  have hfl := s.fl
  have hi0 := s.i0
  have hi1 := s.i1
  have hol := s.ol
  simp (disch := first | omega | decide | (simp only [List.length_cons, List.length_nil] <;> omega)) only [push_cast, ↓reduceIte, Nat.reduceLT, Nat.reduceEqDiff, reduceCtorEq, Nat.reduceAdd, if_true, if_false, true_and, and_true, hn, hd, ha, e2]
  refine AW.drawP (.take 0 [10, 9, 8, 3] (.take 1 [10, 9, 8, 3, 2] (.take 2 [10, 9, 8, 3] (.take 4 [10, 9, 8] (.take 5 [10, 9, 8, 7, 6] (.watch 6 [10, 9, 8, 7] (.watch 7 [10, 9, 8] (.only 3 (.only 8 (.take 9 [10] (.take 10 [] .done))))))))))) [(0, 0), (0, 1), (0, 2), (0, 4), (0, 5), (1, 6), (1, 7), (2, 3), (2, 8), (0, 9), (0, 10)] mixed (by kernel_rfl) (by kernel_rfl) ?_
  simp (disch := first | omega | decide | (simp only [List.length_cons, List.length_nil] <;> omega)) only [push_cast, ↓reduceIte, Nat.reduceLT, Nat.reduceEqDiff, reduceCtorEq, Nat.reduceAdd, if_true, if_false, true_and, and_true, hn, hd, ha, faL foN0, faL foN1, faL foN2, faL foN3, faL foN4, hN4.l0, hN4.l1, hN4.l2, hN4.l3, hN4.l4, hN4.la, rn.f.len Tryz.underlying23]
  refine ACall.mono ?_ (bitsB (x := c1) hi0 hi1)
  rintro xv h5 ⟨g5, xs, hxl, hxs⟩
  have hN5 := hN4.sub g5.sub
  simp (disch := first | omega | decide | (simp only [List.length_cons, List.length_nil] <;> omega)) only [push_cast, ↓reduceIte, Nat.reduceLT, Nat.reduceEqDiff, reduceCtorEq, Nat.reduceAdd, if_true, if_false, true_and, and_true, hn, hd, ha, faL foN0, faL foN1, faL foN2, faL foN3, faL foN4, hN5.l0, hN5.l1, hN5.l2, hN5.l3, hN5.l4, hN5.la, rn.f.len Tryz.underlying23]
  refine ACall.mono ?_ (bitsB (x := c2) (n := n.flops.length) (by omega) (by omega))
  rintro yv h6 ⟨g6, ys, hyl, hys⟩
  have hN6 := hN5.sub g6.sub
  have hyl' : ys.length = n.flops.length := by omega
  have rn6 := (rn.sub g5.sub).sub g6.sub
  have hxs6 := hxs.sub g6.sub
  simp (disch := first | omega | decide | (simp only [List.length_cons, List.length_nil] <;> omega)) only [push_cast, ↓reduceIte, Nat.reduceLT, Nat.reduceEqDiff, reduceCtorEq, Nat.reduceAdd, if_true, if_false, true_and, and_true, hn, hd, ha, faL foN0, faL foN1, faL foN2, faL foN3, faL foN4, hN6.l0, hN6.l1, hN6.l2, hN6.l3, hN6.l4, hN6.la, rn.f.len Tryz.underlying23]
  have hxs7 := hxs6
  have rm7 := (rm.sub g5.sub).sub g6.sub
  have hM7 := (hM.sub g5.sub).sub g6.sub
  have hv7 := ((((hv2.sub g3.sub).sub g4.sub).sub g5.sub).sub g6.sub)
  have hL := laid3 (en := true) (si := si) g6.wf hxs7 (by omega)
  have hmi : (insN n ord).inputs = n.inputs + 2 := o.k.inputs
  have hmf : (insN n ord).flops.length = n.flops.length := o.k.fl
  obtain ⟨V, hV⟩ : ∃ V, IsVals n xs ys V := by
    obtain ⟨O, t, hO⟩ := (netE_zero.1 e).2
    exact ⟨_, valsE_is s t hO hxl hyl'⟩
  have hol2 := o.len
  have hfin : ∀ (r2 : Value) (k2 : AH), Gr h6 k2 → SlOf k2 r2 ((xs ++ [true, si]).map .bool) →
      ACall Tryz.prog 23 [.agg (netC (insN n ord) cm fm im om).toArray, r2, yv] k2 (fun r k3 => Gr k2 k3 ∧ ∃ p1 p2, r = .tuple #[p1, p2, .int .i64 0] ∧ ∃ (os nx : List Bool), os.length = n.outs.length + 1 ∧ os.getD n.outs.length false = prevE ys ord si ord.length ∧ nx.length = ys.length ∧ (∀ k, k < ord.length → nx.getD (ord.getD k 0).toNat false = prevE ys ord si k) ∧ SlOf k3 p1 (os.map .bool) ∧ SlOf k3 p2 (nx.map .bool)) := by
    intro r2 k2 gk hr2
    refine ACall.mono ?_ (evalT (rm7.sub gk.sub) okm em hr2 (hys.sub gk.sub))
    rintro _ k3 ⟨g8, p1, p2, rfl, hp2⟩
    have hcc : ((xs ++ [true, si]).length : Int) = (insN n ord).inputs ∧ ys.length = (insN n ord).flops.length := ⟨by rw [hmi]; simp; omega, by rw [hmf]; exact hyl'⟩
    obtain ⟨W, hW, ⟨BP, hP1⟩, hP2⟩ := hp2 hcc
    obtain ⟨s1, s2, s3⟩ := scanVals o hxl hyl' hV hW
    rw [scan_outs o s1] at hP1
    rw [if_pos hcc]
    refine ⟨g8, p1, p2, rfl, _, _, by simp, ?_, ?_, fun k hk => ?_, hP1.sl, hP2⟩
    · rw [List.getD_eq_getElem?_getD, List.getElem?_append_right (by simp), List.length_map, Nat.sub_self]; exact s3
    · rw [List.length_map, hmf, hyl']
    · have hz : ord[k]? = some (ord.getD k 0) := by simp [List.getD_eq_getElem?_getD, List.getElem?_eq_getElem hk]
      obtain ⟨i1, hi1, ei⟩ := o.perm.range (List.mem_of_getElem? hz)
      have hlt : (ord.getD k 0).toNat < (insN n ord).flops.length := by rw [hmf]; omega
      have := s2 k hk
      rw [if_pos rfl, List.getD_eq_getElem?_getD (l := (insN n ord).flops), List.getElem?_eq_getElem hlt, Option.getD_some] at this
      rw [List.getD_eq_getElem?_getD (l := List.map _ _), List.getElem?_map, List.getElem?_eq_getElem hlt]; exact this
  have hE0 := fun hh => aBuildSlice_empty t23 hh
  have hE2 := fun hh => aBuild2b hh true si
  have hw2 : IntKind.i64.wrap ((n.outs.length : Int) + 1 - 1) = n.outs.length := by rw [Int.add_sub_cancel]; exact wrapI (by omega) (by omega)
  -- what follows Eval
  have hrest : True := trivial
  refine AW.mono (Q := fun ex a' h' => ex = .normal ∧ a'.n = 113 ∧ a'.df = [] ∧ Gr h6 h' ∧ a'.tm 1 = v ∧ a'.tm 4 = .bool si ∧ a'.tm 14 = yv ∧ a'.tm 10 = .bool false ∧ ∃ (p1 p2 : Value) (os nx : List Bool), a'.tm 15 = p1 ∧ a'.tm 16 = p2 ∧ a'.tm 17 = .int .i64 0 ∧ os.length = n.outs.length + 1 ∧ os.getD n.outs.length false = prevE ys ord si ord.length ∧ nx.length = ys.length ∧
      (∀ k, k < ord.length → nx.getD (ord.getD k 0).toNat false = prevE ys ord si k) ∧ SlOf h' p1 (os.map .bool) ∧ SlOf h' p2 (nx.map .bool)) ?_ ?_
  case refine_2 =>
    refine AW.drawX (.take 2 [15, 14, 13, 12, 11, 10, 9, 8, 6, 3] (.take 4 [15, 14, 13, 12, 11, 10, 9, 8, 6, 5] (.take 7 [15, 14, 13, 12, 11, 10, 9, 8] (.watch 0 [15, 14, 13, 12, 11, 10, 9, 8] (.two 1 (.two 3 (.only 5 (.only 6 (.only 8 (.take 9 [15, 14, 13, 12, 11, 10] (.take 10 [15, 14, 13] (.take 11 [15, 14] (.take 12 [15] (.take 13 [15, 14] (.take 14 [15] (.take 15 [] .done)))))))))) 5 (.only 3 (.only 6 (.only 8 (.take 9 [15, 14, 13, 12, 11, 10] (.take 10 [15, 14, 13] (.take 11 [15, 14] (.take 12 [15] (.take 13 [15, 14] (.take 14 [15] (.take 15 [] .done))))))))))) 5 (.only 1 (.only 3 (.only 6 (.only 8 (.take 9 [15, 14, 13, 12, 11, 10] (.take 10 [15, 14, 13] (.take 11 [15, 14] (.take 12 [15] (.take 13 [15, 14] (.take 14 [15] (.take 15 [] .done)))))))))))))))) (.step 0 2 (.step 0 4 (.step 0 7 (.step 1 0 (.two 1 (.two 3 (.step 2 5 (.step 2 6 (.step 2 8 (.step 0 9 (.step 0 10 (.step 0 11 (.step 0 12 (.step 0 13 (.step 0 14 (.step 0 15 .nil)))))))))) 5 (.step 2 3 (.step 2 6 (.step 2 8 (.step 0 9 (.step 0 10 (.step 0 11 (.step 0 12 (.step 0 13 (.step 0 14 (.step 0 15 .nil))))))))))) 5 (.step 2 1 (.step 2 3 (.step 2 6 (.step 2 8 (.step 0 9 (.step 0 10 (.step 0 11 (.step 0 12 (.step 0 13 (.step 0 14 (.step 0 15 .nil)))))))))))))))) mixed (by kernel_rfl) rfl ?_
    simp (disch := first | omega | decide | (simp only [List.length_cons, List.length_nil] <;> omega)) only [push_cast, ↓reduceIte, Nat.reduceLT, Nat.reduceEqDiff, reduceCtorEq, Nat.reduceAdd, if_true, if_false, true_and, and_true, hn, hd, ha, hM7.l0, hM7.l1, hM7.l2, hM7.l3, hM7.l4, hM7.la]
    refine ⟨?_, ?_⟩
    · obtain ⟨r1, k1, e1, gk1, gk1b, r2, k2, e2', gk2, hr2⟩ := hL.w1
      obtain ⟨gw0, gw1, q1, j1, f1, gj1, q2, j2, f2, gj2, hq2⟩ := hL.w2
      have hMa := hM7.sub (Sub.new g6.wf (.row [] 4 true))
      have hMb := hM7.sub gk1.sub
      have hMc := hM7.sub gk1b.sub
      have hMd := hM7.sub gk2.sub
      have hMe := hM7.sub gw1.sub
      have hMf := hM7.sub gj1.sub
      have hMg := hM7.sub gj2.sub
      simp (disch := first | omega | decide | (simp only [List.length_cons, List.length_nil] <;> omega)) only [push_cast, ↓reduceIte, Nat.reduceLT, Nat.reduceEqDiff, reduceCtorEq, Nat.reduceAdd, if_true, if_false, true_and, and_true, hn, hd, ha, hM7.l0, hM7.l1, hM7.l2, hM7.l3, hM7.l4, hM7.la, hE0, hE2, hMa.l0, hMa.l1, hMa.l2, hMa.l3, hMa.l4, hMa.la]
      refine ⟨?_, ?_⟩
      · simp (disch := first | omega | decide | (simp only [List.length_cons, List.length_nil] <;> omega)) only [push_cast, ↓reduceIte, Nat.reduceLT, Nat.reduceEqDiff, reduceCtorEq, Nat.reduceAdd, if_true, if_false, true_and, and_true, hn, hd, ha, hM7.l0, hM7.l1, hM7.l2, hM7.l3, hM7.l4, hM7.la, hE0, hE2, hMa.l0, hMa.l1, hMa.l2, hMa.l3, hMa.l4, hMa.la, e1, hMb.l0, hMb.l1, hMb.l2, hMb.l3, hMb.l4, hMb.la, hMc.l0, hMc.l1, hMc.l2, hMc.l3, hMc.l4, hMc.la, e2', hMd.l0, hMd.l1, hMd.l2, hMd.l3, hMd.l4, hMd.la]
        refine ACall.mono ?_ (hfin r2 k2 gk2 hr2)
        rintro _ k3 ⟨g8, p1, p2, rfl, os, nx, q1, q2, q3, q4, hP1, hP2⟩
        have hM3 := hM7.sub (gk2.sub.trans g8.sub)
        simp (disch := first | omega | decide | (simp only [List.length_cons, List.length_nil] <;> omega)) only [push_cast, ↓reduceIte, Nat.reduceLT, Nat.reduceEqDiff, reduceCtorEq, Nat.reduceAdd, if_true, if_false, true_and, and_true, hn, hd, ha, hM3.l0, hM3.l1, hM3.l2, hM3.l3, hM3.l4, hM3.la]
        exact ⟨gk2.trans g8, p1, p2, os, nx, rfl, rfl, q1, q2, q3, q4, hP1, hP2⟩
      · simp (disch := first | omega | decide | (simp only [List.length_cons, List.length_nil] <;> omega)) only [push_cast, ↓reduceIte, Nat.reduceLT, Nat.reduceEqDiff, reduceCtorEq, Nat.reduceAdd, if_true, if_false, true_and, and_true, hn, hd, ha, hM7.l0, hM7.l1, hM7.l2, hM7.l3, hM7.l4, hM7.la, hE0, hE2, hMa.l0, hMa.l1, hMa.l2, hMa.l3, hMa.l4, hMa.la, hMe.l0, hMe.l1, hMe.l2, hMe.l3, hMe.l4, hMe.la, f1, hMf.l0, hMf.l1, hMf.l2, hMf.l3, hMf.l4, hMf.la, AH.new_next, f2, hMg.l0, hMg.l1, hMg.l2, hMg.l3, hMg.l4, hMg.la]
        refine ACall.mono ?_ (hfin q2 j2 gj2 hq2)
        rintro _ k3 ⟨g8, p1, p2, rfl, os, nx, q1, q2, q3, q4, hP1, hP2⟩
        have hM3 := hM7.sub (gj2.sub.trans g8.sub)
        simp (disch := first | omega | decide | (simp only [List.length_cons, List.length_nil] <;> omega)) only [push_cast, ↓reduceIte, Nat.reduceLT, Nat.reduceEqDiff, reduceCtorEq, Nat.reduceAdd, if_true, if_false, true_and, and_true, hn, hd, ha, hM3.l0, hM3.l1, hM3.l2, hM3.l3, hM3.l4, hM3.la]
        exact ⟨gj2.trans g8, p1, p2, os, nx, rfl, rfl, q1, q2, q3, q4, hP1, hP2⟩
    · obtain ⟨gw0, gw1, q1, j1, f1, gj1, r2, k2, f2, gk2, hr2⟩ := hL.w3
      have hMd := hM7.sub gw0.sub
      have hMe := hM7.sub gw1.sub
      have hMf := hM7.sub gj1.sub
      have hMg := hM7.sub gk2.sub
      simp (disch := first | omega | decide | (simp only [List.length_cons, List.length_nil] <;> omega)) only [push_cast, ↓reduceIte, Nat.reduceLT, Nat.reduceEqDiff, reduceCtorEq, Nat.reduceAdd, if_true, if_false, true_and, and_true, hn, hd, ha, hM7.l0, hM7.l1, hM7.l2, hM7.l3, hM7.l4, hM7.la, hE0, hE2, hMd.l0, hMd.l1, hMd.l2, hMd.l3, hMd.l4, hMd.la, hMe.l0, hMe.l1, hMe.l2, hMe.l3, hMe.l4, hMe.la, AH.new_next, f1, hMf.l0, hMf.l1, hMf.l2, hMf.l3, hMf.l4, hMf.la, f2, hMg.l0, hMg.l1, hMg.l2, hMg.l3, hMg.l4, hMg.la]
      refine ACall.mono ?_ (hfin r2 k2 gk2 hr2)
      rintro _ k3 ⟨g8, p1, p2, rfl, os, nx, q1, q2, q3, q4, hP1, hP2⟩
      have hM3 := hM7.sub (gk2.sub.trans g8.sub)
      simp (disch := first | omega | decide | (simp only [List.length_cons, List.length_nil] <;> omega)) only [push_cast, ↓reduceIte, Nat.reduceLT, Nat.reduceEqDiff, reduceCtorEq, Nat.reduceAdd, if_true, if_false, true_and, and_true, hn, hd, ha, hM3.l0, hM3.l1, hM3.l2, hM3.l3, hM3.l4, hM3.la]
      exact ⟨gk2.trans g8, p1, p2, os, nx, rfl, rfl, q1, q2, q3, q4, hP1, hP2⟩
  clear ha hn hd a
  rintro _ a k3 ⟨rfl, hn, hd, gk, t1, t4, t14, t10, p1, p2, os, nx, t15, t16, t17, q1, q2, q3, q4, hP1, hP2⟩
  have hyk := hys.sub gk.sub
  have hvk := hv7.sub gk.sub
  have hc3 : ((nx.length : Int) = ys.length) := by omega
  have hc4 : ¬ ((os.length : Int) = 0) := by omega
  have hosl : (os.length : Int) = n.outs.length + 1 := by omega
  simp (disch := first | omega | decide | (simp only [List.length_cons, List.length_nil] <;> omega)) only [push_cast, ↓reduceIte, Nat.reduceLT, Nat.reduceEqDiff, reduceCtorEq, Nat.reduceAdd, if_true, if_false, true_and, and_true, hn, hd, t1, t4, t14, t10, t15, t16, t17, hP1.lenA Tryz.underlying43, hP2.lenA Tryz.underlying43, hyk.lenA Tryz.underlying43, hc3, hc4, hvk.lenA Tryz.underlying25]
  refine AW.loopN 80 [18, 20] (fun m a' h' => h' = k3 ∧ ∃ k : Nat, a'.tm 80 = .int .i64 k ∧ k + m = ord.length ∧ a'.tm 18 = .bool (prevE ys ord si k)) ord.length ?_ ?_
  · exact ⟨rfl, 0, by simp (disch := first | omega | decide | (simp only [List.length_cons, List.length_nil] <;> omega)) only [push_cast, ↓reduceIte, Nat.reduceLT, Nat.reduceEqDiff, reduceCtorEq, Nat.reduceAdd, if_true, if_false, true_and, and_true], by omega, by simp (disch := first | omega | decide | (simp only [List.length_cons, List.length_nil] <;> omega)) only [push_cast, ↓reduceIte, Nat.reduceLT, Nat.reduceEqDiff, reduceCtorEq, Nat.reduceAdd, if_true, if_false, true_and, and_true]; rfl⟩
  rintro a1 m a' h' hk kn kd kt ⟨rfl, k, h80, him, h18⟩
  simp (disch := first | omega | decide | (simp only [List.length_cons, List.length_nil] <;> omega)) only [push_cast, ↓reduceIte, Nat.reduceLT, Nat.reduceEqDiff, reduceCtorEq, Nat.reduceAdd, if_true, if_false, true_and, and_true, kn, kd, kt, hn, hd, t1, t4, t14, t10, t15, t16, t17, h80, h18]
  refine condV_of (fun hlt => ?_) (fun hge => ?_)
  · have hi : k < ord.length := by have := hlt; simp at this; omega
    have hidx := hvk.idxI sl22 .i64 k (by omega) (by omega)
    have hld := hvk.ldI sl22 k (by omega)
    rw [Int.toNat_natCast] at hidx
    have hz : ord[k]? = some (ord.getD k 0) := by simp [List.getD_eq_getElem?_getD, List.getElem?_eq_getElem hi]
    obtain ⟨i1, hi1, ei⟩ := o.perm.range (List.mem_of_getElem? hz)
    have hnk := q4 k hi
    have hpk : prevE ys ord si (k + 1) = ys.getD (ord.getD k 0).toNat false := by simp [prevE]
    generalize ord.getD k 0 = z at *
    have hz0 : ¬ z < 0 := by omega
    have hz1 : ¬ z ≥ ys.length := by omega
    have hidxN := hP2.idxB sl23 .i64 z (by omega) (by omega)
    have hldN := hP2.ldB sl23 z.toNat (by omega)
    have hidxY := hyk.idxB sl23 .i64 z (by omega) (by omega)
    have hldY := hyk.ldB sl23 z.toNat (by omega)
    rw [hnk] at hldN
    rw [← hpk] at hldY
    have hw : IntKind.i64.wrap ((k : Int) + 1) = k + 1 := wrapI (by omega) (by omega)
    have hneq := eqBin_bool_neq (P := Tryz.prog) Tryz.underlying4 (prevE ys ord si k) (prevE ys ord si k)
    rw [beq_self_eq_true] at hneq
    simp (disch := first | omega | decide | (simp only [List.length_cons, List.length_nil] <;> omega)) only [push_cast, ↓reduceIte, Nat.reduceLT, Nat.reduceEqDiff, reduceCtorEq, Nat.reduceAdd, if_true, if_false, true_and, and_true, kn, kd, kt, hn, hd, t1, t4, t14, t10, t15, t16, t17, h80, h18, hidx, hld, hz0, hz1, hyk.lenA Tryz.underlying43, hidxN, hldN, hneq, hidxY, hldY, hw]
    exact ⟨m - 1, by omega, (by simp (disch := decide) only [Kp_put, put_none, hk]), rfl, k + 1, by simp (disch := first | omega | decide | (simp only [List.length_cons, List.length_nil] <;> omega)) only [push_cast, ↓reduceIte, Nat.reduceLT, Nat.reduceEqDiff, reduceCtorEq, Nat.reduceAdd, if_true, if_false, true_and, and_true], by omega, by simp (disch := first | omega | decide | (simp only [List.length_cons, List.length_nil] <;> omega)) only [push_cast, ↓reduceIte, Nat.reduceLT, Nat.reduceEqDiff, reduceCtorEq, Nat.reduceAdd, if_true, if_false, true_and, and_true]⟩
  · have hi : k = ord.length := by have := hge; simp at this; omega
    subst hi
    have hidxO := hP1.idxB sl23 .i64 n.outs.length (by omega) (by omega)
    have hldO := hP1.ldB sl23 n.outs.length (by omega)
    rw [Int.toNat_natCast] at hidxO
    rw [q2] at hldO
    have heq := eqBin_bool_eql (P := Tryz.prog) Tryz.underlying4 (prevE ys ord si ord.length) (prevE ys ord si ord.length)
    rw [beq_self_eq_true] at heq
    simp (disch := first | omega | decide | (simp only [List.length_cons, List.length_nil] <;> omega)) only [push_cast, ↓reduceIte, Nat.reduceLT, Nat.reduceEqDiff, reduceCtorEq, Nat.reduceAdd, if_true, if_false, true_and, and_true, kn, kd, kt, hn, hd, t1, t4, t14, t10, t15, t16, t17, h80, h18, hP1.lenA Tryz.underlying43, hosl, hw2, hidxO, hldO, heq]

end Go.Ab.S1

namespace Go.Ab.S1
open Go.Proofs

def isTrueV : Value → EH → Bool
  | .bool true, _ => true
  | _, _ => false

def s1pures : List (FuncId × Value) := [(33, .int .i64 0)]

theorem awakeRuns : evCall Tryz.prog (evC ⟨Tryz.prog, s1plans, s1pures⟩ 100000) 9 [] { next := 0, hp := T.full 11 } isTrueV = true := by kernel_rfl

theorem mixedW : Tryz.prog.follows .mixedOrders = true := by kernel_rfl

theorem emptyDen : (EH.den { next := 0, hp := T.full 11 }) = emptyH := by
  simp only [EH.den, emptyH]; congr 1; funext i; exact full_get 11 i

theorem awake (h : AH) : ACall Tryz.prog 9 [] h (fun v h' => v = .bool true ∧ h' = h) := by
  refine ACall.closed rfl rfl ?_ h
  have := evCall_sound (evC_sound (E := ⟨Tryz.prog, s1plans, s1pures⟩) mixedW 100000) 9 [] _ isTrueV awakeRuns
  rw [emptyDen] at this
  refine ACall.mono ?_ this
  rintro v h' ⟨eh, rfl, hk⟩
  unfold isTrueV at hk
  split at hk
  · rfl
  · cases hk
end Go.Ab.S1
