/- The values of the scanned netlist, plainly. netlabref20.Bits. Slices of truths of one's own: what is appended to them. netlablaw31.ScanTransparent and ScanShifts: what they append and compare. scan.Load and .Unload, whose results are one's own. What Load and Unload hand back is one thing. Slices of slices of truths: rows, one's own, copies, equality. netlist.Run. scan.Pattern. -/
import Derived.Test.YtnejoceplinjpaaGreatB13
set_option linter.unusedSimpArgs false
set_option linter.unusedVariables false
namespace Go.Ab.S1
open Go.Proofs

/-! ### The multiplexer -/

def rows8 (b0 b1 b2 b3 b4 b5 b6 b7 : Bool) : Int :=
  let a0 : Int := if b0 = true then orE .u64 0 (shlE .u64 0) else 0
  let a1 := if b1 = true then orE .u64 a0 (shlE .u64 1) else a0
  let a2 := if b2 = true then orE .u64 a1 (shlE .u64 2) else a1
  let a3 := if b3 = true then orE .u64 a2 (shlE .u64 3) else a2
  let a4 := if b4 = true then orE .u64 a3 (shlE .u64 4) else a3
  let a5 := if b5 = true then orE .u64 a4 (shlE .u64 5) else a4
  let a6 := if b6 = true then orE .u64 a5 (shlE .u64 6) else a5
  if b7 = true then orE .u64 a6 (shlE .u64 7) else a6

theorem permute8 (t : Int) (p : List Int) : permuteE t 3 p = rows8 (evalE t (idxGo 0 0 0 p)) (evalE t (idxGo 1 0 0 p)) (evalE t (idxGo 2 0 0 p)) (evalE t (idxGo 3 0 0 p)) (evalE t (idxGo 4 0 0 p)) (evalE t (idxGo 5 0 0 p)) (evalE t (idxGo 6 0 0 p)) (evalE t (idxGo 7 0 0 p)) := rfl

theorem rows8_202 : ∀ b0 b1 b2 b3 b4 b5 b6 b7 : Bool, rows8 b0 b1 b2 b3 b4 b5 b6 b7 = 202 → b0 = false ∧ b1 = true ∧ b2 = false ∧ b3 = true ∧ b4 = false ∧ b5 = false ∧ b6 = true ∧ b7 = true := by
  intro b0 b1 b2 b3 b4 b5 b6 b7
  cases b0 <;> cases b1 <;> cases b2 <;> cases b3 <;> cases b4 <;> cases b5 <;> cases b6 <;> cases b7 <;> decide

def kb (x y z : Bool) : Int :=
  let a0 : Int := if x = true then orE .i64 0 (shlE .i64 0) else 0
  let a1 := if y = true then orE .i64 a0 (shlE .i64 1) else a0
  if z = true then orE .i64 a1 (shlE .i64 2) else a1

theorem kGo3 (V : List Bool) (a b c : Int) : kGo V 0 0 [a, b, c] = kb (ofE V a) (ofE V b) (ofE V c) := rfl

theorem ext33 : ext 3 3 [] = [[0, 1, 2], [0, 2, 1], [1, 0, 2], [1, 2, 0], [2, 0, 1], [2, 1, 0]] := by decide

theorem muxVal {t : Int} {p : List Int} (hp : p ∈ ext 3 3 []) (hh : hitE t 202 3 p = true) (V : List Bool) (q0 q1 q2 : Int) :
    evalE t (kGo V 0 0 (p.map fun k => [q0, q1, q2].getD k.toNat 0)) = if ofE V q2 = true then ofE V q1 else ofE V q0 := by
  have hpm : permuteE t 3 p = 202 := by
    simp only [hitE, decide_eq_true_eq] at hh
    split at hh
    · exact hh
    · cases hh
  rw [permute8] at hpm
  obtain ⟨h0, h1, h2, h3, h4, h5, h6, h7⟩ := rows8_202 _ _ _ _ _ _ _ _ hpm
  clear hpm hh
  rw [ext33] at hp
  simp only [List.mem_cons, List.not_mem_nil, or_false] at hp
  rcases hp with rfl | rfl | rfl | rfl | rfl | rfl
  all_goals
    simp only [List.map_cons, List.map_nil]
    rw [kGo3]
    simp only [show Int.toNat 0 = 0 from rfl, show Int.toNat 1 = 1 from rfl, show Int.toNat 2 = 2 from rfl, List.getD_cons_zero, List.getD_cons_succ]
    generalize ofE V q0 = b0
    generalize ofE V q1 = b1
    generalize ofE V q2 = b2
    cases b0 <;> cases b1 <;> cases b2
    all_goals first
      | exact (congrArg (evalE t) (by decide)).trans h0
      | exact (congrArg (evalE t) (by decide)).trans h1
      | exact (congrArg (evalE t) (by decide)).trans h2
      | exact (congrArg (evalE t) (by decide)).trans h3
      | exact (congrArg (evalE t) (by decide)).trans h4
      | exact (congrArg (evalE t) (by decide)).trans h5
      | exact (congrArg (evalE t) (by decide)).trans h6
      | exact (congrArg (evalE t) (by decide)).trans h7

/-! ### The steps, one by one -/

theorem insGo_prefix (n : Net) : ∀ (ord : List Int) (s : Int × Net), ∃ l, (ord.foldl (insStep n) s).2.insts = s.2.insts ++ l := by
  intro ord
  induction ord with
  | nil => intro s; exact ⟨[], by simp⟩
  | cons i is ih =>
    intro s
    obtain ⟨l, hl⟩ := ih (insStep n s i)
    exact ⟨[insInst n s i] ++ l, by rw [List.foldl_cons, hl]; simp [insStep]⟩

theorem insGo_flop (n : Net) {j : Nat} : ∀ (ord : List Int) (s : Int × Net), (∀ z ∈ ord, z.toNat ≠ j) → (ord.foldl (insStep n) s).2.flops.getD j default = s.2.flops.getD j default := by
  intro ord
  induction ord with
  | nil => intro s _; rfl
  | cons i is ih =>
    intro s h
    rw [List.foldl_cons, ih _ (fun z hz => h z (List.mem_cons_of_mem _ hz))]
    show (s.2.flops.set i.toNat _).getD j default = _
    rw [List.getD_eq_getElem?_getD, List.getElem?_set_ne (h i (List.mem_cons_self ..)), List.getD_eq_getElem?_getD]

def insAt (n : Net) (ord : List Int) (k : Nat) : Int × Net := (ord.take k).foldl (insStep n) (n.inputs + 1, insBase n)

theorem insAt_succ {n : Net} {ord : List Int} {k : Nat} (hk : k < ord.length) : insAt n ord (k + 1) = insStep n (insAt n ord k) (ord.getD k 0) := by
  unfold insAt
  rw [take_succ_getD hk 0, List.foldl_append]; rfl

theorem insAt_go {n : Net} {ord : List Int} (k : Nat) : insGo n ord = (ord.drop k).foldl (insStep n) (insAt n ord k) := by
  unfold insGo insAt
  rw [← List.foldl_append, List.take_append_drop]

section
variable {n : Net} {ord : List Int}

theorem insAt_k (o : InsOK n ord) {k : Nat} (hk : k ≤ ord.length) : InsK n k (insAt n ord k) := by
  have s := ShapeOK.of (netE_zero.1 o.net).1
  have hp := pick3_ok o.found
  have := InsK.go s hp.2.2.2.1 hp.2.2.2.2 (ord.take k) (InsK.start s) (fun z hz => by obtain ⟨i, hi, rfl⟩ := o.perm.range (List.mem_of_mem_take hz); have := o.len; omega)
  rw [Nat.zero_add, List.length_take, Nat.min_eq_left hk] at this
  exact this

theorem insAt_before (k : Nat) (hk : k ≤ ord.length) : (insAt n ord k).1 = if k = 0 then n.inputs + 1 else n.inputs + 2 + ord.getD (k - 1) 0 := by
  cases k with
  | zero => rfl
  | succ k => rw [insAt_succ (by omega)]; simp [insStep]

theorem insN_inst (o : InsOK n ord) {k : Nat} (hk : k < ord.length) : (insN n ord).insts.getD (n.insts.length + k) default = insInst n (insAt n ord k) (ord.getD k 0) := by
  have hK := insAt_k o (k := k) (by omega)
  show (insGo n ord).2.insts.getD _ _ = _
  rw [insAt_go (k + 1)]
  obtain ⟨l, hl⟩ := insGo_prefix n (ord.drop (k + 1)) (insAt n ord (k + 1))
  rw [hl, insAt_succ hk]
  show ((insAt n ord k).2.insts ++ [_] ++ l).getD _ _ = _
  rw [List.append_assoc, List.getD_eq_getElem?_getD, List.getElem?_append_right (by rw [hK.il]; omega), hK.il, Nat.sub_self]
  rfl

theorem insN_next (o : InsOK n ord) {k : Nat} (hk : k < ord.length) : ((insN n ord).flops.getD (ord.getD k 0).toNat default).next = firstE n + 2 + n.insts.length + k := by
  have hK := insAt_k o (k := k) (by omega)
  have hz : ord[k]? = some (ord.getD k 0) := by simp [List.getD_eq_getElem?_getD, List.getElem?_eq_getElem hk]
  obtain ⟨i0, hi0, e0⟩ := o.perm.range (List.mem_of_getElem? hz)
  have hlen := o.len
  show ((insGo n ord).2.flops.getD _ _).next = _
  rw [insAt_go (k + 1), insGo_flop n _ _ (fun z hzm e => by
    obtain ⟨q, hq, e2⟩ := List.getElem_of_mem hzm
    rw [List.getElem_drop] at e2
    have hql : k + 1 + q < ord.length := by rw [List.length_drop] at hq; omega
    obtain ⟨i1, hi1, e1⟩ := o.perm.range (List.mem_of_mem_drop hzm)
    have e3 : ord[k + 1 + q]? = some (ord.getD k 0) := by
      rw [List.getElem?_eq_getElem hql, e2]; congr 1; omega
    have := (List.getElem?_inj hql o.perm.nodup).1 (e3.trans hz.symm)
    omega), insAt_succ hk]
  show (((insAt n ord k).2.flops.set (ord.getD k 0).toNat (insFlop n (insAt n ord k).2 (ord.getD k 0))).getD _ _).next = _
  rw [List.getD_eq_getElem?_getD, List.getElem?_set_self (by rw [hK.fl]; omega)]
  show n.inputs + 2 + ((insAt n ord k).2.flops.length : Int) + (insAt n ord k).2.insts.length = _
  rw [hK.fl, hK.il]; unfold firstE; omega

/-! ### The values -/

def prevE (ys : List Bool) (ord : List Int) (si : Bool) (k : Nat) : Bool := if k = 0 then si else ys.getD (ord.getD (k - 1) 0).toNat false

theorem kGo_map {V W : List Bool} {f : Int → Int} : ∀ (ps : List Int) (acc : Int) (j : Nat), (∀ p ∈ ps, ofE V (f p) = ofE W p) → kGo V acc j (ps.map f) = kGo W acc j ps := by
  intro ps
  induction ps with
  | nil => intro acc j _; rfl
  | cons p ps ih =>
    intro acc j h
    rw [List.map_cons, kGo, kGo, h p (List.mem_cons_self ..), ih _ _ (fun q hq => h q (List.mem_cons_of_mem _ hq))]

theorem scanVals (o : InsOK n ord) {xs ys V W : List Bool} {en si : Bool} (hx : (xs.length : Int) = n.inputs) (hy : ys.length = n.flops.length) (hV : IsVals n xs ys V) (hW : IsVals (insN n ord) (xs ++ [en, si]) ys W) :
    (∀ p, -2 ≤ p ∧ p < firstE n + n.insts.length → ofE W (shiftE n p) = ofE V p) ∧
    (∀ k, k < ord.length → ofE W ((insN n ord).flops.getD (ord.getD k 0).toNat default).next = if en = true then prevE ys ord si k else ofE V (n.flops.getD (ord.getD k 0).toNat default).next) ∧
    ofE W (insGo n ord).1 = prevE ys ord si ord.length := by
  have s := ShapeOK.of (netE_zero.1 o.net).1
  have hi0 := s.i0
  have hFe : firstE n = n.inputs + n.flops.length := rfl
  have hFm := insN_first o
  have hlm := insN_len o
  have hcm : (insN n ord).cells = n.cells := o.k.cells
  have hol := o.len
  -- the old nets
  have hlow : ∀ i, i < xs.length + 2 + ys.length → W.getD i false = (xs ++ [en, si] ++ ys).getD i false := fun i hi => hW.inp i (by simp; omega)
  let U : List Bool := (xs ++ ys) ++ (W.drop (firstE n + 2).toNat).take n.insts.length
  have hWl := hW.len
  simp only [List.length_append, List.length_cons, List.length_nil] at hWl
  have hUh : ∀ i, i < n.insts.length → U.getD ((firstE n).toNat + i) false = W.getD ((firstE n + 2).toNat + i) false := by
    intro i hi
    show ((xs ++ ys) ++ _).getD _ _ = _
    rw [List.getD_eq_getElem?_getD, List.getElem?_append_right (by simp; omega), List.getElem?_take, if_pos (by simp; omega), List.getElem?_drop, List.getD_eq_getElem?_getD]
    congr 2; simp; omega
  have hUl : ∀ i, i < xs.length + ys.length → U.getD i false = (xs ++ ys).getD i false := by
    intro i hi
    show ((xs ++ ys) ++ _).getD _ _ = _
    rw [List.getD_eq_getElem?_getD, List.getElem?_append_left (by simpa using hi), List.getD_eq_getElem?_getD]
  have hsh : ∀ p, -2 ≤ p ∧ p < firstE n + n.insts.length → ofE W (shiftE n p) = ofE U p := by
    intro p hp
    rw [shiftE_eq s hp]
    by_cases hpi : p ≥ n.inputs
    · rw [if_pos hpi]
      by_cases hpF : p < firstE n
      · have e1 : ¬ p = -2 := by omega
        have e2 : ¬ p + 2 = -2 := by omega
        have e3 : 0 ≤ p := by omega
        have e4 : 0 ≤ p + 2 := by omega
        simp only [ofE, e1, e2, e3, e4, decide_false, decide_true, Bool.false_or, Bool.true_and]
        rw [hlow _ (by omega), hUl _ (by omega), List.getD_eq_getElem?_getD, List.getElem?_append_right (by simp; omega), List.getD_eq_getElem?_getD, List.getElem?_append_right (by omega)]
        congr 2; simp; omega
      · rw [ofE_high (V := W) (F := firstE n + 2) (by omega) (by omega), ofE_high (V := U) (F := firstE n) (by omega) (by omega), hUh _ (by omega)]
        congr 2; omega
    · rw [if_neg hpi]
      unfold ofE
      by_cases h0 : 0 ≤ p
      · rw [hlow _ (by omega), hUl _ (by omega), List.getD_eq_getElem?_getD, List.append_assoc, List.getElem?_append_left (by omega), List.getD_eq_getElem?_getD, List.getElem?_append_left (by omega)]
      · simp [h0]
  have hU : IsVals n xs ys U := by
    refine ⟨by show ((xs ++ ys) ++ _).length = _; simp; omega, hUl, fun i hi => ?_⟩
    rw [hUh i hi, ← hFm, hW.inst i (by omega), insN_pinsOld o hi, kGo_map (W := U) _ _ _ (fun p hp => hsh p (s.pinOf hi hp))]
    congr 1
    unfold instTable
    rw [hcm, insN_split o, List.getD_eq_getElem?_getD (l := _ ++ _), List.getElem?_append_left (by simpa using hi), List.getElem?_map, List.getElem?_eq_getElem hi, List.getD_eq_getElem?_getD (l := n.insts), List.getElem?_eq_getElem hi]
    rfl
  have hUV : U = V := IsVals.unique s (netE_zero.1 o.net).2 (by omega) hU hV
  rw [hUV] at hsh
  -- the net before
  have hbef : ∀ k, k ≤ ord.length → ofE W (insAt n ord k).1 = prevE ys ord si k := by
    intro k hk
    rw [insAt_before k hk]
    unfold prevE
    by_cases h0 : k = 0
    · rw [if_pos h0, if_pos h0]
      have e1 : ¬ n.inputs + 1 = -2 := by omega
      have e2 : 0 ≤ n.inputs + 1 := by omega
      simp only [ofE, e1, e2, decide_false, decide_true, Bool.false_or, Bool.true_and]
      rw [hlow _ (by omega), List.getD_eq_getElem?_getD, List.append_assoc, List.getElem?_append_right (by omega), show (n.inputs + 1).toNat - xs.length = 1 by omega]
      rfl
    · rw [if_neg h0, if_neg h0]
      have hz : ord[k - 1]? = some (ord.getD (k - 1) 0) := by simp [List.getD_eq_getElem?_getD, List.getElem?_eq_getElem (show k - 1 < ord.length by omega)]
      obtain ⟨i1, hi1, e1⟩ := o.perm.range (List.mem_of_getElem? hz)
      rw [e1]
      have e2 : ¬ n.inputs + 2 + (i1 : Int) = -2 := by omega
      have e3 : 0 ≤ n.inputs + 2 + (i1 : Int) := by omega
      simp only [ofE, e2, e3, decide_false, decide_true, Bool.false_or, Bool.true_and]
      rw [hlow _ (by omega), List.getD_eq_getElem?_getD, List.getElem?_append_right (by simp; omega), List.getD_eq_getElem?_getD]
      congr 2; simp; omega
  refine ⟨hsh, fun k hk => ?_, ?_⟩
  · rw [insN_next o hk, ofE_high (V := W) (F := firstE n + 2) (by omega) (by omega)]
    have e1 : (firstE n + 2 + (n.insts.length : Int) + k - (firstE n + 2)).toNat = n.insts.length + k := by omega
    rw [e1, ← hFm, hW.inst _ (by omega)]
    have hpin : pinsOf (insN n ord) (n.insts.length + k) = (pick3 n).2.map fun z => [shiftE n (n.flops.getD (ord.getD k 0).toNat default).next, (insAt n ord k).1, n.inputs].getD z.toNat 0 := by
      unfold pinsOf; rw [insN_inst o hk]; rfl
    have htab : instTable (insN n ord) (n.insts.length + k) = (n.cells.getD (pick3 n).1.toNat default).table := by
      unfold instTable; rw [insN_inst o hk, hcm]; rfl
    obtain ⟨q, hq1, hq2, hq3, hq4, hq5⟩ := matchGo_mem (pick3_mem o.found)
    rw [Nat.zero_add] at hq2
    rw [hpin, htab, hq2, Int.toNat_natCast, muxVal hq4 hq5]
    have hz : ord[k]? = some (ord.getD k 0) := by simp [List.getD_eq_getElem?_getD, List.getElem?_eq_getElem hk]
    obtain ⟨i1, hi1, ei⟩ := o.perm.range (List.mem_of_getElem? hz)
    have hfl : n.flops.getD (ord.getD k 0).toNat default ∈ n.flops := getD_mem (by omega) default
    rw [hbef k (by omega), hsh _ (s.flop _ hfl).1]
    have hen : ofE W n.inputs = en := by
      have e1 : ¬ n.inputs = -2 := by omega
      simp only [ofE, e1, hi0, decide_false, decide_true, Bool.false_or, Bool.true_and]
      rw [hlow _ (by omega), List.getD_eq_getElem?_getD, List.append_assoc, List.getElem?_append_right (by omega), show n.inputs.toNat - xs.length = 0 by omega]
      rfl
    rw [hen]
  · have := hbef ord.length (Nat.le_refl _)
    unfold insAt at this
    rw [List.take_length] at this
    exact this
end

end Go.Ab.S1

namespace Go.Ab.S1
open Go.Proofs
set_option linter.unusedSimpArgs false
set_option linter.unusedVariables false
set_option maxRecDepth 100000
set_option maxHeartbeats 4000000
attribute [local push_cast] wpA_skip wpA_ret wpA_exit wpA_seq wpA_block wpA_cond2 andK_true wpA_region wpA_draw wpA_loop thenQ_normal thenQ_ret thenQ_exit blockQ_normal blockQ_ret blockQ_exit condV_true condV_false opsM_nil opsM_cons2 okM_true wantM_true wantM_false stepM seqM_cons2 seqM_nil2 okS_true wantS_true wantS_false stepS skipS okB Keeps_nil contK_app List.zip_cons_cons List.zip_nil_left List.zip_nil_right Op.operands Call.operands Array.toList_append List.append_nil List.nil_append List.all_cons List.all_nil cOK plain put_n put_tm put_none put_df ev_tmp ev_const ev_func wanted_none wanted_some callR_func dop ex_some1 aBuiltin aBin intBin aUn Option.map_some Bool.and_true Bool.true_and Bool.and_self List.map_cons List.map_nil List.toList_toArray List.getElem?_toArray List.getElem?_cons_zero List.getElem?_cons_succ Option.getD_some Option.getD_none Bool.false_eq_true eq_self_iff_true decide_true decide_false List.cons_append aExtract resL resV List.getD_cons_zero List.getD_cons_succ List.getD_nil Nat.succ_ne_self g1 g2 yieldedA2 isB_bool isB_undef g3 Option.bind_some Option.bind_none bne_self_eq_false beq_self_eq_true Bool.not_true Bool.not_false Int.toNat_natCast List.length_map List.mem_cons List.not_mem_nil or_false not_false_eq_true decide_not Bool.not_not bodyR_ret2 bodyR_normal2 closeMarks_nil ex_some0 Nat.zero_add Nat.add_zero ieq ine List.map_toArray Option.toArray_none Option.toArray_some oev Keeps_cons Still_eq selL wpX_skip wpX_ret wpX_exit wpX_seq wpX_block wpX_cond wpX_region wpX_draw wpX_loop List.take_succ_cons List.take_zero List.drop_succ_cons List.drop_zero Int.zero_add Int.add_zero aNil

theorem tmod64 (i : Nat) : (i : Int).tmod 64 = ((i % 64 : Nat) : Int) := by
  rw [Int.ofNat_tmod]; rfl

theorem bitsB {h : AH} {x : Int} {n : Int} (h0 : 0 ≤ n) (h1 : n ≤ 64) :
    ACall Tryz.prog 22 [.int .u64 x, .int .i64 n] h (fun r h' => Gr h h' ∧ ∃ bs : List Bool, (bs.length : Int) = n ∧ SlOf h' r (bs.map .bool)) := by
  refine ACall.wf ⟨_, Tryz.func22, rfl, by kernel_rfl⟩ fun hwf => ?_
  refine ACall.of_wp 22 [.tmp 4] Tryz.func22 rfl (by kernel_rfl) rfl rfl fun a hn hd ha => ?_
  simp (disch := first | omega | decide | (simp only [List.length_cons, List.length_nil] <;> omega)) only [push_cast, ↓reduceIte, Nat.reduceLT, Nat.reduceEqDiff, reduceCtorEq, Nat.reduceAdd, if_true, if_false, true_and, and_true, hn, hd, ha]
  refine AW.loopN 7 [5, 6] (fun m a' h' => ∃ (i : Nat) (rv : Value) (bs : List Bool), a'.tm 6 = .int .i64 i ∧ i + m = n.toNat ∧ a'.tm 5 = rv ∧ bs.length = i ∧ Gr h h' ∧ FrSl 4 h h' rv (bs.map .bool)) n.toNat ?_ ?_
  · exact ⟨0, _, [], by simp (disch := first | omega | decide | (simp only [List.length_cons, List.length_nil] <;> omega)) only [push_cast, ↓reduceIte, Nat.reduceLT, Nat.reduceEqDiff, reduceCtorEq, Nat.reduceAdd, if_true, if_false, true_and, and_true], by omega, by simp (disch := first | omega | decide | (simp only [List.length_cons, List.length_nil] <;> omega)) only [push_cast, ↓reduceIte, Nat.reduceLT, Nat.reduceEqDiff, reduceCtorEq, Nat.reduceAdd, if_true, if_false, true_and, and_true], rfl, Gr.refl hwf, FrSl.nil _ _ _⟩
  rintro a1 m a' h' hk kn kd kt ⟨i, rv, bs, h6, him, h5, hbl, hg, hf⟩
  simp (disch := first | omega | decide | (simp only [List.length_cons, List.length_nil] <;> omega)) only [push_cast, ↓reduceIte, Nat.reduceLT, Nat.reduceEqDiff, reduceCtorEq, Nat.reduceAdd, if_true, if_false, true_and, and_true, kn, kd, kt, hn, hd, ha, h6, h5]
  refine condV_of (fun hlt => ?_) (fun hge => ?_)
  · have hi : (i : Int) < n := by simpa using hlt
    have hw : IntKind.i64.wrap ((i : Int) + 1) = i + 1 := wrapI (by omega) (by omega)
    have h64 : ¬ ((64 : Int) = 0) := by decide
    have h2 : ¬ ((2 : Int) = 0) := by decide
    have hsh : ∃ y, shBin .shr .u64 x ((i : Int).tmod 64) = some (.int .u64 y) := ⟨_, shrR .u64 x _ (by rw [tmod64]; omega)⟩
    obtain ⟨y, hsh⟩ := hsh
    simp (disch := first | omega | decide | (simp only [List.length_cons, List.length_nil] <;> omega)) only [push_cast, ↓reduceIte, Nat.reduceLT, Nat.reduceEqDiff, reduceCtorEq, Nat.reduceAdd, if_true, if_false, true_and, and_true, kn, kd, kt, hn, hd, ha, h6, h5, h64]
    rw [hsh]
    simp (disch := first | omega | decide | (simp only [List.length_cons, List.length_nil] <;> omega)) only [push_cast, ↓reduceIte, Nat.reduceLT, Nat.reduceEqDiff, reduceCtorEq, Nat.reduceAdd, if_true, if_false, true_and, and_true, kn, kd, kt, hn, hd, ha, h6, h5, h2]
    generalize decide (y.tmod 2 = 1) = b
    have happ := app1 t23 (t := 43) hg hf (by simp; omega) (by simp; omega) (.bool b)
    simp (disch := first | omega | decide | (simp only [List.length_cons, List.length_nil] <;> omega)) only [push_cast, ↓reduceIte, Nat.reduceLT, Nat.reduceEqDiff, reduceCtorEq, Nat.reduceAdd, if_true, if_false, true_and, and_true, kn, kd, kt, hn, hd, ha, h6, h5, aBuild1 t23 h' (x := .bool b) rfl rfl, happ, hw]
    refine ⟨m - 1, by omega, (by simp (disch := decide) only [Kp_put, put_none, hk]), i + 1, app1V h' bs.length, bs ++ [b], by simp (disch := first | omega | decide | (simp only [List.length_cons, List.length_nil] <;> omega)) only [push_cast, ↓reduceIte, Nat.reduceLT, Nat.reduceEqDiff, reduceCtorEq, Nat.reduceAdd, if_true, if_false, true_and, and_true], by omega, by simp (disch := first | omega | decide | (simp only [List.length_cons, List.length_nil] <;> omega)) only [push_cast, ↓reduceIte, Nat.reduceLT, Nat.reduceEqDiff, reduceCtorEq, Nat.reduceAdd, if_true, if_false, true_and, and_true], by simp [hbl], app1_gr hwf hg hf, ?_⟩
    have := app1_fr (e := 4) (x := .bool b) (v := rv) hg (vs := bs.map .bool)
    simpa using this
  · have hi : ¬ (i : Int) < n := by simpa using hge
    simp (disch := first | omega | decide | (simp only [List.length_cons, List.length_nil] <;> omega)) only [push_cast, ↓reduceIte, Nat.reduceLT, Nat.reduceEqDiff, reduceCtorEq, Nat.reduceAdd, if_true, if_false, true_and, and_true, kn, kd, kt, hn, hd, ha, h6, h5]
    exact ⟨hg, bs, by omega, hf.sl⟩

end Go.Ab.S1

namespace Go.Ab.S1
open Go.Proofs
set_option linter.unusedSimpArgs false
set_option linter.unusedVariables false
set_option maxRecDepth 100000
set_option maxHeartbeats 4000000
attribute [local push_cast] wpA_skip wpA_ret wpA_exit wpA_seq wpA_block wpA_cond2 andK_true wpA_region wpA_draw wpA_loop thenQ_normal thenQ_ret thenQ_exit blockQ_normal blockQ_ret blockQ_exit condV_true condV_false opsM_nil opsM_cons2 okM_true wantM_true wantM_false stepM seqM_cons2 seqM_nil2 okS_true wantS_true wantS_false stepS skipS okB Keeps_nil contK_app List.zip_cons_cons List.zip_nil_left List.zip_nil_right Op.operands Call.operands Array.toList_append List.append_nil List.nil_append List.all_cons List.all_nil cOK plain put_n put_tm put_none put_df ev_tmp ev_const ev_func wanted_none wanted_some callR_func dop ex_some1 aBuiltin aBin intBin aUn Option.map_some Bool.and_true Bool.true_and Bool.and_self List.map_cons List.map_nil List.toList_toArray List.getElem?_toArray List.getElem?_cons_zero List.getElem?_cons_succ Option.getD_some Option.getD_none Bool.false_eq_true eq_self_iff_true decide_true decide_false List.cons_append aExtract resL resV List.getD_cons_zero List.getD_cons_succ List.getD_nil Nat.succ_ne_self g1 g2 yieldedA2 isB_bool isB_undef g3 Option.bind_some Option.bind_none bne_self_eq_false beq_self_eq_true Bool.not_true Bool.not_false Int.toNat_natCast List.length_map List.mem_cons List.not_mem_nil or_false not_false_eq_true decide_not Bool.not_not bodyR_ret2 bodyR_normal2 closeMarks_nil ex_some0 Nat.zero_add Nat.add_zero ieq ine List.map_toArray Option.toArray_none Option.toArray_some oev Keeps_cons Still_eq selL wpX_skip wpX_ret wpX_exit wpX_seq wpX_block wpX_cond wpX_region wpX_draw wpX_loop List.take_succ_cons List.take_zero List.drop_succ_cons List.drop_zero Int.zero_add Int.add_zero aNil
attribute [local push_cast] treeM_nil treeM_step treeM_two okX_true wantX_true wantX_false stepX skipX

theorem ownPre {P : Program} {t e : TypeId} (ht : Sl1 P t e) {h : AH} {v : Value} {B : Nat} {vs : List Value} (ho : OwnSl e h v B vs) {k : IntKind} {n : Nat} (hn : n ≤ vs.length) :
    ∃ v', aSlice P t v none (some (.int k n)) = some v' ∧ SlOf h v' (vs.take n) := by
  rcases ho with ⟨rfl, rfl⟩ | ⟨hne, rfl, hg⟩
  · have hn0 : n = 0 := by simpa using hn
    subst hn0
    exact ⟨_, sliceNil ht k, none, 0, 0, rfl, by simp, fun q e => (nomatch e), .inl (by simp)⟩
  · refine ⟨_, sliceHiS ht B 0 vs.length k n (by omega) (by omega), some ⟨B, 0, none⟩, n, SL + 1, rfl, by rw [List.length_take]; omega, fun q e => by cases e; rfl, .inr ⟨B, 0, _, vs, rfl, hg, rfl, fun i x hx => ?_⟩⟩
    rw [Nat.zero_add]
    rw [List.getElem?_take] at hx
    split at hx
    · exact hx
    · cases hx

theorem appOwn {h0 k : AH} {rv sv : Value} {ob : Option AObj} {A : Nat} {zs ys : List Bool} (w0 : WFH h0) (g : Gr h0 k) (hv : BoolsV k rv ob A zs) (lo : ∀ o, ob = some o → h0.next ≤ A) (hs : SlOf k sv (ys.map .bool)) (hb : zs.length + ys.length ≤ 4294967296) :
    ∃ r h' ob' A', aAppend Tryz.prog #[43, 43] rv sv k = some (r, h') ∧ Gr h0 h' ∧ BoolsV h' r ob' A' (zs ++ ys) ∧ (∀ o, ob' = some o → h0.next ≤ A') ∧ (∀ B o, k.get B = some o → (B = A → ob = none) → h'.get B = some o) ∧ k.next ≤ h'.next := by
  obtain ⟨r', h'', happ, hgo⟩ := appendAny (t := 43) (t2 := 43) t23 ⟨_, Tryz.underlying43⟩ g.wf hv.1 hv.2 hs.src (by simp [oneC]) (by simp only [List.length_map]; omega) (by simp only [List.length_map]; omega)
  obtain ⟨ob', A', hV, hgA, hA⟩ := hgo.up
  refine ⟨r', h'', ob', A', happ, ⟨hgo.wf, fun B o hB => hgo.frx B o (g.sub B o hB) (fun e => ?_), Nat.le_trans g.nx hgo.nx⟩, ⟨by rw [List.map_append]; exact hV, hgA⟩, fun o e => ?_, hgo.frx, hgo.nx⟩
  · cases hob : ob with
    | none => rfl
    | some o2 =>
      have h8 := lo o2 hob
      have := AH.get_lt w0 hB
      omega
  · rcases hA (by rw [e]; simp) with ⟨rfl, hne⟩ | hA
    · cases hob : ob with
      | none => exact absurd hob hne
      | some o2 => exact lo o2 hob
    · exact Nat.le_trans g.nx hA

theorem aBuild2b (h : AH) (x y : Bool) : aBuildSlice Tryz.prog 43 2 [(0, .bool x), (1, .bool y)] h = some (.slice (some ⟨h.next, 0, none⟩) 2 2, h.new (.row [.bool x, .bool y] 4 true)) := by
  obtain ⟨i, hi, h1, hb, hz⟩ := t23.info
  have hp : plain 9 (.bool false) = true := rfl
  have hc : (Value.bool false).cells.size = 1 := rfl
  have hl : (Value.bool false).cells.toList = [.bool false] := rfl
  have hx1 : ∀ z : Bool, (Value.bool z).cells.size = 1 := fun _ => rfl
  have hx2 : ∀ z : Bool, (Value.bool z).cells.toList = [.bool z] := fun _ => rfl
  simp only [aBuildSlice, t23.sl, hi, hz, h1, hp, hc, fillL, hl, zeros_one]
  simp [SL, hx1, hx2, setL, oneC, List.replicate]

/-- The three ways in which the inputs are laid. -/
structure Laid3 (k0 : AH) (xv : Value) (xs : List Bool) (en si : Bool) (Fin : Value → AH → Prop) : Prop where
  w1 : ∃ r1 k1, aAppend Tryz.prog #[43, 43] (.slice (some ⟨k0.next, 0, none⟩) 0 0) xv (k0.new (.row [] 4 true)) = some (r1, k1) ∧ Gr k0 k1 ∧ Gr k0 (k1.new (.row [.bool en, .bool si] 4 true)) ∧
    ∃ r2 k2, aAppend Tryz.prog #[43, 43] r1 (.slice (some ⟨k1.next, 0, none⟩) 2 2) (k1.new (.row [.bool en, .bool si] 4 true)) = some (r2, k2) ∧ Gr k0 k2 ∧ Fin r2 k2
  w2 : Gr k0 (k0.new (.row [] 4 true)) ∧ Gr k0 ((k0.new (.row [] 4 true)).new (.row [.bool en, .bool si] 4 true)) ∧
    ∃ r1 k1, aAppend Tryz.prog #[43, 43] (.slice (some ⟨k0.next, 0, none⟩) 0 0) xv ((k0.new (.row [] 4 true)).new (.row [.bool en, .bool si] 4 true)) = some (r1, k1) ∧ Gr k0 k1 ∧
    ∃ r2 k2, aAppend Tryz.prog #[43, 43] r1 (.slice (some ⟨k0.next + 1, 0, none⟩) 2 2) k1 = some (r2, k2) ∧ Gr k0 k2 ∧ Fin r2 k2
  w3 : Gr k0 (k0.new (.row [.bool en, .bool si] 4 true)) ∧ Gr k0 ((k0.new (.row [.bool en, .bool si] 4 true)).new (.row [] 4 true)) ∧
    ∃ r1 k1, aAppend Tryz.prog #[43, 43] (.slice (some ⟨k0.next + 1, 0, none⟩) 0 0) xv ((k0.new (.row [.bool en, .bool si] 4 true)).new (.row [] 4 true)) = some (r1, k1) ∧ Gr k0 k1 ∧
    ∃ r2 k2, aAppend Tryz.prog #[43, 43] r1 (.slice (some ⟨k0.next, 0, none⟩) 2 2) k1 = some (r2, k2) ∧ Gr k0 k2 ∧ Fin r2 k2

theorem laid3 {k0 : AH} {xv : Value} {xs : List Bool} {en si : Bool} (w0 : WFH k0) (hx : SlOf k0 xv (xs.map .bool)) (hl : xs.length ≤ 4294967296 - 2) : Laid3 k0 xv xs en si (fun r k => SlOf k r ((xs ++ [en, si]).map .bool)) := by
  have g0 := Gr.refl w0
  have hE : ∀ {k : AH} {A : Nat}, k.get A = some (.row [] 4 true) → BoolsV k (.slice (some ⟨A, 0, none⟩) 0 0) (some (.row [] 4 true)) A [] := fun hg => ⟨.inr (.inr ⟨[], 0, rfl, by omega, Nat.le_refl _, Nat.le_refl _, rfl, rfl⟩), fun o e => by cases e; exact hg⟩
  have hD : ∀ {k : AH} {D : Nat}, k.get D = some (.row [.bool en, .bool si] 4 true) → SlOf k (.slice (some ⟨D, 0, none⟩) 2 2) ([en, si].map .bool) := fun hg => SlOf.lit hg rfl rfl
  refine ⟨?_, ?_, ?_⟩
  · have g1 := g0.new (.row [] 4 true)
    obtain ⟨r1, k1, ob, A, e1, g2, hv, lo, _, n1⟩ := appOwn w0 g1 (hE (by rw [AH.new_get, if_pos rfl])) (fun o e => Nat.le_refl _) (hx.sub g1.sub) (by simp; omega)
    have g3 := g2.new (.row [.bool en, .bool si] 4 true)
    have s3 := Sub.new g2.wf (.row [.bool en, .bool si] 4 true)
    obtain ⟨r2, k2, _, _, e2, g4, hv2, _⟩ := appOwn w0 g3 (hv.sub s3) lo (hD (by rw [AH.new_get, if_pos rfl])) (by simp; omega)
    exact ⟨r1, k1, e1, g2, g3, r2, k2, e2, g4, by simpa using hv2.sl⟩
  · have g1 := g0.new (.row [] 4 true)
    have g2 := g1.new (.row [.bool en, .bool si] 4 true)
    have s2 := Sub.new g1.wf (.row [.bool en, .bool si] 4 true)
    have hA1 : ((k0.new (.row [] 4 true)).new (.row [.bool en, .bool si] 4 true)).get k0.next = some (.row [] 4 true) := s2 _ _ (by rw [AH.new_get, if_pos rfl])
    have hD1 : ((k0.new (.row [] 4 true)).new (.row [.bool en, .bool si] 4 true)).get (k0.next + 1) = some (.row [.bool en, .bool si] 4 true) := by rw [AH.new_get, if_pos (by simp)]
    obtain ⟨r1, k1, ob, A, e1, g3, hv, lo, frx, n1⟩ := appOwn w0 g2 (hE hA1) (fun o e => Nat.le_refl _) (hx.sub g2.sub) (by simp; omega)
    have hD2 := frx _ _ hD1 (fun e => by omega)
    obtain ⟨r2, k2, _, _, e2, g4, hv2, _⟩ := appOwn w0 g3 hv lo (hD hD2) (by simp; omega)
    exact ⟨g1, g2, r1, k1, e1, g3, r2, k2, e2, g4, by simpa using hv2.sl⟩
  · have g1 := g0.new (.row [.bool en, .bool si] 4 true)
    have g2 := g1.new (.row [] 4 true)
    have s2 := Sub.new g1.wf (.row [] 4 true)
    have hD1 : ((k0.new (.row [.bool en, .bool si] 4 true)).new (.row [] 4 true)).get k0.next = some (.row [.bool en, .bool si] 4 true) := s2 _ _ (by rw [AH.new_get, if_pos rfl])
    have hA1 : ((k0.new (.row [.bool en, .bool si] 4 true)).new (.row [] 4 true)).get (k0.next + 1) = some (.row [] 4 true) := by rw [AH.new_get, if_pos (by simp)]
    obtain ⟨r1, k1, ob, A, e1, g3, hv, lo, frx, n1⟩ := appOwn w0 g2 (hE hA1) (fun o e => by omega) (hx.sub g2.sub) (by simp; omega)
    have hD2 := frx _ _ hD1 (fun e => by omega)
    obtain ⟨r2, k2, _, _, e2, g4, hv2, _⟩ := appOwn w0 g3 hv lo (hD hD2) (by simp; omega)
    exact ⟨g1, g2, r1, k1, e1, g3, r2, k2, e2, g4, by simpa using hv2.sl⟩


/-! ### Plainly -/

section
variable {n : Net} {ord : List Int}

theorem scan_outs (o : InsOK n ord) {V W : List Bool} (hs : ∀ p, -2 ≤ p ∧ p < firstE n + n.insts.length → ofE W (shiftE n p) = ofE V p) : (insN n ord).outs.map (ofE W) = n.outs.map (ofE V) ++ [ofE W (insGo n ord).1] := by
  have s := ShapeOK.of (netE_zero.1 o.net).1
  show ((insGo n ord).2.outs ++ [(insGo n ord).1]).map (ofE W) = _
  rw [o.k.outs, List.map_append, List.map_map]
  congr 1
  exact List.map_congr_left fun p hp => hs p (s.out p hp)

theorem scan_next (o : InsOK n ord) {F G : Flop → Bool} (hq : ∀ k, k < ord.length → F ((insN n ord).flops.getD (ord.getD k 0).toNat default) = G (n.flops.getD (ord.getD k 0).toNat default)) : (insN n ord).flops.map F = n.flops.map G := by
  have hfl : (insN n ord).flops.length = n.flops.length := o.k.fl
  apply List.ext_getElem (by simp [hfl])
  intro i h1 h2
  have hi : i < n.flops.length := by simpa using h2
  obtain ⟨k, hk⟩ := o.perm.onto (j := i) (by rw [o.len]; exact hi)
  have hkl := (List.getElem?_eq_some_iff.1 hk).1
  have := hq k hkl
  rw [List.getD_eq_getElem?_getD (l := ord), hk, Option.getD_some, Int.toNat_natCast, List.getD_eq_getElem?_getD, List.getElem?_eq_getElem (by omega), List.getD_eq_getElem?_getD, List.getElem?_eq_getElem hi] at this
  rw [List.getElem_map, List.getElem_map]; exact this
end

end Go.Ab.S1

namespace Go.Ab.S1
open Go.Proofs
set_option linter.unusedSimpArgs false
set_option linter.unusedVariables false
set_option maxRecDepth 100000
set_option maxHeartbeats 4000000
attribute [local push_cast] wpA_skip wpA_ret wpA_exit wpA_seq wpA_block wpA_cond2 andK_true wpA_region wpA_draw wpA_loop thenQ_normal thenQ_ret thenQ_exit blockQ_normal blockQ_ret blockQ_exit condV_true condV_false opsM_nil opsM_cons2 okM_true wantM_true wantM_false stepM seqM_cons2 seqM_nil2 okS_true wantS_true wantS_false stepS skipS okB Keeps_nil contK_app List.zip_cons_cons List.zip_nil_left List.zip_nil_right Op.operands Call.operands Array.toList_append List.append_nil List.nil_append List.all_cons List.all_nil cOK plain put_n put_tm put_none put_df ev_tmp ev_const ev_func wanted_none wanted_some callR_func dop ex_some1 aBuiltin aBin intBin aUn Option.map_some Bool.and_true Bool.true_and Bool.and_self List.map_cons List.map_nil List.toList_toArray List.getElem?_toArray List.getElem?_cons_zero List.getElem?_cons_succ Option.getD_some Option.getD_none Bool.false_eq_true eq_self_iff_true decide_true decide_false List.cons_append aExtract resL resV List.getD_cons_zero List.getD_cons_succ List.getD_nil Nat.succ_ne_self g1 g2 yieldedA2 isB_bool isB_undef g3 Option.bind_some Option.bind_none bne_self_eq_false beq_self_eq_true Bool.not_true Bool.not_false Int.toNat_natCast List.length_map List.mem_cons List.not_mem_nil or_false not_false_eq_true decide_not Bool.not_not bodyR_ret2 bodyR_normal2 closeMarks_nil ex_some0 Nat.zero_add Nat.add_zero ieq ine List.map_toArray Option.toArray_none Option.toArray_some oev Keeps_cons Still_eq selL wpX_skip wpX_ret wpX_exit wpX_seq wpX_block wpX_cond wpX_region wpX_draw wpX_loop List.take_succ_cons List.take_zero List.drop_succ_cons List.drop_zero Int.zero_add Int.add_zero aNil

def LoadOwn (R : List Int → List Bool → List Bool → Prop) (zs : List Int) (bs : List Bool) (h : AH) (r : Value) (h' : AH) : Prop :=
  Gr h h' ∧ ((chainE zs bs.length ≠ 0 ∧ r = .tuple #[.slice none 0 0, .int .i64 (chainE zs bs.length)] ∧ h' = h) ∨
    (chainE zs bs.length = 0 ∧ ∃ A out, r = .tuple #[.slice (some ⟨A, 0, none⟩) zs.length zs.length, .int .i64 0] ∧ R zs bs out ∧ out.length = zs.length ∧ h.next ≤ A ∧ h'.get A = some (.row (out.map .bool) 4 true)))

theorem IsPerm.get {zs : List Int} (hp : IsPerm zs) {k : Nat} (hk : k < zs.length) : ∃ z0 : Nat, z0 < zs.length ∧ zs.getD k 0 = (z0 : Int) ∧ zs[k]? = some (z0 : Int) := by
  obtain ⟨z0, hz0, hze⟩ := hp.range (List.getElem_mem hk)
  exact ⟨z0, hz0, by simp [List.getD_eq_getElem?_getD, hk, hze], by simp [hk, hze]⟩

theorem replicate_bool (n : Nat) : List.replicate n (Value.bool false) = (List.replicate n false).map .bool := by simp

theorem chain' {h : AH} {v : Value} {zs : List Int} {k : Nat} (hv : SlOf h v (zs.map (.int .i64))) (hb : zs.length ≤ 17592186043904) :
    ACall Tryz.prog 54 [v, .int .i64 k] h (fun r h' => r = .int .i64 (chainE zs k) ∧ h' = h) :=
  ACall.viewed rfl (ACall.mono (fun _ _ x => x.1) (chain hv.view hb))

set_option maxRecDepth 100000 in
theorem loadO {h : AH} {v1 v2 : Value} {zs : List Int} {bs : List Bool} (hv : SlOf h v1 (zs.map (.int .i64))) (hw : SlOf h v2 (bs.map .bool)) (hb : zs.length ≤ 17592186043904) :
    ACall Tryz.prog 27 [v1, v2] h (LoadOwn IsLoad zs bs h) := by
  refine ACall.wf ⟨_, Tryz.func27, rfl, by kernel_rfl⟩ fun hwf => ?_
  refine ACall.of_wp 40 [.tmp 4, .tmp 5] Tryz.func27 rfl (by kernel_rfl) rfl rfl fun a hn hd ha => ?_
  simp (disch := first | omega | decide | (simp only [List.length_cons, List.length_nil] <;> omega)) only [push_cast, ↓reduceIte, Nat.reduceLT, Nat.reduceEqDiff, reduceCtorEq, Nat.reduceAdd, if_true, if_false, true_and, and_true, hn, hd, ha, hw.lenM Tryz.underlying43]
  refine ACall.mono ?_ (chain' hv hb)
  rintro _ _ ⟨rfl, rfl⟩
  simp (disch := first | omega | decide | (simp only [List.length_cons, List.length_nil] <;> omega)) only [push_cast, ↓reduceIte, Nat.reduceLT, Nat.reduceEqDiff, reduceCtorEq, Nat.reduceAdd, if_true, if_false, true_and, and_true, hn, hd, ha]
  refine condV_of (fun h0 => ?_) (fun h0 => ?_)
  · have hc : chainE zs bs.length ≠ 0 := by simpa using h0
    simp (disch := first | omega | decide | (simp only [List.length_cons, List.length_nil] <;> omega)) only [push_cast, ↓reduceIte, Nat.reduceLT, Nat.reduceEqDiff, reduceCtorEq, Nat.reduceAdd, if_true, if_false, true_and, and_true, hn, hd, ha]
    exact ⟨Gr.refl hwf, .inl ⟨hc, rfl, rfl⟩⟩
  · have hc : chainE zs bs.length = 0 := by simpa using h0
    obtain ⟨hp, hl⟩ := chainE_zero hc
    rename_i h
    have hv1 := hv.sub (Sub.new hwf (.row ((List.replicate zs.length false).map .bool) 4 true))
    simp (disch := first | omega | decide | (simp only [List.length_cons, List.length_nil] <;> omega)) only [push_cast, ↓reduceIte, Nat.reduceLT, Nat.reduceEqDiff, reduceCtorEq, Nat.reduceAdd, if_true, if_false, true_and, and_true, hn, hd, ha, hv.lenM Tryz.underlying25, aMakeSlice_at t23 h zs.length (by omega) (by omega), replicate_bool, hv1.lenM Tryz.underlying25]
    refine AW.loopK 23 [8, 9, 22] (fun m a' h' => Gr h h' ∧ ∃ (i : Nat) (out : List Bool), a'.tm 22 = .int .i64 i ∧ i + m = zs.length ∧ h.next < h'.next ∧ h'.get h.next = some (.row (out.map .bool) 4 true) ∧ out.length = zs.length ∧
        ∀ j : Nat, j < i → out[zs.length - 1 - j]? = bs[(zs.getD j 0).toNat]?) zs.length ?_ ?_
    · refine ⟨(Gr.refl hwf).new _, 0, List.replicate zs.length false, by simp (disch := first | omega | decide | (simp only [List.length_cons, List.length_nil] <;> omega)) only [push_cast, ↓reduceIte, Nat.reduceLT, Nat.reduceEqDiff, reduceCtorEq, Nat.reduceAdd, if_true, if_false, true_and, and_true], by omega, by simp, by simp [AH.new_get], by simp, fun j hj => by omega⟩
    · rintro m a' h' hk ⟨hg, i, out, h22, him, hnx, hrow, hol, hall⟩
      have hv' := hv.sub hg.sub
      have hw' := hw.sub hg.sub
      simp (disch := first | omega | decide | (simp only [List.length_cons, List.length_nil] <;> omega)) only [push_cast, ↓reduceIte, Nat.reduceLT, Nat.reduceEqDiff, reduceCtorEq, Nat.reduceAdd, if_true, if_false, true_and, and_true, hk.n, hk.df, hk.tm, hn, hd, ha, h22]
      refine condV_of (fun hlt => ?_) (fun hge => ?_)
      · have hi : i < zs.length := by have := hlt; simp at this; omega
        obtain ⟨k, hk1⟩ : ∃ k : Nat, k = zs.length - 1 - i := ⟨_, rfl⟩
        have hk2 : (zs.length : Int) - 1 - i = k := by omega
        obtain ⟨z0, hz0, hzk, hzk'⟩ := hp.get hi
        have hst := fun b i' (hi' : i' < out.length) => stRow sl23 hrow one_bool i' b hi'
        simp (disch := first | omega | decide | (simp only [List.length_cons, List.length_nil] <;> omega)) only [push_cast, ↓reduceIte, Nat.reduceLT, Nat.reduceEqDiff, reduceCtorEq, Nat.reduceAdd, if_true, if_false, true_and, and_true, hk.n, hk.df, hk.tm, hn, hd, ha, h22, lenS Tryz.underlying43, hk2, hv'.idxI sl22, hv'.ldI sl22, hzk, hw'.idxB sl23, hw'.ldB sl23, idxL sl23, hst, wrapI]
        refine ⟨m - 1, by omega, (by simp (disch := decide) only [Kp_put, put_none, hk]), hg.set hwf (Nat.le_refl _) hnx _, i + 1, out.set k (bs.getD z0 false), ?_, by omega, by simpa using hnx, by simp [AH.set_get], by simp [hol], fun j hj => ?_⟩
        · simp (disch := first | omega | decide | (simp only [List.length_cons, List.length_nil] <;> omega)) only [push_cast, ↓reduceIte, Nat.reduceLT, Nat.reduceEqDiff, reduceCtorEq, Nat.reduceAdd, if_true, if_false, true_and, and_true]
        · by_cases e : j = i
          · subst e
            rw [← hk1, hzk, Int.toNat_natCast, List.getElem?_set_self (by omega)]
            simp [List.getD_eq_getElem?_getD, show z0 < bs.length by omega]
          · rw [List.getElem?_set_ne (by omega)]; exact hall j (by omega)
      · have hi : i = zs.length := by have := hge; simp at this; omega
        simp (disch := first | omega | decide | (simp only [List.length_cons, List.length_nil] <;> omega)) only [push_cast, ↓reduceIte, Nat.reduceLT, Nat.reduceEqDiff, reduceCtorEq, Nat.reduceAdd, if_true, if_false, true_and, and_true, hk.n, hk.df, hk.tm, hn, hd, ha, h22]
        refine ⟨hg, .inr ⟨hc, h.next, out, rfl, ⟨hol, fun k z hz => ?_⟩, hol, Nat.le_refl _, hrow⟩⟩
        have hkl := (List.getElem?_eq_some_iff.1 hz).1
        have := hall k (by omega)
        rw [List.getD_eq_getElem?_getD, hz] at this
        exact this

set_option maxRecDepth 100000 in
theorem unloadO {h : AH} {v1 v2 : Value} {zs : List Int} {bs : List Bool} (hv : SlOf h v1 (zs.map (.int .i64))) (hw : SlOf h v2 (bs.map .bool)) (hb : zs.length ≤ 17592186043904) :
    ACall Tryz.prog 46 [v1, v2] h (LoadOwn IsUnload zs bs h) := by
  refine ACall.wf ⟨_, Tryz.func46, rfl, by kernel_rfl⟩ fun hwf => ?_
  refine ACall.of_wp 40 [.tmp 4, .tmp 5] Tryz.func46 rfl (by kernel_rfl) rfl rfl fun a hn hd ha => ?_
  simp (disch := first | omega | decide | (simp only [List.length_cons, List.length_nil] <;> omega)) only [push_cast, ↓reduceIte, Nat.reduceLT, Nat.reduceEqDiff, reduceCtorEq, Nat.reduceAdd, if_true, if_false, true_and, and_true, hn, hd, ha, hw.lenM Tryz.underlying43]
  refine ACall.mono ?_ (chain' hv hb)
  rintro _ _ ⟨rfl, rfl⟩
  simp (disch := first | omega | decide | (simp only [List.length_cons, List.length_nil] <;> omega)) only [push_cast, ↓reduceIte, Nat.reduceLT, Nat.reduceEqDiff, reduceCtorEq, Nat.reduceAdd, if_true, if_false, true_and, and_true, hn, hd, ha]
  refine condV_of (fun h0 => ?_) (fun h0 => ?_)
  · have hc : chainE zs bs.length ≠ 0 := by simpa using h0
    simp (disch := first | omega | decide | (simp only [List.length_cons, List.length_nil] <;> omega)) only [push_cast, ↓reduceIte, Nat.reduceLT, Nat.reduceEqDiff, reduceCtorEq, Nat.reduceAdd, if_true, if_false, true_and, and_true, hn, hd, ha]
    exact ⟨Gr.refl hwf, .inl ⟨hc, rfl, rfl⟩⟩
  · have hc : chainE zs bs.length = 0 := by simpa using h0
    obtain ⟨hp, hl⟩ := chainE_zero hc
    rename_i h
    have hv1 := hv.sub (Sub.new hwf (.row ((List.replicate zs.length false).map .bool) 4 true))
    simp (disch := first | omega | decide | (simp only [List.length_cons, List.length_nil] <;> omega)) only [push_cast, ↓reduceIte, Nat.reduceLT, Nat.reduceEqDiff, reduceCtorEq, Nat.reduceAdd, if_true, if_false, true_and, and_true, hn, hd, ha, hv.lenM Tryz.underlying25, aMakeSlice_at t23 h zs.length (by omega) (by omega), replicate_bool, hv1.lenM Tryz.underlying25]
    refine AW.loopK 23 [8, 9, 22] (fun m a' h' => Gr h h' ∧ ∃ (i : Nat) (out : List Bool), a'.tm 22 = .int .i64 i ∧ i + m = zs.length ∧ h.next < h'.next ∧ h'.get h.next = some (.row (out.map .bool) 4 true) ∧ out.length = zs.length ∧
        ∀ j : Nat, j < i → out[(zs.getD j 0).toNat]? = bs[zs.length - 1 - j]?) zs.length ?_ ?_
    · refine ⟨(Gr.refl hwf).new _, 0, List.replicate zs.length false, by simp (disch := first | omega | decide | (simp only [List.length_cons, List.length_nil] <;> omega)) only [push_cast, ↓reduceIte, Nat.reduceLT, Nat.reduceEqDiff, reduceCtorEq, Nat.reduceAdd, if_true, if_false, true_and, and_true], by omega, by simp, by simp [AH.new_get], by simp, fun j hj => by omega⟩
    · rintro m a' h' hk ⟨hg, i, out, h22, him, hnx, hrow, hol, hall⟩
      have hv' := hv.sub hg.sub
      have hw' := hw.sub hg.sub
      simp (disch := first | omega | decide | (simp only [List.length_cons, List.length_nil] <;> omega)) only [push_cast, ↓reduceIte, Nat.reduceLT, Nat.reduceEqDiff, reduceCtorEq, Nat.reduceAdd, if_true, if_false, true_and, and_true, hk.n, hk.df, hk.tm, hn, hd, ha, h22]
      refine condV_of (fun hlt => ?_) (fun hge => ?_)
      · have hi : i < zs.length := by have := hlt; simp at this; omega
        obtain ⟨k, hk1⟩ : ∃ k : Nat, k = zs.length - 1 - i := ⟨_, rfl⟩
        have hk2 : (zs.length : Int) - 1 - i = k := by omega
        obtain ⟨z0, hz0, hzk, hzk'⟩ := hp.get hi
        have hst := fun b i' (hi' : i' < out.length) => stRow sl23 hrow one_bool i' b hi'
        simp (disch := first | omega | decide | (simp only [List.length_cons, List.length_nil] <;> omega)) only [push_cast, ↓reduceIte, Nat.reduceLT, Nat.reduceEqDiff, reduceCtorEq, Nat.reduceAdd, if_true, if_false, true_and, and_true, hk.n, hk.df, hk.tm, hn, hd, ha, h22, lenS Tryz.underlying43, hk2, hv'.idxI sl22, hv'.ldI sl22, hzk, hw'.idxB sl23, hw'.ldB sl23, idxL sl23, hst, wrapI]
        refine ⟨m - 1, by omega, (by simp (disch := decide) only [Kp_put, put_none, hk]), hg.set hwf (Nat.le_refl _) hnx _, i + 1, out.set z0 (bs.getD k false), ?_, by omega, by simpa using hnx, by simp [AH.set_get], by simp [hol], fun j hj => ?_⟩
        · simp (disch := first | omega | decide | (simp only [List.length_cons, List.length_nil] <;> omega)) only [push_cast, ↓reduceIte, Nat.reduceLT, Nat.reduceEqDiff, reduceCtorEq, Nat.reduceAdd, if_true, if_false, true_and, and_true]
        · by_cases e : j = i
          · subst e
            rw [← hk1, hzk, Int.toNat_natCast, List.getElem?_set_self (by omega)]
            simp [List.getD_eq_getElem?_getD, show k < bs.length by omega]
          · obtain ⟨z1, hz1, hz2, hz3⟩ := hp.get (show j < zs.length by omega)
            have hne : z0 ≠ z1 := by
              rintro rfl
              have := hp.inj hzk' hz3
              omega
            have := hall j (by omega)
            rw [hz2, Int.toNat_natCast] at this ⊢
            rw [List.getElem?_set_ne hne]; exact this
      · have hi : i = zs.length := by have := hge; simp at this; omega
        simp (disch := first | omega | decide | (simp only [List.length_cons, List.length_nil] <;> omega)) only [push_cast, ↓reduceIte, Nat.reduceLT, Nat.reduceEqDiff, reduceCtorEq, Nat.reduceAdd, if_true, if_false, true_and, and_true, hk.n, hk.df, hk.tm, hn, hd, ha, h22]
        refine ⟨hg, .inr ⟨hc, h.next, out, rfl, ⟨hol, fun k z hz => ?_⟩, hol, Nat.le_refl _, hrow⟩⟩
        have hkl := (List.getElem?_eq_some_iff.1 hz).1
        have := hall k (by omega)
        rw [List.getD_eq_getElem?_getD, hz] at this
        exact this


theorem IsLoad.unique {zs : List Int} {bs o1 o2 : List Bool} (h1 : IsLoad zs bs o1) (h2 : IsLoad zs bs o2) : o1 = o2 := by
  apply List.ext_getElem?
  intro j
  by_cases hj : j < zs.length
  · have hk : zs[zs.length - 1 - j]? = some zs[zs.length - 1 - j] := List.getElem?_eq_getElem (by omega)
    have e1 := h1.2 _ _ hk
    have e2 := h2.2 _ _ hk
    have : zs.length - 1 - (zs.length - 1 - j) = j := by omega
    rw [this] at e1 e2
    rw [e1, e2]
  · rw [List.getElem?_eq_none (by have := h1.1; omega), List.getElem?_eq_none (by have := h2.1; omega)]

theorem IsUnload.unique {zs : List Int} {bs o1 o2 : List Bool} (hp : IsPerm zs) (h1 : IsUnload zs bs o1) (h2 : IsUnload zs bs o2) : o1 = o2 := by
  apply List.ext_getElem?
  intro j
  by_cases hj : j < zs.length
  · obtain ⟨k, hk⟩ := hp.onto hj
    have e1 := h1.2 k _ hk
    have e2 := h2.2 k _ hk
    rw [Int.toNat_natCast] at e1 e2
    rw [e1, e2]
  · rw [List.getElem?_eq_none (by have := h1.1; omega), List.getElem?_eq_none (by have := h2.1; omega)]

theorem SlOf.nil (h : AH) : SlOf h (.slice none 0 0) [] := ⟨none, 0, 0, rfl, rfl, (fun q e => by cases e), .inl rfl⟩


def boolL : Lay Bool where
  sz := 1
  pos := by decide
  rel h cs z := cs = [.bool z]
  mono := by rintro h h' cs x hs rfl; rfl
  view := by rintro h cs x rfl; rfl
  len := by rintro h cs x rfl; rfl
  one := by rintro h cs x rfl v hv; simp only [List.mem_cons, List.not_mem_nil, or_false] at hv; subst hv; rfl

theorem rowBools {h : AH} {v : Value} {zs : List Bool} (hr : RowOf boolL h v zs) : SlOf h v (zs.map .bool) := by
  obtain ⟨p, l, c, rfl, hl, ⟨hsp, _⟩, hcs⟩ := hr
  refine ⟨p, l, c, rfl, by rw [List.length_map]; exact hl, hsp, ?_⟩
  rcases hcs with rfl | ⟨A, off, o, cs, rfl, hg, hc, hx⟩
  · exact .inl rfl
  · refine .inr ⟨A, off, o, cs, rfl, hg, hc, fun i x hi => ?_⟩
    rw [List.getElem?_map, Option.map_eq_some_iff] at hi
    obtain ⟨z, hz, rfl⟩ := hi
    have : (cs.drop (off + i * 1)).take 1 = [.bool z] := hx i z hz
    have h1 := congrArg (·[0]?) this
    simp [List.getElem?_take] at h1
    exact h1

def bsL : Lay (List Bool) where
  sz := 1
  pos := by decide
  rel h cs x := ∃ v, cs = [v] ∧ RowOf boolL h v x
  mono := by rintro h h' cs x hs ⟨v, rfl, hd⟩; exact ⟨v, rfl, hd.sub hs⟩
  view := by rintro h cs x ⟨v, rfl, hd⟩; exact ⟨v, rfl, hd.view⟩
  len := by rintro h cs x ⟨v, rfl, hd⟩; rfl
  one := by rintro h cs x ⟨v, rfl, hd⟩ u hu; simp only [List.mem_cons, List.not_mem_nil, or_false] at hu; subst hu; exact hd.one

theorem inf23 : ∃ i, Tryz.prog.info? 43 = some i ∧ i.size = bsL.sz := ⟨(Tryz.prog.info? 43).get (by kernel_rfl), by kernel_rfl, by kernel_rfl⟩
theorem flBs : Fl Tryz.prog 43 := ⟨_, Tryz.underlying43, rfl⟩

theorem rowAtR {t : TypeId} (ht : Tryz.prog.underlying t = some (.slice 43)) {h : AH} {v : Value} {bss : List (List Bool)} (hs : RowOf bsL h v bss) {i : Nat} (hi : i < bss.length) :
    ∃ w, RowOf boolL h w (bss.getD i []) ∧ (∀ k : IntKind, aIndexAddr Tryz.prog t v (.int k i) = some (slF 1 v i 0)) ∧ aLoad Tryz.prog 43 (slF 1 v i 0) h = some w := by
  obtain ⟨cs, ⟨w, rfl, hw⟩, _, hl, _⟩ := hs.get hi []
  refine ⟨w, hw, fun k => ?_, hl 0 _ flBs (by decide)⟩
  have := hs.idx ht inf23 k i (by omega) (by omega)
  rw [Int.toNat_natCast] at this; exact this

theorem rowAtB {h : AH} {v : Value} {bss : List (List Bool)} (hs : RowOf bsL h v bss) {i : Nat} (hi : i < bss.length) :
    ∃ w, SlOf h w ((bss.getD i []).map .bool) ∧ (∀ k : IntKind, aIndexAddr Tryz.prog 44 v (.int k i) = some (slF 1 v i 0)) ∧ aLoad Tryz.prog 43 (slF 1 v i 0) h = some w :=
  let ⟨w, a, b, c⟩ := rowAtR Tryz.underlying44 hs hi
  ⟨w, rowBools a, b, c⟩

theorem rowPostB {h : AH} {v : Value} {bss : List (List Bool)} (hs : RowOf bsL h v bss) {k : IntKind} {n : Nat} (hn : n ≤ bss.length) :
    ∃ v', aSlice Tryz.prog 44 v (some (.int k n)) none = some v' ∧ RowOf bsL h v' (bss.drop n) := by
  obtain ⟨p, l, c, rfl, rfl, ⟨hsp, hle, hcap⟩, hcs⟩ := hs
  obtain ⟨ie, hi, h1⟩ := inf23
  have h1' : ie.size = 1 := h1
  have hsz : bsL.sz = 1 := rfl
  have hb : bnd (some (.int k (n : Int))) 0 = some n := by simp [bnd]
  have hb0 : ∀ m, bnd none m = some m := fun _ => rfl
  cases p with
  | none =>
    have hx : bss = [] := by
      rcases hcs with e | ⟨A, off, o, cs, e, _⟩
      · exact e
      · cases e
    subst hx
    have hn0 : n = 0 := by simpa using hn
    subst hn0
    refine ⟨.slice none 0 c, ?_, none, 0, c, rfl, by simp, ⟨(fun q e => by cases e), by omega, hcap⟩, .inl (by simp)⟩
    simp only [aSlice, Tryz.underlying44, hb, hb0, hi]
    simp
  | some q =>
    obtain ⟨A, off, sp⟩ := q
    have : sp = none := hsp _ rfl
    subst this
    rcases hcap with hc | hc
    · refine ⟨.slice (some ⟨A, if c = n then off else off + n * 1, none⟩) (bss.length - n) (c - n), ?_, _, _, _, rfl, by simp, ⟨fun q e => by cases e; rfl, by omega, .inl (by omega)⟩, ?_⟩
      · simp only [aSlice, Tryz.underlying44, hb, hb0, hi, h1']
        rw [if_pos hc, if_pos ⟨by omega, by omega⟩]
      · by_cases he : n = bss.length
        · exact .inl (by rw [he, List.drop_length])
        rcases hcs with e | ⟨A', off', o, cs, e, hg, hcc, hall⟩
        · exact .inl (by rw [e]; simp)
        cases e
        refine .inr ⟨A, _, o, cs, rfl, hg, hcc, fun i x hx => ?_⟩
        rw [if_neg (by omega)]
        rw [List.getElem?_drop] at hx
        have := hall _ x hx
        rw [hsz] at this ⊢
        have e2 : off + n * 1 + i * 1 = off + (n + i) * 1 := by omega
        rw [e2]; exact this
    · refine ⟨.slice (some ⟨A, off + n * 1, none⟩) (bss.length - n) c, ?_, _, _, _, rfl, by simp, ⟨fun q e => by cases e; rfl, by omega, .inr hc⟩, ?_⟩
      · simp only [aSlice, Tryz.underlying44, hb, hb0, hi, h1']
        rw [hsz] at hc
        rw [if_neg (by omega), if_pos ⟨hc, by omega, by omega⟩]
      · rcases hcs with e | ⟨A', off', o, cs, e, hg, hcc, hall⟩
        · exact .inl (by rw [e]; simp)
        cases e
        refine .inr ⟨A, _, o, cs, rfl, hg, hcc, fun i x hx => ?_⟩
        rw [List.getElem?_drop] at hx
        have := hall _ x hx
        rw [hsz] at this ⊢
        have e2 : off + n * 1 + i * 1 = off + (n + i) * 1 := by omega
        rw [e2]; exact this

/-- A slice of one's own, as a row of one-cell elements. -/
theorem vecRow {α : Type} {L : Lay α} (hz : L.sz = 1) {e : TypeId} {h g : AH} {v : Value} {ob : Option AObj} {A : Nat} {vs : List Value} {xs : List α} (hV : _root_.Go.Ab.Vec e v ob A vs) (hg : ∀ o, ob = some o → h.get A = some o) (hl : vs.length = xs.length) (hb : xs.length ≤ 4294967296)
    (hr : ∀ i x, xs[i]? = some x → L.rel h [vs.getD i undef] x) : RowOf L h v xs := by
  have key : ∀ cs : List Value, vs.length ≤ cs.length → cs.take vs.length = vs → ∀ (i : Nat) (x : α), xs[i]? = some x → L.rel h ((cs.drop (0 + i * L.sz)).take L.sz) x := by
    intro cs hle htk i x hx
    have hi : i < xs.length := (List.getElem?_eq_some_iff.1 hx).1
    have h0 := hr i x hx
    rw [hz, Nat.zero_add, Nat.mul_one]
    have hv : vs[i]? = some (vs.getD i undef) := by simp [List.getD_eq_getElem?_getD, List.getElem?_eq_getElem (show i < vs.length by omega)]
    have hc := take_get htk i _ hv
    have hic : i < cs.length := by omega
    rw [List.drop_eq_getElem_cons hic, List.take_succ_cons, List.take_zero]
    rw [List.getElem?_eq_getElem hic] at hc
    rw [Option.some.inj hc]; exact h0
  rcases hV with ⟨rfl, rfl, _⟩ | ⟨cs, rfl, rfl, hle, ht⟩ | ⟨cs, C, rfl, hC, hvC, hCc, rfl, ht⟩
  · have hb : xs = [] := List.eq_nil_of_length_eq_zero hl.symm
    subst hb
    exact ⟨none, 0, 0, rfl, rfl, ⟨fun q e => (nomatch e), Nat.le_refl _, .inl (by unfold SL; omega)⟩, .inl rfl⟩
  · exact ⟨_, _, _, rfl, hl, ⟨fun q e => by cases e; rfl, by unfold SL; omega, .inr (by rw [hz])⟩, .inr ⟨A, 0, _, cs, rfl, hg _ rfl, rfl, key cs hle ht⟩⟩
  · exact ⟨_, _, _, rfl, hl, ⟨fun q e => by cases e; rfl, hvC, .inl (by unfold SL; omega)⟩, .inr ⟨A, 0, _, cs, rfl, hg _ rfl, rfl, key cs (by omega) ht⟩⟩

theorem BoolsV.row {h : AH} {v : Value} {ob : Option AObj} {A : Nat} {bs : List Bool} (hv : BoolsV h v ob A bs) (hb : bs.length ≤ 4294967296) : RowOf boolL h v bs :=
  vecRow (g := h) rfl hv.1 hv.2 (by simp) hb (fun i x hx => by
    show [_] = [_]
    simp [List.getD_eq_getElem?_getD, hx])

theorem ownBools {h : AH} {v : Value} {B : Nat} {bs : List Bool} (ho : OwnSl 4 h v B (bs.map .bool)) : ∃ ob, BoolsV h v ob B bs := by
  rcases ho with ⟨e, rfl⟩ | ⟨_, rfl, hg⟩
  · exact ⟨none, .inl ⟨e, rfl, rfl⟩, fun o e => (nomatch e)⟩
  · exact ⟨_, .inr (.inl ⟨_, rfl, rfl, Nat.le_refl _, List.take_length⟩), fun o e => by cases e; exact hg⟩

/-- The heap without the block of one's own, if there is one. -/
def minusV (h : AH) (ob : Option AObj) (A : Nat) : AH :=
  match ob with
  | none => h
  | some _ => h.del A

theorem minusV_sub (h : AH) (ob : Option AObj) (A : Nat) : Sub (minusV h ob A) h := fun B o hB => by
  cases ob with
  | none => exact hB
  | some p =>
    have hB : (h.del A).get B = some o := hB
    rw [AH.del_get] at hB
    split at hB
    · cases hB
    · exact hB

theorem minusV_mono {h h' : AH} (s : Sub h h') (ob : Option AObj) (A : Nat) : Sub (minusV h ob A) (minusV h' ob A) := fun B o hB => by
  cases ob with
  | none => exact s B o hB
  | some p =>
    have hB : (h.del A).get B = some o := hB
    show (h'.del A).get B = some o
    rw [AH.del_get] at hB ⊢
    split at hB
    · cases hB
    · rename_i e; rw [if_neg e]; exact s B o hB

/-- A slice of slices of truths, of one's own, that grows. -/
structure StK (h0 h : AH) (v : Value) (bss : List (List Bool)) (ob : Option AObj) (A : Nat) : Prop where
  gr : Gr h0 h
  vec : ∃ vs, _root_.Go.Ab.Vec 43 v ob A vs ∧ vs.length = bss.length ∧ ∀ i, i < vs.length → RowOf boolL (minusV h ob A) (vs.getD i undef) (bss.getD i [])
  get : ∀ o, ob = some o → h.get A = some o ∧ h0.next ≤ A

theorem StK.nil {h0 : AH} (w : WFH h0) : StK h0 h0 (.slice none 0 0) [] none 0 := ⟨Gr.refl w, ⟨[], .inl ⟨rfl, rfl, rfl⟩, rfl, fun i hi => (nomatch hi)⟩, fun o e => (nomatch e)⟩

theorem StK.to {h0 h h2 : AH} {v : Value} {bss : List (List Bool)} {ob : Option AObj} {A : Nat} (S : StK h0 h v bss ob A) (g : Gr h h2) : StK h0 h2 v bss ob A := by
  obtain ⟨g0, ⟨vs, hV, hl, hr⟩, hg⟩ := S
  exact ⟨g0.trans g, ⟨vs, hV, hl, fun i hi => (hr i hi).sub (minusV_mono g.sub ob A)⟩, fun o e => ⟨g.sub _ _ (hg o e).1, (hg o e).2⟩⟩

theorem StK.row {h0 h : AH} {v : Value} {bss : List (List Bool)} {ob : Option AObj} {A : Nat} (S : StK h0 h v bss ob A) (hb : bss.length ≤ 4294967296) : RowOf bsL h v bss := by
  obtain ⟨_, ⟨vs, hV, hl, hr⟩, hg⟩ := S
  refine vecRow (g := h) rfl hV (fun o e => (hg o e).1) hl hb (fun i x hx => ?_)
  have hi : i < bss.length := (List.getElem?_eq_some_iff.1 hx).1
  have := hr i (by omega)
  have hxe : bss.getD i [] = x := by simp [List.getD_eq_getElem?_getD, hx]
  rw [hxe] at this
  exact ⟨_, rfl, this.sub (minusV_sub h ob A)⟩

theorem t45 : SlT Tryz.prog 45 43 24 (.slice none 0 0) := ⟨Tryz.underlying45, t44.info, t44.flat, rfl, rfl, rfl⟩

/-- Truths of one's own lie in another block than the slice that grows. -/
theorem StK.other {h0 k : AH} {v w : Value} {bss : List (List Bool)} {ob ob2 : Option AObj} {A A2 : Nat} {bs : List Bool} (S : StK h0 k v bss ob A) (hw : BoolsV k w ob2 A2 bs) : BoolsV (minusV k ob A) w ob2 A2 bs := by
  refine ⟨hw.1, fun o e => ?_⟩
  have h2 := hw.2 o e
  cases hob : ob with
  | none => exact h2
  | some p =>
    show (k.del A).get A2 = some o
    rw [AH.del_get, if_neg]
    · exact h2
    · rintro rfl
      have h1 := (S.get p hob).1
      obtain ⟨vs, hV, _⟩ := S.vec
      rw [h1] at h2
      cases h2
      have hb := hw.1
      subst hob
      subst e
      rcases hV with ⟨_, _, e1⟩ | ⟨cs, _, e1, _⟩ | ⟨cs, C, _, _, _, _, e1, _⟩ <;> rcases hb with ⟨_, _, e2⟩ | ⟨cs', _, e2, _⟩ | ⟨cs', C', _, _, _, _, e2, _⟩ <;> first | (cases e1; done) | (cases e2; done) | (rw [e1] at e2; cases e2)

theorem StK.push {t : TypeId} (ht : SlT Tryz.prog t 43 24 (.slice none 0 0)) {h0 k : AH} {v w : Value} {bss : List (List Bool)} {ob ob2 : Option AObj} {A A2 : Nat} {bs : List Bool} (w0 : WFH h0) (S : StK h0 k v bss ob A) (hw : BoolsV k w ob2 A2 bs) (hb : bss.length ≤ 4294967296) (hb2 : bs.length ≤ 4294967296) :
    ∃ r h3 o' A', aAppend Tryz.prog #[t, t] v (.slice (some ⟨k.next, 0, none⟩) 1 1) (k.new (.row [w] 43 true)) = some (r, h3) ∧ StK h0 h3 r (bss ++ [bs]) (some o') A' ∧ Sub (minusV k ob A) (minusV h3 (some o') A') := by
  have hwo := S.other hw
  obtain ⟨g0, ⟨vs, hV, hl, hr⟩, hg⟩ := S
  have s2 := Sub.new g0.wf (.row [w] 43 true)
  have hgk : ∀ o, ob = some o → (k.new (.row [w] 43 true)).get A = some o := fun o e => s2 _ _ (hg o e).1
  obtain ⟨r, h3, e, up⟩ := appendV (t := t) (t2 := t) ht ⟨_, ht.sl⟩ (g0.wf.new (.row [w] 43 true)) hV hgk (D := k.next) (by rw [AH.new_get, if_pos rfl]) rfl hw.one.1 (by omega) (by omega)
  obtain ⟨A', o', hV', hg', hA'⟩ := up.up
  have hnk : (k.new (.row [w] 43 true)).next = k.next + 1 := rfl
  have n1 := g0.nx
  have n3 := up.nx
  have lt1 : ∀ B o, k.get B = some o → B < k.next := fun B o hB => AH.get_lt g0.wf hB
  have keep : Sub (minusV k ob A) (minusV h3 (some o') A') := fun B o hB => by
    have hB0 := minusV_sub k ob A B o hB
    have hlt := lt1 B o hB0
    have hne : ob ≠ none → B ≠ A := fun h e2 => by
      cases hob : ob with
      | none => exact h hob
      | some p =>
        subst hob
        have hB : (k.del A).get B = some o := hB
        rw [AH.del_get, if_pos e2] at hB; cases hB
    show (h3.del A').get B = some o
    rw [AH.del_get, if_neg]
    · refine up.frx B o (s2 _ _ hB0) (fun e2 => ?_)
      cases hob : ob with
      | none => rfl
      | some p => exact absurd e2 (hne (by rw [hob]; simp))
    · rcases hA' with ⟨rfl, hx⟩ | h
      · exact hne hx
      · omega
  refine ⟨r, h3, o', A', e, ⟨⟨up.wf, fun B o hB => up.frx B o (s2 _ _ (g0.sub _ _ hB)) (fun e => ?_), by omega⟩, ⟨vs ++ [w], hV', by simp [hl], fun i hi => ?_⟩, fun o e => ?_⟩, keep⟩
  · cases hob : ob with
    | none => rfl
    | some p =>
      have h1 := (hg p hob).2
      have h2 := AH.get_lt w0 hB
      omega
  · by_cases hi2 : i < vs.length
    · have h1 : (vs ++ [w]).getD i undef = vs.getD i undef := by simp [List.getD_eq_getElem?_getD, List.getElem?_append_left hi2]
      have h2 : (bss ++ [bs]).getD i [] = bss.getD i [] := by simp [List.getD_eq_getElem?_getD, List.getElem?_append_left (show i < bss.length by omega)]
      rw [h1, h2]
      exact (hr i hi2).sub keep
    · have hi3 : i = vs.length := by simp at hi; omega
      have h1 : (vs ++ [w]).getD i undef = w := by subst hi3; simp [List.getD_eq_getElem?_getD]
      have h2 : (bss ++ [bs]).getD i [] = bs := by rw [hi3, hl]; simp [List.getD_eq_getElem?_getD]
      rw [h1, h2]
      exact (hwo.row hb2).sub keep
  · cases e
    refine ⟨hg', ?_⟩
    rcases hA' with ⟨rfl, hne⟩ | h
    · cases hob : ob with
      | none => exact absurd hob hne
      | some p => exact (hg p hob).2
    · omega

def StV (h0 h : AH) (v : Value) (bss : List (List Bool)) : Prop := ∃ ob A, StK h0 h v bss ob A

theorem StV.nil {h0 : AH} (w : WFH h0) : StV h0 h0 (.slice none 0 0) [] := ⟨_, _, StK.nil w⟩
theorem StV.gr {h0 h : AH} {v : Value} {bss : List (List Bool)} (S : StV h0 h v bss) : Gr h0 h := let ⟨_, _, S⟩ := S; S.gr
theorem StV.to {h0 h h2 : AH} {v : Value} {bss : List (List Bool)} (S : StV h0 h v bss) (g : Gr h h2) : StV h0 h2 v bss := let ⟨_, _, S⟩ := S; ⟨_, _, S.to g⟩
theorem StV.row {h0 h : AH} {v : Value} {bss : List (List Bool)} (S : StV h0 h v bss) (hb : bss.length ≤ 4294967296) : RowOf bsL h v bss := let ⟨_, _, S⟩ := S; S.row hb
theorem StV.push {t : TypeId} (ht : SlT Tryz.prog t 43 24 (.slice none 0 0)) {h0 k k1 : AH} {v w : Value} {bss : List (List Bool)} {ob2 : Option AObj} {A2 : Nat} {bs : List Bool} (w0 : WFH h0) (S : StV h0 k v bss) (g : Gr k k1) (hw : BoolsV k1 w ob2 A2 bs) (hb2 : bs.length ≤ 4294967296) (hb : bss.length ≤ 4294967296) :
    ∃ r h3, aAppend Tryz.prog #[t, t] v (.slice (some ⟨k1.next, 0, none⟩) 1 1) (k1.new (.row [w] 43 true)) = some (r, h3) ∧ StV h0 h3 r (bss ++ [bs]) := by
  obtain ⟨ob, A, S⟩ := S
  obtain ⟨r, h3, o', A', e, S', _⟩ := (S.to g).push ht w0 hw hb hb2
  exact ⟨r, h3, e, _, _, S'⟩

/-! ### Copies, rounds -/

theorem emptyB {k : AH} {A : Nat} (hg : k.get A = some (.row [] 4 true)) : BoolsV k (.slice (some ⟨A, 0, none⟩) 0 0) (some (.row [] 4 true)) A [] :=
  ⟨.inr (.inr ⟨[], 0, rfl, by omega, Nat.le_refl _, Nat.le_refl _, rfl, rfl⟩), fun o e => by cases e; exact hg⟩

theorem cloneB {h : AH} {v : Value} {bs : List Bool} (hv : SlOf h v (bs.map .bool)) (hb : bs.length ≤ 4294967296) :
    ACall Tryz.prog 41 [v] h (fun r h' => Gr h h' ∧ ∃ ob A, BoolsV h' r ob A bs ∧ ∀ o, ob = some o → h.next ≤ A) := by
  refine ACall.wf ⟨_, Tryz.func41, rfl, by kernel_rfl⟩ fun hwf => ?_
  refine ACall.of_wp 8 [.tmp 2] Tryz.func41 rfl (by kernel_rfl) rfl rfl fun a hn hd ha => ?_
  obtain ⟨p, l, c, rfl, hl, hsp, _⟩ := id hv
  simp (disch := first | omega | decide | (simp only [List.length_cons, List.length_nil] <;> omega)) only [push_cast, ↓reduceIte, Nat.reduceLT, Nat.reduceEqDiff, reduceCtorEq, Nat.reduceAdd, if_true, if_false, true_and, and_true, hn, hd, ha, eqBin_nil Tryz.underlying43]
  cases p with
  | none =>
    have hz : bs = [] := by
      rcases hv with ⟨p', l', c', e, hl', _, hcs⟩
      cases e
      rcases hcs with e | ⟨A, off, o, cs, e, _⟩
      · simpa using e
      · cases e
    subst hz
    simp (disch := first | omega | decide | (simp only [List.length_cons, List.length_nil] <;> omega)) only [push_cast, ↓reduceIte, Nat.reduceLT, Nat.reduceEqDiff, reduceCtorEq, Nat.reduceAdd, if_true, if_false, true_and, and_true, Option.isNone_none, hn, hd]
    exact ⟨Gr.refl hwf, none, 0, ⟨.inl ⟨rfl, rfl, rfl⟩, fun o e => (nomatch e)⟩, fun o e => (nomatch e)⟩
  | some q =>
    have g1 := (Gr.refl hwf).new (.row [] 4 true)
    obtain ⟨r, k1, ob, A, e1, g2, hv1, lo, _, _⟩ := appOwn hwf g1 (emptyB (by rw [AH.new_get, if_pos rfl])) (fun o e => Nat.le_refl _) (hv.sub g1.sub) (by simp; omega)
    simp (disch := first | omega | decide | (simp only [List.length_cons, List.length_nil] <;> omega)) only [push_cast, ↓reduceIte, Nat.reduceLT, Nat.reduceEqDiff, reduceCtorEq, Nat.reduceAdd, if_true, if_false, true_and, and_true, Option.isNone_some, hn, hd, ha, aBuildSlice_empty t23, e1]
    exact ⟨g2, ob, A, by simpa using hv1, lo⟩

theorem cycleB {h : AH} {v : Value} {bs : List Bool} {e b : Bool} (hv : SlOf h v (bs.map .bool)) (hb : bs.length ≤ 4294967294) :
    ACall Tryz.prog 40 [v, .bool e, .bool b] h (fun r h' => Gr h h' ∧ ∃ ob A, BoolsV h' r ob A (bs ++ [e, b]) ∧ ∀ o, ob = some o → h.next ≤ A) := by
  refine ACall.wf ⟨_, Tryz.func40, rfl, by kernel_rfl⟩ fun hwf => ?_
  refine ACall.of_wp 13 [.tmp 6] Tryz.func40 rfl (by kernel_rfl) rfl rfl fun a hn hd ha => ?_
  simp (disch := first | omega | decide | (simp only [List.length_cons, List.length_nil] <;> omega)) only [push_cast, ↓reduceIte, Nat.reduceLT, Nat.reduceEqDiff, reduceCtorEq, Nat.reduceAdd, if_true, if_false, true_and, and_true, hn, hd, ha]
  refine ACall.mono ?_ (cloneB hv (by omega))
  rintro r1 h1 ⟨g1, ob, A, hv1, lo⟩
  have g2 := g1.new (.row [.bool e, .bool b] 4 true)
  have s2 := Sub.new g1.wf (.row [.bool e, .bool b] 4 true)
  have hs : SlOf (h1.new (.row [.bool e, .bool b] 4 true)) (.slice (some ⟨h1.next, 0, none⟩) 2 2) ([e, b].map .bool) := SlOf.lit (by rw [AH.new_get, if_pos rfl]) rfl rfl
  obtain ⟨r2, k2, ob', A', e2, g3, hv2, lo2, _⟩ := appOwn hwf g2 (hv1.sub s2) lo hs (by simp; omega)
  simp (disch := first | omega | decide | (simp only [List.length_cons, List.length_nil] <;> omega)) only [push_cast, ↓reduceIte, Nat.reduceLT, Nat.reduceEqDiff, reduceCtorEq, Nat.reduceAdd, if_true, if_false, true_and, and_true, hn, hd, ha, aBuild2b, e2]
  exact ⟨g3, ob', A', hv2, lo2⟩

theorem indexB {h : AH} {v f : Value} {bss : List (List Bool)} {p : List Bool → Bool} (hv : RowOf bsL h v bss) (hf : ∀ w bs, SlOf h w (bs.map .bool) → callR Tryz.prog f [w] h (fun r h' => r = .bool (p bs) ∧ h' = h)) (hb : bss.length ≤ 4611686018427387904) :
    ACall Tryz.prog 67 [v, f] h (IdxPost p bss h) := by
  refine ACall.of_wp 19 [.tmp 4] Tryz.func67 rfl (by kernel_rfl) rfl rfl fun a hn hd ha => ?_
  simp (disch := first | omega | decide | (simp only [List.length_cons, List.length_nil] <;> omega)) only [push_cast, ↓reduceIte, Nat.reduceLT, Nat.reduceEqDiff, reduceCtorEq, Nat.reduceAdd, if_true, if_false, true_and, and_true, hn, hd, ha, hv.len Tryz.underlying44]
  refine AW.loopN 8 [4, 5, 8] (fun m a' h' => h' = h ∧ ∃ i : Nat, a'.tm 8 = .int .i64 i ∧ i + m = bss.length ∧ a'.tm 7 = .int .i64 bss.length ∧ (bss.drop i).any p = bss.any p) bss.length ?_ ?_
  · exact ⟨rfl, 0, by simp (disch := first | omega | decide | (simp only [List.length_cons, List.length_nil] <;> omega)) only [push_cast, ↓reduceIte, Nat.reduceLT, Nat.reduceEqDiff, reduceCtorEq, Nat.reduceAdd, if_true, if_false, true_and, and_true], by omega, by simp (disch := first | omega | decide | (simp only [List.length_cons, List.length_nil] <;> omega)) only [push_cast, ↓reduceIte, Nat.reduceLT, Nat.reduceEqDiff, reduceCtorEq, Nat.reduceAdd, if_true, if_false, true_and, and_true], rfl⟩
  · rintro a1 m a' h' hk kn kd kt ⟨rfl, i, h8, him, h7, hany⟩
    simp (disch := first | omega | decide | (simp only [List.length_cons, List.length_nil] <;> omega)) only [push_cast, ↓reduceIte, Nat.reduceLT, Nat.reduceEqDiff, reduceCtorEq, Nat.reduceAdd, if_true, if_false, true_and, and_true, kn, kd, kt, hn, hd, ha, h8, h7]
    refine condV_of (fun hlt => ?_) (fun hge => ?_)
    · have hi : i < bss.length := by have := hlt; simp at this; omega
      obtain ⟨w, hw, e1, e2⟩ := rowAtB hv hi
      simp (disch := first | omega | decide | (simp only [List.length_cons, List.length_nil] <;> omega)) only [push_cast, ↓reduceIte, Nat.reduceLT, Nat.reduceEqDiff, reduceCtorEq, Nat.reduceAdd, if_true, if_false, true_and, and_true, kn, kd, kt, hn, hd, ha, h8, h7, e1, e2]
      refine callR.mono ?_ (hf _ _ hw)
      rintro _ _ ⟨rfl, rfl⟩
      simp (disch := first | omega | decide | (simp only [List.length_cons, List.length_nil] <;> omega)) only [push_cast, ↓reduceIte, Nat.reduceLT, Nat.reduceEqDiff, reduceCtorEq, Nat.reduceAdd, if_true, if_false, true_and, and_true, kn, kd, kt, hn, hd, ha, h8, h7]
      rw [any_drop hi []] at hany
      refine condV_of (fun hp => ?_) (fun hp => ?_)
      · simp (disch := first | omega | decide | (simp only [List.length_cons, List.length_nil] <;> omega)) only [push_cast, ↓reduceIte, Nat.reduceLT, Nat.reduceEqDiff, reduceCtorEq, Nat.reduceAdd, if_true, if_false, true_and, and_true, kn, kd, kt, hn, hd, ha, h8, h7]
        exact ⟨rfl, i, rfl, by rw [← hany, hp]; simp⟩
      · simp (disch := first | omega | decide | (simp only [List.length_cons, List.length_nil] <;> omega)) only [push_cast, ↓reduceIte, Nat.reduceLT, Nat.reduceEqDiff, reduceCtorEq, Nat.reduceAdd, if_true, if_false, true_and, and_true, kn, kd, kt, hn, hd, ha, h8, h7, wrapI]
        exact ⟨m - 1, by omega, (by simp (disch := decide) only [Kp_put, put_none, hk]), rfl, i + 1, by simp (disch := first | omega | decide | (simp only [List.length_cons, List.length_nil] <;> omega)) only [push_cast, ↓reduceIte, Nat.reduceLT, Nat.reduceEqDiff, reduceCtorEq, Nat.reduceAdd, if_true, if_false, true_and, and_true], by omega, by simp (disch := first | omega | decide | (simp only [List.length_cons, List.length_nil] <;> omega)) only [push_cast, ↓reduceIte, Nat.reduceLT, Nat.reduceEqDiff, reduceCtorEq, Nat.reduceAdd, if_true, if_false, true_and, and_true, h7], by rw [← hany, hp]; simp⟩
    · have hi : bss.length ≤ i := by have := hge; simp at this; omega
      rw [List.drop_of_length_le hi] at hany
      simp (disch := first | omega | decide | (simp only [List.length_cons, List.length_nil] <;> omega)) only [push_cast, ↓reduceIte, Nat.reduceLT, Nat.reduceEqDiff, reduceCtorEq, Nat.reduceAdd, if_true, if_false, true_and, and_true, kn, kd, kt, hn, hd, ha, h8, h7]
      exact ⟨rfl, -1, rfl, by rw [← hany]; rfl⟩

theorem containsB {h : AH} {v f : Value} {bss : List (List Bool)} {p : List Bool → Bool} (hv : RowOf bsL h v bss) (hf : ∀ w bs, SlOf h w (bs.map .bool) → callR Tryz.prog f [w] h (fun r h' => r = .bool (p bs) ∧ h' = h)) (hb : bss.length ≤ 4611686018427387904) :
    ACall Tryz.prog 44 [v, f] h (fun r h' => r = .bool (bss.any p) ∧ h' = h) := by
  refine ACall.of_wp 9 [.tmp 4] Tryz.func44 rfl (by kernel_rfl) rfl rfl fun a hn hd ha => ?_
  simp (disch := first | omega | decide | (simp only [List.length_cons, List.length_nil] <;> omega)) only [push_cast, ↓reduceIte, Nat.reduceLT, Nat.reduceEqDiff, reduceCtorEq, Nat.reduceAdd, if_true, if_false, true_and, and_true, hn, hd, ha]
  refine ACall.mono ?_ (indexB hv hf hb)
  rintro _ _ ⟨rfl, k, rfl, hk⟩
  simp (disch := first | omega | decide | (simp only [List.length_cons, List.length_nil] <;> omega)) only [push_cast, ↓reduceIte, Nat.reduceLT, Nat.reduceEqDiff, reduceCtorEq, Nat.reduceAdd, if_true, if_false, true_and, and_true, hn, hd, ha, hk]

theorem emptyQ {h : AH} {w : Value} {bs : List Bool} (hw : SlOf h w (bs.map .bool)) : ACall Tryz.prog 45 [w] h (fun r h' => r = .bool (decide ((bs.length : Int) = 0)) ∧ h' = h) := by
  refine ACall.of_wp 6 [.tmp 2] Tryz.func45 rfl (by kernel_rfl) rfl rfl fun a hn hd ha => ?_
  simp (disch := first | omega | decide | (simp only [List.length_cons, List.length_nil] <;> omega)) only [push_cast, ↓reduceIte, Nat.reduceLT, Nat.reduceEqDiff, reduceCtorEq, Nat.reduceAdd, if_true, if_false, true_and, and_true, hn, hd, ha, hw.lenA Tryz.underlying43]

theorem eqStates {h : AH} {v1 v2 : Value} {xs : List (List Bool)} (h1 : RowOf bsL h v1 xs) (h2 : RowOf bsL h v2 xs) (hb : xs.length ≤ 4611686018427387904) (hx : ∀ l ∈ xs, l.length < 4611686018427387904) :
    ACall Tryz.prog 19 [v1, v2] h (fun r h' => r = .bool true ∧ h' = h) := by
  refine ACall.of_wp 27 [.tmp 4] Tryz.func19 rfl (by kernel_rfl) rfl rfl fun a hn hd ha => ?_
  simp (disch := first | omega | decide | (simp only [List.length_cons, List.length_nil] <;> omega)) only [push_cast, ↓reduceIte, Nat.reduceLT, Nat.reduceEqDiff, reduceCtorEq, Nat.reduceAdd, if_true, if_false, true_and, and_true, hn, hd, ha, h1.len Tryz.underlying44, h2.len Tryz.underlying44]
  refine AW.loopN 5 [] (fun m a' h' => h' = h ∧ ∃ i : Nat, a'.tm 5 = .int .i64 i ∧ i + m = xs.length) xs.length ?_ ?_
  · exact ⟨rfl, 0, by simp (disch := first | omega | decide | (simp only [List.length_cons, List.length_nil] <;> omega)) only [push_cast, ↓reduceIte, Nat.reduceLT, Nat.reduceEqDiff, reduceCtorEq, Nat.reduceAdd, if_true, if_false, true_and, and_true], by omega⟩
  · rintro a1 m a' h' hk kn kd kt ⟨rfl, i, h5, him⟩
    simp (disch := first | omega | decide | (simp only [List.length_cons, List.length_nil] <;> omega)) only [push_cast, ↓reduceIte, Nat.reduceLT, Nat.reduceEqDiff, reduceCtorEq, Nat.reduceAdd, if_true, if_false, true_and, and_true, kn, kd, kt, hn, hd, ha, h5, h1.len Tryz.underlying44]
    refine condV_of (fun hlt => ?_) (fun hge => ?_)
    · have hi : i < xs.length := by have := hlt; simp at this; omega
      obtain ⟨w1, hw1, e1, e2⟩ := rowAtB h1 hi
      obtain ⟨w2, hw2, e3, e4⟩ := rowAtB h2 hi
      refine AW.drawP (.take 0 [9, 8, 3, 2] (.take 1 [9, 8, 3, 2] (.take 2 [9, 8, 3] (.take 3 [9, 8] (.take 4 [9, 8, 7, 6] (.take 5 [9, 8, 7, 6] (.take 6 [9, 8, 7] (.take 7 [9, 8] (.only 8 (.take 9 [] .done)))))))))) [(0, 0), (0, 1), (0, 2), (0, 3), (0, 4), (0, 5), (0, 6), (0, 7), (2, 8), (0, 9)] mixed (by kernel_rfl) (by kernel_rfl) ?_
      simp (disch := first | omega | decide | (simp only [List.length_cons, List.length_nil] <;> omega)) only [push_cast, ↓reduceIte, Nat.reduceLT, Nat.reduceEqDiff, reduceCtorEq, Nat.reduceAdd, if_true, if_false, true_and, and_true, kn, kd, kt, hn, hd, ha, h5, e1, e2, e3, e4]
      refine ACall.mono ?_ (eqBools hw1 hw2 (hx _ (getD_mem hi [])))
      rintro _ _ ⟨rfl, rfl⟩
      simp (disch := first | omega | decide | (simp only [List.length_cons, List.length_nil] <;> omega)) only [push_cast, ↓reduceIte, Nat.reduceLT, Nat.reduceEqDiff, reduceCtorEq, Nat.reduceAdd, if_true, if_false, true_and, and_true, kn, kd, kt, hn, hd, ha, h5, wrapI]
      exact ⟨m - 1, by omega, (by simp (disch := decide) only [Kp_put, put_none, hk]), rfl, i + 1, by simp (disch := first | omega | decide | (simp only [List.length_cons, List.length_nil] <;> omega)) only [push_cast, ↓reduceIte, Nat.reduceLT, Nat.reduceEqDiff, reduceCtorEq, Nat.reduceAdd, if_true, if_false, true_and, and_true], by omega⟩
    · simp (disch := first | omega | decide | (simp only [List.length_cons, List.length_nil] <;> omega)) only [push_cast, ↓reduceIte, Nat.reduceLT, Nat.reduceEqDiff, reduceCtorEq, Nat.reduceAdd, if_true, if_false, true_and, and_true, kn, kd, kt, hn, hd, ha, h5]


def outsV (n : Net) (V : List Bool) : List Bool := n.outs.map (ofE V)
def nextV (n : Net) (V : List Bool) : List Bool := n.flops.map fun f => ofE V f.next

/-- What the cycles of a trace put out, from a state on. -/
def Runs (n : Net) : List (List Bool) → List Bool → List (List Bool) → Prop
  | [], _, os => os = []
  | xs :: t, ys, os => ∃ V os', IsVals n xs ys V ∧ os = outsV n V :: os' ∧ Runs n t (nextV n V) os'

theorem runN {h : AH} {n : Net} {cv fv iv ov tv : Value} {t : List (List Bool)} (r : NetR h n cv fv iv ov) (ok : NetOK n) (e : netE n = 0) (ht : RowOf bsL h tv t) (hl : t.length ≤ 64) (hin : ∀ x ∈ t, (x.length : Int) = n.inputs) :
    ACall Tryz.prog 24 [.agg (netC n cv fv iv ov).toArray, tv] h (fun r h' => ∃ u os, r = .tuple #[u, .int .i64 0] ∧ StV h h' u os ∧ Runs n t (startE n) os) := by
  refine ACall.wf ⟨_, Tryz.func24, rfl, by kernel_rfl⟩ fun hwf => ?_
  refine ACall.of_wp 53 [.tmp 4, .tmp 5] Tryz.func24 rfl (by kernel_rfl) rfl rfl fun a hn hd ha => ?_
  have s := ShapeOK.of (netE_zero.1 e).1
  have hil := s.il
  have hfl := s.fl
  have hol := s.ol
  have hbox := boxA 27 h _ r.one
  have hN := NetAt.new (h := h) (n := n) (cv := cv) (fv := fv) (iv := iv) (ov := ov)
  have g1 : Gr h (h.new (.row (netC n cv fv iv ov) 27 true)) := (Gr.refl hwf).new _
  simp (disch := first | omega | decide | (simp only [List.length_cons, List.length_nil] <;> omega)) only [push_cast, ↓reduceIte, Nat.reduceLT, Nat.reduceEqDiff, reduceCtorEq, Nat.reduceAdd, if_true, if_false, true_and, and_true, hn, hd, ha, hbox, hN.l0, hN.l1, hN.l2, hN.l3, hN.l4, hN.la]
  generalize h.new (.row (netC n cv fv iv ov) 27 true) = h1 at hN g1 ⊢
  generalize h.next = B0 at hN ⊢
  have r1 := r.sub g1.sub
  refine ACall.mono ?_ (orderN r1 ok)
  rintro _ k ⟨hg, ⟨hs, rfl⟩ | ⟨hs, O, tp, ⟨hl, hst, rfl⟩ | ⟨hOl, v, rfl, hv⟩⟩⟩
  · exact absurd (netE_zero.1 e).1 hs
  · exact absurd (netE_zero.1 e).2 (stuck_not_full hst tp hl)
  have hN2 := hN.sub hg.sub
  have h64 : ¬ (t.length : Int) > 64 := by omega
  have hL := ht.len Tryz.underlying45
  simp (disch := first | omega | decide | (simp only [List.length_cons, List.length_nil] <;> omega)) only [push_cast, ↓reduceIte, Nat.reduceLT, Nat.reduceEqDiff, reduceCtorEq, Nat.reduceAdd, if_true, if_false, true_and, and_true, hn, hd, ha, hN2.l0, hN2.l1, hN2.l2, hN2.l3, hN2.l4, hN2.la, hL, h64]
  refine ACall.mono ?_ (startN (r1.sub hg.sub) ok)
  rintro v0 k2 ⟨g2, hv0⟩
  have G2 := (g1.trans hg).trans g2
  have r2 := r.sub G2.sub
  have hN3 := hN2.sub g2.sub
  have ht2 := ht.sub G2.sub
  have hv2 := hv.sub g2.sub
  have hsl : (startE n).length = n.flops.length := by rw [startE, if_pos e, List.length_map]
  simp (disch := first | omega | decide | (simp only [List.length_cons, List.length_nil] <;> omega)) only [push_cast, ↓reduceIte, Nat.reduceLT, Nat.reduceEqDiff, reduceCtorEq, Nat.reduceAdd, if_true, if_false, true_and, and_true, hn, hd, ha, hL]
  refine AW.loopN 30 [4, 7, 9, 10, 11, 12] (fun m a' h' => ∃ (i : Nat) (ys : List Bool) (os : List (List Bool)) (ob : Option AObj) (A : Nat), a'.tm 30 = .int .i64 i ∧ i + m = t.length ∧ ys.length = n.flops.length ∧ os.length = i ∧ StK k2 h' (a'.tm 4) os ob A ∧ SlOf (minusV h' ob A) (a'.tm 7) (ys.map .bool) ∧ (∀ os', Runs n (t.drop i) ys os' → Runs n t (startE n) (os ++ os'))) t.length ?_ ?_
  · exact ⟨0, startE n, [], none, 0, by simp (disch := first | omega | decide | (simp only [List.length_cons, List.length_nil] <;> omega)) only [push_cast, ↓reduceIte, Nat.reduceLT, Nat.reduceEqDiff, reduceCtorEq, Nat.reduceAdd, if_true, if_false, true_and, and_true], by omega, hsl, rfl, by simp (disch := first | omega | decide | (simp only [List.length_cons, List.length_nil] <;> omega)) only [push_cast, ↓reduceIte, Nat.reduceLT, Nat.reduceEqDiff, reduceCtorEq, Nat.reduceAdd, if_true, if_false, true_and, and_true]; exact StK.nil G2.wf, by simp (disch := first | omega | decide | (simp only [List.length_cons, List.length_nil] <;> omega)) only [push_cast, ↓reduceIte, Nat.reduceLT, Nat.reduceEqDiff, reduceCtorEq, Nat.reduceAdd, if_true, if_false, true_and, and_true]; exact hv0, fun os' q => q⟩
  rintro a1 m a' h' hk kn kd kt ⟨i, ys, os, ob, A, h30, him, hyl, hosl, S, hY, hR⟩
  simp (disch := first | omega | decide | (simp only [List.length_cons, List.length_nil] <;> omega)) only [push_cast, ↓reduceIte, Nat.reduceLT, Nat.reduceEqDiff, reduceCtorEq, Nat.reduceAdd, if_true, if_false, true_and, and_true, kn, kd, kt, hn, hd, ha, h30]
  refine condV_of (fun hlt => ?_) (fun hge => ?_)
  · have hi : i < t.length := by have := hlt; simp at this; omega
    obtain ⟨w, hw, f1, f2⟩ := rowAtR Tryz.underlying45 (ht2.sub S.gr.sub) hi
    have hwl := hin _ (getD_mem hi [])
    have hdr : t.drop i = t.getD i [] :: t.drop (i + 1) := by rw [List.drop_eq_getElem_cons hi]; simp [List.getD_eq_getElem?_getD, List.getElem?_eq_getElem hi]
    have hNq := hN3.sub S.gr.sub
    rw [hdr] at hR
    generalize t.getD i [] = xs at *
    simp (disch := first | omega | decide | (simp only [List.length_cons, List.length_nil] <;> omega)) only [push_cast, ↓reduceIte, Nat.reduceLT, Nat.reduceEqDiff, reduceCtorEq, Nat.reduceAdd, if_true, if_false, true_and, and_true, kn, kd, kt, hn, hd, ha, h30, f1, f2, hNq.l0, hNq.l1, hNq.l2, hNq.l3, hNq.l4, hNq.la]
    have hcc : (xs.length : Int) = n.inputs ∧ ys.length = n.flops.length := ⟨hwl, hyl⟩
    refine ACall.mono ?_ (evalNO (r2.sub S.gr.sub) s (hv2.sub S.gr.sub) tp.range (by omega) (rowBools hw) (hY.sub (minusV_sub h' ob A)))
    rintro _ k3 ⟨g3, o1, o2, rfl, hp⟩
    obtain ⟨⟨B1, hO1⟩, B2, hO2⟩ := hp hcc
    rw [if_pos hcc]
    obtain ⟨ob1, hB1⟩ := ownBools hO1
    obtain ⟨ob2, hB2⟩ := ownBools hO2
    have S3 := S.to g3
    obtain ⟨r4, k4, o', A', e4, S4, keep⟩ := S3.push t44 G2.wf hB1 (by omega) (by simp; omega)
    have hY4 := (S3.other hB2).sl.sub keep
    have hV := valsE_is s tp hOl hcc.1 hcc.2
    have hw1 : IntKind.i64.wrap ((i : Int) + 1) = i + 1 := wrapI (by omega) (by omega)
    simp (disch := first | omega | decide | (simp only [List.length_cons, List.length_nil] <;> omega)) only [push_cast, ↓reduceIte, Nat.reduceLT, Nat.reduceEqDiff, reduceCtorEq, Nat.reduceAdd, if_true, if_false, true_and, and_true, kn, kd, kt, hn, hd, ha, h30, aBuild1 t44 k3 hB1.one.2 hB1.one.1, e4, hw1]
    refine ⟨m - 1, by omega, (by simp (disch := decide) only [Kp_put, put_none, hk]), i + 1, nextV n (valsE n O xs ys), os ++ [outsV n (valsE n O xs ys)], some o', A', by simp (disch := first | omega | decide | (simp only [List.length_cons, List.length_nil] <;> omega)) only [push_cast, ↓reduceIte, Nat.reduceLT, Nat.reduceEqDiff, reduceCtorEq, Nat.reduceAdd, if_true, if_false, true_and, and_true], by omega, by simp [nextV], by simp [hosl], by simp (disch := first | omega | decide | (simp only [List.length_cons, List.length_nil] <;> omega)) only [push_cast, ↓reduceIte, Nat.reduceLT, Nat.reduceEqDiff, reduceCtorEq, Nat.reduceAdd, if_true, if_false, true_and, and_true]; exact S4, by simp (disch := first | omega | decide | (simp only [List.length_cons, List.length_nil] <;> omega)) only [push_cast, ↓reduceIte, Nat.reduceLT, Nat.reduceEqDiff, reduceCtorEq, Nat.reduceAdd, if_true, if_false, true_and, and_true]; exact hY4, fun os' q => ?_⟩
    rw [List.append_assoc]
    exact hR _ ⟨_, os', hV, rfl, q⟩
  · have hi : i = t.length := by have := hge; simp at this; omega
    subst hi
    rw [List.drop_length] at hR
    have := hR [] rfl
    rw [List.append_nil] at this
    simp (disch := first | omega | decide | (simp only [List.length_cons, List.length_nil] <;> omega)) only [push_cast, ↓reduceIte, Nat.reduceLT, Nat.reduceEqDiff, reduceCtorEq, Nat.reduceAdd, if_true, if_false, true_and, and_true, kn, kd, kt, hn, hd, ha, h30]
    obtain ⟨q1, q2, q3⟩ := S
    exact ⟨_, os, rfl, ⟨ob, A, G2.trans q1, q2, fun o e => ⟨(q3 o e).1, Nat.le_trans G2.nx (q3 o e).2⟩⟩, this⟩


theorem StV.base {h0 h1 h : AH} {v : Value} {bss : List (List Bool)} (g : Gr h0 h1) (S : StV h1 h v bss) : StV h0 h v bss := by
  obtain ⟨ob, A, g1, hV, hg⟩ := S
  exact ⟨ob, A, g.trans g1, hV, fun o e => ⟨(hg o e).1, Nat.le_trans g.nx (hg o e).2⟩⟩

noncomputable def patE (n : Net) (ord : List Int) (st inp : List Bool) : Int :=
  if scanE n ord ≠ 0 then scanE n ord else if ¬ ((st.length : Int) = n.flops.length ∧ (inp.length : Int) = n.inputs) then 12 else if 2 * (ord.length : Int) + 1 > 64 then 5 else 0

def inT (k : Nat) (b : Bool) : List Bool := List.replicate k false ++ [true, b]
def patL (k : Nat) (inp out : List Bool) : List (List Bool) := out.map (inT k) ++ [inp ++ [false, false]] ++ out.map (fun _ => inT k false)

def PatPost (n : Net) (ord : List Int) (st inp : List Bool) (h : AH) (r : Value) (h' : AH) : Prop :=
  (patE n ord st inp ≠ 0 ∧ Gr h h' ∧ r = .tuple #[.slice none 0 0, .int .i64 (patE n ord st inp)]) ∨
  (patE n ord st inp = 0 ∧ ∃ out u, IsLoad ord st out ∧ r = .tuple #[u, .int .i64 0] ∧ StV h h' u (patL n.inputs.toNat inp out))

theorem scanE_z {n : Net} {ord : List Int} (h : scanE n ord = 0) : netE n = 0 ∧ IsPerm ord ∧ (ord.length : Int) = n.flops.length := by
  unfold scanE at h
  split at h
  · rename_i e; exact absurd h e
  · rename_i e
    split at h
    · rename_i e2; exact ⟨by simpa using e, e2.1, e2.2⟩
    · cases h

theorem patternN {h : AH} {n : Net} {cv fv iv ov v sv xv : Value} {ord : List Int} {st inp : List Bool} (r : NetR h n cv fv iv ov) (ok : NetOK n) (hv : SlOf h v (ord.map (.int .i64))) (hs : SlOf h sv (st.map .bool)) (hx : SlOf h xv (inp.map .bool)) (hb : ord.length ≤ 17592186043904) :
    ACall Tryz.prog 15 [.agg (netC n cv fv iv ov).toArray, v, sv, xv] h (PatPost n ord st inp h) := by
  refine ACall.wf ⟨_, Tryz.func15, rfl, by kernel_rfl⟩ fun hwf => ?_
  refine ACall.of_wp 88 [.tmp 8, .tmp 9] Tryz.func15 rfl (by kernel_rfl) rfl rfl fun a hn hd ha => ?_
  have hbox := boxA 27 h _ r.one
  have hN := NetAt.new (h := h) (n := n) (cv := cv) (fv := fv) (iv := iv) (ov := ov)
  have g1 : Gr h (h.new (.row (netC n cv fv iv ov) 27 true)) := (Gr.refl hwf).new _
  simp (disch := first | omega | decide | (simp only [List.length_cons, List.length_nil] <;> omega)) only [push_cast, ↓reduceIte, Nat.reduceLT, Nat.reduceEqDiff, reduceCtorEq, Nat.reduceAdd, if_true, if_false, true_and, and_true, hn, hd, ha, hbox, hN.l0, hN.l1, hN.l2, hN.l3, hN.l4, hN.la]
  generalize h.new (.row (netC n cv fv iv ov) 27 true) = h1 at hN g1 ⊢
  generalize h.next = B0 at hN ⊢
  have r1 := r.sub g1.sub
  have hv1 := hv.sub g1.sub
  have hs1 := hs.sub g1.sub
  have hx1 := hx.sub g1.sub
  refine ACall.mono ?_ (scanCheck r1 ok hv1 (by omega))
  rintro _ _ ⟨rfl, rfl⟩
  rename_i h1
  by_cases e : scanE n ord = 0
  case neg =>
    simp (disch := first | omega | decide | (simp only [List.length_cons, List.length_nil] <;> omega)) only [push_cast, ↓reduceIte, Nat.reduceLT, Nat.reduceEqDiff, reduceCtorEq, Nat.reduceAdd, if_true, if_false, true_and, and_true, hn, hd, ha, e]
    exact .inl ⟨by unfold patE; rw [if_pos e]; exact e, g1, by unfold patE; rw [if_pos e]⟩
  obtain ⟨en, hp, hl⟩ := scanE_z e
  have s := ShapeOK.of (netE_zero.1 en).1
  have hi0 := s.i0
  have hi1 := s.i1
  obtain ⟨ni, hni⟩ := Int.eq_ofNat_of_zero_le hi0
  have hE : patE n ord st inp = if ¬ ((st.length : Int) = n.flops.length ∧ (inp.length : Int) = n.inputs) then 12 else if 2 * (ord.length : Int) + 1 > 64 then 5 else 0 := by
    unfold patE; rw [if_neg (by simpa using e)]
  by_cases e1 : (st.length : Int) = n.flops.length
  case neg =>
    simp (disch := first | omega | decide | (simp only [List.length_cons, List.length_nil] <;> omega)) only [push_cast, ↓reduceIte, Nat.reduceLT, Nat.reduceEqDiff, reduceCtorEq, Nat.reduceAdd, if_true, if_false, true_and, and_true, hn, hd, ha, e, faL foN0, faL foN1, faL foN2, faL foN3, faL foN4, hN.l0, hN.l1, hN.l2, hN.l3, hN.l4, hN.la, r1.f.len Tryz.underlying23, hs1.lenA Tryz.underlying43, hx1.lenA Tryz.underlying43, e1]
    rw [if_pos (by simp [e1])] at hE
    exact .inl ⟨by omega, g1, by rw [hE]⟩
  by_cases e2 : (inp.length : Int) = n.inputs
  case neg =>
    simp (disch := first | omega | decide | (simp only [List.length_cons, List.length_nil] <;> omega)) only [push_cast, ↓reduceIte, Nat.reduceLT, Nat.reduceEqDiff, reduceCtorEq, Nat.reduceAdd, if_true, if_false, true_and, and_true, hn, hd, ha, e, faL foN0, faL foN1, faL foN2, faL foN3, faL foN4, hN.l0, hN.l1, hN.l2, hN.l3, hN.l4, hN.la, r1.f.len Tryz.underlying23, hs1.lenA Tryz.underlying43, hx1.lenA Tryz.underlying43, e1, e2]
    rw [if_pos (by simp [e2])] at hE
    exact .inl ⟨by omega, g1, by rw [hE]⟩
  rw [if_neg (by simp [e1, e2])] at hE
  have hw1 : IntKind.i64.wrap (2 * (ord.length : Int)) = 2 * ord.length := wrapI (by omega) (by omega)
  have hw2 : IntKind.i64.wrap (2 * (ord.length : Int) + 1) = 2 * ord.length + 1 := wrapI (by omega) (by omega)
  simp (disch := first | omega | decide | (simp only [List.length_cons, List.length_nil] <;> omega)) only [push_cast, ↓reduceIte, Nat.reduceLT, Nat.reduceEqDiff, reduceCtorEq, Nat.reduceAdd, if_true, if_false, true_and, and_true, hn, hd, ha, e, faL foN0, faL foN1, faL foN2, faL foN3, faL foN4, hN.l0, hN.l1, hN.l2, hN.l3, hN.l4, hN.la, r1.f.len Tryz.underlying23, hs1.lenA Tryz.underlying43, hx1.lenA Tryz.underlying43, hv1.lenA Tryz.underlying25, e1, e2, hw1, hw2]
  refine condV_of (fun h5 => ?_) (fun h5 => ?_)
  · have h5' : 2 * (ord.length : Int) + 1 > 64 := by simpa using h5
    simp (disch := first | omega | decide | (simp only [List.length_cons, List.length_nil] <;> omega)) only [push_cast, ↓reduceIte, Nat.reduceLT, Nat.reduceEqDiff, reduceCtorEq, Nat.reduceAdd, if_true, if_false, true_and, and_true, hn, hd, ha]
    rw [if_pos h5'] at hE
    exact .inl ⟨by omega, g1, by rw [hE]⟩
  have h5' : ¬ 2 * (ord.length : Int) + 1 > 64 := by simpa using h5
  rw [if_neg h5'] at hE
  have hch : chainE ord st.length = 0 := by unfold chainE; rw [if_pos hp, if_pos (by omega)]
  simp (disch := first | omega | decide | (simp only [List.length_cons, List.length_nil] <;> omega)) only [push_cast, ↓reduceIte, Nat.reduceLT, Nat.reduceEqDiff, reduceCtorEq, Nat.reduceAdd, if_true, if_false, true_and, and_true, hn, hd, ha]
  refine ACall.mono ?_ (loadO hv1 hs1 (by omega))
  rintro _ h2 ⟨g2, hq⟩
  rcases hq with ⟨hc, _⟩ | ⟨_, A, out, rfl, hil, hol, hA, hrow⟩
  · exact absurd hch hc
  have hN2 := hN.sub g2.sub
  have g3 := g2.new (.row ((List.replicate ni false).map .bool) 4 true)
  have s3 := Sub.new g2.wf (.row ((List.replicate ni false).map .bool) 4 true)
  simp (disch := first | omega | decide | (simp only [List.length_cons, List.length_nil] <;> omega)) only [push_cast, ↓reduceIte, Nat.reduceLT, Nat.reduceEqDiff, reduceCtorEq, Nat.reduceAdd, if_true, if_false, true_and, and_true, hn, hd, ha, faL foN0, faL foN1, faL foN2, faL foN3, faL foN4, hN2.l0, hN2.l1, hN2.l2, hN2.l3, hN2.l4, hN2.la, hni, aMakeSlice_at t23 h2 ni (by omega) (by omega), replicate_bool, lenS Tryz.underlying43]
  have hId : SlOf (h2.new (.row ((List.replicate ni false).map .bool) 4 true)) (.slice (some ⟨h2.next, 0, none⟩) ni ni) ((List.replicate ni false).map .bool) := SlOf.lit (by rw [AH.new_get, if_pos rfl]) rfl (by simp)
  have hO : SlOf (h2.new (.row ((List.replicate ni false).map .bool) 4 true)) (.slice (some ⟨A, 0, none⟩) ord.length ord.length) (out.map .bool) := SlOf.lit (s3 _ _ hrow) rfl (by simp [hol])
  have hx3 := hx1.sub g3.sub
  generalize h2.new (.row ((List.replicate ni false).map .bool) 4 true) = h3 at hId hO g3 hx3 ⊢
  generalize h2.next = B1 at hId ⊢
  refine AW.mono (Q := fun ex a' h' => ex = .exit 1 ∧ a'.n = 88 ∧ a'.df = [] ∧ a'.tm 3 = xv ∧ a'.tm 11 = .slice (some ⟨A, 0, none⟩) ord.length ord.length ∧ a'.tm 12 = .func (.func 40) #[] #[] ∧ a'.tm 13 = .slice (some ⟨B1, 0, none⟩) ni ni ∧ StV h3 h' (a'.tm 14) (out.map (inT ni))) ?_ ?_
  case refine_2 =>
    refine AW.loopN 58 [14, 16] (fun m a' h' => ∃ i : Nat, a'.tm 58 = .int .i64 i ∧ i + m = ord.length ∧ StV h3 h' (a'.tm 14) ((out.take i).map (inT ni))) ord.length ?_ ?_
    · exact ⟨0, by simp (disch := first | omega | decide | (simp only [List.length_cons, List.length_nil] <;> omega)) only [push_cast, ↓reduceIte, Nat.reduceLT, Nat.reduceEqDiff, reduceCtorEq, Nat.reduceAdd, if_true, if_false, true_and, and_true], by omega, by simp (disch := first | omega | decide | (simp only [List.length_cons, List.length_nil] <;> omega)) only [push_cast, ↓reduceIte, Nat.reduceLT, Nat.reduceEqDiff, reduceCtorEq, Nat.reduceAdd, if_true, if_false, true_and, and_true]; exact StV.nil g3.wf⟩
    rintro a1 m a' h' hk kn kd kt ⟨i, h58, him, S⟩
    simp (disch := first | omega | decide | (simp only [List.length_cons, List.length_nil] <;> omega)) only [push_cast, ↓reduceIte, Nat.reduceLT, Nat.reduceEqDiff, reduceCtorEq, Nat.reduceAdd, if_true, if_false, true_and, and_true, kn, kd, kt, hn, hd, ha, h58]
    refine condV_of (fun hlt => ?_) (fun hge => ?_)
    · have hi : i < ord.length := by have := hlt; simp at this; omega
      have hO' := hO.sub S.gr.sub
      have hidx := hO'.idxB sl23 .i64 i (by omega) (by omega)
      have hld := hO'.ldB sl23 i (by omega)
      rw [Int.toNat_natCast] at hidx
      simp (disch := first | omega | decide | (simp only [List.length_cons, List.length_nil] <;> omega)) only [push_cast, ↓reduceIte, Nat.reduceLT, Nat.reduceEqDiff, reduceCtorEq, Nat.reduceAdd, if_true, if_false, true_and, and_true, kn, kd, kt, hn, hd, ha, h58, hidx, hld]
      refine ACall.mono ?_ (cycleB (hId.sub S.gr.sub) (by simp; omega))
      rintro w k1 ⟨g4, ob, A2, hw, lo⟩
      obtain ⟨r5, k5, e5, S5⟩ := StV.push t45 g3.wf S g4 hw (by simp; omega) (by simp; omega)
      simp (disch := first | omega | decide | (simp only [List.length_cons, List.length_nil] <;> omega)) only [push_cast, ↓reduceIte, Nat.reduceLT, Nat.reduceEqDiff, reduceCtorEq, Nat.reduceAdd, if_true, if_false, true_and, and_true, kn, kd, kt, hn, hd, ha, h58, aBuild1 t45 k1 hw.one.2 hw.one.1, e5, wrapI]
      refine ⟨m - 1, by omega, (by simp (disch := decide) only [Kp_put, put_none, hk]), i + 1, by simp (disch := first | omega | decide | (simp only [List.length_cons, List.length_nil] <;> omega)) only [push_cast, ↓reduceIte, Nat.reduceLT, Nat.reduceEqDiff, reduceCtorEq, Nat.reduceAdd, if_true, if_false, true_and, and_true], by omega, ?_⟩
      simp (disch := first | omega | decide | (simp only [List.length_cons, List.length_nil] <;> omega)) only [push_cast, ↓reduceIte, Nat.reduceLT, Nat.reduceEqDiff, reduceCtorEq, Nat.reduceAdd, if_true, if_false, true_and, and_true]
      have : (out.take (i + 1)).map (inT ni) = (out.take i).map (inT ni) ++ [List.replicate ni false ++ [true, out.getD i false]] := by
        rw [take_succ_getD (show i < out.length by omega) false, List.map_append]; rfl
      rw [this]; exact S5
    · have hi : i = ord.length := by have := hge; simp at this; omega
      simp (disch := first | omega | decide | (simp only [List.length_cons, List.length_nil] <;> omega)) only [push_cast, ↓reduceIte, Nat.reduceLT, Nat.reduceEqDiff, reduceCtorEq, Nat.reduceAdd, if_true, if_false, true_and, and_true, kn, kd, kt, hn, hd, ha, h58]
      rw [List.take_of_length_le (by omega)] at S
      exact S
  clear ha hn hd a
  rintro _ a k3 ⟨rfl, hn, hd, t3, t11, t12, t13, S⟩
  simp (disch := first | omega | decide | (simp only [List.length_cons, List.length_nil] <;> omega)) only [push_cast, ↓reduceIte, Nat.reduceLT, Nat.reduceEqDiff, reduceCtorEq, Nat.reduceAdd, if_true, if_false, true_and, and_true, hn, hd, t3, t11, t12, t13]
  refine ACall.mono ?_ (cycleB (hx3.sub S.gr.sub) (by omega))
  rintro w k4 ⟨g4, ob, A2, hw, lo⟩
  obtain ⟨r5, k5, e5, S5⟩ := StV.push t45 g3.wf S g4 hw (by simp; omega) (by simp; omega)
  simp (disch := first | omega | decide | (simp only [List.length_cons, List.length_nil] <;> omega)) only [push_cast, ↓reduceIte, Nat.reduceLT, Nat.reduceEqDiff, reduceCtorEq, Nat.reduceAdd, if_true, if_false, true_and, and_true, hn, hd, t3, t11, t12, t13, aBuild1 t45 k4 hw.one.2 hw.one.1, e5, lenS Tryz.underlying43]
  refine AW.loopN 78 [14] (fun m a' h' => ∃ i : Nat, a'.tm 78 = .int .i64 i ∧ i + m = ord.length ∧ StV h3 h' (a'.tm 14) (out.map (inT ni) ++ [inp ++ [false, false]] ++ (out.take i).map (fun _ => inT ni false))) ord.length ?_ ?_
  · exact ⟨0, by simp (disch := first | omega | decide | (simp only [List.length_cons, List.length_nil] <;> omega)) only [push_cast, ↓reduceIte, Nat.reduceLT, Nat.reduceEqDiff, reduceCtorEq, Nat.reduceAdd, if_true, if_false, true_and, and_true], by omega, by simp (disch := first | omega | decide | (simp only [List.length_cons, List.length_nil] <;> omega)) only [push_cast, ↓reduceIte, Nat.reduceLT, Nat.reduceEqDiff, reduceCtorEq, Nat.reduceAdd, if_true, if_false, true_and, and_true]; simpa using S5⟩
  rintro a1 m a' h' hk kn kd kt ⟨i, h78, him, S6⟩
  simp (disch := first | omega | decide | (simp only [List.length_cons, List.length_nil] <;> omega)) only [push_cast, ↓reduceIte, Nat.reduceLT, Nat.reduceEqDiff, reduceCtorEq, Nat.reduceAdd, if_true, if_false, true_and, and_true, kn, kd, kt, hn, hd, t3, t11, t12, t13, h78]
  refine condV_of (fun hlt => ?_) (fun hge => ?_)
  · have hi : i < ord.length := by have := hlt; simp at this; omega
    simp (disch := first | omega | decide | (simp only [List.length_cons, List.length_nil] <;> omega)) only [push_cast, ↓reduceIte, Nat.reduceLT, Nat.reduceEqDiff, reduceCtorEq, Nat.reduceAdd, if_true, if_false, true_and, and_true, kn, kd, kt, hn, hd, t3, t11, t12, t13, h78]
    refine ACall.mono ?_ (cycleB (hId.sub S6.gr.sub) (by simp; omega))
    rintro w k1 ⟨g4, ob, A2, hw, lo⟩
    obtain ⟨r7, k7, e7, S7⟩ := StV.push t45 g3.wf S6 g4 hw (by simp; omega) (by simp; omega)
    simp (disch := first | omega | decide | (simp only [List.length_cons, List.length_nil] <;> omega)) only [push_cast, ↓reduceIte, Nat.reduceLT, Nat.reduceEqDiff, reduceCtorEq, Nat.reduceAdd, if_true, if_false, true_and, and_true, kn, kd, kt, hn, hd, t3, t11, t12, t13, h78, aBuild1 t45 k1 hw.one.2 hw.one.1, e7, wrapI]
    refine ⟨m - 1, by omega, (by simp (disch := decide) only [Kp_put, put_none, hk]), i + 1, by simp (disch := first | omega | decide | (simp only [List.length_cons, List.length_nil] <;> omega)) only [push_cast, ↓reduceIte, Nat.reduceLT, Nat.reduceEqDiff, reduceCtorEq, Nat.reduceAdd, if_true, if_false, true_and, and_true], by omega, ?_⟩
    simp (disch := first | omega | decide | (simp only [List.length_cons, List.length_nil] <;> omega)) only [push_cast, ↓reduceIte, Nat.reduceLT, Nat.reduceEqDiff, reduceCtorEq, Nat.reduceAdd, if_true, if_false, true_and, and_true]
    have : (out.take (i + 1)).map (fun _ => inT ni false) = (out.take i).map (fun _ => inT ni false) ++ [List.replicate ni false ++ [true, false]] := by
      rw [take_succ_getD (show i < out.length by omega) false, List.map_append]; rfl
    rw [this, ← List.append_assoc]; exact S7
  · have hi : i = ord.length := by have := hge; simp at this; omega
    simp (disch := first | omega | decide | (simp only [List.length_cons, List.length_nil] <;> omega)) only [push_cast, ↓reduceIte, Nat.reduceLT, Nat.reduceEqDiff, reduceCtorEq, Nat.reduceAdd, if_true, if_false, true_and, and_true, kn, kd, kt, hn, hd, t3, t11, t12, t13, h78]
    rw [List.take_of_length_le (by omega)] at S6
    exact .inr ⟨hE, out, _, hil, rfl, by rw [hni]; exact S6.base (g1.trans g3)⟩

end Go.Ab.S1
