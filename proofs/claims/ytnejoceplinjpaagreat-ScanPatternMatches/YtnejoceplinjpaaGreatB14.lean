/- Slices of truths, and slices of these, as arguments; a law of a netlist, an order, two slices of truths and a slice of these. scan.Pattern. netlabref31.Pattern. scan.Observe and netlabref31.Observe. netlablaw31.ScanPatternMatches on the abstract heap. The examples of the chapter hold: netlablaw31.awake returns true, evaluated. -/
import Derived.Test.YtnejoceplinjpaaGreatB13
import Derived.Test.YtnejoceplinjpaaGreatProg
import Derived.KernelRfl
set_option linter.unusedSimpArgs false
set_option linter.unusedVariables false
namespace Go.Ab.S1
open Go.Proofs
open Go.ChangeShapes Go.WideShapes Go.ChangeAt Go.RowKit

def boolL : Lay Bool where
  sz := 1
  pos := by decide
  rel h cs z := cs = [.bool z]
  mono := by rintro h h' cs x hs rfl; rfl
  view := by rintro h cs x rfl; rfl
  len := by rintro h cs x rfl; rfl
  one := by rintro h cs x rfl v hv; simp only [List.mem_cons, List.not_mem_nil, or_false] at hv; subst hv; rfl

theorem rowBools {h : AH} {v : Value} {zs : List Bool} (hr : RowOf boolL h v zs) : SlOf h v (zs.map .bool) := by
  obtain ⟨p, l, c, rfl, hl, ⟨hsp, _⟩, hcs⟩ := hr
  refine ⟨p, l, c, rfl, by rw [List.length_map]; exact hl, hsp, ?_⟩
  rcases hcs with rfl | ⟨A, off, o, cs, rfl, hg, hc, hx⟩
  · exact .inl rfl
  · refine .inr ⟨A, off, o, cs, rfl, hg, hc, fun i x hi => ?_⟩
    rw [List.getElem?_map, Option.map_eq_some_iff] at hi
    obtain ⟨z, hz, rfl⟩ := hi
    have : (cs.drop (off + i * 1)).take 1 = [.bool z] := hx i z hz
    have h1 := congrArg (·[0]?) this
    simp [List.getElem?_take] at h1
    exact h1

section
variable {H : Type} {enc : TypeId × Value → H} {W : World} {base : Nat} {held : Bool}

theorem co4 : Tryz.prog.cellsOf 4 = 1 := by kernel_rfl
theorem co43 : Tryz.prog.cellsOf 43 = 1 := by kernel_rfl
theorem bo4 : Tryz.prog.bytesOf 4 = 1 := by kernel_rfl

theorem openBool : Opens enc Tryz.prog W base (fun _ => true) held 4 boolL (fun _ => True) := by
  intro fuel cs y hd _
  obtain ⟨b, rfl, rfl⟩ := DataW.trod_bool Tryz.underlying4 hd
  exact ⟨b, trivial, fun ρ h hr hro => ⟨ρ, h, _, GrA.refl hr hro, LR.single (.bool _), rfl⟩⟩

theorem openBs : Opens enc Tryz.prog W base (fun _ => true) held 43 bsL (fun l => l.length ≤ 4611686018427387904) := by
  intro fuel cs y hd hw
  obtain ⟨v, zs, rfl, _, hb, br⟩ := openRow (L := boolL) Tryz.underlying43 co4 openBool hd hw
  rw [bo4] at hb
  simp only [reachBytes] at hb
  refine ⟨zs, by show zs.length ≤ _; omega, fun ρ h hr hro => ?_⟩
  obtain ⟨ρ', h', u, g, vr, r⟩ := br ρ h hr hro
  exact ⟨ρ', h', [u], g, LR.single vr, u, rfl, rowBools r⟩

def BoolsW (W : World) (v : Value) (zs : List Bool) : Prop := ∀ ρ h, HR ρ h W → AllRO h → ∃ ρ' h' u, GrA W ρ h ρ' h' ∧ VR ρ' u v ∧ SlOf h' u (zs.map .bool)
def RowsW (W : World) (v : Value) (zs : List (List Bool)) : Prop := ∀ ρ h, HR ρ h W → AllRO h → ∃ ρ' h' u, GrA W ρ h ρ' h' ∧ VR ρ' u v ∧ RowOf bsL h' u zs

theorem openBools {v : Value} {d : DataW H} {ps : List MemPlace} (hone : v.cells.toList = [v]) (hd : DataW.Trod enc Tryz.prog W base (fun _ => true) held 43 v d ps) (hw : ∀ n ∈ DataW.weights Tryz.prog 43 d, n ≤ reachBytes) :
    ∃ zs : List Bool, BoolsW W v zs := by
  obtain ⟨fuel, hd⟩ := hd
  obtain ⟨v', zs, hv, _, hb, br⟩ := openRow (L := boolL) Tryz.underlying43 co4 openBool hd hw
  rw [hone] at hv
  cases hv
  refine ⟨zs, fun ρ h hr hro => ?_⟩
  obtain ⟨ρ', h', u, g, vr, r⟩ := br ρ h hr hro
  exact ⟨ρ', h', u, g, vr, rowBools r⟩

theorem openRows {v : Value} {d : DataW H} {ps : List MemPlace} (hone : v.cells.toList = [v]) (hd : DataW.Trod enc Tryz.prog W base (fun _ => true) held 44 v d ps) (hw : ∀ n ∈ DataW.weights Tryz.prog 44 d, n ≤ reachBytes) :
    ∃ zs : List (List Bool), (∀ l ∈ zs, l.length ≤ 4611686018427387904) ∧ RowsW W v zs := by
  obtain ⟨fuel, hd⟩ := hd
  obtain ⟨v', zs, hv, hgood, hb, br⟩ := openRow (L := bsL) Tryz.underlying44 co43 openBs hd hw
  rw [hone] at hv
  cases hv
  exact ⟨zs, hgood, br⟩
end

theorem lawN5b {g : FuncId} {W : World} {v1 v2 v3 v4 v5 : Value} {n : Net} {zs : List Int} {b3 b4 : List Bool} {l5 : List (List Bool)} (h1 : NetW W v1 n) (h2 : IntsW W v2 zs) (h3 : BoolsW W v3 b3) (h4 : BoolsW W v4 b4) (h5 : RowsW W v5 l5)
    (hc : ∀ h cv fv iv ov u2 u3 u4 u5, NetR h n cv fv iv ov → SlOf h u2 (zs.map (.int .i64)) → SlOf h u3 (b3.map .bool) → SlOf h u4 (b4.map .bool) → RowOf bsL h u5 l5 → ACall Tryz.prog g [.agg (netC n cv fv iv ov).toArray, u2, u3, u4, u5] h (fun r _ => r = .bool true)) :
    Calls Tryz.prog g #[v1, v2, v3, v4, v5] W fun e W' => e = .returned (.bool true) ∧ Below W.heap.size W W' := by
  obtain ⟨ρ1, k1, cv, fv, iv, ov, g1, vr1, s1⟩ := h1 _ _ (HR.empty W) (fun A o h => by cases h)
  obtain ⟨ρ2, k2, u2, g2, vr2, s2⟩ := h2 ρ1 k1 g1.hr g1.ro
  obtain ⟨ρ3, k3, u3, g3, vr3, s3⟩ := h3 ρ2 k2 g2.hr g2.ro
  obtain ⟨ρ4, k4, u4, g4, vr4, s4⟩ := h4 ρ3 k3 g3.hr g3.ro
  obtain ⟨ρ5, k5, u5, g5, vr5, s5⟩ := h5 ρ4 k4 g4.hr g4.ro
  have a4 := g4.trans g5
  have a3 := g3.trans a4
  have a2 := g2.trans a3
  have hcall := (hc k5 cv fv iv ov u2 u3 u4 u5 (s1.sub a2.sub) (s2.sub a3.sub) (s3.sub a4.sub) (s4.sub g5.sub) s5).2 ρ5 #[v1, v2, v3, v4, v5] W ((LR.single vr5).cons (vr4.mono g5.le) |>.cons (vr3.mono a4.le) |>.cons (vr2.mono a3.le) |>.cons (vr1.mono a2.le)) g5.hr
  refine hcall.mono ?_
  rintro e W' ⟨ρ', v, v', h', rfl, rfl, hv, _, hf⟩
  have : v' = .bool true := plain_only 9 _ _ rfl hv
  subst this
  refine ⟨rfl, hf.side.os, hf.side.tape, hf.side.output, hf.size, fun b hb => hf.rest b hb ?_⟩
  rintro ⟨A, o, r, ha, hown, _⟩
  rw [g5.ro A o ha] at hown; cases hown

end Go.Ab.S1

namespace Go.Ab.S1
open Go.Proofs
set_option linter.unusedSimpArgs false
set_option linter.unusedVariables false
set_option maxRecDepth 100000
set_option maxHeartbeats 4000000
attribute [local push_cast] wpA_skip wpA_ret wpA_exit wpA_seq wpA_block wpA_cond2 andK_true wpA_region wpA_draw wpA_loop thenQ_normal thenQ_ret thenQ_exit blockQ_normal blockQ_ret blockQ_exit condV_true condV_false opsM_nil opsM_cons2 okM_true wantM_true wantM_false stepM seqM_cons2 seqM_nil2 okS_true wantS_true wantS_false stepS skipS okB Keeps_nil contK_app List.zip_cons_cons List.zip_nil_left List.zip_nil_right Op.operands Call.operands Array.toList_append List.append_nil List.nil_append List.all_cons List.all_nil cOK plain put_n put_tm put_none put_df ev_tmp ev_const ev_func wanted_none wanted_some callR_func dop ex_some1 aBuiltin aBin intBin aUn Option.map_some Bool.and_true Bool.true_and Bool.and_self List.map_cons List.map_nil List.toList_toArray List.getElem?_toArray List.getElem?_cons_zero List.getElem?_cons_succ Option.getD_some Option.getD_none Bool.false_eq_true eq_self_iff_true decide_true decide_false List.cons_append aExtract resL resV List.getD_cons_zero List.getD_cons_succ List.getD_nil Nat.succ_ne_self g1 g2 yieldedA2 isB_bool isB_undef g3 Option.bind_some Option.bind_none bne_self_eq_false beq_self_eq_true Bool.not_true Bool.not_false Int.toNat_natCast List.length_map List.mem_cons List.not_mem_nil or_false not_false_eq_true decide_not Bool.not_not bodyR_ret2 bodyR_normal2 closeMarks_nil ex_some0 Nat.zero_add Nat.add_zero ieq ine List.map_toArray Option.toArray_none Option.toArray_some oev Keeps_cons Still_eq selL wpX_skip wpX_ret wpX_exit wpX_seq wpX_block wpX_cond wpX_region wpX_draw wpX_loop List.take_succ_cons List.take_zero List.drop_succ_cons List.drop_zero Int.zero_add Int.add_zero aNil

theorem StV.base {h0 h1 h : AH} {v : Value} {bss : List (List Bool)} (g : Gr h0 h1) (S : StV h1 h v bss) : StV h0 h v bss := by
  obtain ⟨g1, ob, A, vs, hV, hg, hl, hr⟩ := S
  exact ⟨g.trans g1, ob, A, vs, hV, fun o e => ⟨(hg o e).1, Nat.le_trans g.nx (hg o e).2⟩, hl, hr⟩

noncomputable def patE (n : Net) (ord : List Int) (st inp : List Bool) : Int :=
  if scanE n ord ≠ 0 then scanE n ord else if ¬ ((st.length : Int) = n.flops.length ∧ (inp.length : Int) = n.inputs) then 12 else if 2 * (ord.length : Int) + 1 > 64 then 5 else 0

def inT (k : Nat) (b : Bool) : List Bool := List.replicate k false ++ [true, b]
def patL (k : Nat) (inp out : List Bool) : List (List Bool) := out.map (inT k) ++ [inp ++ [false, false]] ++ out.map (fun _ => inT k false)

def PatPost (n : Net) (ord : List Int) (st inp : List Bool) (h : AH) (r : Value) (h' : AH) : Prop :=
  (patE n ord st inp ≠ 0 ∧ Gr h h' ∧ r = .tuple #[.slice none 0 0, .int .i64 (patE n ord st inp)]) ∨
  (patE n ord st inp = 0 ∧ ∃ out u, IsLoad ord st out ∧ r = .tuple #[u, .int .i64 0] ∧ StV h h' u (patL n.inputs.toNat inp out))

theorem scanE_z {n : Net} {ord : List Int} (h : scanE n ord = 0) : netE n = 0 ∧ IsPerm ord ∧ (ord.length : Int) = n.flops.length := by
  unfold scanE at h
  split at h
  · rename_i e; exact absurd h e
  · rename_i e
    split at h
    · rename_i e2; exact ⟨by simpa using e, e2.1, e2.2⟩
    · cases h

theorem patternN {h : AH} {n : Net} {cv fv iv ov v sv xv : Value} {ord : List Int} {st inp : List Bool} (r : NetR h n cv fv iv ov) (ok : NetOK n) (hv : SlOf h v (ord.map (.int .i64))) (hs : SlOf h sv (st.map .bool)) (hx : SlOf h xv (inp.map .bool)) (hb : ord.length ≤ 4294967296) :
    ACall Tryz.prog 15 [.agg (netC n cv fv iv ov).toArray, v, sv, xv] h (PatPost n ord st inp h) := by
  refine ACall.wf ⟨_, Tryz.func15, rfl, by kernel_rfl⟩ fun hwf => ?_
  refine ACall.of_wp 88 [.tmp 8, .tmp 9] Tryz.func15 rfl (by kernel_rfl) rfl rfl fun a hn hd ha => ?_
  have hbox := boxA 27 h _ r.one
  have hN := NetAt.new (h := h) (n := n) (cv := cv) (fv := fv) (iv := iv) (ov := ov)
  have g1 : Gr h (h.new (.row (netC n cv fv iv ov) 27 true)) := (Gr.refl hwf).new _
  simp (disch := first | omega | decide | (simp only [List.length_cons, List.length_nil] <;> omega)) only [push_cast, ↓reduceIte, Nat.reduceLT, Nat.reduceEqDiff, reduceCtorEq, Nat.reduceAdd, if_true, if_false, true_and, and_true, hn, hd, ha, hbox, hN.l0, hN.l1, hN.l2, hN.l3, hN.l4, hN.la]
  generalize h.new (.row (netC n cv fv iv ov) 27 true) = h1 at hN g1 ⊢
  generalize h.next = B0 at hN ⊢
  have r1 := r.sub g1.sub
  have hv1 := hv.sub g1.sub
  have hs1 := hs.sub g1.sub
  have hx1 := hx.sub g1.sub
  refine ACall.mono ?_ (scanCheck r1 ok hv1 (by omega))
  rintro _ _ ⟨rfl, rfl⟩
  rename_i h1
  by_cases e : scanE n ord = 0
  case neg =>
    simp (disch := first | omega | decide | (simp only [List.length_cons, List.length_nil] <;> omega)) only [push_cast, ↓reduceIte, Nat.reduceLT, Nat.reduceEqDiff, reduceCtorEq, Nat.reduceAdd, if_true, if_false, true_and, and_true, hn, hd, ha, e]
    exact .inl ⟨by unfold patE; rw [if_pos e]; exact e, g1, by unfold patE; rw [if_pos e]⟩
  obtain ⟨en, hp, hl⟩ := scanE_z e
  have s := ShapeOK.of (netE_zero.1 en).1
  have hi0 := s.i0
  have hi1 := s.i1
  obtain ⟨ni, hni⟩ := Int.eq_ofNat_of_zero_le hi0
  have hE : patE n ord st inp = if ¬ ((st.length : Int) = n.flops.length ∧ (inp.length : Int) = n.inputs) then 12 else if 2 * (ord.length : Int) + 1 > 64 then 5 else 0 := by
    unfold patE; rw [if_neg (by simpa using e)]
  by_cases e1 : (st.length : Int) = n.flops.length
  case neg =>
    simp (disch := first | omega | decide | (simp only [List.length_cons, List.length_nil] <;> omega)) only [push_cast, ↓reduceIte, Nat.reduceLT, Nat.reduceEqDiff, reduceCtorEq, Nat.reduceAdd, if_true, if_false, true_and, and_true, hn, hd, ha, e, faL foN0, faL foN1, faL foN2, faL foN3, faL foN4, hN.l0, hN.l1, hN.l2, hN.l3, hN.l4, hN.la, r1.f.len Tryz.underlying23, hs1.lenA Tryz.underlying43, hx1.lenA Tryz.underlying43, e1]
    rw [if_pos (by simp [e1])] at hE
    exact .inl ⟨by omega, g1, by rw [hE]⟩
  by_cases e2 : (inp.length : Int) = n.inputs
  case neg =>
    simp (disch := first | omega | decide | (simp only [List.length_cons, List.length_nil] <;> omega)) only [push_cast, ↓reduceIte, Nat.reduceLT, Nat.reduceEqDiff, reduceCtorEq, Nat.reduceAdd, if_true, if_false, true_and, and_true, hn, hd, ha, e, faL foN0, faL foN1, faL foN2, faL foN3, faL foN4, hN.l0, hN.l1, hN.l2, hN.l3, hN.l4, hN.la, r1.f.len Tryz.underlying23, hs1.lenA Tryz.underlying43, hx1.lenA Tryz.underlying43, e1, e2]
    rw [if_pos (by simp [e2])] at hE
    exact .inl ⟨by omega, g1, by rw [hE]⟩
  rw [if_neg (by simp [e1, e2])] at hE
  have hw1 : IntKind.i64.wrap (2 * (ord.length : Int)) = 2 * ord.length := wrapI (by omega) (by omega)
  have hw2 : IntKind.i64.wrap (2 * (ord.length : Int) + 1) = 2 * ord.length + 1 := wrapI (by omega) (by omega)
  simp (disch := first | omega | decide | (simp only [List.length_cons, List.length_nil] <;> omega)) only [push_cast, ↓reduceIte, Nat.reduceLT, Nat.reduceEqDiff, reduceCtorEq, Nat.reduceAdd, if_true, if_false, true_and, and_true, hn, hd, ha, e, faL foN0, faL foN1, faL foN2, faL foN3, faL foN4, hN.l0, hN.l1, hN.l2, hN.l3, hN.l4, hN.la, r1.f.len Tryz.underlying23, hs1.lenA Tryz.underlying43, hx1.lenA Tryz.underlying43, hv1.lenA Tryz.underlying25, e1, e2, hw1, hw2]
  refine condV_of (fun h5 => ?_) (fun h5 => ?_)
  · have h5' : 2 * (ord.length : Int) + 1 > 64 := by simpa using h5
    simp (disch := first | omega | decide | (simp only [List.length_cons, List.length_nil] <;> omega)) only [push_cast, ↓reduceIte, Nat.reduceLT, Nat.reduceEqDiff, reduceCtorEq, Nat.reduceAdd, if_true, if_false, true_and, and_true, hn, hd, ha]
    rw [if_pos h5'] at hE
    exact .inl ⟨by omega, g1, by rw [hE]⟩
  have h5' : ¬ 2 * (ord.length : Int) + 1 > 64 := by simpa using h5
  rw [if_neg h5'] at hE
  have hch : chainE ord st.length = 0 := by unfold chainE; rw [if_pos hp, if_pos (by omega)]
  simp (disch := first | omega | decide | (simp only [List.length_cons, List.length_nil] <;> omega)) only [push_cast, ↓reduceIte, Nat.reduceLT, Nat.reduceEqDiff, reduceCtorEq, Nat.reduceAdd, if_true, if_false, true_and, and_true, hn, hd, ha]
  refine ACall.mono ?_ (loadO hv1 hs1 (by omega))
  rintro _ h2 ⟨g2, hq⟩
  rcases hq with ⟨hc, _⟩ | ⟨_, A, out, rfl, hil, hol, hA, hrow⟩
  · exact absurd hch hc
  have hN2 := hN.sub g2.sub
  have g3 := g2.new (.row ((List.replicate ni false).map .bool) 4 true)
  have s3 := Sub.new g2.wf (.row ((List.replicate ni false).map .bool) 4 true)
  simp (disch := first | omega | decide | (simp only [List.length_cons, List.length_nil] <;> omega)) only [push_cast, ↓reduceIte, Nat.reduceLT, Nat.reduceEqDiff, reduceCtorEq, Nat.reduceAdd, if_true, if_false, true_and, and_true, hn, hd, ha, faL foN0, faL foN1, faL foN2, faL foN3, faL foN4, hN2.l0, hN2.l1, hN2.l2, hN2.l3, hN2.l4, hN2.la, hni, aMakeSlice_at t23 h2 ni (by omega) (by omega), replicate_bool, lenS Tryz.underlying43]
  have hId : SlOf (h2.new (.row ((List.replicate ni false).map .bool) 4 true)) (.slice (some ⟨h2.next, 0, none⟩) ni ni) ((List.replicate ni false).map .bool) := SlOf.lit (by rw [AH.new_get, if_pos rfl]) rfl (by simp)
  have hO : SlOf (h2.new (.row ((List.replicate ni false).map .bool) 4 true)) (.slice (some ⟨A, 0, none⟩) ord.length ord.length) (out.map .bool) := SlOf.lit (s3 _ _ hrow) rfl (by simp [hol])
  have hx3 := hx1.sub g3.sub
  generalize h2.new (.row ((List.replicate ni false).map .bool) 4 true) = h3 at hId hO g3 hx3 ⊢
  generalize h2.next = B1 at hId ⊢
  refine AW.mono (Q := fun ex a' h' => ex = .exit 1 ∧ a'.n = 88 ∧ a'.df = [] ∧ a'.tm 3 = xv ∧ a'.tm 11 = .slice (some ⟨A, 0, none⟩) ord.length ord.length ∧ a'.tm 12 = .func (.func 40) #[] #[] ∧ a'.tm 13 = .slice (some ⟨B1, 0, none⟩) ni ni ∧ StV h3 h' (a'.tm 14) (out.map (inT ni))) ?_ ?_
  case refine_2 =>
    refine AW.loopN 58 [14, 16] (fun m a' h' => ∃ i : Nat, a'.tm 58 = .int .i64 i ∧ i + m = ord.length ∧ StV h3 h' (a'.tm 14) ((out.take i).map (inT ni))) ord.length ?_ ?_
    · exact ⟨0, by simp (disch := first | omega | decide | (simp only [List.length_cons, List.length_nil] <;> omega)) only [push_cast, ↓reduceIte, Nat.reduceLT, Nat.reduceEqDiff, reduceCtorEq, Nat.reduceAdd, if_true, if_false, true_and, and_true], by omega, by simp (disch := first | omega | decide | (simp only [List.length_cons, List.length_nil] <;> omega)) only [push_cast, ↓reduceIte, Nat.reduceLT, Nat.reduceEqDiff, reduceCtorEq, Nat.reduceAdd, if_true, if_false, true_and, and_true]; exact StV.nil g3.wf⟩
    rintro a1 m a' h' hk kn kd kt ⟨i, h58, him, S⟩
    simp (disch := first | omega | decide | (simp only [List.length_cons, List.length_nil] <;> omega)) only [push_cast, ↓reduceIte, Nat.reduceLT, Nat.reduceEqDiff, reduceCtorEq, Nat.reduceAdd, if_true, if_false, true_and, and_true, kn, kd, kt, hn, hd, ha, h58]
    refine condV_of (fun hlt => ?_) (fun hge => ?_)
    · have hi : i < ord.length := by have := hlt; simp at this; omega
      have hO' := hO.sub S.gr.sub
      have hidx := hO'.idxB sl23 .i64 i (by omega) (by omega)
      have hld := hO'.ldB sl23 i (by omega)
      rw [Int.toNat_natCast] at hidx
      simp (disch := first | omega | decide | (simp only [List.length_cons, List.length_nil] <;> omega)) only [push_cast, ↓reduceIte, Nat.reduceLT, Nat.reduceEqDiff, reduceCtorEq, Nat.reduceAdd, if_true, if_false, true_and, and_true, kn, kd, kt, hn, hd, ha, h58, hidx, hld]
      refine ACall.mono ?_ (cycleB (hId.sub S.gr.sub) (by simp; omega))
      rintro w k1 ⟨g4, ob, A2, hw, lo⟩
      obtain ⟨r5, k5, e5, S5⟩ := StV.push t45 g3.wf S g4 hw lo (by simp; omega)
      simp (disch := first | omega | decide | (simp only [List.length_cons, List.length_nil] <;> omega)) only [push_cast, ↓reduceIte, Nat.reduceLT, Nat.reduceEqDiff, reduceCtorEq, Nat.reduceAdd, if_true, if_false, true_and, and_true, kn, kd, kt, hn, hd, ha, h58, aBuild1 t45 k1 hw.one.2 hw.one.1, e5, wrapI]
      refine ⟨m - 1, by omega, (by simp (disch := decide) only [Kp_put, put_none, hk]), i + 1, by simp (disch := first | omega | decide | (simp only [List.length_cons, List.length_nil] <;> omega)) only [push_cast, ↓reduceIte, Nat.reduceLT, Nat.reduceEqDiff, reduceCtorEq, Nat.reduceAdd, if_true, if_false, true_and, and_true], by omega, ?_⟩
      simp (disch := first | omega | decide | (simp only [List.length_cons, List.length_nil] <;> omega)) only [push_cast, ↓reduceIte, Nat.reduceLT, Nat.reduceEqDiff, reduceCtorEq, Nat.reduceAdd, if_true, if_false, true_and, and_true]
      have : (out.take (i + 1)).map (inT ni) = (out.take i).map (inT ni) ++ [List.replicate ni false ++ [true, out.getD i false]] := by
        rw [take_succ_getD (show i < out.length by omega) false, List.map_append]; rfl
      rw [this]; exact S5
    · have hi : i = ord.length := by have := hge; simp at this; omega
      simp (disch := first | omega | decide | (simp only [List.length_cons, List.length_nil] <;> omega)) only [push_cast, ↓reduceIte, Nat.reduceLT, Nat.reduceEqDiff, reduceCtorEq, Nat.reduceAdd, if_true, if_false, true_and, and_true, kn, kd, kt, hn, hd, ha, h58]
      rw [List.take_of_length_le (by omega)] at S
      exact S
  clear ha hn hd a
  rintro _ a k3 ⟨rfl, hn, hd, t3, t11, t12, t13, S⟩
  simp (disch := first | omega | decide | (simp only [List.length_cons, List.length_nil] <;> omega)) only [push_cast, ↓reduceIte, Nat.reduceLT, Nat.reduceEqDiff, reduceCtorEq, Nat.reduceAdd, if_true, if_false, true_and, and_true, hn, hd, t3, t11, t12, t13]
  refine ACall.mono ?_ (cycleB (hx3.sub S.gr.sub) (by omega))
  rintro w k4 ⟨g4, ob, A2, hw, lo⟩
  obtain ⟨r5, k5, e5, S5⟩ := StV.push t45 g3.wf S g4 hw lo (by simp; omega)
  simp (disch := first | omega | decide | (simp only [List.length_cons, List.length_nil] <;> omega)) only [push_cast, ↓reduceIte, Nat.reduceLT, Nat.reduceEqDiff, reduceCtorEq, Nat.reduceAdd, if_true, if_false, true_and, and_true, hn, hd, t3, t11, t12, t13, aBuild1 t45 k4 hw.one.2 hw.one.1, e5, lenS Tryz.underlying43]
  refine AW.loopN 78 [14] (fun m a' h' => ∃ i : Nat, a'.tm 78 = .int .i64 i ∧ i + m = ord.length ∧ StV h3 h' (a'.tm 14) (out.map (inT ni) ++ [inp ++ [false, false]] ++ (out.take i).map (fun _ => inT ni false))) ord.length ?_ ?_
  · exact ⟨0, by simp (disch := first | omega | decide | (simp only [List.length_cons, List.length_nil] <;> omega)) only [push_cast, ↓reduceIte, Nat.reduceLT, Nat.reduceEqDiff, reduceCtorEq, Nat.reduceAdd, if_true, if_false, true_and, and_true], by omega, by simp (disch := first | omega | decide | (simp only [List.length_cons, List.length_nil] <;> omega)) only [push_cast, ↓reduceIte, Nat.reduceLT, Nat.reduceEqDiff, reduceCtorEq, Nat.reduceAdd, if_true, if_false, true_and, and_true]; simpa using S5⟩
  rintro a1 m a' h' hk kn kd kt ⟨i, h78, him, S6⟩
  simp (disch := first | omega | decide | (simp only [List.length_cons, List.length_nil] <;> omega)) only [push_cast, ↓reduceIte, Nat.reduceLT, Nat.reduceEqDiff, reduceCtorEq, Nat.reduceAdd, if_true, if_false, true_and, and_true, kn, kd, kt, hn, hd, t3, t11, t12, t13, h78]
  refine condV_of (fun hlt => ?_) (fun hge => ?_)
  · have hi : i < ord.length := by have := hlt; simp at this; omega
    simp (disch := first | omega | decide | (simp only [List.length_cons, List.length_nil] <;> omega)) only [push_cast, ↓reduceIte, Nat.reduceLT, Nat.reduceEqDiff, reduceCtorEq, Nat.reduceAdd, if_true, if_false, true_and, and_true, kn, kd, kt, hn, hd, t3, t11, t12, t13, h78]
    refine ACall.mono ?_ (cycleB (hId.sub S6.gr.sub) (by simp; omega))
    rintro w k1 ⟨g4, ob, A2, hw, lo⟩
    obtain ⟨r7, k7, e7, S7⟩ := StV.push t45 g3.wf S6 g4 hw lo (by simp; omega)
    simp (disch := first | omega | decide | (simp only [List.length_cons, List.length_nil] <;> omega)) only [push_cast, ↓reduceIte, Nat.reduceLT, Nat.reduceEqDiff, reduceCtorEq, Nat.reduceAdd, if_true, if_false, true_and, and_true, kn, kd, kt, hn, hd, t3, t11, t12, t13, h78, aBuild1 t45 k1 hw.one.2 hw.one.1, e7, wrapI]
    refine ⟨m - 1, by omega, (by simp (disch := decide) only [Kp_put, put_none, hk]), i + 1, by simp (disch := first | omega | decide | (simp only [List.length_cons, List.length_nil] <;> omega)) only [push_cast, ↓reduceIte, Nat.reduceLT, Nat.reduceEqDiff, reduceCtorEq, Nat.reduceAdd, if_true, if_false, true_and, and_true], by omega, ?_⟩
    simp (disch := first | omega | decide | (simp only [List.length_cons, List.length_nil] <;> omega)) only [push_cast, ↓reduceIte, Nat.reduceLT, Nat.reduceEqDiff, reduceCtorEq, Nat.reduceAdd, if_true, if_false, true_and, and_true]
    have : (out.take (i + 1)).map (fun _ => inT ni false) = (out.take i).map (fun _ => inT ni false) ++ [List.replicate ni false ++ [true, false]] := by
      rw [take_succ_getD (show i < out.length by omega) false, List.map_append]; rfl
    rw [this, ← List.append_assoc]; exact S7
  · have hi : i = ord.length := by have := hge; simp at this; omega
    simp (disch := first | omega | decide | (simp only [List.length_cons, List.length_nil] <;> omega)) only [push_cast, ↓reduceIte, Nat.reduceLT, Nat.reduceEqDiff, reduceCtorEq, Nat.reduceAdd, if_true, if_false, true_and, and_true, kn, kd, kt, hn, hd, t3, t11, t12, t13, h78]
    rw [List.take_of_length_le (by omega)] at S6
    exact .inr ⟨hE, out, _, hil, rfl, by rw [hni]; exact S6.base (g1.trans g3)⟩


theorem madeBv (k : AH) (ni : Nat) (hni : ni ≤ 4294967296) : BoolsV (k.new (.row ((List.replicate ni false).map .bool) 4 true)) (.slice (some ⟨k.next, 0, none⟩) ni ni) (some (.row ((List.replicate ni false).map .bool) 4 true)) k.next (List.replicate ni false) :=
  ⟨.inr (.inr ⟨_, ni, by simp, by omega, by simp, by simp, rfl, by simp⟩), fun o e => by cases e; rw [AH.new_get, if_pos rfl]⟩

/-- A slice of one's own and two truths behind it. -/
theorem two2 {k0 k : AH} {rv : Value} {ob : Option AObj} {A : Nat} {zs : List Bool} {e b : Bool} (w0 : WFH k0) (g : Gr k0 k) (hv : BoolsV k rv ob A zs) (lo : ∀ o, ob = some o → k0.next ≤ A) (hb : zs.length ≤ 4294967290) :
    ∃ r h' ob' A', aAppend Tryz.prog #[43, 43] rv (.slice (some ⟨k.next, 0, none⟩) 2 2) (k.new (.row [.bool e, .bool b] 4 true)) = some (r, h') ∧ Gr k0 h' ∧ BoolsV h' r ob' A' (zs ++ [e, b]) ∧ (∀ o, ob' = some o → k0.next ≤ A') := by
  have g2 := g.new (.row [.bool e, .bool b] 4 true)
  have s2 := Sub.new g.wf (.row [.bool e, .bool b] 4 true)
  have hs : SlOf (k.new (.row [.bool e, .bool b] 4 true)) (.slice (some ⟨k.next, 0, none⟩) 2 2) ([e, b].map .bool) := SlOf.lit (by rw [AH.new_get, if_pos rfl]) rfl rfl
  obtain ⟨r2, k2, ob', A', e2, g3, hv2, lo2, _⟩ := appOwn w0 g2 (hv.sub s2) lo hs (by simp; omega)
  exact ⟨r2, k2, ob', A', e2, g3, hv2, lo2⟩

theorem patternR {h : AH} {n : Net} {cv fv iv ov v sv xv : Value} {ord : List Int} {st inp : List Bool} (r : NetR h n cv fv iv ov) (ok : NetOK n) (hv : SlOf h v (ord.map (.int .i64))) (hs : SlOf h sv (st.map .bool)) (hx : SlOf h xv (inp.map .bool)) (hb : ord.length ≤ 4294967296) :
    ACall Tryz.prog 16 [.agg (netC n cv fv iv ov).toArray, v, sv, xv] h (PatPost n ord st inp h) := by
  refine ACall.wf ⟨_, Tryz.func16, rfl, by kernel_rfl⟩ fun hwf => ?_
  refine ACall.of_wp 89 [.tmp 8, .tmp 9] Tryz.func16 rfl (by kernel_rfl) rfl rfl fun a hn hd ha => ?_
  have hbox := boxA 27 h _ r.one
  have hN := NetAt.new (h := h) (n := n) (cv := cv) (fv := fv) (iv := iv) (ov := ov)
  have g1 : Gr h (h.new (.row (netC n cv fv iv ov) 27 true)) := (Gr.refl hwf).new _
  simp (disch := first | omega | decide | (simp only [List.length_cons, List.length_nil] <;> omega)) only [push_cast, ↓reduceIte, Nat.reduceLT, Nat.reduceEqDiff, reduceCtorEq, Nat.reduceAdd, if_true, if_false, true_and, and_true, hn, hd, ha, hbox, hN.l0, hN.l1, hN.l2, hN.l3, hN.l4, hN.la]
  generalize h.new (.row (netC n cv fv iv ov) 27 true) = h1 at hN g1 ⊢
  generalize h.next = B0 at hN ⊢
  have r1 := r.sub g1.sub
  have hv1 := hv.sub g1.sub
  have hs1 := hs.sub g1.sub
  have hx1 := hx.sub g1.sub
  refine ACall.mono ?_ (check29 r1 ok)
  rintro _ _ ⟨rfl, rfl⟩
  rename_i h1
  have hE0 : netE n ≠ 0 → patE n ord st inp = netE n := fun e => by
    have : scanE n ord = netE n := by unfold scanE; rw [if_pos e]
    unfold patE; rw [if_pos (by rw [this]; exact e), this]
  by_cases en : netE n = 0
  case neg =>
    simp (disch := first | omega | decide | (simp only [List.length_cons, List.length_nil] <;> omega)) only [push_cast, ↓reduceIte, Nat.reduceLT, Nat.reduceEqDiff, reduceCtorEq, Nat.reduceAdd, if_true, if_false, true_and, and_true, hn, hd, ha, en]
    exact .inl ⟨by rw [hE0 en]; exact en, g1, by rw [hE0 en]⟩
  simp (disch := first | omega | decide | (simp only [List.length_cons, List.length_nil] <;> omega)) only [push_cast, ↓reduceIte, Nat.reduceLT, Nat.reduceEqDiff, reduceCtorEq, Nat.reduceAdd, if_true, if_false, true_and, and_true, hn, hd, ha, en, faL foN0, faL foN1, faL foN2, faL foN3, faL foN4, hN.l0, hN.l1, hN.l2, hN.l3, hN.l4, hN.la, r1.f.len Tryz.underlying23]
  refine ACall.mono ?_ (order (n := (n.flops.length : Int)) hv1 (by omega))
  rintro _ _ ⟨rfl, rfl⟩
  rename_i h1
  have hS : scanE n ord = if IsPerm ord ∧ (ord.length : Int) = n.flops.length then 0 else 1 := by unfold scanE; rw [if_neg (by simpa using en)]
  by_cases hp0 : IsPerm ord ∧ (ord.length : Int) = n.flops.length
  case neg =>
    rw [if_neg hp0] at hS
    have hE : patE n ord st inp = 1 := by unfold patE; rw [if_pos (by omega), hS]
    simp (disch := first | omega | decide | (simp only [List.length_cons, List.length_nil] <;> omega)) only [push_cast, ↓reduceIte, Nat.reduceLT, Nat.reduceEqDiff, reduceCtorEq, Nat.reduceAdd, if_true, if_false, true_and, and_true, hn, hd, ha, hp0]
    exact .inl ⟨by omega, g1, by rw [hE]⟩
  rw [if_pos hp0] at hS
  obtain ⟨hp, hl⟩ := id hp0
  have s := ShapeOK.of (netE_zero.1 en).1
  have hi0 := s.i0
  have hi1 := s.i1
  obtain ⟨ni, hni⟩ := Int.eq_ofNat_of_zero_le hi0
  have hE : patE n ord st inp = if ¬ ((st.length : Int) = n.flops.length ∧ (inp.length : Int) = n.inputs) then 12 else if 2 * (ord.length : Int) + 1 > 64 then 5 else 0 := by
    unfold patE; rw [if_neg (by simpa using hS)]
  simp only [hp0, and_self, decide_true]
  by_cases e1 : (st.length : Int) = n.flops.length
  case neg =>
    simp (disch := first | omega | decide | (simp only [List.length_cons, List.length_nil] <;> omega)) only [push_cast, ↓reduceIte, Nat.reduceLT, Nat.reduceEqDiff, reduceCtorEq, Nat.reduceAdd, if_true, if_false, true_and, and_true, hn, hd, ha, faL foN0, faL foN1, faL foN2, faL foN3, faL foN4, hN.l0, hN.l1, hN.l2, hN.l3, hN.l4, hN.la, r1.f.len Tryz.underlying23, hs1.lenA Tryz.underlying43, hx1.lenA Tryz.underlying43, e1]
    rw [if_pos (by simp [e1])] at hE
    exact .inl ⟨by omega, g1, by rw [hE]⟩
  by_cases e2 : (inp.length : Int) = n.inputs
  case neg =>
    simp (disch := first | omega | decide | (simp only [List.length_cons, List.length_nil] <;> omega)) only [push_cast, ↓reduceIte, Nat.reduceLT, Nat.reduceEqDiff, reduceCtorEq, Nat.reduceAdd, if_true, if_false, true_and, and_true, hn, hd, ha, faL foN0, faL foN1, faL foN2, faL foN3, faL foN4, hN.l0, hN.l1, hN.l2, hN.l3, hN.l4, hN.la, r1.f.len Tryz.underlying23, hs1.lenA Tryz.underlying43, hx1.lenA Tryz.underlying43, e1, e2]
    rw [if_pos (by simp [e2])] at hE
    exact .inl ⟨by omega, g1, by rw [hE]⟩
  rw [if_neg (by simp [e1, e2])] at hE
  have hw1 : IntKind.i64.wrap (2 * (ord.length : Int)) = 2 * ord.length := wrapI (by omega) (by omega)
  have hw2 : IntKind.i64.wrap (2 * (ord.length : Int) + 1) = 2 * ord.length + 1 := wrapI (by omega) (by omega)
  simp (disch := first | omega | decide | (simp only [List.length_cons, List.length_nil] <;> omega)) only [push_cast, ↓reduceIte, Nat.reduceLT, Nat.reduceEqDiff, reduceCtorEq, Nat.reduceAdd, if_true, if_false, true_and, and_true, hn, hd, ha, faL foN0, faL foN1, faL foN2, faL foN3, faL foN4, hN.l0, hN.l1, hN.l2, hN.l3, hN.l4, hN.la, r1.f.len Tryz.underlying23, hs1.lenA Tryz.underlying43, hx1.lenA Tryz.underlying43, hv1.lenA Tryz.underlying25, e1, e2, hw1, hw2]
  refine condV_of (fun h5 => ?_) (fun h5 => ?_)
  · have h5' : 2 * (ord.length : Int) + 1 > 64 := by simpa using h5
    simp (disch := first | omega | decide | (simp only [List.length_cons, List.length_nil] <;> omega)) only [push_cast, ↓reduceIte, Nat.reduceLT, Nat.reduceEqDiff, reduceCtorEq, Nat.reduceAdd, if_true, if_false, true_and, and_true, hn, hd, ha]
    rw [if_pos h5'] at hE
    exact .inl ⟨by omega, g1, by rw [hE]⟩
  have h5' : ¬ 2 * (ord.length : Int) + 1 > 64 := by simpa using h5
  rw [if_neg h5'] at hE
  have hch : chainE ord st.length = 0 := by unfold chainE; rw [if_pos hp, if_pos (by omega)]
  simp (disch := first | omega | decide | (simp only [List.length_cons, List.length_nil] <;> omega)) only [push_cast, ↓reduceIte, Nat.reduceLT, Nat.reduceEqDiff, reduceCtorEq, Nat.reduceAdd, if_true, if_false, true_and, and_true, hn, hd, ha]
  refine ACall.mono ?_ (loadRG hv1 hs1 (by omega))
  rintro _ h2 ⟨g2, _, hq⟩
  rcases hq with ⟨hc, _⟩ | ⟨_, lv, out, rfl, hil, hO⟩
  · exact absurd hch hc
  have hol : out.length = ord.length := hil.1
  have hN2 := hN.sub g2.sub
  have hx2 := hx1.sub g2.sub
  simp (disch := first | omega | decide | (simp only [List.length_cons, List.length_nil] <;> omega)) only [push_cast, ↓reduceIte, Nat.reduceLT, Nat.reduceEqDiff, reduceCtorEq, Nat.reduceAdd, if_true, if_false, true_and, and_true, hn, hd, ha, hO.lenA Tryz.underlying43]
  refine AW.mono (Q := fun ex a' h' => ex = .exit 0 ∧ a'.n = 89 ∧ a'.df = [] ∧ a'.tm 3 = xv ∧ a'.tm 4 = .pointer (some ⟨B0, 0, none⟩) ∧ a'.tm 11 = lv ∧ StV h2 h' (a'.tm 13) (out.map (inT ni))) ?_ ?_
  case refine_2 =>
    refine AW.loopN 53 [13, 15] (fun m a' h' => ∃ i : Nat, a'.tm 53 = .int .i64 i ∧ i + m = out.length ∧ StV h2 h' (a'.tm 13) ((out.take i).map (inT ni))) out.length ?_ ?_
    · exact ⟨0, by simp (disch := first | omega | decide | (simp only [List.length_cons, List.length_nil] <;> omega)) only [push_cast, ↓reduceIte, Nat.reduceLT, Nat.reduceEqDiff, reduceCtorEq, Nat.reduceAdd, if_true, if_false, true_and, and_true], by omega, by simp (disch := first | omega | decide | (simp only [List.length_cons, List.length_nil] <;> omega)) only [push_cast, ↓reduceIte, Nat.reduceLT, Nat.reduceEqDiff, reduceCtorEq, Nat.reduceAdd, if_true, if_false, true_and, and_true]; exact StV.nil g2.wf⟩
    rintro a1 m a' h' hk kn kd kt ⟨i, h53, him, S⟩
    simp (disch := first | omega | decide | (simp only [List.length_cons, List.length_nil] <;> omega)) only [push_cast, ↓reduceIte, Nat.reduceLT, Nat.reduceEqDiff, reduceCtorEq, Nat.reduceAdd, if_true, if_false, true_and, and_true, kn, kd, kt, hn, hd, ha, h53]
    refine condV_of (fun hlt => ?_) (fun hge => ?_)
    · have hi : i < out.length := by have := hlt; simp at this; omega
      have hO' := hO.sub S.gr.sub
      have hNq := hN2.sub S.gr.sub
      have hidx := hO'.idxB sl23 .i64 i (by omega) (by omega)
      have hld := hO'.ldB sl23 i (by omega)
      rw [Int.toNat_natCast] at hidx
      have g4 := (Gr.refl S.gr.wf).new (.row ((List.replicate ni false).map .bool) 4 true)
      obtain ⟨w, k1, ob, A2, e4, g5, hw, lo⟩ := two2 (e := true) (b := out.getD i false) S.gr.wf g4 (madeBv h' ni (by omega)) (fun o e => Nat.le_refl _) (by simp; omega)
      rw [AH.new_next] at e4
      obtain ⟨r5, k5, e5, S5⟩ := StV.push t45 g2.wf S g5 hw lo (by simp; omega)
      simp (disch := first | omega | decide | (simp only [List.length_cons, List.length_nil] <;> omega)) only [push_cast, ↓reduceIte, Nat.reduceLT, Nat.reduceEqDiff, reduceCtorEq, Nat.reduceAdd, if_true, if_false, true_and, and_true, kn, kd, kt, hn, hd, ha, h53, hidx, hld, faL foN0, faL foN1, faL foN2, faL foN3, faL foN4, hNq.l0, hNq.l1, hNq.l2, hNq.l3, hNq.l4, hNq.la, hni, aMakeSlice_at t23 h' ni (by omega) (by omega), replicate_bool, aBuild2b, AH.new_next, e4, aBuild1 t45 k1 hw.one.2 hw.one.1, e5, wrapI]
      refine ⟨m - 1, by omega, (by simp (disch := decide) only [Kp_put, put_none, hk]), i + 1, by simp (disch := first | omega | decide | (simp only [List.length_cons, List.length_nil] <;> omega)) only [push_cast, ↓reduceIte, Nat.reduceLT, Nat.reduceEqDiff, reduceCtorEq, Nat.reduceAdd, if_true, if_false, true_and, and_true], by omega, ?_⟩
      simp (disch := first | omega | decide | (simp only [List.length_cons, List.length_nil] <;> omega)) only [push_cast, ↓reduceIte, Nat.reduceLT, Nat.reduceEqDiff, reduceCtorEq, Nat.reduceAdd, if_true, if_false, true_and, and_true]
      have : (out.take (i + 1)).map (inT ni) = (out.take i).map (inT ni) ++ [List.replicate ni false ++ [true, out.getD i false]] := by
        rw [take_succ_getD (show i < out.length by omega) false, List.map_append]; rfl
      rw [this]; exact S5
    · have hi : i = out.length := by have := hge; simp at this; omega
      simp (disch := first | omega | decide | (simp only [List.length_cons, List.length_nil] <;> omega)) only [push_cast, ↓reduceIte, Nat.reduceLT, Nat.reduceEqDiff, reduceCtorEq, Nat.reduceAdd, if_true, if_false, true_and, and_true, kn, kd, kt, hn, hd, ha, h53]
      rw [List.take_of_length_le (by omega)] at S
      exact S
  clear ha hn hd a
  rintro _ a k3 ⟨rfl, hn, hd, t3, t4, t11, S⟩
  have g4 := (Gr.refl S.gr.wf).new (.row [] 4 true)
  obtain ⟨w1, k1, ob1, A1, f1, g5, hw1', lo1, _⟩ := appOwn S.gr.wf g4 (emptyB (by rw [AH.new_get, if_pos rfl])) (fun o e => Nat.le_refl _) ((hx2.sub S.gr.sub).sub g4.sub) (by simp; omega)
  obtain ⟨w, k2, ob, A2, f2, g6, hw, lo⟩ := two2 (e := false) (b := false) S.gr.wf g5 hw1' lo1 (by simp; omega)
  obtain ⟨r5, k5, e5, S5⟩ := StV.push t45 g2.wf S g6 hw lo (by simp; omega)
  rw [List.nil_append] at S5
  simp (disch := first | omega | decide | (simp only [List.length_cons, List.length_nil] <;> omega)) only [push_cast, ↓reduceIte, Nat.reduceLT, Nat.reduceEqDiff, reduceCtorEq, Nat.reduceAdd, if_true, if_false, true_and, and_true, hn, hd, t3, t4, t11, aBuildSlice_empty t23, f1, aBuild2b, f2, aBuild1 t45 k2 hw.one.2 hw.one.1, e5, hO.lenA Tryz.underlying43]
  refine AW.loopN 77 [13] (fun m a' h' => ∃ i : Nat, a'.tm 77 = .int .i64 i ∧ i + m = out.length ∧ StV h2 h' (a'.tm 13) (out.map (inT ni) ++ [inp ++ [false, false]] ++ (out.take i).map (fun _ => inT ni false))) out.length ?_ ?_
  · exact ⟨0, by simp (disch := first | omega | decide | (simp only [List.length_cons, List.length_nil] <;> omega)) only [push_cast, ↓reduceIte, Nat.reduceLT, Nat.reduceEqDiff, reduceCtorEq, Nat.reduceAdd, if_true, if_false, true_and, and_true], by omega, by simp (disch := first | omega | decide | (simp only [List.length_cons, List.length_nil] <;> omega)) only [push_cast, ↓reduceIte, Nat.reduceLT, Nat.reduceEqDiff, reduceCtorEq, Nat.reduceAdd, if_true, if_false, true_and, and_true]; simpa using S5⟩
  rintro a1 m a' h' hk kn kd kt ⟨i, h77, him, S6⟩
  simp (disch := first | omega | decide | (simp only [List.length_cons, List.length_nil] <;> omega)) only [push_cast, ↓reduceIte, Nat.reduceLT, Nat.reduceEqDiff, reduceCtorEq, Nat.reduceAdd, if_true, if_false, true_and, and_true, kn, kd, kt, hn, hd, t3, t4, t11, h77]
  refine condV_of (fun hlt => ?_) (fun hge => ?_)
  · have hi : i < out.length := by have := hlt; simp at this; omega
    have hNq := hN2.sub S6.gr.sub
    have g4 := (Gr.refl S6.gr.wf).new (.row ((List.replicate ni false).map .bool) 4 true)
    obtain ⟨w, k1, ob, A2, e4, g5, hw, lo⟩ := two2 (e := true) (b := false) S6.gr.wf g4 (madeBv h' ni (by omega)) (fun o e => Nat.le_refl _) (by simp; omega)
    rw [AH.new_next] at e4
    obtain ⟨r7, k7, e7, S7⟩ := StV.push t45 g2.wf S6 g5 hw lo (by simp; omega)
    simp (disch := first | omega | decide | (simp only [List.length_cons, List.length_nil] <;> omega)) only [push_cast, ↓reduceIte, Nat.reduceLT, Nat.reduceEqDiff, reduceCtorEq, Nat.reduceAdd, if_true, if_false, true_and, and_true, kn, kd, kt, hn, hd, t3, t4, t11, h77, faL foN0, faL foN1, faL foN2, faL foN3, faL foN4, hNq.l0, hNq.l1, hNq.l2, hNq.l3, hNq.l4, hNq.la, hni, aMakeSlice_at t23 h' ni (by omega) (by omega), replicate_bool, aBuild2b, AH.new_next, e4, aBuild1 t45 k1 hw.one.2 hw.one.1, e7, wrapI]
    refine ⟨m - 1, by omega, (by simp (disch := decide) only [Kp_put, put_none, hk]), i + 1, by simp (disch := first | omega | decide | (simp only [List.length_cons, List.length_nil] <;> omega)) only [push_cast, ↓reduceIte, Nat.reduceLT, Nat.reduceEqDiff, reduceCtorEq, Nat.reduceAdd, if_true, if_false, true_and, and_true], by omega, ?_⟩
    simp (disch := first | omega | decide | (simp only [List.length_cons, List.length_nil] <;> omega)) only [push_cast, ↓reduceIte, Nat.reduceLT, Nat.reduceEqDiff, reduceCtorEq, Nat.reduceAdd, if_true, if_false, true_and, and_true]
    have : (out.take (i + 1)).map (fun _ => inT ni false) = (out.take i).map (fun _ => inT ni false) ++ [List.replicate ni false ++ [true, false]] := by
      rw [take_succ_getD (show i < out.length by omega) false, List.map_append]; rfl
    rw [this, ← List.append_assoc]; exact S7
  · have hi : i = out.length := by have := hge; simp at this; omega
    simp (disch := first | omega | decide | (simp only [List.length_cons, List.length_nil] <;> omega)) only [push_cast, ↓reduceIte, Nat.reduceLT, Nat.reduceEqDiff, reduceCtorEq, Nat.reduceAdd, if_true, if_false, true_and, and_true, kn, kd, kt, hn, hd, t3, t4, t11, h77]
    rw [List.take_of_length_le (by omega)] at S6
    exact .inr ⟨hE, out, _, hil, rfl, by rw [hni]; exact S6.base (g1.trans g2)⟩


theorem permV {h : AH} {v : Value} {zs : List Int} {n : Int} (hv : SlOf h v (zs.map (.int .i64))) (hb : zs.length ≤ 17592186043904) :
    ACall Tryz.prog 43 [v, .int .i64 n] h (fun r h' => r = .bool (decide (IsPerm zs ∧ (zs.length : Int) = n)) ∧ h' = h) :=
  ACall.viewed rfl (ACall.mono (fun _ _ q => q.1) (permutation hv.view hb))

def hasNil (outs : List (List Bool)) : Bool := outs.any fun l => decide ((l.length : Int) = 0)
noncomputable def obsE (ord : List Int) (outs : List (List Bool)) : Int :=
  if ¬ IsPerm ord then 1 else if ¬ (outs.length : Int) = 2 * ord.length + 1 ∨ hasNil outs = true then 12 else 0
def lastB (l : List Bool) : Bool := l.getD (l.length - 1) false
def bitsO (ord : List Int) (outs : List (List Bool)) : List Bool := (outs.drop (ord.length + 1)).map lastB

def ObsPost (ord : List Int) (outs : List (List Bool)) (h : AH) (r : Value) (h' : AH) : Prop :=
  Gr h h' ∧ ((obsE ord outs ≠ 0 ∧ r = .tuple #[.slice none 0 0, .int .i64 (obsE ord outs)]) ∨
    (obsE ord outs = 0 ∧ ∃ u out, r = .tuple #[u, .int .i64 0] ∧ IsUnload ord (bitsO ord outs) out ∧ SlOf h' u (out.map .bool)))

theorem hasNil_at {outs : List (List Bool)} (h : hasNil outs = false) {i : Nat} (hi : i < outs.length) : 0 < (outs.getD i []).length := by
  unfold hasNil at h
  rw [List.any_eq_false] at h
  have := h _ (getD_mem hi [])
  simp at this
  exact List.length_pos_iff.2 this

theorem obs_end {ord : List Int} {outs : List (List Bool)} {h h1 : AH} {r : Value} {h2 : AH} (hE : obsE ord outs = 0) (hp : IsPerm ord) (hl : (outs.length : Int) = 2 * ord.length + 1) (g : Gr h h1) (q : LoadOwn IsUnload ord (bitsO ord outs) h1 r h2) :
    ObsPost ord outs h r h2 := by
  obtain ⟨g2, hq⟩ := q
  have hbl : (bitsO ord outs).length = ord.length := by unfold bitsO; rw [List.length_map, List.length_drop]; omega
  rcases hq with ⟨hc, _⟩ | ⟨_, A, out, rfl, hu, hol, _, hrow⟩
  · exact absurd (by unfold chainE; rw [if_pos hp, if_pos hbl]) hc
  · exact ⟨g.trans g2, .inr ⟨hE, _, out, rfl, hu, SlOf.lit hrow rfl (by simp [hol])⟩⟩

theorem bits_take {ord : List Int} {outs : List (List Bool)} {i : Nat} (hi : i + (ord.length + 1) < outs.length) : (bitsO ord outs).take (i + 1) = (bitsO ord outs).take i ++ [lastB (outs.getD (ord.length + 1 + i) [])] := by
  have hl : i < (bitsO ord outs).length := by unfold bitsO; rw [List.length_map, List.length_drop]; omega
  rw [take_succ_getD hl false]
  congr 2
  unfold bitsO
  have hd : ord.length + 1 + i < outs.length := by omega
  simp [List.getD_eq_getElem?_getD, List.getElem?_map, List.getElem?_drop, List.getElem?_eq_getElem hd]

theorem observeN {h : AH} {v ov : Value} {ord : List Int} {outs : List (List Bool)} (hv : SlOf h v (ord.map (.int .i64))) (ho : RowOf bsL h ov outs) (hb : ord.length ≤ 4294967296) (hol : outs.length ≤ 4294967296) (hbl : ∀ l ∈ outs, l.length ≤ 4611686018427387904) :
    ACall Tryz.prog 17 [v, ov] h (ObsPost ord outs h) := by
  refine ACall.wf ⟨_, Tryz.func17, rfl, by kernel_rfl⟩ fun hwf => ?_
  refine ACall.of_wp 52 [.tmp 4, .tmp 5] Tryz.func17 rfl (by kernel_rfl) rfl rfl fun a hn hd ha => ?_
  simp (disch := first | omega | decide | (simp only [List.length_cons, List.length_nil] <;> omega)) only [push_cast, ↓reduceIte, Nat.reduceLT, Nat.reduceEqDiff, reduceCtorEq, Nat.reduceAdd, if_true, if_false, true_and, and_true, hn, hd, ha, hv.lenA Tryz.underlying25]
  refine ACall.mono ?_ (permV hv (by omega))
  rintro _ _ ⟨rfl, rfl⟩
  rename_i h
  by_cases hp : IsPerm ord
  case neg =>
    have hE : obsE ord outs = 1 := by unfold obsE; rw [if_pos hp]
    simp (disch := first | omega | decide | (simp only [List.length_cons, List.length_nil] <;> omega)) only [push_cast, ↓reduceIte, Nat.reduceLT, Nat.reduceEqDiff, reduceCtorEq, Nat.reduceAdd, if_true, if_false, true_and, and_true, hn, hd, ha, hp, false_and]
    exact ⟨Gr.refl hwf, .inl ⟨by omega, by rw [hE]⟩⟩
  have hw1 : IntKind.i64.wrap (2 * (ord.length : Int)) = 2 * ord.length := wrapI (by omega) (by omega)
  have hw2 : IntKind.i64.wrap (2 * (ord.length : Int) + 1) = 2 * ord.length + 1 := wrapI (by omega) (by omega)
  have hE : obsE ord outs = if ¬ (outs.length : Int) = 2 * ord.length + 1 ∨ hasNil outs = true then 12 else 0 := by unfold obsE; rw [if_neg (by simpa using hp)]
  by_cases e1 : (outs.length : Int) = 2 * ord.length + 1
  case neg =>
    simp (disch := first | omega | decide | (simp only [List.length_cons, List.length_nil] <;> omega)) only [push_cast, ↓reduceIte, Nat.reduceLT, Nat.reduceEqDiff, reduceCtorEq, Nat.reduceAdd, if_true, if_false, true_and, and_true, hn, hd, ha, hp, ho.len Tryz.underlying44, hv.lenA Tryz.underlying25, hw1, hw2, e1]
    rw [if_pos (.inl e1)] at hE
    exact ⟨Gr.refl hwf, .inl ⟨by omega, by rw [hE]⟩⟩
  have e1q : ((outs.length : Int) = 2 * ord.length + 1) = True := eq_true e1
  simp (disch := first | omega | decide | (simp only [List.length_cons, List.length_nil] <;> omega)) only [push_cast, ↓reduceIte, Nat.reduceLT, Nat.reduceEqDiff, reduceCtorEq, Nat.reduceAdd, if_true, if_false, true_and, and_true, hn, hd, ha, hp, ho.len Tryz.underlying44, hv.lenA Tryz.underlying25, hw1, hw2, e1q]
  refine ACall.mono ?_ (containsB (p := fun l => decide ((l.length : Int) = 0)) ho (fun w bs hw => by rw [callR_func]; exact emptyQ hw) (by omega))
  rintro _ _ ⟨rfl, rfl⟩
  rename_i h
  have hany : (outs.any fun l => decide ((l.length : Int) = 0)) = hasNil outs := rfl
  rw [hany]
  cases e2 : hasNil outs with
  | true =>
    simp (disch := first | omega | decide | (simp only [List.length_cons, List.length_nil] <;> omega)) only [push_cast, ↓reduceIte, Nat.reduceLT, Nat.reduceEqDiff, reduceCtorEq, Nat.reduceAdd, if_true, if_false, true_and, and_true, hn, hd, ha]
    rw [if_pos (.inr e2)] at hE
    exact ⟨Gr.refl hwf, .inl ⟨by omega, by rw [hE]⟩⟩
  | false =>
  rw [if_neg (by simp [e1, e2])] at hE
  obtain ⟨v', hsl, hr'⟩ := rowPostB (k := .i64) (n := ord.length + 1) ho (by omega)
  have hcast : ((ord.length + 1 : Nat) : Int) = ord.length + 1 := by simp
  rw [hcast] at hsl
  have hw3 : IntKind.i64.wrap ((ord.length : Int) + 1) = ord.length + 1 := wrapI (by omega) (by omega)
  have hdl : (outs.drop (ord.length + 1)).length = ord.length := by rw [List.length_drop]; omega
  simp (disch := first | omega | decide | (simp only [List.length_cons, List.length_nil] <;> omega)) only [push_cast, ↓reduceIte, Nat.reduceLT, Nat.reduceEqDiff, reduceCtorEq, Nat.reduceAdd, if_true, if_false, true_and, and_true, hn, hd, ha, hv.lenA Tryz.underlying25, hw3, hsl, hr'.len Tryz.underlying44, hdl]
  refine AW.mono (Q := fun ex a' h' => ex = .exit 1 ∧ a'.n = 52 ∧ a'.df = [] ∧ a'.tm 0 = v ∧ Gr h h' ∧ FrSl 4 h h' (a'.tm 6) ((bitsO ord outs).map .bool)) ?_ ?_
  case refine_2 =>
    refine AW.loopN 33 [6, 8] (fun m a' h' => Gr h h' ∧ ∃ i : Nat, a'.tm 33 = .int .i64 i ∧ i + m = ord.length ∧ FrSl 4 h h' (a'.tm 6) (((bitsO ord outs).take i).map .bool)) ord.length ?_ ?_
    · exact ⟨Gr.refl hwf, 0, by simp (disch := first | omega | decide | (simp only [List.length_cons, List.length_nil] <;> omega)) only [push_cast, ↓reduceIte, Nat.reduceLT, Nat.reduceEqDiff, reduceCtorEq, Nat.reduceAdd, if_true, if_false, true_and, and_true], by omega, by simp (disch := first | omega | decide | (simp only [List.length_cons, List.length_nil] <;> omega)) only [push_cast, ↓reduceIte, Nat.reduceLT, Nat.reduceEqDiff, reduceCtorEq, Nat.reduceAdd, if_true, if_false, true_and, and_true]; exact FrSl.nil _ _ _⟩
    rintro a1 m a' h' hk kn kd kt ⟨g, i, h33, him, F⟩
    simp (disch := first | omega | decide | (simp only [List.length_cons, List.length_nil] <;> omega)) only [push_cast, ↓reduceIte, Nat.reduceLT, Nat.reduceEqDiff, reduceCtorEq, Nat.reduceAdd, if_true, if_false, true_and, and_true, kn, kd, kt, hn, hd, ha, h33]
    refine condV_of (fun hlt => ?_) (fun hge => ?_)
    · have hi : i < ord.length := by have := hlt; simp at this; omega
      obtain ⟨w, hw, f1, f2⟩ := rowAtB (hr'.sub g.sub) (i := i) (by omega)
      have hge0 : (outs.drop (ord.length + 1)).getD i [] = outs.getD (ord.length + 1 + i) [] := by simp [List.getD_eq_getElem?_getD, List.getElem?_drop]
      rw [hge0] at hw
      have hpos := hasNil_at e2 (i := ord.length + 1 + i) (by omega)
      have hbnd := hbl _ (getD_mem (show ord.length + 1 + i < outs.length by omega) [])
      have hbt := bits_take (ord := ord) (outs := outs) (i := i) (by omega)
      generalize outs.getD (ord.length + 1 + i) [] = l at *
      obtain ⟨k, hkl⟩ : ∃ k : Nat, l.length = k + 1 := ⟨l.length - 1, by omega⟩
      have hll : lastB l = l.getD k false := by unfold lastB; rw [hkl]; simp
      have hwl : IntKind.i64.wrap ((l.length : Int) - 1) = k := by rw [hkl, Int.natCast_add, Int.natCast_one, Int.add_sub_cancel]; exact wrapI (by omega) (by omega)
      have hidx := hw.idxB sl23 .i64 k (by omega) (by omega)
      have hld := hw.ldB sl23 k (by omega)
      rw [Int.toNat_natCast] at hidx
      have happ := app1 t23 g F (by simp; omega) (by simp; omega) (.bool (lastB l))
      rw [hll] at happ hbt
      simp (disch := first | omega | decide | (simp only [List.length_cons, List.length_nil] <;> omega)) only [push_cast, ↓reduceIte, Nat.reduceLT, Nat.reduceEqDiff, reduceCtorEq, Nat.reduceAdd, if_true, if_false, true_and, and_true, kn, kd, kt, hn, hd, ha, h33, f1, f2, hw.lenA Tryz.underlying43, hwl, hidx, hld, fun b => aBuild1 t23 h' (x := .bool b) rfl rfl, happ, wrapI]
      refine ⟨m - 1, by omega, (by simp (disch := decide) only [Kp_put, put_none, hk]), app1_gr hwf g F, i + 1, by simp (disch := first | omega | decide | (simp only [List.length_cons, List.length_nil] <;> omega)) only [push_cast, ↓reduceIte, Nat.reduceLT, Nat.reduceEqDiff, reduceCtorEq, Nat.reduceAdd, if_true, if_false, true_and, and_true], by omega, ?_⟩
      simp (disch := first | omega | decide | (simp only [List.length_cons, List.length_nil] <;> omega)) only [push_cast, ↓reduceIte, Nat.reduceLT, Nat.reduceEqDiff, reduceCtorEq, Nat.reduceAdd, if_true, if_false, true_and, and_true]
      rw [hbt, List.map_append]
      have := app1_fr (e := 4) (v := a'.tm 6) (x := .bool (l.getD k false)) (vs := ((bitsO ord outs).take i).map .bool) g
      simpa using this
    · have hi : i = ord.length := by have := hge; simp at this; omega
      simp (disch := first | omega | decide | (simp only [List.length_cons, List.length_nil] <;> omega)) only [push_cast, ↓reduceIte, Nat.reduceLT, Nat.reduceEqDiff, reduceCtorEq, Nat.reduceAdd, if_true, if_false, true_and, and_true, kn, kd, kt, hn, hd, ha, h33]
      have hbl2 : (bitsO ord outs).length = ord.length := by unfold bitsO; rw [List.length_map]; exact hdl
      rw [List.take_of_length_le (by omega)] at F
      exact ⟨g, F⟩
  have t0 := ha 0
  simp only [List.getD_cons_zero] at t0
  clear ha hn hd a t0
  rintro _ a h2 ⟨rfl, hn, hd, t0, g, F⟩
  simp (disch := first | omega | decide | (simp only [List.length_cons, List.length_nil] <;> omega)) only [push_cast, ↓reduceIte, Nat.reduceLT, Nat.reduceEqDiff, reduceCtorEq, Nat.reduceAdd, if_true, if_false, true_and, and_true, hn, hd, t0]
  refine ACall.mono ?_ (unloadO (hv.sub g.sub) F.sl (by omega))
  intro r h3 q
  obtain ⟨gg, hq⟩ := obs_end hE hp e1 g q
  rcases hq with ⟨hc, _⟩ | ⟨_, u, out, rfl, hu, hs⟩
  · exact absurd hE hc
  simp (disch := first | omega | decide | (simp only [List.length_cons, List.length_nil] <;> omega)) only [push_cast, ↓reduceIte, Nat.reduceLT, Nat.reduceEqDiff, reduceCtorEq, Nat.reduceAdd, if_true, if_false, true_and, and_true, hn, hd, t0]
  exact ⟨gg, .inr ⟨hE, u, out, rfl, hu, hs⟩⟩

theorem observeR {h : AH} {v ov : Value} {ord : List Int} {outs : List (List Bool)} (hv : SlOf h v (ord.map (.int .i64))) (ho : RowOf bsL h ov outs) (hb : ord.length ≤ 4294967296) (hol : outs.length ≤ 4294967296) (hbl : ∀ l ∈ outs, l.length ≤ 4611686018427387904) :
    ACall Tryz.prog 18 [v, ov] h (ObsPost ord outs h) := by
  refine ACall.wf ⟨_, Tryz.func18, rfl, by kernel_rfl⟩ fun hwf => ?_
  refine ACall.of_wp 56 [.tmp 4, .tmp 5] Tryz.func18 rfl (by kernel_rfl) rfl rfl fun a hn hd ha => ?_
  simp (disch := first | omega | decide | (simp only [List.length_cons, List.length_nil] <;> omega)) only [push_cast, ↓reduceIte, Nat.reduceLT, Nat.reduceEqDiff, reduceCtorEq, Nat.reduceAdd, if_true, if_false, true_and, and_true, hn, hd, ha, hv.lenA Tryz.underlying25]
  refine ACall.mono ?_ (order hv (by omega))
  rintro _ _ ⟨rfl, rfl⟩
  rename_i h
  by_cases hp : IsPerm ord
  case neg =>
    have hE : obsE ord outs = 1 := by unfold obsE; rw [if_pos hp]
    simp (disch := first | omega | decide | (simp only [List.length_cons, List.length_nil] <;> omega)) only [push_cast, ↓reduceIte, Nat.reduceLT, Nat.reduceEqDiff, reduceCtorEq, Nat.reduceAdd, if_true, if_false, true_and, and_true, hn, hd, ha, hp, false_and]
    exact ⟨Gr.refl hwf, .inl ⟨by omega, by rw [hE]⟩⟩
  have hw1 : IntKind.i64.wrap (2 * (ord.length : Int)) = 2 * ord.length := wrapI (by omega) (by omega)
  have hw2 : IntKind.i64.wrap (2 * (ord.length : Int) + 1) = 2 * ord.length + 1 := wrapI (by omega) (by omega)
  have hE : obsE ord outs = if ¬ (outs.length : Int) = 2 * ord.length + 1 ∨ hasNil outs = true then 12 else 0 := by unfold obsE; rw [if_neg (by simpa using hp)]
  by_cases e1 : (outs.length : Int) = 2 * ord.length + 1
  case neg =>
    simp (disch := first | omega | decide | (simp only [List.length_cons, List.length_nil] <;> omega)) only [push_cast, ↓reduceIte, Nat.reduceLT, Nat.reduceEqDiff, reduceCtorEq, Nat.reduceAdd, if_true, if_false, true_and, and_true, hn, hd, ha, hp, ho.len Tryz.underlying44, hv.lenA Tryz.underlying25, hw1, hw2, e1]
    rw [if_pos (.inl e1)] at hE
    exact ⟨Gr.refl hwf, .inl ⟨by omega, by rw [hE]⟩⟩
  have e1q : ((outs.length : Int) = 2 * ord.length + 1) = True := eq_true e1
  simp (disch := first | omega | decide | (simp only [List.length_cons, List.length_nil] <;> omega)) only [push_cast, ↓reduceIte, Nat.reduceLT, Nat.reduceEqDiff, reduceCtorEq, Nat.reduceAdd, if_true, if_false, true_and, and_true, hn, hd, ha, hp, ho.len Tryz.underlying44, hv.lenA Tryz.underlying25, hw1, hw2, e1q]
  refine AW.loopN 20 [4, 5, 6, 7] (fun m a' h' => Gr h h' ∧ ∃ i : Nat, a'.tm 7 = .int .i64 i ∧ i + m = outs.length ∧ (∀ j, j < i → 0 < (outs.getD j []).length) ∧ FrSl 4 h h' (a'.tm 6) (((bitsO ord outs).take (i - (ord.length + 1))).map .bool)) outs.length ?_ ?_
  · exact ⟨Gr.refl hwf, 0, by simp (disch := first | omega | decide | (simp only [List.length_cons, List.length_nil] <;> omega)) only [push_cast, ↓reduceIte, Nat.reduceLT, Nat.reduceEqDiff, reduceCtorEq, Nat.reduceAdd, if_true, if_false, true_and, and_true], by omega, fun j hj => by omega, by simp (disch := first | omega | decide | (simp only [List.length_cons, List.length_nil] <;> omega)) only [push_cast, ↓reduceIte, Nat.reduceLT, Nat.reduceEqDiff, reduceCtorEq, Nat.reduceAdd, if_true, if_false, true_and, and_true]; rw [Nat.zero_sub]; exact FrSl.nil _ _ _⟩
  rintro a1 m a' h' hk kn kd kt ⟨g, i, h7, him, hall, F⟩
  have ho' := ho.sub g.sub
  simp (disch := first | omega | decide | (simp only [List.length_cons, List.length_nil] <;> omega)) only [push_cast, ↓reduceIte, Nat.reduceLT, Nat.reduceEqDiff, reduceCtorEq, Nat.reduceAdd, if_true, if_false, true_and, and_true, kn, kd, kt, hn, hd, ha, h7, ho'.len Tryz.underlying44]
  refine condV_of (fun hlt => ?_) (fun hge => ?_)
  · have hi : i < outs.length := by have := hlt; simp at this; omega
    obtain ⟨w, hw, f1, f2⟩ := rowAtB ho' hi
    have hbnd := hbl _ (getD_mem hi [])
    simp (disch := first | omega | decide | (simp only [List.length_cons, List.length_nil] <;> omega)) only [push_cast, ↓reduceIte, Nat.reduceLT, Nat.reduceEqDiff, reduceCtorEq, Nat.reduceAdd, if_true, if_false, true_and, and_true, kn, kd, kt, hn, hd, ha, h7, f1, f2, hw.lenA Tryz.underlying43]
    by_cases hz : ((outs.getD i []).length : Int) = 0
    · have e2 : hasNil outs = true := by
        unfold hasNil; rw [List.any_eq_true]
        exact ⟨_, getD_mem hi [], by simpa using hz⟩
      rw [if_pos (.inr e2)] at hE
      simp (disch := first | omega | decide | (simp only [List.length_cons, List.length_nil] <;> omega)) only [push_cast, ↓reduceIte, Nat.reduceLT, Nat.reduceEqDiff, reduceCtorEq, Nat.reduceAdd, if_true, if_false, true_and, and_true, kn, kd, kt, hn, hd, ha, h7, hz]
      exact ⟨g, .inl ⟨by omega, by rw [hE]⟩⟩
    have hw3 : IntKind.i64.wrap ((i : Int) + 1) = i + 1 := wrapI (by omega) (by omega)
    simp (disch := first | omega | decide | (simp only [List.length_cons, List.length_nil] <;> omega)) only [push_cast, ↓reduceIte, Nat.reduceLT, Nat.reduceEqDiff, reduceCtorEq, Nat.reduceAdd, if_true, if_false, true_and, and_true, kn, kd, kt, hn, hd, ha, h7, hz, hv.lenA Tryz.underlying25]
    have hall' : ∀ j, j < i + 1 → 0 < (outs.getD j []).length := fun j hj => by
      by_cases e : j = i
      · subst e; omega
      · exact hall j (by omega)
    refine condV_of (fun hgt => ?_) (fun hle => ?_)
    · have hgt' : ord.length < i := by have := hgt; simp at this; omega
      refine AW.drawP (.take 0 [15, 14] (.take 1 [15, 14, 13, 12, 11, 4, 3] (.take 2 [15, 14, 13, 12, 11, 4, 3] (.take 3 [15, 14, 13, 12, 11, 4] (.take 4 [15, 14, 13, 12, 11] (.take 5 [15, 14, 13, 12, 11, 10, 9, 8, 7] (.take 6 [15, 14, 13, 12, 11, 10, 9, 8, 7] (.take 7 [15, 14, 13, 12, 11, 10, 9, 8] (.take 8 [15, 14, 13, 12, 11, 10, 9] (.take 9 [15, 14, 13, 12, 11, 10] (.take 10 [15, 14, 13, 12, 11] (.take 11 [15, 14, 13, 12] (.take 12 [15, 14, 13] (.only 13 (.only 14 (.take 15 [] .done)))))))))))))))) [(0, 0), (0, 1), (0, 2), (0, 3), (0, 4), (0, 5), (0, 6), (0, 7), (0, 8), (0, 9), (0, 10), (0, 11), (0, 12), (2, 13), (2, 14), (0, 15)] mixed (by kernel_rfl) (by kernel_rfl) ?_
      obtain ⟨j, hj⟩ : ∃ j : Nat, i = ord.length + 1 + j := ⟨i - (ord.length + 1), by omega⟩
      have hbt := bits_take (ord := ord) (outs := outs) (i := j) (by omega)
      rw [← hj] at hbt
      have e3 : i - (ord.length + 1) = j := by omega
      have e4 : i + 1 - (ord.length + 1) = j + 1 := by omega
      rw [e3] at F
      generalize outs.getD i [] = l at *
      obtain ⟨k, hkl⟩ : ∃ k : Nat, l.length = k + 1 := ⟨l.length - 1, by omega⟩
      have hll : lastB l = l.getD k false := by unfold lastB; rw [hkl]; simp
      have hwl : IntKind.i64.wrap ((l.length : Int) - 1) = k := by rw [hkl, Int.natCast_add, Int.natCast_one, Int.add_sub_cancel]; exact wrapI (by omega) (by omega)
      have hidx := hw.idxB sl23 .i64 k (by omega) (by omega)
      have hld := hw.ldB sl23 k (by omega)
      rw [Int.toNat_natCast] at hidx
      have happ := app1 t23 g F (by simp; omega) (by simp; omega) (.bool (lastB l))
      rw [hll] at happ hbt
      simp (disch := first | omega | decide | (simp only [List.length_cons, List.length_nil] <;> omega)) only [push_cast, ↓reduceIte, Nat.reduceLT, Nat.reduceEqDiff, reduceCtorEq, Nat.reduceAdd, if_true, if_false, true_and, and_true, kn, kd, kt, hn, hd, ha, h7, f1, f2, hw.lenA Tryz.underlying43, hwl, hidx, hld, fun b => aBuild1 t23 h' (x := .bool b) rfl rfl, happ, hw3]
      refine ⟨m - 1, by omega, (by simp (disch := decide) only [Kp_put, put_none, hk]), app1_gr hwf g F, i + 1, by simp (disch := first | omega | decide | (simp only [List.length_cons, List.length_nil] <;> omega)) only [push_cast, ↓reduceIte, Nat.reduceLT, Nat.reduceEqDiff, reduceCtorEq, Nat.reduceAdd, if_true, if_false, true_and, and_true], by omega, hall', ?_⟩
      simp (disch := first | omega | decide | (simp only [List.length_cons, List.length_nil] <;> omega)) only [push_cast, ↓reduceIte, Nat.reduceLT, Nat.reduceEqDiff, reduceCtorEq, Nat.reduceAdd, if_true, if_false, true_and, and_true]
      rw [e4, hbt, List.map_append]
      have := app1_fr (e := 4) (v := a'.tm 6) (x := .bool (l.getD k false)) (vs := ((bitsO ord outs).take j).map .bool) g
      simpa using this
    · have hle' : i ≤ ord.length := by have := hle; simp at this; omega
      simp (disch := first | omega | decide | (simp only [List.length_cons, List.length_nil] <;> omega)) only [push_cast, ↓reduceIte, Nat.reduceLT, Nat.reduceEqDiff, reduceCtorEq, Nat.reduceAdd, if_true, if_false, true_and, and_true, kn, kd, kt, hn, hd, ha, h7, hw3]
      have e3 : i - (ord.length + 1) = 0 := by omega
      have e4 : i + 1 - (ord.length + 1) = 0 := by omega
      rw [e3] at F
      exact ⟨m - 1, by omega, (by simp (disch := decide) only [Kp_put, put_none, hk]), g, i + 1, by simp (disch := first | omega | decide | (simp only [List.length_cons, List.length_nil] <;> omega)) only [push_cast, ↓reduceIte, Nat.reduceLT, Nat.reduceEqDiff, reduceCtorEq, Nat.reduceAdd, if_true, if_false, true_and, and_true], by omega, hall', by simp (disch := first | omega | decide | (simp only [List.length_cons, List.length_nil] <;> omega)) only [push_cast, ↓reduceIte, Nat.reduceLT, Nat.reduceEqDiff, reduceCtorEq, Nat.reduceAdd, if_true, if_false, true_and, and_true]; rw [e4]; exact F⟩
  · have hi : i = outs.length := by have := hge; simp at this; omega
    have e2 : hasNil outs = false := by
      unfold hasNil; rw [List.any_eq_false]
      intro l hl
      obtain ⟨j, hj, rfl⟩ := List.getElem_of_mem hl
      have := hall j (by omega)
      rw [List.getD_eq_getElem?_getD, List.getElem?_eq_getElem hj, Option.getD_some] at this
      simp; exact List.length_pos_iff.1 this
    rw [if_neg (by simp [e1, e2])] at hE
    have hbl2 : (bitsO ord outs).length = ord.length := by unfold bitsO; rw [List.length_map, List.length_drop]; omega
    rw [List.take_of_length_le (by omega)] at F
    simp (disch := first | omega | decide | (simp only [List.length_cons, List.length_nil] <;> omega)) only [push_cast, ↓reduceIte, Nat.reduceLT, Nat.reduceEqDiff, reduceCtorEq, Nat.reduceAdd, if_true, if_false, true_and, and_true, kn, kd, kt, hn, hd, ha, h7]
    refine ACall.mono ?_ (unloadR (hv.sub g.sub) F.sl (by omega))
    intro r h3 q
    obtain ⟨gg, hq⟩ := obs_end hE hp e1 g q
    rcases hq with ⟨hc, _⟩ | ⟨_, u, out, rfl, hu, hs⟩
    · exact absurd hE hc
    simp (disch := first | omega | decide | (simp only [List.length_cons, List.length_nil] <;> omega)) only [push_cast, ↓reduceIte, Nat.reduceLT, Nat.reduceEqDiff, reduceCtorEq, Nat.reduceAdd, if_true, if_false, true_and, and_true, kn, kd, kt, hn, hd, ha]
    exact ⟨gg, .inr ⟨hE, u, out, rfl, hu, hs⟩⟩


def PatVal (n : Net) (ord : List Int) (st inp : List Bool) (e : Int) (l : List (List Bool)) : Prop :=
  (patE n ord st inp ≠ 0 ∧ e = patE n ord st inp ∧ l = []) ∨ (patE n ord st inp = 0 ∧ e = 0 ∧ ∃ out, IsLoad ord st out ∧ l = patL n.inputs.toNat inp out)

theorem PatVal.unique {n : Net} {ord : List Int} {st inp : List Bool} {e1 e2 : Int} {l1 l2 : List (List Bool)} (h1 : PatVal n ord st inp e1 l1) (h2 : PatVal n ord st inp e2 l2) : e1 = e2 ∧ l1 = l2 := by
  rcases h1 with ⟨x1, rfl, rfl⟩ | ⟨x1, rfl, o1, a1, rfl⟩ <;> rcases h2 with ⟨x2, rfl, rfl⟩ | ⟨x2, rfl, o2, a2, rfl⟩
  · exact ⟨rfl, rfl⟩
  · exact absurd x2 x1
  · exact absurd x1 x2
  · rw [a1.unique a2]; exact ⟨rfl, rfl⟩

theorem patE_in {n : Net} {ord : List Int} {st inp : List Bool} (h : patE n ord st inp = 0) : n.inputs.toNat ≤ 64 := by
  unfold patE at h
  split at h
  · rename_i e; exact absurd h e
  · rename_i e
    have := (scanE_z (by simpa using e)).1
    have s := ShapeOK.of (netE_zero.1 this).1
    have := s.i1
    omega

theorem PatVal.bound {n : Net} {ord : List Int} {st inp : List Bool} {e : Int} {l : List (List Bool)} (h : PatVal n ord st inp e l) (hx : inp.length ≤ 100) (ho : ord.length ≤ 100) : l.length ≤ 300 ∧ ∀ x ∈ l, x.length < 4611686018427387904 := by
  rcases h with ⟨_, _, rfl⟩ | ⟨h0, _, out, hl, rfl⟩
  · exact ⟨by simp, fun x hx => (nomatch hx)⟩
  · have hi := patE_in h0
    have hl1 := hl.1
    refine ⟨by simp [patL]; omega, fun x hxm => ?_⟩
    simp only [patL, List.mem_append, List.mem_map, List.mem_singleton] at hxm
    rcases hxm with (⟨b, _, rfl⟩ | rfl) | ⟨b, _, rfl⟩ <;> simp [inT] <;> omega

theorem PatPost.to {n : Net} {ord : List Int} {st inp : List Bool} {h : AH} {r : Value} {h' : AH} (q : PatPost n ord st inp h r h') (ho : ord.length ≤ 100) : ∃ u l e, r = .tuple #[u, .int .i64 e] ∧ Gr h h' ∧ RowOf bsL h' u l ∧ PatVal n ord st inp e l := by
  rcases q with ⟨x, g, rfl⟩ | ⟨x, out, u, hl, rfl, S⟩
  · exact ⟨_, [], _, rfl, g, (StV.nil g.wf).row (by simp), .inl ⟨x, rfl, rfl⟩⟩
  · have hl1 := hl.1
    exact ⟨u, _, 0, rfl, S.gr, S.row (by simp [patL]; omega), .inr ⟨x, rfl, out, hl, rfl⟩⟩

def ObsVal (ord : List Int) (outs : List (List Bool)) (e : Int) (l : List Bool) : Prop :=
  (obsE ord outs ≠ 0 ∧ e = obsE ord outs ∧ l = []) ∨ (obsE ord outs = 0 ∧ e = 0 ∧ IsUnload ord (bitsO ord outs) l)

theorem obsE_perm {ord : List Int} {outs : List (List Bool)} (h : obsE ord outs = 0) : IsPerm ord := by
  unfold obsE at h
  split at h
  · cases h
  · rename_i e; simpa using e

theorem ObsVal.unique {ord : List Int} {outs : List (List Bool)} {e1 e2 : Int} {l1 l2 : List Bool} (h1 : ObsVal ord outs e1 l1) (h2 : ObsVal ord outs e2 l2) : e1 = e2 ∧ l1 = l2 := by
  rcases h1 with ⟨x1, rfl, rfl⟩ | ⟨x1, rfl, a1⟩ <;> rcases h2 with ⟨x2, rfl, rfl⟩ | ⟨x2, rfl, a2⟩
  · exact ⟨rfl, rfl⟩
  · exact absurd x2 x1
  · exact absurd x1 x2
  · rw [IsUnload.unique (obsE_perm x1) a1 a2]; exact ⟨rfl, rfl⟩

theorem ObsPost.to {ord : List Int} {outs : List (List Bool)} {h : AH} {r : Value} {h' : AH} (q : ObsPost ord outs h r h') (ho : ord.length ≤ 100) : ∃ u l e, r = .tuple #[u, .int .i64 e] ∧ Gr h h' ∧ SlOf h' u (l.map .bool) ∧ ObsVal ord outs e l ∧ l.length ≤ 100 := by
  obtain ⟨g, q⟩ := q
  rcases q with ⟨x, rfl⟩ | ⟨x, u, out, rfl, hu, hs⟩
  · exact ⟨_, [], _, rfl, g, SlOf.nil _, .inl ⟨x, rfl, rfl⟩, by simp⟩
  · have := hu.1
    exact ⟨u, out, 0, rfl, g, hs, .inr ⟨x, rfl, hu⟩, by omega⟩

theorem scanPatternMatches (aw : ∀ h, ACall Tryz.prog 9 [] h (fun v h' => v = .bool true ∧ h' = h)) {h : AH} {n : Net} {cv fv iv ov v sv xv uv : Value} {ord : List Int} {st inp : List Bool} {outs : List (List Bool)} (r : NetR h n cv fv iv ov) (ok : NetOK n) (hc : n.cells.length ≤ 4611686018427387904)
    (hv : SlOf h v (ord.map (.int .i64))) (hs : SlOf h sv (st.map .bool)) (hx : SlOf h xv (inp.map .bool)) (ho : RowOf bsL h uv outs) (hbl : ∀ l ∈ outs, l.length ≤ 4611686018427387904) :
    ACall Tryz.prog 4 [.agg (netC n cv fv iv ov).toArray, v, sv, xv, uv] h (fun r _ => r = .bool true) := by
  refine ACall.wf ⟨_, Tryz.func4, rfl, by kernel_rfl⟩ fun hwf => ?_
  refine ACall.of_wp 91 [.tmp 10] Tryz.func4 rfl (by kernel_rfl) rfl rfl fun a hn hd ha => ?_
  have hbox := boxA 27 h _ r.one
  have hN := NetAt.new (h := h) (n := n) (cv := cv) (fv := fv) (iv := iv) (ov := ov)
  have g1 : Gr h (h.new (.row (netC n cv fv iv ov) 27 true)) := (Gr.refl hwf).new _
  simp (disch := first | omega | decide | (simp only [List.length_cons, List.length_nil] <;> omega)) only [push_cast, ↓reduceIte, Nat.reduceLT, Nat.reduceEqDiff, reduceCtorEq, Nat.reduceAdd, if_true, if_false, true_and, and_true, hn, hd, ha, hbox, hN.l0, hN.l1, hN.l2, hN.l3, hN.l4, hN.la]
  generalize h.new (.row (netC n cv fv iv ov) 27 true) = h1 at hN g1 ⊢
  generalize h.next = B0 at hN ⊢
  refine ACall.mono ?_ (long29 (r.sub g1.sub) ok hc)
  rintro _ h2 ⟨⟨b, rfl⟩, g2⟩
  have g02 := g1.trans (show Gr h1 h2 from g2)
  have hN2 := hN.sub g2.sub
  have r2 := r.sub g02.sub
  have hv2 := hv.sub g02.sub
  have hs2 := hs.sub g02.sub
  have hx2 := hx.sub g02.sub
  have ho2 := ho.sub g02.sub
  have hL := hv2.lenA Tryz.underlying25
  have hLs := hs2.lenA Tryz.underlying43
  have hLx := hx2.lenA Tryz.underlying43
  have hLo := ho2.len Tryz.underlying44
  cases b with
  | true =>
    simp (disch := first | omega | decide | (simp only [List.length_cons, List.length_nil] <;> omega)) only [push_cast, ↓reduceIte, Nat.reduceLT, Nat.reduceEqDiff, reduceCtorEq, Nat.reduceAdd, if_true, if_false, true_and, and_true, hn, hd, ha]
    refine ACall.mono ?_ (aw _)
    rintro _ _ ⟨rfl, _⟩
    simp (disch := first | omega | decide | (simp only [List.length_cons, List.length_nil] <;> omega)) only [push_cast, ↓reduceIte, Nat.reduceLT, Nat.reduceEqDiff, reduceCtorEq, Nat.reduceAdd, if_true, if_false, true_and, and_true, hn, hd, ha]
  | false =>
  by_cases e1 : (ord.length : Int) > 100
  · simp (disch := first | omega | decide | (simp only [List.length_cons, List.length_nil] <;> omega)) only [push_cast, ↓reduceIte, Nat.reduceLT, Nat.reduceEqDiff, reduceCtorEq, Nat.reduceAdd, if_true, if_false, true_and, and_true, hn, hd, ha, hL, e1]
    refine ACall.mono ?_ (aw _)
    rintro _ _ ⟨rfl, _⟩
    simp (disch := first | omega | decide | (simp only [List.length_cons, List.length_nil] <;> omega)) only [push_cast, ↓reduceIte, Nat.reduceLT, Nat.reduceEqDiff, reduceCtorEq, Nat.reduceAdd, if_true, if_false, true_and, and_true, hn, hd, ha]
  by_cases e2 : (st.length : Int) > 100
  · simp (disch := first | omega | decide | (simp only [List.length_cons, List.length_nil] <;> omega)) only [push_cast, ↓reduceIte, Nat.reduceLT, Nat.reduceEqDiff, reduceCtorEq, Nat.reduceAdd, if_true, if_false, true_and, and_true, hn, hd, ha, hL, hLs, e1, e2]
    refine ACall.mono ?_ (aw _)
    rintro _ _ ⟨rfl, _⟩
    simp (disch := first | omega | decide | (simp only [List.length_cons, List.length_nil] <;> omega)) only [push_cast, ↓reduceIte, Nat.reduceLT, Nat.reduceEqDiff, reduceCtorEq, Nat.reduceAdd, if_true, if_false, true_and, and_true, hn, hd, ha]
  by_cases e3 : (inp.length : Int) > 100
  · simp (disch := first | omega | decide | (simp only [List.length_cons, List.length_nil] <;> omega)) only [push_cast, ↓reduceIte, Nat.reduceLT, Nat.reduceEqDiff, reduceCtorEq, Nat.reduceAdd, if_true, if_false, true_and, and_true, hn, hd, ha, hL, hLs, hLx, e1, e2, e3]
    refine ACall.mono ?_ (aw _)
    rintro _ _ ⟨rfl, _⟩
    simp (disch := first | omega | decide | (simp only [List.length_cons, List.length_nil] <;> omega)) only [push_cast, ↓reduceIte, Nat.reduceLT, Nat.reduceEqDiff, reduceCtorEq, Nat.reduceAdd, if_true, if_false, true_and, and_true, hn, hd, ha]
  by_cases e4 : (outs.length : Int) > 300
  · simp (disch := first | omega | decide | (simp only [List.length_cons, List.length_nil] <;> omega)) only [push_cast, ↓reduceIte, Nat.reduceLT, Nat.reduceEqDiff, reduceCtorEq, Nat.reduceAdd, if_true, if_false, true_and, and_true, hn, hd, ha, hL, hLs, hLx, hLo, e1, e2, e3, e4]
    refine ACall.mono ?_ (aw _)
    rintro _ _ ⟨rfl, _⟩
    simp (disch := first | omega | decide | (simp only [List.length_cons, List.length_nil] <;> omega)) only [push_cast, ↓reduceIte, Nat.reduceLT, Nat.reduceEqDiff, reduceCtorEq, Nat.reduceAdd, if_true, if_false, true_and, and_true, hn, hd, ha]
  simp (disch := first | omega | decide | (simp only [List.length_cons, List.length_nil] <;> omega)) only [push_cast, ↓reduceIte, Nat.reduceLT, Nat.reduceEqDiff, reduceCtorEq, Nat.reduceAdd, if_true, if_false, true_and, and_true, hn, hd, ha, hL, hLs, hLx, hLo, e1, e2, e3, e4, hN2.l0, hN2.l1, hN2.l2, hN2.l3, hN2.l4, hN2.la]
  refine ACall.mono ?_ (patternN r2 ok hv2 hs2 hx2 (by omega))
  intro p1 h3 q1
  obtain ⟨u1, l1, f1, rfl, g3, R1, V1⟩ := q1.to (by omega)
  have hN3 := hN2.sub g3.sub
  simp (disch := first | omega | decide | (simp only [List.length_cons, List.length_nil] <;> omega)) only [push_cast, ↓reduceIte, Nat.reduceLT, Nat.reduceEqDiff, reduceCtorEq, Nat.reduceAdd, if_true, if_false, true_and, and_true, hn, hd, ha, hN3.l0, hN3.l1, hN3.l2, hN3.l3, hN3.l4, hN3.la]
  refine ACall.mono ?_ (patternR (r2.sub g3.sub) ok (hv2.sub g3.sub) (hs2.sub g3.sub) (hx2.sub g3.sub) (by omega))
  intro p2 h4 q2
  obtain ⟨u2, l2, f2, rfl, g4, R2, V2⟩ := q2.to (by omega)
  obtain ⟨rfl, rfl⟩ := V1.unique V2
  have g24 := g3.trans g4
  simp (disch := first | omega | decide | (simp only [List.length_cons, List.length_nil] <;> omega)) only [push_cast, ↓reduceIte, Nat.reduceLT, Nat.reduceEqDiff, reduceCtorEq, Nat.reduceAdd, if_true, if_false, true_and, and_true, hn, hd, ha]
  refine ACall.mono ?_ (observeN (hv2.sub g24.sub) (ho2.sub g24.sub) (by omega) (by omega) hbl)
  intro p3 h5 q3
  obtain ⟨u3, l3, f3, rfl, g5, S3, V3, n3⟩ := q3.to (by omega)
  have g25 := g24.trans g5
  simp (disch := first | omega | decide | (simp only [List.length_cons, List.length_nil] <;> omega)) only [push_cast, ↓reduceIte, Nat.reduceLT, Nat.reduceEqDiff, reduceCtorEq, Nat.reduceAdd, if_true, if_false, true_and, and_true, hn, hd, ha]
  refine ACall.mono ?_ (observeR (hv2.sub g25.sub) (ho2.sub g25.sub) (by omega) (by omega) hbl)
  intro p4 h6 q4
  obtain ⟨u4, l4, f4, rfl, g6, S4, V4, n4⟩ := q4.to (by omega)
  obtain ⟨rfl, rfl⟩ := V3.unique V4
  have hbd := V1.bound (by omega) (by omega)
  simp (disch := first | omega | decide | (simp only [List.length_cons, List.length_nil] <;> omega)) only [push_cast, ↓reduceIte, Nat.reduceLT, Nat.reduceEqDiff, reduceCtorEq, Nat.reduceAdd, if_true, if_false, true_and, and_true, hn, hd, ha]
  refine ACall.mono ?_ (eqStates ((R1.sub g4.sub).sub (g5.trans g6).sub) (R2.sub (g5.trans g6).sub) (by omega) hbd.2)
  rintro _ _ ⟨rfl, rfl⟩
  simp (disch := first | omega | decide | (simp only [List.length_cons, List.length_nil] <;> omega)) only [push_cast, ↓reduceIte, Nat.reduceLT, Nat.reduceEqDiff, reduceCtorEq, Nat.reduceAdd, if_true, if_false, true_and, and_true, hn, hd, ha]
  refine ACall.mono ?_ (eqBools (S3.sub g6.sub) S4 (by omega))
  rintro _ _ ⟨rfl, rfl⟩
  simp (disch := first | omega | decide | (simp only [List.length_cons, List.length_nil] <;> omega)) only [push_cast, ↓reduceIte, Nat.reduceLT, Nat.reduceEqDiff, reduceCtorEq, Nat.reduceAdd, if_true, if_false, true_and, and_true, hn, hd, ha]
  refine ACall.mono ?_ (aw _)
  rintro _ _ ⟨rfl, _⟩
  simp (disch := first | omega | decide | (simp only [List.length_cons, List.length_nil] <;> omega)) only [push_cast, ↓reduceIte, Nat.reduceLT, Nat.reduceEqDiff, reduceCtorEq, Nat.reduceAdd, if_true, if_false, true_and, and_true, hn, hd, ha]

end Go.Ab.S1

namespace Go.Ab.S1
open Go.Proofs

def isTrueV : Value → EH → Bool
  | .bool true, _ => true
  | _, _ => false

def s1pures : List (FuncId × Value) := [(33, .int .i64 0)]

theorem awakeRuns : evCall Tryz.prog (evC ⟨Tryz.prog, s1plans, s1pures⟩ 100000) 9 [] { next := 0, hp := T.full 11 } isTrueV = true := by kernel_rfl

theorem mixedW : Tryz.prog.follows .mixedOrders = true := by kernel_rfl

theorem emptyDen : (EH.den { next := 0, hp := T.full 11 }) = emptyH := by
  simp only [EH.den, emptyH]; congr 1; funext i; exact full_get 11 i

theorem awake (h : AH) : ACall Tryz.prog 9 [] h (fun v h' => v = .bool true ∧ h' = h) := by
  refine ACall.closed rfl rfl ?_ h
  have := evCall_sound (evC_sound (E := ⟨Tryz.prog, s1plans, s1pures⟩) mixedW 100000) 9 [] _ isTrueV awakeRuns
  rw [emptyDen] at this
  refine ACall.mono ?_ this
  rintro v h' ⟨eh, rfl, hk⟩
  unfold isTrueV at hk
  split at hk
  · rfl
  · cases hk
end Go.Ab.S1
