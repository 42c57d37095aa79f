/- netlablaw31.ScanMatches: what its overwriting keeps; the loops that overwrite. netlablaw31.ScanMatches on the abstract heap. The scanned netlist is valid; its area; its start: plainly. The scanned netlist can be put in order; its area and its start: plainly. A law of a netlist and a slice of ints: from the abstract heap to the world. The examples of the chapter hold: netlablaw31.awake returns true, evaluated. -/
import Derived.Test.YtnejoceplinjpaaGreatB5
import Derived.Test.YtnejoceplinjpaaGreatProg
import Derived.KernelRfl
set_option linter.unusedSimpArgs false
set_option linter.unusedVariables false
namespace Go.Ab.S1
open Go.Proofs
set_option linter.unusedSimpArgs false
set_option linter.unusedVariables false
set_option maxRecDepth 100000
set_option maxHeartbeats 4000000
attribute [local push_cast] wpA_skip wpA_ret wpA_exit wpA_seq wpA_block wpA_cond2 andK_true wpA_region wpA_draw wpA_loop thenQ_normal thenQ_ret thenQ_exit blockQ_normal blockQ_ret blockQ_exit condV_true condV_false opsM_nil opsM_cons2 okM_true wantM_true wantM_false stepM seqM_cons2 seqM_nil2 okS_true wantS_true wantS_false stepS skipS okB Keeps_nil contK_app List.zip_cons_cons List.zip_nil_left List.zip_nil_right Op.operands Call.operands Array.toList_append List.append_nil List.nil_append List.all_cons List.all_nil cOK plain put_n put_tm put_none put_df ev_tmp ev_const ev_func wanted_none wanted_some callR_func dop ex_some1 aBuiltin aBin intBin aUn Option.map_some Bool.and_true Bool.true_and Bool.and_self List.map_cons List.map_nil List.toList_toArray List.getElem?_toArray List.getElem?_cons_zero List.getElem?_cons_succ Option.getD_some Option.getD_none Bool.false_eq_true eq_self_iff_true decide_true decide_false List.cons_append aExtract resL resV List.getD_cons_zero List.getD_cons_succ List.getD_nil Nat.succ_ne_self g1 g2 yieldedA2 isB_bool isB_undef g3 Option.bind_some Option.bind_none bne_self_eq_false beq_self_eq_true Bool.not_true Bool.not_false Int.toNat_natCast List.length_map List.mem_cons List.not_mem_nil or_false not_false_eq_true decide_not Bool.not_not bodyR_ret2 bodyR_normal2 closeMarks_nil ex_some0 Nat.zero_add Nat.add_zero ieq ine List.map_toArray Option.toArray_none Option.toArray_some oev Keeps_cons Still_eq selL wpX_skip wpX_ret wpX_exit wpX_seq wpX_block wpX_cond wpX_region wpX_draw wpX_loop List.take_succ_cons List.take_zero List.drop_succ_cons List.drop_zero Int.zero_add Int.add_zero aNil if_true if_false true_and and_true

/-- Some numbers of blocks from N on are others. -/
structure Ovr (N : Nat) (h h' : AH) : Prop where
  wf : WFH h'
  nx : h'.next = h.next
  blk : ∀ B o, h.get B = some o → h'.get B = some o ∨ (N ≤ B ∧ ∃ e cs cs', (e = 3 ∨ e = 2) ∧ cs'.length = cs.length ∧ ((o = .grow cs e ∧ h'.get B = some (.grow cs' e)) ∨ (o = .row cs e true ∧ h'.get B = some (.row cs' e true))))

section
variable {N : Nat} {h h' : AH}

theorem Ovr.refl (w : WFH h) : Ovr N h h := ⟨w, rfl, fun _ _ x => .inl x⟩
theorem Ovr.keep (r : Ovr N h h') {B : Nat} {o : AObj} {e : TypeId} (hg : h.get B = some o) (ht : o.ty = some e) (h1 : e ≠ 3) (h2 : e ≠ 2) : h'.get B = some o := by
  rcases r.blk B o hg with x | ⟨_, e', cs, cs', he, _, ⟨rfl, _⟩ | ⟨rfl, _⟩⟩
  · exact x
  · cases ht; rcases he with rfl | rfl
    · exact absurd rfl h1
    · exact absurd rfl h2
  · cases ht; rcases he with rfl | rfl
    · exact absurd rfl h1
    · exact absurd rfl h2
theorem Ovr.sub (r : Ovr N h h') {h0 : AH} (w0 : WFH h0) (g : Gr h0 h) (hN : h0.next ≤ N) : Gr h0 h' := ⟨r.wf, fun B o hB => by
  have := AH.get_lt w0 hB
  rcases r.blk B o (g.sub B o hB) with x | ⟨x, _⟩
  · exact x
  · omega, by rw [r.nx]; exact g.nx⟩

/-- One number more. -/
theorem Ovr.put (r : Ovr N h h') {e : TypeId} (he : e = 3 ∨ e = 2) (hsz : ∃ i, Tryz.prog.info? e = some i ∧ i.size = 1) {v : Value} {vs : List Value} (w : WV e N h v vs) {i : Nat} (hi : i < vs.length) {x : Value} (hx : x.cells.toList = [x]) (hx1 : oneC x = true) :
    ∃ h'', aStore Tryz.prog e (slAt 1 v i) x h' = some h'' ∧ Ovr N h h'' := by
  obtain ⟨ob, A, hV, hg⟩ := w
  obtain ⟨I, hI, hs⟩ := hsz
  have hc : x.cells.size = 1 := by
    have := congrArg List.length hx
    simpa using this
  have step : ∀ (o : AObj) (f : List Value → AObj) (cs : List Value), (f = (fun c => .grow c e) ∨ f = (fun c => .row c e true)) → h.get A = some (f cs) → N ≤ A → i < cs.length → (∃ l c, v = .slice (some ⟨A, 0, none⟩) l c) → ∃ h'', aStore Tryz.prog e (slAt 1 v i) x h' = some h'' ∧ Ovr N h h'' := by
    rintro o f cs hf hgA hNA hic ⟨l, c, rfl⟩
    have h1 : ∃ cs', cs'.length = cs.length ∧ h'.get A = some (f cs') := by
      rcases r.blk A _ hgA with y | ⟨_, e', c1, c2, _, hl, y⟩
      · exact ⟨cs, rfl, y⟩
      · rcases hf with rfl | rfl <;> rcases y with ⟨y1, y2⟩ | ⟨y1, y2⟩ <;> cases y1 <;> exact ⟨c2, hl, y2⟩
    obtain ⟨cs', hl, hg'⟩ := h1
    have hlt := AH.get_lt r.wf hg'
    refine ⟨h'.set A (f (cs'.set i x)), ?_, ⟨r.wf.set hlt _, by simpa using r.nx, fun B o hB => ?_⟩⟩
    · have hle : i + 1 ≤ cs'.length := by omega
      rcases hf with rfl | rfl <;> simp [aStore, slAt, hI, hs, hg', AObj.setCells, hc, hx, hx1, setL, hle]
    · by_cases hBA : B = A
      · subst hBA
        rw [hgA] at hB; cases hB
        refine .inr ⟨hNA, e, cs, cs'.set i x, he, by simpa using hl, ?_⟩
        rcases hf with rfl | rfl
        · exact .inl ⟨rfl, by rw [AH.set_get, if_pos rfl]⟩
        · exact .inr ⟨rfl, by rw [AH.set_get, if_pos rfl]⟩
      · rcases r.blk B o hB with y | ⟨y1, e', c1, c2, y2, y3, y4⟩
        · exact .inl (by rw [AH.set_get, if_neg hBA]; exact y)
        · exact .inr ⟨y1, e', c1, c2, y2, y3, by rw [AH.set_get, if_neg hBA]; exact y4⟩
  rcases hV with ⟨rfl, _⟩ | ⟨cs, rfl, rfl, hle, _⟩ | ⟨cs, C, rfl, h2, h3, h4, rfl, _⟩
  · simp at hi
  · exact step (.grow cs e) (fun c => .grow c e) cs (.inl rfl) (hg _ rfl).1 (hg _ rfl).2 (by omega) ⟨_, _, rfl⟩
  · exact step (.row cs e true) (fun c => .row c e true) cs (.inr rfl) (hg _ rfl).1 (hg _ rfl).2 (by omega) ⟨_, _, rfl⟩
end

/-! ### Rows, through the overwriting -/

def instF (N : Nat) (h0 : AH) : Lay Inst where
  sz := 2
  pos := by decide
  rel _ cs c := ∃ dv, cs = [.int .i64 c.cell, dv] ∧ WV 3 N h0 dv (c.pins.map (.int .i64))
  mono := fun _ x => x
  len := by rintro h cs x ⟨dv, rfl, hd⟩; rfl
  one := by rintro h cs x ⟨dv, rfl, hd⟩ v hv; simp only [List.mem_cons, List.not_mem_nil, or_false] at hv; rcases hv with rfl | rfl <;> first | rfl | exact hd.one.1
def cellF (N : Nat) (h0 : AH) : Lay Cell where
  sz := 5
  pos := by decide
  rel _ cs c := ∃ dv, cs = [.string c.name, .int .i64 c.pins, .int .u64 c.table, .int .i64 c.area, dv] ∧ WV 2 N h0 dv (c.delay.map (.int .i64))
  mono := fun _ x => x
  len := by rintro h cs x ⟨dv, rfl, hd⟩; rfl
  one := by rintro h cs x ⟨dv, rfl, hd⟩ v hv; simp only [List.mem_cons, List.not_mem_nil, or_false] at hv; rcases hv with rfl | rfl | rfl | rfl | rfl <;> first | rfl | exact hd.one.1

theorem sz2 : ∃ i, Tryz.prog.info? 2 = some i ∧ i.size = 1 := ⟨(Tryz.prog.info? 2).get (by kernel_rfl), by kernel_rfl, by kernel_rfl⟩

/-- The instances' row, read behind some overwriting. -/
theorem NetOwn.rowI {N : Nat} {h h' : AH} {m : Net} {cv iv ov : Value} (w : NetOwn N h m cv iv ov) (r : Ovr N h h') (b : NetB m) : RowOf (instF N h) h' iv m.insts := by
  obtain ⟨ob, A, ⟨zs, h1, h2⟩, hg⟩ := w.i
  exact VecM.row (L := instF N h) h1 (fun o e => r.keep (hg o e) (h1.ty o e) (by decide) (by decide)) b.i (fun i x hx => h2 i x hx)
theorem NetOwn.rowC {N : Nat} {h h' : AH} {m : Net} {cv iv ov : Value} (w : NetOwn N h m cv iv ov) (r : Ovr N h h') (b : NetB m) : RowOf (cellF N h) h' cv m.cells := by
  obtain ⟨ob, A, ⟨zs, h1, h2⟩, hg⟩ := w.c
  exact VecM.row (L := cellF N h) h1 (fun o e => r.keep (hg o e) (h1.ty o e) (by decide) (by decide)) b.c (fun i x hx => h2 i x hx)

/-! ### The loops -/

theorem ovI {N BM : Nat} {h k : AH} {m : Net} {cv fv iv ov : Value} {a : AAct} (hn : a.n = 129) (hd : a.df = []) (w : NetOwn N h m cv iv ov) (b : NetB m) (hB : h.get BM = some (.row (netC m cv fv iv ov) 27 true)) (rk : Ovr N h k)
    (t10 : a.tm 10 = .pointer (some ⟨BM, 0, none⟩)) (t12 : a.tm 12 = .int .i64 0) :
    AW Tryz.prog none (bodyBlk Tryz.f3 2) (fun e a' h' => e = .exit 2 ∧ a'.n = 129 ∧ a'.df = [] ∧ (∀ i, i < 55 → i ∉ [12, 13] → a'.tm i = a.tm i) ∧ Ovr N h h') a k := by
  have bi := b.i
  refine AW.at (rfl : bodyBlk Tryz.f3 2 = .loop _) ?_
  refine AW.loopN 55 [12, 13] (fun q a' h' => ∃ i : Nat, a'.tm 12 = .int .i64 i ∧ i + q = m.insts.length ∧ Ovr N h h') m.insts.length ?_ ?_
  · exact ⟨0, by rw [t12]; rfl, by omega, rk⟩
  clear rk
  rintro a1 q a' k hk kn kd kt ⟨i, h12, hiq, rk⟩
  have hM : NetAt k BM m cv fv iv ov := ⟨_, rk.keep hB rfl (by decide) (by decide), rfl⟩
  have hrow := w.rowI rk b
  simp (disch := first | omega | decide) only [push_cast, ↓reduceIte, Nat.reduceLT, Nat.reduceEqDiff, reduceCtorEq, Nat.reduceAdd, kn, kd, kt, hn, hd, t10, h12, faL foN0, faL foN1, faL foN2, faL foN3, faL foN4, hM.l0, hM.l1, hM.l2, hM.l3, hM.l4, hM.la, hrow.len Tryz.underlying24]
  refine condV_of (fun hlt => ?_) (fun hge => ?_)
  · have hi : i < m.insts.length := by have := hlt; simp at this; omega
    obtain ⟨cs, ⟨pv, rfl, hpv⟩, -, -, -⟩ := hrow.get (P := Tryz.prog) hi default
    have hpb := b.p _ (getD_mem hi default)
    have hw1 : IntKind.i64.wrap ((i : Int) + 1) = i + 1 := wrapI (by omega) (by omega)
    simp (disch := first | omega | decide) only [push_cast, ↓reduceIte, Nat.reduceLT, Nat.reduceEqDiff, reduceCtorEq, Nat.reduceAdd, kn, kd, kt, hn, hd, t10, h12]
    refine AW.keep 55 [12, 13] (a0 := a1) (by simp (disch := decide) only [Kp_put, put_none, hk]) (fun hkc => ?_)
    refine AW.mono (Q := fun ex a3 h3 => ex = .exit 4 ∧ a3.n = 129 ∧ a3.df = [] ∧ a3.tm 12 = .int .i64 i ∧ Kp 55 [12, 13] a1 a3 ∧ Ovr N h h3) ?_ ?_
    · rintro _ a3 h3 ⟨rfl, n3, d3, x12, hk3, r3⟩
      simp (disch := first | omega | decide) only [push_cast, ↓reduceIte, Nat.reduceLT, Nat.reduceEqDiff, reduceCtorEq, Nat.reduceAdd, n3, d3, x12, hw1]
      exact ⟨q - 1, by omega, (by simp (disch := decide) only [Kp_put, put_none, hk3]), i + 1, by simp (disch := first | omega | decide) only [push_cast, ↓reduceIte, Nat.reduceLT, Nat.reduceEqDiff, reduceCtorEq, Nat.reduceAdd], by omega, r3⟩
    refine AW.loopN 62 [13] (fun q2 a2 h2 => ∃ j : Nat, a2.tm 13 = .int .i64 j ∧ j + q2 = (m.insts.getD i default).pins.length ∧ Ovr N h h2) (m.insts.getD i default).pins.length ?_ ?_
    · exact ⟨0, by simp (disch := first | omega | decide) only [push_cast, ↓reduceIte, Nat.reduceLT, Nat.reduceEqDiff, reduceCtorEq, Nat.reduceAdd], by omega, rk⟩
    clear rk hM hrow hpv
    rintro a4 q2 a2 k2 hk2 kn2 kd2 kt2 ⟨j, h13, hjq, rk⟩
    have hk0 : Kp 55 [12, 13] a1 a2 := Kp.trans (lo' := 62) (X' := [13]) hkc ⟨kn2, kd2, kt2⟩ (by omega) (by simp)
    have hM : NetAt k2 BM m cv fv iv ov := ⟨_, rk.keep hB rfl (by decide) (by decide), rfl⟩
    have hrow := w.rowI rk b
    obtain ⟨cs, ⟨pv, rfl, hpv⟩, -, hl, ha⟩ := hrow.get (P := Tryz.prog) hi default
    have hl1 := hl 1 _ flI (show 1 < 2 by decide)
    have ha1 := ha _ _ _ foI1
    have hidx := hrow.idx (P := Tryz.prog) Tryz.underlying24 ⟨_, infI.choose_spec.1, infI.choose_spec.2⟩ .i64 i (by omega) (by omega)
    rw [Int.toNat_natCast] at hidx
    generalize m.insts.getD i default = x at *
    simp (disch := first | omega | decide) only [push_cast, ↓reduceIte, Nat.reduceLT, Nat.reduceEqDiff, reduceCtorEq, Nat.reduceAdd, kn2, kd2, kt2, kn, kd, kt, hn, hd, t10, h12, h13, faL foN0, faL foN1, faL foN2, faL foN3, faL foN4, hM.l0, hM.l1, hM.l2, hM.l3, hM.l4, hM.la, hidx, ha1, hl1, hpv.sl.lenA Tryz.underlying25]
    refine condV_of (fun hlt2 => ?_) (fun hge2 => ?_)
    · have hj : j < x.pins.length := by have := hlt2; simp at this; omega
      have hix := hpv.sl.idxI sl22 .i64 j (by omega) (by omega)
      rw [Int.toNat_natCast] at hix
      obtain ⟨k3, st, r3⟩ := rk.put (.inl rfl) sz3 hpv (i := j) (by rw [List.length_map]; exact hj) (x := .int .i64 (-9)) rfl rfl
      have hwj : IntKind.i64.wrap ((j : Int) + 1) = j + 1 := wrapI (by omega) (by omega)
      simp (disch := first | omega | decide) only [push_cast, ↓reduceIte, Nat.reduceLT, Nat.reduceEqDiff, reduceCtorEq, Nat.reduceAdd, kn2, kd2, kt2, kn, kd, kt, hn, hd, t10, h12, h13, faL foN0, faL foN1, faL foN2, faL foN3, faL foN4, hM.l0, hM.l1, hM.l2, hM.l3, hM.l4, hM.la, hidx, ha1, hl1, hix, st, hwj]
      exact ⟨q2 - 1, by omega, (by simp (disch := decide) only [Kp_put, put_none, hk2]), j + 1, by simp (disch := first | omega | decide) only [push_cast, ↓reduceIte, Nat.reduceLT, Nat.reduceEqDiff, reduceCtorEq, Nat.reduceAdd], by omega, r3⟩
    · simp (disch := first | omega | decide) only [push_cast, ↓reduceIte, Nat.reduceLT, Nat.reduceEqDiff, reduceCtorEq, Nat.reduceAdd, kn2, kd2, kt2, kn, kd, kt, hn, hd, t10, h12, h13]
      exact ⟨by simp (disch := decide) only [Kp_put, put_none, hk0], rk⟩
  · simp (disch := first | omega | decide) only [push_cast, ↓reduceIte, Nat.reduceLT, Nat.reduceEqDiff, reduceCtorEq, Nat.reduceAdd, kn, kd, kt, hn, hd, t10, h12]
    exact ⟨fun j h1 h2 => by repeat rw [if_neg (by omega)]
                             exact kt j h1 (by simpa using h2), rk⟩

theorem ovC {N BM : Nat} {h k : AH} {m : Net} {cv fv iv ov : Value} {a : AAct} (hn : a.n = 129) (hd : a.df = []) (w : NetOwn N h m cv iv ov) (b : NetB m) (hB : h.get BM = some (.row (netC m cv fv iv ov) 27 true)) (rk : Ovr N h k)
    (t10 : a.tm 10 = .pointer (some ⟨BM, 0, none⟩)) (t14 : a.tm 14 = .int .i64 0) :
    AW Tryz.prog none (bodyBlk Tryz.f3 6) (fun e a' h' => e = .exit 6 ∧ a'.n = 129 ∧ a'.df = [] ∧ (∀ i, i < 81 → i ∉ [14, 15] → a'.tm i = a.tm i) ∧ Ovr N h h') a k := by
  have bi := b.c
  refine AW.at (rfl : bodyBlk Tryz.f3 6 = .loop _) ?_
  refine AW.loopN 81 [14, 15] (fun q a' h' => ∃ i : Nat, a'.tm 14 = .int .i64 i ∧ i + q = m.cells.length ∧ Ovr N h h') m.cells.length ?_ ?_
  · exact ⟨0, by rw [t14]; rfl, by omega, rk⟩
  clear rk
  rintro a1 q a' k hk kn kd kt ⟨i, h14, hiq, rk⟩
  have hM : NetAt k BM m cv fv iv ov := ⟨_, rk.keep hB rfl (by decide) (by decide), rfl⟩
  have hrow := w.rowC rk b
  simp (disch := first | omega | decide) only [push_cast, ↓reduceIte, Nat.reduceLT, Nat.reduceEqDiff, reduceCtorEq, Nat.reduceAdd, kn, kd, kt, hn, hd, t10, h14, faL foN0, faL foN1, faL foN2, faL foN3, faL foN4, hM.l0, hM.l1, hM.l2, hM.l3, hM.l4, hM.la, hrow.len Tryz.underlying22]
  refine condV_of (fun hlt => ?_) (fun hge => ?_)
  · have hi : i < m.cells.length := by have := hlt; simp at this; omega
    obtain ⟨cs, ⟨pv, rfl, hpv⟩, -, -, -⟩ := hrow.get (P := Tryz.prog) hi default
    have hpb := b.d _ (getD_mem hi default)
    have hw1 : IntKind.i64.wrap ((i : Int) + 1) = i + 1 := wrapI (by omega) (by omega)
    simp (disch := first | omega | decide) only [push_cast, ↓reduceIte, Nat.reduceLT, Nat.reduceEqDiff, reduceCtorEq, Nat.reduceAdd, kn, kd, kt, hn, hd, t10, h14]
    refine AW.keep 81 [14, 15] (a0 := a1) (by simp (disch := decide) only [Kp_put, put_none, hk]) (fun hkc => ?_)
    refine AW.mono (Q := fun ex a3 h3 => ex = .exit 8 ∧ a3.n = 129 ∧ a3.df = [] ∧ a3.tm 14 = .int .i64 i ∧ Kp 81 [14, 15] a1 a3 ∧ Ovr N h h3) ?_ ?_
    · rintro _ a3 h3 ⟨rfl, n3, d3, x14, hk3, r3⟩
      simp (disch := first | omega | decide) only [push_cast, ↓reduceIte, Nat.reduceLT, Nat.reduceEqDiff, reduceCtorEq, Nat.reduceAdd, n3, d3, x14, hw1]
      exact ⟨q - 1, by omega, (by simp (disch := decide) only [Kp_put, put_none, hk3]), i + 1, by simp (disch := first | omega | decide) only [push_cast, ↓reduceIte, Nat.reduceLT, Nat.reduceEqDiff, reduceCtorEq, Nat.reduceAdd], by omega, r3⟩
    refine AW.loopN 88 [15] (fun q2 a2 h2 => ∃ j : Nat, a2.tm 15 = .int .i64 j ∧ j + q2 = (m.cells.getD i default).delay.length ∧ Ovr N h h2) (m.cells.getD i default).delay.length ?_ ?_
    · exact ⟨0, by simp (disch := first | omega | decide) only [push_cast, ↓reduceIte, Nat.reduceLT, Nat.reduceEqDiff, reduceCtorEq, Nat.reduceAdd], by omega, rk⟩
    clear rk hM hrow hpv
    rintro a4 q2 a2 k2 hk2 kn2 kd2 kt2 ⟨j, h15, hjq, rk⟩
    have hk0 : Kp 81 [14, 15] a1 a2 := Kp.trans (lo' := 88) (X' := [15]) hkc ⟨kn2, kd2, kt2⟩ (by omega) (by simp)
    have hM : NetAt k2 BM m cv fv iv ov := ⟨_, rk.keep hB rfl (by decide) (by decide), rfl⟩
    have hrow := w.rowC rk b
    obtain ⟨cs, ⟨pv, rfl, hpv⟩, -, hl, ha⟩ := hrow.get (P := Tryz.prog) hi default
    have hl1 := hl 4 _ flL (show 4 < 5 by decide)
    have ha1 := ha _ _ _ foC4
    have hidx := hrow.idx (P := Tryz.prog) Tryz.underlying22 ⟨_, infC.choose_spec.1, infC.choose_spec.2⟩ .i64 i (by omega) (by omega)
    rw [Int.toNat_natCast] at hidx
    generalize m.cells.getD i default = x at *
    simp (disch := first | omega | decide) only [push_cast, ↓reduceIte, Nat.reduceLT, Nat.reduceEqDiff, reduceCtorEq, Nat.reduceAdd, kn2, kd2, kt2, kn, kd, kt, hn, hd, t10, h14, h15, faL foN0, faL foN1, faL foN2, faL foN3, faL foN4, hM.l0, hM.l1, hM.l2, hM.l3, hM.l4, hM.la, hidx, ha1, hl1, hpv.sl.lenA Tryz.underlying38]
    refine condV_of (fun hlt2 => ?_) (fun hge2 => ?_)
    · have hj : j < x.delay.length := by have := hlt2; simp at this; omega
      have hix := hpv.sl.idxI slL .i64 j (by omega) (by omega)
      rw [Int.toNat_natCast] at hix
      obtain ⟨k3, st, r3⟩ := rk.put (.inr rfl) sz2 hpv (i := j) (by rw [List.length_map]; exact hj) (x := .int .i64 (-9)) rfl rfl
      have hwj : IntKind.i64.wrap ((j : Int) + 1) = j + 1 := wrapI (by omega) (by omega)
      simp (disch := first | omega | decide) only [push_cast, ↓reduceIte, Nat.reduceLT, Nat.reduceEqDiff, reduceCtorEq, Nat.reduceAdd, kn2, kd2, kt2, kn, kd, kt, hn, hd, t10, h14, h15, faL foN0, faL foN1, faL foN2, faL foN3, faL foN4, hM.l0, hM.l1, hM.l2, hM.l3, hM.l4, hM.la, hidx, ha1, hl1, hix, st, hwj]
      exact ⟨q2 - 1, by omega, (by simp (disch := decide) only [Kp_put, put_none, hk2]), j + 1, by simp (disch := first | omega | decide) only [push_cast, ↓reduceIte, Nat.reduceLT, Nat.reduceEqDiff, reduceCtorEq, Nat.reduceAdd], by omega, r3⟩
    · simp (disch := first | omega | decide) only [push_cast, ↓reduceIte, Nat.reduceLT, Nat.reduceEqDiff, reduceCtorEq, Nat.reduceAdd, kn2, kd2, kt2, kn, kd, kt, hn, hd, t10, h14, h15]
      exact ⟨by simp (disch := decide) only [Kp_put, put_none, hk0], rk⟩
  · simp (disch := first | omega | decide) only [push_cast, ↓reduceIte, Nat.reduceLT, Nat.reduceEqDiff, reduceCtorEq, Nat.reduceAdd, kn, kd, kt, hn, hd, t10, h14]
    exact ⟨fun j h1 h2 => by repeat rw [if_neg (by omega)]
                             exact kt j h1 (by simpa using h2), rk⟩

theorem ovO {N BM : Nat} {h k : AH} {m : Net} {cv fv iv ov : Value} {a : AAct} (hn : a.n = 129) (hd : a.df = []) (w : NetOwn N h m cv iv ov) (b : NetB m) (hB : h.get BM = some (.row (netC m cv fv iv ov) 27 true)) (rk : Ovr N h k)
    (t10 : a.tm 10 = .pointer (some ⟨BM, 0, none⟩)) (t16 : a.tm 16 = .int .i64 0) :
    AW Tryz.prog none (bodyBlk Tryz.f3 10) (fun e a' h' => e = .exit 10 ∧ a'.n = 129 ∧ a'.df = [] ∧ (∀ i, i < 107 → i ∉ [16] → a'.tm i = a.tm i) ∧ Ovr N h h') a k := by
  have bo := b.o
  refine AW.at (rfl : bodyBlk Tryz.f3 10 = .loop _) ?_
  refine AW.loopN 107 [16] (fun q a' h' => ∃ i : Nat, a'.tm 16 = .int .i64 i ∧ i + q = m.outs.length ∧ Ovr N h h') m.outs.length ?_ ?_
  · exact ⟨0, by rw [t16]; rfl, by omega, rk⟩
  clear rk
  rintro a1 q a' k hk kn kd kt ⟨i, h16, hiq, rk⟩
  have hM : NetAt k BM m cv fv iv ov := ⟨_, rk.keep hB rfl (by decide) (by decide), rfl⟩
  simp (disch := first | omega | decide) only [push_cast, ↓reduceIte, Nat.reduceLT, Nat.reduceEqDiff, reduceCtorEq, Nat.reduceAdd, kn, kd, kt, hn, hd, t10, h16, faL foN0, faL foN1, faL foN2, faL foN3, faL foN4, hM.l0, hM.l1, hM.l2, hM.l3, hM.l4, hM.la, w.o.sl.lenA Tryz.underlying25]
  refine condV_of (fun hlt => ?_) (fun hge => ?_)
  · have hi : i < m.outs.length := by have := hlt; simp at this; omega
    have hw1 : IntKind.i64.wrap ((i : Int) + 1) = i + 1 := wrapI (by omega) (by omega)
    have hix := w.o.sl.idxI sl22 .i64 i (by omega) (by omega)
    rw [Int.toNat_natCast] at hix
    obtain ⟨k3, st, r3⟩ := rk.put (.inl rfl) sz3 w.o (i := i) (by rw [List.length_map]; exact hi) (x := .int .i64 (-9)) rfl rfl
    simp (disch := first | omega | decide) only [push_cast, ↓reduceIte, Nat.reduceLT, Nat.reduceEqDiff, reduceCtorEq, Nat.reduceAdd, kn, kd, kt, hn, hd, t10, h16, faL foN0, faL foN1, faL foN2, faL foN3, faL foN4, hM.l0, hM.l1, hM.l2, hM.l3, hM.l4, hM.la, hix, st, hw1]
    exact ⟨q - 1, by omega, (by simp (disch := decide) only [Kp_put, put_none, hk]), i + 1, by simp (disch := first | omega | decide) only [push_cast, ↓reduceIte, Nat.reduceLT, Nat.reduceEqDiff, reduceCtorEq, Nat.reduceAdd], by omega, r3⟩
  · simp (disch := first | omega | decide) only [push_cast, ↓reduceIte, Nat.reduceLT, Nat.reduceEqDiff, reduceCtorEq, Nat.reduceAdd, kn, kd, kt, hn, hd, t10, h16]
    exact ⟨fun j h1 h2 => by repeat rw [if_neg (by omega)]
                             exact kt j h1 (by simpa using h2), rk⟩


theorem PinV.net {b k : AH} {m : Net} {nm : Nat → Nat} {ob : Nat → Option AObj} {cv fv iv ov : Value} {dv : Nat → Value} (Pv : PinV b k m nm ob cv fv iv ov dv) (nb : NetB m) : NetR k m cv fv iv ov := by
  refine ⟨rowCellW ((Pv.c.sub (hide_sub _ _)).row (Pv.own.get 0) nb.c), (Pv.f.sub (hide_sub _ _)).row (Pv.own.get 1) nb.f, ?_, Pv.o.sl (Pv.own.get 3)⟩
  obtain ⟨zs, h1, h2⟩ := Pv.i
  exact VecM.row (L := instL) h1 (Pv.own.get 2) nb.i (fun j x hj => ⟨dv j, h2 j x hj, (Pv.p j x hj).sl (Pv.own.get _)⟩)

theorem NetOwn.sub {N : Nat} {h h' : AH} {m : Net} {cv iv ov : Value} (w : NetOwn N h m cv iv ov) (s : Sub h h') : NetOwn N h' m cv iv ov := by
  obtain ⟨⟨ob, A, a, b⟩, ⟨ob', A', a', b'⟩, c⟩ := w
  exact ⟨⟨ob, A, a.sub s, fun o e => s _ _ (b o e)⟩, ⟨ob', A', a'.sub s, fun o e => s _ _ (b' o e)⟩, c.sub s⟩

set_option maxHeartbeats 8000000 in
theorem scanMatches (aw : ∀ h, ACall Tryz.prog 9 [] h (fun v h' => v = .bool true ∧ h' = h)) {h : AH} {n : Net} {cv fv iv ov v : Value} {ord : List Int} (r : NetR h n cv fv iv ov) (ok : NetOK n) (hc : n.cells.length ≤ 4611686018427387904) (hv : SlOf h v (ord.map (.int .i64))) (hb : ord.length ≤ 17592186043904) :
    ACall Tryz.prog 3 [.agg (netC n cv fv iv ov).toArray, v] h (fun r _ => r = .bool true) := by
  refine ACall.wf ⟨_, Tryz.func3, rfl, by kernel_rfl⟩ fun hwf => ?_
  refine ACall.of_wp 129 [.tmp 4] Tryz.func3 rfl (by kernel_rfl) rfl rfl fun a hn hd ha => ?_
  have hbox := boxA 27 h _ r.one
  have hN := NetAt.new (h := h) (n := n) (cv := cv) (fv := fv) (iv := iv) (ov := ov)
  have g1 : Gr h (h.new (.row (netC n cv fv iv ov) 27 true)) := (Gr.refl hwf).new _
  simp (disch := first | omega | decide) only [push_cast, ↓reduceIte, Nat.reduceLT, Nat.reduceEqDiff, reduceCtorEq, Nat.reduceAdd, hn, hd, ha, hbox, hN.l0, hN.l1, hN.l2, hN.l3, hN.l4, hN.la]
  generalize h.new (.row (netC n cv fv iv ov) 27 true) = h1 at hN g1 ⊢
  generalize h.next = B0 at hN ⊢
  have r1 := r.sub g1.sub
  have hv1 := hv.sub g1.sub
  refine ACall.mono ?_ (long29b r1 ok hc)
  rintro _ h2 ⟨⟨b, rfl, hB⟩, g2⟩
  have hN2 := hN.sub g2.sub
  have r2 := r1.sub g2.sub
  have hv2 := hv1.sub g2.sub
  cases b with
  | true =>
    simp (disch := first | omega | decide) only [push_cast, ↓reduceIte, Nat.reduceLT, Nat.reduceEqDiff, reduceCtorEq, Nat.reduceAdd, hn, hd, ha]
    refine ACall.mono ?_ (aw _)
    rintro _ _ ⟨rfl, _⟩
    simp (disch := first | omega | decide) only [push_cast, ↓reduceIte, Nat.reduceLT, Nat.reduceEqDiff, reduceCtorEq, Nat.reduceAdd, hn, hd, ha]
  | false =>
  have nb := hB rfl
  simp (disch := first | omega | decide) only [push_cast, ↓reduceIte, Nat.reduceLT, Nat.reduceEqDiff, reduceCtorEq, Nat.reduceAdd, hn, hd, ha, hv2.lenA Tryz.underlying25]
  refine condV_of (fun e => ?_) (fun e => ?_)
  · simp (disch := first | omega | decide) only [push_cast, ↓reduceIte, Nat.reduceLT, Nat.reduceEqDiff, reduceCtorEq, Nat.reduceAdd, hn, hd, ha]
    refine ACall.mono ?_ (aw _)
    rintro _ _ ⟨rfl, _⟩
    simp (disch := first | omega | decide) only [push_cast, ↓reduceIte, Nat.reduceLT, Nat.reduceEqDiff, reduceCtorEq, Nat.reduceAdd, hn, hd, ha]
  have hol : ord.length ≤ 100 := by have := of_decide_eq_false e; omega
  simp (disch := first | omega | decide) only [push_cast, ↓reduceIte, Nat.reduceLT, Nat.reduceEqDiff, reduceCtorEq, Nat.reduceAdd, hn, hd, ha, hN2.l0, hN2.l1, hN2.l2, hN2.l3, hN2.l4, hN2.la]
  refine ACall.mono ?_ (copy29 r2 nb)
  rintro _ k3 ⟨co, fo, io, oo, nm, ob, dv, rfl, Pv, -⟩
  have g3 := Pv.own.gr
  have ro := Pv.net nb
  have g4 := (Gr.refl g3.wf).new (.row [] 3 true)
  have hg4 : (k3.new (.row [] 3 true)).get k3.next = some (.row [] 3 true) := by rw [AH.new_get, if_pos rfl]
  have hbs := aBuildSlice_empty t22 k3
  generalize k3.new (.row [] 3 true) = k4 at g4 hg4 hbs
  obtain ⟨lv, k5, o', A', happ, g5, hVl, hgl, -⟩ := copyV (t := 25) t22 g4.wf hg4 (hv2.sub (g3.sub.trans g4.sub)) (by rw [List.length_map]; omega) (by rw [List.length_map]; unfold ML; omega)
  have hlv : SlOf k5 lv (ord.map (.int .i64)) := hVl.sl (fun o e => by cases e; exact hgl)
  have hst5 := fun (hh : AH) cs e hl => stN agN hh cs e (netC n co fo io oo) hl rfl ro.one
  have hO := NetAt.new (h := k5) (n := n) (cv := co) (fv := fo) (iv := io) (ov := oo)
  have g6 := (Gr.refl g5.wf).new (.row (netC n co fo io oo) 27 true)
  have g26 := ((g3.trans g4).trans g5).trans g6
  have hN6 := hN2.sub g26.sub
  simp (disch := first | omega | decide) only [push_cast, ↓reduceIte, Nat.reduceLT, Nat.reduceEqDiff, reduceCtorEq, Nat.reduceAdd, hn, hd, ha, hbs, happ, alL zrN, hst5, hN6.l0, hN6.l1, hN6.l2, hN6.l3, hN6.l4, hN6.la]
  generalize k5.new (.row (netC n co fo io oo) 27 true) = k6 at hO g6 g26 hN6 ⊢
  generalize k5.next = B5 at hO ⊢
  have r6 := r2.sub g26.sub
  have ro6 := ro.sub ((g4.trans g5).trans g6).sub
  have hlv6 := hlv.sub g6.sub
  have hv6 := hv2.sub g26.sub
  refine ACall.mono ?_ (refInsert r6 ok nb hv6 hb)
  rintro _ k7 ⟨g7, cw, fw, iw, ow, rfl, rw7⟩
  have hst7 := fun (hh : AH) cs e hl => stN agN hh cs e (netC (insR n ord) cw fw iw ow) hl rfl rw7.one
  have hW := NetAt.new (h := k7) (n := insR n ord) (cv := cw) (fv := fw) (iv := iw) (ov := ow)
  have g8 := (Gr.refl g7.wf).new (.row (netC (insR n ord) cw fw iw ow) 27 true)
  have nbm : NetB (insR n ord) := insR_B nb
  simp (disch := first | omega | decide) only [push_cast, ↓reduceIte, Nat.reduceLT, Nat.reduceEqDiff, reduceCtorEq, Nat.reduceAdd, hn, hd, ha, alL zrN, hst7]
  generalize k7.new (.row (netC (insR n ord) cw fw iw ow) 27 true) = K at hW g8 ⊢
  generalize k7.next = B7 at hW ⊢
  have g68 := g7.trans g8
  have wK := g68.wf
  have hN8 := hN6.sub g68.sub
  have hO8 := hO.sub g68.sub
  have r8 := r6.sub g68.sub
  have ro8 := ro6.sub g68.sub
  have rw8 := rw7.sub g8.sub
  have hlv8 := hlv6.sub g68.sub
  have hv8 := hv6.sub g68.sub
  clear hN hN2 hN6 hO r1 r2 r6 ro ro6 rw7 hlv hlv6 hv1 hv2 hv6 hVl hgl hg4 Pv g1 g2 g3 g4 g5 g6 g7 g8 g26 g68 hbs happ hst5 hst7
  refine AW.loopN 36 [9, 10, 11, 12, 13, 14, 15, 16] (fun q a' h' => Gr K h' ∧ ∃ i : Nat, a'.tm 9 = .int .i64 i ∧ i + q = 2) 2 ?_ ?_
  · exact ⟨Gr.refl wK, 0, by simp (disch := first | omega | decide) only [push_cast, ↓reduceIte, Nat.reduceLT, Nat.reduceEqDiff, reduceCtorEq, Nat.reduceAdd], by omega⟩
  rintro a1 q a' k hk kn kd kt ⟨gk, i, h9, hiq⟩
  simp (disch := first | omega | decide) only [push_cast, ↓reduceIte, Nat.reduceLT, Nat.reduceEqDiff, reduceCtorEq, Nat.reduceAdd, kn, kd, kt, hn, hd, ha, h9]
  refine condV_of (fun hlt => ?_) (fun hge => ?_)
  · have hi : i < 2 := by have := hlt; simp at this; omega
    have hOk := hO8.sub gk.sub
    simp (disch := first | omega | decide) only [push_cast, ↓reduceIte, Nat.reduceLT, Nat.reduceEqDiff, reduceCtorEq, Nat.reduceAdd, kn, kd, kt, hn, hd, ha, h9, hOk.l0, hOk.l1, hOk.l2, hOk.l3, hOk.l4, hOk.la]
    refine ACall.mono ?_ (insertO (ro8.sub gk.sub) ok (hlv8.sub gk.sub) hb)
    rintro _ j1 ⟨gj, cm, fm, im, om, rfl, rm, wm⟩
    have hst := fun (hh : AH) cs e hl => stN agN hh cs e (netC (insR n ord) cm fm im om) hl rfl rm.one
    have gj2 := (Gr.refl gj.wf).new (.row (netC (insR n ord) cm fm im om) 27 true)
    have hBM : (j1.new (.row (netC (insR n ord) cm fm im om) 27 true)).get j1.next = some (.row (netC (insR n ord) cm fm im om) 27 true) := by rw [AH.new_get, if_pos rfl]
    simp (disch := first | omega | decide) only [push_cast, ↓reduceIte, Nat.reduceLT, Nat.reduceEqDiff, reduceCtorEq, Nat.reduceAdd, kn, kd, kt, hn, hd, ha, h9, alL zrN, hst]
    generalize j1.new (.row (netC (insR n ord) cm fm im om) 27 true) = j2 at gj2 hBM ⊢
    generalize j1.next = BM at hBM ⊢
    have g02 := (gk.trans gj).trans gj2
    have hM2 : NetAt j2 BM (insR n ord) cm fm im om := ⟨_, hBM, rfl⟩
    have hW2 := hW.sub g02.sub
    have wm2 := wm.sub gj2.sub
    simp (disch := first | omega | decide) only [push_cast, ↓reduceIte, Nat.reduceLT, Nat.reduceEqDiff, reduceCtorEq, Nat.reduceAdd, kn, kd, kt, hn, hd, ha, h9, hM2.l0, hM2.l1, hM2.l2, hM2.l3, hM2.l4, hM2.la, hW2.l0, hW2.l1, hW2.l2, hW2.l3, hW2.l4, hW2.la]
    refine ACall.mono ?_ (same29 (rm.sub gj2.sub) (rw8.sub g02.sub) nbm)
    rintro _ j2 ⟨rfl, rfl⟩
    simp (disch := first | omega | decide) only [push_cast, ↓reduceIte, Nat.reduceLT, Nat.reduceEqDiff, reduceCtorEq, Nat.reduceAdd, kn, kd, kt, hn, hd, ha, h9]
    refine AW.keep 36 [9, 10, 11, 12, 13, 14, 15, 16] (a0 := a1) (by simp (disch := decide) only [Kp_put, put_none, hk]) (fun hkc => ?_)
    refine AW.mono ?_ (ovI (BM := BM) (by simp (disch := first | omega | decide) only [push_cast, ↓reduceIte, Nat.reduceLT, Nat.reduceEqDiff, reduceCtorEq, Nat.reduceAdd, kn, hn]) (by simp (disch := first | omega | decide) only [push_cast, ↓reduceIte, Nat.reduceLT, Nat.reduceEqDiff, reduceCtorEq, Nat.reduceAdd, kd, hd]) wm2 nbm hBM (Ovr.refl gj2.wf) (by simp (disch := first | omega | decide) only [push_cast, ↓reduceIte, Nat.reduceLT, Nat.reduceEqDiff, reduceCtorEq, Nat.reduceAdd]) (by simp (disch := first | omega | decide) only [push_cast, ↓reduceIte, Nat.reduceLT, Nat.reduceEqDiff, reduceCtorEq, Nat.reduceAdd]))
    rintro _ a3 j3 ⟨rfl, n3, d3, k3', o3⟩
    have x9 := k3' 9 (by omega) (by decide)
    have x10 := k3' 10 (by omega) (by decide)
    have hk3 : Kp 36 [9, 10, 11, 12, 13, 14, 15, 16] a1 a3 := Kp.trans (lo' := 55) (X' := [12, 13]) hkc ⟨by rw [n3]; simp (disch := first | omega | decide) only [push_cast, ↓reduceIte, Nat.reduceLT, Nat.reduceEqDiff, reduceCtorEq, Nat.reduceAdd, kn, hn], by rw [d3]; simp (disch := first | omega | decide) only [push_cast, ↓reduceIte, Nat.reduceLT, Nat.reduceEqDiff, reduceCtorEq, Nat.reduceAdd, kd, hd], k3'⟩ (by omega) (by simp)
    clear hkc
    simp (disch := first | omega | decide) only [push_cast, ↓reduceIte, Nat.reduceLT, Nat.reduceEqDiff, reduceCtorEq, Nat.reduceAdd, n3, d3, x9, x10, kn, kd, kt, hn, hd, ha, h9]
    refine AW.mono ?_ (ovC (BM := BM) (by simp (disch := first | omega | decide) only [push_cast, ↓reduceIte, Nat.reduceLT, Nat.reduceEqDiff, reduceCtorEq, Nat.reduceAdd, n3]) (by simp (disch := first | omega | decide) only [push_cast, ↓reduceIte, Nat.reduceLT, Nat.reduceEqDiff, reduceCtorEq, Nat.reduceAdd, d3]) wm2 nbm hBM o3 (by simp (disch := first | omega | decide) only [push_cast, ↓reduceIte, Nat.reduceLT, Nat.reduceEqDiff, reduceCtorEq, Nat.reduceAdd, x10]) (by simp (disch := first | omega | decide) only [push_cast, ↓reduceIte, Nat.reduceLT, Nat.reduceEqDiff, reduceCtorEq, Nat.reduceAdd]))
    rintro _ a4 j4 ⟨rfl, n4, d4, k4', o4⟩
    have y9 : a4.tm 9 = .int .i64 i := (k4' 9 (by omega) (by decide)).trans (by simp (disch := first | omega | decide) only [push_cast, ↓reduceIte, Nat.reduceLT, Nat.reduceEqDiff, reduceCtorEq, Nat.reduceAdd, x9, h9])
    have y10 : a4.tm 10 = .pointer (some ⟨BM, 0, none⟩) := (k4' 10 (by omega) (by decide)).trans (by simp (disch := first | omega | decide) only [push_cast, ↓reduceIte, Nat.reduceLT, Nat.reduceEqDiff, reduceCtorEq, Nat.reduceAdd, x10])
    have hk4 : Kp 36 [9, 10, 11, 12, 13, 14, 15, 16] a1 a4 := Kp.trans (lo' := 81) (X' := [14, 15]) (by simp (disch := decide) only [Kp_put, put_none, hk3]) ⟨by rw [n4]; simp (disch := first | omega | decide) only [push_cast, ↓reduceIte, Nat.reduceLT, Nat.reduceEqDiff, reduceCtorEq, Nat.reduceAdd, n3], by rw [d4]; simp (disch := first | omega | decide) only [push_cast, ↓reduceIte, Nat.reduceLT, Nat.reduceEqDiff, reduceCtorEq, Nat.reduceAdd, d3], k4'⟩ (by omega) (by simp)
    clear hk3 x9 x10 k4' k3'
    simp (disch := first | omega | decide) only [push_cast, ↓reduceIte, Nat.reduceLT, Nat.reduceEqDiff, reduceCtorEq, Nat.reduceAdd, n4, d4, y9, y10, kn, kd, kt, hn, hd, ha, h9]
    refine AW.mono ?_ (ovO (BM := BM) (by simp (disch := first | omega | decide) only [push_cast, ↓reduceIte, Nat.reduceLT, Nat.reduceEqDiff, reduceCtorEq, Nat.reduceAdd, n4]) (by simp (disch := first | omega | decide) only [push_cast, ↓reduceIte, Nat.reduceLT, Nat.reduceEqDiff, reduceCtorEq, Nat.reduceAdd, d4]) wm2 nbm hBM o4 (by simp (disch := first | omega | decide) only [push_cast, ↓reduceIte, Nat.reduceLT, Nat.reduceEqDiff, reduceCtorEq, Nat.reduceAdd, y10]) (by simp (disch := first | omega | decide) only [push_cast, ↓reduceIte, Nat.reduceLT, Nat.reduceEqDiff, reduceCtorEq, Nat.reduceAdd]))
    rintro _ a5 j5 ⟨rfl, n5, d5, k5', o5⟩
    have z9 : a5.tm 9 = .int .i64 i := (k5' 9 (by omega) (by decide)).trans (by simp (disch := first | omega | decide) only [push_cast, ↓reduceIte, Nat.reduceLT, Nat.reduceEqDiff, reduceCtorEq, Nat.reduceAdd, y9])
    have hk5 : Kp 36 [9, 10, 11, 12, 13, 14, 15, 16] a1 a5 := Kp.trans (lo' := 107) (X' := [16]) (by simp (disch := decide) only [Kp_put, put_none, hk4]) ⟨by rw [n5]; simp (disch := first | omega | decide) only [push_cast, ↓reduceIte, Nat.reduceLT, Nat.reduceEqDiff, reduceCtorEq, Nat.reduceAdd, n4], by rw [d5]; simp (disch := first | omega | decide) only [push_cast, ↓reduceIte, Nat.reduceLT, Nat.reduceEqDiff, reduceCtorEq, Nat.reduceAdd, d4], k5'⟩ (by omega) (by simp)
    have hw : IntKind.i64.wrap ((i : Int) + 1) = i + 1 := wrapI (by omega) (by omega)
    simp (disch := first | omega | decide) only [push_cast, ↓reduceIte, Nat.reduceLT, Nat.reduceEqDiff, reduceCtorEq, Nat.reduceAdd, n5, d5, z9, kn, kd, kt, hn, hd, ha, h9, hw]
    exact ⟨q - 1, by omega, (by simp (disch := decide) only [Kp_put, put_none, hk5]), o5.sub wK g02 gk.nx, i + 1, by simp (disch := first | omega | decide) only [push_cast, ↓reduceIte, Nat.reduceLT, Nat.reduceEqDiff, reduceCtorEq, Nat.reduceAdd], by omega⟩
  · have hOk := hO8.sub gk.sub
    have hNk := hN8.sub gk.sub
    simp (disch := first | omega | decide) only [push_cast, ↓reduceIte, Nat.reduceLT, Nat.reduceEqDiff, reduceCtorEq, Nat.reduceAdd, kn, kd, kt, hn, hd, ha, h9, hOk.l0, hOk.l1, hOk.l2, hOk.l3, hOk.l4, hOk.la, hNk.l0, hNk.l1, hNk.l2, hNk.l3, hNk.l4, hNk.la]
    refine ACall.mono ?_ (same29 (ro8.sub gk.sub) (r8.sub gk.sub) nb)
    rintro _ k ⟨rfl, rfl⟩
    simp (disch := first | omega | decide) only [push_cast, ↓reduceIte, Nat.reduceLT, Nat.reduceEqDiff, reduceCtorEq, Nat.reduceAdd, kn, kd, kt, hn, hd, ha, h9]
    refine ACall.mono ?_ (same21 (hlv8.sub gk.sub) (hv8.sub gk.sub) (by omega))
    rintro _ k ⟨rfl, rfl⟩
    simp (disch := first | omega | decide) only [push_cast, ↓reduceIte, Nat.reduceLT, Nat.reduceEqDiff, reduceCtorEq, Nat.reduceAdd, kn, kd, kt, hn, hd, ha, h9]
    refine ACall.mono ?_ (aw _)
    rintro _ _ ⟨rfl, _⟩
    simp (disch := first | omega | decide) only [push_cast, ↓reduceIte, Nat.reduceLT, Nat.reduceEqDiff, reduceCtorEq, Nat.reduceAdd, kn, kd, kt, hn, hd, ha, h9]

end Go.Ab.S1

namespace Go.Ab.S1
open Go.Proofs

theorem shiftE_eq {n : Net} (s : ShapeOK n) {p : Int} (h : -2 ≤ p ∧ p < firstE n + n.insts.length) : shiftE n p = if p ≥ n.inputs then p + 2 else p := by
  have h1 := s.i0; have h2 := s.i1; have h3 := s.fl; have h4 := s.il
  unfold shiftE
  by_cases hp : p ≥ n.inputs
  · rw [if_pos hp, if_pos hp]; exact wrapI (by unfold firstE at h; omega) (by unfold firstE at h; omega)
  · rw [if_neg hp, if_neg hp]

theorem shiftE_range {n : Net} (s : ShapeOK n) {p : Int} (h : -2 ≤ p ∧ p < firstE n + n.insts.length) : -2 ≤ shiftE n p ∧ shiftE n p < firstE n + 2 + n.insts.length := by
  rw [shiftE_eq s h]; split <;> omega

/-- What the steps have made, L of them. -/
structure InsK (n : Net) (L : Nat) (s : Int × Net) : Prop where
  inputs : s.2.inputs = n.inputs + 2
  cells : s.2.cells = n.cells
  outs : s.2.outs = n.outs.map (shiftE n)
  fl : s.2.flops.length = n.flops.length
  il : s.2.insts.length = n.insts.length + L
  before : n.inputs + 1 ≤ s.1 ∧ s.1 < n.inputs + 2 + n.flops.length
  init : s.2.flops.map (·.init) = n.flops.map (·.init)
  next : ∀ x ∈ s.2.flops, -2 ≤ x.next ∧ x.next < n.inputs + 2 + n.flops.length + n.insts.length + L
  old : s.2.insts.take n.insts.length = n.insts.map (instS n)
  new : ∀ x ∈ s.2.insts.drop n.insts.length, x.cell = (pick3 n).1 ∧ x.pins.length = 3 ∧ ∀ p ∈ x.pins, -2 ≤ p ∧ p < n.inputs + 2 + n.flops.length + n.insts.length

theorem InsK.start {n : Net} (s : ShapeOK n) : InsK n 0 (n.inputs + 1, insBase n) := by
  refine ⟨rfl, rfl, rfl, rfl, by simp [insBase], ⟨Int.le_refl _, by simp only; omega⟩, rfl, fun x hx => ?_, ?_, fun x hx => ?_⟩
  · have := s.flop x hx
    unfold firstE at this; omega
  · show (n.insts.map (instS n)).take n.insts.length = _
    rw [List.take_of_length_le (by simp)]
  · rw [List.drop_of_length_le (by simp [insBase])] at hx; cases hx

theorem map_set {α β : Type} {f : α → β} : ∀ {l : List α} {i : Nat} {x : α}, (∀ y, l[i]? = some y → f x = f y) → (l.set i x).map f = l.map f := by
  intro l i x h
  apply List.ext_getElem?
  intro j
  rw [List.getElem?_map, List.getElem?_map]
  by_cases hj : j = i
  · subst hj
    cases hl : l[j]? with
    | none =>
      have : l.length ≤ j := List.getElem?_eq_none_iff.1 hl
      rw [List.getElem?_eq_none (by simpa using this)]
    | some y =>
      have hlt := (List.getElem?_eq_some_iff.1 hl).1
      rw [List.getElem?_set_self hlt, Option.map_some, Option.map_some, h y hl]
  · rw [List.getElem?_set_ne (fun e => hj e.symm)]

theorem InsK.step {n : Net} (s : ShapeOK n) {L : Nat} {t : Int × Net} (k : InsK n L t) {i : Int} (hi : 0 ≤ i ∧ i < n.flops.length) (hp3 : (pick3 n).2.length = 3) (hpz : ∀ z ∈ (pick3 n).2, 0 ≤ z ∧ z < 3) : InsK n (L + 1) (insStep n t i) := by
  have hlt : i.toNat < n.flops.length := by omega
  have hfm : n.flops.getD i.toNat default ∈ n.flops := getD_mem hlt default
  have hnx := (s.flop _ hfm).1
  have hsr := shiftE_range s hnx
  have hi0 := s.i0
  refine ⟨k.inputs, k.cells, k.outs, by rw [insStep_flops]; exact k.fl, by simp [insStep, k.il]; omega, ⟨by simp only [insStep]; omega, by simp only [insStep]; omega⟩, ?_, fun x hx => ?_, ?_, fun x hx => ?_⟩
  · rw [← k.init]
    show (t.2.flops.set i.toNat (insFlop n t.2 i)).map _ = _
    refine map_set (f := fun x : Flop => x.init) fun y hy => ?_
    show (t.2.flops.getD i.toNat default).init = y.init
    rw [List.getD_eq_getElem?_getD, hy]; rfl
  · rcases List.mem_or_eq_of_mem_set hx with hx | rfl
    · have := k.next x hx; omega
    · simp only [insFlop, k.fl, k.il]; omega
  · show (t.2.insts ++ [insInst n t i]).take _ = _
    rw [List.take_append_of_le_length (by rw [k.il]; omega)]; exact k.old
  · have hx : x ∈ (t.2.insts ++ [insInst n t i]).drop n.insts.length := hx
    rw [List.drop_append_of_le_length (by rw [k.il]; omega)] at hx
    rcases List.mem_append.1 hx with hx | hx
    · exact k.new x hx
    · rw [List.mem_singleton] at hx
      subst hx
      refine ⟨rfl, by simp [insInst, hp3], fun p hp => ?_⟩
      obtain ⟨z, hz, rfl⟩ := List.mem_map.1 hp
      have hb := k.before
      unfold firstE at hsr
      obtain ⟨z0, z3⟩ := hpz z hz
      rcases (show z = 0 ∨ z = 1 ∨ z = 2 by omega) with rfl | rfl | rfl
      · show -2 ≤ shiftE n _ ∧ shiftE n _ < _; omega
      · show -2 ≤ t.1 ∧ t.1 < _; omega
      · show -2 ≤ n.inputs ∧ n.inputs < _; omega

theorem InsK.go {n : Net} (s : ShapeOK n) (hp3 : (pick3 n).2.length = 3) (hpz : ∀ z ∈ (pick3 n).2, 0 ≤ z ∧ z < 3) : ∀ (ord : List Int) {L : Nat} {t : Int × Net}, InsK n L t → (∀ z ∈ ord, 0 ≤ z ∧ z < n.flops.length) → InsK n (L + ord.length) (ord.foldl (insStep n) t) := by
  intro ord
  induction ord with
  | nil => intro L t k _; exact k
  | cons i is ih =>
    intro L t k hz
    rw [List.foldl_cons, List.length_cons]
    have := ih (k.step s (hz i (List.mem_cons_self ..)) hp3 hpz) (fun z hm => hz z (List.mem_cons_of_mem _ hm))
    rw [show L + (is.length + 1) = L + 1 + is.length by omega]; exact this

/-- What a successful insertion tells. -/
structure InsOK (n : Net) (ord : List Int) : Prop where
  net : netE n = 0
  perm : IsPerm ord
  len : ord.length = n.flops.length
  found : matchGo 202 3 0 n.cells ≠ []
  i2 : n.inputs + 2 ≤ 64
  outs : n.outs.length < 64
  insts : n.insts.length + n.flops.length ≤ 4096

theorem InsOK.of {n : Net} {ord : List Int} (h : insE n ord = 0) : InsOK n ord := by
  unfold insE at h
  by_cases h1 : scanE n ord = 0
  · rw [if_neg (by simpa using h1)] at h
    by_cases h2 : matchE n.cells 202 3 ≠ 0 ∨ matchGo 202 3 0 n.cells = []
    · rw [if_pos h2] at h; cases h
    · rw [if_neg h2] at h
      by_cases h3 : n.inputs + 2 > 64 ∨ (n.outs.length : Int) ≥ 64 ∨ ((n.insts.length : Int) + n.flops.length > 4096)
      · rw [if_pos h3] at h; cases h
      · obtain ⟨a, b, c⟩ := scanE_zero h1
        have h4 : ¬ n.inputs + 2 > 64 := fun x => h3 (.inl x)
        have h5 : ¬ (n.outs.length : Int) ≥ 64 := fun x => h3 (.inr (.inl x))
        have h6 : ¬ ((n.insts.length : Int) + n.flops.length > 4096) := fun x => h3 (.inr (.inr x))
        exact ⟨a, b, by omega, fun x => h2 (.inr x), by omega, by omega, by omega⟩
  · rw [if_pos h1] at h; exact absurd h h1

theorem InsOK.k {n : Net} {ord : List Int} (o : InsOK n ord) : InsK n n.flops.length (insGo n ord) := by
  have s := ShapeOK.of (netE_zero.1 o.net).1
  have hp := pick3_ok o.found
  have := InsK.go s hp.2.2.2.1 hp.2.2.2.2 ord (InsK.start s) (fun z hz => by obtain ⟨i, hi, rfl⟩ := o.perm.range hz; have := o.len; omega)
  rw [Nat.zero_add, o.len] at this
  exact this

section
variable {n : Net} {ord : List Int}

end

end Go.Ab.S1

namespace Go.Ab.S1
open Go.Proofs

section
variable {n : Net} {ord : List Int}

/-! ### The start -/

/-! ### The area -/

end

end Go.Ab.S1

namespace Go.Ab.S1
open Go.Proofs
open Go.ChangeShapes Go.WideShapes Go.ChangeAt Go.RowKit

/-- A netlist lies in a world. -/
def NetW (W : World) (v : Value) (n : Net) : Prop := ∀ ρ h, HR ρ h W → AllRO h → ∃ ρ' h' cv fv iv ov, GrA W ρ h ρ' h' ∧ VR ρ' (.agg (netC n cv fv iv ov).toArray) v ∧ NetR h' n cv fv iv ov
def IntsW (W : World) (v : Value) (zs : List Int) : Prop := ∀ ρ h, HR ρ h W → AllRO h → ∃ ρ' h' u, GrA W ρ h ρ' h' ∧ VR ρ' u v ∧ SlOf h' u (zs.map (.int .i64))

theorem lawNI {g : FuncId} {W : World} {v1 v2 : Value} {n : Net} {zs : List Int} (h1 : NetW W v1 n) (h2 : IntsW W v2 zs)
    (hc : ∀ h cv fv iv ov u, NetR h n cv fv iv ov → SlOf h u (zs.map (.int .i64)) → ACall Tryz.prog g [.agg (netC n cv fv iv ov).toArray, u] h (fun r _ => r = .bool true)) :
    Calls Tryz.prog g #[v1, v2] W fun e W' => e = .returned (.bool true) ∧ Below W.heap.size W W' := by
  obtain ⟨ρ1, k1, cv, fv, iv, ov, g1, vr1, s1⟩ := h1 _ _ (HR.empty W) (fun A o h => by cases h)
  obtain ⟨ρ2, k2, u2, g2, vr2, s2⟩ := h2 ρ1 k1 g1.hr g1.ro
  have hcall := (hc k2 cv fv iv ov u2 (s1.sub g2.sub) s2).2 ρ2 #[v1, v2] W ((LR.single vr2).cons (vr1.mono g2.le)) g2.hr
  refine hcall.mono ?_
  rintro e W' ⟨ρ', v, v', h', rfl, rfl, hv, _, hf⟩
  have : v' = .bool true := plain_only 9 _ _ rfl hv
  subst this
  refine ⟨rfl, hf.side.os, hf.side.tape, hf.side.output, hf.size, fun b hb => hf.rest b hb ?_⟩
  rintro ⟨A, o, r, ha, hown, _⟩
  rw [g2.ro A o ha] at hown; cases hown

theorem aggWide {P : Program} {r : Reach} {base : Nat} {W : World} {t : TypeId} {fs : Array Field} {v : Value} (ht : P.underlying t = some (.struct fs)) (h : Value.okWide P W r base t v) : ∃ cs, v = .agg cs := by
  unfold Value.okWide at h
  rw [ht] at h
  obtain ⟨cs, e, _⟩ := h
  exact ⟨cs, e⟩

theorem slWide {P : Program} {r : Reach} {base : Nat} {W : World} {t e : TypeId} {v : Value} (ht : P.underlying t = some (.slice e)) (h : Value.okWide P W r base t v) : v.cells.toList = [v] := by
  unfold Value.okWide at h
  rw [ht] at h
  simp only at h
  unfold Cell.okWide at h
  rw [ht] at h
  simp only [Cell.ok, ht] at h
  cases v <;> simp_all [Value.cells]

end Go.Ab.S1

namespace Go.Ab.S1
open Go.Proofs

def isTrueV : Value → EH → Bool
  | .bool true, _ => true
  | _, _ => false

def s1pures : List (FuncId × Value) := [(33, .int .i64 0)]

theorem awakeRuns : evCall Tryz.prog (evC ⟨Tryz.prog, s1plans, s1pures⟩ 100000) 9 [] { next := 0, hp := T.full 11 } isTrueV = true := by kernel_rfl

theorem mixedW : Tryz.prog.follows .mixedOrders = true := by kernel_rfl

theorem emptyDen : (EH.den { next := 0, hp := T.full 11 }) = emptyH := by
  simp only [EH.den, emptyH]; congr 1; funext i; exact full_get 11 i

theorem awake (h : AH) : ACall Tryz.prog 9 [] h (fun v h' => v = .bool true ∧ h' = h) := by
  refine ACall.closed rfl rfl ?_ h
  have := evCall_sound (evC_sound (E := ⟨Tryz.prog, s1plans, s1pures⟩) mixedW 100000) 9 [] _ isTrueV awakeRuns
  rw [emptyDen] at this
  refine ACall.mono ?_ this
  rintro v h' ⟨eh, rfl, hk⟩
  unfold isTrueV at hk
  split at hk
  · rfl
  · cases hk
end Go.Ab.S1
