/- netlablaw31.mux and Ex. netlablaw31.ScanExamples: its first regions. netlablaw31.ScanExamples: regions 4 to 6. netlablaw31.ScanExamples: the netlist of many instances. netlablaw31.ScanExamples: the netlists of its table, laid; the order of 32. netlablaw31.ScanExamples: its table of eleven entries, laid (region 17). netlablaw31.ScanExamples: the loop over its table (block 4). netlablaw31.ScanExamples: Pattern's errors (regions 24 to 29). netlablaw31.ScanExamples: Load's, Unload's, Observe's errors; Insert and Pattern that answer (regions 30 to 39). netlablaw31.ScanExamples: its verdict (regions 40 and 42). netlablaw31.ScanExamples returns true. The examples of the chapter hold: netlablaw31.awake returns true, evaluated. -/
import Derived.Test.YtnejoceplinjpaaB4
import Derived.Test.YtnejoceplinjpaaProg
import Derived.KernelRfl
set_option linter.unusedSimpArgs false
set_option linter.unusedVariables false
namespace Go.Ab.S1
open Go.Proofs
set_option linter.unusedSimpArgs false
set_option linter.unusedVariables false
set_option maxRecDepth 100000
set_option maxHeartbeats 4000000
attribute [local push_cast] wpA_skip wpA_ret wpA_exit wpA_seq wpA_block wpA_cond2 andK_true wpA_region wpA_draw wpA_loop thenQ_normal thenQ_ret thenQ_exit blockQ_normal blockQ_ret blockQ_exit condV_true condV_false opsM_nil opsM_cons2 okM_true wantM_true wantM_false stepM seqM_cons2 seqM_nil2 okS_true wantS_true wantS_false stepS skipS okB Keeps_nil contK_app List.zip_cons_cons List.zip_nil_left List.zip_nil_right Op.operands Call.operands Array.toList_append List.append_nil List.nil_append List.all_cons List.all_nil cOK plain put_n put_tm put_none put_df ev_tmp ev_const ev_func wanted_none wanted_some callR_func dop ex_some1 aBuiltin aBin intBin aUn Option.map_some Bool.and_true Bool.true_and Bool.and_self List.map_cons List.map_nil List.toList_toArray List.getElem?_toArray List.getElem?_cons_zero List.getElem?_cons_succ Option.getD_some Option.getD_none Bool.false_eq_true eq_self_iff_true decide_true decide_false List.cons_append aExtract resL resV List.getD_cons_zero List.getD_cons_succ List.getD_nil Nat.succ_ne_self g1 g2 yieldedA2 isB_bool isB_undef g3 Option.bind_some Option.bind_none bne_self_eq_false beq_self_eq_true Bool.not_true Bool.not_false Int.toNat_natCast List.length_map List.mem_cons List.not_mem_nil or_false not_false_eq_true decide_not Bool.not_not bodyR_ret2 bodyR_normal2 closeMarks_nil ex_some0 Nat.zero_add Nat.add_zero ieq ine List.map_toArray Option.toArray_none Option.toArray_some oev Keeps_cons Still_eq selL wpX_skip wpX_ret wpX_exit wpX_seq wpX_block wpX_cond wpX_region wpX_draw wpX_loop List.take_succ_cons List.take_zero List.drop_succ_cons List.drop_zero Int.zero_add Int.add_zero aNil if_true if_false true_and and_true

def muxL (t : Int) (D1 D2 : Nat) : List Value :=
  [.string ⟨#[73, 78, 86]⟩, .int .i64 1, .int .u64 1, .int .i64 1, .slice (some ⟨D1, 0, none⟩) 1 1, .string ⟨#[77, 85, 88]⟩, .int .i64 3, .int .u64 t, .int .i64 5, .slice (some ⟨D2, 0, none⟩) 3 3]

/-- The library, laid. -/
def MuxAt (h : AH) (t : Int) (A : Nat) : Prop := ∃ D1 D2, h.get A = some (.row (muxL t D1 D2) 47 true) ∧ h.get D1 = some (.row [.int .i64 1] 2 true) ∧ h.get D2 = some (.row [.int .i64 1, .int .i64 1, .int .i64 1] 2 true)

theorem MuxAt.sub {h h' : AH} {t : Int} {A : Nat} (m : MuxAt h t A) (s : Sub h h') : MuxAt h' t A := let ⟨D1, D2, a, b, c⟩ := m; ⟨D1, D2, s _ _ a, s _ _ b, s _ _ c⟩

theorem MuxAt.row {h : AH} {t : Int} {A : Nat} (m : MuxAt h t A) : RowOf cellL h (.slice (some ⟨A, 0, none⟩) 2 2) (libC t) := by
  obtain ⟨D1, D2, a, b, c⟩ := m
  have s1 : SlOf h (.slice (some ⟨D1, 0, none⟩) 1 1) ([(1 : Int)].map (.int .i64)) := SlOf.lit b rfl rfl
  have s2 : SlOf h (.slice (some ⟨D2, 0, none⟩) 3 3) ([(1 : Int), 1, 1].map (.int .i64)) := SlOf.lit c rfl rfl
  refine ⟨_, _, _, rfl, rfl, ⟨fun q e => by cases e; rfl, Nat.le_refl _, .inl (by unfold SL; omega)⟩, .inr ⟨A, 0, _, _, rfl, a, rfl, fun i x hx => ?_⟩⟩
  match i, hx with
  | 0, hx => cases hx; exact ⟨_, rfl, s1⟩
  | 1, hx => cases hx; exact ⟨_, rfl, s2⟩
  | i + 2, hx => exact nomatch hx

theorem buildC {s : ByteArray} {p t a : Int} {dv : Value} (hd : dv.cells.toList = [dv]) : aBuild Try.prog 47 [(0, .string s), (1, .int .i64 p), (2, .int .u64 t), (3, .int .i64 a), (4, dv)] = some (.agg #[.string s, .int .i64 p, .int .u64 t, .int .i64 a, dv]) := by
  have hc : dv.cells.size = 1 := by
    have := congrArg List.length hd
    simpa using this
  have h0 : (Value.string s).cells = #[.string s] := rfl
  have h1 : ∀ k x, (Value.int k x).cells = #[.int k x] := fun _ _ => rfl
  rw [buildS (zs := [.string ByteArray.empty, .int .i64 0, .int .u64 0, .int .i64 0, .slice none 0 0]) (pl := [(0, 1), (1, 1), (2, 1), (3, 1), (4, 1)]) ⟨(Try.prog.info? 47).get (by kernel_rfl), by kernel_rfl, by kernel_rfl⟩ rfl ⟨_, Try.underlying47, by kernel_rfl⟩]
  simp [fillL, h0, h1, hc, hd, setL]

theorem aBuildL3 (h : AH) (x y z : Int) : aBuildSlice Try.prog 45 3 [(0, .int .i64 x), (1, .int .i64 y), (2, .int .i64 z)] h = some (.slice (some ⟨h.next, 0, none⟩) 3 3, h.new (.row [.int .i64 x, .int .i64 y, .int .i64 z] 2 true)) := by
  obtain ⟨i, hi, h1, hb, hz⟩ := tL.info
  have hp : plain 9 (.int .i64 0) = true := rfl
  have hc : (Value.int .i64 0).cells.size = 1 := rfl
  have hl : (Value.int .i64 0).cells.toList = [.int .i64 0] := rfl
  have hx1 : ∀ z : Int, (Value.int .i64 z).cells.size = 1 := fun _ => rfl
  have hx2 : ∀ z : Int, (Value.int .i64 z).cells.toList = [.int .i64 z] := fun _ => rfl
  simp only [aBuildSlice, tL.sl, hi, hz, h1, hp, hc, fillL, hl, zeros_one]
  simp [SL, hx1, hx2, setL, oneC, List.replicate]

theorem muxN (h : AH) : ACall Try.prog 19 [] h (fun r h' => Gr h h' ∧ ∃ A, r = .slice (some ⟨A, 0, none⟩) 2 2 ∧ h.next ≤ A ∧ MuxAt h' 202 A) := by
  refine ACall.wf ⟨_, Try.func19, rfl, by kernel_rfl⟩ fun hwf => ?_
  refine ACall.of_wp 6 [.tmp 0] Try.func19 rfl (by kernel_rfl) rfl rfl fun a hn hd ha => ?_
  have g1 := (Gr.refl hwf).new (.row [.int .i64 1] 2 true)
  have g2 := g1.new (.row [.int .i64 1, .int .i64 1, .int .i64 1] 2 true)
  have hb1 := aBuild1 tL h (x := .int .i64 1) rfl rfl
  have hd1 : (h.new (.row [.int .i64 1] 2 true)).get h.next = some (.row [.int .i64 1] 2 true) := by rw [AH.new_get, if_pos rfl]
  have hnx : (h.new (.row [.int .i64 1] 2 true)).next = h.next + 1 := rfl
  simp (disch := first | omega | decide) only [push_cast, ↓reduceIte, Nat.reduceLT, Nat.reduceEqDiff, reduceCtorEq, Nat.reduceAdd, hn, hd, ha, hb1]
  generalize h.new (.row [.int .i64 1] 2 true) = h1 at g1 g2 hd1 hnx ⊢
  have hb2 := aBuildL3 h1 1 1 1
  have hd2 : (h1.new (.row [.int .i64 1, .int .i64 1, .int .i64 1] 2 true)).get h1.next = some (.row [.int .i64 1, .int .i64 1, .int .i64 1] 2 true) := by rw [AH.new_get, if_pos rfl]
  have s12 := Sub.new g1.wf (.row [.int .i64 1, .int .i64 1, .int .i64 1] 2 true)
  have hnx2 : (h1.new (.row [.int .i64 1, .int .i64 1, .int .i64 1] 2 true)).next = h1.next + 1 := rfl
  have hd1' := s12 _ _ hd1
  have hb3 := aBuildL smC (by decide) (h1.new (.row [.int .i64 1, .int .i64 1, .int .i64 1] 2 true)) (xss := [[.string ⟨#[73, 78, 86]⟩, .int .i64 1, .int .u64 1, .int .i64 1, .slice (some ⟨h.next, 0, none⟩) 1 1], [.string ⟨#[77, 85, 88]⟩, .int .i64 3, .int .u64 202, .int .i64 5, .slice (some ⟨h1.next, 0, none⟩) 3 3]]) (show 2 ≤ 1000 by decide) (by simp) (by simp [oneC])
  have hb3 : aBuildSlice Try.prog 30 2 [(0, .agg #[.string ⟨#[73, 78, 86]⟩, .int .i64 1, .int .u64 1, .int .i64 1, .slice (some ⟨h.next, 0, none⟩) 1 1]), (1, .agg #[.string ⟨#[77, 85, 88]⟩, .int .i64 3, .int .u64 202, .int .i64 5, .slice (some ⟨h1.next, 0, none⟩) 3 3])] (h1.new (.row [.int .i64 1, .int .i64 1, .int .i64 1] 2 true)) = some (.slice (some ⟨h1.next + 1, 0, none⟩) 2 2, (h1.new (.row [.int .i64 1, .int .i64 1, .int .i64 1] 2 true)).new (.row (muxL 202 h.next h1.next) 47 true)) := hb3
  have c1 := fun (D : Nat) (s : ByteArray) (p t ar : Int) => buildC (s := s) (p := p) (t := t) (a := ar) (dv := .slice (some ⟨D, 0, none⟩) 1 1) rfl
  have c2 := fun (D : Nat) (s : ByteArray) (p t ar : Int) => buildC (s := s) (p := p) (t := t) (a := ar) (dv := .slice (some ⟨D, 0, none⟩) 3 3) rfl
  simp (disch := first | omega | decide) only [push_cast, ↓reduceIte, Nat.reduceLT, Nat.reduceEqDiff, reduceCtorEq, Nat.reduceAdd, hn, hd, ha, c1, c2, hb2, hb3]
  have g3 := g2.new (.row (muxL 202 h.next h1.next) 47 true)
  have s23 := Sub.new g2.wf (.row (muxL 202 h.next h1.next) 47 true)
  exact ⟨g3, h1.next + 1, rfl, by omega, h.next, h1.next, by rw [AH.new_get]; exact if_pos rfl, s23 _ _ hd1', s23 _ _ hd2⟩

theorem buildNx {c i f o : Value} {k : Int} (hi : i = .int .i64 k) (hc : c.cells.toList = [c]) (hf : f.cells.toList = [f]) (ho : o.cells.toList = [o]) : aBuild Try.prog 34 [(0, c), (1, i), (2, f), (4, o)] = some (.agg #[c, i, f, .slice none 0 0, o]) := by
  subst hi
  have h0 : c.cells.size = 1 := by
    have := congrArg List.length hc
    simpa using this
  have h1 : f.cells.size = 1 := by
    have := congrArg List.length hf
    simpa using this
  have h2 : o.cells.size = 1 := by
    have := congrArg List.length ho
    simpa using this
  have hc0 : (Value.int .i64 k).cells = #[.int .i64 k] := rfl
  rw [buildS (zs := zeroC) (pl := [(0, 1), (1, 1), (2, 1), (3, 1), (4, 1)]) infN rfl ⟨_, Try.underlying34, by kernel_rfl⟩]
  simp [fillL, hc0, h0, h1, h2, hc, hf, ho, setL, zeroC]

theorem buildF0 {x : Int} : aBuild Try.prog 62 [(0, .int .i64 x)] = some (.agg #[.int .i64 x, .int .u8 0]) := by
  have h1 : ∀ k x, (Value.int k x).cells = #[.int k x] := fun _ _ => rfl
  rw [buildS (zs := [.int .i64 0, .int .u8 0]) (pl := [(0, 1), (1, 1)]) ⟨(Try.prog.info? 62).get (by kernel_rfl), by kernel_rfl, by kernel_rfl⟩ rfl ⟨_, Try.underlying62, by kernel_rfl⟩]
  simp [fillL, h1, setL]
theorem buildF1 {x y : Int} : aBuild Try.prog 62 [(0, .int .i64 x), (1, .int .u8 y)] = some (.agg #[.int .i64 x, .int .u8 y]) := by
  have h1 : ∀ k x, (Value.int k x).cells = #[.int k x] := fun _ _ => rfl
  rw [buildS (zs := [.int .i64 0, .int .u8 0]) (pl := [(0, 1), (1, 1)]) ⟨(Try.prog.info? 62).get (by kernel_rfl), by kernel_rfl, by kernel_rfl⟩ rfl ⟨_, Try.underlying62, by kernel_rfl⟩]
  simp [fillL, h1, setL]

/-- The example's netlist, laid. -/
structure ExAt (h : AH) (A F O : Nat) : Prop where
  m : MuxAt h 202 A
  f : h.get F = some (.row [.int .i64 0, .int .u8 0, .int .i64 1, .int .u8 1] 62 true)
  o : h.get O = some (.row [.int .i64 2] 3 true)

theorem ExAt.sub {h h' : AH} {A F O : Nat} (x : ExAt h A F O) (s : Sub h h') : ExAt h' A F O := ⟨x.m.sub s, s _ _ x.f, s _ _ x.o⟩

def slv (A n : Nat) : Value := .slice (some ⟨A, 0, none⟩) n n

theorem flop2 {h : AH} {F : Nat} {a b c d : Int} (hF : h.get F = some (.row [.int .i64 a, .int .u8 b, .int .i64 c, .int .u8 d] 62 true)) : RowOf flopL h (slv F 2) [⟨a, b⟩, ⟨c, d⟩] := by
  refine ⟨_, _, _, rfl, rfl, ⟨fun q e => by cases e; rfl, Nat.le_refl _, .inl (by unfold SL; omega)⟩, .inr ⟨F, 0, _, _, rfl, hF, rfl, fun i x hx => ?_⟩⟩
  match i, hx with
  | 0, hx => cases hx; rfl
  | 1, hx => cases hx; rfl
  | i + 2, hx => exact nomatch hx

theorem ExAt.net {h : AH} {A F O : Nat} (x : ExAt h A F O) : NetR h (exC 202) (slv A 2) (slv F 2) (.slice none 0 0) (slv O 1) := ⟨x.m.row, flop2 x.f, rowNil, SlOf.lit x.o rfl rfl⟩

def ExPost (h : AH) (r : Value) (h' : AH) : Prop := Gr h h' ∧ ∃ A F O, r = .agg (netC (exC 202) (slv A 2) (slv F 2) (.slice none 0 0) (slv O 1)).toArray ∧ h.next ≤ A ∧ ExAt h' A F O

theorem exN (h : AH) : ACall Try.prog 18 [] h (ExPost h) := by
  refine ACall.wf ⟨_, Try.func18, rfl, by kernel_rfl⟩ fun hwf => ?_
  refine ACall.of_wp 7 [.cell 0 34] Try.func18 rfl (by kernel_rfl) rfl rfl fun a hn hd ha => ?_
  have g1 := (Gr.refl hwf).new (.row zeroC 34 true)
  have hX : (h.new (.row zeroC 34 true)).get h.next = some (.row zeroC 34 true) := by rw [AH.new_get, if_pos rfl]
  have hXlt : h.next < (h.new (.row zeroC 34 true)).next := Nat.lt_succ_self _
  simp (disch := first | omega | decide) only [push_cast, ↓reduceIte, Nat.reduceLT, Nat.reduceEqDiff, reduceCtorEq, Nat.reduceAdd, hn, hd, ha, alL zrN]
  generalize h.new (.row zeroC 34 true) = h1 at g1 hX hXlt ⊢
  refine ACall.mono ?_ (muxN h1)
  rintro _ h2 ⟨g2, A, rfl, hA, hM⟩
  have hb3 := aBuildL smF (by decide) h2 (xss := [[.int .i64 0, .int .u8 0], [.int .i64 1, .int .u8 1]]) (by decide) (by simp) (by simp [oneC])
  have hb3 : aBuildSlice Try.prog 31 2 [(0, .agg #[.int .i64 0, .int .u8 0]), (1, .agg #[.int .i64 1, .int .u8 1])] h2 = some (.slice (some ⟨h2.next, 0, none⟩) 2 2, h2.new (.row [.int .i64 0, .int .u8 0, .int .i64 1, .int .u8 1] 62 true)) := hb3
  have g3 := (Gr.refl g2.wf).new (.row [.int .i64 0, .int .u8 0, .int .i64 1, .int .u8 1] 62 true)
  have hF : (h2.new (.row [.int .i64 0, .int .u8 0, .int .i64 1, .int .u8 1] 62 true)).get h2.next = some (.row [.int .i64 0, .int .u8 0, .int .i64 1, .int .u8 1] 62 true) := by rw [AH.new_get, if_pos rfl]
  simp (disch := first | omega | decide) only [push_cast, ↓reduceIte, Nat.reduceLT, Nat.reduceEqDiff, reduceCtorEq, Nat.reduceAdd, hn, hd, ha, buildF0, buildF1, hb3]
  generalize h2.new (.row [.int .i64 0, .int .u8 0, .int .i64 1, .int .u8 1] 62 true) = h3 at g3 hF ⊢
  have hb4 := aBuild1 t22 h3 (x := .int .i64 2) rfl rfl
  have g4 := (Gr.refl g3.wf).new (.row [.int .i64 2] 3 true)
  have hO : (h3.new (.row [.int .i64 2] 3 true)).get h3.next = some (.row [.int .i64 2] 3 true) := by rw [AH.new_get, if_pos rfl]
  have hb5 := fun D E F => buildNx (c := .slice (some ⟨D, 0, none⟩) 2 2) (i := .int .i64 1) (f := .slice (some ⟨E, 0, none⟩) 2 2) (o := .slice (some ⟨F, 0, none⟩) 1 1) rfl rfl rfl rfl
  have g14 := (g2.trans g3).trans g4
  have hX4 := g14.sub _ _ hX
  have hst := stA agN hX4 rfl (netC (exC 202) (.slice (some ⟨A, 0, none⟩) 2 2) (.slice (some ⟨h2.next, 0, none⟩) 2 2) (.slice none 0 0) (.slice (some ⟨h3.next, 0, none⟩) 1 1)) rfl rfl
  have hst : aStore Try.prog 34 (.pointer (some ⟨h.next, 0, none⟩)) (.agg #[.slice (some ⟨A, 0, none⟩) 2 2, .int .i64 1, .slice (some ⟨h2.next, 0, none⟩) 2 2, .slice none 0 0, .slice (some ⟨h3.next, 0, none⟩) 1 1]) _ = _ := hst
  have hld : aLoad Try.prog 34 (.pointer (some ⟨h.next, 0, none⟩)) ((h3.new (.row [.int .i64 2] 3 true)).set h.next (.row (netC (exC 202) (.slice (some ⟨A, 0, none⟩) 2 2) (.slice (some ⟨h2.next, 0, none⟩) 2 2) (.slice none 0 0) (.slice (some ⟨h3.next, 0, none⟩) 1 1)) 34 true)) = some (.agg (netC (exC 202) (.slice (some ⟨A, 0, none⟩) 2 2) (.slice (some ⟨h2.next, 0, none⟩) 2 2) (.slice none 0 0) (.slice (some ⟨h3.next, 0, none⟩) 1 1)).toArray) := ldLA (by rw [AH.set_get, if_pos rfl]) rfl agN rfl
  simp (disch := first | omega | decide) only [push_cast, ↓reduceIte, Nat.reduceLT, Nat.reduceEqDiff, reduceCtorEq, Nat.reduceAdd, hn, hd, ha, hb4, hb5, hst, hld]
  have hkeep : ∀ C o e, (h3.new (.row [.int .i64 2] 3 true)).get C = some o → o.ty = some e → e ≠ 34 → ((h3.new (.row [.int .i64 2] 3 true)).set h.next (.row (netC (exC 202) (.slice (some ⟨A, 0, none⟩) 2 2) (.slice (some ⟨h2.next, 0, none⟩) 2 2) (.slice none 0 0) (.slice (some ⟨h3.next, 0, none⟩) 1 1)) 34 true)).get C = some o := fun C o e hC ho hne => by
    rw [AH.set_get, if_neg (ty_ne hC hX4 ho rfl hne)]; exact hC
  obtain ⟨D1, D2, m1, m2, m3⟩ := hM.sub (g3.trans g4).sub
  have hM' : MuxAt _ 202 A := ⟨D1, D2, hkeep _ _ _ m1 rfl (by decide), hkeep _ _ _ m2 rfl (by decide), hkeep _ _ _ m3 rfl (by decide)⟩
  exact ⟨(g1.trans g14).set hwf (Nat.le_refl _) (by have := g14.nx; omega) _, A, h2.next, h3.next, rfl, Nat.le_trans g1.nx hA, hM', hkeep _ _ _ (g4.sub _ _ hF) rfl (by decide), hkeep _ _ _ hO rfl (by decide)⟩


/-- Everything but netlists' blocks stays. -/
structure NtK (h h' : AH) : Prop where
  wf : WFH h'
  nx : h.next ≤ h'.next
  keep : ∀ C o, h.get C = some o → o.ty ≠ some 34 → h'.get C = some o

theorem NtK.refl {h : AH} (w : WFH h) : NtK h h := ⟨w, Nat.le_refl _, fun _ _ x _ => x⟩
theorem NtK.trans {a b c : AH} (x : NtK a b) (y : NtK b c) : NtK a c := ⟨y.wf, Nat.le_trans x.nx y.nx, fun C o h n => y.keep C o (x.keep C o h n) n⟩
theorem NtK.of {h h' : AH} (g : Gr h h') : NtK h h' := ⟨g.wf, g.nx, fun C o x _ => g.sub C o x⟩
theorem NtK.set {h : AH} (w : WFH h) {B : Nat} {p o : AObj} (hB : h.get B = some p) (hp : p.ty = some 34) : NtK h (h.set B o) := ⟨w.set (AH.get_lt w hB) _, Nat.le_refl _, fun C q hC hq => by
  rw [AH.set_get, if_neg]
  · exact hC
  · rintro rfl; rw [hB] at hC; cases hC; exact hq hp⟩

theorem MuxAt.nt {h h' : AH} {t : Int} {A : Nat} (m : MuxAt h t A) (s : NtK h h') : MuxAt h' t A := let ⟨D1, D2, a, b, c⟩ := m; ⟨D1, D2, s.keep _ _ a (show some 47 ≠ some 34 by decide), s.keep _ _ b (show some 2 ≠ some 34 by decide), s.keep _ _ c (show some 2 ≠ some 34 by decide)⟩
theorem ExAt.nt {h h' : AH} {A F O : Nat} (x : ExAt h A F O) (s : NtK h h') : ExAt h' A F O := ⟨x.m.nt s, s.keep _ _ x.f (show some 62 ≠ some 34 by decide), s.keep _ _ x.o (show some 3 ≠ some 34 by decide)⟩

def exrow (A F O : Nat) : List Value := netC (exC 202) (slv A 2) (slv F 2) (.slice none 0 0) (slv O 1)

/-- Five netlists' blocks. -/
def Rw (h : AH) (B : Nat) (rows : Nat → List Value) : Prop := ∀ i, i < 5 → h.get (B + i) = some (.row (rows i) 34 true)

theorem Rw.gr {h h' : AH} {B : Nat} {rows : Nat → List Value} (r : Rw h B rows) (g : Gr h h') : Rw h' B rows := fun i hi => g.sub _ _ (r i hi)
theorem Rw.set {h : AH} {B : Nat} {rows : Nat → List Value} (r : Rw h B rows) {j : Nat} (hj : j < 5) (xs : List Value) : Rw (h.set (B + j) (.row xs 34 true)) B (upd rows j xs) := fun i hi => by
  by_cases e : i = j
  · subst e; rw [AH.set_get, if_pos rfl, upd_same]
  · rw [AH.set_get, if_neg (by omega), upd_ne _ _ e]; exact r i hi

/-- Behind region 3. -/
def S3 (a : AAct) (h : AH) : Prop := a.n = 370 ∧ a.df = [] ∧ WFH h ∧ ∃ (B : Nat) (A F O : Nat → Nat), (a.tm 1 = .pointer (some ⟨B, 0, none⟩) ∧ a.tm 2 = .pointer (some ⟨B + 1, 0, none⟩) ∧ a.tm 3 = .pointer (some ⟨B + 2, 0, none⟩) ∧ a.tm 4 = .pointer (some ⟨B + 3, 0, none⟩) ∧ a.tm 5 = .pointer (some ⟨B + 4, 0, none⟩)) ∧
  Rw h B (fun i => exrow (A i) (F i) (O i)) ∧ ∀ i, i < 5 → ExAt h (A i) (F i) (O i)

theorem five {k : AH} (w : WFH k) (rows : Nat → List Value) (hl : ∀ i, (rows i).length = 5) (ho : ∀ i, (rows i).all oneC = true) :
    ∃ s1 s2 s3 s4 s5, aStore Try.prog 34 (.pointer (some ⟨k.next, 0, none⟩)) (.agg (rows 0).toArray) (((((k.new (.row zeroC 34 true)).new (.row zeroC 34 true)).new (.row zeroC 34 true)).new (.row zeroC 34 true)).new (.row zeroC 34 true)) = some s1 ∧
      aStore Try.prog 34 (.pointer (some ⟨k.next + 1, 0, none⟩)) (.agg (rows 1).toArray) s1 = some s2 ∧ aStore Try.prog 34 (.pointer (some ⟨k.next + 2, 0, none⟩)) (.agg (rows 2).toArray) s2 = some s3 ∧
      aStore Try.prog 34 (.pointer (some ⟨k.next + 3, 0, none⟩)) (.agg (rows 3).toArray) s3 = some s4 ∧ aStore Try.prog 34 (.pointer (some ⟨k.next + 4, 0, none⟩)) (.agg (rows 4).toArray) s4 = some s5 ∧ Gr k s5 ∧ Rw s5 k.next rows := by
  have g5 := (((((Gr.refl w).new (.row zeroC 34 true)).new (.row zeroC 34 true)).new (.row zeroC 34 true)).new (.row zeroC 34 true)).new (.row zeroC 34 true)
  have r0 : Rw (((((k.new (.row zeroC 34 true)).new (.row zeroC 34 true)).new (.row zeroC 34 true)).new (.row zeroC 34 true)).new (.row zeroC 34 true)) k.next (fun _ => zeroC) := fun i hi => by
    simp only [AH.new_get, AH.new_next]
    have : i = 0 ∨ i = 1 ∨ i = 2 ∨ i = 3 ∨ i = 4 := by omega
    rcases this with rfl | rfl | rfl | rfl | rfl <;> simp
  generalize ((((k.new (.row zeroC 34 true)).new (.row zeroC 34 true)).new (.row zeroC 34 true)).new (.row zeroC 34 true)).new (.row zeroC 34 true) = k0 at g5 r0 ⊢
  have step : ∀ {h : AH} {rs : Nat → List Value}, Gr k h → Rw h k.next rs → ∀ j, j < 5 → (rs j).length = 5 → ∃ h', aStore Try.prog 34 (.pointer (some ⟨k.next + j, 0, none⟩)) (.agg (rows j).toArray) h = some h' ∧ Gr k h' ∧ Rw h' k.next (upd rs j (rows j)) := fun {h rs} g r j hj hl' =>
    ⟨_, stA agN (r j hj) hl' (rows j) (hl j) (ho j), g.set w (Nat.le_add_right _ _) (AH.get_lt g.wf (r j hj)) _, r.set hj _⟩
  obtain ⟨s1, e1, g1, r1⟩ := step g5 r0 0 (by omega) rfl
  obtain ⟨s2, e2, g2, r2⟩ := step g1 r1 1 (by omega) rfl
  obtain ⟨s3, e3, g3, r3⟩ := step g2 r2 2 (by omega) rfl
  obtain ⟨s4, e4, g4, r4⟩ := step g3 r3 3 (by omega) rfl
  obtain ⟨s5, e5, g5, r5⟩ := step g4 r4 4 (by omega) rfl
  refine ⟨s1, s2, s3, s4, s5, e1, e2, e3, e4, e5, g5, fun i hi => ?_⟩
  have := r5 i hi
  have hx : i = 0 ∨ i = 1 ∨ i = 2 ∨ i = 3 ∨ i = 4 := by omega
  rcases hx with rfl | rfl | rfl | rfl | rfl <;> exact this

theorem exR3 {a : AAct} {h : AH} {N : AAct → AH → Prop} (hn : a.n = 370) (hd : a.df = []) (w : WFH h) (hN : ∀ a' h', S3 a' h' → N a' h') :
    opsM Try.prog (opsOf Try.f6 3) N (opsOf Try.f6 3).toList a h := by
  refine opsM.at (rfl : #[_, _, _, _, _, _, _, _, _, _, _, _, _, _, _] = _) (rfl : [_, _, _, _, _, _, _, _, _, _, _, _, _, _, _] = _) ?_
  simp (disch := first | omega | decide) only [push_cast, ↓reduceIte, Nat.reduceLT, Nat.reduceEqDiff, reduceCtorEq, Nat.reduceAdd, hn, hd]
  refine ACall.mono ?_ (exN h)
  rintro _ h1 ⟨g1, A1, F1, O1, rfl, -, x1⟩
  simp (disch := first | omega | decide) only [push_cast, ↓reduceIte, Nat.reduceLT, Nat.reduceEqDiff, reduceCtorEq, Nat.reduceAdd, hn, hd]
  refine ACall.mono ?_ (exN h1)
  rintro _ h2 ⟨g2, A2, F2, O2, rfl, -, x2⟩
  simp (disch := first | omega | decide) only [push_cast, ↓reduceIte, Nat.reduceLT, Nat.reduceEqDiff, reduceCtorEq, Nat.reduceAdd, hn, hd]
  refine ACall.mono ?_ (exN h2)
  rintro _ h3 ⟨g3, A3, F3, O3, rfl, -, x3⟩
  simp (disch := first | omega | decide) only [push_cast, ↓reduceIte, Nat.reduceLT, Nat.reduceEqDiff, reduceCtorEq, Nat.reduceAdd, hn, hd]
  refine ACall.mono ?_ (exN h3)
  rintro _ h4 ⟨g4, A4, F4, O4, rfl, -, x4⟩
  simp (disch := first | omega | decide) only [push_cast, ↓reduceIte, Nat.reduceLT, Nat.reduceEqDiff, reduceCtorEq, Nat.reduceAdd, hn, hd]
  refine ACall.mono ?_ (exN h4)
  rintro _ h5 ⟨g5, A5, F5, O5, rfl, -, x5⟩
  obtain ⟨s1, s2, s3, s4, s5, e1, e2, e3, e4, e5, g, r⟩ := five g5.wf (fun i => exrow (([A1, A2, A3, A4, A5] : List Nat).getD i 0) (([F1, F2, F3, F4, F5] : List Nat).getD i 0) (([O1, O2, O3, O4, O5] : List Nat).getD i 0)) (fun _ => rfl) (fun _ => rfl)
  have e1 : aStore Try.prog 34 _ (.agg (netC (exC 202) (slv A1 2) (slv F1 2) (.slice none 0 0) (slv O1 1)).toArray) _ = _ := e1
  have e2 : aStore Try.prog 34 _ (.agg (netC (exC 202) (slv A2 2) (slv F2 2) (.slice none 0 0) (slv O2 1)).toArray) _ = _ := e2
  have e3 : aStore Try.prog 34 _ (.agg (netC (exC 202) (slv A3 2) (slv F3 2) (.slice none 0 0) (slv O3 1)).toArray) _ = _ := e3
  have e4 : aStore Try.prog 34 _ (.agg (netC (exC 202) (slv A4 2) (slv F4 2) (.slice none 0 0) (slv O4 1)).toArray) _ = _ := e4
  have e5 : aStore Try.prog 34 _ (.agg (netC (exC 202) (slv A5 2) (slv F5 2) (.slice none 0 0) (slv O5 1)).toArray) _ = _ := e5
  simp (disch := first | omega | decide) only [push_cast, ↓reduceIte, Nat.reduceLT, Nat.reduceEqDiff, reduceCtorEq, Nat.reduceAdd, hn, hd, alL zrN, AH.new_next, e1, e2, e3, e4, e5]
  refine hN _ _ ⟨by simp (disch := first | omega | decide) only [push_cast, ↓reduceIte, Nat.reduceLT, Nat.reduceEqDiff, reduceCtorEq, Nat.reduceAdd, hn], by simp (disch := first | omega | decide) only [push_cast, ↓reduceIte, Nat.reduceLT, Nat.reduceEqDiff, reduceCtorEq, Nat.reduceAdd, hd], g.wf, h5.next, _, _, _, ⟨by simp (disch := first | omega | decide) only [push_cast, ↓reduceIte, Nat.reduceLT, Nat.reduceEqDiff, reduceCtorEq, Nat.reduceAdd], by simp (disch := first | omega | decide) only [push_cast, ↓reduceIte, Nat.reduceLT, Nat.reduceEqDiff, reduceCtorEq, Nat.reduceAdd], by simp (disch := first | omega | decide) only [push_cast, ↓reduceIte, Nat.reduceLT, Nat.reduceEqDiff, reduceCtorEq, Nat.reduceAdd], by simp (disch := first | omega | decide) only [push_cast, ↓reduceIte, Nat.reduceLT, Nat.reduceEqDiff, reduceCtorEq, Nat.reduceAdd], by simp (disch := first | omega | decide) only [push_cast, ↓reduceIte, Nat.reduceLT, Nat.reduceEqDiff, reduceCtorEq, Nat.reduceAdd]⟩, r, fun i hi => ?_⟩
  have hx : i = 0 ∨ i = 1 ∨ i = 2 ∨ i = 3 ∨ i = 4 := by omega
  rcases hx with rfl | rfl | rfl | rfl | rfl
  · exact x1.sub (g2.sub.trans (g3.sub.trans (g4.sub.trans (g5.sub.trans g.sub))))
  · exact x2.sub (g3.sub.trans (g4.sub.trans (g5.sub.trans g.sub)))
  · exact x3.sub (g4.sub.trans (g5.sub.trans g.sub))
  · exact x4.sub (g5.sub.trans g.sub)
  · exact x5.sub g.sub

attribute [local push_cast] treeM_nil treeM_step treeM_two okX_true wantX_true wantX_false stepX skipX

def rows4 (A F O : Nat → Nat) (A6 D9 : Nat) : Nat → List Value
  | 0 => netC badC (slv (A 0) 2) (slv (F 0) 2) (.slice none 0 0) (slv D9 1)
  | 1 => netC bareC (.slice (some ⟨A6, 0, none⟩) 1 2) (slv (F 1) 2) (.slice none 0 0) (slv (O 1) 1)
  | 2 => netC wideC (slv (A 2) 2) (slv (F 2) 2) (.slice none 0 0) (slv (O 2) 1)
  | i => exrow (A i) (F i) (O i)

theorem slice1 (A : Nat) : aSlice Try.prog 30 (.slice (some ⟨A, 0, none⟩) 2 2) none (some (.int .i64 1)) = some (.slice (some ⟨A, 0, none⟩) 1 2) := by
  obtain ⟨ie, hi, _⟩ := infC
  simp [aSlice, Try.underlying30, bnd, hi, SL]

theorem stores4 {k : AH} (w : WFH k) {B A6 D9 : Nat} {A F O : Nat → Nat} (r : Rw k B (fun i => exrow (A i) (F i) (O i))) :
    ∃ k1 k2 k3, aStore Try.prog 22 (.pointer (some ⟨B, 4, none⟩)) (slv D9 1) k = some k1 ∧ aStore Try.prog 30 (.pointer (some ⟨B + 1, 0, none⟩)) (.slice (some ⟨A6, 0, none⟩) 1 2) k1 = some k2 ∧
      aStore Try.prog 3 (.pointer (some ⟨B + 2, 1, none⟩)) (.int .i64 63) k2 = some k3 ∧ NtK k k3 ∧ Rw k3 B (rows4 A F O A6 D9) := by
  have h0 := r 0 (by omega)
  have e1 := stC szII h0 4 (slv D9 1) (by simp [exrow, netC]) rfl rfl
  have n1 := NtK.set (o := .row ((exrow (A 0) (F 0) (O 0)).set 4 (slv D9 1)) 34 true) w h0 rfl
  have r1 := r.set (j := 0) (by omega) ((exrow (A 0) (F 0) (O 0)).set 4 (slv D9 1))
  have h1 := r1 1 (by omega)
  have e2 := stC szC h1 0 (.slice (some ⟨A6, 0, none⟩) 1 2) (by simp [upd, exrow, netC]) rfl rfl
  have n2 := NtK.set (o := .row ((exrow (A 1) (F 1) (O 1)).set 0 (.slice (some ⟨A6, 0, none⟩) 1 2)) 34 true) n1.wf h1 rfl
  have r2 := r1.set (j := 1) (by omega) ((exrow (A 1) (F 1) (O 1)).set 0 (.slice (some ⟨A6, 0, none⟩) 1 2))
  have h2 := r2 2 (by omega)
  have e3 := stC sz3 h2 1 (.int .i64 63) (by simp [upd, exrow, netC]) rfl rfl
  have n3 := NtK.set (o := .row ((exrow (A 2) (F 2) (O 2)).set 1 (.int .i64 63)) 34 true) n2.wf h2 rfl
  have r3 := r2.set (j := 2) (by omega) ((exrow (A 2) (F 2) (O 2)).set 1 (.int .i64 63))
  refine ⟨_, _, _, e1, e2, e3, (n1.trans n2).trans n3, fun i hi => ?_⟩
  have := r3 i hi
  have hx : i = 0 ∨ i = 1 ∨ i = 2 ∨ i = 3 ∨ i = 4 := by omega
  rcases hx with rfl | rfl | rfl | rfl | rfl <;> exact this

def S4 (a : AAct) (h : AH) : Prop := a.n = 370 ∧ a.df = [] ∧ WFH h ∧ ∃ (B A6 D9 : Nat) (A F O : Nat → Nat), (a.tm 1 = .pointer (some ⟨B, 0, none⟩) ∧ a.tm 2 = .pointer (some ⟨B + 1, 0, none⟩) ∧ a.tm 3 = .pointer (some ⟨B + 2, 0, none⟩) ∧ a.tm 4 = .pointer (some ⟨B + 3, 0, none⟩) ∧ a.tm 5 = .pointer (some ⟨B + 4, 0, none⟩)) ∧
  Rw h B (rows4 A F O A6 D9) ∧ (∀ i, i < 5 → ExAt h (A i) (F i) (O i)) ∧ MuxAt h 202 A6 ∧ h.get D9 = some (.row [.int .i64 9] 3 true)

theorem exR4 {a : AAct} {h : AH} (s : S3 a h) : AW Try.prog none (.region 4 (opsOf Try.f6 4) true) (fun e a' h' => e = .normal ∧ S4 a' h') a h := by
  obtain ⟨hn, hd, w, B, A, F, O, ⟨t1, t2, t3, t4, t5⟩, r, ex⟩ := s
  refine AW.at (by rfl : _ = Code.region 4 #[_, _, _, _, _, _, _, _, _] true) ?_
  refine AW.drawX (.two 0 (.take 3 [8, 7, 6, 5, 4] (.only 1 (.take 2 [8, 7, 6, 5] (.only 4 (.take 5 [8, 7, 6] (.only 6 (.take 7 [8] (.only 8 .done)))))))) 1 (.take 2 [8, 7, 6, 5] (.only 0 (.take 3 [8, 7, 6, 5, 4] (.only 4 (.take 5 [8, 7, 6] (.only 6 (.take 7 [8] (.only 8 .done))))))))) (.two 0 (.step 0 3 (.step 2 1 (.step 0 2 (.step 2 4 (.step 0 5 (.step 2 6 (.step 0 7 (.step 2 8 .nil)))))))) 1 (.step 0 2 (.step 2 0 (.step 0 3 (.step 2 4 (.step 0 5 (.step 2 6 (.step 0 7 (.step 2 8 .nil))))))))) mixed (by kernel_rfl) rfl ?_
  have hb := aBuild1 t22 h (x := .int .i64 9) rfl rfl
  have g1 := (Gr.refl w).new (.row [.int .i64 9] 3 true)
  have hD : (h.new (.row [.int .i64 9] 3 true)).get h.next = some (.row [.int .i64 9] 3 true) := by rw [AH.new_get, if_pos rfl]
  simp (disch := first | omega | decide) only [push_cast, ↓reduceIte, Nat.reduceLT, Nat.reduceEqDiff, reduceCtorEq, Nat.reduceAdd, hn, hd, t1, t2, t3, t4, t5, faL foN0, faL foN1, faL foN2, faL foN3, faL foN4, hb]
  refine ⟨?_, ?_⟩
  · generalize h.new (.row [.int .i64 9] 3 true) = h1 at g1 hD ⊢
    refine ACall.mono ?_ (muxN h1)
    rintro _ k ⟨g2, A6, rfl, -, m⟩
    have g12 := g1.trans g2
    obtain ⟨k1, k2, k3, e1, e2, e3, nk, r3⟩ := stores4 (A6 := A6) (D9 := h.next) g2.wf (r.gr g12)
    have e1 : aStore Try.prog 22 _ (.slice (some ⟨h.next, 0, none⟩) 1 1) _ = _ := e1
    simp (disch := first | omega | decide) only [push_cast, ↓reduceIte, Nat.reduceLT, Nat.reduceEqDiff, reduceCtorEq, Nat.reduceAdd, hn, hd, t1, t2, t3, t4, t5, faL foN0, faL foN1, faL foN2, faL foN3, faL foN4, slice1, e1, e2, e3]
    exact ⟨by simp (disch := first | omega | decide) only [push_cast, ↓reduceIte, Nat.reduceLT, Nat.reduceEqDiff, reduceCtorEq, Nat.reduceAdd, hn], by simp (disch := first | omega | decide) only [push_cast, ↓reduceIte, Nat.reduceLT, Nat.reduceEqDiff, reduceCtorEq, Nat.reduceAdd, hd], nk.wf, B, A6, h.next, A, F, O, ⟨by simp (disch := first | omega | decide) only [push_cast, ↓reduceIte, Nat.reduceLT, Nat.reduceEqDiff, reduceCtorEq, Nat.reduceAdd, t1], by simp (disch := first | omega | decide) only [push_cast, ↓reduceIte, Nat.reduceLT, Nat.reduceEqDiff, reduceCtorEq, Nat.reduceAdd, t2], by simp (disch := first | omega | decide) only [push_cast, ↓reduceIte, Nat.reduceLT, Nat.reduceEqDiff, reduceCtorEq, Nat.reduceAdd, t3], by simp (disch := first | omega | decide) only [push_cast, ↓reduceIte, Nat.reduceLT, Nat.reduceEqDiff, reduceCtorEq, Nat.reduceAdd, t4], by simp (disch := first | omega | decide) only [push_cast, ↓reduceIte, Nat.reduceLT, Nat.reduceEqDiff, reduceCtorEq, Nat.reduceAdd, t5]⟩, r3, fun i hi => ((ex i hi).sub g12.sub).nt nk, m.nt nk, nk.keep _ _ (g2.sub _ _ hD) (by decide)⟩
  · refine ACall.mono ?_ (muxN h)
    rintro _ h1 ⟨g2, A6, rfl, -, m⟩
    have hb1 := aBuild1 t22 h1 (x := .int .i64 9) rfl rfl
    have g3 := (Gr.refl g2.wf).new (.row [.int .i64 9] 3 true)
    have hD1 : (h1.new (.row [.int .i64 9] 3 true)).get h1.next = some (.row [.int .i64 9] 3 true) := by rw [AH.new_get, if_pos rfl]
    have g12 := g2.trans g3
    obtain ⟨k1, k2, k3, e1, e2, e3, nk, r3⟩ := stores4 (A6 := A6) (D9 := h1.next) g12.wf (r.gr g12)
    have e1 : aStore Try.prog 22 _ (.slice (some ⟨h1.next, 0, none⟩) 1 1) _ = _ := e1
    simp (disch := first | omega | decide) only [push_cast, ↓reduceIte, Nat.reduceLT, Nat.reduceEqDiff, reduceCtorEq, Nat.reduceAdd, hn, hd, t1, t2, t3, t4, t5, faL foN0, faL foN1, faL foN2, faL foN3, faL foN4, slice1, hb1, e1, e2, e3]
    exact ⟨by simp (disch := first | omega | decide) only [push_cast, ↓reduceIte, Nat.reduceLT, Nat.reduceEqDiff, reduceCtorEq, Nat.reduceAdd, hn], by simp (disch := first | omega | decide) only [push_cast, ↓reduceIte, Nat.reduceLT, Nat.reduceEqDiff, reduceCtorEq, Nat.reduceAdd, hd], nk.wf, B, A6, h1.next, A, F, O, ⟨by simp (disch := first | omega | decide) only [push_cast, ↓reduceIte, Nat.reduceLT, Nat.reduceEqDiff, reduceCtorEq, Nat.reduceAdd, t1], by simp (disch := first | omega | decide) only [push_cast, ↓reduceIte, Nat.reduceLT, Nat.reduceEqDiff, reduceCtorEq, Nat.reduceAdd, t2], by simp (disch := first | omega | decide) only [push_cast, ↓reduceIte, Nat.reduceLT, Nat.reduceEqDiff, reduceCtorEq, Nat.reduceAdd, t3], by simp (disch := first | omega | decide) only [push_cast, ↓reduceIte, Nat.reduceLT, Nat.reduceEqDiff, reduceCtorEq, Nat.reduceAdd, t4], by simp (disch := first | omega | decide) only [push_cast, ↓reduceIte, Nat.reduceLT, Nat.reduceEqDiff, reduceCtorEq, Nat.reduceAdd, t5]⟩, r3, fun i hi => ((ex i hi).sub g12.sub).nt nk, (m.sub g3.sub).nt nk, nk.keep _ _ hD1 (by decide)⟩

/-! ### Regions 5 and 6 -/

def rows6 (A F O : Nat → Nat) (A6 D9 DO DI : Nat) : Nat → List Value
  | 3 => netC outsC (slv (A 3) 2) (slv (F 3) 2) (.slice none 0 0) (slv DO 64)
  | 4 => netC instsC (slv (A 4) 2) (slv (F 4) 2) (slv DI 4095) (slv (O 4) 1)
  | i => rows4 A F O A6 D9 i

def instZ : List Value := zeros [.int .i64 0, .slice none 0 0] 4095

theorem makeI (h : AH) : aMakeSlice Try.prog 32 (.int .i64 4095) (.int .i64 4095) h = some (slv h.next 4095, h.new (.row instZ 43 true)) := by
  obtain ⟨i, z, hi, h1, hb, hz, hc, hzk, hp⟩ := smN.info
  have hz2 : ∃ i, Try.prog.info? 43 = some i ∧ i.zero = some (.agg #[.int .i64 0, .slice none 0 0]) := ⟨(Try.prog.info? 43).get (by kernel_rfl), by kernel_rfl, by kernel_rfl⟩
  obtain ⟨i2, hi2, hz2⟩ := hz2
  rw [hi] at hi2; cases hi2
  rw [hz] at hz2; cases hz2
  have hcz : (Value.agg #[.int .i64 0, .slice none 0 0]).cells = #[.int .i64 0, .slice none 0 0] := rfl
  simp only [aMakeSlice, smN.sl, hi, hz, h1, hb, hcz, hp]
  simp [oneC, slv, instZ]

def S6 (a : AAct) (h : AH) : Prop := a.n = 370 ∧ a.df = [] ∧ WFH h ∧ ∃ (B A6 D9 DO DI : Nat) (A F O : Nat → Nat), (a.tm 1 = .pointer (some ⟨B, 0, none⟩) ∧ a.tm 2 = .pointer (some ⟨B + 1, 0, none⟩) ∧ a.tm 3 = .pointer (some ⟨B + 2, 0, none⟩) ∧ a.tm 4 = .pointer (some ⟨B + 3, 0, none⟩) ∧ a.tm 5 = .pointer (some ⟨B + 4, 0, none⟩)) ∧
  Rw h B (rows6 A F O A6 D9 DO DI) ∧ (∀ i, i < 5 → ExAt h (A i) (F i) (O i)) ∧ MuxAt h 202 A6 ∧ h.get D9 = some (.row [.int .i64 9] 3 true) ∧ h.get DO = some (.row (List.replicate 64 (.int .i64 0)) 3 true) ∧ h.get DI = some (.row instZ 43 true)

theorem exR5 {a : AAct} {h : AH} {N : AAct → AH → Prop} (s : S4 a h) (hN : ∀ a' h', a'.n = 370 → a'.df = [] → (∀ t, t < 6 → a'.tm t = a.tm t) → (∃ DO, NtK h h' ∧ h'.get DO = some (.row (List.replicate 64 (.int .i64 0)) 3 true) ∧ ∃ (B A6 D9 : Nat) (A F O : Nat → Nat), (a.tm 1 = .pointer (some ⟨B, 0, none⟩) ∧ a.tm 2 = .pointer (some ⟨B + 1, 0, none⟩) ∧ a.tm 3 = .pointer (some ⟨B + 2, 0, none⟩) ∧ a.tm 4 = .pointer (some ⟨B + 3, 0, none⟩) ∧ a.tm 5 = .pointer (some ⟨B + 4, 0, none⟩)) ∧
      Rw h' B (upd (rows4 A F O A6 D9) 3 (netC outsC (slv (A 3) 2) (slv (F 3) 2) (.slice none 0 0) (slv DO 64))) ∧ (∀ i, i < 5 → ExAt h' (A i) (F i) (O i)) ∧ MuxAt h' 202 A6 ∧ h'.get D9 = some (.row [.int .i64 9] 3 true)) → N a' h') :
    opsM Try.prog (opsOf Try.f6 5) N (opsOf Try.f6 5).toList a h := by
  obtain ⟨hn, hd, w, B, A6, D9, A, F, O, ⟨t1, t2, t3, t4, t5⟩, r, ex, m, hD⟩ := s
  refine opsM.at (rfl : #[_, _, _] = _) (rfl : [_, _, _] = _) ?_
  have hm := aMakeSlice_at t22 h 64 (by decide) (by decide)
  have hm : aMakeSlice Try.prog 22 (.int .i64 64) (.int .i64 64) h = some (slv h.next 64, h.new (.row (List.replicate 64 (.int .i64 0)) 3 true)) := hm
  have g := (Gr.refl w).new (.row (List.replicate 64 (.int .i64 0)) 3 true)
  have hO : (h.new (.row (List.replicate 64 (.int .i64 0)) 3 true)).get h.next = some (.row (List.replicate 64 (.int .i64 0)) 3 true) := by rw [AH.new_get, if_pos rfl]
  have r1 := r.gr g
  have h3 := r1 3 (by omega)
  have e3 := stC szII h3 4 (slv h.next 64) (by simp [rows4, exrow, netC]) rfl rfl
  have n3 := NtK.set (o := .row ((exrow (A 3) (F 3) (O 3)).set 4 (slv h.next 64)) 34 true) g.wf h3 rfl
  have r3 := r1.set (j := 3) (by omega) ((exrow (A 3) (F 3) (O 3)).set 4 (slv h.next 64))
  have nk := (NtK.of g).trans n3
  simp (disch := first | omega | decide) only [push_cast, ↓reduceIte, Nat.reduceLT, Nat.reduceEqDiff, reduceCtorEq, Nat.reduceAdd, hn, hd, t4, hm, faL foN0, faL foN1, faL foN2, faL foN3, faL foN4, e3]
  refine hN _ _ (by simp (disch := first | omega | decide) only [push_cast, ↓reduceIte, Nat.reduceLT, Nat.reduceEqDiff, reduceCtorEq, Nat.reduceAdd, hn]) (by simp (disch := first | omega | decide) only [push_cast, ↓reduceIte, Nat.reduceLT, Nat.reduceEqDiff, reduceCtorEq, Nat.reduceAdd, hd]) (fun t ht => by simp (disch := omega) only [put_lt, put_none]) ⟨h.next, nk, n3.keep _ _ hO (by decide), B, A6, D9, A, F, O, ⟨t1, t2, t3, t4, t5⟩, r3, fun i hi => (ex i hi).nt nk, m.nt nk, nk.keep _ _ hD (by decide)⟩


theorem exR6 {a : AAct} {h : AH} {N : AAct → AH → Prop} {DO : Nat} (hn : a.n = 370) (hd : a.df = []) (w : WFH h) (hO : h.get DO = some (.row (List.replicate 64 (.int .i64 0)) 3 true)) (s : ∃ (B A6 D9 : Nat) (A F O : Nat → Nat), (a.tm 1 = .pointer (some ⟨B, 0, none⟩) ∧ a.tm 2 = .pointer (some ⟨B + 1, 0, none⟩) ∧ a.tm 3 = .pointer (some ⟨B + 2, 0, none⟩) ∧ a.tm 4 = .pointer (some ⟨B + 3, 0, none⟩) ∧ a.tm 5 = .pointer (some ⟨B + 4, 0, none⟩)) ∧
      Rw h B (upd (rows4 A F O A6 D9) 3 (netC outsC (slv (A 3) 2) (slv (F 3) 2) (.slice none 0 0) (slv DO 64))) ∧ (∀ i, i < 5 → ExAt h (A i) (F i) (O i)) ∧ MuxAt h 202 A6 ∧ h.get D9 = some (.row [.int .i64 9] 3 true)) (hN : ∀ a' h', S6 a' h' → N a' h') :
    opsM Try.prog (opsOf Try.f6 6) N (opsOf Try.f6 6).toList a h := by
  obtain ⟨B, A6, D9, A, F, O, ⟨t1, t2, t3, t4, t5⟩, r, ex, m, hD⟩ := s
  refine opsM.at (rfl : #[_, _, _] = _) (rfl : [_, _, _] = _) ?_
  have hm := makeI h
  have g := (Gr.refl w).new (.row instZ 43 true)
  have hI : (h.new (.row instZ 43 true)).get h.next = some (.row instZ 43 true) := by rw [AH.new_get, if_pos rfl]
  generalize h.new (.row instZ 43 true) = h1 at hm g hI
  generalize h.next = DI at hm hI
  have r1 := r.gr g
  have h4 := r1 4 (by omega)
  have e4 := stC szN h4 3 (slv DI 4095) (by simp [upd, rows4, exrow, netC]) rfl rfl
  have n4 := NtK.set (o := .row ((exrow (A 4) (F 4) (O 4)).set 3 (slv DI 4095)) 34 true) g.wf h4 rfl
  have r4 := r1.set (j := 4) (by omega) ((exrow (A 4) (F 4) (O 4)).set 3 (slv DI 4095))
  have nk := (NtK.of g).trans n4
  simp (disch := first | omega | decide) only [push_cast, ↓reduceIte, Nat.reduceLT, Nat.reduceEqDiff, reduceCtorEq, Nat.reduceAdd, hn, hd, t5, hm, faL foN0, faL foN1, faL foN2, faL foN3, faL foN4, e4]
  refine hN _ _ ⟨by simp (disch := first | omega | decide) only [push_cast, ↓reduceIte, Nat.reduceLT, Nat.reduceEqDiff, reduceCtorEq, Nat.reduceAdd, hn], by simp (disch := first | omega | decide) only [push_cast, ↓reduceIte, Nat.reduceLT, Nat.reduceEqDiff, reduceCtorEq, Nat.reduceAdd, hd], nk.wf, B, A6, D9, DO, DI, A, F, O, ⟨by simp (disch := first | omega | decide) only [push_cast, ↓reduceIte, Nat.reduceLT, Nat.reduceEqDiff, reduceCtorEq, Nat.reduceAdd, t1], by simp (disch := first | omega | decide) only [push_cast, ↓reduceIte, Nat.reduceLT, Nat.reduceEqDiff, reduceCtorEq, Nat.reduceAdd, t2], by simp (disch := first | omega | decide) only [push_cast, ↓reduceIte, Nat.reduceLT, Nat.reduceEqDiff, reduceCtorEq, Nat.reduceAdd, t3], by simp (disch := first | omega | decide) only [push_cast, ↓reduceIte, Nat.reduceLT, Nat.reduceEqDiff, reduceCtorEq, Nat.reduceAdd, t4], by simp (disch := first | omega | decide) only [push_cast, ↓reduceIte, Nat.reduceLT, Nat.reduceEqDiff, reduceCtorEq, Nat.reduceAdd, t5]⟩, fun i hi => ?_, fun i hi => (ex i hi).nt nk, m.nt nk, nk.keep _ _ hD (by decide), nk.keep _ _ hO (by decide), n4.keep _ _ hI (by decide)⟩
  have := r4 i hi
  have hx : i = 0 ∨ i = 1 ∨ i = 2 ∨ i = 3 ∨ i = 4 := by omega
  rcases hx with rfl | rfl | rfl | rfl | rfl <;> exact this

theorem instZ_len : instZ.length = 8190 := by simp [instZ, zeros]
theorem instZ_at {j : Nat} (hj : j < 4095) : (instZ.drop (j * 2)).take 2 = [.int .i64 0, .slice none 0 0] := by
  have h1 : instZ[j * 2]? = some (.int .i64 0) := by
    have e : j * 2 % 2 = 0 := by omega
    simp only [instZ, zeros, List.getElem?_map, List.length_cons, List.length_nil]
    rw [List.getElem?_range (by omega)]
    simp
  have h2 : instZ[j * 2 + 1]? = some (.slice none 0 0) := by
    have e : (j * 2 + 1) % 2 = 1 := by omega
    simp only [instZ, zeros, List.getElem?_map, List.length_cons, List.length_nil]
    rw [List.getElem?_range (by omega)]
    simp [e]
  exact take2 h1 h2

/-- The row of instances, laid up to i. -/
def InsUp (i : Nat) (h : AH) (zs : List Value) : Prop := zs.length = 8190 ∧ ∀ j, j < 4095 → ∃ pv, (zs.drop (j * 2)).take 2 = [.int .i64 0, pv] ∧ (j < i → ∃ D, pv = slv D 1 ∧ h.get D = some (.row [.int .i64 0] 3 true))

theorem idxI2 (A : Nat) {i : Nat} (hi : i < 4095) : aIndexAddr Try.prog 32 (slv A 4095) (.int .i64 i) = some (.pointer (some ⟨A, i * 2, none⟩)) := by
  obtain ⟨ie, hie, hs⟩ := infI
  have hs : ie.size = 2 := hs
  simp only [aIndexAddr, slv, Try.underlying32, hie]
  rw [if_pos ⟨by omega, by omega⟩, hs]; simp

/-- The row of many instances, laid: behind the loop. -/
def S7 (a : AAct) (h : AH) : Prop := a.n = 370 ∧ a.df = [] ∧ WFH h ∧ ∃ (B A6 D9 DO DI : Nat) (A F O : Nat → Nat) (zs : List Value), (a.tm 1 = .pointer (some ⟨B, 0, none⟩) ∧ a.tm 2 = .pointer (some ⟨B + 1, 0, none⟩) ∧ a.tm 3 = .pointer (some ⟨B + 2, 0, none⟩) ∧ a.tm 4 = .pointer (some ⟨B + 3, 0, none⟩) ∧ a.tm 5 = .pointer (some ⟨B + 4, 0, none⟩)) ∧
  Rw h B (rows6 A F O A6 D9 DO DI) ∧ (∀ i, i < 5 → ExAt h (A i) (F i) (O i)) ∧ MuxAt h 202 A6 ∧ h.get D9 = some (.row [.int .i64 9] 3 true) ∧ h.get DO = some (.row (List.replicate 64 (.int .i64 0)) 3 true) ∧ h.get DI = some (.row zs 43 true) ∧ InsUp 4095 h zs

theorem lenSl {t e : TypeId} (ht : Try.prog.underlying t = some (.slice e)) (A n : Nat) (h : AH) : aLen Try.prog t (slv A n) h = some (.int .i64 n) := lenS ht _ _ _ _

theorem exL0 {a : AAct} {h : AH} (s : S6 a h) (t6 : a.tm 6 = .int .i64 0) : AW Try.prog none (bodyBlk Try.f6 0) (fun e a' h' => e = .exit 0 ∧ S7 a' h') a h := by
  obtain ⟨hn, hd, w, B, A6, D9, DO, DI, A, F, O, ⟨t1, t2, t3, t4, t5⟩, r, ex, m, hD, hO, hI⟩ := s
  refine AW.at (rfl : bodyBlk Try.f6 0 = .loop _) ?_
  refine AW.loopN 66 [6] (fun q a' h' => ∃ (i : Nat) (zs : List Value), a'.tm 6 = .int .i64 i ∧ i + q = 4095 ∧ Ex DI h h' ∧ h'.get DI = some (.row zs 43 true) ∧ InsUp i h' zs) 4095 ?_ ?_
  · exact ⟨0, instZ, by rw [t6]; rfl, by omega, Ex.refl w, hI, instZ_len, fun j hj => ⟨_, instZ_at hj, fun h => by omega⟩⟩
  rintro a1 q a' k hk kn kd kt ⟨i, zs, h6, hiq, x, hZ, hL, hU⟩
  have r4 := r 4 (by omega)
  have hne : ∀ C o e, h.get C = some o → o.ty = some e → e ≠ 43 → k.get C = some o := fun C o e hC ho hne => x.keep _ _ hC (ty_ne hC hI ho rfl hne)
  have hM : NetAt k (B + 4) instsC (slv (A 4) 2) (slv (F 4) 2) (slv DI 4095) (slv (O 4) 1) := ⟨_, hne _ _ _ r4 rfl (by decide), rfl⟩
  simp (disch := first | omega | decide) only [push_cast, ↓reduceIte, Nat.reduceLT, Nat.reduceEqDiff, reduceCtorEq, Nat.reduceAdd, kn, kd, kt, hn, hd, t5, h6, faL foN0, faL foN1, faL foN2, faL foN3, faL foN4, hM.l0, hM.l1, hM.l2, hM.l3, hM.l4, hM.la, lenSl Try.underlying32]
  refine condV_of (fun hlt => ?_) (fun hge => ?_)
  · have hi : i < 4095 := by have := hlt; simp at this; omega
    have hb := aBuild1 t22 k (x := .int .i64 0) rfl rfl
    have g1 := (Gr.refl x.wf).new (.row [.int .i64 0] 3 true)
    have hDn : (k.new (.row [.int .i64 0] 3 true)).get k.next = some (.row [.int .i64 0] 3 true) := by rw [AH.new_get, if_pos rfl]
    have hM1 := hM.sub g1.sub
    have hZ1 := g1.sub _ _ hZ
    have hlt1 := AH.get_lt g1.wf hZ1
    have hDI := AH.get_lt x.wf hZ
    have hst := stC szII hZ1 (i * 2 + 1) (slv k.next 1) (by omega) rfl rfl
    have hst : aStore Try.prog 22 _ (.slice (some ⟨k.next, 0, none⟩) 1 1) _ = _ := hst
    have hw : IntKind.i64.wrap ((i : Int) + 1) = i + 1 := wrapI (by omega) (by omega)
    simp (disch := first | omega | decide) only [push_cast, ↓reduceIte, Nat.reduceLT, Nat.reduceEqDiff, reduceCtorEq, Nat.reduceAdd, kn, kd, kt, hn, hd, t5, h6, faL foN0, faL foN1, faL foN2, faL foN3, faL foN4, hM.l0, hM.l1, hM.l2, hM.l3, hM.l4, hM.la, hb, idxI2 DI hi, faL foI0, faL foI1, hst, hw]
    refine ⟨q - 1, by omega, (by simp (disch := decide) only [Kp_put, put_none, hk]), i + 1, _, by simp (disch := first | omega | decide) only [push_cast, ↓reduceIte, Nat.reduceLT, Nat.reduceEqDiff, reduceCtorEq, Nat.reduceAdd], by omega, x.trans ⟨g1.wf.set hlt1 _, g1.nx, fun C o hC hne => by rw [AH.set_get, if_neg hne]; exact g1.sub _ _ hC⟩, by rw [AH.set_get, if_pos rfl], by rw [List.length_set]; exact hL, fun j hj => ?_⟩
    obtain ⟨pv, c1, c2⟩ := hU j hj
    rw [setChunk (sz := 2) (i := i) (f := 1) (by decide) j]
    by_cases e : j = i
    · subst e
      rw [if_pos rfl, c1]
      refine ⟨slv k.next 1, rfl, fun _ => ⟨k.next, rfl, ?_⟩⟩
      rw [AH.set_get, if_neg (by omega)]; exact hDn
    · rw [if_neg e]
      refine ⟨pv, c1, fun hji => ?_⟩
      obtain ⟨D, d1, d2⟩ := c2 (by omega)
      refine ⟨D, d1, ?_⟩
      rw [AH.set_get, if_neg (ty_ne d2 hZ rfl rfl (by decide))]
      exact g1.sub _ _ d2
  · have hi : i = 4095 := by have := hge; simp at this; omega
    subst hi
    simp (disch := first | omega | decide) only [push_cast, ↓reduceIte, Nat.reduceLT, Nat.reduceEqDiff, reduceCtorEq, Nat.reduceAdd, kn, kd, kt, hn, hd, t5, h6]
    refine ⟨by simp (disch := first | omega | decide) only [push_cast, ↓reduceIte, Nat.reduceLT, Nat.reduceEqDiff, reduceCtorEq, Nat.reduceAdd, kn, hn], by simp (disch := first | omega | decide) only [push_cast, ↓reduceIte, Nat.reduceLT, Nat.reduceEqDiff, reduceCtorEq, Nat.reduceAdd, kd, hd], x.wf, B, A6, D9, DO, DI, A, F, O, zs, ⟨by simp (disch := first | omega | decide) only [push_cast, ↓reduceIte, Nat.reduceLT, Nat.reduceEqDiff, reduceCtorEq, Nat.reduceAdd, kt, t1], by simp (disch := first | omega | decide) only [push_cast, ↓reduceIte, Nat.reduceLT, Nat.reduceEqDiff, reduceCtorEq, Nat.reduceAdd, kt, t2], by simp (disch := first | omega | decide) only [push_cast, ↓reduceIte, Nat.reduceLT, Nat.reduceEqDiff, reduceCtorEq, Nat.reduceAdd, kt, t3], by simp (disch := first | omega | decide) only [push_cast, ↓reduceIte, Nat.reduceLT, Nat.reduceEqDiff, reduceCtorEq, Nat.reduceAdd, kt, t4], by simp (disch := first | omega | decide) only [push_cast, ↓reduceIte, Nat.reduceLT, Nat.reduceEqDiff, reduceCtorEq, Nat.reduceAdd, kt, t5]⟩, fun i hi => hne _ _ _ (r i hi) rfl (by decide), fun i hi => ?_, ?_, hne _ _ _ hD rfl (by decide), hne _ _ _ hO rfl (by decide), hZ, hL, hU⟩
    · have e := ex i hi
      obtain ⟨D1, D2, m1, m2, m3⟩ := e.m
      exact ⟨⟨D1, D2, hne _ _ _ m1 rfl (by decide), hne _ _ _ m2 rfl (by decide), hne _ _ _ m3 rfl (by decide)⟩, hne _ _ _ e.f rfl (by decide), hne _ _ _ e.o rfl (by decide)⟩
    · obtain ⟨D1, D2, m1, m2, m3⟩ := m
      exact ⟨D1, D2, hne _ _ _ m1 rfl (by decide), hne _ _ _ m2 rfl (by decide), hne _ _ _ m3 rfl (by decide)⟩

attribute [local push_cast] List.isEmpty_cons List.isEmpty_nil

/-- A netlist in a block that a value points to. -/
def NetP (h : AH) (v : Value) (n : Net) : Prop := ∃ B cv fv iv ov, v = .pointer (some ⟨B, 0, none⟩) ∧ NetAt h B n cv fv iv ov ∧ NetR h n cv fv iv ov
theorem NetP.sub {h h' : AH} {v : Value} {n : Net} (p : NetP h v n) (s : Sub h h') : NetP h' v n := let ⟨B, cv, fv, iv, ov, e, a, b⟩ := p; ⟨B, cv, fv, iv, ov, e, a.sub s, b.sub s⟩

theorem MuxAt.one {h : AH} {t : Int} {A : Nat} (m : MuxAt h t A) : RowOf cellL h (.slice (some ⟨A, 0, none⟩) 1 2) [invC] := by
  obtain ⟨D1, D2, a, b, c⟩ := m
  have s1 : SlOf h (.slice (some ⟨D1, 0, none⟩) 1 1) ([(1 : Int)].map (.int .i64)) := SlOf.lit b rfl rfl
  refine ⟨_, _, _, rfl, rfl, ⟨fun q e => by cases e; rfl, by omega, .inl (by unfold SL; omega)⟩, .inr ⟨A, 0, _, _, rfl, a, rfl, fun i x hx => ?_⟩⟩
  match i, hx with
  | 0, hx => cases hx; exact ⟨_, rfl, s1⟩
  | i + 1, hx => exact nomatch hx

theorem InsUp.row {h : AH} {DI : Nat} {zs : List Value} (hI : h.get DI = some (.row zs 43 true)) (u : InsUp 4095 h zs) : RowOf instL h (slv DI 4095) (List.replicate 4095 ⟨0, [0]⟩) := by
  refine ⟨_, _, _, rfl, by rw [List.length_replicate], ⟨fun q e => by cases e; rfl, Nat.le_refl _, .inl (by unfold SL; omega)⟩, .inr ⟨DI, 0, _, zs, rfl, hI, rfl, fun i x hx => ?_⟩⟩
  rw [List.getElem?_replicate] at hx
  by_cases hi : i < 4095
  · rw [if_pos hi] at hx; cases hx
    obtain ⟨pv, c1, c2⟩ := u.2 i hi
    obtain ⟨D, d1, d2⟩ := c2 hi
    subst d1
    rw [Nat.zero_add]
    exact ⟨slv D 1, c1, SlOf.lit d2 rfl rfl⟩
  · rw [if_neg hi] at hx; cases hx

theorem S7.nets {a : AAct} {h : AH} (s : S7 a h) : NetP h (a.tm 1) badC ∧ NetP h (a.tm 2) bareC ∧ NetP h (a.tm 3) wideC ∧ NetP h (a.tm 4) outsC ∧ NetP h (a.tm 5) instsC := by
  obtain ⟨hn, hd, w, B, A6, D9, DO, DI, A, F, O, zs, ⟨t1, t2, t3, t4, t5⟩, r, ex, m, hD, hO, hI, hU⟩ := s
  have x0 := (ex 0 (by omega)).net
  have x1 := (ex 1 (by omega)).net
  have x2 := (ex 2 (by omega)).net
  have x3 := (ex 3 (by omega)).net
  have x4 := (ex 4 (by omega)).net
  refine ⟨⟨B, _, _, _, _, t1, ⟨_, r 0 (by omega), rfl⟩, x0.c, x0.f, x0.i, SlOf.lit hD rfl rfl⟩, ⟨B + 1, _, _, _, _, t2, ⟨_, r 1 (by omega), rfl⟩, m.one, x1.f, x1.i, x1.o⟩, ⟨B + 2, _, _, _, _, t3, ⟨_, r 2 (by omega), rfl⟩, x2.c, x2.f, x2.i, x2.o⟩,
    ⟨B + 3, _, _, _, _, t4, ⟨_, r 3 (by omega), rfl⟩, x3.c, x3.f, x3.i, SlOf.lit hO ?_ ?_⟩, ⟨B + 4, _, _, _, _, t5, ⟨_, r 4 (by omega), rfl⟩, x4.c, x4.f, InsUp.row hI hU, x4.o⟩⟩
  · show some (List.replicate 64 (Value.int .i64 0)) = some ((List.replicate 64 (0 : Int)).map (.int .i64))
    rw [List.map_replicate]
  · show 64 = ((List.replicate 64 (0 : Int)).map (Value.int .i64)).length
    rw [List.length_map, List.length_replicate]

/-! ### Region 11 -/

def flopZ : List Value := zeros [.int .i64 0, .int .u8 0] 32

theorem makeF (h : AH) : aMakeSlice Try.prog 31 (.int .i64 32) (.int .i64 32) h = some (slv h.next 32, h.new (.row flopZ 62 true)) := by
  obtain ⟨i, z, hi, h1, hb, hz, hc, hzk, hp⟩ := smF.info
  have hz2 : ∃ i, Try.prog.info? 62 = some i ∧ i.zero = some (.agg #[.int .i64 0, .int .u8 0]) := ⟨(Try.prog.info? 62).get (by kernel_rfl), by kernel_rfl, by kernel_rfl⟩
  obtain ⟨i2, hi2, hz2⟩ := hz2
  rw [hi] at hi2; cases hi2
  rw [hz] at hz2; cases hz2
  have hcz : (Value.agg #[.int .i64 0, .int .u8 0]).cells = #[.int .i64 0, .int .u8 0] := rfl
  simp only [aMakeSlice, smF.sl, hi, hz, h1, hb, hcz, hp]
  simp [oneC, slv, flopZ]

theorem flopZ_row {h : AH} {F : Nat} (hF : h.get F = some (.row flopZ 62 true)) : RowOf flopL h (slv F 32) (List.replicate 32 ⟨0, 0⟩) := by
  refine ⟨_, _, _, rfl, by rw [List.length_replicate], ⟨fun q e => by cases e; rfl, Nat.le_refl _, .inl (by unfold SL; omega)⟩, .inr ⟨F, 0, _, _, rfl, hF, rfl, fun i x hx => ?_⟩⟩
  rw [List.getElem?_replicate] at hx
  by_cases hi : i < 32
  · rw [if_pos hi] at hx; cases hx
    have h1 : flopZ[i * 2]? = some (.int .i64 0) := by
      simp only [flopZ, zeros, List.getElem?_map, List.length_cons, List.length_nil]
      rw [List.getElem?_range (by omega)]
      simp
    have h2 : flopZ[i * 2 + 1]? = some (.int .u8 0) := by
      have e : (i * 2 + 1) % 2 = 1 := by omega
      simp only [flopZ, zeros, List.getElem?_map, List.length_cons, List.length_nil]
      rw [List.getElem?_range (by omega)]
      simp [e]
    rw [Nat.zero_add]
    exact take2 h1 h2
  · rw [if_neg hi] at hx; cases hx

theorem buildN02 {c f : Value} (hc : c.cells.toList = [c]) (hf : f.cells.toList = [f]) : aBuild Try.prog 34 [(0, c), (2, f)] = some (.agg #[c, .int .i64 0, f, .slice none 0 0, .slice none 0 0]) := by
  have h0 : c.cells.size = 1 := by
    have := congrArg List.length hc
    simpa using this
  have h1 : f.cells.size = 1 := by
    have := congrArg List.length hf
    simpa using this
  rw [buildS (zs := zeroC) (pl := [(0, 1), (1, 1), (2, 1), (3, 1), (4, 1)]) infN rfl ⟨_, Try.underlying34, by kernel_rfl⟩]
  simp [fillL, h0, h1, hc, hf, setL, zeroC]

def longF (N : Nat) : Nat → Value → AH → Prop
  | 0, v, h => ∃ A, v = slv A 2 ∧ MuxAt h 202 A
  | 1, v, h => ∃ F, v = slv F 32 ∧ h.get F = some (.row flopZ 62 true)
  | 2, v, h => ∃ A F, v = .agg (netC longC (slv A 2) (slv F 32) (.slice none 0 0) (.slice none 0 0)).toArray ∧ MuxAt h 202 A ∧ h.get F = some (.row flopZ 62 true)
  | 3, v, h => ∃ T, v = .pointer (some ⟨T, 0, none⟩) ∧ h.get T = some (.row zeroC 34 true) ∧ N ≤ T
  | _, _, _ => True

theorem longF_sub {N : Nat} : ∀ i v h1 h2, longF N i v h1 → Gr h1 h2 → longF N i v h2 := by
  intro i v h1 h2 hF g
  unfold longF at hF ⊢
  split at hF
  all_goals first
    | exact (let ⟨A, a, b⟩ := hF; ⟨A, a, MuxAt.sub b g.sub⟩)
    | exact (let ⟨A, a, b⟩ := hF; ⟨A, a, g.sub _ _ b⟩)
    | exact (let ⟨A, F, a, b, c⟩ := hF; ⟨A, F, a, MuxAt.sub b g.sub, g.sub _ _ c⟩)
    | exact (let ⟨A, a, b, c⟩ := hF; ⟨A, a, g.sub _ _ b, c⟩)
    | exact hF

theorem exR11 {a : AAct} {h : AH} (hn : a.n = 370) (hd : a.df = []) : AW Try.prog none (.region 11 (opsOf Try.f6 11) true) (fun e a' h' => e = .normal ∧ a'.n = 370 ∧ a'.df = [] ∧ Gr h h' ∧ (∀ t, t < 7 → a'.tm t = a.tm t) ∧ NetP h' (a'.tm 7) longC) a h := by
  refine AW.at (by rfl : _ = Code.region 11 #[_, _, _, _, _] true) ?_
  refine AW.free (longF h.next) [7, 79, 80, 81] [[], [], [0, 1], [], [2, 3]] mixed (by kernel_rfl) longF_sub (fun hwf => ?_)
  simp only [List.toList_toArray]
  refine freeM_cons (fun a' h' hA hW => ?_) ?_
  · simp (disch := first | omega | decide) only [push_cast, ↓reduceIte, Nat.reduceLT, Nat.reduceEqDiff, reduceCtorEq, Nat.reduceAdd, hA.n, hn, hA.df, hd]
    refine ACall.mono ?_ (muxN h')
    rintro _ h2 ⟨g, A, rfl, -, m⟩
    simp (disch := first | omega | decide) only [push_cast, ↓reduceIte, Nat.reduceLT, Nat.reduceEqDiff, reduceCtorEq, Nat.reduceAdd, hA.n, hn, hA.df, hd]
    exact ⟨_, rfl, ⟨A, rfl, m⟩, g⟩
  refine freeM_cons (fun a' h' hA hW => ?_) ?_
  · simp (disch := first | omega | decide) only [push_cast, ↓reduceIte, Nat.reduceLT, Nat.reduceEqDiff, reduceCtorEq, Nat.reduceAdd, hA.n, hn, hA.df, hd, makeF h']
    exact ⟨_, rfl, ⟨h'.next, rfl, by rw [AH.new_get, if_pos rfl]⟩, (Gr.refl hA.gr.wf).new _⟩
  refine freeM_cons (fun a' h' hA hW => ?_) ?_
  · obtain ⟨A, e0, m⟩ : ∃ A, a'.tm 79 = slv A 2 ∧ MuxAt h' 202 A := hW.1
    obtain ⟨F, e1, hF⟩ : ∃ F, a'.tm 80 = slv F 32 ∧ h'.get F = some (.row flopZ 62 true) := hW.2.1
    simp (disch := first | omega | decide) only [push_cast, ↓reduceIte, Nat.reduceLT, Nat.reduceEqDiff, reduceCtorEq, Nat.reduceAdd, hA.n, hn, hA.df, hd, e0, e1, buildN02 (c := slv A 2) (f := slv F 32) rfl rfl]
    exact ⟨_, rfl, ⟨A, F, rfl, m, hF⟩, Gr.refl hA.gr.wf⟩
  refine freeM_cons (fun a' h' hA hW => ?_) ?_
  · simp (disch := first | omega | decide) only [push_cast, ↓reduceIte, Nat.reduceLT, Nat.reduceEqDiff, reduceCtorEq, Nat.reduceAdd, hA.n, hn, hA.df, hd, alL zrN]
    exact ⟨_, rfl, ⟨h'.next, rfl, by rw [AH.new_get, if_pos rfl], hA.gr.nx⟩, (Gr.refl hA.gr.wf).new _⟩
  refine freeM_last (fun a' h' hA hW => ?_)
  obtain ⟨A, F, e2, m, hF⟩ : ∃ A F, a'.tm 81 = .agg (netC longC (slv A 2) (slv F 32) (.slice none 0 0) (.slice none 0 0)).toArray ∧ MuxAt h' 202 A ∧ h'.get F = some (.row flopZ 62 true) := hW.1
  obtain ⟨T, e3, hT, hNT⟩ : ∃ T, a'.tm 7 = .pointer (some ⟨T, 0, none⟩) ∧ h'.get T = some (.row zeroC 34 true) ∧ h.next ≤ T := hW.2.1
  have hst := stA agN hT rfl (netC longC (slv A 2) (slv F 32) (.slice none 0 0) (.slice none 0 0)) rfl rfl
  have hlt := AH.get_lt hA.gr.wf hT
  have nk := NtK.set (o := .row (netC longC (slv A 2) (slv F 32) (.slice none 0 0) (.slice none 0 0)) 34 true) hA.gr.wf hT rfl
  simp (disch := first | omega | decide) only [push_cast, ↓reduceIte, Nat.reduceLT, Nat.reduceEqDiff, reduceCtorEq, Nat.reduceAdd, hA.n, hn, hA.df, hd, e2, e3, hst]
  refine ⟨hA.gr.set hwf hNT hlt _, fun t ht => hA.tm t (by simp; omega), T, _, _, _, _, rfl, ⟨_, by rw [AH.set_get, if_pos rfl], rfl⟩, (m.nt nk).row, flopZ_row (nk.keep _ _ hF (by decide)), rowNil, SlOf.nil _⟩

/-! ### The order -/

theorem exL2 {a : AAct} {h : AH} (hn : a.n = 370) (hd : a.df = []) (w0 : WFH h) (t8 : a.tm 8 = .slice none 0 0) (t9 : a.tm 9 = .int .i64 0) :
    AW Try.prog none (bodyBlk Try.f6 2) (fun e a' h' => e = .exit 2 ∧ a'.n = 370 ∧ a'.df = [] ∧ Gr h h' ∧ (∀ t, t < 8 → a'.tm t = a.tm t) ∧ SlOf h' (a'.tm 8) (ord32.map (.int .i64))) a h := by
  refine AW.at (rfl : bodyBlk Try.f6 2 = .loop _) ?_
  refine AW.loopN 82 [8, 9] (fun q a' h' => ∃ (i : Nat) (rv : Value), a'.tm 9 = .int .i64 i ∧ a'.tm 8 = rv ∧ i + q = 32 ∧ Gr h h' ∧ FrSl 3 h h' rv (((List.range i).map fun (i : Nat) => (i : Int)).map (.int .i64))) 32 ?_ ?_
  · exact ⟨0, _, by rw [t9]; rfl, t8, by omega, Gr.refl w0, FrSl.nil _ _ _⟩
  rintro a1 q a' h' hk kn kd kt ⟨i, rv, h9, h8, hiq, hg, hf⟩
  simp (disch := first | omega | decide) only [push_cast, ↓reduceIte, Nat.reduceLT, Nat.reduceEqDiff, reduceCtorEq, Nat.reduceAdd, kn, kd, kt, hn, hd, h8, h9]
  refine condV_of (fun hlt => ?_) (fun hge => ?_)
  · have hi : i < 32 := by have := hlt; simp at this; omega
    have happ := app1 t22 (t := 22) hg hf (by rw [List.length_map, List.length_map, List.length_range]; omega) (by rw [List.length_map, List.length_map, List.length_range]; omega) (.int .i64 i)
    have hw : IntKind.i64.wrap ((i : Int) + 1) = i + 1 := wrapI (by omega) (by omega)
    simp (disch := first | omega | decide) only [push_cast, ↓reduceIte, Nat.reduceLT, Nat.reduceEqDiff, reduceCtorEq, Nat.reduceAdd, kn, kd, kt, hn, hd, h8, h9, aBuild1 t22 h' (x := .int .i64 (i : Int)) rfl rfl, happ, hw]
    refine ⟨q - 1, by omega, (by simp (disch := decide) only [Kp_put, put_none, hk]), i + 1, _, by simp (disch := first | omega | decide) only [push_cast, ↓reduceIte, Nat.reduceLT, Nat.reduceEqDiff, reduceCtorEq, Nat.reduceAdd], rfl, by omega, app1_gr w0 hg hf, ?_⟩
    rw [List.range_succ, List.map_append, List.map_append]
    have := app1_fr (e := 3) (x := .int .i64 i) (v := rv) hg (vs := ((List.range i).map fun (i : Nat) => (i : Int)).map (.int .i64))
    simp only [put_tm]
    simpa using this
  · have hi : i = 32 := by have := hge; simp at this; omega
    subst hi
    simp (disch := first | omega | decide) only [push_cast, ↓reduceIte, Nat.reduceLT, Nat.reduceEqDiff, reduceCtorEq, Nat.reduceAdd, kn, kd, kt, hn, hd, h8, h9]
    exact ⟨hg, fun t ht => by
      repeat rw [if_neg (by omega)]
      exact kt t (by omega) (by simp; omega), hf.sl⟩


def NetV (h : AH) (v : Value) (n : Net) : Prop := ∃ cv fv iv ov, v = .agg (netC n cv fv iv ov).toArray ∧ NetR h n cv fv iv ov

/-- An entry of the table. -/
def exL : Lay (Net × List Int × Int) where
  sz := 7
  pos := by decide
  rel h cs x := ∃ cv fv iv ov sv, cs = netC x.1 cv fv iv ov ++ [sv, .int .i64 x.2.2] ∧ NetR h x.1 cv fv iv ov ∧ SlOf h sv (x.2.1.map (.int .i64))
  mono := by rintro h h' cs x hs ⟨cv, fv, iv, ov, sv, rfl, r, s⟩; exact ⟨cv, fv, iv, ov, sv, rfl, r.sub hs, s.sub hs⟩
  len := by rintro h cs x ⟨cv, fv, iv, ov, sv, rfl, r, s⟩; rfl
  one := by
    rintro h cs x ⟨cv, fv, iv, ov, sv, rfl, r, s⟩ v hv
    rcases List.mem_append.1 hv with hv | hv
    · exact List.all_eq_true.1 r.one v hv
    · simp only [List.mem_cons, List.not_mem_nil, or_false] at hv
      rcases hv with rfl | rfl
      · exact s.one
      · rfl

def exT : List (Net × List Int × Int) := [(badC, [], 1), (bareC, [0], 1), (bareC, [0, 1], 20), ((exC 202), [0, 0], 1), ((exC 202), [0, 2], 1), ((exC 202), [-1, 0], 1), ((exC 202), [0, 1, 2], 1), (wideC, [1, 0], 5), (outsC, [1, 0], 5), (instsC, [1, 0], 5), (longC, ord32, 0)]

theorem smE : SlM Try.prog 52 51 7 136 := ⟨Try.underlying52, ⟨(Try.prog.info? 51).get (by kernel_rfl), .agg (zeroC ++ [Value.slice none 0 0, Value.int .i64 0]).toArray, by kernel_rfl, by kernel_rfl, by kernel_rfl, by kernel_rfl, rfl, rfl, rfl⟩, by decide⟩
theorem agE : Ag Try.prog 51 7 := ⟨⟨_, Try.underlying51, rfl⟩, ⟨(Try.prog.info? 51).get (by kernel_rfl), by kernel_rfl, by kernel_rfl⟩⟩

theorem buildE {n : Net} {cv fv iv ov sv : Value} {e : Int} (hs : sv.cells.toList = [sv]) : aBuild Try.prog 51 [(0, .agg (netC n cv fv iv ov).toArray), (1, sv), (2, .int .i64 e)] = some (.agg (netC n cv fv iv ov ++ [sv, .int .i64 e]).toArray) := by
  have h0 : sv.cells.size = 1 := by
    have := congrArg List.length hs
    simpa using this
  have h1 : (Value.agg #[cv, .int .i64 n.inputs, fv, iv, ov]).cells = #[cv, .int .i64 n.inputs, fv, iv, ov] := rfl
  have h2 : (Value.int .i64 e).cells = #[.int .i64 e] := rfl
  rw [buildS (zs := zeroC ++ [.slice none 0 0, .int .i64 0]) (pl := [(0, 5), (5, 1), (6, 1)]) ⟨(Try.prog.info? 51).get (by kernel_rfl), by kernel_rfl, by kernel_rfl⟩ rfl ⟨_, Try.underlying51, by kernel_rfl⟩]
  simp [fillL, h0, h1, h2, hs, setL, zeroC, netC]

theorem cellSl {h : AH} {v : Value} {vs : List Value} (s : SlOf h v vs) : v.cells.toList = [v] := by
  obtain ⟨p, l, c, rfl, _⟩ := s; rfl

theorem aBuildI3 (h : AH) (x y z : Int) : aBuildSlice Try.prog 22 3 [(0, .int .i64 x), (1, .int .i64 y), (2, .int .i64 z)] h = some (.slice (some ⟨h.next, 0, none⟩) 3 3, h.new (.row [.int .i64 x, .int .i64 y, .int .i64 z] 3 true)) := by
  obtain ⟨i, hi, h1, hb, hz⟩ := t22.info
  have hp : plain 9 (.int .i64 0) = true := rfl
  have hc : (Value.int .i64 0).cells.size = 1 := rfl
  have hl : (Value.int .i64 0).cells.toList = [.int .i64 0] := rfl
  have hx1 : ∀ z : Int, (Value.int .i64 z).cells.size = 1 := fun _ => rfl
  have hx2 : ∀ z : Int, (Value.int .i64 z).cells.toList = [.int .i64 z] := fun _ => rfl
  simp only [aBuildSlice, t22.sl, hi, hz, h1, hp, hc, fillL, hl, zeros_one]
  simp [SL, hx1, hx2, setL, oneC, List.replicate]

theorem flat_at {sz : Nat} : ∀ (xss : List (List Value)), (∀ xs ∈ xss, xs.length = sz) → ∀ (i : Nat) (xs : List Value), xss[i]? = some xs → (xss.flatten.drop (i * sz)).take sz = xs := by
  intro xss
  induction xss with
  | nil => intro _ i xs h; simp at h
  | cons y l ih =>
    intro h i xs hi
    have hy := h y (List.mem_cons_self ..)
    cases i with
    | zero =>
      simp only [List.getElem?_cons_zero, Option.some.injEq] at hi
      subst hi
      rw [Nat.zero_mul, List.drop_zero, List.flatten_cons, ← hy, List.take_left']
      rfl
    | succ i =>
      have := ih (fun x hx => h x (List.mem_cons_of_mem _ hx)) i xs (by simpa using hi)
      rw [List.flatten_cons, Nat.add_mul, Nat.one_mul, Nat.add_comm, ← List.drop_drop]
      have e : (y ++ l.flatten).drop sz = l.flatten := by rw [← hy]; exact List.drop_left
      rw [e]; exact this

theorem row_new {α : Type} {L : Lay α} {h : AH} {e : TypeId} {xss : List (List Value)} {tbl : List α} (hl : xss.length = tbl.length) (hb : tbl.length < SL) (hs : ∀ xs ∈ xss, xs.length = L.sz) (hr : ∀ (i : Nat) xs x, xss[i]? = some xs → tbl[i]? = some x → L.rel (h.new (.row xss.flatten e true)) xs x) :
    RowOf L (h.new (.row xss.flatten e true)) (slv h.next xss.length) tbl := by
  refine ⟨_, _, _, rfl, hl, ⟨fun q e => by cases e; rfl, Nat.le_refl _, .inl (by omega)⟩, .inr ⟨h.next, 0, _, _, rfl, by rw [AH.new_get, if_pos rfl], rfl, fun i x hx => ?_⟩⟩
  have hi : i < xss.length := by have := (List.getElem?_eq_some_iff.1 hx).1; omega
  have hxs := List.getElem?_eq_getElem hi
  rw [Nat.zero_add, flat_at xss hs i _ hxs]
  exact hr i _ x hxs hx

def EntV (h : AH) (v : Value) (x : Net × List Int × Int) : Prop := ∃ cs, v = .agg cs.toArray ∧ exL.rel h cs x
def RowE (h : AH) (v : Value) : Prop := ∃ T, v = slv T 11 ∧ RowOf exL h v exT
inductive Kx where
  | net (n : Net)
  | ord (l : List Int)
  | ent (x : Net × List Int × Int)
  | row
  | val (v : Value)
def kxF (h : AH) (v : Value) : Kx → Prop
  | .net n => NetV h v n
  | .ord l => SlOf h v (l.map (.int .i64))
  | .ent x => EntV h v x
  | .row => RowE h v
  | .val u => v = u
def kxL : List Kx := [.net badC, .ent (badC, [], 1), .net bareC, .ord [0], .ent (bareC, [0], 1), .net bareC, .ord [0, 1], .ent (bareC, [0, 1], 20), .net (exC 202), .ord [0, 0], .ent ((exC 202), [0, 0], 1), .net (exC 202), .ord [0, 2], .ent ((exC 202), [0, 2], 1), .net (exC 202), .ord [-1, 0], .ent ((exC 202), [-1, 0], 1), .net (exC 202), .ord [0, 1, 2], .ent ((exC 202), [0, 1, 2], 1), .net wideC, .ord [1, 0], .ent (wideC, [1, 0], 5), .net outsC, .ord [1, 0], .ent (outsC, [1, 0], 5), .net instsC, .ord [1, 0], .ent (instsC, [1, 0], 5), .net longC, .ord ord32, .ent (longC, ord32, 0), .row, .val (.int .i64 11), .val (.int .i64 0)]
def kx (i : Nat) (v : Value) (h : AH) : Prop := kxF h v (kxL.getD i .row)

theorem kx_sub : ∀ i v h1 h2, kx i v h1 → Gr h1 h2 → kx i v h2 := by
  intro i v h1 h2 hF g
  unfold kx at hF ⊢
  generalize kxL.getD i .row = k at hF ⊢
  cases k with
  | net n => exact (let ⟨a, b, c, d, e, r⟩ := hF; ⟨a, b, c, d, e, r.sub g.sub⟩)
  | ord l => exact SlOf.sub hF g.sub
  | ent x => exact (let ⟨cs, e, r⟩ := hF; ⟨cs, e, exL.mono g.sub r⟩)
  | row => exact (let ⟨T, e, r⟩ := hF; ⟨T, e, r.sub g.sub⟩)
  | val u => exact hF

theorem exR17 {a : AAct} {h : AH} (hn : a.n = 370) (hd : a.df = []) (p1 : NetP h (a.tm 1) badC) (p2 : NetP h (a.tm 2) bareC) (p3 : NetP h (a.tm 3) wideC) (p4 : NetP h (a.tm 4) outsC) (p5 : NetP h (a.tm 5) instsC) (p7 : NetP h (a.tm 7) longC) (p8 : SlOf h (a.tm 8) (ord32.map (.int .i64))) :
    AW Try.prog none (.region 17 (opsOf Try.f6 17) true) (fun e a' h' => e = .normal ∧ a'.n = 370 ∧ a'.df = [] ∧ Gr h h' ∧ (∀ t, t < 90 → a'.tm t = a.tm t) ∧ (∃ T, a'.tm 122 = slv T 11) ∧ RowOf exL h' (a'.tm 122) exT ∧ a'.tm 123 = .int .i64 11 ∧ a'.tm 124 = .int .i64 0) a h := by
  refine AW.at (by rfl : _ = Code.region 17 #[_, _, _, _, _, _, _, _, _, _, _, _, _, _, _, _, _, _, _, _, _, _, _, _, _, _, _, _, _, _, _, _, _, _, _] true) ?_
  refine AW.freeAll kx ((List.range 35).map (· + 90)) [[], [0], [], [], [2, 3], [], [], [5, 6], [], [], [8, 9], [], [], [11, 12], [], [], [14, 15], [], [], [17, 18], [], [], [20, 21], [], [], [23, 24], [], [], [26, 27], [], [], [29, 30], [1, 4, 7, 10, 13, 16, 19, 22, 25, 28, 31], [32], []] mixed (by kernel_rfl) kx_sub (fun hwf => ?_) (fun a' h' hA hF => ?_)
  case refine_2 =>
    obtain ⟨T, e, r⟩ : RowE h' (a'.tm 122) := hF 32 (by decide)
    have e33 : a'.tm 123 = .int .i64 11 := hF 33 (by decide)
    have e34 : a'.tm 124 = .int .i64 0 := hF 34 (by decide)
    exact ⟨rfl, by rw [hA.n, hn], by rw [hA.df, hd], hA.gr, fun t ht => hA.tm t (fun hm => by
      obtain ⟨j, _, rfl⟩ := List.mem_map.1 hm
      omega), ⟨T, e⟩, r, e33, e34⟩
  simp only [List.toList_toArray]
  refine freeA_cons (fun a' h' hA hW => ?_) ?_
  · obtain ⟨B, cv, fv, iv, ov, e, hN, r⟩ := p1.sub hA.gr.sub
    have e1 : a'.tm 1 = .pointer (some ⟨B, 0, none⟩) := (hA.tm 1 (by decide)).trans e
    simp (disch := first | omega | decide) only [push_cast, ↓reduceIte, Nat.reduceLT, Nat.reduceEqDiff, reduceCtorEq, Nat.reduceAdd, hA.n, hn, hA.df, hd, e1, hN.l0, hN.l1, hN.l2, hN.l3, hN.l4, hN.la]
    exact ⟨_, rfl, ⟨cv, fv, iv, ov, rfl, r⟩, Gr.refl hA.gr.wf⟩
  refine freeA_cons (fun a' h' hA hW => ?_) ?_
  · obtain ⟨cv, fv, iv, ov, e, r⟩ : NetV h' (a'.tm 90) badC := hW.1
    simp (disch := first | omega | decide) only [push_cast, ↓reduceIte, Nat.reduceLT, Nat.reduceEqDiff, reduceCtorEq, Nat.reduceAdd, hA.n, hn, hA.df, hd, e, buildE (n := badC) (cv := cv) (fv := fv) (iv := iv) (ov := ov) (e := 1) (sv := .slice none 0 0) rfl]
    exact ⟨_, rfl, ⟨_, rfl, cv, fv, iv, ov, _, rfl, r, SlOf.nil _⟩, Gr.refl hA.gr.wf⟩
  refine freeA_cons (fun a' h' hA hW => ?_) ?_
  · obtain ⟨B, cv, fv, iv, ov, e, hN, r⟩ := p2.sub hA.gr.sub
    have e1 : a'.tm 2 = .pointer (some ⟨B, 0, none⟩) := (hA.tm 2 (by decide)).trans e
    simp (disch := first | omega | decide) only [push_cast, ↓reduceIte, Nat.reduceLT, Nat.reduceEqDiff, reduceCtorEq, Nat.reduceAdd, hA.n, hn, hA.df, hd, e1, hN.l0, hN.l1, hN.l2, hN.l3, hN.l4, hN.la]
    exact ⟨_, rfl, ⟨cv, fv, iv, ov, rfl, r⟩, Gr.refl hA.gr.wf⟩
  refine freeA_cons (fun a' h' hA hW => ?_) ?_
  · simp (disch := first | omega | decide) only [push_cast, ↓reduceIte, Nat.reduceLT, Nat.reduceEqDiff, reduceCtorEq, Nat.reduceAdd, hA.n, hn, hA.df, hd, aBuild1 t22 h' (x := .int .i64 0) rfl rfl]
    exact ⟨_, rfl, SlOf.lit (by rw [AH.new_get, if_pos rfl]) rfl rfl, (Gr.refl hA.gr.wf).new _⟩
  refine freeA_cons (fun a' h' hA hW => ?_) ?_
  · obtain ⟨cv, fv, iv, ov, e, r⟩ : NetV h' (a'.tm 92) bareC := hW.1
    have s : SlOf h' (a'.tm 93) ([0].map (.int .i64)) := hW.2.1
    generalize e2 : a'.tm 93 = sv at s
    simp (disch := first | omega | decide) only [push_cast, ↓reduceIte, Nat.reduceLT, Nat.reduceEqDiff, reduceCtorEq, Nat.reduceAdd, hA.n, hn, hA.df, hd, e, e2, buildE (n := bareC) (cv := cv) (fv := fv) (iv := iv) (ov := ov) (e := 1) (cellSl s)]
    exact ⟨_, rfl, ⟨_, rfl, cv, fv, iv, ov, sv, rfl, r, s⟩, Gr.refl hA.gr.wf⟩
  refine freeA_cons (fun a' h' hA hW => ?_) ?_
  · obtain ⟨B, cv, fv, iv, ov, e, hN, r⟩ := p2.sub hA.gr.sub
    have e1 : a'.tm 2 = .pointer (some ⟨B, 0, none⟩) := (hA.tm 2 (by decide)).trans e
    simp (disch := first | omega | decide) only [push_cast, ↓reduceIte, Nat.reduceLT, Nat.reduceEqDiff, reduceCtorEq, Nat.reduceAdd, hA.n, hn, hA.df, hd, e1, hN.l0, hN.l1, hN.l2, hN.l3, hN.l4, hN.la]
    exact ⟨_, rfl, ⟨cv, fv, iv, ov, rfl, r⟩, Gr.refl hA.gr.wf⟩
  refine freeA_cons (fun a' h' hA hW => ?_) ?_
  · simp (disch := first | omega | decide) only [push_cast, ↓reduceIte, Nat.reduceLT, Nat.reduceEqDiff, reduceCtorEq, Nat.reduceAdd, hA.n, hn, hA.df, hd, aBuild2 h' (0) (1)]
    exact ⟨_, rfl, SlOf.lit (by rw [AH.new_get, if_pos rfl]) rfl rfl, (Gr.refl hA.gr.wf).new _⟩
  refine freeA_cons (fun a' h' hA hW => ?_) ?_
  · obtain ⟨cv, fv, iv, ov, e, r⟩ : NetV h' (a'.tm 95) bareC := hW.1
    have s : SlOf h' (a'.tm 96) ([0, 1].map (.int .i64)) := hW.2.1
    generalize e2 : a'.tm 96 = sv at s
    simp (disch := first | omega | decide) only [push_cast, ↓reduceIte, Nat.reduceLT, Nat.reduceEqDiff, reduceCtorEq, Nat.reduceAdd, hA.n, hn, hA.df, hd, e, e2, buildE (n := bareC) (cv := cv) (fv := fv) (iv := iv) (ov := ov) (e := 20) (cellSl s)]
    exact ⟨_, rfl, ⟨_, rfl, cv, fv, iv, ov, sv, rfl, r, s⟩, Gr.refl hA.gr.wf⟩
  refine freeA_cons (fun a' h' hA hW => ?_) ?_
  · simp (disch := first | omega | decide) only [push_cast, ↓reduceIte, Nat.reduceLT, Nat.reduceEqDiff, reduceCtorEq, Nat.reduceAdd, hA.n, hn, hA.df, hd]
    refine ACall.mono ?_ (exN h')
    rintro _ h2 ⟨g, A, F, O, rfl, -, x⟩
    simp (disch := first | omega | decide) only [push_cast, ↓reduceIte, Nat.reduceLT, Nat.reduceEqDiff, reduceCtorEq, Nat.reduceAdd, hA.n, hn, hA.df, hd]
    exact ⟨_, rfl, ⟨_, _, _, _, rfl, x.net⟩, g⟩
  refine freeA_cons (fun a' h' hA hW => ?_) ?_
  · simp (disch := first | omega | decide) only [push_cast, ↓reduceIte, Nat.reduceLT, Nat.reduceEqDiff, reduceCtorEq, Nat.reduceAdd, hA.n, hn, hA.df, hd, aBuild2 h' (0) (0)]
    exact ⟨_, rfl, SlOf.lit (by rw [AH.new_get, if_pos rfl]) rfl rfl, (Gr.refl hA.gr.wf).new _⟩
  refine freeA_cons (fun a' h' hA hW => ?_) ?_
  · obtain ⟨cv, fv, iv, ov, e, r⟩ : NetV h' (a'.tm 98) (exC 202) := hW.1
    have s : SlOf h' (a'.tm 99) ([0, 0].map (.int .i64)) := hW.2.1
    generalize e2 : a'.tm 99 = sv at s
    simp (disch := first | omega | decide) only [push_cast, ↓reduceIte, Nat.reduceLT, Nat.reduceEqDiff, reduceCtorEq, Nat.reduceAdd, hA.n, hn, hA.df, hd, e, e2, buildE (n := (exC 202)) (cv := cv) (fv := fv) (iv := iv) (ov := ov) (e := 1) (cellSl s)]
    exact ⟨_, rfl, ⟨_, rfl, cv, fv, iv, ov, sv, rfl, r, s⟩, Gr.refl hA.gr.wf⟩
  refine freeA_cons (fun a' h' hA hW => ?_) ?_
  · simp (disch := first | omega | decide) only [push_cast, ↓reduceIte, Nat.reduceLT, Nat.reduceEqDiff, reduceCtorEq, Nat.reduceAdd, hA.n, hn, hA.df, hd]
    refine ACall.mono ?_ (exN h')
    rintro _ h2 ⟨g, A, F, O, rfl, -, x⟩
    simp (disch := first | omega | decide) only [push_cast, ↓reduceIte, Nat.reduceLT, Nat.reduceEqDiff, reduceCtorEq, Nat.reduceAdd, hA.n, hn, hA.df, hd]
    exact ⟨_, rfl, ⟨_, _, _, _, rfl, x.net⟩, g⟩
  refine freeA_cons (fun a' h' hA hW => ?_) ?_
  · simp (disch := first | omega | decide) only [push_cast, ↓reduceIte, Nat.reduceLT, Nat.reduceEqDiff, reduceCtorEq, Nat.reduceAdd, hA.n, hn, hA.df, hd, aBuild2 h' (0) (2)]
    exact ⟨_, rfl, SlOf.lit (by rw [AH.new_get, if_pos rfl]) rfl rfl, (Gr.refl hA.gr.wf).new _⟩
  refine freeA_cons (fun a' h' hA hW => ?_) ?_
  · obtain ⟨cv, fv, iv, ov, e, r⟩ : NetV h' (a'.tm 101) (exC 202) := hW.1
    have s : SlOf h' (a'.tm 102) ([0, 2].map (.int .i64)) := hW.2.1
    generalize e2 : a'.tm 102 = sv at s
    simp (disch := first | omega | decide) only [push_cast, ↓reduceIte, Nat.reduceLT, Nat.reduceEqDiff, reduceCtorEq, Nat.reduceAdd, hA.n, hn, hA.df, hd, e, e2, buildE (n := (exC 202)) (cv := cv) (fv := fv) (iv := iv) (ov := ov) (e := 1) (cellSl s)]
    exact ⟨_, rfl, ⟨_, rfl, cv, fv, iv, ov, sv, rfl, r, s⟩, Gr.refl hA.gr.wf⟩
  refine freeA_cons (fun a' h' hA hW => ?_) ?_
  · simp (disch := first | omega | decide) only [push_cast, ↓reduceIte, Nat.reduceLT, Nat.reduceEqDiff, reduceCtorEq, Nat.reduceAdd, hA.n, hn, hA.df, hd]
    refine ACall.mono ?_ (exN h')
    rintro _ h2 ⟨g, A, F, O, rfl, -, x⟩
    simp (disch := first | omega | decide) only [push_cast, ↓reduceIte, Nat.reduceLT, Nat.reduceEqDiff, reduceCtorEq, Nat.reduceAdd, hA.n, hn, hA.df, hd]
    exact ⟨_, rfl, ⟨_, _, _, _, rfl, x.net⟩, g⟩
  refine freeA_cons (fun a' h' hA hW => ?_) ?_
  · simp (disch := first | omega | decide) only [push_cast, ↓reduceIte, Nat.reduceLT, Nat.reduceEqDiff, reduceCtorEq, Nat.reduceAdd, hA.n, hn, hA.df, hd, aBuild2 h' (-1) (0)]
    exact ⟨_, rfl, SlOf.lit (by rw [AH.new_get, if_pos rfl]) rfl rfl, (Gr.refl hA.gr.wf).new _⟩
  refine freeA_cons (fun a' h' hA hW => ?_) ?_
  · obtain ⟨cv, fv, iv, ov, e, r⟩ : NetV h' (a'.tm 104) (exC 202) := hW.1
    have s : SlOf h' (a'.tm 105) ([-1, 0].map (.int .i64)) := hW.2.1
    generalize e2 : a'.tm 105 = sv at s
    simp (disch := first | omega | decide) only [push_cast, ↓reduceIte, Nat.reduceLT, Nat.reduceEqDiff, reduceCtorEq, Nat.reduceAdd, hA.n, hn, hA.df, hd, e, e2, buildE (n := (exC 202)) (cv := cv) (fv := fv) (iv := iv) (ov := ov) (e := 1) (cellSl s)]
    exact ⟨_, rfl, ⟨_, rfl, cv, fv, iv, ov, sv, rfl, r, s⟩, Gr.refl hA.gr.wf⟩
  refine freeA_cons (fun a' h' hA hW => ?_) ?_
  · simp (disch := first | omega | decide) only [push_cast, ↓reduceIte, Nat.reduceLT, Nat.reduceEqDiff, reduceCtorEq, Nat.reduceAdd, hA.n, hn, hA.df, hd]
    refine ACall.mono ?_ (exN h')
    rintro _ h2 ⟨g, A, F, O, rfl, -, x⟩
    simp (disch := first | omega | decide) only [push_cast, ↓reduceIte, Nat.reduceLT, Nat.reduceEqDiff, reduceCtorEq, Nat.reduceAdd, hA.n, hn, hA.df, hd]
    exact ⟨_, rfl, ⟨_, _, _, _, rfl, x.net⟩, g⟩
  refine freeA_cons (fun a' h' hA hW => ?_) ?_
  · simp (disch := first | omega | decide) only [push_cast, ↓reduceIte, Nat.reduceLT, Nat.reduceEqDiff, reduceCtorEq, Nat.reduceAdd, hA.n, hn, hA.df, hd, aBuildI3 h' (0) (1) (2)]
    exact ⟨_, rfl, SlOf.lit (by rw [AH.new_get, if_pos rfl]) rfl rfl, (Gr.refl hA.gr.wf).new _⟩
  refine freeA_cons (fun a' h' hA hW => ?_) ?_
  · obtain ⟨cv, fv, iv, ov, e, r⟩ : NetV h' (a'.tm 107) (exC 202) := hW.1
    have s : SlOf h' (a'.tm 108) ([0, 1, 2].map (.int .i64)) := hW.2.1
    generalize e2 : a'.tm 108 = sv at s
    simp (disch := first | omega | decide) only [push_cast, ↓reduceIte, Nat.reduceLT, Nat.reduceEqDiff, reduceCtorEq, Nat.reduceAdd, hA.n, hn, hA.df, hd, e, e2, buildE (n := (exC 202)) (cv := cv) (fv := fv) (iv := iv) (ov := ov) (e := 1) (cellSl s)]
    exact ⟨_, rfl, ⟨_, rfl, cv, fv, iv, ov, sv, rfl, r, s⟩, Gr.refl hA.gr.wf⟩
  refine freeA_cons (fun a' h' hA hW => ?_) ?_
  · obtain ⟨B, cv, fv, iv, ov, e, hN, r⟩ := p3.sub hA.gr.sub
    have e1 : a'.tm 3 = .pointer (some ⟨B, 0, none⟩) := (hA.tm 3 (by decide)).trans e
    simp (disch := first | omega | decide) only [push_cast, ↓reduceIte, Nat.reduceLT, Nat.reduceEqDiff, reduceCtorEq, Nat.reduceAdd, hA.n, hn, hA.df, hd, e1, hN.l0, hN.l1, hN.l2, hN.l3, hN.l4, hN.la]
    exact ⟨_, rfl, ⟨cv, fv, iv, ov, rfl, r⟩, Gr.refl hA.gr.wf⟩
  refine freeA_cons (fun a' h' hA hW => ?_) ?_
  · simp (disch := first | omega | decide) only [push_cast, ↓reduceIte, Nat.reduceLT, Nat.reduceEqDiff, reduceCtorEq, Nat.reduceAdd, hA.n, hn, hA.df, hd, aBuild2 h' (1) (0)]
    exact ⟨_, rfl, SlOf.lit (by rw [AH.new_get, if_pos rfl]) rfl rfl, (Gr.refl hA.gr.wf).new _⟩
  refine freeA_cons (fun a' h' hA hW => ?_) ?_
  · obtain ⟨cv, fv, iv, ov, e, r⟩ : NetV h' (a'.tm 110) wideC := hW.1
    have s : SlOf h' (a'.tm 111) ([1, 0].map (.int .i64)) := hW.2.1
    generalize e2 : a'.tm 111 = sv at s
    simp (disch := first | omega | decide) only [push_cast, ↓reduceIte, Nat.reduceLT, Nat.reduceEqDiff, reduceCtorEq, Nat.reduceAdd, hA.n, hn, hA.df, hd, e, e2, buildE (n := wideC) (cv := cv) (fv := fv) (iv := iv) (ov := ov) (e := 5) (cellSl s)]
    exact ⟨_, rfl, ⟨_, rfl, cv, fv, iv, ov, sv, rfl, r, s⟩, Gr.refl hA.gr.wf⟩
  refine freeA_cons (fun a' h' hA hW => ?_) ?_
  · obtain ⟨B, cv, fv, iv, ov, e, hN, r⟩ := p4.sub hA.gr.sub
    have e1 : a'.tm 4 = .pointer (some ⟨B, 0, none⟩) := (hA.tm 4 (by decide)).trans e
    simp (disch := first | omega | decide) only [push_cast, ↓reduceIte, Nat.reduceLT, Nat.reduceEqDiff, reduceCtorEq, Nat.reduceAdd, hA.n, hn, hA.df, hd, e1, hN.l0, hN.l1, hN.l2, hN.l3, hN.l4, hN.la]
    exact ⟨_, rfl, ⟨cv, fv, iv, ov, rfl, r⟩, Gr.refl hA.gr.wf⟩
  refine freeA_cons (fun a' h' hA hW => ?_) ?_
  · simp (disch := first | omega | decide) only [push_cast, ↓reduceIte, Nat.reduceLT, Nat.reduceEqDiff, reduceCtorEq, Nat.reduceAdd, hA.n, hn, hA.df, hd, aBuild2 h' (1) (0)]
    exact ⟨_, rfl, SlOf.lit (by rw [AH.new_get, if_pos rfl]) rfl rfl, (Gr.refl hA.gr.wf).new _⟩
  refine freeA_cons (fun a' h' hA hW => ?_) ?_
  · obtain ⟨cv, fv, iv, ov, e, r⟩ : NetV h' (a'.tm 113) outsC := hW.1
    have s : SlOf h' (a'.tm 114) ([1, 0].map (.int .i64)) := hW.2.1
    generalize e2 : a'.tm 114 = sv at s
    simp (disch := first | omega | decide) only [push_cast, ↓reduceIte, Nat.reduceLT, Nat.reduceEqDiff, reduceCtorEq, Nat.reduceAdd, hA.n, hn, hA.df, hd, e, e2, buildE (n := outsC) (cv := cv) (fv := fv) (iv := iv) (ov := ov) (e := 5) (cellSl s)]
    exact ⟨_, rfl, ⟨_, rfl, cv, fv, iv, ov, sv, rfl, r, s⟩, Gr.refl hA.gr.wf⟩
  refine freeA_cons (fun a' h' hA hW => ?_) ?_
  · obtain ⟨B, cv, fv, iv, ov, e, hN, r⟩ := p5.sub hA.gr.sub
    have e1 : a'.tm 5 = .pointer (some ⟨B, 0, none⟩) := (hA.tm 5 (by decide)).trans e
    simp (disch := first | omega | decide) only [push_cast, ↓reduceIte, Nat.reduceLT, Nat.reduceEqDiff, reduceCtorEq, Nat.reduceAdd, hA.n, hn, hA.df, hd, e1, hN.l0, hN.l1, hN.l2, hN.l3, hN.l4, hN.la]
    exact ⟨_, rfl, ⟨cv, fv, iv, ov, rfl, r⟩, Gr.refl hA.gr.wf⟩
  refine freeA_cons (fun a' h' hA hW => ?_) ?_
  · simp (disch := first | omega | decide) only [push_cast, ↓reduceIte, Nat.reduceLT, Nat.reduceEqDiff, reduceCtorEq, Nat.reduceAdd, hA.n, hn, hA.df, hd, aBuild2 h' (1) (0)]
    exact ⟨_, rfl, SlOf.lit (by rw [AH.new_get, if_pos rfl]) rfl rfl, (Gr.refl hA.gr.wf).new _⟩
  refine freeA_cons (fun a' h' hA hW => ?_) ?_
  · obtain ⟨cv, fv, iv, ov, e, r⟩ : NetV h' (a'.tm 116) instsC := hW.1
    have s : SlOf h' (a'.tm 117) ([1, 0].map (.int .i64)) := hW.2.1
    generalize e2 : a'.tm 117 = sv at s
    simp (disch := first | omega | decide) only [push_cast, ↓reduceIte, Nat.reduceLT, Nat.reduceEqDiff, reduceCtorEq, Nat.reduceAdd, hA.n, hn, hA.df, hd, e, e2, buildE (n := instsC) (cv := cv) (fv := fv) (iv := iv) (ov := ov) (e := 5) (cellSl s)]
    exact ⟨_, rfl, ⟨_, rfl, cv, fv, iv, ov, sv, rfl, r, s⟩, Gr.refl hA.gr.wf⟩
  refine freeA_cons (fun a' h' hA hW => ?_) ?_
  · obtain ⟨B, cv, fv, iv, ov, e, hN, r⟩ := p7.sub hA.gr.sub
    have e1 : a'.tm 7 = .pointer (some ⟨B, 0, none⟩) := (hA.tm 7 (by decide)).trans e
    simp (disch := first | omega | decide) only [push_cast, ↓reduceIte, Nat.reduceLT, Nat.reduceEqDiff, reduceCtorEq, Nat.reduceAdd, hA.n, hn, hA.df, hd, e1, hN.l0, hN.l1, hN.l2, hN.l3, hN.l4, hN.la]
    exact ⟨_, rfl, ⟨cv, fv, iv, ov, rfl, r⟩, Gr.refl hA.gr.wf⟩
  refine freeA_cons (fun a' h' hA hW => ?_) ?_
  · have e1 := hA.tm 8 (by decide)
    have s1 := p8.sub hA.gr.sub
    rw [← e1] at s1
    obtain ⟨v, ev⟩ : ∃ v, a'.tm 8 = v := ⟨_, rfl⟩
    rw [ev] at s1
    simp (disch := first | omega | decide) only [push_cast, ↓reduceIte, Nat.reduceLT, Nat.reduceEqDiff, reduceCtorEq, Nat.reduceAdd, hA.n, hn, hA.df, hd, ev]
    exact ⟨_, rfl, s1, Gr.refl hA.gr.wf⟩
  refine freeA_cons (fun a' h' hA hW => ?_) ?_
  · obtain ⟨cv, fv, iv, ov, e, r⟩ : NetV h' (a'.tm 119) longC := hW.1
    have s : SlOf h' (a'.tm 120) (ord32.map (.int .i64)) := hW.2.1
    generalize e2 : a'.tm 120 = sv at s
    simp (disch := first | omega | decide) only [push_cast, ↓reduceIte, Nat.reduceLT, Nat.reduceEqDiff, reduceCtorEq, Nat.reduceAdd, hA.n, hn, hA.df, hd, e, e2, buildE (n := longC) (cv := cv) (fv := fv) (iv := iv) (ov := ov) (e := 0) (cellSl s)]
    exact ⟨_, rfl, ⟨_, rfl, cv, fv, iv, ov, sv, rfl, r, s⟩, Gr.refl hA.gr.wf⟩
  refine freeA_cons (fun a' h' hA hW => ?_) ?_
  · obtain ⟨c0, e0, r0⟩ : EntV h' (a'.tm 91) (badC, [], 1) := hW.1
    obtain ⟨c1, e1, r1⟩ : EntV h' (a'.tm 94) (bareC, [0], 1) := hW.2.1
    obtain ⟨c2, e2, r2⟩ : EntV h' (a'.tm 97) (bareC, [0, 1], 20) := hW.2.2.1
    obtain ⟨c3, e3, r3⟩ : EntV h' (a'.tm 100) ((exC 202), [0, 0], 1) := hW.2.2.2.1
    obtain ⟨c4, e4, r4⟩ : EntV h' (a'.tm 103) ((exC 202), [0, 2], 1) := hW.2.2.2.2.1
    obtain ⟨c5, e5, r5⟩ : EntV h' (a'.tm 106) ((exC 202), [-1, 0], 1) := hW.2.2.2.2.2.1
    obtain ⟨c6, e6, r6⟩ : EntV h' (a'.tm 109) ((exC 202), [0, 1, 2], 1) := hW.2.2.2.2.2.2.1
    obtain ⟨c7, e7, r7⟩ : EntV h' (a'.tm 112) (wideC, [1, 0], 5) := hW.2.2.2.2.2.2.2.1
    obtain ⟨c8, e8, r8⟩ : EntV h' (a'.tm 115) (outsC, [1, 0], 5) := hW.2.2.2.2.2.2.2.2.1
    obtain ⟨c9, e9, r9⟩ : EntV h' (a'.tm 118) (instsC, [1, 0], 5) := hW.2.2.2.2.2.2.2.2.2.1
    obtain ⟨c10, e10, r10⟩ : EntV h' (a'.tm 121) (longC, ord32, 0) := hW.2.2.2.2.2.2.2.2.2.2.1
    have hall : ∀ (i : Nat) xs x, ([c0, c1, c2, c3, c4, c5, c6, c7, c8, c9, c10] : List (List Value))[i]? = some xs → exT[i]? = some x → exL.rel h' xs x := by
      intro i xs x h1 h2
      match i, h1, h2 with
      | 0, h1, h2 => cases h1; cases h2; exact r0
      | 1, h1, h2 => cases h1; cases h2; exact r1
      | 2, h1, h2 => cases h1; cases h2; exact r2
      | 3, h1, h2 => cases h1; cases h2; exact r3
      | 4, h1, h2 => cases h1; cases h2; exact r4
      | 5, h1, h2 => cases h1; cases h2; exact r5
      | 6, h1, h2 => cases h1; cases h2; exact r6
      | 7, h1, h2 => cases h1; cases h2; exact r7
      | 8, h1, h2 => cases h1; cases h2; exact r8
      | 9, h1, h2 => cases h1; cases h2; exact r9
      | 10, h1, h2 => cases h1; cases h2; exact r10
      | i + 11, h1, h2 => exact nomatch h1
    have hlen : ∀ xs ∈ ([c0, c1, c2, c3, c4, c5, c6, c7, c8, c9, c10] : List (List Value)), xs.length = 7 := fun xs hx => by
      obtain ⟨i, hi, e⟩ := List.getElem_of_mem hx
      have hx2 : i < exT.length := hi
      exact exL.len (hall i xs (exT[i]) (by rw [← e]; exact List.getElem?_eq_getElem hi) (List.getElem?_eq_getElem hx2))
    have hone : ∀ xs ∈ ([c0, c1, c2, c3, c4, c5, c6, c7, c8, c9, c10] : List (List Value)), xs.all oneC = true := fun xs hx => by
      obtain ⟨i, hi, e⟩ := List.getElem_of_mem hx
      have hx2 : i < exT.length := hi
      exact List.all_eq_true.2 (exL.one (hall i xs (exT[i]) (by rw [← e]; exact List.getElem?_eq_getElem hi) (List.getElem?_eq_getElem hx2)))
    have hb := aBuildL smE (by decide) h' (xss := [c0, c1, c2, c3, c4, c5, c6, c7, c8, c9, c10]) (show 11 ≤ 1000 by decide) hlen hone
    have g := (Gr.refl hA.gr.wf).new (.row ([c0, c1, c2, c3, c4, c5, c6, c7, c8, c9, c10] : List (List Value)).flatten 51 true)
    have hrow : RowOf exL (h'.new (.row ([c0, c1, c2, c3, c4, c5, c6, c7, c8, c9, c10] : List (List Value)).flatten 51 true)) (slv h'.next 11) exT := row_new (L := exL) (xss := [c0, c1, c2, c3, c4, c5, c6, c7, c8, c9, c10]) rfl (by show 11 < SL; unfold SL; omega) hlen (fun i xs x h1 h2 => exL.mono g.sub (hall i xs x h1 h2))
    generalize h'.new (.row ([c0, c1, c2, c3, c4, c5, c6, c7, c8, c9, c10] : List (List Value)).flatten 51 true) = h2 at hb g hrow
    have hb : aBuildSlice Try.prog 52 11 [(0, .agg c0.toArray), (1, .agg c1.toArray), (2, .agg c2.toArray), (3, .agg c3.toArray), (4, .agg c4.toArray), (5, .agg c5.toArray), (6, .agg c6.toArray), (7, .agg c7.toArray), (8, .agg c8.toArray), (9, .agg c9.toArray), (10, .agg c10.toArray)] h' = some (slv h'.next 11, h2) := hb
    simp (disch := first | omega | decide) only [push_cast, ↓reduceIte, Nat.reduceLT, Nat.reduceEqDiff, reduceCtorEq, Nat.reduceAdd, hA.n, hn, hA.df, hd, e0, e1, e2, e3, e4, e5, e6, e7, e8, e9, e10, hb]
    exact ⟨_, rfl, ⟨_, rfl, hrow⟩, g⟩
  refine freeA_cons (fun a' h' hA hW => ?_) ?_
  · obtain ⟨T, e, r⟩ : RowE h' (a'.tm 122) := hW.1
    simp (disch := first | omega | decide) only [push_cast, ↓reduceIte, Nat.reduceLT, Nat.reduceEqDiff, reduceCtorEq, Nat.reduceAdd, hA.n, hn, hA.df, hd, e, lenSl Try.underlying52]
    exact ⟨_, rfl, rfl, Gr.refl hA.gr.wf⟩
  refine freeA_cons (fun a' h' hA hW => ?_) ?_
  · simp (disch := first | omega | decide) only [push_cast, ↓reduceIte, Nat.reduceLT, Nat.reduceEqDiff, reduceCtorEq, Nat.reduceAdd, hA.n, hn, hA.df, hd]
    exact ⟨_, rfl, rfl, Gr.refl hA.gr.wf⟩
  exact freeA_nil


theorem okL {t : Int} (h0 : 0 ≤ t) (h1 : t < 256) : ∀ c ∈ libC t, CellOK c := by
  intro c hc
  simp only [libC, List.mem_cons, List.not_mem_nil, or_false] at hc
  rcases hc with rfl | rfl
  · exact ⟨by decide, by decide, by decide⟩
  · exact ⟨h0, by show t < 18446744073709551616; omega, by show 3 ≤ 4611686018427387904; decide⟩
theorem okEx {t : Int} (h0 : 0 ≤ t) (h1 : t < 256) : NetOK (exC t) := ⟨okL h0 h1, fun x hx => (nomatch hx), by show 2 ≤ 4611686018427387904; decide, Nat.zero_le _, by show 1 ≤ 4611686018427387904; decide⟩
theorem okBad : NetOK badC := ⟨okL (by decide) (by decide), fun x hx => (nomatch hx), by decide, by decide, by decide⟩
theorem okBare : NetOK bareC := ⟨fun c hc => okL (t := 202) (by decide) (by decide) c (List.mem_cons.2 (.inl (by simpa [bareC] using hc))), fun x hx => (nomatch hx), by decide, by decide, by decide⟩
theorem okWide : NetOK wideC := ⟨okL (by decide) (by decide), fun x hx => (nomatch hx), by decide, by decide, by decide⟩
theorem okOuts : NetOK outsC := ⟨okL (by decide) (by decide), fun x hx => (nomatch hx), by decide, by decide, by show (List.replicate 64 (0 : Int)).length ≤ _; rw [List.length_replicate]; decide⟩
theorem okInsts : NetOK instsC := ⟨okL (by decide) (by decide), fun x hx => by rw [List.eq_of_mem_replicate hx]; decide, by decide, by show (List.replicate 4095 (⟨0, [0]⟩ : Inst)).length ≤ _; rw [List.length_replicate]; decide, by decide⟩
theorem okLong : NetOK longC := ⟨okL (by decide) (by decide), fun x hx => (nomatch hx), by show (List.replicate 32 (⟨0, 0⟩ : Flop)).length ≤ _; rw [List.length_replicate]; decide, by decide, by decide⟩
theorem okN1 : NetOK bareN1 := ⟨okL (by decide) (by decide), fun x hx => (nomatch hx), by decide, by decide, by decide⟩
theorem okOne : NetOK oneC1 := ⟨fun c hc => (nomatch hc), fun x hx => (nomatch hx), by decide, by decide, by decide⟩

theorem exT_ok : ∀ x ∈ exT, NetOK x.1 ∧ x.2.1.length ≤ 17592186043904 ∧ insE x.1 x.2.1 = x.2.2 := by
  intro x hx
  simp only [exT, List.mem_cons, List.not_mem_nil, or_false] at hx
  have h3 : ord32.length ≤ 17592186043904 := by unfold ord32; rw [List.length_map, List.length_range]; decide
  have e3 : NetOK (exC 202) := okEx (by decide) (by decide)
  rcases hx with rfl | rfl | rfl | rfl | rfl | rfl | rfl | rfl | rfl | rfl | rfl
  · exact ⟨okBad, Nat.zero_le _, ins1⟩
  · exact ⟨okBare, by decide, ins2⟩
  · exact ⟨okBare, by decide, ins3⟩
  · exact ⟨e3, by decide, ins4⟩
  · exact ⟨e3, by decide, ins5⟩
  · exact ⟨e3, by decide, ins6⟩
  · exact ⟨e3, by decide, ins7⟩
  · exact ⟨okWide, by decide, ins8⟩
  · exact ⟨okOuts, by decide, ins9⟩
  · exact ⟨okInsts, by decide, ins10⟩
  · exact ⟨okLong, h3, ins11⟩

theorem foE0 : fOff Try.prog 51 0 = some 0 := by kernel_rfl
theorem foE1 : fOff Try.prog 51 1 = some 5 := by kernel_rfl
theorem foE2 : fOff Try.prog 51 2 = some 6 := by kernel_rfl
theorem flE : Fl Try.prog 25 := ⟨_, Try.underlying25, rfl⟩
theorem zrE : Zr Try.prog 51 (zeroC ++ [.slice none 0 0, .int .i64 0]) := by
  obtain ⟨i, h1, h2⟩ : ∃ i, Try.prog.info? 51 = some i ∧ i.zero = some (.agg (zeroC ++ [Value.slice none 0 0, Value.int .i64 0]).toArray) := ⟨(Try.prog.info? 51).get (by kernel_rfl), by kernel_rfl, by kernel_rfl⟩
  exact ⟨i, _, h1, h2, rfl, rfl, rfl⟩
theorem idE : ∃ i, Try.prog.info? 51 = some i ∧ i.size = exL.sz := ⟨(Try.prog.info? 51).get (by kernel_rfl), by kernel_rfl, by kernel_rfl⟩

/-- The first cells of a block, as a struct. -/
theorem ldPre {h : AH} {A n : Nat} {o : AObj} {xs ys : List Value} (hg : h.get A = some o) (hc : o.cells? = some (xs ++ ys)) {T : TypeId} (hT : Ag Try.prog T n) (hn : xs.length = n) : aLoad Try.prog T (.pointer (some ⟨A, 0, none⟩)) h = some (.agg xs.toArray) := by
  obtain ⟨D, hD, hagg⟩ := hT.agg
  obtain ⟨ie, hie, hsz⟩ := hT.size
  subst hn
  have hl : xs.length ≤ (xs ++ ys).length := by rw [List.length_append]; omega
  simp only [aLoad, hg, Option.bind_some, hc, hD, hagg, if_true, hie, hsz, Nat.zero_add, hl, List.drop_zero, List.take_left]

theorem exL4 {a : AAct} {h : AH} (hn : a.n = 370) (hd : a.df = []) (w0 : WFH h) (hT : ∃ T, a.tm 122 = slv T 11) (hr : RowOf exL h (a.tm 122) exT) (t123 : a.tm 123 = .int .i64 11) (t124 : a.tm 124 = .int .i64 0) :
    AW Try.prog none (bodyBlk Try.f6 4) (fun e a' h' => e = .exit 4 ∧ a'.n = 370 ∧ a'.df = [] ∧ Gr h h' ∧ (∀ t, t < 11 → a'.tm t = a.tm t)) a h := by
  refine AW.at (rfl : bodyBlk Try.f6 4 = .loop _) ?_
  obtain ⟨T, t122⟩ := hT
  rw [t122] at hr
  refine AW.loopN 124 [11, 12, 13] (fun q a' h' => ∃ (i : Nat), a'.tm 124 = .int .i64 i ∧ i + q = 11 ∧ Gr h h') 11 ?_ ?_
  · exact ⟨0, by rw [t124]; rfl, by omega, Gr.refl w0⟩
  rintro a1 q a' k hk kn kd kt ⟨i, h124, hiq, g⟩
  simp (disch := first | omega | decide) only [push_cast, ↓reduceIte, Nat.reduceLT, Nat.reduceEqDiff, reduceCtorEq, Nat.reduceAdd, kn, kd, kt, hn, hd, h124, t123, t122]
  refine condV_of (fun hlt => ?_) (fun hge => ?_)
  · have hi : i < 11 := by have := hlt; simp at this; omega
    have hi' : i < exT.length := hi
    obtain ⟨ok, hlen, hins⟩ := exT_ok (exT.getD i (badC, [], 1)) (by rw [List.getD_eq_getElem?_getD, List.getElem?_eq_getElem hi']; exact List.getElem_mem hi')
    have hrk := hr.sub g.sub
    obtain ⟨cs, ⟨cv, fv, iv, ov, sv, rfl, r, hs⟩, hla, -, -⟩ := hrk.get hi' (badC, [], 1)
    have hix := hrk.idx Try.underlying52 idE .i64 i (by omega) (by show (i : Int) < ((11 : Nat) : Int); omega)
    rw [Int.toNat_natCast] at hix
    have hla := hla _ agE
    generalize exT.getD i (badC, [], 1) = x at ok hlen hins r hs hla
    obtain ⟨n, ord, e⟩ := x
    have gz := (Gr.refl g.wf).new (.row (zeroC ++ [.slice none 0 0, .int .i64 0]) 51 true)
    have hz : (k.new (.row (zeroC ++ [.slice none 0 0, .int .i64 0]) 51 true)).get k.next = some (.row (zeroC ++ [.slice none 0 0, .int .i64 0]) 51 true) := by rw [AH.new_get, if_pos rfl]
    have hone : (netC n cv fv iv ov ++ [sv, .int .i64 e]).all oneC = true := List.all_eq_true.2 (exL.one (x := (n, ord, e)) (h := k) ⟨cv, fv, iv, ov, sv, rfl, r, hs⟩)
    have hst := stA agE hz rfl (netC n cv fv iv ov ++ [sv, .int .i64 e]) rfl hone
    have g1 := gz.set g.wf (Nat.le_refl _) (AH.get_lt gz.wf hz) (.row (netC n cv fv iv ov ++ [sv, .int .i64 e]) 51 true)
    have hC : ((k.new (.row (zeroC ++ [.slice none 0 0, .int .i64 0]) 51 true)).set k.next (.row (netC n cv fv iv ov ++ [sv, .int .i64 e]) 51 true)).get k.next = some (.row (netC n cv fv iv ov ++ [sv, .int .i64 e]) 51 true) := by rw [AH.set_get, if_pos rfl]
    have gr1 := g.trans g1
    replace r := r.sub g1.sub
    replace hs := hs.sub g1.sub
    have hl0 := ldPre hC rfl agN rfl
    have hl1 : aLoad Try.prog 22 (.pointer (some ⟨k.next, 5, none⟩)) _ = some sv := ldL hC rfl flI 5 (by show 5 < 7; decide)
    have hst : aStore Try.prog 51 _ (.agg (netC n cv fv iv ov ++ [sv, .int .i64 e]).toArray) _ = _ := hst
    simp (disch := first | omega | decide) only [push_cast, ↓reduceIte, Nat.reduceLT, Nat.reduceEqDiff, reduceCtorEq, Nat.reduceAdd, kn, kd, kt, hn, hd, h124, t123, t122, hix, hla, alL zrE, hst, faL foE0, faL foE1, hl0, hl1]
    generalize (k.new (.row (zeroC ++ [.slice none 0 0, .int .i64 0]) 51 true)).set k.next (.row (netC n cv fv iv ov ++ [sv, .int .i64 e]) 51 true) = k1 at g1 hC gr1 r hs hl0 hl1 ⊢
    refine ACall.mono ?_ (insertN r ok hs hlen)
    rintro _ k2 ⟨g2, c2, f2, i2, o2, rfl, r2⟩
    have gr2 := gr1.trans g2
    have g3 := (Gr.refl g2.wf).new (.row zeroC 34 true)
    have hX : (k2.new (.row zeroC 34 true)).get k2.next = some (.row zeroC 34 true) := by rw [AH.new_get, if_pos rfl]
    have hst2 := stA agN hX rfl (netC (insR n ord) c2 f2 i2 o2) rfl r2.one
    have g4 := g3.set g2.wf (Nat.le_refl _) (AH.get_lt g3.wf hX) (.row (netC (insR n ord) c2 f2 i2 o2) 34 true)
    have hN : NetAt ((k2.new (.row zeroC 34 true)).set k2.next (.row (netC (insR n ord) c2 f2 i2 o2) 34 true)) k2.next (insR n ord) c2 f2 i2 o2 := ⟨_, by rw [AH.set_get, if_pos rfl], rfl⟩
    have hC2 := (g2.trans g4).sub _ _ hC
    have hl2 : aLoad Try.prog 25 (.pointer (some ⟨k.next, 6, none⟩)) _ = some (.int .i64 e) := ldL hC2 rfl flE 6 (by show 6 < 7; decide)
    have r3 := r2.sub g4.sub
    have gr4 := gr2.trans g4
    have hw : IntKind.i64.wrap ((i : Int) + 1) = i + 1 := wrapI (by omega) (by omega)
    have hins : insE n ord = e := hins
    by_cases he : e = 0
    · simp (disch := first | omega | decide) only [push_cast, ↓reduceIte, Nat.reduceLT, Nat.reduceEqDiff, reduceCtorEq, Nat.reduceAdd, kn, kd, kt, hn, hd, h124, t123, t122, alL zrN, hst2, hins, faL foE2, hl2, he, hw]
      exact ⟨q - 1, by omega, (by simp (disch := decide) only [Kp_put, put_none, hk]), i + 1, by simp (disch := first | omega | decide) only [push_cast, ↓reduceIte, Nat.reduceLT, Nat.reduceEqDiff, reduceCtorEq, Nat.reduceAdd], by omega, gr4⟩
    · simp (disch := first | omega | decide) only [push_cast, ↓reduceIte, Nat.reduceLT, Nat.reduceEqDiff, reduceCtorEq, Nat.reduceAdd, kn, kd, kt, hn, hd, h124, t123, t122, alL zrN, hst2, hins, faL foE2, hl2, he, hN.l0, hN.l1, hN.l2, hN.l3, hN.l4, hN.la, buildN0]
      have hR : insR n ord = zeroN := by unfold insR; rw [if_neg (by rw [hins]; exact he)]
      rw [hR] at r3 gr4 ⊢
      refine ACall.mono ?_ (same29 (c2 := .slice none 0 0) (f2 := .slice none 0 0) (i2 := .slice none 0 0) (o2 := .slice none 0 0) r3 ⟨rowNil, rowNil, rowNil, SlOf.nil _⟩ ⟨by decide, fun c hc => (nomatch hc), by decide, by decide, fun c hc => (nomatch hc), by decide⟩)
      rintro _ k4 ⟨rfl, rfl⟩
      simp (disch := first | omega | decide) only [push_cast, ↓reduceIte, Nat.reduceLT, Nat.reduceEqDiff, reduceCtorEq, Nat.reduceAdd, kn, kd, kt, hn, hd, h124, hw]
      exact ⟨q - 1, by omega, (by simp (disch := decide) only [Kp_put, put_none, hk]), i + 1, by simp (disch := first | omega | decide) only [push_cast, ↓reduceIte, Nat.reduceLT, Nat.reduceEqDiff, reduceCtorEq, Nat.reduceAdd], by omega, gr4⟩
  · simp (disch := first | omega | decide) only [push_cast, ↓reduceIte, Nat.reduceLT, Nat.reduceEqDiff, reduceCtorEq, Nat.reduceAdd, kn, kd, kt, hn, hd, h124, t123, t122]
    exact ⟨g, fun t ht => by
      repeat rw [if_neg (by omega)]
      exact kt t (by omega) (by simp; omega)⟩


/-- What a region leaves. -/
structure Nx (X : List Nat) (a : AAct) (h : AH) (a' : AAct) (h' : AH) : Prop where
  n : a'.n = 370
  d : a'.df = []
  g : Gr h h'
  k : ∀ t, t < 151 → t ∉ X → a'.tm t = a.tm t

theorem patFail {h : AH} {n : Net} {cv fv iv ov v sv xv : Value} {ord : List Int} {st inp : List Bool} {e : Int} (r : NetR h n cv fv iv ov) (ok : NetOK n) (hv : SlOf h v (ord.map (.int .i64))) (hs : SlOf h sv (st.map .bool)) (hx : SlOf h xv (inp.map .bool)) (hb : ord.length ≤ 17592186043904) (he : patE n ord st inp = e) (hne : e ≠ 0) :
    ACall Try.prog 21 [.agg (netC n cv fv iv ov).toArray, v, sv, xv] h (fun r h' => r = .tuple #[.slice none 0 0, .int .i64 e] ∧ Gr h h') :=
  ACall.mono (fun r h' p => by
    rcases p with ⟨_, g, e1⟩ | ⟨e1, _⟩
    · exact ⟨by rw [e1, he], g⟩
    · exact absurd (he.symm.trans e1) hne) (patternN r ok hv hs hx hb)

theorem makeB (h : AH) (n : Nat) (hn : n ≤ 64) : aMakeSlice Try.prog 23 (.int .i64 n) (.int .i64 n) h = some (slv h.next n, h.new (.row (List.replicate n (.bool false)) 4 true)) := aMakeSlice_at t23 h n (by omega) (by omega)
theorem slB (h : AH) (n : Nat) : SlOf (h.new (.row (List.replicate n (.bool false)) 4 true)) (slv h.next n) ((List.replicate n false).map .bool) := by
  refine SlOf.lit (by rw [AH.new_get, if_pos rfl]) ?_ ?_
  · show some (List.replicate n (Value.bool false)) = _
    rw [List.map_replicate]
  · rw [List.length_map, List.length_replicate]

theorem exR24 {a : AAct} {h : AH} {N : AAct → AH → Prop} (hn : a.n = 370) (hd : a.df = []) (w : WFH h) (p1 : NetP h (a.tm 1) badC) (hN : ∀ a' h', Nx [14, 15] a h a' h' → a'.tm 15 = .int .i64 1 → N a' h') :
    opsM Try.prog (opsOf Try.f6 24) N (opsOf Try.f6 24).toList a h := by
  refine opsM.at (rfl : #[_, _, _, _, _, _, _] = _) (rfl : [_, _, _, _, _, _, _] = _) ?_
  obtain ⟨B, cv, fv, iv, ov, t1, hB, r⟩ := p1
  simp (disch := first | omega | decide) only [push_cast, ↓reduceIte, Nat.reduceLT, Nat.reduceEqDiff, reduceCtorEq, Nat.reduceAdd, hn, hd, t1, hB.l0, hB.l1, hB.l2, hB.l3, hB.l4, hB.la]
  refine ACall.mono ?_ (patFail r okBad (ord := []) (st := []) (inp := []) (SlOf.nil _) (SlOf.nil _) (SlOf.nil _) (Nat.zero_le _) patA (by decide))
  rintro _ h2 ⟨rfl, g⟩
  simp (disch := first | omega | decide) only [push_cast, ↓reduceIte, Nat.reduceLT, Nat.reduceEqDiff, reduceCtorEq, Nat.reduceAdd, hn, hd]
  exact hN _ _ ⟨by simp (disch := first | omega | decide) only [push_cast, ↓reduceIte, Nat.reduceLT, Nat.reduceEqDiff, reduceCtorEq, Nat.reduceAdd, hn], by simp (disch := first | omega | decide) only [push_cast, ↓reduceIte, Nat.reduceLT, Nat.reduceEqDiff, reduceCtorEq, Nat.reduceAdd, hd], g, fun t h1 h2 => by simp only [List.mem_cons, List.not_mem_nil, or_false, not_or] at h2; simp only [put_tm]; repeat rw [if_neg (by omega)]⟩ (by simp (disch := first | omega | decide) only [push_cast, ↓reduceIte, Nat.reduceLT, Nat.reduceEqDiff, reduceCtorEq, Nat.reduceAdd])


theorem exR25 {a : AAct} {h : AH} {N : AAct → AH → Prop} (hn : a.n = 370) (hd : a.df = []) (w : WFH h)  (hN : ∀ a' h', Nx [16, 17] a h a' h' → a'.tm 17 = .int .i64 1 → N a' h') :
    opsM Try.prog (opsOf Try.f6 25) N (opsOf Try.f6 25).toList a h := by
  refine opsM.at (rfl : #[_, _, _, _, _, _, _, _] = _) (rfl : [_, _, _, _, _, _, _, _] = _) ?_
  simp (disch := first | omega | decide) only [push_cast, ↓reduceIte, Nat.reduceLT, Nat.reduceEqDiff, reduceCtorEq, Nat.reduceAdd, hn, hd]
  refine ACall.mono ?_ (exN h)
  rintro _ h1 ⟨g1, A, F, O, rfl, -, x⟩
  have hb := aBuild1 t22 h1 (x := .int .i64 0) rfl rfl
  have g2 := (Gr.refl g1.wf).new (.row [.int .i64 0] 3 true)
  have s2 : SlOf (h1.new (.row [.int .i64 0] 3 true)) (.slice (some ⟨h1.next, 0, none⟩) 1 1) (([0] : List Int).map (.int .i64)) := SlOf.lit (by rw [AH.new_get, if_pos rfl]) rfl rfl
  simp (disch := first | omega | decide) only [push_cast, ↓reduceIte, Nat.reduceLT, Nat.reduceEqDiff, reduceCtorEq, Nat.reduceAdd, hn, hd, hb]
  refine ACall.mono ?_ (patFail (x.net.sub g2.sub) (okEx (by decide) (by decide)) (ord := [0]) (st := []) (inp := []) s2 (SlOf.nil _) (SlOf.nil _) (by decide) patB (by decide))
  rintro _ h2 ⟨rfl, g3⟩
  simp (disch := first | omega | decide) only [push_cast, ↓reduceIte, Nat.reduceLT, Nat.reduceEqDiff, reduceCtorEq, Nat.reduceAdd, hn, hd]
  exact hN _ _ ⟨by simp (disch := first | omega | decide) only [push_cast, ↓reduceIte, Nat.reduceLT, Nat.reduceEqDiff, reduceCtorEq, Nat.reduceAdd, hn], by simp (disch := first | omega | decide) only [push_cast, ↓reduceIte, Nat.reduceLT, Nat.reduceEqDiff, reduceCtorEq, Nat.reduceAdd, hd], (g1.trans g2).trans g3, fun t h1 h2 => by simp only [List.mem_cons, List.not_mem_nil, or_false, not_or] at h2; simp only [put_tm]; repeat rw [if_neg (by omega)]⟩ (by simp (disch := first | omega | decide) only [push_cast, ↓reduceIte, Nat.reduceLT, Nat.reduceEqDiff, reduceCtorEq, Nat.reduceAdd])


inductive Ky where
  | net (n : Net)
  | ord (l : List Int)
  | bls (l : List Bool)
  | val (v : Value)
def kyF (h : AH) (v : Value) : Ky → Prop
  | .net n => NetV h v n
  | .ord l => SlOf h v (l.map (.int .i64))
  | .bls l => SlOf h v (l.map .bool)
  | .val u => v = u
def ky (L : List Ky) (i : Nat) (v : Value) (h : AH) : Prop := kyF h v (L.getD i (.val undef))

theorem ky_sub (L : List Ky) : ∀ i v h1 h2, ky L i v h1 → Gr h1 h2 → ky L i v h2 := by
  intro i v h1 h2 hF g
  unfold ky at hF ⊢
  generalize L.getD i (.val undef) = k at hF ⊢
  cases k with
  | net n => exact (let ⟨a, b, c, d, e, r⟩ := hF; ⟨a, b, c, d, e, r.sub g.sub⟩)
  | ord l => exact SlOf.sub hF g.sub
  | bls l => exact SlOf.sub hF g.sub
  | val u => exact hF

def ky26 : List Ky := [.net (exC 202), .ord [0, 1], .bls (List.replicate 1 false), .bls (List.replicate 1 false), .val (.tuple #[.slice none 0 0, .int .i64 12]), .val (.tuple #[.slice none 0 0, .int .i64 12]), .val (.slice none 0 0), .val (.int .i64 12), .val (.slice none 0 0), .val (.int .i64 12)]
theorem exR26 {a : AAct} {h : AH} (hn : a.n = 370) (hd : a.df = [])  :
    AW Try.prog none (.region 26 (opsOf Try.f6 26) true) (fun e a' h' => e = .normal ∧ Nx [18, 19] a h a' h' ∧ a'.tm 19 = .int .i64 12) a h := by
  refine AW.at (by rfl : _ = Code.region 26 #[_, _, _, _, _, _, _, _, _, _] true) ?_
  refine AW.freeAll (ky ky26) [163, 164, 165, 166, 167, 162, 168, 169, 18, 19] [[], [], [], [], [0, 1, 2, 3], [4], [5], [5], [6], [7]] mixed (by kernel_rfl) (ky_sub _) (fun hwf => ?_) (fun a' h' hA hF => ⟨rfl, ⟨by rw [hA.n, hn], by rw [hA.df, hd], hA.gr, fun t h1 h2 => hA.tm t (by simp only [List.mem_cons, List.not_mem_nil, or_false, not_or] at h2 ⊢; omega)⟩, hF 9 (by decide)⟩)
  simp only [List.toList_toArray]
  refine freeA_cons (fun a' h' hA hW => ?_) ?_
  · simp (disch := first | omega | decide) only [push_cast, ↓reduceIte, Nat.reduceLT, Nat.reduceEqDiff, reduceCtorEq, Nat.reduceAdd, hA.n, hn, hA.df, hd]
    refine ACall.mono ?_ (exN h')
    rintro _ h2 ⟨g, A, F, O, rfl, -, x⟩
    simp (disch := first | omega | decide) only [push_cast, ↓reduceIte, Nat.reduceLT, Nat.reduceEqDiff, reduceCtorEq, Nat.reduceAdd, hA.n, hn, hA.df, hd]
    exact ⟨_, rfl, ⟨_, _, _, _, rfl, x.net⟩, g⟩
  refine freeA_cons (fun a' h' hA hW => ?_) ?_
  · simp (disch := first | omega | decide) only [push_cast, ↓reduceIte, Nat.reduceLT, Nat.reduceEqDiff, reduceCtorEq, Nat.reduceAdd, hA.n, hn, hA.df, hd, aBuild2 h' 0 1]
    exact ⟨_, rfl, SlOf.lit (by rw [AH.new_get, if_pos rfl]) rfl rfl, (Gr.refl hA.gr.wf).new _⟩
  refine freeA_cons (fun a' h' hA hW => ?_) ?_
  · have hm : aMakeSlice Try.prog 23 (.int .i64 1) (.int .i64 1) h' = some (slv h'.next 1, h'.new (.row (List.replicate 1 (.bool false)) 4 true)) := makeB h' 1 (by decide)
    simp (disch := first | omega | decide) only [push_cast, ↓reduceIte, Nat.reduceLT, Nat.reduceEqDiff, reduceCtorEq, Nat.reduceAdd, hA.n, hn, hA.df, hd, hm]
    exact ⟨_, rfl, slB h' 1, (Gr.refl hA.gr.wf).new _⟩
  refine freeA_cons (fun a' h' hA hW => ?_) ?_
  · have hm : aMakeSlice Try.prog 23 (.int .i64 1) (.int .i64 1) h' = some (slv h'.next 1, h'.new (.row (List.replicate 1 (.bool false)) 4 true)) := makeB h' 1 (by decide)
    simp (disch := first | omega | decide) only [push_cast, ↓reduceIte, Nat.reduceLT, Nat.reduceEqDiff, reduceCtorEq, Nat.reduceAdd, hA.n, hn, hA.df, hd, hm]
    exact ⟨_, rfl, slB h' 1, (Gr.refl hA.gr.wf).new _⟩
  refine freeA_cons (fun a' h' hA hW => ?_) ?_
  · obtain ⟨cv, fv, iv, ov, e0, r⟩ : NetV h' (a'.tm 163) (exC 202) := hW.1
    have s1 : SlOf h' (a'.tm 164) (([0, 1] : List Int).map (.int .i64)) := hW.2.1
    have s2 : SlOf h' (a'.tm 165) ((List.replicate 1 false).map .bool) := hW.2.2.1
    obtain ⟨v1, e1⟩ : ∃ v, a'.tm 164 = v := ⟨_, rfl⟩
    obtain ⟨v2, e2⟩ : ∃ v, a'.tm 165 = v := ⟨_, rfl⟩
    rw [e1] at s1
    rw [e2] at s2
    have s3 : SlOf h' (a'.tm 166) ((List.replicate 1 false).map .bool) := hW.2.2.2.1
    obtain ⟨v3, e3⟩ : ∃ v, a'.tm 166 = v := ⟨_, rfl⟩
    rw [e3] at s3
    simp (disch := first | omega | decide) only [push_cast, ↓reduceIte, Nat.reduceLT, Nat.reduceEqDiff, reduceCtorEq, Nat.reduceAdd, hA.n, hn, hA.df, hd, e0, e1, e2, e3]
    refine ACall.mono ?_ (patFail r (okEx (by decide) (by decide)) s1 s2 s3 (by decide) patC (by decide))
    rintro _ h2 ⟨rfl, g⟩
    simp (disch := first | omega | decide) only [push_cast, ↓reduceIte, Nat.reduceLT, Nat.reduceEqDiff, reduceCtorEq, Nat.reduceAdd, hA.n, hn, hA.df, hd]
    exact ⟨_, rfl, rfl, g⟩
  refine freeA_cons (fun a' h' hA hW => ?_) ?_
  · have e : a'.tm 167 = .tuple #[.slice none 0 0, .int .i64 12] := hW.1
    simp (disch := first | omega | decide) only [push_cast, ↓reduceIte, Nat.reduceLT, Nat.reduceEqDiff, reduceCtorEq, Nat.reduceAdd, hA.n, hn, hA.df, hd, e]
    exact ⟨_, rfl, rfl, Gr.refl hA.gr.wf⟩
  refine freeA_cons (fun a' h' hA hW => ?_) ?_
  · have e : a'.tm 162 = .tuple #[.slice none 0 0, .int .i64 12] := hW.1
    simp (disch := first | omega | decide) only [push_cast, ↓reduceIte, Nat.reduceLT, Nat.reduceEqDiff, reduceCtorEq, Nat.reduceAdd, hA.n, hn, hA.df, hd, e]
    exact ⟨_, rfl, rfl, Gr.refl hA.gr.wf⟩
  refine freeA_cons (fun a' h' hA hW => ?_) ?_
  · have e : a'.tm 162 = .tuple #[.slice none 0 0, .int .i64 12] := hW.1
    simp (disch := first | omega | decide) only [push_cast, ↓reduceIte, Nat.reduceLT, Nat.reduceEqDiff, reduceCtorEq, Nat.reduceAdd, hA.n, hn, hA.df, hd, e]
    exact ⟨_, rfl, rfl, Gr.refl hA.gr.wf⟩
  refine freeA_cons (fun a' h' hA hW => ?_) ?_
  · have e : a'.tm 168 = .slice none 0 0 := hW.1
    simp (disch := first | omega | decide) only [push_cast, ↓reduceIte, Nat.reduceLT, Nat.reduceEqDiff, reduceCtorEq, Nat.reduceAdd, hA.n, hn, hA.df, hd, e]
    exact ⟨_, rfl, rfl, Gr.refl hA.gr.wf⟩
  refine freeA_cons (fun a' h' hA hW => ?_) ?_
  · have e : a'.tm 169 = .int .i64 12 := hW.1
    simp (disch := first | omega | decide) only [push_cast, ↓reduceIte, Nat.reduceLT, Nat.reduceEqDiff, reduceCtorEq, Nat.reduceAdd, hA.n, hn, hA.df, hd, e]
    exact ⟨_, rfl, rfl, Gr.refl hA.gr.wf⟩
  exact freeA_nil

def ky27 : List Ky := [.net (exC 202), .ord [0, 1], .bls (List.replicate 2 false), .val (.tuple #[.slice none 0 0, .int .i64 12]), .val (.tuple #[.slice none 0 0, .int .i64 12]), .val (.slice none 0 0), .val (.int .i64 12), .val (.slice none 0 0), .val (.int .i64 12)]
theorem exR27 {a : AAct} {h : AH} (hn : a.n = 370) (hd : a.df = [])  :
    AW Try.prog none (.region 27 (opsOf Try.f6 27) true) (fun e a' h' => e = .normal ∧ Nx [20, 21] a h a' h' ∧ a'.tm 21 = .int .i64 12) a h := by
  refine AW.at (by rfl : _ = Code.region 27 #[_, _, _, _, _, _, _, _, _] true) ?_
  refine AW.freeAll (ky ky27) [171, 172, 173, 174, 170, 175, 176, 20, 21] [[], [], [], [0, 1, 2], [3], [4], [4], [5], [6]] mixed (by kernel_rfl) (ky_sub _) (fun hwf => ?_) (fun a' h' hA hF => ⟨rfl, ⟨by rw [hA.n, hn], by rw [hA.df, hd], hA.gr, fun t h1 h2 => hA.tm t (by simp only [List.mem_cons, List.not_mem_nil, or_false, not_or] at h2 ⊢; omega)⟩, hF 8 (by decide)⟩)
  simp only [List.toList_toArray]
  refine freeA_cons (fun a' h' hA hW => ?_) ?_
  · simp (disch := first | omega | decide) only [push_cast, ↓reduceIte, Nat.reduceLT, Nat.reduceEqDiff, reduceCtorEq, Nat.reduceAdd, hA.n, hn, hA.df, hd]
    refine ACall.mono ?_ (exN h')
    rintro _ h2 ⟨g, A, F, O, rfl, -, x⟩
    simp (disch := first | omega | decide) only [push_cast, ↓reduceIte, Nat.reduceLT, Nat.reduceEqDiff, reduceCtorEq, Nat.reduceAdd, hA.n, hn, hA.df, hd]
    exact ⟨_, rfl, ⟨_, _, _, _, rfl, x.net⟩, g⟩
  refine freeA_cons (fun a' h' hA hW => ?_) ?_
  · simp (disch := first | omega | decide) only [push_cast, ↓reduceIte, Nat.reduceLT, Nat.reduceEqDiff, reduceCtorEq, Nat.reduceAdd, hA.n, hn, hA.df, hd, aBuild2 h' 0 1]
    exact ⟨_, rfl, SlOf.lit (by rw [AH.new_get, if_pos rfl]) rfl rfl, (Gr.refl hA.gr.wf).new _⟩
  refine freeA_cons (fun a' h' hA hW => ?_) ?_
  · have hm : aMakeSlice Try.prog 23 (.int .i64 2) (.int .i64 2) h' = some (slv h'.next 2, h'.new (.row (List.replicate 2 (.bool false)) 4 true)) := makeB h' 2 (by decide)
    simp (disch := first | omega | decide) only [push_cast, ↓reduceIte, Nat.reduceLT, Nat.reduceEqDiff, reduceCtorEq, Nat.reduceAdd, hA.n, hn, hA.df, hd, hm]
    exact ⟨_, rfl, slB h' 2, (Gr.refl hA.gr.wf).new _⟩
  refine freeA_cons (fun a' h' hA hW => ?_) ?_
  · obtain ⟨cv, fv, iv, ov, e0, r⟩ : NetV h' (a'.tm 171) (exC 202) := hW.1
    have s1 : SlOf h' (a'.tm 172) (([0, 1] : List Int).map (.int .i64)) := hW.2.1
    have s2 : SlOf h' (a'.tm 173) ((List.replicate 2 false).map .bool) := hW.2.2.1
    obtain ⟨v1, e1⟩ : ∃ v, a'.tm 172 = v := ⟨_, rfl⟩
    obtain ⟨v2, e2⟩ : ∃ v, a'.tm 173 = v := ⟨_, rfl⟩
    rw [e1] at s1
    rw [e2] at s2
    simp (disch := first | omega | decide) only [push_cast, ↓reduceIte, Nat.reduceLT, Nat.reduceEqDiff, reduceCtorEq, Nat.reduceAdd, hA.n, hn, hA.df, hd, e0, e1, e2]
    refine ACall.mono ?_ (patFail r (okEx (by decide) (by decide)) s1 s2 (inp := []) (SlOf.nil _) (by decide) patD (by decide))
    rintro _ h2 ⟨rfl, g⟩
    simp (disch := first | omega | decide) only [push_cast, ↓reduceIte, Nat.reduceLT, Nat.reduceEqDiff, reduceCtorEq, Nat.reduceAdd, hA.n, hn, hA.df, hd]
    exact ⟨_, rfl, rfl, g⟩
  refine freeA_cons (fun a' h' hA hW => ?_) ?_
  · have e : a'.tm 174 = .tuple #[.slice none 0 0, .int .i64 12] := hW.1
    simp (disch := first | omega | decide) only [push_cast, ↓reduceIte, Nat.reduceLT, Nat.reduceEqDiff, reduceCtorEq, Nat.reduceAdd, hA.n, hn, hA.df, hd, e]
    exact ⟨_, rfl, rfl, Gr.refl hA.gr.wf⟩
  refine freeA_cons (fun a' h' hA hW => ?_) ?_
  · have e : a'.tm 170 = .tuple #[.slice none 0 0, .int .i64 12] := hW.1
    simp (disch := first | omega | decide) only [push_cast, ↓reduceIte, Nat.reduceLT, Nat.reduceEqDiff, reduceCtorEq, Nat.reduceAdd, hA.n, hn, hA.df, hd, e]
    exact ⟨_, rfl, rfl, Gr.refl hA.gr.wf⟩
  refine freeA_cons (fun a' h' hA hW => ?_) ?_
  · have e : a'.tm 170 = .tuple #[.slice none 0 0, .int .i64 12] := hW.1
    simp (disch := first | omega | decide) only [push_cast, ↓reduceIte, Nat.reduceLT, Nat.reduceEqDiff, reduceCtorEq, Nat.reduceAdd, hA.n, hn, hA.df, hd, e]
    exact ⟨_, rfl, rfl, Gr.refl hA.gr.wf⟩
  refine freeA_cons (fun a' h' hA hW => ?_) ?_
  · have e : a'.tm 175 = .slice none 0 0 := hW.1
    simp (disch := first | omega | decide) only [push_cast, ↓reduceIte, Nat.reduceLT, Nat.reduceEqDiff, reduceCtorEq, Nat.reduceAdd, hA.n, hn, hA.df, hd, e]
    exact ⟨_, rfl, rfl, Gr.refl hA.gr.wf⟩
  refine freeA_cons (fun a' h' hA hW => ?_) ?_
  · have e : a'.tm 176 = .int .i64 12 := hW.1
    simp (disch := first | omega | decide) only [push_cast, ↓reduceIte, Nat.reduceLT, Nat.reduceEqDiff, reduceCtorEq, Nat.reduceAdd, hA.n, hn, hA.df, hd, e]
    exact ⟨_, rfl, rfl, Gr.refl hA.gr.wf⟩
  exact freeA_nil

def ky28 : List Ky := [.net longC, .ord ord32, .bls (List.replicate 32 false), .val (.tuple #[.slice none 0 0, .int .i64 5]), .val (.tuple #[.slice none 0 0, .int .i64 5]), .val (.slice none 0 0), .val (.int .i64 5), .val (.slice none 0 0), .val (.int .i64 5)]
theorem exR28 {a : AAct} {h : AH} (hn : a.n = 370) (hd : a.df = []) (p7 : NetP h (a.tm 7) longC) (p8 : SlOf h (a.tm 8) (ord32.map (.int .i64))) :
    AW Try.prog none (.region 28 (opsOf Try.f6 28) true) (fun e a' h' => e = .normal ∧ Nx [22, 23] a h a' h' ∧ a'.tm 23 = .int .i64 5) a h := by
  refine AW.at (by rfl : _ = Code.region 28 #[_, _, _, _, _, _, _, _, _] true) ?_
  refine AW.freeAll (ky ky28) [178, 179, 180, 181, 177, 182, 183, 22, 23] [[], [], [], [0, 1, 2], [3], [4], [4], [5], [6]] mixed (by kernel_rfl) (ky_sub _) (fun hwf => ?_) (fun a' h' hA hF => ⟨rfl, ⟨by rw [hA.n, hn], by rw [hA.df, hd], hA.gr, fun t h1 h2 => hA.tm t (by simp only [List.mem_cons, List.not_mem_nil, or_false, not_or] at h2 ⊢; omega)⟩, hF 8 (by decide)⟩)
  simp only [List.toList_toArray]
  refine freeA_cons (fun a' h' hA hW => ?_) ?_
  · obtain ⟨B, cv, fv, iv, ov, e, hN, r⟩ := p7.sub hA.gr.sub
    have e1 : a'.tm 7 = .pointer (some ⟨B, 0, none⟩) := (hA.tm 7 (by decide)).trans e
    simp (disch := first | omega | decide) only [push_cast, ↓reduceIte, Nat.reduceLT, Nat.reduceEqDiff, reduceCtorEq, Nat.reduceAdd, hA.n, hn, hA.df, hd, e1, hN.l0, hN.l1, hN.l2, hN.l3, hN.l4, hN.la]
    exact ⟨_, rfl, ⟨cv, fv, iv, ov, rfl, r⟩, Gr.refl hA.gr.wf⟩
  refine freeA_cons (fun a' h' hA hW => ?_) ?_
  · have e1 := hA.tm 8 (by decide)
    have s1 := p8.sub hA.gr.sub
    rw [← e1] at s1
    obtain ⟨v, ev⟩ : ∃ v, a'.tm 8 = v := ⟨_, rfl⟩
    rw [ev] at s1
    simp (disch := first | omega | decide) only [push_cast, ↓reduceIte, Nat.reduceLT, Nat.reduceEqDiff, reduceCtorEq, Nat.reduceAdd, hA.n, hn, hA.df, hd, ev]
    exact ⟨_, rfl, s1, Gr.refl hA.gr.wf⟩
  refine freeA_cons (fun a' h' hA hW => ?_) ?_
  · have hm : aMakeSlice Try.prog 23 (.int .i64 32) (.int .i64 32) h' = some (slv h'.next 32, h'.new (.row (List.replicate 32 (.bool false)) 4 true)) := makeB h' 32 (by decide)
    simp (disch := first | omega | decide) only [push_cast, ↓reduceIte, Nat.reduceLT, Nat.reduceEqDiff, reduceCtorEq, Nat.reduceAdd, hA.n, hn, hA.df, hd, hm]
    exact ⟨_, rfl, slB h' 32, (Gr.refl hA.gr.wf).new _⟩
  refine freeA_cons (fun a' h' hA hW => ?_) ?_
  · obtain ⟨cv, fv, iv, ov, e0, r⟩ : NetV h' (a'.tm 178) longC := hW.1
    have s1 : SlOf h' (a'.tm 179) (ord32.map (.int .i64)) := hW.2.1
    have s2 : SlOf h' (a'.tm 180) ((List.replicate 32 false).map .bool) := hW.2.2.1
    obtain ⟨v1, e1⟩ : ∃ v, a'.tm 179 = v := ⟨_, rfl⟩
    obtain ⟨v2, e2⟩ : ∃ v, a'.tm 180 = v := ⟨_, rfl⟩
    rw [e1] at s1
    rw [e2] at s2
    simp (disch := first | omega | decide) only [push_cast, ↓reduceIte, Nat.reduceLT, Nat.reduceEqDiff, reduceCtorEq, Nat.reduceAdd, hA.n, hn, hA.df, hd, e0, e1, e2]
    refine ACall.mono ?_ (patFail r okLong s1 s2 (inp := []) (SlOf.nil _) (by unfold ord32; rw [List.length_map, List.length_range]; decide) patEE (by decide))
    rintro _ h2 ⟨rfl, g⟩
    simp (disch := first | omega | decide) only [push_cast, ↓reduceIte, Nat.reduceLT, Nat.reduceEqDiff, reduceCtorEq, Nat.reduceAdd, hA.n, hn, hA.df, hd]
    exact ⟨_, rfl, rfl, g⟩
  refine freeA_cons (fun a' h' hA hW => ?_) ?_
  · have e : a'.tm 181 = .tuple #[.slice none 0 0, .int .i64 5] := hW.1
    simp (disch := first | omega | decide) only [push_cast, ↓reduceIte, Nat.reduceLT, Nat.reduceEqDiff, reduceCtorEq, Nat.reduceAdd, hA.n, hn, hA.df, hd, e]
    exact ⟨_, rfl, rfl, Gr.refl hA.gr.wf⟩
  refine freeA_cons (fun a' h' hA hW => ?_) ?_
  · have e : a'.tm 177 = .tuple #[.slice none 0 0, .int .i64 5] := hW.1
    simp (disch := first | omega | decide) only [push_cast, ↓reduceIte, Nat.reduceLT, Nat.reduceEqDiff, reduceCtorEq, Nat.reduceAdd, hA.n, hn, hA.df, hd, e]
    exact ⟨_, rfl, rfl, Gr.refl hA.gr.wf⟩
  refine freeA_cons (fun a' h' hA hW => ?_) ?_
  · have e : a'.tm 177 = .tuple #[.slice none 0 0, .int .i64 5] := hW.1
    simp (disch := first | omega | decide) only [push_cast, ↓reduceIte, Nat.reduceLT, Nat.reduceEqDiff, reduceCtorEq, Nat.reduceAdd, hA.n, hn, hA.df, hd, e]
    exact ⟨_, rfl, rfl, Gr.refl hA.gr.wf⟩
  refine freeA_cons (fun a' h' hA hW => ?_) ?_
  · have e : a'.tm 182 = .slice none 0 0 := hW.1
    simp (disch := first | omega | decide) only [push_cast, ↓reduceIte, Nat.reduceLT, Nat.reduceEqDiff, reduceCtorEq, Nat.reduceAdd, hA.n, hn, hA.df, hd, e]
    exact ⟨_, rfl, rfl, Gr.refl hA.gr.wf⟩
  refine freeA_cons (fun a' h' hA hW => ?_) ?_
  · have e : a'.tm 183 = .int .i64 5 := hW.1
    simp (disch := first | omega | decide) only [push_cast, ↓reduceIte, Nat.reduceLT, Nat.reduceEqDiff, reduceCtorEq, Nat.reduceAdd, hA.n, hn, hA.df, hd, e]
    exact ⟨_, rfl, rfl, Gr.refl hA.gr.wf⟩
  exact freeA_nil

def ky29 : List Ky := [.net longC, .ord ord32, .bls (List.replicate 31 false), .val (.tuple #[.slice none 0 0, .int .i64 12]), .val (.tuple #[.slice none 0 0, .int .i64 12]), .val (.slice none 0 0), .val (.int .i64 12), .val (.slice none 0 0), .val (.int .i64 12)]
theorem exR29 {a : AAct} {h : AH} (hn : a.n = 370) (hd : a.df = []) (p7 : NetP h (a.tm 7) longC) (p8 : SlOf h (a.tm 8) (ord32.map (.int .i64))) :
    AW Try.prog none (.region 29 (opsOf Try.f6 29) true) (fun e a' h' => e = .normal ∧ Nx [24, 25] a h a' h' ∧ a'.tm 24 = .slice none 0 0 ∧ a'.tm 25 = .int .i64 12) a h := by
  refine AW.at (by rfl : _ = Code.region 29 #[_, _, _, _, _, _, _, _, _] true) ?_
  refine AW.freeAll (ky ky29) [185, 186, 187, 188, 184, 189, 190, 24, 25] [[], [], [], [0, 1, 2], [3], [4], [4], [5], [6]] mixed (by kernel_rfl) (ky_sub _) (fun hwf => ?_) (fun a' h' hA hF => ⟨rfl, ⟨by rw [hA.n, hn], by rw [hA.df, hd], hA.gr, fun t h1 h2 => hA.tm t (by simp only [List.mem_cons, List.not_mem_nil, or_false, not_or] at h2 ⊢; omega)⟩, hF 7 (by decide), hF 8 (by decide)⟩)
  simp only [List.toList_toArray]
  refine freeA_cons (fun a' h' hA hW => ?_) ?_
  · obtain ⟨B, cv, fv, iv, ov, e, hN, r⟩ := p7.sub hA.gr.sub
    have e1 : a'.tm 7 = .pointer (some ⟨B, 0, none⟩) := (hA.tm 7 (by decide)).trans e
    simp (disch := first | omega | decide) only [push_cast, ↓reduceIte, Nat.reduceLT, Nat.reduceEqDiff, reduceCtorEq, Nat.reduceAdd, hA.n, hn, hA.df, hd, e1, hN.l0, hN.l1, hN.l2, hN.l3, hN.l4, hN.la]
    exact ⟨_, rfl, ⟨cv, fv, iv, ov, rfl, r⟩, Gr.refl hA.gr.wf⟩
  refine freeA_cons (fun a' h' hA hW => ?_) ?_
  · have e1 := hA.tm 8 (by decide)
    have s1 := p8.sub hA.gr.sub
    rw [← e1] at s1
    obtain ⟨v, ev⟩ : ∃ v, a'.tm 8 = v := ⟨_, rfl⟩
    rw [ev] at s1
    simp (disch := first | omega | decide) only [push_cast, ↓reduceIte, Nat.reduceLT, Nat.reduceEqDiff, reduceCtorEq, Nat.reduceAdd, hA.n, hn, hA.df, hd, ev]
    exact ⟨_, rfl, s1, Gr.refl hA.gr.wf⟩
  refine freeA_cons (fun a' h' hA hW => ?_) ?_
  · have hm : aMakeSlice Try.prog 23 (.int .i64 31) (.int .i64 31) h' = some (slv h'.next 31, h'.new (.row (List.replicate 31 (.bool false)) 4 true)) := makeB h' 31 (by decide)
    simp (disch := first | omega | decide) only [push_cast, ↓reduceIte, Nat.reduceLT, Nat.reduceEqDiff, reduceCtorEq, Nat.reduceAdd, hA.n, hn, hA.df, hd, hm]
    exact ⟨_, rfl, slB h' 31, (Gr.refl hA.gr.wf).new _⟩
  refine freeA_cons (fun a' h' hA hW => ?_) ?_
  · obtain ⟨cv, fv, iv, ov, e0, r⟩ : NetV h' (a'.tm 185) longC := hW.1
    have s1 : SlOf h' (a'.tm 186) (ord32.map (.int .i64)) := hW.2.1
    have s2 : SlOf h' (a'.tm 187) ((List.replicate 31 false).map .bool) := hW.2.2.1
    obtain ⟨v1, e1⟩ : ∃ v, a'.tm 186 = v := ⟨_, rfl⟩
    obtain ⟨v2, e2⟩ : ∃ v, a'.tm 187 = v := ⟨_, rfl⟩
    rw [e1] at s1
    rw [e2] at s2
    simp (disch := first | omega | decide) only [push_cast, ↓reduceIte, Nat.reduceLT, Nat.reduceEqDiff, reduceCtorEq, Nat.reduceAdd, hA.n, hn, hA.df, hd, e0, e1, e2]
    refine ACall.mono ?_ (patFail r okLong s1 s2 (inp := []) (SlOf.nil _) (by unfold ord32; rw [List.length_map, List.length_range]; decide) patF (by decide))
    rintro _ h2 ⟨rfl, g⟩
    simp (disch := first | omega | decide) only [push_cast, ↓reduceIte, Nat.reduceLT, Nat.reduceEqDiff, reduceCtorEq, Nat.reduceAdd, hA.n, hn, hA.df, hd]
    exact ⟨_, rfl, rfl, g⟩
  refine freeA_cons (fun a' h' hA hW => ?_) ?_
  · have e : a'.tm 188 = .tuple #[.slice none 0 0, .int .i64 12] := hW.1
    simp (disch := first | omega | decide) only [push_cast, ↓reduceIte, Nat.reduceLT, Nat.reduceEqDiff, reduceCtorEq, Nat.reduceAdd, hA.n, hn, hA.df, hd, e]
    exact ⟨_, rfl, rfl, Gr.refl hA.gr.wf⟩
  refine freeA_cons (fun a' h' hA hW => ?_) ?_
  · have e : a'.tm 184 = .tuple #[.slice none 0 0, .int .i64 12] := hW.1
    simp (disch := first | omega | decide) only [push_cast, ↓reduceIte, Nat.reduceLT, Nat.reduceEqDiff, reduceCtorEq, Nat.reduceAdd, hA.n, hn, hA.df, hd, e]
    exact ⟨_, rfl, rfl, Gr.refl hA.gr.wf⟩
  refine freeA_cons (fun a' h' hA hW => ?_) ?_
  · have e : a'.tm 184 = .tuple #[.slice none 0 0, .int .i64 12] := hW.1
    simp (disch := first | omega | decide) only [push_cast, ↓reduceIte, Nat.reduceLT, Nat.reduceEqDiff, reduceCtorEq, Nat.reduceAdd, hA.n, hn, hA.df, hd, e]
    exact ⟨_, rfl, rfl, Gr.refl hA.gr.wf⟩
  refine freeA_cons (fun a' h' hA hW => ?_) ?_
  · have e : a'.tm 189 = .slice none 0 0 := hW.1
    simp (disch := first | omega | decide) only [push_cast, ↓reduceIte, Nat.reduceLT, Nat.reduceEqDiff, reduceCtorEq, Nat.reduceAdd, hA.n, hn, hA.df, hd, e]
    exact ⟨_, rfl, rfl, Gr.refl hA.gr.wf⟩
  refine freeA_cons (fun a' h' hA hW => ?_) ?_
  · have e : a'.tm 190 = .int .i64 12 := hW.1
    simp (disch := first | omega | decide) only [push_cast, ↓reduceIte, Nat.reduceLT, Nat.reduceEqDiff, reduceCtorEq, Nat.reduceAdd, hA.n, hn, hA.df, hd, e]
    exact ⟨_, rfl, rfl, Gr.refl hA.gr.wf⟩
  exact freeA_nil


theorem shFail {R : List Int → List Bool → List Bool → Prop} {zs : List Int} {bs : List Bool} {h : AH} {e : Int} (he : chainE zs bs.length = e) (hne : e ≠ 0) {r : Value} {h' : AH} (p : LoadOwn R zs bs h r h') : r = .tuple #[.slice none 0 0, .int .i64 e] ∧ Gr h h' := by
  obtain ⟨g, ⟨_, e1, _⟩ | ⟨e1, _⟩⟩ := p
  · exact ⟨by rw [e1, he], g⟩
  · exact absurd (he.symm.trans e1) hne
theorem obFail {ord : List Int} {outs : List (List Bool)} {h : AH} {e : Int} (he : obsE ord outs = e) (hne : e ≠ 0) {r : Value} {h' : AH} (p : ObsPost ord outs h r h') : r = .tuple #[.slice none 0 0, .int .i64 e] ∧ Gr h h' := by
  obtain ⟨g, ⟨_, e1⟩ | ⟨e1, _⟩⟩ := p
  · exact ⟨by rw [e1, he], g⟩
  · exact absurd (he.symm.trans e1) hne
theorem ch1 : chainE [1] ([] : List Bool).length = 1 := by unfold chainE; rw [if_neg nperm1]
theorem ch2 : chainE [0, 1] (List.replicate 3 false).length = 12 := by unfold chainE; rw [if_pos perm01, if_neg (by decide)]

theorem rowBl {h : AH} {D : Nat} {e : TypeId} {w : Bool} {bs : List Bool} (hg : h.get D = some (.row (bs.map .bool) e w)) (hb : bs.length ≤ 4294967296) : RowOf boolL h (slv D bs.length) bs := by
  refine ⟨_, _, _, rfl, rfl, ⟨fun q e => by cases e; rfl, Nat.le_refl _, .inl (by unfold SL; omega)⟩, .inr ⟨D, 0, _, _, rfl, hg, rfl, fun i x hx => ?_⟩⟩
  show ((bs.map Value.bool).drop (0 + i * 1)).take 1 = [.bool x]
  have hi := (List.getElem?_eq_some_iff.1 hx).1
  have h1 : (bs.map Value.bool)[i]? = some (.bool x) := by rw [List.getElem?_map, hx]; rfl
  rw [Nat.mul_one, Nat.zero_add]
  apply List.ext_getElem?
  intro j
  cases j with
  | zero => simp [List.getElem?_take, h1, hx]
  | succ j => simp [List.getElem?_take]
theorem rowBs {h : AH} {D : Nat} {e : TypeId} {w : Bool} {vs : List Value} {bss : List (List Bool)} (hg : h.get D = some (.row vs e w)) (hl : vs.length = bss.length) (hb : bss.length ≤ 4294967296) (hr : ∀ (i : Nat) v x, vs[i]? = some v → bss[i]? = some x → RowOf boolL h v x) : RowOf bsL h (slv D vs.length) bss := by
  refine ⟨_, _, _, rfl, hl, ⟨fun q e => by cases e; rfl, Nat.le_refl _, .inl (by unfold SL; omega)⟩, .inr ⟨D, 0, _, _, rfl, hg, rfl, fun i x hx => ?_⟩⟩
  have hi : i < vs.length := by have := (List.getElem?_eq_some_iff.1 hx).1; omega
  have hv := List.getElem?_eq_getElem hi
  refine ⟨vs[i], ?_, hr i _ x hv hx⟩
  show (vs.drop (0 + i * 1)).take 1 = [vs[i]]
  rw [Nat.mul_one, Nat.zero_add]
  apply List.ext_getElem?
  intro j
  cases j with
  | zero => simp [List.getElem?_take, hv, hi]
  | succ j => simp [List.getElem?_take]

theorem aBuildB3 (h : AH) {x y z : Value} (hx : x.cells.toList = [x] ∧ oneC x = true) (hy : y.cells.toList = [y] ∧ oneC y = true) (hz : z.cells.toList = [z] ∧ oneC z = true) :
    aBuildSlice Try.prog 54 3 [(0, x), (1, y), (2, z)] h = some (.slice (some ⟨h.next, 0, none⟩) 3 3, h.new (.row [x, y, z] 23 true)) := by
  obtain ⟨i, hi, h1, hb, hz0⟩ := t44.info
  have hp : plain 9 (.slice none 0 0) = true := rfl
  have hc : (Value.slice none 0 0).cells.size = 1 := rfl
  have hl : (Value.slice none 0 0).cells.toList = [.slice none 0 0] := rfl
  have sx : x.cells.size = 1 := by have := congrArg List.length hx.1; simpa using this
  have sy : y.cells.size = 1 := by have := congrArg List.length hy.1; simpa using this
  have sz : z.cells.size = 1 := by have := congrArg List.length hz.1; simpa using this
  simp only [aBuildSlice, t44.sl, hi, hz0, h1, hp, hc, fillL, hl, zeros_one]
  simp [SL, sx, sy, sz, hx, hy, hz, setL, List.replicate]

theorem buildN01 {c : Value} {k : Int} (hc : c.cells.toList = [c]) : aBuild Try.prog 34 [(0, c), (1, .int .i64 k)] = some (.agg #[c, .int .i64 k, .slice none 0 0, .slice none 0 0, .slice none 0 0]) := by
  have h0 : c.cells.size = 1 := by
    have := congrArg List.length hc
    simpa using this
  have hc0 : (Value.int .i64 k).cells = #[.int .i64 k] := rfl
  rw [buildS (zs := zeroC) (pl := [(0, 1), (1, 1), (2, 1), (3, 1), (4, 1)]) infN rfl ⟨_, Try.underlying34, by kernel_rfl⟩]
  simp [fillL, hc0, h0, hc, setL, zeroC]
theorem buildN1 {k : Int} : aBuild Try.prog 34 [(1, .int .i64 k)] = some (.agg #[.slice none 0 0, .int .i64 k, .slice none 0 0, .slice none 0 0, .slice none 0 0]) := by
  have hc0 : (Value.int .i64 k).cells = #[.int .i64 k] := rfl
  rw [buildS (zs := zeroC) (pl := [(0, 1), (1, 1), (2, 1), (3, 1), (4, 1)]) infN rfl ⟨_, Try.underlying34, by kernel_rfl⟩]
  simp [fillL, hc0, setL, zeroC]
theorem szU : ∃ i, Try.prog.info? 44 = some i ∧ i.size = 1 := ⟨(Try.prog.info? 44).get (by kernel_rfl), by kernel_rfl, by kernel_rfl⟩

theorem exR30 {a : AAct} {h : AH} {N : AAct → AH → Prop} (hn : a.n = 370) (hd : a.df = []) (w : WFH h)  (hN : ∀ a' h', Nx [26, 27] a h a' h' → a'.tm 27 = .int .i64 1 → N a' h') :
    opsM Try.prog (opsOf Try.f6 30) N (opsOf Try.f6 30).toList a h := by
  refine opsM.at (rfl : #[_, _, _, _, _, _, _] = _) (rfl : [_, _, _, _, _, _, _] = _) ?_
  have hb := aBuild1 t22 h (x := .int .i64 1) rfl rfl
  have g2 := (Gr.refl w).new (.row [.int .i64 1] 3 true)
  have s2 : SlOf (h.new (.row [.int .i64 1] 3 true)) (.slice (some ⟨h.next, 0, none⟩) 1 1) (([1] : List Int).map (.int .i64)) := SlOf.lit (by rw [AH.new_get, if_pos rfl]) rfl rfl
  simp (disch := first | omega | decide) only [push_cast, ↓reduceIte, Nat.reduceLT, Nat.reduceEqDiff, reduceCtorEq, Nat.reduceAdd, hn, hd, hb]
  refine ACall.mono ?_ (loadO (bs := []) s2 (SlOf.nil _) (by decide))
  intro _ h2 p
  obtain ⟨rfl, g⟩ := shFail ch1 (by decide) p
  simp (disch := first | omega | decide) only [push_cast, ↓reduceIte, Nat.reduceLT, Nat.reduceEqDiff, reduceCtorEq, Nat.reduceAdd, hn, hd]
  exact hN _ _ ⟨by simp (disch := first | omega | decide) only [push_cast, ↓reduceIte, Nat.reduceLT, Nat.reduceEqDiff, reduceCtorEq, Nat.reduceAdd, hn], by simp (disch := first | omega | decide) only [push_cast, ↓reduceIte, Nat.reduceLT, Nat.reduceEqDiff, reduceCtorEq, Nat.reduceAdd, hd], g2.trans g, fun t h1 h2 => by simp only [List.mem_cons, List.not_mem_nil, or_false, not_or] at h2; simp only [put_tm]; repeat rw [if_neg (by omega)]⟩ (by simp (disch := first | omega | decide) only [push_cast, ↓reduceIte, Nat.reduceLT, Nat.reduceEqDiff, reduceCtorEq, Nat.reduceAdd])

theorem exR31 {a : AAct} {h : AH} {N : AAct → AH → Prop} (hn : a.n = 370) (hd : a.df = []) (w : WFH h)  (hN : ∀ a' h', Nx [28, 29] a h a' h' → a'.tm 29 = .int .i64 12 → N a' h') :
    opsM Try.prog (opsOf Try.f6 31) N (opsOf Try.f6 31).toList a h := by
  refine opsM.at (rfl : #[_, _, _, _, _, _, _, _] = _) (rfl : [_, _, _, _, _, _, _, _] = _) ?_
  have hb := aBuild2 h 0 1
  have g2 := (Gr.refl w).new (.row [.int .i64 0, .int .i64 1] 3 true)
  have s2 : SlOf (h.new (.row [.int .i64 0, .int .i64 1] 3 true)) (.slice (some ⟨h.next, 0, none⟩) 2 2) (([0, 1] : List Int).map (.int .i64)) := SlOf.lit (by rw [AH.new_get, if_pos rfl]) rfl rfl
  generalize h.new (.row [.int .i64 0, .int .i64 1] 3 true) = k at hb g2 s2
  have hm : aMakeSlice Try.prog 23 (.int .i64 3) (.int .i64 3) k = some (slv k.next 3, k.new (.row (List.replicate 3 (.bool false)) 4 true)) := makeB k 3 (by decide)
  have s3 := slB k 3
  have g3 := (Gr.refl g2.wf).new (.row (List.replicate 3 (.bool false)) 4 true)
  simp (disch := first | omega | decide) only [push_cast, ↓reduceIte, Nat.reduceLT, Nat.reduceEqDiff, reduceCtorEq, Nat.reduceAdd, hn, hd, hb, hm]
  refine ACall.mono ?_ (unloadO (s2.sub g3.sub) s3 (by decide))
  intro _ h2 p
  obtain ⟨rfl, g⟩ := shFail ch2 (by decide) p
  simp (disch := first | omega | decide) only [push_cast, ↓reduceIte, Nat.reduceLT, Nat.reduceEqDiff, reduceCtorEq, Nat.reduceAdd, hn, hd]
  exact hN _ _ ⟨by simp (disch := first | omega | decide) only [push_cast, ↓reduceIte, Nat.reduceLT, Nat.reduceEqDiff, reduceCtorEq, Nat.reduceAdd, hn], by simp (disch := first | omega | decide) only [push_cast, ↓reduceIte, Nat.reduceLT, Nat.reduceEqDiff, reduceCtorEq, Nat.reduceAdd, hd], (g2.trans g3).trans g, fun t h1 h2 => by simp only [List.mem_cons, List.not_mem_nil, or_false, not_or] at h2; simp only [put_tm]; repeat rw [if_neg (by omega)]⟩ (by simp (disch := first | omega | decide) only [push_cast, ↓reduceIte, Nat.reduceLT, Nat.reduceEqDiff, reduceCtorEq, Nat.reduceAdd])

theorem exR32 {a : AAct} {h : AH} {N : AAct → AH → Prop} (hn : a.n = 370) (hd : a.df = []) (w : WFH h)  (hN : ∀ a' h', Nx [30, 31] a h a' h' → a'.tm 31 = .int .i64 1 → N a' h') :
    opsM Try.prog (opsOf Try.f6 32) N (opsOf Try.f6 32).toList a h := by
  refine opsM.at (rfl : #[_, _, _, _, _, _, _] = _) (rfl : [_, _, _, _, _, _, _] = _) ?_
  have hb := aBuild1 t22 h (x := .int .i64 1) rfl rfl
  have g2 := (Gr.refl w).new (.row [.int .i64 1] 3 true)
  have s2 : SlOf (h.new (.row [.int .i64 1] 3 true)) (.slice (some ⟨h.next, 0, none⟩) 1 1) (([1] : List Int).map (.int .i64)) := SlOf.lit (by rw [AH.new_get, if_pos rfl]) rfl rfl
  simp (disch := first | omega | decide) only [push_cast, ↓reduceIte, Nat.reduceLT, Nat.reduceEqDiff, reduceCtorEq, Nat.reduceAdd, hn, hd, hb]
  refine ACall.mono ?_ (observeN (outs := []) s2 rowNil (by decide) (by decide) (fun l hl => nomatch hl))
  intro _ h2 p
  obtain ⟨rfl, g⟩ := obFail obsI (by decide) p
  simp (disch := first | omega | decide) only [push_cast, ↓reduceIte, Nat.reduceLT, Nat.reduceEqDiff, reduceCtorEq, Nat.reduceAdd, hn, hd]
  exact hN _ _ ⟨by simp (disch := first | omega | decide) only [push_cast, ↓reduceIte, Nat.reduceLT, Nat.reduceEqDiff, reduceCtorEq, Nat.reduceAdd, hn], by simp (disch := first | omega | decide) only [push_cast, ↓reduceIte, Nat.reduceLT, Nat.reduceEqDiff, reduceCtorEq, Nat.reduceAdd, hd], g2.trans g, fun t h1 h2 => by simp only [List.mem_cons, List.not_mem_nil, or_false, not_or] at h2; simp only [put_tm]; repeat rw [if_neg (by omega)]⟩ (by simp (disch := first | omega | decide) only [push_cast, ↓reduceIte, Nat.reduceLT, Nat.reduceEqDiff, reduceCtorEq, Nat.reduceAdd])

theorem exR33 {a : AAct} {h : AH} {N : AAct → AH → Prop} (hn : a.n = 370) (hd : a.df = []) (w : WFH h)  (hN : ∀ a' h', Nx [32, 33] a h a' h' → a'.tm 33 = .int .i64 12 → N a' h') :
    opsM Try.prog (opsOf Try.f6 33) N (opsOf Try.f6 33).toList a h := by
  refine opsM.at (rfl : #[_, _, _, _, _, _, _, _] = _) (rfl : [_, _, _, _, _, _, _, _] = _) ?_
  have hb := aBuild1 t22 h (x := .int .i64 0) rfl rfl
  have g2 := (Gr.refl w).new (.row [.int .i64 0] 3 true)
  have s2 : SlOf (h.new (.row [.int .i64 0] 3 true)) (.slice (some ⟨h.next, 0, none⟩) 1 1) (([0] : List Int).map (.int .i64)) := SlOf.lit (by rw [AH.new_get, if_pos rfl]) rfl rfl
  generalize h.new (.row [.int .i64 0] 3 true) = k at hb g2 s2
  have hm : aMakeSlice Try.prog 54 (.int .i64 2) (.int .i64 2) k = some (slv k.next 2, k.new (.row [.slice none 0 0, .slice none 0 0] 23 true)) := aMakeSlice_at t44 k 2 (by decide) (by decide)
  have s3 : RowOf bsL (k.new (.row [.slice none 0 0, .slice none 0 0] 23 true)) (slv k.next 2) [[], []] := rowBs (vs := [.slice none 0 0, .slice none 0 0]) (bss := [[], []]) (by rw [AH.new_get, if_pos rfl]) rfl (by decide) (fun i v x h1 h2 => by
    match i, h1, h2 with
    | 0, h1, h2 => cases h1; cases h2; exact rowNil
    | 1, h1, h2 => cases h1; cases h2; exact rowNil
    | i + 2, h1, h2 => exact nomatch h1)
  have g3 := (Gr.refl g2.wf).new (.row [.slice none 0 0, .slice none 0 0] 23 true)
  simp (disch := first | omega | decide) only [push_cast, ↓reduceIte, Nat.reduceLT, Nat.reduceEqDiff, reduceCtorEq, Nat.reduceAdd, hn, hd, hb, hm]
  refine ACall.mono ?_ (observeN (s2.sub g3.sub) s3 (by decide) (by decide) (by decide))
  intro _ h2 p
  obtain ⟨rfl, g⟩ := obFail obsJ (by decide) p
  simp (disch := first | omega | decide) only [push_cast, ↓reduceIte, Nat.reduceLT, Nat.reduceEqDiff, reduceCtorEq, Nat.reduceAdd, hn, hd]
  exact hN _ _ ⟨by simp (disch := first | omega | decide) only [push_cast, ↓reduceIte, Nat.reduceLT, Nat.reduceEqDiff, reduceCtorEq, Nat.reduceAdd, hn], by simp (disch := first | omega | decide) only [push_cast, ↓reduceIte, Nat.reduceLT, Nat.reduceEqDiff, reduceCtorEq, Nat.reduceAdd, hd], (g2.trans g3).trans g, fun t h1 h2 => by simp only [List.mem_cons, List.not_mem_nil, or_false, not_or] at h2; simp only [put_tm]; repeat rw [if_neg (by omega)]⟩ (by simp (disch := first | omega | decide) only [push_cast, ↓reduceIte, Nat.reduceLT, Nat.reduceEqDiff, reduceCtorEq, Nat.reduceAdd])

theorem exR34 {a : AAct} {h : AH} {N : AAct → AH → Prop} (hn : a.n = 370) (hd : a.df = []) (w : WFH h)  (hN : ∀ a' h', Nx [34, 35] a h a' h' → a'.tm 35 = .int .i64 12 → N a' h') :
    opsM Try.prog (opsOf Try.f6 34) N (opsOf Try.f6 34).toList a h := by
  refine opsM.at (rfl : #[_, _, _, _, _, _, _, _, _, _] = _) (rfl : [_, _, _, _, _, _, _, _, _, _] = _) ?_
  have hb := aBuild1 t22 h (x := .int .i64 0) rfl rfl
  have g2 := (Gr.refl w).new (.row [.int .i64 0] 3 true)
  have s2 : SlOf (h.new (.row [.int .i64 0] 3 true)) (.slice (some ⟨h.next, 0, none⟩) 1 1) (([0] : List Int).map (.int .i64)) := SlOf.lit (by rw [AH.new_get, if_pos rfl]) rfl rfl
  generalize h.new (.row [.int .i64 0] 3 true) = k at hb g2 s2
  have hb1 := aBuild1 t23 k (x := .bool true) rfl rfl
  have g3 := (Gr.refl g2.wf).new (.row [.bool true] 4 true)
  have d1 : RowOf boolL (k.new (.row [.bool true] 4 true)) (slv k.next 1) [true] := rowBl (bs := [true]) (by rw [AH.new_get, if_pos rfl]; rfl) (by decide)
  generalize k.new (.row [.bool true] 4 true) = k1 at hb1 g3 d1
  have hb2 := aBuild1 t23 k1 (x := .bool true) rfl rfl
  have g4 := (Gr.refl g3.wf).new (.row [.bool true] 4 true)
  have d2 : RowOf boolL (k1.new (.row [.bool true] 4 true)) (slv k1.next 1) [true] := rowBl (bs := [true]) (by rw [AH.new_get, if_pos rfl]; rfl) (by decide)
  generalize k1.new (.row [.bool true] 4 true) = k2 at hb2 g4 d2
  replace d1 := d1.sub g4.sub
  generalize k.next = A1 at hb1 d1
  generalize k1.next = A2 at hb2 d2
  have hb3 := aBuildB3 k2 (x := slv A1 1) (y := .slice none 0 0) (z := slv A2 1) ⟨rfl, rfl⟩ ⟨rfl, rfl⟩ ⟨rfl, rfl⟩
  have hb3 : aBuildSlice Try.prog 54 3 [(0, .slice (some ⟨A1, 0, none⟩) 1 1), (1, .slice none 0 0), (2, .slice (some ⟨A2, 0, none⟩) 1 1)] k2 = _ := hb3
  have g5 := (Gr.refl g4.wf).new (.row [slv A1 1, .slice none 0 0, slv A2 1] 23 true)
  have s3 : RowOf bsL (k2.new (.row [slv A1 1, .slice none 0 0, slv A2 1] 23 true)) (slv k2.next 3) [[true], [], [true]] := rowBs (vs := [slv A1 1, .slice none 0 0, slv A2 1]) (bss := [[true], [], [true]]) (by rw [AH.new_get, if_pos rfl]) rfl (by decide) (fun i v x h1 h2 => by
    match i, h1, h2 with
    | 0, h1, h2 => cases h1; cases h2; exact d1.sub g5.sub
    | 1, h1, h2 => cases h1; cases h2; exact rowNil
    | 2, h1, h2 => cases h1; cases h2; exact d2.sub g5.sub
    | i + 3, h1, h2 => exact nomatch h1)
  have gg := (g3.trans g4).trans g5
  simp (disch := first | omega | decide) only [push_cast, ↓reduceIte, Nat.reduceLT, Nat.reduceEqDiff, reduceCtorEq, Nat.reduceAdd, hn, hd, hb, hb1, hb2, hb3]
  refine ACall.mono ?_ (observeN (s2.sub gg.sub) s3 (by decide) (by decide) (by decide))
  intro _ h2 p
  obtain ⟨rfl, g⟩ := obFail obsK (by decide) p
  simp (disch := first | omega | decide) only [push_cast, ↓reduceIte, Nat.reduceLT, Nat.reduceEqDiff, reduceCtorEq, Nat.reduceAdd, hn, hd]
  exact hN _ _ ⟨by simp (disch := first | omega | decide) only [push_cast, ↓reduceIte, Nat.reduceLT, Nat.reduceEqDiff, reduceCtorEq, Nat.reduceAdd, hn], by simp (disch := first | omega | decide) only [push_cast, ↓reduceIte, Nat.reduceLT, Nat.reduceEqDiff, reduceCtorEq, Nat.reduceAdd, hd], (g2.trans gg).trans g, fun t h1 h2 => by simp only [List.mem_cons, List.not_mem_nil, or_false, not_or] at h2; simp only [put_tm]; repeat rw [if_neg (by omega)]⟩ (by simp (disch := first | omega | decide) only [push_cast, ↓reduceIte, Nat.reduceLT, Nat.reduceEqDiff, reduceCtorEq, Nat.reduceAdd])

theorem exR35 {a : AAct} {h : AH} {N : AAct → AH → Prop} (hn : a.n = 370) (hd : a.df = []) (w : WFH h)  (hN : ∀ a' h', Nx [36, 37] a h a' h' → NetP h' (a'.tm 36) ⟨libC 202, 3, [], [], [2]⟩ → a'.tm 37 = .int .i64 0 → N a' h') :
    opsM Try.prog (opsOf Try.f6 35) N (opsOf Try.f6 35).toList a h := by
  refine opsM.at (rfl : #[_, _, _, _, _, _, _, _, _] = _) (rfl : [_, _, _, _, _, _, _, _, _] = _) ?_
  simp (disch := first | omega | decide) only [push_cast, ↓reduceIte, Nat.reduceLT, Nat.reduceEqDiff, reduceCtorEq, Nat.reduceAdd, hn, hd]
  refine ACall.mono ?_ (muxN h)
  rintro _ h1 ⟨g1, A, rfl, -, m⟩
  have hb := buildN01 (c := .slice (some ⟨A, 0, none⟩) 2 2) (k := 1) rfl
  simp (disch := first | omega | decide) only [push_cast, ↓reduceIte, Nat.reduceLT, Nat.reduceEqDiff, reduceCtorEq, Nat.reduceAdd, hn, hd, hb]
  have r0 : NetR h1 bareN1 (slv A 2) (.slice none 0 0) (.slice none 0 0) (.slice none 0 0) := ⟨m.row, rowNil, rowNil, SlOf.nil _⟩
  refine ACall.mono ?_ (insertN (ord := []) r0 okN1 (SlOf.nil _) (Nat.zero_le _))
  rintro _ h2 ⟨g2, c2, f2, i2, o2, rfl, r2⟩
  rw [insN1]
  rw [insRN] at r2 ⊢
  have g3 := (Gr.refl g2.wf).new (.row zeroC 34 true)
  have hX : (h2.new (.row zeroC 34 true)).get h2.next = some (.row zeroC 34 true) := by rw [AH.new_get, if_pos rfl]
  have hst := stA agN hX rfl (netC ⟨libC 202, 3, [], [], [2]⟩ c2 f2 i2 o2) rfl r2.one
  have gs := g3.set g2.wf (Nat.le_refl _) (AH.get_lt g3.wf hX) (.row (netC ⟨libC 202, 3, [], [], [2]⟩ c2 f2 i2 o2) 34 true)
  have hNA : NetAt ((h2.new (.row zeroC 34 true)).set h2.next (.row (netC ⟨libC 202, 3, [], [], [2]⟩ c2 f2 i2 o2) 34 true)) h2.next ⟨libC 202, 3, [], [], [2]⟩ c2 f2 i2 o2 := ⟨_, by rw [AH.set_get, if_pos rfl], rfl⟩
  have rs := r2.sub gs.sub
  simp (disch := first | omega | decide) only [push_cast, ↓reduceIte, Nat.reduceLT, Nat.reduceEqDiff, reduceCtorEq, Nat.reduceAdd, hn, hd, alL zrN, hst]
  exact hN _ _ ⟨by simp (disch := first | omega | decide) only [push_cast, ↓reduceIte, Nat.reduceLT, Nat.reduceEqDiff, reduceCtorEq, Nat.reduceAdd, hn], by simp (disch := first | omega | decide) only [push_cast, ↓reduceIte, Nat.reduceLT, Nat.reduceEqDiff, reduceCtorEq, Nat.reduceAdd, hd], (g1.trans g2).trans gs, fun t h1 h2 => by simp only [List.mem_cons, List.not_mem_nil, or_false, not_or] at h2; simp only [put_tm]; repeat rw [if_neg (by omega)]⟩ ⟨_, _, _, _, _, by simp (disch := first | omega | decide) only [push_cast, ↓reduceIte, Nat.reduceLT, Nat.reduceEqDiff, reduceCtorEq, Nat.reduceAdd], hNA, rs⟩ (by simp (disch := first | omega | decide) only [push_cast, ↓reduceIte, Nat.reduceLT, Nat.reduceEqDiff, reduceCtorEq, Nat.reduceAdd])

theorem exR36 {a : AAct} {h : AH} {N : AAct → AH → Prop} (hn : a.n = 370) (hd : a.df = []) (w : WFH h)  (hN : ∀ a' h', Nx [38, 39] a h a' h' → RowOf bsL h' (a'.tm 38) [[true, false, false]] → a'.tm 39 = .int .i64 0 → N a' h') :
    opsM Try.prog (opsOf Try.f6 36) N (opsOf Try.f6 36).toList a h := by
  refine opsM.at (rfl : #[_, _, _, _, _, _, _, _] = _) (rfl : [_, _, _, _, _, _, _, _] = _) ?_
  have hb := aBuild1 t23 h (x := .bool true) rfl rfl
  have g1 := (Gr.refl w).new (.row [.bool true] 4 true)
  have s1 : SlOf (h.new (.row [.bool true] 4 true)) (.slice (some ⟨h.next, 0, none⟩) 1 1) (([true] : List Bool).map .bool) := SlOf.lit (by rw [AH.new_get, if_pos rfl]) rfl rfl
  simp (disch := first | omega | decide) only [push_cast, ↓reduceIte, Nat.reduceLT, Nat.reduceEqDiff, reduceCtorEq, Nat.reduceAdd, hn, hd, buildN1, hb]
  have r0 : NetR (h.new (.row [.bool true] 4 true)) oneC1 (.slice none 0 0) (.slice none 0 0) (.slice none 0 0) (.slice none 0 0) := ⟨rowNil, rowNil, rowNil, SlOf.nil _⟩
  refine ACall.mono ?_ (patternN (ord := []) (st := []) (inp := [true]) r0 okOne (SlOf.nil _) (SlOf.nil _) s1 (Nat.zero_le _))
  intro _ h2 p
  rcases p with ⟨e, _⟩ | ⟨_, out, u, hl, rfl, S⟩
  · exact absurd patM e
  have ho : out = [] := List.eq_nil_of_length_eq_zero hl.1
  subst ho
  have gS := S.gr
  have row : RowOf bsL h2 u [[true, false, false]] := S.row (by decide)
  simp (disch := first | omega | decide) only [push_cast, ↓reduceIte, Nat.reduceLT, Nat.reduceEqDiff, reduceCtorEq, Nat.reduceAdd, hn, hd]
  exact hN _ _ ⟨by simp (disch := first | omega | decide) only [push_cast, ↓reduceIte, Nat.reduceLT, Nat.reduceEqDiff, reduceCtorEq, Nat.reduceAdd, hn], by simp (disch := first | omega | decide) only [push_cast, ↓reduceIte, Nat.reduceLT, Nat.reduceEqDiff, reduceCtorEq, Nat.reduceAdd, hd], g1.trans gS, fun t h1 h2 => by simp only [List.mem_cons, List.not_mem_nil, or_false, not_or] at h2; simp only [put_tm]; repeat rw [if_neg (by omega)]⟩ (by simpa [put_tm] using row) (by simp (disch := first | omega | decide) only [push_cast, ↓reduceIte, Nat.reduceLT, Nat.reduceEqDiff, reduceCtorEq, Nat.reduceAdd])

/-- The netlist whose table is turned. -/
def E37 (h : AH) (v : Value) (h' : AH) : Prop := ∃ B A F O, v = .pointer (some ⟨B, 0, none⟩) ∧ h'.get B = some (.row (exrow A F O) 34 true) ∧ ExAt h' A F O ∧ h.next ≤ A

theorem exR37 {a : AAct} {h : AH} {N : AAct → AH → Prop} (hn : a.n = 370) (hd : a.df = []) (w : WFH h)  (hN : ∀ a' h', Nx [40] a h a' h' → E37 h (a'.tm 40) h' → N a' h') :
    opsM Try.prog (opsOf Try.f6 37) N (opsOf Try.f6 37).toList a h := by
  refine opsM.at (rfl : #[_, _, _] = _) (rfl : [_, _, _] = _) ?_
  simp (disch := first | omega | decide) only [push_cast, ↓reduceIte, Nat.reduceLT, Nat.reduceEqDiff, reduceCtorEq, Nat.reduceAdd, hn, hd]
  refine ACall.mono ?_ (exN h)
  rintro _ h2 ⟨g2, A, F, O, rfl, hA, x⟩
  have r2 := x.net
  have g3 := (Gr.refl g2.wf).new (.row zeroC 34 true)
  have hX : (h2.new (.row zeroC 34 true)).get h2.next = some (.row zeroC 34 true) := by rw [AH.new_get, if_pos rfl]
  have hst := stA agN hX rfl (exrow A F O) rfl rfl
  have hst : aStore Try.prog 34 _ (.agg (netC (exC 202) (slv A 2) (slv F 2) (.slice none 0 0) (slv O 1)).toArray) _ = _ := hst
  have gs := g3.set g2.wf (Nat.le_refl _) (AH.get_lt g3.wf hX) (.row (exrow A F O) 34 true)
  simp (disch := first | omega | decide) only [push_cast, ↓reduceIte, Nat.reduceLT, Nat.reduceEqDiff, reduceCtorEq, Nat.reduceAdd, hn, hd, alL zrN, hst]
  exact hN _ _ ⟨by simp (disch := first | omega | decide) only [push_cast, ↓reduceIte, Nat.reduceLT, Nat.reduceEqDiff, reduceCtorEq, Nat.reduceAdd, hn], by simp (disch := first | omega | decide) only [push_cast, ↓reduceIte, Nat.reduceLT, Nat.reduceEqDiff, reduceCtorEq, Nat.reduceAdd, hd], g2.trans gs, fun t h1 h2 => by simp only [List.mem_cons, List.not_mem_nil, or_false, not_or] at h2; simp only [put_tm]; repeat rw [if_neg (by omega)]⟩ ⟨h2.next, A, F, O, by simp (disch := first | omega | decide) only [push_cast, ↓reduceIte, Nat.reduceLT, Nat.reduceEqDiff, reduceCtorEq, Nat.reduceAdd], by rw [AH.set_get, if_pos rfl], x.sub gs.sub, hA⟩

theorem exR38 {a0 a : AAct} {h0 h : AH} {N : AAct → AH → Prop} (w0 : WFH h0) (x : Nx [40] a0 h0 a h) (e : E37 h0 (a.tm 40) h) (hN : ∀ a' h', Nx [40] a0 h0 a' h' → NetP h' (a'.tm 40) (exC 172) → N a' h') :
    opsM Try.prog (opsOf Try.f6 38) N (opsOf Try.f6 38).toList a h := by
  refine opsM.at (rfl : #[_, _, _, _, _] = _) (rfl : [_, _, _, _, _] = _) ?_
  have hn := x.n
  have hd := x.d
  obtain ⟨B, A, F, O, t40, hB, ex, hA⟩ := e
  obtain ⟨D1, D2, m1, m2, m3⟩ := ex.m
  have hNA : NetAt h B (exC 202) (slv A 2) (slv F 2) (.slice none 0 0) (slv O 1) := ⟨_, hB, rfl⟩
  have hix : aIndexAddr Try.prog 30 (slv A 2) (.int .i64 1) = some (.pointer (some ⟨A, 5, none⟩)) := (MuxAt.row ⟨D1, D2, m1, m2, m3⟩).idx Try.underlying30 ⟨_, smC.info.choose_spec.choose_spec.1, smC.info.choose_spec.choose_spec.2.1⟩ .i64 1 (by decide) (by decide)
  have hst := stC szU m1 7 (.int .u64 172) (by show 7 < 10; decide) rfl rfl
  have g := x.g.set w0 hA (AH.get_lt x.g.wf m1) (.row ((muxL 202 D1 D2).set 7 (.int .u64 172)) 47 true)
  have hkeep : ∀ C o e, h.get C = some o → o.ty = some e → e ≠ 47 → (h.set A (.row ((muxL 202 D1 D2).set 7 (.int .u64 172)) 47 true)).get C = some o := fun C o e hC ho hne => by
    rw [AH.set_get, if_neg (ty_ne hC m1 ho rfl hne)]; exact hC
  have hB2 := hkeep _ _ _ hB rfl (by decide)
  have hF2 := hkeep _ _ _ ex.f rfl (by decide)
  have hO2 := hkeep _ _ _ ex.o rfl (by decide)
  have m : MuxAt (h.set A (.row ((muxL 202 D1 D2).set 7 (.int .u64 172)) 47 true)) 172 A := ⟨D1, D2, by rw [AH.set_get, if_pos rfl]; rfl, hkeep _ _ _ m2 rfl (by decide), hkeep _ _ _ m3 rfl (by decide)⟩
  simp (disch := first | omega | decide) only [push_cast, ↓reduceIte, Nat.reduceLT, Nat.reduceEqDiff, reduceCtorEq, Nat.reduceAdd, hn, hd, t40, faL foN0, faL foN1, faL foN2, faL foN3, faL foN4, hNA.l0, hNA.l1, hNA.l2, hNA.l3, hNA.l4, hNA.la, hix, faL foC0, faL foC1, faL foC2, faL foC3, faL foC4, hst]
  exact hN _ _ ⟨by simp (disch := first | omega | decide) only [push_cast, ↓reduceIte, Nat.reduceLT, Nat.reduceEqDiff, reduceCtorEq, Nat.reduceAdd, hn], by simp (disch := first | omega | decide) only [push_cast, ↓reduceIte, Nat.reduceLT, Nat.reduceEqDiff, reduceCtorEq, Nat.reduceAdd, hd], g, fun t h1 h2 => by simp only [put_tm]; (repeat rw [if_neg (by omega)]); exact x.k t h1 h2⟩ ⟨B, slv A 2, slv F 2, .slice none 0 0, slv O 1, by simp (disch := first | omega | decide) only [push_cast, ↓reduceIte, Nat.reduceLT, Nat.reduceEqDiff, reduceCtorEq, Nat.reduceAdd, t40], ⟨_, hB2, rfl⟩, m.row, flop2 hF2, rowNil, SlOf.lit hO2 rfl rfl⟩

theorem exR39 {a : AAct} {h : AH} {N : AAct → AH → Prop} (hn : a.n = 370) (hd : a.df = []) (w : WFH h) (p : NetP h (a.tm 40) (exC 172)) (hN : ∀ a' h', Nx [41, 42] a h a' h' → NetP h' (a'.tm 41) ⟨libC 172, 3, [⟨6, 0⟩, ⟨5, 1⟩], [⟨1, [2, 3, 1]⟩, ⟨1, [4, 0, 1]⟩], [4, 3]⟩ → a'.tm 42 = .int .i64 0 → N a' h') :
    opsM Try.prog (opsOf Try.f6 39) N (opsOf Try.f6 39).toList a h := by
  refine opsM.at (rfl : #[_, _, _, _, _, _, _, _, _] = _) (rfl : [_, _, _, _, _, _, _, _, _] = _) ?_
  obtain ⟨B, cv, fv, iv, ov, t40, hB, r⟩ := p
  have hb := aBuild2 h 1 0
  have g1 := (Gr.refl w).new (.row [.int .i64 1, .int .i64 0] 3 true)
  have s1 : SlOf (h.new (.row [.int .i64 1, .int .i64 0] 3 true)) (.slice (some ⟨h.next, 0, none⟩) 2 2) (([1, 0] : List Int).map (.int .i64)) := SlOf.lit (by rw [AH.new_get, if_pos rfl]) rfl rfl
  simp (disch := first | omega | decide) only [push_cast, ↓reduceIte, Nat.reduceLT, Nat.reduceEqDiff, reduceCtorEq, Nat.reduceAdd, hn, hd, t40, hB.l0, hB.l1, hB.l2, hB.l3, hB.l4, hB.la, hb]
  refine ACall.mono ?_ (insertN (r.sub g1.sub) (okEx (by decide) (by decide)) s1 (by decide))
  rintro _ h2 ⟨g2, c2, f2, i2, o2, rfl, r2⟩
  rw [insT]
  rw [insRT] at r2 ⊢
  have g3 := (Gr.refl g2.wf).new (.row zeroC 34 true)
  have hX : (h2.new (.row zeroC 34 true)).get h2.next = some (.row zeroC 34 true) := by rw [AH.new_get, if_pos rfl]
  have hst := stA agN hX rfl (netC ⟨libC 172, 3, [⟨6, 0⟩, ⟨5, 1⟩], [⟨1, [2, 3, 1]⟩, ⟨1, [4, 0, 1]⟩], [4, 3]⟩ c2 f2 i2 o2) rfl r2.one
  have gs := g3.set g2.wf (Nat.le_refl _) (AH.get_lt g3.wf hX) (.row (netC ⟨libC 172, 3, [⟨6, 0⟩, ⟨5, 1⟩], [⟨1, [2, 3, 1]⟩, ⟨1, [4, 0, 1]⟩], [4, 3]⟩ c2 f2 i2 o2) 34 true)
  have hNA : NetAt ((h2.new (.row zeroC 34 true)).set h2.next (.row (netC ⟨libC 172, 3, [⟨6, 0⟩, ⟨5, 1⟩], [⟨1, [2, 3, 1]⟩, ⟨1, [4, 0, 1]⟩], [4, 3]⟩ c2 f2 i2 o2) 34 true)) h2.next ⟨libC 172, 3, [⟨6, 0⟩, ⟨5, 1⟩], [⟨1, [2, 3, 1]⟩, ⟨1, [4, 0, 1]⟩], [4, 3]⟩ c2 f2 i2 o2 := ⟨_, by rw [AH.set_get, if_pos rfl], rfl⟩
  have rs := r2.sub gs.sub
  simp (disch := first | omega | decide) only [push_cast, ↓reduceIte, Nat.reduceLT, Nat.reduceEqDiff, reduceCtorEq, Nat.reduceAdd, hn, hd, alL zrN, hst]
  exact hN _ _ ⟨by simp (disch := first | omega | decide) only [push_cast, ↓reduceIte, Nat.reduceLT, Nat.reduceEqDiff, reduceCtorEq, Nat.reduceAdd, hn], by simp (disch := first | omega | decide) only [push_cast, ↓reduceIte, Nat.reduceLT, Nat.reduceEqDiff, reduceCtorEq, Nat.reduceAdd, hd], (g1.trans g2).trans gs, fun t h1 h2 => by simp only [List.mem_cons, List.not_mem_nil, or_false, not_or] at h2; simp only [put_tm]; repeat rw [if_neg (by omega)]⟩ ⟨_, _, _, _, _, by simp (disch := first | omega | decide) only [push_cast, ↓reduceIte, Nat.reduceLT, Nat.reduceEqDiff, reduceCtorEq, Nat.reduceAdd], hNA, rs⟩ (by simp (disch := first | omega | decide) only [push_cast, ↓reduceIte, Nat.reduceLT, Nat.reduceEqDiff, reduceCtorEq, Nat.reduceAdd])


/-- The errors, each as it should be. -/
structure Errs (a : AAct) : Prop where
  t15 : a.tm 15 = .int .i64 1
  t17 : a.tm 17 = .int .i64 1
  t19 : a.tm 19 = .int .i64 12
  t21 : a.tm 21 = .int .i64 12
  t23 : a.tm 23 = .int .i64 5
  t25 : a.tm 25 = .int .i64 12
  t27 : a.tm 27 = .int .i64 1
  t29 : a.tm 29 = .int .i64 12
  t31 : a.tm 31 = .int .i64 1
  t33 : a.tm 33 = .int .i64 12
  t35 : a.tm 35 = .int .i64 12
  t37 : a.tm 37 = .int .i64 0
  t39 : a.tm 39 = .int .i64 0
  t42 : a.tm 42 = .int .i64 0
  t24 : a.tm 24 = .slice none 0 0
theorem Errs.keep {a a' : AAct} (e : Errs a) (k : ∀ t, t < 151 → a'.tm t = a.tm t) : Errs a' := ⟨(k 15 (by decide)).trans e.t15, (k 17 (by decide)).trans e.t17, (k 19 (by decide)).trans e.t19, (k 21 (by decide)).trans e.t21, (k 23 (by decide)).trans e.t23, (k 25 (by decide)).trans e.t25, (k 27 (by decide)).trans e.t27, (k 29 (by decide)).trans e.t29, (k 31 (by decide)).trans e.t31, (k 33 (by decide)).trans e.t33, (k 35 (by decide)).trans e.t35, (k 37 (by decide)).trans e.t37, (k 39 (by decide)).trans e.t39, (k 42 (by decide)).trans e.t42, (k 24 (by decide)).trans e.t24⟩
theorem len0 (h : AH) : aLen Try.prog 55 (.slice none 0 0) h = some (.int .i64 0) := lenS Try.underlying55 _ _ _ _
theorem len0b (h : AH) : aLen Try.prog 54 (.slice none 0 0) h = some (.int .i64 0) := lenS Try.underlying54 _ _ _ _

theorem exR40 {a : AAct} {h : AH} {N : AAct → AH → Prop} (hn : a.n = 370) (hd : a.df = []) (e0 : Errs a) (hN : ∀ a', a'.n = 370 → a'.df = [] → (∀ t, t < 151 → a'.tm t = a.tm t) → a'.tm 302 = .bool false → N a' h) :
    opsM Try.prog (opsOf Try.f6 40) N (opsOf Try.f6 40).toList a h := by
  refine opsM.at (rfl : #[_, _, _, _, _, _, _, _, _, _, _, _, _, _, _, _, _, _, _, _, _, _, _, _, _, _, _, _, _, _, _, _, _, _, _, _, _, _, _, _, _, _, _, _, _, _, _, _, _, _, _, _, _, _, _, _, _, _, _] = _) (rfl : [_, _, _, _, _, _, _, _, _, _, _, _, _, _, _, _, _, _, _, _, _, _, _, _, _, _, _, _, _, _, _, _, _, _, _, _, _, _, _, _, _, _, _, _, _, _, _, _, _, _, _, _, _, _, _, _, _, _, _] = _) ?_
  have e := e0
  have kp : ∀ t, t < 151 → a.tm t = a.tm t := fun _ _ => rfl
  refine opsM_cutAt 14 (fun a' h' => a'.n = 370 ∧ a'.df = [] ∧ h' = h ∧ (∀ t, t < 151 → a'.tm t = a.tm t) ∧ a'.tm 257 = .bool false) (fun N' hN' => ?_) ?_
  · simp only [List.take_succ_cons, List.take_zero, List.drop_succ_cons, List.drop_zero]
    simp (disch := first | omega | decide) only [push_cast, ↓reduceIte, Nat.reduceLT, Nat.reduceEqDiff, reduceCtorEq, Nat.reduceAdd, hn, hd, e.t15, e.t17, e.t19, e.t21, e.t23, e.t25, e.t27, e.t29, e.t31, e.t33, e.t35, e.t37, e.t39, e.t42, e.t24, len0, len0b]
    exact hN' _ _ ⟨by simp (disch := first | omega | decide) only [push_cast, ↓reduceIte, Nat.reduceLT, Nat.reduceEqDiff, reduceCtorEq, Nat.reduceAdd, hn], by simp (disch := first | omega | decide) only [push_cast, ↓reduceIte, Nat.reduceLT, Nat.reduceEqDiff, reduceCtorEq, Nat.reduceAdd, hd], rfl, fun t ht => by simp only [put_tm]; (repeat rw [if_neg (by omega)]); first | done | exact kp t ht, by simp (disch := first | omega | decide) only [push_cast, ↓reduceIte, Nat.reduceLT, Nat.reduceEqDiff, reduceCtorEq, Nat.reduceAdd]⟩
  clear hn hd e kp
  rintro b0 h ⟨hn, hd, rfl, kp, t257⟩
  have e := e0.keep kp
  simp only [List.take_succ_cons, List.take_zero, List.drop_succ_cons, List.drop_zero]
  refine opsM_cutAt 13 (fun a' h' => a'.n = 370 ∧ a'.df = [] ∧ h' = h ∧ (∀ t, t < 151 → a'.tm t = a.tm t) ∧ a'.tm 270 = .bool false) (fun N' hN' => ?_) ?_
  · simp only [List.take_succ_cons, List.take_zero, List.drop_succ_cons, List.drop_zero]
    simp (disch := first | omega | decide) only [push_cast, ↓reduceIte, Nat.reduceLT, Nat.reduceEqDiff, reduceCtorEq, Nat.reduceAdd, hn, hd, e.t15, e.t17, e.t19, e.t21, e.t23, e.t25, e.t27, e.t29, e.t31, e.t33, e.t35, e.t37, e.t39, e.t42, e.t24, t257, len0, len0b]
    exact hN' _ _ ⟨by simp (disch := first | omega | decide) only [push_cast, ↓reduceIte, Nat.reduceLT, Nat.reduceEqDiff, reduceCtorEq, Nat.reduceAdd, hn], by simp (disch := first | omega | decide) only [push_cast, ↓reduceIte, Nat.reduceLT, Nat.reduceEqDiff, reduceCtorEq, Nat.reduceAdd, hd], rfl, fun t ht => by simp only [put_tm]; (repeat rw [if_neg (by omega)]); first | done | exact kp t ht, by simp (disch := first | omega | decide) only [push_cast, ↓reduceIte, Nat.reduceLT, Nat.reduceEqDiff, reduceCtorEq, Nat.reduceAdd]⟩
  clear hn hd e kp t257
  rintro b1 h ⟨hn, hd, rfl, kp, t270⟩
  have e := e0.keep kp
  simp only [List.take_succ_cons, List.take_zero, List.drop_succ_cons, List.drop_zero]
  refine opsM_cutAt 16 (fun a' h' => a'.n = 370 ∧ a'.df = [] ∧ h' = h ∧ (∀ t, t < 151 → a'.tm t = a.tm t) ∧ a'.tm 286 = .bool false) (fun N' hN' => ?_) ?_
  · simp only [List.take_succ_cons, List.take_zero, List.drop_succ_cons, List.drop_zero]
    simp (disch := first | omega | decide) only [push_cast, ↓reduceIte, Nat.reduceLT, Nat.reduceEqDiff, reduceCtorEq, Nat.reduceAdd, hn, hd, e.t15, e.t17, e.t19, e.t21, e.t23, e.t25, e.t27, e.t29, e.t31, e.t33, e.t35, e.t37, e.t39, e.t42, e.t24, t270, len0, len0b]
    exact hN' _ _ ⟨by simp (disch := first | omega | decide) only [push_cast, ↓reduceIte, Nat.reduceLT, Nat.reduceEqDiff, reduceCtorEq, Nat.reduceAdd, hn], by simp (disch := first | omega | decide) only [push_cast, ↓reduceIte, Nat.reduceLT, Nat.reduceEqDiff, reduceCtorEq, Nat.reduceAdd, hd], rfl, fun t ht => by simp only [put_tm]; (repeat rw [if_neg (by omega)]); first | done | exact kp t ht, by simp (disch := first | omega | decide) only [push_cast, ↓reduceIte, Nat.reduceLT, Nat.reduceEqDiff, reduceCtorEq, Nat.reduceAdd]⟩
  clear hn hd e kp t270
  rintro b2 h ⟨hn, hd, rfl, kp, t286⟩
  have e := e0.keep kp
  simp only [List.take_succ_cons, List.take_zero, List.drop_succ_cons, List.drop_zero]
  refine opsM_cutAt 12 (fun a' h' => a'.n = 370 ∧ a'.df = [] ∧ h' = h ∧ (∀ t, t < 151 → a'.tm t = a.tm t) ∧ a'.tm 298 = .bool false) (fun N' hN' => ?_) ?_
  · simp only [List.take_succ_cons, List.take_zero, List.drop_succ_cons, List.drop_zero]
    simp (disch := first | omega | decide) only [push_cast, ↓reduceIte, Nat.reduceLT, Nat.reduceEqDiff, reduceCtorEq, Nat.reduceAdd, hn, hd, e.t15, e.t17, e.t19, e.t21, e.t23, e.t25, e.t27, e.t29, e.t31, e.t33, e.t35, e.t37, e.t39, e.t42, e.t24, t286, len0, len0b]
    exact hN' _ _ ⟨by simp (disch := first | omega | decide) only [push_cast, ↓reduceIte, Nat.reduceLT, Nat.reduceEqDiff, reduceCtorEq, Nat.reduceAdd, hn], by simp (disch := first | omega | decide) only [push_cast, ↓reduceIte, Nat.reduceLT, Nat.reduceEqDiff, reduceCtorEq, Nat.reduceAdd, hd], rfl, fun t ht => by simp only [put_tm]; (repeat rw [if_neg (by omega)]); first | done | exact kp t ht, by simp (disch := first | omega | decide) only [push_cast, ↓reduceIte, Nat.reduceLT, Nat.reduceEqDiff, reduceCtorEq, Nat.reduceAdd]⟩
  clear hn hd e kp t286
  rintro b3 h ⟨hn, hd, rfl, kp, t298⟩
  have e := e0.keep kp
  simp only [List.take_succ_cons, List.take_zero, List.drop_succ_cons, List.drop_zero]
  simp (disch := first | omega | decide) only [push_cast, ↓reduceIte, Nat.reduceLT, Nat.reduceEqDiff, reduceCtorEq, Nat.reduceAdd, hn, hd, e.t15, e.t17, e.t19, e.t21, e.t23, e.t25, e.t27, e.t29, e.t31, e.t33, e.t35, e.t37, e.t39, e.t42, e.t24, t298, len0]
  exact hN _ (by simp (disch := first | omega | decide) only [push_cast, ↓reduceIte, Nat.reduceLT, Nat.reduceEqDiff, reduceCtorEq, Nat.reduceAdd, hn]) (by simp (disch := first | omega | decide) only [push_cast, ↓reduceIte, Nat.reduceLT, Nat.reduceEqDiff, reduceCtorEq, Nat.reduceAdd, hd]) (fun t ht => by simp only [put_tm]; (repeat rw [if_neg (by omega)]); first | done | exact kp t ht) (by simp (disch := first | omega | decide) only [push_cast, ↓reduceIte, Nat.reduceLT, Nat.reduceEqDiff, reduceCtorEq, Nat.reduceAdd])

theorem flopEql (x : Flop) : eqBin Try.prog .eql 62 (.agg #[.int .i64 x.next, .int .u8 x.init]) (.agg #[.int .i64 x.next, .int .u8 x.init]) = some (.bool true) := by
  have hg : Try.prog.eqGuardType Try.prog.depth 62 = false := by kernel_rfl
  have hs : Try.prog.stoodInHeld 62 = false := by kernel_rfl
  simp [eqBin, guardOn, hg, aEq, Try.underlying62, hs, eqAll, aPart, aggT, Try.underlying3, Try.underlying5]
theorem flopEql' (x y : Int) : eqBin Try.prog .eql 62 (.agg #[.int .i64 x, .int .u8 y]) (.agg #[.int .i64 x, .int .u8 y]) = some (.bool true) := flopEql ⟨x, y⟩

theorem aBuildb3 (h : AH) (x y z : Bool) : aBuildSlice Try.prog 23 3 [(0, .bool x), (1, .bool y), (2, .bool z)] h = some (.slice (some ⟨h.next, 0, none⟩) 3 3, h.new (.row [.bool x, .bool y, .bool z] 4 true)) := by
  obtain ⟨i, hi, h1, hb, hz⟩ := t23.info
  have hp : plain 9 (.bool false) = true := rfl
  have hc : (Value.bool false).cells.size = 1 := rfl
  have hl : (Value.bool false).cells.toList = [.bool false] := rfl
  have hx1 : ∀ z : Bool, (Value.bool z).cells.size = 1 := fun _ => rfl
  have hx2 : ∀ z : Bool, (Value.bool z).cells.toList = [.bool z] := fun _ => rfl
  simp only [aBuildSlice, t23.sl, hi, hz, h1, hp, hc, fillL, hl, zeros_one]
  simp [SL, hx1, hx2, setL, oneC, List.replicate]

def net36 : Net := ⟨libC 202, 3, [], [], [2]⟩
def net41 : Net := ⟨libC 172, 3, [⟨6, 0⟩, ⟨5, 1⟩], [⟨1, [2, 3, 1]⟩, ⟨1, [4, 0, 1]⟩], [4, 3]⟩

/-- What region 42 leans on, through its chunks. -/
structure R42 (h0 : AH) (v36 v38 v41 : Value) (T : Nat) (a : AAct) (h : AH) : Prop where
  n : a.n = 370
  d : a.df = []
  g : Gr h0 h
  t36 : a.tm 36 = v36
  t38 : a.tm 38 = v38
  t41 : a.tm 41 = v41
  t : a.tm T = .bool true

theorem exR42 {a : AAct} {h : AH} {N : AAct → AH → Prop} (hn : a.n = 370) (hd : a.df = []) (w : WFH h) (p36 : NetP h (a.tm 36) net36) (p38 : RowOf bsL h (a.tm 38) [[true, false, false]]) (p41 : NetP h (a.tm 41) net41) (hN : ∀ a' h', a'.n = 370 → a'.df = [] → Gr h h' → a'.tm 0 = .bool true → N a' h') :
    opsM Try.prog (opsOf Try.f6 42) N (opsOf Try.f6 42).toList a h := by
  refine opsM.at (rfl : #[_, _, _, _, _, _, _, _, _, _, _, _, _, _, _, _, _, _, _, _, _, _, _, _, _, _, _, _, _, _, _, _, _, _, _, _, _, _, _, _, _, _, _, _, _, _, _, _, _, _, _, _, _, _, _, _, _, _, _, _, _, _, _, _, _, _, _, _] = _) (rfl : [_, _, _, _, _, _, _, _, _, _, _, _, _, _, _, _, _, _, _, _, _, _, _, _, _, _, _, _, _, _, _, _, _, _, _, _, _, _, _, _, _, _, _, _, _, _, _, _, _, _, _, _, _, _, _, _, _, _, _, _, _, _, _, _, _, _, _, _] = _) ?_
  obtain ⟨A, c1, f1, i1, o1, t36, hA, r1⟩ := p36
  obtain ⟨B, c2, f2, i2, o2, t41, hB, r2⟩ := p41
  obtain ⟨v38, t38⟩ : ∃ v, a.tm 38 = v := ⟨_, rfl⟩
  rw [t38] at p38
  have hidx : ∀ {h1 : AH}, Gr h h1 → NetAt h1 A net36 c1 f1 i1 o1 ∧ NetR h1 net36 c1 f1 i1 o1 ∧ NetAt h1 B net41 c2 f2 i2 o2 ∧ NetR h1 net41 c2 f2 i2 o2 ∧ RowOf bsL h1 v38 [[true, false, false]] := fun g => ⟨hA.sub g.sub, r1.sub g.sub, hB.sub g.sub, r2.sub g.sub, p38.sub g.sub⟩
  have lenI0 : ∀ h', aLen Try.prog 32 i1 h' = some (.int .i64 0) := r1.i.len Try.underlying32
  have lenI2 : ∀ h', aLen Try.prog 32 i2 h' = some (.int .i64 2) := r2.i.len Try.underlying32
  have ni1 : net36.inputs = 3 := rfl
  refine opsM_cutAt 9 (R42 h (.pointer (some ⟨A, 0, none⟩)) v38 (.pointer (some ⟨B, 0, none⟩)) 311) (fun N' hN' => ?_) ?_
  · simp only [List.take_succ_cons, List.take_zero, List.drop_succ_cons, List.drop_zero]
    obtain ⟨q1, q2, -, -, -⟩ := hidx (Gr.refl w)
    have oo : SlOf h o1 (([2] : List Int).map (.int .i64)) := q2.o
    have hb1 := aBuild1 t22 h (x := .int .i64 2) rfl rfl
    have gb1 := (Gr.refl w).new (.row [.int .i64 2] 3 true)
    have sb1 : SlOf (h.new (.row [.int .i64 2] 3 true)) (.slice (some ⟨h.next, 0, none⟩) 1 1) (([2] : List Int).map (.int .i64)) := SlOf.lit (by rw [AH.new_get, if_pos rfl]) rfl rfl
    simp (disch := first | omega | decide) only [push_cast, ↓reduceIte, Nat.reduceLT, Nat.reduceEqDiff, reduceCtorEq, Nat.reduceAdd, hn, hd, t36, faL foN0, faL foN1, faL foN2, faL foN3, faL foN4, q1.l0, q1.l1, q1.l2, q1.l3, q1.l4, q1.la, hb1, ni1]
    refine ACall.mono ?_ (same21 (oo.sub gb1.sub) sb1 (by decide))
    rintro _ _ ⟨rfl, rfl⟩
    simp (disch := first | omega | decide) only [push_cast, ↓reduceIte, Nat.reduceLT, Nat.reduceEqDiff, reduceCtorEq, Nat.reduceAdd, hn, hd, t36]
    exact hN' _ _ ⟨by simp (disch := first | omega | decide) only [push_cast, ↓reduceIte, Nat.reduceLT, Nat.reduceEqDiff, reduceCtorEq, Nat.reduceAdd, hn], by simp (disch := first | omega | decide) only [push_cast, ↓reduceIte, Nat.reduceLT, Nat.reduceEqDiff, reduceCtorEq, Nat.reduceAdd, hd], gb1, by simp (disch := first | omega | decide) only [push_cast, ↓reduceIte, Nat.reduceLT, Nat.reduceEqDiff, reduceCtorEq, Nat.reduceAdd, t36], by simp (disch := first | omega | decide) only [push_cast, ↓reduceIte, Nat.reduceLT, Nat.reduceEqDiff, reduceCtorEq, Nat.reduceAdd, t38], by simp (disch := first | omega | decide) only [push_cast, ↓reduceIte, Nat.reduceLT, Nat.reduceEqDiff, reduceCtorEq, Nat.reduceAdd, t41], by simp (disch := first | omega | decide) only [push_cast, ↓reduceIte, Nat.reduceLT, Nat.reduceEqDiff, reduceCtorEq, Nat.reduceAdd]⟩
  clear hn hd t36 t38 t41
  intro b h1 s
  simp only [List.take_succ_cons, List.take_zero, List.drop_succ_cons, List.drop_zero]
  refine opsM_cutAt 6 (R42 h (.pointer (some ⟨A, 0, none⟩)) v38 (.pointer (some ⟨B, 0, none⟩)) 317) (fun N' hN' => ?_) ?_
  · simp only [List.take_succ_cons, List.take_zero, List.drop_succ_cons, List.drop_zero]
    obtain ⟨q1, q2, q3, q4, q5⟩ := hidx s.g
    simp (disch := first | omega | decide) only [push_cast, ↓reduceIte, Nat.reduceLT, Nat.reduceEqDiff, reduceCtorEq, Nat.reduceAdd, s.n, s.d, s.t36, s.t38, s.t41, s.t, faL foN0, faL foN1, faL foN2, faL foN3, faL foN4, q1.l0, q1.l1, q1.l2, q1.l3, q1.l4, q1.la, lenI0]
    exact hN' _ _ ⟨by simp (disch := first | omega | decide) only [push_cast, ↓reduceIte, Nat.reduceLT, Nat.reduceEqDiff, reduceCtorEq, Nat.reduceAdd, s.n], by simp (disch := first | omega | decide) only [push_cast, ↓reduceIte, Nat.reduceLT, Nat.reduceEqDiff, reduceCtorEq, Nat.reduceAdd, s.d], s.g, by simp (disch := first | omega | decide) only [push_cast, ↓reduceIte, Nat.reduceLT, Nat.reduceEqDiff, reduceCtorEq, Nat.reduceAdd, s.t36], by simp (disch := first | omega | decide) only [push_cast, ↓reduceIte, Nat.reduceLT, Nat.reduceEqDiff, reduceCtorEq, Nat.reduceAdd, s.t38], by simp (disch := first | omega | decide) only [push_cast, ↓reduceIte, Nat.reduceLT, Nat.reduceEqDiff, reduceCtorEq, Nat.reduceAdd, s.t41], by simp (disch := first | omega | decide) only [push_cast, ↓reduceIte, Nat.reduceLT, Nat.reduceEqDiff, reduceCtorEq, Nat.reduceAdd]⟩
  clear s
  clear b h1
  intro b h1 s
  simp only [List.take_succ_cons, List.take_zero, List.drop_succ_cons, List.drop_zero]
  refine opsM_cutAt 6 (R42 h (.pointer (some ⟨A, 0, none⟩)) v38 (.pointer (some ⟨B, 0, none⟩)) 323) (fun N' hN' => ?_) ?_
  · simp only [List.take_succ_cons, List.take_zero, List.drop_succ_cons, List.drop_zero]
    obtain ⟨q1, q2, q3, q4, q5⟩ := hidx s.g
    have hb1 := aBuildb3 h1 true false false
    have gb1 := (Gr.refl s.g.wf).new (.row [.bool true, .bool false, .bool false] 4 true)
    have d1 : RowOf boolL (h1.new (.row [.bool true, .bool false, .bool false] 4 true)) (slv h1.next 3) [true, false, false] := rowBl (bs := [true, false, false]) (by rw [AH.new_get, if_pos rfl]; rfl) (by decide)
    generalize h1.new (.row [.bool true, .bool false, .bool false] 4 true) = k1 at hb1 gb1 d1
    have hb2 := aBuild1 t44 k1 (x := slv h1.next 3) rfl rfl
    have gb2 := (Gr.refl gb1.wf).new (.row [slv h1.next 3] 23 true)
    have s3 : RowOf bsL (k1.new (.row [slv h1.next 3] 23 true)) (slv k1.next 1) [[true, false, false]] := rowBs (vs := [slv h1.next 3]) (bss := [[true, false, false]]) (by rw [AH.new_get, if_pos rfl]) rfl (by decide) (fun i v x x1 x2 => by
      match i, x1, x2 with
      | 0, x1, x2 => cases x1; cases x2; exact d1.sub gb2.sub
      | i + 1, x1, x2 => exact nomatch x1)
    have gg := gb1.trans gb2
    have hb2 : aBuildSlice Try.prog 54 1 [(0, .slice (some ⟨h1.next, 0, none⟩) 3 3)] k1 = some (slv k1.next 1, k1.new (.row [slv h1.next 3] 23 true)) := hb2
    simp (disch := first | omega | decide) only [push_cast, ↓reduceIte, Nat.reduceLT, Nat.reduceEqDiff, reduceCtorEq, Nat.reduceAdd, s.n, s.d, s.t36, s.t38, s.t41, s.t, hb1, hb2]
    refine ACall.mono ?_ (eqStates (q5.sub gg.sub) s3 (by decide) (by decide))
    rintro _ _ ⟨rfl, rfl⟩
    simp (disch := first | omega | decide) only [push_cast, ↓reduceIte, Nat.reduceLT, Nat.reduceEqDiff, reduceCtorEq, Nat.reduceAdd, s.n, s.d, s.t36, s.t38, s.t41, s.t]
    exact hN' _ _ ⟨by simp (disch := first | omega | decide) only [push_cast, ↓reduceIte, Nat.reduceLT, Nat.reduceEqDiff, reduceCtorEq, Nat.reduceAdd, s.n], by simp (disch := first | omega | decide) only [push_cast, ↓reduceIte, Nat.reduceLT, Nat.reduceEqDiff, reduceCtorEq, Nat.reduceAdd, s.d], s.g.trans gg, by simp (disch := first | omega | decide) only [push_cast, ↓reduceIte, Nat.reduceLT, Nat.reduceEqDiff, reduceCtorEq, Nat.reduceAdd, s.t36], by simp (disch := first | omega | decide) only [push_cast, ↓reduceIte, Nat.reduceLT, Nat.reduceEqDiff, reduceCtorEq, Nat.reduceAdd, s.t38], by simp (disch := first | omega | decide) only [push_cast, ↓reduceIte, Nat.reduceLT, Nat.reduceEqDiff, reduceCtorEq, Nat.reduceAdd, s.t41], by simp (disch := first | omega | decide) only [push_cast, ↓reduceIte, Nat.reduceLT, Nat.reduceEqDiff, reduceCtorEq, Nat.reduceAdd]⟩
  clear s
  clear b h1
  intro b h1 s
  simp only [List.take_succ_cons, List.take_zero, List.drop_succ_cons, List.drop_zero]
  refine opsM_cutAt 6 (R42 h (.pointer (some ⟨A, 0, none⟩)) v38 (.pointer (some ⟨B, 0, none⟩)) 329) (fun N' hN' => ?_) ?_
  · simp only [List.take_succ_cons, List.take_zero, List.drop_succ_cons, List.drop_zero]
    obtain ⟨q1, q2, q3, q4, q5⟩ := hidx s.g
    simp (disch := first | omega | decide) only [push_cast, ↓reduceIte, Nat.reduceLT, Nat.reduceEqDiff, reduceCtorEq, Nat.reduceAdd, s.n, s.d, s.t36, s.t38, s.t41, s.t, faL foN0, faL foN1, faL foN2, faL foN3, faL foN4, q3.l0, q3.l1, q3.l2, q3.l3, q3.l4, q3.la, lenI2]
    exact hN' _ _ ⟨by simp (disch := first | omega | decide) only [push_cast, ↓reduceIte, Nat.reduceLT, Nat.reduceEqDiff, reduceCtorEq, Nat.reduceAdd, s.n], by simp (disch := first | omega | decide) only [push_cast, ↓reduceIte, Nat.reduceLT, Nat.reduceEqDiff, reduceCtorEq, Nat.reduceAdd, s.d], s.g, by simp (disch := first | omega | decide) only [push_cast, ↓reduceIte, Nat.reduceLT, Nat.reduceEqDiff, reduceCtorEq, Nat.reduceAdd, s.t36], by simp (disch := first | omega | decide) only [push_cast, ↓reduceIte, Nat.reduceLT, Nat.reduceEqDiff, reduceCtorEq, Nat.reduceAdd, s.t38], by simp (disch := first | omega | decide) only [push_cast, ↓reduceIte, Nat.reduceLT, Nat.reduceEqDiff, reduceCtorEq, Nat.reduceAdd, s.t41], by simp (disch := first | omega | decide) only [push_cast, ↓reduceIte, Nat.reduceLT, Nat.reduceEqDiff, reduceCtorEq, Nat.reduceAdd]⟩
  clear s
  clear b h1
  intro b h1 s
  simp only [List.take_succ_cons, List.take_zero, List.drop_succ_cons, List.drop_zero]
  refine opsM_cutAt 9 (R42 h (.pointer (some ⟨A, 0, none⟩)) v38 (.pointer (some ⟨B, 0, none⟩)) 338) (fun N' hN' => ?_) ?_
  · simp only [List.take_succ_cons, List.take_zero, List.drop_succ_cons, List.drop_zero]
    obtain ⟨q1, q2, q3, q4, q5⟩ := hidx s.g
    obtain ⟨x, ⟨pv, rfl, hp⟩, -, l1, e1⟩ := q4.i.get (P := Try.prog) (i := 0) (by decide) default
    have hp : SlOf h1 pv (([2, 3, 1] : List Int).map (.int .i64)) := hp
    have l11 : aLoad Try.prog 22 (slF 2 i2 0 1) h1 = some pv := l1 1 _ flI (by decide)
    have e11 : aFieldAddr Try.prog 43 1 (slF 2 i2 0 0) = some (slF 2 i2 0 1) := e1 _ _ _ foI1
    have hix : aIndexAddr Try.prog 32 i2 (.int .i64 0) = some (slF 2 i2 0 0) := q4.i.idx Try.underlying32 infI .i64 0 (by decide) (by decide)
    have hb1 := aBuildI3 h1 2 3 1
    have gb1 := (Gr.refl s.g.wf).new (.row [.int .i64 2, .int .i64 3, .int .i64 1] 3 true)
    have sb1 : SlOf (h1.new (.row [.int .i64 2, .int .i64 3, .int .i64 1] 3 true)) (.slice (some ⟨h1.next, 0, none⟩) 3 3) (([2, 3, 1] : List Int).map (.int .i64)) := SlOf.lit (by rw [AH.new_get, if_pos rfl]) rfl rfl
    simp (disch := first | omega | decide) only [push_cast, ↓reduceIte, Nat.reduceLT, Nat.reduceEqDiff, reduceCtorEq, Nat.reduceAdd, s.n, s.d, s.t36, s.t38, s.t41, s.t, faL foN0, faL foN1, faL foN2, faL foN3, faL foN4, q3.l0, q3.l1, q3.l2, q3.l3, q3.l4, q3.la, hix, e11, l11, hb1]
    refine ACall.mono ?_ (same21 (hp.sub gb1.sub) sb1 (by decide))
    rintro _ _ ⟨rfl, rfl⟩
    simp (disch := first | omega | decide) only [push_cast, ↓reduceIte, Nat.reduceLT, Nat.reduceEqDiff, reduceCtorEq, Nat.reduceAdd, s.n, s.d, s.t36, s.t38, s.t41, s.t]
    exact hN' _ _ ⟨by simp (disch := first | omega | decide) only [push_cast, ↓reduceIte, Nat.reduceLT, Nat.reduceEqDiff, reduceCtorEq, Nat.reduceAdd, s.n], by simp (disch := first | omega | decide) only [push_cast, ↓reduceIte, Nat.reduceLT, Nat.reduceEqDiff, reduceCtorEq, Nat.reduceAdd, s.d], s.g.trans gb1, by simp (disch := first | omega | decide) only [push_cast, ↓reduceIte, Nat.reduceLT, Nat.reduceEqDiff, reduceCtorEq, Nat.reduceAdd, s.t36], by simp (disch := first | omega | decide) only [push_cast, ↓reduceIte, Nat.reduceLT, Nat.reduceEqDiff, reduceCtorEq, Nat.reduceAdd, s.t38], by simp (disch := first | omega | decide) only [push_cast, ↓reduceIte, Nat.reduceLT, Nat.reduceEqDiff, reduceCtorEq, Nat.reduceAdd, s.t41], by simp (disch := first | omega | decide) only [push_cast, ↓reduceIte, Nat.reduceLT, Nat.reduceEqDiff, reduceCtorEq, Nat.reduceAdd]⟩
  clear s
  clear b h1
  intro b h1 s
  simp only [List.take_succ_cons, List.take_zero, List.drop_succ_cons, List.drop_zero]
  refine opsM_cutAt 9 (R42 h (.pointer (some ⟨A, 0, none⟩)) v38 (.pointer (some ⟨B, 0, none⟩)) 347) (fun N' hN' => ?_) ?_
  · simp only [List.take_succ_cons, List.take_zero, List.drop_succ_cons, List.drop_zero]
    obtain ⟨q1, q2, q3, q4, q5⟩ := hidx s.g
    obtain ⟨x, ⟨pv, rfl, hp⟩, -, l1, e1⟩ := q4.i.get (P := Try.prog) (i := 1) (by decide) default
    have hp : SlOf h1 pv (([4, 0, 1] : List Int).map (.int .i64)) := hp
    have l11 : aLoad Try.prog 22 (slF 2 i2 1 1) h1 = some pv := l1 1 _ flI (by decide)
    have e11 : aFieldAddr Try.prog 43 1 (slF 2 i2 1 0) = some (slF 2 i2 1 1) := e1 _ _ _ foI1
    have hix : aIndexAddr Try.prog 32 i2 (.int .i64 1) = some (slF 2 i2 1 0) := q4.i.idx Try.underlying32 infI .i64 1 (by decide) (by decide)
    have hb1 := aBuildI3 h1 4 0 1
    have gb1 := (Gr.refl s.g.wf).new (.row [.int .i64 4, .int .i64 0, .int .i64 1] 3 true)
    have sb1 : SlOf (h1.new (.row [.int .i64 4, .int .i64 0, .int .i64 1] 3 true)) (.slice (some ⟨h1.next, 0, none⟩) 3 3) (([4, 0, 1] : List Int).map (.int .i64)) := SlOf.lit (by rw [AH.new_get, if_pos rfl]) rfl rfl
    simp (disch := first | omega | decide) only [push_cast, ↓reduceIte, Nat.reduceLT, Nat.reduceEqDiff, reduceCtorEq, Nat.reduceAdd, s.n, s.d, s.t36, s.t38, s.t41, s.t, faL foN0, faL foN1, faL foN2, faL foN3, faL foN4, q3.l0, q3.l1, q3.l2, q3.l3, q3.l4, q3.la, hix, e11, l11, hb1]
    refine ACall.mono ?_ (same21 (hp.sub gb1.sub) sb1 (by decide))
    rintro _ _ ⟨rfl, rfl⟩
    simp (disch := first | omega | decide) only [push_cast, ↓reduceIte, Nat.reduceLT, Nat.reduceEqDiff, reduceCtorEq, Nat.reduceAdd, s.n, s.d, s.t36, s.t38, s.t41, s.t]
    exact hN' _ _ ⟨by simp (disch := first | omega | decide) only [push_cast, ↓reduceIte, Nat.reduceLT, Nat.reduceEqDiff, reduceCtorEq, Nat.reduceAdd, s.n], by simp (disch := first | omega | decide) only [push_cast, ↓reduceIte, Nat.reduceLT, Nat.reduceEqDiff, reduceCtorEq, Nat.reduceAdd, s.d], s.g.trans gb1, by simp (disch := first | omega | decide) only [push_cast, ↓reduceIte, Nat.reduceLT, Nat.reduceEqDiff, reduceCtorEq, Nat.reduceAdd, s.t36], by simp (disch := first | omega | decide) only [push_cast, ↓reduceIte, Nat.reduceLT, Nat.reduceEqDiff, reduceCtorEq, Nat.reduceAdd, s.t38], by simp (disch := first | omega | decide) only [push_cast, ↓reduceIte, Nat.reduceLT, Nat.reduceEqDiff, reduceCtorEq, Nat.reduceAdd, s.t41], by simp (disch := first | omega | decide) only [push_cast, ↓reduceIte, Nat.reduceLT, Nat.reduceEqDiff, reduceCtorEq, Nat.reduceAdd]⟩
  clear s
  clear b h1
  intro b h1 s
  simp only [List.take_succ_cons, List.take_zero, List.drop_succ_cons, List.drop_zero]
  refine opsM_cutAt 6 (R42 h (.pointer (some ⟨A, 0, none⟩)) v38 (.pointer (some ⟨B, 0, none⟩)) 353) (fun N' hN' => ?_) ?_
  · simp only [List.take_succ_cons, List.take_zero, List.drop_succ_cons, List.drop_zero]
    obtain ⟨q1, q2, q3, q4, q5⟩ := hidx s.g
    have oo : SlOf h1 o2 (([4, 3] : List Int).map (.int .i64)) := q4.o
    have hb1 := aBuild2 h1 4 3
    have gb1 := (Gr.refl s.g.wf).new (.row [.int .i64 4, .int .i64 3] 3 true)
    have sb1 : SlOf (h1.new (.row [.int .i64 4, .int .i64 3] 3 true)) (.slice (some ⟨h1.next, 0, none⟩) 2 2) (([4, 3] : List Int).map (.int .i64)) := SlOf.lit (by rw [AH.new_get, if_pos rfl]) rfl rfl
    simp (disch := first | omega | decide) only [push_cast, ↓reduceIte, Nat.reduceLT, Nat.reduceEqDiff, reduceCtorEq, Nat.reduceAdd, s.n, s.d, s.t36, s.t38, s.t41, s.t, faL foN0, faL foN1, faL foN2, faL foN3, faL foN4, q3.l0, q3.l1, q3.l2, q3.l3, q3.l4, q3.la, hb1]
    refine ACall.mono ?_ (same21 (oo.sub gb1.sub) sb1 (by decide))
    rintro _ _ ⟨rfl, rfl⟩
    simp (disch := first | omega | decide) only [push_cast, ↓reduceIte, Nat.reduceLT, Nat.reduceEqDiff, reduceCtorEq, Nat.reduceAdd, s.n, s.d, s.t36, s.t38, s.t41, s.t]
    exact hN' _ _ ⟨by simp (disch := first | omega | decide) only [push_cast, ↓reduceIte, Nat.reduceLT, Nat.reduceEqDiff, reduceCtorEq, Nat.reduceAdd, s.n], by simp (disch := first | omega | decide) only [push_cast, ↓reduceIte, Nat.reduceLT, Nat.reduceEqDiff, reduceCtorEq, Nat.reduceAdd, s.d], s.g.trans gb1, by simp (disch := first | omega | decide) only [push_cast, ↓reduceIte, Nat.reduceLT, Nat.reduceEqDiff, reduceCtorEq, Nat.reduceAdd, s.t36], by simp (disch := first | omega | decide) only [push_cast, ↓reduceIte, Nat.reduceLT, Nat.reduceEqDiff, reduceCtorEq, Nat.reduceAdd, s.t38], by simp (disch := first | omega | decide) only [push_cast, ↓reduceIte, Nat.reduceLT, Nat.reduceEqDiff, reduceCtorEq, Nat.reduceAdd, s.t41], by simp (disch := first | omega | decide) only [push_cast, ↓reduceIte, Nat.reduceLT, Nat.reduceEqDiff, reduceCtorEq, Nat.reduceAdd]⟩
  clear s
  clear b h1
  intro b h1 s
  simp only [List.take_succ_cons, List.take_zero, List.drop_succ_cons, List.drop_zero]
  refine opsM_cutAt 8 (R42 h (.pointer (some ⟨A, 0, none⟩)) v38 (.pointer (some ⟨B, 0, none⟩)) 361) (fun N' hN' => ?_) ?_
  · simp only [List.take_succ_cons, List.take_zero, List.drop_succ_cons, List.drop_zero]
    obtain ⟨q1, q2, q3, q4, q5⟩ := hidx s.g
    obtain ⟨x, rfl, l1, -, -⟩ := q4.f.get (i := 1) (by decide) default
    have l1 : aLoad Try.prog 62 (slF 2 f2 1 0) h1 = some (.agg #[.int .i64 5, .int .u8 1]) := l1 _ agF
    have hix : aIndexAddr Try.prog 31 f2 (.int .i64 1) = some (slF 2 f2 1 0) := q4.f.idx Try.underlying31 infF .i64 1 (by decide) (by decide)
    simp (disch := first | omega | decide) only [push_cast, ↓reduceIte, Nat.reduceLT, Nat.reduceEqDiff, reduceCtorEq, Nat.reduceAdd, s.n, s.d, s.t36, s.t38, s.t41, s.t, faL foN0, faL foN1, faL foN2, faL foN3, faL foN4, q3.l0, q3.l1, q3.l2, q3.l3, q3.l4, q3.la, hix, l1, buildF1, flopEql']
    exact hN' _ _ ⟨by simp (disch := first | omega | decide) only [push_cast, ↓reduceIte, Nat.reduceLT, Nat.reduceEqDiff, reduceCtorEq, Nat.reduceAdd, s.n], by simp (disch := first | omega | decide) only [push_cast, ↓reduceIte, Nat.reduceLT, Nat.reduceEqDiff, reduceCtorEq, Nat.reduceAdd, s.d], s.g, by simp (disch := first | omega | decide) only [push_cast, ↓reduceIte, Nat.reduceLT, Nat.reduceEqDiff, reduceCtorEq, Nat.reduceAdd, s.t36], by simp (disch := first | omega | decide) only [push_cast, ↓reduceIte, Nat.reduceLT, Nat.reduceEqDiff, reduceCtorEq, Nat.reduceAdd, s.t38], by simp (disch := first | omega | decide) only [push_cast, ↓reduceIte, Nat.reduceLT, Nat.reduceEqDiff, reduceCtorEq, Nat.reduceAdd, s.t41], by simp (disch := first | omega | decide) only [push_cast, ↓reduceIte, Nat.reduceLT, Nat.reduceEqDiff, reduceCtorEq, Nat.reduceAdd]⟩
  clear s
  clear b h1
  intro b h1 s
  simp only [List.take_succ_cons, List.take_zero, List.drop_succ_cons, List.drop_zero]
  obtain ⟨q1, q2, q3, q4, q5⟩ := hidx s.g
  obtain ⟨x, rfl, l1, -, -⟩ := q4.f.get (i := 0) (by decide) default
  have l1 : aLoad Try.prog 62 (slF 2 f2 0 0) h1 = some (.agg #[.int .i64 6, .int .u8 0]) := l1 _ agF
  have hix : aIndexAddr Try.prog 31 f2 (.int .i64 0) = some (slF 2 f2 0 0) := q4.f.idx Try.underlying31 infF .i64 0 (by decide) (by decide)
  simp (disch := first | omega | decide) only [push_cast, ↓reduceIte, Nat.reduceLT, Nat.reduceEqDiff, reduceCtorEq, Nat.reduceAdd, s.n, s.d, s.t36, s.t38, s.t41, s.t, faL foN0, faL foN1, faL foN2, faL foN3, faL foN4, q3.l0, q3.l1, q3.l2, q3.l3, q3.l4, q3.la, hix, l1, buildF0, flopEql']
  exact hN _ _ (by simp (disch := first | omega | decide) only [push_cast, ↓reduceIte, Nat.reduceLT, Nat.reduceEqDiff, reduceCtorEq, Nat.reduceAdd, s.n]) (by simp (disch := first | omega | decide) only [push_cast, ↓reduceIte, Nat.reduceLT, Nat.reduceEqDiff, reduceCtorEq, Nat.reduceAdd, s.d]) s.g (by simp (disch := first | omega | decide) only [push_cast, ↓reduceIte, Nat.reduceLT, Nat.reduceEqDiff, reduceCtorEq, Nat.reduceAdd])


/-- Its code. -/
noncomputable def exCode : Code := .seq (.region 0 (opsOf Try.f6 0) false) (.seq (.seq (.region 1 (opsOf Try.f6 1) false) (.cond (.tmp 50) (.seq (.region 2 (opsOf Try.f6 2) false) .ret) .skip)) (.seq (.region 3 (opsOf Try.f6 3) false) (.seq (.region 4 (opsOf Try.f6 4) true) (.seq (.region 5 (opsOf Try.f6 5) false) (.seq (.region 6 (opsOf Try.f6 6) false) (.seq (.seq (.region 7 (opsOf Try.f6 7) false) (.block 0 (bodyBlk Try.f6 0))) (.seq (.region 11 (opsOf Try.f6 11) true) (.seq (.region 12 (opsOf Try.f6 12) false) (.seq (.seq (.region 13 (opsOf Try.f6 13) false) (.block 2 (bodyBlk Try.f6 2))) (.seq (.seq (.region 17 (opsOf Try.f6 17) true) (.block 4 (bodyBlk Try.f6 4))) (.seq (.region 24 (opsOf Try.f6 24) false) (.seq (.region 25 (opsOf Try.f6 25) false) (.seq (.region 26 (opsOf Try.f6 26) true) (.seq (.region 27 (opsOf Try.f6 27) true) (.seq (.region 28 (opsOf Try.f6 28) true) (.seq (.region 29 (opsOf Try.f6 29) true) (.seq (.region 30 (opsOf Try.f6 30) false) (.seq (.region 31 (opsOf Try.f6 31) false) (.seq (.region 32 (opsOf Try.f6 32) false) (.seq (.region 33 (opsOf Try.f6 33) false) (.seq (.region 34 (opsOf Try.f6 34) false) (.seq (.region 35 (opsOf Try.f6 35) false) (.seq (.region 36 (opsOf Try.f6 36) false) (.seq (.region 37 (opsOf Try.f6 37) false) (.seq (.region 38 (opsOf Try.f6 38) false) (.seq (.region 39 (opsOf Try.f6 39) false) (.seq (.seq (.region 40 (opsOf Try.f6 40) false) (.cond (.tmp 302) (.seq (.region 41 (opsOf Try.f6 41) false) .ret) .skip)) (.seq (.region 42 (opsOf Try.f6 42) false) (.ret)))))))))))))))))))))))))))))
theorem exBody : Try.f6.body = some exCode := by kernel_rfl

section
variable {Q : Exit → AAct → AH → Prop} {a : AAct} {h : AH}
theorem stepR {id : Nat} {ops : Array Oper} {c : Code} (hx : opsM Try.prog ops (fun a' h' => wpA Try.prog none c Q a' h') ops.toList a h) : wpA Try.prog none (.seq (.region id ops false) c) Q a h := hx
theorem stepR2 {id : Nat} {ops : Array Oper} {c y : Code} (hx : opsM Try.prog ops (fun a' h' => wpA Try.prog none (.seq y c) Q a' h') ops.toList a h) : wpA Try.prog none (.seq (.seq (.region id ops false) y) c) Q a h := hx
theorem stepD2 {R : AAct → AH → Prop} {id : Nat} {ops : Array Oper} {c y : Code} (hx : AW Try.prog none (.region id ops true) (fun e a' h' => e = .normal ∧ R a' h') a h) (hk : ∀ a' h', R a' h' → wpA Try.prog none (.seq y c) Q a' h') : wpA Try.prog none (.seq (.seq (.region id ops true) y) c) Q a h := by
  rw [wpA_seq, wpA_seq, wpA_draw]
  refine AW.mono ?_ hx
  rintro _ a' h' ⟨rfl, r⟩
  exact hk _ _ r
theorem stepD {R : AAct → AH → Prop} {id : Nat} {ops : Array Oper} {c : Code} (hx : AW Try.prog none (.region id ops true) (fun e a' h' => e = .normal ∧ R a' h') a h) (hk : ∀ a' h', R a' h' → wpA Try.prog none c Q a' h') : wpA Try.prog none (.seq (.region id ops true) c) Q a h := by
  rw [wpA_seq, wpA_draw]
  refine AW.mono ?_ hx
  rintro _ a' h' ⟨rfl, r⟩
  exact hk _ _ r
theorem stepB {R : AAct → AH → Prop} {i : Nat} {b c l : Code} (hb : b = .loop l) (hx : AW Try.prog none b (fun e a' h' => e = .exit i ∧ R a' h') a h) (hk : ∀ a' h', R a' h' → wpA Try.prog none c Q a' h') : wpA Try.prog none (.seq (.block i b) c) Q a h := by
  subst hb
  rw [wpA_seq, wpA_block, wpA_loop]
  refine AW.mono ?_ hx
  rintro _ a' h' ⟨rfl, r⟩
  rw [blockQ_exit, if_pos rfl]
  exact hk _ _ r
theorem stepC {t : Nat} {x c : Code} (ht : a.tm t = .bool false) (hk : wpA Try.prog none c Q a h) : wpA Try.prog none (.seq (.cond (.tmp t) x .skip) c) Q a h := by
  rw [wpA_seq, wpA_cond]
  refine ⟨rfl, ?_⟩
  rw [ev_tmp, ht, condV_false, wpA_skip]
  exact hk
end

theorem S6.to {a a' : AAct} {h : AH} (s : S6 a h) (hn : a'.n = a.n) (hd : a'.df = a.df) (ht : ∀ t, t < 6 → a'.tm t = a.tm t) : S6 a' h := by
  obtain ⟨h1, h2, w, B, A6, D9, DO, DI, A, F, O, ⟨t1, t2, t3, t4, t5⟩, r⟩ := s
  exact ⟨hn.trans h1, hd.trans h2, w, B, A6, D9, DO, DI, A, F, O, ⟨(ht 1 (by decide)).trans t1, (ht 2 (by decide)).trans t2, (ht 3 (by decide)).trans t3, (ht 4 (by decide)).trans t4, (ht 5 (by decide)).trans t5⟩, r⟩

theorem exR0 {a : AAct} {h : AH} {N : AAct → AH → Prop} (hn : a.n = 370) (hd : a.df = []) (hN : ∀ a', a'.n = 370 → a'.df = [] → N a' h) : opsM Try.prog (opsOf Try.f6 0) N (opsOf Try.f6 0).toList a h := by
  refine opsM.at (rfl : #[_] = _) (rfl : [_] = _) ?_
  simp (disch := first | omega | decide) only [push_cast, ↓reduceIte, Nat.reduceLT, Nat.reduceEqDiff, reduceCtorEq, Nat.reduceAdd, hn, hd]
  exact hN _ (by simp (disch := first | omega | decide) only [push_cast, ↓reduceIte, Nat.reduceLT, Nat.reduceEqDiff, reduceCtorEq, Nat.reduceAdd, hn]) (by simp (disch := first | omega | decide) only [push_cast, ↓reduceIte, Nat.reduceLT, Nat.reduceEqDiff, reduceCtorEq, Nat.reduceAdd, hd])
theorem exR1 (aw : ∀ h, ACall Try.prog 7 [] h (fun v h' => v = .bool true ∧ h' = h)) {a : AAct} {h : AH} {N : AAct → AH → Prop} (hn : a.n = 370) (hd : a.df = []) (hN : ∀ a', a'.n = 370 → a'.df = [] → a'.tm 50 = .bool false → N a' h) : opsM Try.prog (opsOf Try.f6 1) N (opsOf Try.f6 1).toList a h := by
  refine opsM.at (rfl : #[_, _, _, _, _, _, _, _] = _) (rfl : [_, _, _, _, _, _, _, _] = _) ?_
  simp (disch := first | omega | decide) only [push_cast, ↓reduceIte, Nat.reduceLT, Nat.reduceEqDiff, reduceCtorEq, Nat.reduceAdd, hn, hd]
  refine ACall.mono ?_ (aw _)
  rintro _ _ ⟨rfl, rfl⟩
  simp (disch := first | omega | decide) only [push_cast, ↓reduceIte, Nat.reduceLT, Nat.reduceEqDiff, reduceCtorEq, Nat.reduceAdd, hn, hd]
  exact hN _ (by simp (disch := first | omega | decide) only [push_cast, ↓reduceIte, Nat.reduceLT, Nat.reduceEqDiff, reduceCtorEq, Nat.reduceAdd, hn]) (by simp (disch := first | omega | decide) only [push_cast, ↓reduceIte, Nat.reduceLT, Nat.reduceEqDiff, reduceCtorEq, Nat.reduceAdd, hd]) (by simp (disch := first | omega | decide) only [push_cast, ↓reduceIte, Nat.reduceLT, Nat.reduceEqDiff, reduceCtorEq, Nat.reduceAdd])
theorem exR7 {a : AAct} {h : AH} {N : AAct → AH → Prop} (s : S6 a h) (hN : ∀ a', S6 a' h → a'.tm 6 = .int .i64 0 → N a' h) : opsM Try.prog (opsOf Try.f6 7) N (opsOf Try.f6 7).toList a h := by
  refine opsM.at (rfl : #[_] = _) (rfl : [_] = _) ?_
  have hn := s.1
  have hd := s.2.1
  simp (disch := first | omega | decide) only [push_cast, ↓reduceIte, Nat.reduceLT, Nat.reduceEqDiff, reduceCtorEq, Nat.reduceAdd, hn, hd]
  exact hN _ (s.to (by simp (disch := first | omega | decide) only [push_cast, ↓reduceIte, Nat.reduceLT, Nat.reduceEqDiff, reduceCtorEq, Nat.reduceAdd]) (by simp (disch := first | omega | decide) only [push_cast, ↓reduceIte, Nat.reduceLT, Nat.reduceEqDiff, reduceCtorEq, Nat.reduceAdd]) (fun t ht => by simp only [put_tm]; rw [if_neg (by omega)])) (by simp (disch := first | omega | decide) only [push_cast, ↓reduceIte, Nat.reduceLT, Nat.reduceEqDiff, reduceCtorEq, Nat.reduceAdd])
theorem exR12 {a : AAct} {h : AH} {N : AAct → AH → Prop} (hn : a.n = 370) (hd : a.df = []) (hN : ∀ a', a'.n = 370 → a'.df = [] → (∀ t, t < 8 → a'.tm t = a.tm t) → a'.tm 8 = .slice none 0 0 → N a' h) : opsM Try.prog (opsOf Try.f6 12) N (opsOf Try.f6 12).toList a h := by
  refine opsM.at (rfl : #[_] = _) (rfl : [_] = _) ?_
  simp (disch := first | omega | decide) only [push_cast, ↓reduceIte, Nat.reduceLT, Nat.reduceEqDiff, reduceCtorEq, Nat.reduceAdd, hn, hd]
  exact hN _ (by simp (disch := first | omega | decide) only [push_cast, ↓reduceIte, Nat.reduceLT, Nat.reduceEqDiff, reduceCtorEq, Nat.reduceAdd, hn]) (by simp (disch := first | omega | decide) only [push_cast, ↓reduceIte, Nat.reduceLT, Nat.reduceEqDiff, reduceCtorEq, Nat.reduceAdd, hd]) (fun t ht => by simp only [put_tm]; rw [if_neg (by omega)]) (by simp (disch := first | omega | decide) only [push_cast, ↓reduceIte, Nat.reduceLT, Nat.reduceEqDiff, reduceCtorEq, Nat.reduceAdd])
theorem exR13 {a : AAct} {h : AH} {N : AAct → AH → Prop} (hn : a.n = 370) (hd : a.df = []) (hN : ∀ a', a'.n = 370 → a'.df = [] → (∀ t, t < 9 → a'.tm t = a.tm t) → a'.tm 9 = .int .i64 0 → N a' h) : opsM Try.prog (opsOf Try.f6 13) N (opsOf Try.f6 13).toList a h := by
  refine opsM.at (rfl : #[_] = _) (rfl : [_] = _) ?_
  simp (disch := first | omega | decide) only [push_cast, ↓reduceIte, Nat.reduceLT, Nat.reduceEqDiff, reduceCtorEq, Nat.reduceAdd, hn, hd]
  exact hN _ (by simp (disch := first | omega | decide) only [push_cast, ↓reduceIte, Nat.reduceLT, Nat.reduceEqDiff, reduceCtorEq, Nat.reduceAdd, hn]) (by simp (disch := first | omega | decide) only [push_cast, ↓reduceIte, Nat.reduceLT, Nat.reduceEqDiff, reduceCtorEq, Nat.reduceAdd, hd]) (fun t ht => by simp only [put_tm]; rw [if_neg (by omega)]) (by simp (disch := first | omega | decide) only [push_cast, ↓reduceIte, Nat.reduceLT, Nat.reduceEqDiff, reduceCtorEq, Nat.reduceAdd])

theorem slAt {h : AH} {u v : Value} {vs : List Value} (p : SlOf h v vs) (e : u = v) : SlOf h u vs := e ▸ p
theorem rowAt {α : Type} {L : Lay α} {h : AH} {u v : Value} {xs : List α} (p : RowOf L h v xs) (e : u = v) : RowOf L h u xs := e ▸ p
theorem NetP.at {h : AH} {u v : Value} {n : Net} (p : NetP h v n) (e : u = v) : NetP h u n := e ▸ p

theorem exMain (aw : ∀ h, ACall Try.prog 7 [] h (fun v h' => v = .bool true ∧ h' = h)) {Q : Exit → AAct → AH → Prop} {a : AAct} {h : AH} (hn : a.n = 370) (hd : a.df = []) (w : WFH h) (hQ : ∀ a' h', a'.n = 370 → a'.df = [] → a'.tm 0 = .bool true → Q .ret a' h') : wpA Try.prog none exCode Q a h := by
  unfold exCode
  refine stepR (exR0 hn hd fun a hn hd => ?_)
  refine stepR2 (exR1 aw hn hd fun a hn hd t50 => ?_)
  refine stepC t50 ?_
  refine stepR (exR3 hn hd w fun a h s3 => ?_)
  refine stepD (exR4 s3) (fun a h s4 => ?_)
  refine stepR (exR5 s4 fun a h hn hd kt s5 => ?_)
  obtain ⟨DO, nk, hO, B, A6, D9, A, F, O, ⟨t1, t2, t3, t4, t5⟩, r⟩ := s5
  refine stepR (exR6 hn hd nk.wf hO ⟨B, A6, D9, A, F, O, ⟨(kt 1 (by decide)).trans t1, (kt 2 (by decide)).trans t2, (kt 3 (by decide)).trans t3, (kt 4 (by decide)).trans t4, (kt 5 (by decide)).trans t5⟩, r⟩ fun a h s6 => ?_)
  refine stepR2 (exR7 s6 fun a s6 t6 => ?_)
  refine stepB rfl (exL0 s6 t6) fun a h s7 => ?_
  obtain ⟨p1, p2, p3, p4, p5⟩ := s7.nets
  have hn := s7.1
  have hd := s7.2.1
  have w := s7.2.2.1
  refine stepD (exR11 hn hd) fun a h s => ?_
  obtain ⟨hn, hd, g, k, p7⟩ := s
  replace w := g.wf
  replace p1 := NetP.at (p1.sub g.sub) (k 1 (by decide))
  replace p2 := NetP.at (p2.sub g.sub) (k 2 (by decide))
  replace p3 := NetP.at (p3.sub g.sub) (k 3 (by decide))
  replace p4 := NetP.at (p4.sub g.sub) (k 4 (by decide))
  replace p5 := NetP.at (p5.sub g.sub) (k 5 (by decide))
  refine stepR (exR12 hn hd fun a hn hd k e8 => ?_)
  replace p1 := NetP.at (p1) (k 1 (by decide))
  replace p2 := NetP.at (p2) (k 2 (by decide))
  replace p3 := NetP.at (p3) (k 3 (by decide))
  replace p4 := NetP.at (p4) (k 4 (by decide))
  replace p5 := NetP.at (p5) (k 5 (by decide))
  replace p7 := NetP.at (p7) (k 7 (by decide))
  refine stepR2 (exR13 hn hd fun a hn hd k e9 => ?_)
  replace p1 := NetP.at (p1) (k 1 (by decide))
  replace p2 := NetP.at (p2) (k 2 (by decide))
  replace p3 := NetP.at (p3) (k 3 (by decide))
  replace p4 := NetP.at (p4) (k 4 (by decide))
  replace p5 := NetP.at (p5) (k 5 (by decide))
  replace p7 := NetP.at (p7) (k 7 (by decide))
  replace e8 := (k 8 (by decide)).trans e8
  refine stepB rfl (exL2 hn hd w e8 e9) fun a h s => ?_
  obtain ⟨hn, hd, g, k, p8⟩ := s
  replace w := g.wf
  replace p1 := NetP.at (p1.sub g.sub) (k 1 (by decide))
  replace p2 := NetP.at (p2.sub g.sub) (k 2 (by decide))
  replace p3 := NetP.at (p3.sub g.sub) (k 3 (by decide))
  replace p4 := NetP.at (p4.sub g.sub) (k 4 (by decide))
  replace p5 := NetP.at (p5.sub g.sub) (k 5 (by decide))
  replace p7 := NetP.at (p7.sub g.sub) (k 7 (by decide))
  refine stepD2 (exR17 hn hd p1 p2 p3 p4 p5 p7 p8) fun a h s => ?_
  obtain ⟨hn, hd, g, k, hT, hr, t123, t124⟩ := s
  replace w := g.wf
  replace p1 := NetP.at (p1.sub g.sub) (k 1 (by decide))
  replace p7 := NetP.at (p7.sub g.sub) (k 7 (by decide))
  replace p8 := slAt (p8.sub g.sub) (k 8 (by decide))
  refine stepB rfl (exL4 hn hd w hT hr t123 t124) fun a h s => ?_
  obtain ⟨hn, hd, g, k⟩ := s
  replace w := g.wf
  replace p1 := NetP.at (p1.sub g.sub) (k 1 (by decide))
  replace p7 := NetP.at (p7.sub g.sub) (k 7 (by decide))
  replace p8 := slAt (p8.sub g.sub) (k 8 (by decide))
  refine stepR (exR24 hn hd w p1 fun a h x e15 => ?_)
  have hn := x.n
  have hd := x.d
  have g := x.g
  replace w := g.wf
  replace p7 := NetP.at (p7.sub g.sub) (x.k 7 (by decide) (by decide))
  replace p8 := slAt (p8.sub g.sub) (x.k 8 (by decide) (by decide))
  refine stepR (exR25 hn hd w fun a h x e17 => ?_)
  have hn := x.n
  have hd := x.d
  have g := x.g
  replace w := g.wf
  replace p7 := NetP.at (p7.sub g.sub) (x.k 7 (by decide) (by decide))
  replace p8 := slAt (p8.sub g.sub) (x.k 8 (by decide) (by decide))
  replace e15 := (x.k 15 (by decide) (by decide)).trans e15
  refine stepD (exR26 hn hd) fun a h s => ?_
  obtain ⟨x, e19⟩ := s
  have hn := x.n
  have hd := x.d
  have g := x.g
  replace w := g.wf
  replace p7 := NetP.at (p7.sub g.sub) (x.k 7 (by decide) (by decide))
  replace p8 := slAt (p8.sub g.sub) (x.k 8 (by decide) (by decide))
  replace e15 := (x.k 15 (by decide) (by decide)).trans e15
  replace e17 := (x.k 17 (by decide) (by decide)).trans e17
  refine stepD (exR27 hn hd) fun a h s => ?_
  obtain ⟨x, e21⟩ := s
  have hn := x.n
  have hd := x.d
  have g := x.g
  replace w := g.wf
  replace p7 := NetP.at (p7.sub g.sub) (x.k 7 (by decide) (by decide))
  replace p8 := slAt (p8.sub g.sub) (x.k 8 (by decide) (by decide))
  replace e15 := (x.k 15 (by decide) (by decide)).trans e15
  replace e17 := (x.k 17 (by decide) (by decide)).trans e17
  replace e19 := (x.k 19 (by decide) (by decide)).trans e19
  refine stepD (exR28 hn hd p7 p8) fun a h s => ?_
  obtain ⟨x, e23⟩ := s
  have hn := x.n
  have hd := x.d
  have g := x.g
  replace w := g.wf
  replace p7 := NetP.at (p7.sub g.sub) (x.k 7 (by decide) (by decide))
  replace p8 := slAt (p8.sub g.sub) (x.k 8 (by decide) (by decide))
  replace e15 := (x.k 15 (by decide) (by decide)).trans e15
  replace e17 := (x.k 17 (by decide) (by decide)).trans e17
  replace e19 := (x.k 19 (by decide) (by decide)).trans e19
  replace e21 := (x.k 21 (by decide) (by decide)).trans e21
  refine stepD (exR29 hn hd p7 p8) fun a h s => ?_
  obtain ⟨x, e24, e25⟩ := s
  have hn := x.n
  have hd := x.d
  have g := x.g
  replace w := g.wf
  replace e15 := (x.k 15 (by decide) (by decide)).trans e15
  replace e17 := (x.k 17 (by decide) (by decide)).trans e17
  replace e19 := (x.k 19 (by decide) (by decide)).trans e19
  replace e21 := (x.k 21 (by decide) (by decide)).trans e21
  replace e23 := (x.k 23 (by decide) (by decide)).trans e23
  refine stepR (exR30 hn hd w fun a h x e27 => ?_)
  have hn := x.n
  have hd := x.d
  have g := x.g
  replace w := g.wf
  replace e15 := (x.k 15 (by decide) (by decide)).trans e15
  replace e17 := (x.k 17 (by decide) (by decide)).trans e17
  replace e19 := (x.k 19 (by decide) (by decide)).trans e19
  replace e21 := (x.k 21 (by decide) (by decide)).trans e21
  replace e23 := (x.k 23 (by decide) (by decide)).trans e23
  replace e24 := (x.k 24 (by decide) (by decide)).trans e24
  replace e25 := (x.k 25 (by decide) (by decide)).trans e25
  refine stepR (exR31 hn hd w fun a h x e29 => ?_)
  have hn := x.n
  have hd := x.d
  have g := x.g
  replace w := g.wf
  replace e15 := (x.k 15 (by decide) (by decide)).trans e15
  replace e17 := (x.k 17 (by decide) (by decide)).trans e17
  replace e19 := (x.k 19 (by decide) (by decide)).trans e19
  replace e21 := (x.k 21 (by decide) (by decide)).trans e21
  replace e23 := (x.k 23 (by decide) (by decide)).trans e23
  replace e24 := (x.k 24 (by decide) (by decide)).trans e24
  replace e25 := (x.k 25 (by decide) (by decide)).trans e25
  replace e27 := (x.k 27 (by decide) (by decide)).trans e27
  refine stepR (exR32 hn hd w fun a h x e31 => ?_)
  have hn := x.n
  have hd := x.d
  have g := x.g
  replace w := g.wf
  replace e15 := (x.k 15 (by decide) (by decide)).trans e15
  replace e17 := (x.k 17 (by decide) (by decide)).trans e17
  replace e19 := (x.k 19 (by decide) (by decide)).trans e19
  replace e21 := (x.k 21 (by decide) (by decide)).trans e21
  replace e23 := (x.k 23 (by decide) (by decide)).trans e23
  replace e24 := (x.k 24 (by decide) (by decide)).trans e24
  replace e25 := (x.k 25 (by decide) (by decide)).trans e25
  replace e27 := (x.k 27 (by decide) (by decide)).trans e27
  replace e29 := (x.k 29 (by decide) (by decide)).trans e29
  refine stepR (exR33 hn hd w fun a h x e33 => ?_)
  have hn := x.n
  have hd := x.d
  have g := x.g
  replace w := g.wf
  replace e15 := (x.k 15 (by decide) (by decide)).trans e15
  replace e17 := (x.k 17 (by decide) (by decide)).trans e17
  replace e19 := (x.k 19 (by decide) (by decide)).trans e19
  replace e21 := (x.k 21 (by decide) (by decide)).trans e21
  replace e23 := (x.k 23 (by decide) (by decide)).trans e23
  replace e24 := (x.k 24 (by decide) (by decide)).trans e24
  replace e25 := (x.k 25 (by decide) (by decide)).trans e25
  replace e27 := (x.k 27 (by decide) (by decide)).trans e27
  replace e29 := (x.k 29 (by decide) (by decide)).trans e29
  replace e31 := (x.k 31 (by decide) (by decide)).trans e31
  refine stepR (exR34 hn hd w fun a h x e35 => ?_)
  have hn := x.n
  have hd := x.d
  have g := x.g
  replace w := g.wf
  replace e15 := (x.k 15 (by decide) (by decide)).trans e15
  replace e17 := (x.k 17 (by decide) (by decide)).trans e17
  replace e19 := (x.k 19 (by decide) (by decide)).trans e19
  replace e21 := (x.k 21 (by decide) (by decide)).trans e21
  replace e23 := (x.k 23 (by decide) (by decide)).trans e23
  replace e24 := (x.k 24 (by decide) (by decide)).trans e24
  replace e25 := (x.k 25 (by decide) (by decide)).trans e25
  replace e27 := (x.k 27 (by decide) (by decide)).trans e27
  replace e29 := (x.k 29 (by decide) (by decide)).trans e29
  replace e31 := (x.k 31 (by decide) (by decide)).trans e31
  replace e33 := (x.k 33 (by decide) (by decide)).trans e33
  refine stepR (exR35 hn hd w fun a h x p36 e37 => ?_)
  have hn := x.n
  have hd := x.d
  have g := x.g
  replace w := g.wf
  replace e15 := (x.k 15 (by decide) (by decide)).trans e15
  replace e17 := (x.k 17 (by decide) (by decide)).trans e17
  replace e19 := (x.k 19 (by decide) (by decide)).trans e19
  replace e21 := (x.k 21 (by decide) (by decide)).trans e21
  replace e23 := (x.k 23 (by decide) (by decide)).trans e23
  replace e24 := (x.k 24 (by decide) (by decide)).trans e24
  replace e25 := (x.k 25 (by decide) (by decide)).trans e25
  replace e27 := (x.k 27 (by decide) (by decide)).trans e27
  replace e29 := (x.k 29 (by decide) (by decide)).trans e29
  replace e31 := (x.k 31 (by decide) (by decide)).trans e31
  replace e33 := (x.k 33 (by decide) (by decide)).trans e33
  replace e35 := (x.k 35 (by decide) (by decide)).trans e35
  refine stepR (exR36 hn hd w fun a h x p38 e39 => ?_)
  have hn := x.n
  have hd := x.d
  have g := x.g
  replace w := g.wf
  replace e15 := (x.k 15 (by decide) (by decide)).trans e15
  replace e17 := (x.k 17 (by decide) (by decide)).trans e17
  replace e19 := (x.k 19 (by decide) (by decide)).trans e19
  replace e21 := (x.k 21 (by decide) (by decide)).trans e21
  replace e23 := (x.k 23 (by decide) (by decide)).trans e23
  replace e24 := (x.k 24 (by decide) (by decide)).trans e24
  replace e25 := (x.k 25 (by decide) (by decide)).trans e25
  replace e27 := (x.k 27 (by decide) (by decide)).trans e27
  replace e29 := (x.k 29 (by decide) (by decide)).trans e29
  replace e31 := (x.k 31 (by decide) (by decide)).trans e31
  replace e33 := (x.k 33 (by decide) (by decide)).trans e33
  replace e35 := (x.k 35 (by decide) (by decide)).trans e35
  replace p36 := NetP.at (p36.sub g.sub) (x.k 36 (by decide) (by decide))
  replace e37 := (x.k 37 (by decide) (by decide)).trans e37
  refine stepR (exR37 hn hd w fun a h x e37b => ?_)
  refine stepR (exR38 w x e37b fun a h x p40 => ?_)
  have hn := x.n
  have hd := x.d
  have g := x.g
  replace w := g.wf
  replace e15 := (x.k 15 (by decide) (by decide)).trans e15
  replace e17 := (x.k 17 (by decide) (by decide)).trans e17
  replace e19 := (x.k 19 (by decide) (by decide)).trans e19
  replace e21 := (x.k 21 (by decide) (by decide)).trans e21
  replace e23 := (x.k 23 (by decide) (by decide)).trans e23
  replace e24 := (x.k 24 (by decide) (by decide)).trans e24
  replace e25 := (x.k 25 (by decide) (by decide)).trans e25
  replace e27 := (x.k 27 (by decide) (by decide)).trans e27
  replace e29 := (x.k 29 (by decide) (by decide)).trans e29
  replace e31 := (x.k 31 (by decide) (by decide)).trans e31
  replace e33 := (x.k 33 (by decide) (by decide)).trans e33
  replace e35 := (x.k 35 (by decide) (by decide)).trans e35
  replace p36 := NetP.at (p36.sub g.sub) (x.k 36 (by decide) (by decide))
  replace e37 := (x.k 37 (by decide) (by decide)).trans e37
  replace p38 := rowAt (p38.sub g.sub) (x.k 38 (by decide) (by decide))
  replace e39 := (x.k 39 (by decide) (by decide)).trans e39
  refine stepR (exR39 hn hd w p40 fun a h x p41 e42 => ?_)
  have hn := x.n
  have hd := x.d
  have g := x.g
  replace w := g.wf
  replace e15 := (x.k 15 (by decide) (by decide)).trans e15
  replace e17 := (x.k 17 (by decide) (by decide)).trans e17
  replace e19 := (x.k 19 (by decide) (by decide)).trans e19
  replace e21 := (x.k 21 (by decide) (by decide)).trans e21
  replace e23 := (x.k 23 (by decide) (by decide)).trans e23
  replace e24 := (x.k 24 (by decide) (by decide)).trans e24
  replace e25 := (x.k 25 (by decide) (by decide)).trans e25
  replace e27 := (x.k 27 (by decide) (by decide)).trans e27
  replace e29 := (x.k 29 (by decide) (by decide)).trans e29
  replace e31 := (x.k 31 (by decide) (by decide)).trans e31
  replace e33 := (x.k 33 (by decide) (by decide)).trans e33
  replace e35 := (x.k 35 (by decide) (by decide)).trans e35
  replace p36 := NetP.at (p36.sub g.sub) (x.k 36 (by decide) (by decide))
  replace e37 := (x.k 37 (by decide) (by decide)).trans e37
  replace p38 := rowAt (p38.sub g.sub) (x.k 38 (by decide) (by decide))
  replace e39 := (x.k 39 (by decide) (by decide)).trans e39
  refine stepR2 (exR40 hn hd ⟨e15, e17, e19, e21, e23, e25, e27, e29, e31, e33, e35, e37, e39, e42, e24⟩ fun a hn hd k t302 => ?_)
  refine stepC t302 ?_
  replace p36 := NetP.at (p36) (k 36 (by decide))
  replace p38 := rowAt (p38) (k 38 (by decide))
  replace p41 := NetP.at (p41) (k 41 (by decide))
  refine stepR (exR42 hn hd w p36 p38 p41 fun a h hn hd _ t0 => ?_)
  exact hQ _ _ hn hd t0

/-- The law returns true. -/
theorem scanExamples (aw : ∀ h, ACall Try.prog 7 [] h (fun v h' => v = .bool true ∧ h' = h)) (h : AH) :
    ACall Try.prog 6 [] h (fun r _ => r = .bool true) := by
  refine ACall.wf ⟨_, Try.func6, rfl, by kernel_rfl⟩ fun hwf => ?_
  refine ACall.of_wp 370 [.tmp 0] Try.func6 exBody rfl rfl (by kernel_rfl) fun a hn hd ha => ?_
  refine exMain aw hn hd hwf fun a' h' hn hd t0 => ?_
  simp (disch := first | omega | decide) only [push_cast, ↓reduceIte, Nat.reduceLT, Nat.reduceEqDiff, reduceCtorEq, Nat.reduceAdd, hn, hd, t0]

end Go.Ab.S1

namespace Go.Ab.S1
open Go.Proofs

def isTrueV : Value → EH → Bool
  | .bool true, _ => true
  | _, _ => false

def s1pures : List (FuncId × Value) := [(30, .int .i64 0)]

theorem awakeRuns : evCall Try.prog (evC ⟨Try.prog, s1plans, s1pures⟩ 100000) 7 [] { next := 0, hp := T.full 11 } isTrueV = true := by kernel_rfl

theorem mixedW : Try.prog.follows .mixedOrders = true := by kernel_rfl

theorem emptyDen : (EH.den { next := 0, hp := T.full 11 }) = emptyH := by
  simp only [EH.den, emptyH]; congr 1; funext i; exact full_get 11 i

theorem awake (h : AH) : ACall Try.prog 7 [] h (fun v h' => v = .bool true ∧ h' = h) := by
  refine ACall.closed rfl rfl ?_ h
  have := evCall_sound (evC_sound (E := ⟨Try.prog, s1plans, s1pures⟩) mixedW 100000) 7 [] _ isTrueV awakeRuns
  rw [emptyDen] at this
  refine ACall.mono ?_ this
  rintro v h' ⟨eh, rfl, hk⟩
  unfold isTrueV at hk
  split at hk
  · rfl
  · cases hk
end Go.Ab.S1
