/- scan.Insert. netlabref28.letter, digit, name, one and Check; netlabref21.Mask (evaluated) and Valid. netlabref28.letter, digit, name, one and Check. netlabref28.one and Check. -/
import Derived.Test.YtnejoceplinjpaaGreatB10
set_option linter.unusedSimpArgs false
set_option linter.unusedVariables false
namespace Go.Ab.S1
open Go.Proofs
set_option linter.unusedSimpArgs false
set_option linter.unusedVariables false
set_option maxRecDepth 100000
set_option maxHeartbeats 4000000
attribute [local push_cast] wpA_skip wpA_ret wpA_exit wpA_seq wpA_block wpA_cond2 andK_true wpA_region wpA_draw wpA_loop thenQ_normal thenQ_ret thenQ_exit blockQ_normal blockQ_ret blockQ_exit condV_true condV_false opsM_nil opsM_cons2 okM_true wantM_true wantM_false stepM seqM_cons2 seqM_nil2 okS_true wantS_true wantS_false stepS skipS okB Keeps_nil contK_app List.zip_cons_cons List.zip_nil_left List.zip_nil_right Op.operands Call.operands Array.toList_append List.append_nil List.nil_append List.all_cons List.all_nil cOK plain put_n put_tm put_none put_df ev_tmp ev_const ev_func wanted_none wanted_some callR_func dop ex_some1 aBuiltin aBin intBin aUn Option.map_some Bool.and_true Bool.true_and Bool.and_self List.map_cons List.map_nil List.toList_toArray List.getElem?_toArray List.getElem?_cons_zero List.getElem?_cons_succ Option.getD_some Option.getD_none Bool.false_eq_true eq_self_iff_true decide_true decide_false List.cons_append aExtract resL resV List.getD_cons_zero List.getD_cons_succ List.getD_nil Nat.succ_ne_self g1 g2 yieldedA2 isB_bool isB_undef g3 Option.bind_some Option.bind_none bne_self_eq_false beq_self_eq_true Bool.not_true Bool.not_false Int.toNat_natCast List.length_map List.mem_cons List.not_mem_nil or_false not_false_eq_true decide_not Bool.not_not bodyR_ret2 bodyR_normal2 closeMarks_nil ex_some0 Nat.zero_add Nat.add_zero ieq ine List.map_toArray Option.toArray_none Option.toArray_some oev Keeps_cons Still_eq selL wpX_skip wpX_ret wpX_exit wpX_seq wpX_block wpX_cond wpX_region wpX_draw wpX_loop List.take_succ_cons List.take_zero List.drop_succ_cons List.drop_zero Int.zero_add Int.add_zero aNil
attribute [local push_cast] treeM_nil treeM_step treeM_two okX_true wantX_true wantX_false stepX skipX

section
variable {b h : AH} {X T : Nat} {m : Net} {nm : Nat → Nat} {ob : Nat → Option AObj} {cv fv iv ov : Value}

/-- An output more. -/
theorem Bld.pushO (B : Bld b h X T m nm ob cv fv iv ov) (w0 : WFH b) (y : Int) (hb : m.outs.length ≤ 4294967296) :
    aBuildSlice Tryz.prog 25 1 [(0, .int .i64 y)] h = some (.slice (some ⟨h.next, 0, none⟩) 1 1, h.new (.row [.int .i64 y] 3 true)) ∧
    ∃ v' h' h'', aAppend Tryz.prog #[25, 25] ov (.slice (some ⟨h.next, 0, none⟩) 1 1) (h.new (.row [.int .i64 y] 3 true)) = some (v', h') ∧
      aStore Tryz.prog 25 (.pointer (some ⟨T, 4, none⟩)) v' h' = some h'' ∧ ∃ nm' ob', Bld b h'' X T { m with outs := m.outs ++ [y] } nm' ob' cv fv iv v' := by
  have g3 := (Gr.refl B.own.gr.wf).new (.row [.int .i64 y] 3 true)
  have B1 := B.grown g3
  have s1 : Sub (away nm ob X h) (away nm ob X (h.new (.row [.int .i64 y] 3 true))) := hide_mono (hide_mono g3.sub)
  have hB : (h.new (.row [.int .i64 y] 3 true)).get h.next = some (.row [.int .i64 y] 3 true) := by rw [AH.new_get, if_pos rfl]
  obtain ⟨v', h', happ, hup⟩ := appendV (t := 25) (t2 := 25) t22 ⟨_, Tryz.underlying25⟩ g3.wf B1.o (B1.own.get 3) hB rfl rfl (by simp; omega) (by simp; omega)
  obtain ⟨A', o', hV, hgA, hAA⟩ := hup.up
  obtain ⟨o2, s2⟩ := ownUp (r := 3) w0 B1.own hgA hAA hup.frx hup.wf hup.nx
  replace s2 : Sub (away nm ob X _) (away (upd nm 3 A') (upd ob 3 (some o')) X h') := hide_mono s2
  have h4 : upd ob 3 (some o') 4 = some (.row (netC m cv fv iv ov) 27 true) := by rw [upd_ne _ _ (by decide)]; exact B.at4
  have n4 : upd nm 3 A' 4 = T := by rw [upd_ne _ _ (by decide)]; exact B.t
  have hg := o2.get 4 _ h4
  rw [n4] at hg
  obtain ⟨o3, s3⟩ := ownSet (X := X) (o' := .row ((netC m cv fv iv ov).set 4 v') 27 true) w0 o2 h4
  rw [n4] at o3 s3
  have hv1 : v'.cells.toList = [v'] ∧ oneC v' = true := by
    obtain ⟨p, l, c, rfl, _⟩ := hV.sl (h := h') (fun o e => by cases e; exact hgA)
    exact ⟨rfl, rfl⟩
  refine ⟨aBuild1 t22 h (x := .int .i64 y) rfl rfl, v', h', _, happ, stC szI hg 4 v' (by simp [netC]) hv1.1 hv1.2, _, _, ⟨o3, n4, ?_, ?_, ?_, ?_, ?_⟩⟩
  · rw [upd_same]; rfl
  · rw [upd_ne _ _ (by decide), upd_ne _ _ (by decide), upd_ne _ _ (by decide)]; exact (B1.c.sub s2).sub s3
  · rw [upd_ne _ _ (by decide), upd_ne _ _ (by decide), upd_ne _ _ (by decide)]; exact (B1.f.sub s2).sub s3
  · rw [upd_ne _ _ (by decide), upd_ne _ _ (by decide), upd_ne _ _ (by decide)]; exact (B1.i.sub s2).sub s3
  · rw [upd_ne _ _ (by decide), upd_same, upd_same]; simpa using hV

theorem Bld.one (B : Bld b h X T m nm ob cv fv iv ov) : (netC m cv fv iv ov).all oneC = true := by
  have h5 : oneC ov = true := by
    obtain ⟨p, l, c, rfl, _⟩ := B.o.sl (h := h) (B.own.get 3)
    rfl
  simp only [netC, List.all_cons, List.all_nil, B.c.one.1, B.f.one.1, B.i.one.1, h5]; rfl

theorem Bld.net (B : Bld b h X T m nm ob cv fv iv ov) (hX : X < b.next) (o : AObj) (hc : m.cells.length ≤ 4294967296) (hf : m.flops.length ≤ 4294967296) (hi : m.insts.length ≤ 4294967296) : NetR (h.set X o) m cv fv iv ov := by
  have s : Sub (away nm ob X h) (h.set X o) := fun C p hC => by
    obtain ⟨h1, h2⟩ := hide_get.1 hC
    rw [AH.set_get, if_neg h1]; exact hide_sub _ _ _ _ h2
  have hg : ∀ r p, ob r = some p → (h.set X o).get (nm r) = some p := fun r p hr => by
    have := B.own.lo r p hr
    rw [AH.set_get, if_neg (by omega)]; exact B.own.get r p hr
  exact ⟨(B.c.sub s).row (hg 0) hc, (B.f.sub s).row (hg 1) hf, (B.i.sub s).row (hg 2) hi, B.o.sl (hg 3)⟩
end

/-! ### The netlist, laid -/

def insBase0 (n : Net) : Net := ⟨[], n.inputs + 2, n.flops, [], n.outs.map (shiftE n)⟩

theorem FlopsV.sub {h h' : AH} {v : Value} {ob : Option AObj} {A : Nat} {xs : List Flop} (hv : FlopsV h v ob A xs) (s : Sub h h') : FlopsV h' v ob A xs := by
  obtain ⟨zs, h1, h2, h3⟩ := hv
  exact ⟨zs, h1, fun o e => s _ _ (h2 o e), h3⟩
theorem IntsV.sub {h h' : AH} {v : Value} {ob : Option AObj} {A : Nat} {xs : List Int} (hv : IntsV h v ob A xs) (s : Sub h h') : IntsV h' v ob A xs := ⟨hv.1, fun o e => s _ _ (hv.2 o e)⟩
theorem FlopsV.one {h : AH} {v : Value} {ob : Option AObj} {A : Nat} {xs : List Flop} (hv : FlopsV h v ob A xs) : oneC v = true ∧ v.cells.toList = [v] := by
  obtain ⟨zs, h1, _⟩ := hv
  exact h1.one
theorem IntsV.one {h : AH} {v : Value} {ob : Option AObj} {A : Nat} {xs : List Int} (hv : IntsV h v ob A xs) : oneC v = true ∧ v.cells.toList = [v] := by
  obtain ⟨p, l, c, rfl, _⟩ := hv.sl
  exact ⟨rfl, rfl⟩

theorem FlopsV.lt {h : AH} {v : Value} {ob : Option AObj} {A : Nat} {xs : List Flop} (hv : FlopsV h v ob A xs) (w : WFH h) : ∀ o, ob = some o → A < h.next := fun o e => by
  obtain ⟨zs, h1, h2, _⟩ := hv
  exact AH.get_lt w (h2 o e)
theorem IntsV.lt {h : AH} {v : Value} {ob : Option AObj} {A : Nat} {xs : List Int} (hv : IntsV h v ob A xs) (w : WFH h) : ∀ o, ob = some o → A < h.next := fun o e => AH.get_lt w (hv.2 o e)
theorem NetAt.lt {h : AH} {B : Nat} {n : Net} {cv fv iv ov : Value} (r : NetAt h B n cv fv iv ov) (w : WFH h) : B < h.next := by
  obtain ⟨o, h1, _⟩ := r
  exact AH.get_lt w h1
theorem NetAt.keep {h h' : AH} {B T : Nat} {n : Net} {cv fv iv ov : Value} (r : NetAt h B n cv fv iv ov) (hk : ∀ C, C ≠ T → h'.get C = h.get C) (hne : B ≠ T) : NetAt h' B n cv fv iv ov := by
  obtain ⟨o, h1, h2⟩ := r
  exact ⟨o, by rw [hk B hne]; exact h1, h2⟩

theorem madeB {b h : AH} {X T AF AO : Nat} {n : Net} {fr ov : Value} {obF obO : Option AObj} (w0 : WFH b) (g : Gr b h) (hT : h.get T = some (.row zeroC 27 true)) (hTb : b.next ≤ T) (hF : FlopsV h fr obF AF n.flops) (hFb : ∀ o, obF = some o → b.next ≤ AF)
    (hO : IntsV h ov obO AO (n.outs.map (shiftE n))) (hOb : ∀ o, obO = some o → b.next ≤ AO) (d1 : ∀ o p, obF = some o → obO = some p → AF ≠ AO) (d2 : ∀ o, obF = some o → AF ≠ T) (d3 : ∀ o, obO = some o → AO ≠ T) :
    ∃ h', aStore Tryz.prog 27 (.pointer (some ⟨T, 0, none⟩)) (.agg #[.slice none 0 0, .int .i64 (n.inputs + 2), fr, .slice none 0 0, ov]) h = some h' ∧ h.next = h'.next ∧ (∀ C, C ≠ T → h'.get C = h.get C) ∧ ∃ nm ob, Bld b h' X T (insBase0 n) nm ob (.slice none 0 0) fr (.slice none 0 0) ov := by
  have hst := stA agN hT rfl [.slice none 0 0, .int .i64 (n.inputs + 2), fr, .slice none 0 0, ov] rfl (by simp only [List.all_cons, List.all_nil, hF.one.1, hO.one.1]; rfl)
  have hlt := AH.get_lt g.wf hT
  refine ⟨_, hst, by simp, fun C hC => by rw [AH.set_get, if_neg hC], fun r => if r = 1 then AF else if r = 3 then AO else T, fun r => if r = 1 then obF else if r = 3 then obO else if r = 4 then some (.row [.slice none 0 0, .int .i64 (n.inputs + 2), fr, .slice none 0 0, ov] 27 true) else none, ⟨⟨?_, ?_, ?_, g.set w0 hTb hlt _⟩, rfl, rfl, RowV.nil, ?_, RowV.nil, ?_⟩⟩
  · intro r o hr
    by_cases h1 : r = 1
    · subst h1
      simp only [if_true] at hr ⊢
      rw [AH.set_get, if_neg (d2 o hr)]
      obtain ⟨zs, _, h2, _⟩ := hF
      exact h2 o hr
    · by_cases h3 : r = 3
      · subst h3
        simp only [if_neg h1, if_true] at hr ⊢
        rw [AH.set_get, if_neg (d3 o hr)]
        exact hO.2 o hr
      · by_cases h4 : r = 4
        · subst h4
          simp only [if_neg h1, if_neg h3, if_true] at hr ⊢
          cases hr
          rw [AH.set_get, if_pos rfl]
        · simp only [if_neg h1, if_neg h3, if_neg h4] at hr; cases hr
  · intro r s o p hr hs hne
    by_cases h1 : r = 1
    · subst h1
      simp only [if_true] at hr ⊢
      rw [if_neg (fun e => hne e.symm)] at hs ⊢
      by_cases h3 : s = 3
      · subst h3; simp only [if_true] at hs ⊢; exact d1 _ _ hr hs
      · rw [if_neg h3]; exact d2 _ hr
    · rw [if_neg h1] at hr ⊢
      by_cases h3 : r = 3
      · subst h3
        simp only [if_true] at hr ⊢
        by_cases h5 : s = 1
        · subst h5; simp only [if_true] at hs ⊢; exact fun e => d1 _ _ hs hr e.symm
        · rw [if_neg h5, if_neg (fun e => hne e.symm)]; exact d3 _ hr
      · rw [if_neg h3] at hr ⊢
        by_cases h4 : r = 4
        · subst h4
          by_cases h5 : s = 1
          · subst h5; simp only [if_true] at hs ⊢; exact fun e => d2 _ hs e.symm
          · rw [if_neg h5] at hs ⊢
            by_cases h6 : s = 3
            · subst h6; simp only [if_true] at hs ⊢; exact fun e => d3 _ hs e.symm
            · rw [if_neg h6, if_neg (fun e => hne e.symm)] at hs; cases hs
        · rw [if_neg h4] at hr; cases hr
  · intro r o hr
    by_cases h1 : r = 1
    · subst h1; simp only [if_true] at hr ⊢; exact hFb o hr
    · rw [if_neg h1] at hr ⊢
      by_cases h3 : r = 3
      · subst h3; simp only [if_true] at hr ⊢; exact hOb o hr
      · rw [if_neg h3]; exact hTb
  · obtain ⟨zs, h1, h2, h3⟩ := hF
    exact ⟨zs, h1, h3⟩
  · exact hO.1

/-! ### Insert -/

noncomputable def insR (n : Net) (ord : List Int) : Net := open Classical in if insE n ord = 0 then insN n ord else zeroN

theorem rowNil {α : Type} {L : Lay α} {h : AH} : RowOf L h (.slice none 0 0) ([] : List α) := ⟨none, 0, 0, rfl, rfl, ⟨fun q e => (nomatch e), Nat.le_refl _, .inl (by unfold SL; omega)⟩, .inl rfl⟩

theorem zeroR (h : AH) : NetR h zeroN (.slice none 0 0) (.slice none 0 0) (.slice none 0 0) (.slice none 0 0) := ⟨rowNil, rowNil, rowNil, ⟨none, 0, 0, rfl, rfl, fun q e => (nomatch e), .inl rfl⟩⟩

def InsPost (n : Net) (ord : List Int) (h : AH) (r : Value) (h' : AH) : Prop :=
  Gr h h' ∧ ∃ cv fv iv ov, r = .tuple #[.agg (netC (insR n ord) cv fv iv ov).toArray, .int .i64 (insE n ord)] ∧ NetR h' (insR n ord) cv fv iv ov

theorem insFail {n : Net} {ord : List Int} {h k : AH} {X : Nat} (w0 : WFH h) (g : Gr h k) (hX : h.next ≤ X) (hXr : k.get X = some (.row zeroC 27 true)) (e : Int) (he : insE n ord = e) (hne : e ≠ 0) :
    aStore Tryz.prog 27 (.pointer (some ⟨X, 0, none⟩)) (.agg zeroC.toArray) k = some (k.set X (.row zeroC 27 true)) ∧
    aLoad Tryz.prog 27 (.pointer (some ⟨X, 0, none⟩)) (k.set X (.row zeroC 27 true)) = some (.agg zeroC.toArray) ∧
    InsPost n ord h (.tuple #[.agg zeroC.toArray, .int .i64 e]) (k.set X (.row zeroC 27 true)) := by
  have hlt := AH.get_lt g.wf hXr
  refine ⟨stA agN hXr rfl _ rfl rfl, ldLA (by rw [AH.set_get, if_pos rfl]) rfl agN rfl, g.set w0 hX hlt _, .slice none 0 0, .slice none 0 0, .slice none 0 0, .slice none 0 0, ?_, ?_⟩
  · have : insR n ord = zeroN := by unfold insR; rw [if_neg (by rw [he]; exact hne)]
    rw [this, he]; rfl
  · have : insR n ord = zeroN := by unfold insR; rw [if_neg (by rw [he]; exact hne)]
    rw [this]; exact zeroR _

theorem cellsE_len {l : List Cell} (h : (cellsE l).2 = 0) : l.length ≤ 32 := by
  unfold cellsE at h
  by_cases hl : l.length > 32
  · rw [if_pos hl] at h; simp at h
  · omega

theorem scanE_zero {n : Net} {ord : List Int} (h : scanE n ord = 0) : netE n = 0 ∧ IsPerm ord ∧ (ord.length : Int) = n.flops.length := by
  unfold scanE at h
  by_cases h1 : netE n = 0
  · rw [if_neg (by simpa using h1)] at h
    by_cases h2 : IsPerm ord ∧ (ord.length : Int) = n.flops.length
    · exact ⟨h1, h2⟩
    · rw [if_neg h2] at h; cases h
  · rw [if_pos h1] at h; exact absurd h h1

theorem matchGo_len {tt : Int} {N : Nat} (hN : N ≤ 4) : ∀ (l : List Cell) (j : Nat), (matchGo tt N j l).length ≤ 24 * l.length := by
  intro l
  induction l with
  | nil => intro j; simp [matchGo]
  | cons c cs ih =>
    intro j
    rw [matchGo, List.length_append, List.length_cons]
    have h1 := ih (j + 1)
    have h2 := cellM_le tt N c.table j (ext N N [])
    have h3 := ext_le hN
    by_cases hp : c.pins = N
    · rw [if_pos hp]; omega
    · rw [if_neg hp]; simp; omega

/-- Behind the netlist's laying. -/
def Made (n : Net) (v mv : Value) (B0 X : Nat) (b : AH) (a : AAct) (h : AH) : Prop :=
  a.n = 196 ∧ a.df = [] ∧ a.tm 1 = v ∧ a.tm 2 = .pointer (some ⟨B0, 0, none⟩) ∧ a.tm 4 = .pointer (some ⟨X, 0, none⟩) ∧ a.tm 7 = mv ∧ a.tm 9 = .func (.func 35) #[] #[.pointer (some ⟨B0, 0, none⟩)] ∧ a.tm 10 = .int .i64 n.inputs ∧ a.tm 11 = .int .i64 (n.inputs + 1) ∧
  ∃ T nm ob fr orr, a.tm 12 = .pointer (some ⟨T, 0, none⟩) ∧ Bld b h X T (insBase0 n) nm ob (.slice none 0 0) fr (.slice none 0 0) orr

theorem insertN {h : AH} {n : Net} {cv fv iv ov v : Value} {ord : List Int} (r : NetR h n cv fv iv ov) (ok : NetOK n) (hv : SlOf h v (ord.map (.int .i64))) (hb : ord.length ≤ 17592186043904) :
    ACall Tryz.prog 12 [.agg (netC n cv fv iv ov).toArray, v] h (InsPost n ord h) := by
  refine ACall.wf ⟨_, Tryz.func12, rfl, by kernel_rfl⟩ fun hwf => ?_
  refine ACall.of_wp 196 [.cell 4 27, .tmp 5] Tryz.func12 rfl (by kernel_rfl) rfl rfl fun a hn hd ha => ?_
  have hbox := boxA 27 h _ r.one
  have hN := NetAt.new (h := h) (n := n) (cv := cv) (fv := fv) (iv := iv) (ov := ov)
  have g1 : Gr h (h.new (.row (netC n cv fv iv ov) 27 true)) := (Gr.refl hwf).new _
  have hnx : (h.new (.row (netC n cv fv iv ov) 27 true)).next = h.next + 1 := rfl
  simp (disch := first | omega | decide | (simp only [List.length_cons, List.length_nil] <;> omega)) only [push_cast, ↓reduceIte, Nat.reduceLT, Nat.reduceEqDiff, reduceCtorEq, Nat.reduceAdd, if_true, if_false, true_and, and_true, hn, hd, ha, hbox, alL zrN]
  generalize h.new (.row (netC n cv fv iv ov) 27 true) = h1 at hN g1 hnx ⊢
  have g2 := (Gr.refl g1.wf).new (.row zeroC 27 true)
  have hX : (h1.new (.row zeroC 27 true)).get h1.next = some (.row zeroC 27 true) := by rw [AH.new_get, if_pos rfl]
  have hXlo : h.next ≤ h1.next := by omega
  replace g2 := g1.trans g2
  have hN2 := hN.sub (Sub.new g1.wf (.row zeroC 27 true))
  generalize h1.new (.row zeroC 27 true) = h2 at g2 hX hN2 ⊢
  generalize h1.next = X at hX hXlo ⊢
  generalize h.next = B0 at hN2 ⊢
  clear hN g1 hnx h1
  have r2 := r.sub g2.sub
  have hv2 := hv.sub g2.sub
  simp (disch := first | omega | decide | (simp only [List.length_cons, List.length_nil] <;> omega)) only [push_cast, ↓reduceIte, Nat.reduceLT, Nat.reduceEqDiff, reduceCtorEq, Nat.reduceAdd, if_true, if_false, true_and, and_true, hn, hd, ha, hN2.l0, hN2.l1, hN2.l2, hN2.l3, hN2.l4, hN2.la]
  refine ACall.mono ?_ (scanCheck r2 ok hv2 hb)
  rintro _ h2 ⟨rfl, rfl⟩
  simp (disch := first | omega | decide | (simp only [List.length_cons, List.length_nil] <;> omega)) only [push_cast, ↓reduceIte, Nat.reduceLT, Nat.reduceEqDiff, reduceCtorEq, Nat.reduceAdd, if_true, if_false, true_and, and_true, hn, hd, ha]
  refine condV_not (fun e0 => ?_) (fun e0 => ?_)
  · have e : ¬ scanE n ord = 0 := by simpa using e0
    obtain ⟨f1, f2, f3⟩ := insFail (n := n) (ord := ord) hwf g2 hXlo hX (scanE n ord) (by rw [insE, if_pos e]) e
    simp (disch := first | omega | decide | (simp only [List.length_cons, List.length_nil] <;> omega)) only [push_cast, ↓reduceIte, Nat.reduceLT, Nat.reduceEqDiff, reduceCtorEq, Nat.reduceAdd, if_true, if_false, true_and, and_true, hn, hd, ha, buildN0, f1, f2]
    exact f3
  have e : scanE n ord = 0 := by simpa using e0
  obtain ⟨hnet, hperm, hol⟩ := scanE_zero e
  have s := ShapeOK.of (netE_zero.1 hnet).1
  have hcl := cellsE_len s.cells
  have hi0 := s.i0
  have hi1 := s.i1
  have hfl := s.fl
  have houl := s.ol
  have hil := s.il
  simp (disch := first | omega | decide | (simp only [List.length_cons, List.length_nil] <;> omega)) only [push_cast, ↓reduceIte, Nat.reduceLT, Nat.reduceEqDiff, reduceCtorEq, Nat.reduceAdd, if_true, if_false, true_and, and_true, hn, hd, ha, e, faL foN0, faL foN1, faL foN2, faL foN3, faL foN4, hN2.l0, hN2.l1, hN2.l2, hN2.l3, hN2.l4, hN2.la]
  refine ACall.mono ?_ (matchN (tt := 202) (N := 3) r2.c ok.cell (by decide) (by decide) (by decide) (by omega))
  rintro _ h3 ⟨g3, mv, rfl, obm, Am, hbv⟩
  have gb := g2.trans g3
  have hX3 := g3.sub _ _ hX
  have hN3 := hN2.sub g3.sub
  have r3 := r2.sub g3.sub
  have hv3 := hv2.sub g3.sub
  by_cases hm : ¬ matchE n.cells 202 3 = 0
  · obtain ⟨f1, f2, f3⟩ := insFail (n := n) (ord := ord) hwf gb hXlo hX3 20 (by rw [insE, if_neg (by simpa using e), if_pos (.inl hm)]) (by decide)
    simp (disch := first | omega | decide | (simp only [List.length_cons, List.length_nil] <;> omega)) only [push_cast, ↓reduceIte, Nat.reduceLT, Nat.reduceEqDiff, reduceCtorEq, Nat.reduceAdd, if_true, if_false, true_and, and_true, hn, hd, ha, hm, buildN0, f1, f2]
    exact f3
  replace hm : matchE n.cells 202 3 = 0 := Classical.not_not.1 hm
  rw [if_pos hm] at hbv
  have hlen : ∀ h, aLen Tryz.prog 75 mv h = some (.int .i64 (matchGo 202 3 0 n.cells).length) := by
    obtain ⟨zs, hV, _⟩ := hbv
    exact VecM.len hV Tryz.underlying75
  by_cases hl : matchGo 202 3 0 n.cells = []
  · obtain ⟨f1, f2, f3⟩ := insFail (n := n) (ord := ord) hwf gb hXlo hX3 20 (by rw [insE, if_neg (by simpa using e), if_pos (.inr hl)]) (by decide)
    simp (disch := first | omega | decide | (simp only [List.length_cons, List.length_nil] <;> omega)) only [push_cast, ↓reduceIte, Nat.reduceLT, Nat.reduceEqDiff, reduceCtorEq, Nat.reduceAdd, if_true, if_false, true_and, and_true, hn, hd, ha, hm, hlen, hl, List.length_nil, Int.natCast_zero, Int.ofNat_zero, buildN0, f1, f2]
    exact f3
  have hl0 : ¬ (((matchGo 202 3 0 n.cells).length : Int) = 0) := fun x => hl (List.eq_nil_of_length_eq_zero (by omega))
  have hw0 : IntKind.i64.wrap (n.inputs + 2) = n.inputs + 2 := wrapI (by omega) (by omega)
  have hw1 : IntKind.i64.wrap (n.inputs + 1) = n.inputs + 1 := wrapI (by omega) (by omega)
  have hw2 : IntKind.i64.wrap ((n.insts.length : Int) + n.flops.length) = n.insts.length + n.flops.length := wrapI (by omega) (by omega)
  by_cases hbig : n.inputs + 2 > 64 ∨ (n.outs.length : Int) ≥ 64 ∨ ((n.insts.length : Int) + n.flops.length > 4096)
  · obtain ⟨f1, f2, f3⟩ := insFail (n := n) (ord := ord) hwf gb hXlo hX3 5 (by rw [insE, if_neg (by simpa using e), if_neg (by rintro (x | x); exact x hm; exact hl x), if_pos hbig]) (by decide)
    by_cases c1 : n.inputs + 2 > 64
    · simp (disch := first | omega | decide | (simp only [List.length_cons, List.length_nil] <;> omega)) only [push_cast, ↓reduceIte, Nat.reduceLT, Nat.reduceEqDiff, reduceCtorEq, Nat.reduceAdd, if_true, if_false, true_and, and_true, hn, hd, ha, hm, hlen, hl0, faL foN0, faL foN1, faL foN2, faL foN3, faL foN4, hN3.l0, hN3.l1, hN3.l2, hN3.l3, hN3.l4, hN3.la, hw0, c1, buildN0, f1, f2]
      exact f3
    by_cases c2 : (n.outs.length : Int) ≥ 64
    · simp (disch := first | omega | decide | (simp only [List.length_cons, List.length_nil] <;> omega)) only [push_cast, ↓reduceIte, Nat.reduceLT, Nat.reduceEqDiff, reduceCtorEq, Nat.reduceAdd, if_true, if_false, true_and, and_true, hn, hd, ha, hm, hlen, hl0, faL foN0, faL foN1, faL foN2, faL foN3, faL foN4, hN3.l0, hN3.l1, hN3.l2, hN3.l3, hN3.l4, hN3.la, hw0, c1, c2, r3.o.lenA Tryz.underlying25, buildN0, f1, f2]
      exact f3
    have c3 : (n.insts.length : Int) + n.flops.length > 4096 := by
      rcases hbig with x | x | x
      · exact absurd x c1
      · exact absurd x c2
      · exact x
    simp (disch := first | omega | decide | (simp only [List.length_cons, List.length_nil] <;> omega)) only [push_cast, ↓reduceIte, Nat.reduceLT, Nat.reduceEqDiff, reduceCtorEq, Nat.reduceAdd, if_true, if_false, true_and, and_true, hn, hd, ha, hm, hlen, hl0, faL foN0, faL foN1, faL foN2, faL foN3, faL foN4, hN3.l0, hN3.l1, hN3.l2, hN3.l3, hN3.l4, hN3.la, hw0, hw2, c1, c2, c3, r3.o.lenA Tryz.underlying25, r3.i.len Tryz.underlying24, r3.f.len Tryz.underlying23, buildN0, f1, f2]
    exact f3
  have he : insE n ord = 0 := by rw [insE, if_neg (by simpa using e), if_neg (by rintro (x | x); exact x hm; exact hl x), if_neg hbig]
  have c1 : ¬ n.inputs + 2 > 64 := fun x => hbig (.inl x)
  have c2 : ¬ (n.outs.length : Int) ≥ 64 := fun x => hbig (.inr (.inl x))
  have c3 : ¬ (n.insts.length : Int) + n.flops.length > 4096 := fun x => hbig (.inr (.inr x))
  simp (disch := first | omega | decide | (simp only [List.length_cons, List.length_nil] <;> omega)) only [push_cast, ↓reduceIte, Nat.reduceLT, Nat.reduceEqDiff, reduceCtorEq, Nat.reduceAdd, if_true, if_false, true_and, and_true, hn, hd, ha, hm, hlen, hl0, faL foN0, faL foN1, faL foN2, faL foN3, faL foN4, hN3.l0, hN3.l1, hN3.l2, hN3.l3, hN3.l4, hN3.la, hw0, hw2, c1, c2, c3, r3.o.lenA Tryz.underlying25, r3.i.len Tryz.underlying24, r3.f.len Tryz.underlying23]
  refine AW.drawT (.take 0 [6, 5, 1] (.take 1 [6, 5] (.take 2 [6, 4, 3] (.take 3 [6, 4] (.take 4 [6] (.take 5 [6] (.take 6 [] .done))))))) [0, 0, 0, 0, 0, 0, 0] mixed (by kernel_rfl) (by kernel_rfl) ?_
  simp (disch := first | omega | decide | (simp only [List.length_cons, List.length_nil] <;> omega)) only [push_cast, ↓reduceIte, Nat.reduceLT, Nat.reduceEqDiff, reduceCtorEq, Nat.reduceAdd, if_true, if_false, true_and, and_true, hn, hd, ha, faL foN0, faL foN1, faL foN2, faL foN3, faL foN4, hN3.l0, hN3.l1, hN3.l2, hN3.l3, hN3.l4, hN3.la, hw1]
  refine AW.mono (Q := fun e a' h' => e = .normal ∧ Made n v mv B0 X h3 a' h') ?_ ?_
  case refine_2 =>
    refine AW.drawX (.take 0 [12, 10, 2, 1] (.take 3 [12, 10, 9, 5, 4] (.take 4 [12, 10, 9, 5] (.take 6 [12, 10, 9] (.take 7 [12, 10, 9, 8] (.watch 1 [12, 10, 2] (.take 2 [12, 10] (.watch 8 [12, 10, 9] (.two 5 (.two 9 (.take 10 [12] (.only 11 (.only 12 .done))) 11 (.only 9 (.take 10 [12] (.only 12 .done)))) 11 (.only 5 (.only 9 (.take 10 [12] (.only 12 .done))))))))))))) (.step 0 0 (.step 0 3 (.step 0 4 (.step 0 6 (.step 0 7 (.step 1 1 (.step 0 2 (.step 1 8 (.two 5 (.two 9 (.step 0 10 (.step 2 11 (.step 2 12 .nil))) 11 (.step 2 9 (.step 0 10 (.step 2 12 .nil)))) 11 (.step 2 5 (.step 2 9 (.step 0 10 (.step 2 12 .nil))))))))))))) mixed (by kernel_rfl) rfl ?_
    simp (disch := first | omega | decide | (simp only [List.length_cons, List.length_nil] <;> omega)) only [push_cast, ↓reduceIte, Nat.reduceLT, Nat.reduceEqDiff, reduceCtorEq, Nat.reduceAdd, if_true, if_false, true_and, and_true, hn, hd, ha, faL foN0, faL foN1, faL foN2, faL foN3, faL foN4, hN3.l0, hN3.l1, hN3.l2, hN3.l3, hN3.l4, hN3.la, hw0]
    refine ⟨?_, ?_⟩
    · refine ACall.mono ?_ (cloneF r3.f (by omega))
      rintro fr k1 ⟨gk1, obF, AF, hF, hFlo⟩
      have hN4 := hN3.sub gk1.sub
      simp (disch := first | omega | decide | (simp only [List.length_cons, List.length_nil] <;> omega)) only [push_cast, ↓reduceIte, Nat.reduceLT, Nat.reduceEqDiff, reduceCtorEq, Nat.reduceAdd, if_true, if_false, true_and, and_true, hn, hd, ha, faL foN0, faL foN1, faL foN2, faL foN3, faL foN4, hN4.l0, hN4.l1, hN4.l2, hN4.l3, hN4.l4, hN4.la, hw0]
      refine ⟨?_, ?_⟩
      · refine ACall.mono ?_ (shift hN4 (r3.o.sub gk1.sub) (by omega))
        rintro orr k2 ⟨gk2, obO, AO, hO, hOlo⟩
        have hN5 := hN4.sub gk2.sub
        have s3 := Sub.new gk2.wf (.row zeroC 27 true)
        have hN6 := hN5.sub s3
        have hT : (k2.new (.row zeroC 27 true)).get k2.next = some (.row zeroC 27 true) := by rw [AH.new_get, if_pos rfl]
        have hBl := hN5.lt gk2.wf
        have hFl := hF.lt gk1.wf
        have hOl := hO.lt gk2.wf
        have nk1 := gk1.nx
        have nk2 := gk2.nx
        obtain ⟨k4, est, nx4, keep4, nm, ob, B⟩ := madeB (X := X) gb.wf ((gk1.trans gk2).new (.row zeroC 27 true)) hT (by omega) (hF.sub (gk2.sub.trans s3)) hFlo (hO.sub s3) (fun o e => by have := hOlo o e; omega)
          (fun o p e1 e2 => by have := hFl o e1; have := hOlo p e2; omega) (fun o e => by have := hFl o e; omega) (fun o e => by have := hOl o e; omega)
        have hN7 := hN6.keep keep4 (by omega)
        simp (disch := first | omega | decide | (simp only [List.length_cons, List.length_nil] <;> omega)) only [push_cast, ↓reduceIte, Nat.reduceLT, Nat.reduceEqDiff, reduceCtorEq, Nat.reduceAdd, if_true, if_false, true_and, and_true, hn, hd, ha, faL foN0, faL foN1, faL foN2, faL foN3, faL foN4, hN5.l0, hN5.l1, hN5.l2, hN5.l3, hN5.l4, hN5.la, hN6.l0, hN6.l1, hN6.l2, hN6.l3, hN6.l4, hN6.la, hN7.l0, hN7.l1, hN7.l2, hN7.l3, hN7.l4, hN7.la, hw0, buildN hF.one.2 hO.one.2, alL zrN, est]
        exact ⟨by simp (disch := first | omega | decide | (simp only [List.length_cons, List.length_nil] <;> omega)) only [push_cast, ↓reduceIte, Nat.reduceLT, Nat.reduceEqDiff, reduceCtorEq, Nat.reduceAdd, if_true, if_false, true_and, and_true, hn], by simp (disch := first | omega | decide | (simp only [List.length_cons, List.length_nil] <;> omega)) only [push_cast, ↓reduceIte, Nat.reduceLT, Nat.reduceEqDiff, reduceCtorEq, Nat.reduceAdd, if_true, if_false, true_and, and_true, hd], by simp (disch := first | omega | decide | (simp only [List.length_cons, List.length_nil] <;> omega)) only [push_cast, ↓reduceIte, Nat.reduceLT, Nat.reduceEqDiff, reduceCtorEq, Nat.reduceAdd, if_true, if_false, true_and, and_true, ha], by simp (disch := first | omega | decide | (simp only [List.length_cons, List.length_nil] <;> omega)) only [push_cast, ↓reduceIte, Nat.reduceLT, Nat.reduceEqDiff, reduceCtorEq, Nat.reduceAdd, if_true, if_false, true_and, and_true], by simp (disch := first | omega | decide | (simp only [List.length_cons, List.length_nil] <;> omega)) only [push_cast, ↓reduceIte, Nat.reduceLT, Nat.reduceEqDiff, reduceCtorEq, Nat.reduceAdd, if_true, if_false, true_and, and_true], by simp (disch := first | omega | decide | (simp only [List.length_cons, List.length_nil] <;> omega)) only [push_cast, ↓reduceIte, Nat.reduceLT, Nat.reduceEqDiff, reduceCtorEq, Nat.reduceAdd, if_true, if_false, true_and, and_true], by simp (disch := first | omega | decide | (simp only [List.length_cons, List.length_nil] <;> omega)) only [push_cast, ↓reduceIte, Nat.reduceLT, Nat.reduceEqDiff, reduceCtorEq, Nat.reduceAdd, if_true, if_false, true_and, and_true], by simp (disch := first | omega | decide | (simp only [List.length_cons, List.length_nil] <;> omega)) only [push_cast, ↓reduceIte, Nat.reduceLT, Nat.reduceEqDiff, reduceCtorEq, Nat.reduceAdd, if_true, if_false, true_and, and_true], by simp (disch := first | omega | decide | (simp only [List.length_cons, List.length_nil] <;> omega)) only [push_cast, ↓reduceIte, Nat.reduceLT, Nat.reduceEqDiff, reduceCtorEq, Nat.reduceAdd, if_true, if_false, true_and, and_true], _, nm, ob, fr, orr, by simp (disch := first | omega | decide | (simp only [List.length_cons, List.length_nil] <;> omega)) only [push_cast, ↓reduceIte, Nat.reduceLT, Nat.reduceEqDiff, reduceCtorEq, Nat.reduceAdd, if_true, if_false, true_and, and_true], B⟩
      · have s2 := Sub.new gk1.wf (.row zeroC 27 true)
        have gk2 := (Gr.refl gk1.wf).new (.row zeroC 27 true)
        have hN5 := hN4.sub s2
        have hT0 : (k1.new (.row zeroC 27 true)).get k1.next = some (.row zeroC 27 true) := by rw [AH.new_get, if_pos rfl]
        have hnx2 : (k1.new (.row zeroC 27 true)).next = k1.next + 1 := rfl
        have hFl := hF.lt gk1.wf
        have hBl := hN4.lt gk1.wf
        have hsh := shift hN5 ((r3.o.sub gk1.sub).sub s2) (by omega)
        simp (disch := first | omega | decide | (simp only [List.length_cons, List.length_nil] <;> omega)) only [push_cast, ↓reduceIte, Nat.reduceLT, Nat.reduceEqDiff, reduceCtorEq, Nat.reduceAdd, if_true, if_false, true_and, and_true, hn, hd, ha, faL foN0, faL foN1, faL foN2, faL foN3, faL foN4, hN5.l0, hN5.l1, hN5.l2, hN5.l3, hN5.l4, hN5.la, hw0, alL zrN]
        generalize k1.new (.row zeroC 27 true) = k2 at s2 gk2 hN5 hT0 hnx2 hsh ⊢
        refine ACall.mono ?_ hsh
        rintro orr k3 ⟨gk3, obO, AO, hO, hOlo⟩
        have hN6 := hN5.sub gk3.sub
        have hOl := hO.lt gk3.wf
        have nk1 := gk1.nx
        have nk3 := gk3.nx
        obtain ⟨k4, est, nx4, keep4, nm, ob, B⟩ := madeB (X := X) gb.wf ((gk1.trans gk2).trans gk3) (gk3.sub _ _ hT0) (by omega) (hF.sub (gk2.sub.trans gk3.sub)) hFlo hO (fun o e => by have := hOlo o e; omega)
          (fun o p e1 e2 => by have := hFl o e1; have := hOlo p e2; omega) (fun o e => by have := hFl o e; omega) (fun o e => by have := hOlo o e; omega)
        have hN7 := hN6.keep keep4 (by omega)
        simp (disch := first | omega | decide | (simp only [List.length_cons, List.length_nil] <;> omega)) only [push_cast, ↓reduceIte, Nat.reduceLT, Nat.reduceEqDiff, reduceCtorEq, Nat.reduceAdd, if_true, if_false, true_and, and_true, hn, hd, ha, faL foN0, faL foN1, faL foN2, faL foN3, faL foN4, hN6.l0, hN6.l1, hN6.l2, hN6.l3, hN6.l4, hN6.la, hN7.l0, hN7.l1, hN7.l2, hN7.l3, hN7.l4, hN7.la, hw0, buildN hF.one.2 hO.one.2, est]
        exact ⟨by simp (disch := first | omega | decide | (simp only [List.length_cons, List.length_nil] <;> omega)) only [push_cast, ↓reduceIte, Nat.reduceLT, Nat.reduceEqDiff, reduceCtorEq, Nat.reduceAdd, if_true, if_false, true_and, and_true, hn], by simp (disch := first | omega | decide | (simp only [List.length_cons, List.length_nil] <;> omega)) only [push_cast, ↓reduceIte, Nat.reduceLT, Nat.reduceEqDiff, reduceCtorEq, Nat.reduceAdd, if_true, if_false, true_and, and_true, hd], by simp (disch := first | omega | decide | (simp only [List.length_cons, List.length_nil] <;> omega)) only [push_cast, ↓reduceIte, Nat.reduceLT, Nat.reduceEqDiff, reduceCtorEq, Nat.reduceAdd, if_true, if_false, true_and, and_true, ha], by simp (disch := first | omega | decide | (simp only [List.length_cons, List.length_nil] <;> omega)) only [push_cast, ↓reduceIte, Nat.reduceLT, Nat.reduceEqDiff, reduceCtorEq, Nat.reduceAdd, if_true, if_false, true_and, and_true], by simp (disch := first | omega | decide | (simp only [List.length_cons, List.length_nil] <;> omega)) only [push_cast, ↓reduceIte, Nat.reduceLT, Nat.reduceEqDiff, reduceCtorEq, Nat.reduceAdd, if_true, if_false, true_and, and_true], by simp (disch := first | omega | decide | (simp only [List.length_cons, List.length_nil] <;> omega)) only [push_cast, ↓reduceIte, Nat.reduceLT, Nat.reduceEqDiff, reduceCtorEq, Nat.reduceAdd, if_true, if_false, true_and, and_true], by simp (disch := first | omega | decide | (simp only [List.length_cons, List.length_nil] <;> omega)) only [push_cast, ↓reduceIte, Nat.reduceLT, Nat.reduceEqDiff, reduceCtorEq, Nat.reduceAdd, if_true, if_false, true_and, and_true], by simp (disch := first | omega | decide | (simp only [List.length_cons, List.length_nil] <;> omega)) only [push_cast, ↓reduceIte, Nat.reduceLT, Nat.reduceEqDiff, reduceCtorEq, Nat.reduceAdd, if_true, if_false, true_and, and_true], by simp (disch := first | omega | decide | (simp only [List.length_cons, List.length_nil] <;> omega)) only [push_cast, ↓reduceIte, Nat.reduceLT, Nat.reduceEqDiff, reduceCtorEq, Nat.reduceAdd, if_true, if_false, true_and, and_true], _, nm, ob, fr, orr, by simp (disch := first | omega | decide | (simp only [List.length_cons, List.length_nil] <;> omega)) only [push_cast, ↓reduceIte, Nat.reduceLT, Nat.reduceEqDiff, reduceCtorEq, Nat.reduceAdd, if_true, if_false, true_and, and_true], B⟩
    · have s1 := Sub.new gb.wf (.row zeroC 27 true)
      have gk1 := (Gr.refl gb.wf).new (.row zeroC 27 true)
      have hN4 := hN3.sub s1
      have hT0 : (h3.new (.row zeroC 27 true)).get h3.next = some (.row zeroC 27 true) := by rw [AH.new_get, if_pos rfl]
      have hnx1 : (h3.new (.row zeroC 27 true)).next = h3.next + 1 := rfl
      have hBl := hN3.lt gb.wf
      have hcf := cloneF (r3.f.sub s1) (by omega)
      simp (disch := first | omega | decide | (simp only [List.length_cons, List.length_nil] <;> omega)) only [push_cast, ↓reduceIte, Nat.reduceLT, Nat.reduceEqDiff, reduceCtorEq, Nat.reduceAdd, if_true, if_false, true_and, and_true, hn, hd, ha, faL foN0, faL foN1, faL foN2, faL foN3, faL foN4, hN4.l0, hN4.l1, hN4.l2, hN4.l3, hN4.l4, hN4.la, hw0, alL zrN]
      generalize h3.new (.row zeroC 27 true) = k1 at s1 gk1 hN4 hT0 hnx1 hcf ⊢
      refine ACall.mono ?_ hcf
      rintro fr k2 ⟨gk2, obF, AF, hF, hFlo⟩
      have hN5 := hN4.sub gk2.sub
      simp (disch := first | omega | decide | (simp only [List.length_cons, List.length_nil] <;> omega)) only [push_cast, ↓reduceIte, Nat.reduceLT, Nat.reduceEqDiff, reduceCtorEq, Nat.reduceAdd, if_true, if_false, true_and, and_true, hn, hd, ha, faL foN0, faL foN1, faL foN2, faL foN3, faL foN4, hN5.l0, hN5.l1, hN5.l2, hN5.l3, hN5.l4, hN5.la, hw0]
      refine ACall.mono ?_ (shift hN5 ((r3.o.sub s1).sub gk2.sub) (by omega))
      rintro orr k3 ⟨gk3, obO, AO, hO, hOlo⟩
      have hN6 := hN5.sub gk3.sub
      have hFl := hF.lt gk2.wf
      have hOl := hO.lt gk3.wf
      have nk2 := gk2.nx
      have nk3 := gk3.nx
      obtain ⟨k4, est, nx4, keep4, nm, ob, B⟩ := madeB (X := X) gb.wf ((gk1.trans gk2).trans gk3) (gk3.sub _ _ (gk2.sub _ _ hT0)) (Nat.le_refl _) (hF.sub gk3.sub) (fun o e => by have := hFlo o e; omega) hO (fun o e => by have := hOlo o e; omega)
        (fun o p e1 e2 => by have := hFl o e1; have := hOlo p e2; omega) (fun o e => by have := hFlo o e; omega) (fun o e => by have := hOlo o e; omega)
      have hN7 := hN6.keep keep4 (by omega)
      simp (disch := first | omega | decide | (simp only [List.length_cons, List.length_nil] <;> omega)) only [push_cast, ↓reduceIte, Nat.reduceLT, Nat.reduceEqDiff, reduceCtorEq, Nat.reduceAdd, if_true, if_false, true_and, and_true, hn, hd, ha, faL foN0, faL foN1, faL foN2, faL foN3, faL foN4, hN6.l0, hN6.l1, hN6.l2, hN6.l3, hN6.l4, hN6.la, hN7.l0, hN7.l1, hN7.l2, hN7.l3, hN7.l4, hN7.la, hw0, buildN hF.one.2 hO.one.2, est]
      exact ⟨by simp (disch := first | omega | decide | (simp only [List.length_cons, List.length_nil] <;> omega)) only [push_cast, ↓reduceIte, Nat.reduceLT, Nat.reduceEqDiff, reduceCtorEq, Nat.reduceAdd, if_true, if_false, true_and, and_true, hn], by simp (disch := first | omega | decide | (simp only [List.length_cons, List.length_nil] <;> omega)) only [push_cast, ↓reduceIte, Nat.reduceLT, Nat.reduceEqDiff, reduceCtorEq, Nat.reduceAdd, if_true, if_false, true_and, and_true, hd], by simp (disch := first | omega | decide | (simp only [List.length_cons, List.length_nil] <;> omega)) only [push_cast, ↓reduceIte, Nat.reduceLT, Nat.reduceEqDiff, reduceCtorEq, Nat.reduceAdd, if_true, if_false, true_and, and_true, ha], by simp (disch := first | omega | decide | (simp only [List.length_cons, List.length_nil] <;> omega)) only [push_cast, ↓reduceIte, Nat.reduceLT, Nat.reduceEqDiff, reduceCtorEq, Nat.reduceAdd, if_true, if_false, true_and, and_true], by simp (disch := first | omega | decide | (simp only [List.length_cons, List.length_nil] <;> omega)) only [push_cast, ↓reduceIte, Nat.reduceLT, Nat.reduceEqDiff, reduceCtorEq, Nat.reduceAdd, if_true, if_false, true_and, and_true], by simp (disch := first | omega | decide | (simp only [List.length_cons, List.length_nil] <;> omega)) only [push_cast, ↓reduceIte, Nat.reduceLT, Nat.reduceEqDiff, reduceCtorEq, Nat.reduceAdd, if_true, if_false, true_and, and_true], by simp (disch := first | omega | decide | (simp only [List.length_cons, List.length_nil] <;> omega)) only [push_cast, ↓reduceIte, Nat.reduceLT, Nat.reduceEqDiff, reduceCtorEq, Nat.reduceAdd, if_true, if_false, true_and, and_true], by simp (disch := first | omega | decide | (simp only [List.length_cons, List.length_nil] <;> omega)) only [push_cast, ↓reduceIte, Nat.reduceLT, Nat.reduceEqDiff, reduceCtorEq, Nat.reduceAdd, if_true, if_false, true_and, and_true], by simp (disch := first | omega | decide | (simp only [List.length_cons, List.length_nil] <;> omega)) only [push_cast, ↓reduceIte, Nat.reduceLT, Nat.reduceEqDiff, reduceCtorEq, Nat.reduceAdd, if_true, if_false, true_and, and_true], _, nm, ob, fr, orr, by simp (disch := first | omega | decide | (simp only [List.length_cons, List.length_nil] <;> omega)) only [push_cast, ↓reduceIte, Nat.reduceLT, Nat.reduceEqDiff, reduceCtorEq, Nat.reduceAdd, if_true, if_false, true_and, and_true], B⟩
  have hXb : X < h3.next := AH.get_lt gb.wf hX3
  have hdl : ∀ c ∈ n.cells, c.delay.length ≤ 4294967296 := fun c hc => by have := checkE_pins (cellsE_zero s.cells c hc); omega
  have hpl : ∀ x ∈ n.insts, x.pins.length ≤ 4294967296 := fun x hx => by have := s.pins4 hx; omega
  clear ha hn hd a
  rintro _ a h4 ⟨rfl, hn, hd, h1, h2, ht4, h7, h9, h10, h11, T, nm, ob, fr, orr, h12, B⟩
  have hN4 := hN3.sub B.own.gr.sub
  have n4 := B.own.gr.nx
  simp (disch := first | omega | decide | (simp only [List.length_cons, List.length_nil] <;> omega)) only [push_cast, ↓reduceIte, Nat.reduceLT, Nat.reduceEqDiff, reduceCtorEq, Nat.reduceAdd, if_true, if_false, true_and, and_true, hn, hd, h1, h2, ht4, h7, h9, h10, h11, h12, faL foN0, faL foN1, faL foN2, faL foN3, faL foN4, hN4.l0, hN4.l1, hN4.l2, hN4.l3, hN4.l4, hN4.la, r3.c.len Tryz.underlying22]
  refine AW.mono ?_ (insCells (X := X) (by simp (disch := first | omega | decide | (simp only [List.length_cons, List.length_nil] <;> omega)) only [push_cast, ↓reduceIte, Nat.reduceLT, Nat.reduceEqDiff, reduceCtorEq, Nat.reduceAdd, if_true, if_false, true_and, and_true, hn]) (by simp (disch := first | omega | decide | (simp only [List.length_cons, List.length_nil] <;> omega)) only [push_cast, ↓reduceIte, Nat.reduceLT, Nat.reduceEqDiff, reduceCtorEq, Nat.reduceAdd, if_true, if_false, true_and, and_true, hd]) (by omega) gb.wf r3 (by omega) hdl B rfl (by simp (disch := first | omega | decide | (simp only [List.length_cons, List.length_nil] <;> omega)) only [push_cast, ↓reduceIte, Nat.reduceLT, Nat.reduceEqDiff, reduceCtorEq, Nat.reduceAdd, if_true, if_false, true_and, and_true, h12]) (by simp (disch := first | omega | decide | (simp only [List.length_cons, List.length_nil] <;> omega)) only [push_cast, ↓reduceIte, Nat.reduceLT, Nat.reduceEqDiff, reduceCtorEq, Nat.reduceAdd, if_true, if_false, true_and, and_true]) (by simp (disch := first | omega | decide | (simp only [List.length_cons, List.length_nil] <;> omega)) only [push_cast, ↓reduceIte, Nat.reduceLT, Nat.reduceEqDiff, reduceCtorEq, Nat.reduceAdd, if_true, if_false, true_and, and_true]) (by simp (disch := first | omega | decide | (simp only [List.length_cons, List.length_nil] <;> omega)) only [push_cast, ↓reduceIte, Nat.reduceLT, Nat.reduceEqDiff, reduceCtorEq, Nat.reduceAdd, if_true, if_false, true_and, and_true]))
  rintro _ a5 h5 ⟨rfl, hn5, hd5, ht5, n5, nm5, ob5, cv5, B5⟩
  have hN5 := hN3.sub B5.own.gr.sub
  simp (disch := first | omega | decide | (simp only [List.length_cons, List.length_nil] <;> omega)) only [push_cast, ↓reduceIte, Nat.reduceLT, Nat.reduceEqDiff, reduceCtorEq, Nat.reduceAdd, if_true, if_false, true_and, and_true, hn5, hd5, ht5, hn, hd, h1, h2, ht4, h7, h9, h10, h11, h12, faL foN0, faL foN1, faL foN2, faL foN3, faL foN4, hN5.l0, hN5.l1, hN5.l2, hN5.l3, hN5.l4, hN5.la, r3.i.len Tryz.underlying24]
  refine AW.mono ?_ (insInsts (B0 := B0) (X := X) (by simp (disch := first | omega | decide | (simp only [List.length_cons, List.length_nil] <;> omega)) only [push_cast, ↓reduceIte, Nat.reduceLT, Nat.reduceEqDiff, reduceCtorEq, Nat.reduceAdd, if_true, if_false, true_and, and_true, hn5]) (by simp (disch := first | omega | decide | (simp only [List.length_cons, List.length_nil] <;> omega)) only [push_cast, ↓reduceIte, Nat.reduceLT, Nat.reduceEqDiff, reduceCtorEq, Nat.reduceAdd, if_true, if_false, true_and, and_true, hd5]) (by omega) gb.wf r3 hN3 (by omega) hpl B5 rfl (by simp (disch := first | omega | decide | (simp only [List.length_cons, List.length_nil] <;> omega)) only [push_cast, ↓reduceIte, Nat.reduceLT, Nat.reduceEqDiff, reduceCtorEq, Nat.reduceAdd, if_true, if_false, true_and, and_true, ht5, h12]) (by simp (disch := first | omega | decide | (simp only [List.length_cons, List.length_nil] <;> omega)) only [push_cast, ↓reduceIte, Nat.reduceLT, Nat.reduceEqDiff, reduceCtorEq, Nat.reduceAdd, if_true, if_false, true_and, and_true, ht5, h9]) (by simp (disch := first | omega | decide | (simp only [List.length_cons, List.length_nil] <;> omega)) only [push_cast, ↓reduceIte, Nat.reduceLT, Nat.reduceEqDiff, reduceCtorEq, Nat.reduceAdd, if_true, if_false, true_and, and_true]) (by simp (disch := first | omega | decide | (simp only [List.length_cons, List.length_nil] <;> omega)) only [push_cast, ↓reduceIte, Nat.reduceLT, Nat.reduceEqDiff, reduceCtorEq, Nat.reduceAdd, if_true, if_false, true_and, and_true]) (by simp (disch := first | omega | decide | (simp only [List.length_cons, List.length_nil] <;> omega)) only [push_cast, ↓reduceIte, Nat.reduceLT, Nat.reduceEqDiff, reduceCtorEq, Nat.reduceAdd, if_true, if_false, true_and, and_true]))
  rintro _ a6 h6 ⟨rfl, hn6, hd6, ht6, n6, nm6, ob6, iv6, B6⟩
  simp (disch := first | omega | decide | (simp only [List.length_cons, List.length_nil] <;> omega)) only [push_cast, ↓reduceIte, Nat.reduceLT, Nat.reduceEqDiff, reduceCtorEq, Nat.reduceAdd, if_true, if_false, true_and, and_true, hn6, hd6, ht6, ht5, hn, hd, h1, h2, ht4, h7, h9, h10, h11, h12, hv.lenA Tryz.underlying25]
  have hpk := pick3_ok hl
  have hml := matchGo_len (tt := 202) (N := 3) (by decide) n.cells 0
  have hbs : (matchGo 202 3 0 n.cells).map bindI ≠ [] := by simpa using hl
  have hp0 : ((matchGo 202 3 0 n.cells).map bindI).getD 0 default = bindI (pick3 n) := by
    unfold pick3
    cases hx : matchGo 202 3 0 n.cells with
    | nil => exact absurd hx hl
    | cons y ys => rfl
  refine AW.mono ?_ (insOrd (B0 := B0) (X := X) (T := T) (m := { ({ (insBase0 n) with cells := n.cells } : Net) with insts := n.insts.map (instS n) }) (by simp (disch := first | omega | decide | (simp only [List.length_cons, List.length_nil] <;> omega)) only [push_cast, ↓reduceIte, Nat.reduceLT, Nat.reduceEqDiff, reduceCtorEq, Nat.reduceAdd, if_true, if_false, true_and, and_true, hn6]) (by simp (disch := first | omega | decide | (simp only [List.length_cons, List.length_nil] <;> omega)) only [push_cast, ↓reduceIte, Nat.reduceLT, Nat.reduceEqDiff, reduceCtorEq, Nat.reduceAdd, if_true, if_false, true_and, and_true, hd6]) (by omega) gb.wf r3 hN3 hv3 (by omega) (fun z hz => by obtain ⟨i, hi, rfl⟩ := hperm.range hz; omega) ⟨hi0, hi1⟩ hfl rfl (by show (n.insts.map (instS n)).length ≤ 4096; simpa using hil) rfl
    (hbv.row (by omega)) hbs hp0 hpk.2.2.2.1 hpk.2.2.2.2 B6 (by simp (disch := first | omega | decide | (simp only [List.length_cons, List.length_nil] <;> omega)) only [push_cast, ↓reduceIte, Nat.reduceLT, Nat.reduceEqDiff, reduceCtorEq, Nat.reduceAdd, if_true, if_false, true_and, and_true, ht6, ht5, h2]) (by simp (disch := first | omega | decide | (simp only [List.length_cons, List.length_nil] <;> omega)) only [push_cast, ↓reduceIte, Nat.reduceLT, Nat.reduceEqDiff, reduceCtorEq, Nat.reduceAdd, if_true, if_false, true_and, and_true, ht6, ht5, h7]) (by simp (disch := first | omega | decide | (simp only [List.length_cons, List.length_nil] <;> omega)) only [push_cast, ↓reduceIte, Nat.reduceLT, Nat.reduceEqDiff, reduceCtorEq, Nat.reduceAdd, if_true, if_false, true_and, and_true, ht6, ht5, h12]) (by simp (disch := first | omega | decide | (simp only [List.length_cons, List.length_nil] <;> omega)) only [push_cast, ↓reduceIte, Nat.reduceLT, Nat.reduceEqDiff, reduceCtorEq, Nat.reduceAdd, if_true, if_false, true_and, and_true, ht6, ht5, h9]) (by simp (disch := first | omega | decide | (simp only [List.length_cons, List.length_nil] <;> omega)) only [push_cast, ↓reduceIte, Nat.reduceLT, Nat.reduceEqDiff, reduceCtorEq, Nat.reduceAdd, if_true, if_false, true_and, and_true, ht6, ht5, h10]) (by simp (disch := first | omega | decide | (simp only [List.length_cons, List.length_nil] <;> omega)) only [push_cast, ↓reduceIte, Nat.reduceLT, Nat.reduceEqDiff, reduceCtorEq, Nat.reduceAdd, if_true, if_false, true_and, and_true, ht6, ht5, h11]) (by simp (disch := first | omega | decide | (simp only [List.length_cons, List.length_nil] <;> omega)) only [push_cast, ↓reduceIte, Nat.reduceLT, Nat.reduceEqDiff, reduceCtorEq, Nat.reduceAdd, if_true, if_false, true_and, and_true]) (by simp (disch := first | omega | decide | (simp only [List.length_cons, List.length_nil] <;> omega)) only [push_cast, ↓reduceIte, Nat.reduceLT, Nat.reduceEqDiff, reduceCtorEq, Nat.reduceAdd, if_true, if_false, true_and, and_true]) (by simp (disch := first | omega | decide | (simp only [List.length_cons, List.length_nil] <;> omega)) only [push_cast, ↓reduceIte, Nat.reduceLT, Nat.reduceEqDiff, reduceCtorEq, Nat.reduceAdd, if_true, if_false, true_and, and_true]))
  rintro _ a7 h7' ⟨rfl, hn7, hd7, ht7, n7, h11', nm7, ob7, fv7, iv7, B7⟩
  have hgo : (ord.foldl (insStep n) (n.inputs + 1, { ({ (insBase0 n) with cells := n.cells } : Net) with insts := n.insts.map (instS n) })) = insGo n ord := rfl
  rw [hgo] at h11' B7
  obtain ⟨q1, q2, q3, q4, q5⟩ := insGo_keep n ord (n.inputs + 1, insBase n)
  have hgo2 : ord.foldl (insStep n) (n.inputs + 1, insBase n) = insGo n ord := rfl
  rw [hgo2] at q1 q2 q3 q4 q5
  have q5l : (insGo n ord).2.outs.length = n.outs.length := by rw [q5]; simp [insBase]
  obtain ⟨e1, v', k1, k2, e2, e3, nm8, ob8, B8⟩ := B7.pushO gb.wf (insGo n ord).1 (by omega)
  have hM7 := B7.at
  have hM8 := B8.at
  have hX8 := B8.own.gr.sub _ _ hX3
  have hins : insR n ord = insN n ord := by unfold insR; rw [if_pos he]
  have hnl : (insN n ord).insts.length ≤ 4294967296 := by show (insGo n ord).2.insts.length ≤ _; rw [q2]; simp [insBase]; omega
  have hfn : (insN n ord).flops.length ≤ 4294967296 := by show (insGo n ord).2.flops.length ≤ _; rw [q1]; simp [insBase]; omega
  have hcn : (insN n ord).cells.length ≤ 4294967296 := by show (insGo n ord).2.cells.length ≤ _; rw [q4]; simp [insBase]; omega
  have hlt8 := AH.get_lt B8.own.gr.wf hX8
  have hst8 := stA agN hX8 rfl _ rfl B8.one
  have hld8 : aLoad Tryz.prog 27 (.pointer (some ⟨X, 0, none⟩)) (k2.set X (.row (netC { (insGo n ord).2 with outs := (insGo n ord).2.outs ++ [(insGo n ord).1] } cv5 fv7 iv7 v') 27 true)) = some (.agg (netC { (insGo n ord).2 with outs := (insGo n ord).2.outs ++ [(insGo n ord).1] } cv5 fv7 iv7 v').toArray) := ldLA (by rw [AH.set_get, if_pos rfl]) rfl agN rfl
  simp (disch := first | omega | decide | (simp only [List.length_cons, List.length_nil] <;> omega)) only [push_cast, ↓reduceIte, Nat.reduceLT, Nat.reduceEqDiff, reduceCtorEq, Nat.reduceAdd, if_true, if_false, true_and, and_true, hn7, hd7, ht7, ht6, ht5, hn, hd, h1, h2, ht4, h7, h9, h10, h11, h12, h11', faL foN0, faL foN1, faL foN2, faL foN3, faL foN4, hM7.l0, hM7.l1, hM7.l2, hM7.l3, hM7.l4, hM7.la, e1, e2, e3, hM8.l0, hM8.l1, hM8.l2, hM8.l3, hM8.l4, hM8.la, hst8, hld8]
  have hnet8 := B8.net hXb (.row (netC { (insGo n ord).2 with outs := (insGo n ord).2.outs ++ [(insGo n ord).1] } cv5 fv7 iv7 v') 27 true) hcn hfn hnl
  refine ⟨(gb.trans B8.own.gr).set hwf hXlo hlt8 _, cv5, fv7, iv7, v', ?_, ?_⟩
  · rw [hins, he]; rfl
  · rw [hins]; exact hnet8

end Go.Ab.S1

namespace Go.Ab.S1
open Go.Proofs
set_option linter.unusedSimpArgs false
set_option linter.unusedVariables false
set_option maxRecDepth 100000
set_option maxHeartbeats 4000000
attribute [local push_cast] wpA_skip wpA_ret wpA_exit wpA_seq wpA_block wpA_cond2 andK_true wpA_region wpA_draw wpA_loop thenQ_normal thenQ_ret thenQ_exit blockQ_normal blockQ_ret blockQ_exit condV_true condV_false opsM_nil opsM_cons2 okM_true wantM_true wantM_false stepM seqM_cons2 seqM_nil2 okS_true wantS_true wantS_false stepS skipS okB Keeps_nil contK_app List.zip_cons_cons List.zip_nil_left List.zip_nil_right Op.operands Call.operands Array.toList_append List.append_nil List.nil_append List.all_cons List.all_nil cOK plain put_n put_tm put_none put_df ev_tmp ev_const ev_func wanted_none wanted_some callR_func dop ex_some1 aBuiltin aBin intBin aUn Option.map_some Bool.and_true Bool.true_and Bool.and_self List.map_cons List.map_nil List.toList_toArray List.getElem?_toArray List.getElem?_cons_zero List.getElem?_cons_succ Option.getD_some Option.getD_none Bool.false_eq_true eq_self_iff_true decide_true decide_false List.cons_append aExtract resL resV List.getD_cons_zero List.getD_cons_succ List.getD_nil Nat.succ_ne_self g1 g2 yieldedA2 isB_bool isB_undef g3 Option.bind_some Option.bind_none bne_self_eq_false beq_self_eq_true Bool.not_true Bool.not_false Int.toNat_natCast List.length_map List.mem_cons List.not_mem_nil or_false not_false_eq_true decide_not Bool.not_not bodyR_ret2 bodyR_normal2 closeMarks_nil ex_some0 Nat.zero_add Nat.add_zero ieq ine List.map_toArray Option.toArray_none Option.toArray_some oev Keeps_cons Still_eq selL wpX_skip wpX_ret wpX_exit wpX_seq wpX_block wpX_cond wpX_region wpX_draw wpX_loop List.take_succ_cons List.take_zero List.drop_succ_cons List.drop_zero Int.zero_add Int.add_zero aNil

/-! ### Closed runs -/

def isV (V : Int) : Value → EH → Bool
  | .int .u64 n, _ => decide (n = V)
  | _, _ => false

theorem emptyDen0 : (EH.den { next := 0, hp := T.full 11 }) = emptyH := by
  simp only [EH.den, emptyH]; congr 1; funext i; exact full_get 11 i

theorem closedU {g : FuncId} {args : List Value} {V : Int} (hargs : args.all (plain 9) = true) (hrun : evCall Tryz.prog (evC ⟨Tryz.prog, [], []⟩ 100000) g args { next := 0, hp := T.full 11 } (isV V) = true) (h : AH) :
    ACall Tryz.prog g args h (fun v h' => v = .int .u64 V ∧ h' = h) := by
  refine ACall.closed hargs rfl ?_ h
  have := evCall_sound (evC_sound (E := ⟨Tryz.prog, [], []⟩) mixed 100000) g args _ (isV V) hrun
  rw [emptyDen0] at this
  refine ACall.mono ?_ this
  rintro v h' ⟨eh, rfl, hk⟩
  unfold isV at hk
  split at hk
  · rw [of_decide_eq_true hk]
  · cases hk

theorem mask1 (h : AH) : ACall Tryz.prog 76 [.int .i64 1] h (fun v h' => v = .int .u64 3 ∧ h' = h) := closedU rfl (by kernel_rfl) h
theorem mask2 (h : AH) : ACall Tryz.prog 76 [.int .i64 2] h (fun v h' => v = .int .u64 15 ∧ h' = h) := closedU rfl (by kernel_rfl) h
theorem mask3 (h : AH) : ACall Tryz.prog 76 [.int .i64 3] h (fun v h' => v = .int .u64 255 ∧ h' = h) := closedU rfl (by kernel_rfl) h
theorem mask4 (h : AH) : ACall Tryz.prog 76 [.int .i64 4] h (fun v h' => v = .int .u64 65535 ∧ h' = h) := closedU rfl (by kernel_rfl) h

theorem or_mask (t k : Nat) (ht : t < 2 ^ 64) (hk : k ≤ 64) : (BitVec.ofInt 64 (t : Int) ||| BitVec.ofInt 64 ((2 ^ k - 1 : Nat) : Int)).toNat = 2 ^ k - 1 ↔ t < 2 ^ k := by
  have hp : 2 ^ k ≤ 2 ^ 64 := Nat.pow_le_pow_right (by omega) hk
  have h1 := Nat.one_le_two_pow (n := k)
  have e1 : BitVec.ofInt 64 (t : Int) = BitVec.ofNat 64 t := by simp
  have e2 : BitVec.ofInt 64 ((2 ^ k - 1 : Nat) : Int) = BitVec.ofNat 64 (2 ^ k - 1) := by simp
  rw [e1, e2, BitVec.toNat_or, BitVec.toNat_ofNat, BitVec.toNat_ofNat, Nat.mod_eq_of_lt ht, Nat.mod_eq_of_lt (by omega)]
  constructor
  · intro h
    have : t ≤ t ||| (2 ^ k - 1) := Nat.left_le_or
    omega
  · intro h
    apply Nat.eq_of_testBit_eq
    intro i
    rw [Nat.testBit_or, Nat.testBit_two_pow_sub_one]
    by_cases hi : i < k
    · simp [hi]
    · have : t.testBit i = false := Nat.testBit_lt_two_pow (Nat.lt_of_lt_of_le h (Nat.pow_le_pow_right (by omega) (by omega)))
      simp [hi, this]

theorem or_maskE {t n : Int} {k : Nat} {m : Int} (h0 : 0 ≤ t) (h1 : t < 18446744073709551616) (hk : k ≤ 64) (hm : m = ((2 ^ k - 1 : Nat) : Int)) (hn : n = lim n) (hmask : maskE n = m) :
    (IntKind.u64.wrap ((BitVec.ofInt 64 t ||| BitVec.ofInt 64 m).toNat : Int) == m) = validE t n := by
  obtain ⟨q, rfl⟩ : ∃ q : Nat, t = q := ⟨t.toNat, by omega⟩
  subst hm
  have := or_mask q k (by omega) hk
  have h1p := Nat.one_le_two_pow (n := k)
  generalize hx : (BitVec.ofInt 64 (q : Int) ||| BitVec.ofInt 64 ((2 ^ k - 1 : Nat) : Int)) = x at this ⊢
  have hlt := x.isLt
  have hw : IntKind.u64.wrap (x.toNat : Int) = x.toNat := by
    unfold IntKind.wrap
    simp [IntKind.bits, IntKind.signed]
    omega
  rw [hw, validE, hmask, decide_eq_true hn, Bool.true_and]
  by_cases hq : q < 2 ^ k
  · have h2 := this.2 hq
    rw [h2, decide_eq_true (by omega)]; simp
  · have h2 : ¬ x.toNat = 2 ^ k - 1 := fun e => hq (this.1 e)
    rw [decide_eq_false (by omega)]
    simp only [beq_eq_false_iff_ne, ne_eq, Int.natCast_inj]
    exact h2

theorem valid21 {h : AH} {t n : Int} (h0 : 0 ≤ t) (h1 : t < 18446744073709551616) (hn1 : 1 ≤ n) (hn4 : n ≤ 4) : ACall Tryz.prog 56 [.int .u64 t, .int .i64 n] h (fun r h' => r = .bool (validE t n) ∧ h' = h) := by
  have key : ∀ {m : Int} {k : Nat}, (∀ h, ACall Tryz.prog 76 [.int .i64 n] h (fun v h' => v = .int .u64 m ∧ h' = h)) → k ≤ 64 → m = ((2 ^ k - 1 : Nat) : Int) → n = lim n → maskE n = m → 0 ≤ n → n ≤ 6 → ACall Tryz.prog 56 [.int .u64 t, .int .i64 n] h (fun r h' => r = .bool (validE t n) ∧ h' = h) := by
    intro m k hM hk hm hl hmask hn0 hn6
    refine ACall.of_wp 20 [.tmp 4] Tryz.func56 rfl (by kernel_rfl) rfl rfl fun a hn hd ha => ?_
    simp (disch := first | omega | decide | (simp only [List.length_cons, List.length_nil] <;> omega)) only [push_cast, ↓reduceIte, Nat.reduceLT, Nat.reduceEqDiff, reduceCtorEq, Nat.reduceAdd, if_true, if_false, true_and, and_true, decide_eq_true, decide_eq_false, hn, hd, ha, ge_iff_le, hn0, hn6]
    refine ACall.mono ?_ (hM h)
    rintro _ h ⟨rfl, rfl⟩
    simp (disch := first | omega | decide | (simp only [List.length_cons, List.length_nil] <;> omega)) only [push_cast, ↓reduceIte, Nat.reduceLT, Nat.reduceEqDiff, reduceCtorEq, Nat.reduceAdd, if_true, if_false, true_and, and_true, hn, hd, ha]
    refine ACall.mono ?_ (hM h)
    rintro _ h ⟨rfl, rfl⟩
    have hv := or_maskE h0 h1 hk hm hl hmask
    rw [ieq] at hv
    simp (disch := first | omega | decide | (simp only [List.length_cons, List.length_nil] <;> omega)) only [push_cast, ↓reduceIte, Nat.reduceLT, Nat.reduceEqDiff, reduceCtorEq, Nat.reduceAdd, if_true, if_false, true_and, and_true, hn, hd, ha]
    exact congrArg Value.bool hv
  rcases (show n = 1 ∨ n = 2 ∨ n = 3 ∨ n = 4 by omega) with rfl | rfl | rfl | rfl
  · exact key mask1 (k := 2) (by decide) (by decide) (by decide) (by decide) (by decide) (by decide)
  · exact key mask2 (k := 4) (by decide) (by decide) (by decide) (by decide) (by decide) (by decide)
  · exact key mask3 (k := 8) (by decide) (by decide) (by decide) (by decide) (by decide) (by decide)
  · exact key mask4 (k := 16) (by decide) (by decide) (by decide) (by decide) (by decide) (by decide)


theorem letter28 {h : AH} {c : Int} : ACall Tryz.prog 122 [.int .u8 c] h (fun r h' => r = .bool (letterE c) ∧ h' = h) := by
  refine ACall.of_wp 17 [.tmp 2] Tryz.func122 rfl (by kernel_rfl) rfl rfl fun a hn hd ha => ?_
  by_cases a1 : 97 ≤ c <;> by_cases a2 : c ≤ 122 <;> by_cases a3 : 65 ≤ c <;> by_cases a4 : c ≤ 90 <;> first | (exfalso; omega) | simp (disch := first | omega | decide | (simp only [List.length_cons, List.length_nil] <;> omega)) only [push_cast, ↓reduceIte, Nat.reduceLT, Nat.reduceEqDiff, reduceCtorEq, Nat.reduceAdd, if_true, if_false, true_and, and_true, decide_eq_true, decide_eq_false, ge_iff_le, hn, hd, ha, letterE, a1, a2, a3, a4, Bool.or_true, Bool.or_false, Bool.and_false]

theorem digit28 {h : AH} {c : Int} : ACall Tryz.prog 123 [.int .u8 c] h (fun r h' => r = .bool (digitE c) ∧ h' = h) := by
  refine ACall.of_wp 9 [.tmp 2] Tryz.func123 rfl (by kernel_rfl) rfl rfl fun a hn hd ha => ?_
  by_cases a1 : 48 ≤ c <;> by_cases a2 : c ≤ 57 <;> first | (exfalso; omega) | simp (disch := first | omega | decide | (simp only [List.length_cons, List.length_nil] <;> omega)) only [push_cast, ↓reduceIte, Nat.reduceLT, Nat.reduceEqDiff, reduceCtorEq, Nat.reduceAdd, if_true, if_false, true_and, and_true, decide_eq_true, decide_eq_false, ge_iff_le, hn, hd, ha, digitE, a1, a2, Bool.or_true, Bool.or_false, Bool.and_false]

theorem strAt {s : ByteArray} {k : IntKind} : ∀ i : Int, 0 ≤ i → i < s.size → aIndex Tryz.prog 9 (.string s) (.int k i) = some (.int .u8 ((bytesI s).getD i.toNat 0)) := by
  intro i h0 h1
  have hi : i.toNat < s.size := by omega
  have e1 : s[i.toNat]? = some s[i.toNat] := getElem?_pos s i.toNat hi
  have e2 : (bytesI s).getD i.toNat 0 = (s[i.toNat].toNat : Int) := by
    have hl : i.toNat < s.data.toList.length := hi
    rw [bytesI, List.getD_eq_getElem?_getD, List.getElem?_map, List.getElem?_eq_getElem hl]
    rfl
  simp only [aIndex, Tryz.underlying9, if_pos h0, e1, e2]

def okC (c : Int) : Bool := letterE c || (digitE c || decide (c = 95))

theorem nameGo_all : ∀ l : List Int, nameGo false l = l.all okC := by
  intro l
  induction l with
  | nil => rfl
  | cons c cs ih =>
    rw [nameGo, List.all_cons, ih, okC]
    cases letterE c <;> cases digitE c <;> simp

theorem nameE_eq {s : ByteArray} (h0 : s.size ≠ 0) (h1 : s.size ≤ 16) : nameE s = (letterE ((bytesI s).getD 0 0) && (bytesI s).all okC) := by
  have hl := bytesI_len s
  cases hb : bytesI s with
  | nil => rw [hb] at hl; exact absurd hl.symm h0
  | cons c cs =>
    simp only [nameE, ne_eq, h0, h1, hb, not_false_eq_true, decide_true, Bool.true_and, nameGo, nameGo_all, List.getD_cons_zero, List.all_cons, okC]
    cases letterE c <;> simp

theorem all_drop {α : Type} {p : α → Bool} {zs : List α} {i : Nat} (hi : i < zs.length) (d : α) : (zs.drop i).all p = (p (zs.getD i d) && (zs.drop (i + 1)).all p) := by
  rw [List.drop_eq_getElem_cons hi, List.all_cons]
  simp [List.getD_eq_getElem?_getD, hi]

theorem name28 {h : AH} {s : ByteArray} : ACall Tryz.prog 99 [.string s] h (fun r h' => r = .bool (nameE s) ∧ h' = h) := by
  refine ACall.of_wp 41 [.tmp 2] Tryz.func99 rfl (by kernel_rfl) rfl rfl fun a hn hd ha => ?_
  simp (disch := first | omega | decide | (simp only [List.length_cons, List.length_nil] <;> omega)) only [push_cast, ↓reduceIte, Nat.reduceLT, Nat.reduceEqDiff, reduceCtorEq, Nat.reduceAdd, if_true, if_false, true_and, and_true, hn, hd, ha, strBin, toList_empty]
  refine wantM_not (fun h0 => ?_) (fun h0 => ?_)
  · have e : s.size = 0 := by simpa using h0
    simp (disch := first | omega | decide | (simp only [List.length_cons, List.length_nil] <;> omega)) only [push_cast, ↓reduceIte, Nat.reduceLT, Nat.reduceEqDiff, reduceCtorEq, Nat.reduceAdd, if_true, if_false, true_and, and_true, decide_eq_true, decide_eq_false, hn, hd, ha, e, nameE, ne_eq, not_true_eq_false, Bool.false_and]
  have h0' : s.size ≠ 0 := by simpa using h0
  simp (disch := first | omega | decide | (simp only [List.length_cons, List.length_nil] <;> omega)) only [push_cast, ↓reduceIte, Nat.reduceLT, Nat.reduceEqDiff, reduceCtorEq, Nat.reduceAdd, if_true, if_false, true_and, and_true, hn, hd, ha, h0, lenStr Tryz.underlying9]
  refine wantM_not (fun h1 => ?_) (fun h1 => ?_)
  · have e : ¬ s.size ≤ 16 := by simp at h1; omega
    simp (disch := first | omega | decide | (simp only [List.length_cons, List.length_nil] <;> omega)) only [push_cast, ↓reduceIte, Nat.reduceLT, Nat.reduceEqDiff, reduceCtorEq, Nat.reduceAdd, if_true, if_false, true_and, and_true, decide_eq_true, decide_eq_false, hn, hd, ha, h1, nameE, e, Bool.and_false, Bool.false_and]
  have h1' : s.size ≤ 16 := by simp at h1; omega
  have hN := nameE_eq h0' h1'
  have hb0 := strAt (s := s) (k := .i64) 0 (by omega) (by omega)
  rw [show Int.toNat 0 = 0 from rfl] at hb0
  simp (disch := first | omega | decide | (simp only [List.length_cons, List.length_nil] <;> omega)) only [push_cast, ↓reduceIte, Nat.reduceLT, Nat.reduceEqDiff, reduceCtorEq, Nat.reduceAdd, if_true, if_false, true_and, and_true, hn, hd, ha, h1, hb0]
  refine ACall.mono ?_ letter28
  rintro _ h ⟨rfl, rfl⟩
  simp (disch := first | omega | decide | (simp only [List.length_cons, List.length_nil] <;> omega)) only [push_cast, ↓reduceIte, Nat.reduceLT, Nat.reduceEqDiff, reduceCtorEq, Nat.reduceAdd, if_true, if_false, true_and, and_true, hn, hd, ha]
  refine condV_not (fun hl => ?_) (fun hl => ?_)
  · simp (disch := first | omega | decide | (simp only [List.length_cons, List.length_nil] <;> omega)) only [push_cast, ↓reduceIte, Nat.reduceLT, Nat.reduceEqDiff, reduceCtorEq, Nat.reduceAdd, if_true, if_false, true_and, and_true, hn, hd, ha, hN, hl, Bool.false_and]
  rw [hl, Bool.true_and] at hN
  have hsz := bytesI_len s
  simp (disch := first | omega | decide | (simp only [List.length_cons, List.length_nil] <;> omega)) only [push_cast, ↓reduceIte, Nat.reduceLT, Nat.reduceEqDiff, reduceCtorEq, Nat.reduceAdd, if_true, if_false, true_and, and_true, hn, hd, ha]
  refine AW.loopN 17 [3] (fun m a' h' => h' = h ∧ ∃ i : Nat, a'.tm 3 = .int .i64 i ∧ i + m = s.size ∧ ((bytesI s).drop i).all okC = nameE s) s.size ?_ ?_
  · exact ⟨rfl, 0, by simp (disch := first | omega | decide | (simp only [List.length_cons, List.length_nil] <;> omega)) only [push_cast, ↓reduceIte, Nat.reduceLT, Nat.reduceEqDiff, reduceCtorEq, Nat.reduceAdd, if_true, if_false, true_and, and_true], by omega, by rw [hN, List.drop_zero]⟩
  rintro a1 m a' h' hk kn kd kt ⟨rfl, i, h3, him, hgo⟩
  simp (disch := first | omega | decide | (simp only [List.length_cons, List.length_nil] <;> omega)) only [push_cast, ↓reduceIte, Nat.reduceLT, Nat.reduceEqDiff, reduceCtorEq, Nat.reduceAdd, if_true, if_false, true_and, and_true, kn, kd, kt, hn, hd, ha, h3, lenStr Tryz.underlying9]
  refine condV_of (fun hlt => ?_) (fun hge => ?_)
  · have hi : i < s.size := by have := hlt; simp at this; omega
    have hbi := strAt (s := s) (k := .i64) i (by omega) (by omega)
    rw [Int.toNat_natCast] at hbi
    rw [all_drop (by omega) 0] at hgo
    have hw : IntKind.i64.wrap ((i : Int) + 1) = i + 1 := wrapI (by omega) (by omega)
    generalize (bytesI s).getD i 0 = c at *
    simp (disch := first | omega | decide | (simp only [List.length_cons, List.length_nil] <;> omega)) only [push_cast, ↓reduceIte, Nat.reduceLT, Nat.reduceEqDiff, reduceCtorEq, Nat.reduceAdd, if_true, if_false, true_and, and_true, kn, kd, kt, hn, hd, ha, h3, hbi]
    refine ACall.mono ?_ letter28
    rintro _ h ⟨rfl, rfl⟩
    simp (disch := first | omega | decide | (simp only [List.length_cons, List.length_nil] <;> omega)) only [push_cast, ↓reduceIte, Nat.reduceLT, Nat.reduceEqDiff, reduceCtorEq, Nat.reduceAdd, if_true, if_false, true_and, and_true, kn, kd, kt, hn, hd, ha, h3]
    refine wantM_not (fun e1 => ?_) (fun e1 => ?_)
    · rw [okC, e1] at hgo
      simp (disch := first | omega | decide | (simp only [List.length_cons, List.length_nil] <;> omega)) only [push_cast, ↓reduceIte, Nat.reduceLT, Nat.reduceEqDiff, reduceCtorEq, Nat.reduceAdd, if_true, if_false, true_and, and_true, kn, kd, kt, hn, hd, ha, h3, e1, hw]
      exact ⟨m - 1, by omega, (by simp (disch := decide) only [Kp_put, put_none, hk]), rfl, i + 1, by simp (disch := first | omega | decide | (simp only [List.length_cons, List.length_nil] <;> omega)) only [push_cast, ↓reduceIte, Nat.reduceLT, Nat.reduceEqDiff, reduceCtorEq, Nat.reduceAdd, if_true, if_false, true_and, and_true], by omega, by simpa using hgo⟩
    · simp (disch := first | omega | decide | (simp only [List.length_cons, List.length_nil] <;> omega)) only [push_cast, ↓reduceIte, Nat.reduceLT, Nat.reduceEqDiff, reduceCtorEq, Nat.reduceAdd, if_true, if_false, true_and, and_true, kn, kd, kt, hn, hd, ha, h3, e1, hbi]
      refine ACall.mono ?_ digit28
      rintro _ h ⟨rfl, rfl⟩
      simp (disch := first | omega | decide | (simp only [List.length_cons, List.length_nil] <;> omega)) only [push_cast, ↓reduceIte, Nat.reduceLT, Nat.reduceEqDiff, reduceCtorEq, Nat.reduceAdd, if_true, if_false, true_and, and_true, kn, kd, kt, hn, hd, ha, h3, e1, hbi]
      refine wantM_not (fun e2 => ?_) (fun e2 => ?_)
      · rw [okC, e1, e2] at hgo
        simp (disch := first | omega | decide | (simp only [List.length_cons, List.length_nil] <;> omega)) only [push_cast, ↓reduceIte, Nat.reduceLT, Nat.reduceEqDiff, reduceCtorEq, Nat.reduceAdd, if_true, if_false, true_and, and_true, kn, kd, kt, hn, hd, ha, h3, e1, e2, hw]
        exact ⟨m - 1, by omega, (by simp (disch := decide) only [Kp_put, put_none, hk]), rfl, i + 1, by simp (disch := first | omega | decide | (simp only [List.length_cons, List.length_nil] <;> omega)) only [push_cast, ↓reduceIte, Nat.reduceLT, Nat.reduceEqDiff, reduceCtorEq, Nat.reduceAdd, if_true, if_false, true_and, and_true], by omega, by simpa using hgo⟩
      · simp (disch := first | omega | decide | (simp only [List.length_cons, List.length_nil] <;> omega)) only [push_cast, ↓reduceIte, Nat.reduceLT, Nat.reduceEqDiff, reduceCtorEq, Nat.reduceAdd, if_true, if_false, true_and, and_true, kn, kd, kt, hn, hd, ha, h3, e1, e2, hbi]
        refine condV_not (fun e3 => ?_) (fun e3 => ?_)
        · rw [okC, e1, e2, e3] at hgo
          simp (disch := first | omega | decide | (simp only [List.length_cons, List.length_nil] <;> omega)) only [push_cast, ↓reduceIte, Nat.reduceLT, Nat.reduceEqDiff, reduceCtorEq, Nat.reduceAdd, if_true, if_false, true_and, and_true, kn, kd, kt, hn, hd, ha, h3, ← hgo, Bool.or_false, Bool.false_and]
        · rw [okC, e1, e2, e3] at hgo
          simp (disch := first | omega | decide | (simp only [List.length_cons, List.length_nil] <;> omega)) only [push_cast, ↓reduceIte, Nat.reduceLT, Nat.reduceEqDiff, reduceCtorEq, Nat.reduceAdd, if_true, if_false, true_and, and_true, kn, kd, kt, hn, hd, ha, h3, hw]
          exact ⟨m - 1, by omega, (by simp (disch := decide) only [Kp_put, put_none, hk]), rfl, i + 1, by simp (disch := first | omega | decide | (simp only [List.length_cons, List.length_nil] <;> omega)) only [push_cast, ↓reduceIte, Nat.reduceLT, Nat.reduceEqDiff, reduceCtorEq, Nat.reduceAdd, if_true, if_false, true_and, and_true], by omega, by simpa using hgo⟩
  · have hi : i = s.size := by have := hge; simp at this; omega
    subst hi
    rw [List.drop_of_length_le (by omega)] at hgo
    simp (disch := first | omega | decide | (simp only [List.length_cons, List.length_nil] <;> omega)) only [push_cast, ↓reduceIte, Nat.reduceLT, Nat.reduceEqDiff, reduceCtorEq, Nat.reduceAdd, if_true, if_false, true_and, and_true, kn, kd, kt, hn, hd, ha, h3, ← hgo, List.all_nil]


theorem one28R {h : AH} {c : Cell} {dv : Value} (hd : SlOf h dv (c.delay.map (.int .i64))) (h0 : 0 ≤ c.table) (h1 : c.table < 18446744073709551616) (hb : c.delay.length ≤ 4611686018427387904) :
    ACall Tryz.prog 75 [cellV c dv] h (fun r _ => r = .int .i64 (checkE c)) := by
  refine ACall.wf ⟨_, Tryz.func75, rfl, by kernel_rfl⟩ fun hwf => ?_
  refine ACall.of_wp 61 [.tmp 2] Tryz.func75 rfl (by kernel_rfl) rfl rfl fun a hn hdf ha => ?_
  have hbox := boxA 40 h [.string c.name, .int .i64 c.pins, .int .u64 c.table, .int .i64 c.area, dv] (by simp only [List.all_cons, List.all_nil, hd.one]; rfl)
  have hB : (h.new (.row [.string c.name, .int .i64 c.pins, .int .u64 c.table, .int .i64 c.area, dv] 40 true)).get h.next = some (.row [.string c.name, .int .i64 c.pins, .int .u64 c.table, .int .i64 c.area, dv] 40 true) := by simp [AH.new_get]
  have hs : Sub h (h.new (.row [.string c.name, .int .i64 c.pins, .int .u64 c.table, .int .i64 c.area, dv] 40 true)) := Sub.new hwf _
  simp (disch := first | omega | decide | (simp only [List.length_cons, List.length_nil] <;> omega)) only [push_cast, ↓reduceIte, Nat.reduceLT, Nat.reduceEqDiff, reduceCtorEq, Nat.reduceAdd, if_true, if_false, true_and, and_true, hn, hdf, ha, cellV, hbox, faL foC0, ldN fl9, List.length_cons, List.length_nil]
  generalize h.new (.row [.string c.name, .int .i64 c.pins, .int .u64 c.table, .int .i64 c.area, dv] 40 true) = k1 at hB hs ⊢
  generalize h.next = P at hB ⊢
  have hl2 := ldL hB rfl fl2
  have hl3 := ldL hB rfl fl3
  have hlU := ldL hB rfl flU
  have hlL := ldL hB rfl flL
  simp only [List.length_cons, List.length_nil] at hl2 hl3 hlU hlL
  refine ACall.mono ?_ name28
  rintro _ k1 ⟨rfl, rfl⟩
  simp (disch := first | omega | decide | (simp only [List.length_cons, List.length_nil] <;> omega)) only [push_cast, ↓reduceIte, Nat.reduceLT, Nat.reduceEqDiff, reduceCtorEq, Nat.reduceAdd, if_true, if_false, true_and, and_true, hn, hdf, ha]
  refine condV_not (fun e0 => ?_) (fun e0 => ?_)
  · have e : nameE c.name = false := by simpa using e0
    simp (disch := first | omega | decide | (simp only [List.length_cons, List.length_nil] <;> omega)) only [push_cast, ↓reduceIte, Nat.reduceLT, Nat.reduceEqDiff, reduceCtorEq, Nat.reduceAdd, if_true, if_false, true_and, and_true, hn, hdf, ha, checkE, e]
  have e0' : ¬ nameE c.name = false := by simp [e0]
  simp (disch := first | omega | decide | (simp only [List.length_cons, List.length_nil] <;> omega)) only [push_cast, ↓reduceIte, Nat.reduceLT, Nat.reduceEqDiff, reduceCtorEq, Nat.reduceAdd, if_true, if_false, true_and, and_true, hn, hdf, ha, faL foC1, hl3]
  refine wantM_not (fun e1 => ?_) (fun e1 => ?_)
  · simp (disch := first | omega | decide | (simp only [List.length_cons, List.length_nil] <;> omega)) only [push_cast, ↓reduceIte, Nat.reduceLT, Nat.reduceEqDiff, reduceCtorEq, Nat.reduceAdd, if_true, if_false, true_and, and_true, hn, hdf, ha, e1, checkE, e0', Bool.true_or]
  simp (disch := first | omega | decide | (simp only [List.length_cons, List.length_nil] <;> omega)) only [push_cast, ↓reduceIte, Nat.reduceLT, Nat.reduceEqDiff, reduceCtorEq, Nat.reduceAdd, if_true, if_false, true_and, and_true, hn, hdf, ha, e1, faL foC1, hl3]
  refine wantM_not (fun e2 => ?_) (fun e2 => ?_)
  · simp (disch := first | omega | decide | (simp only [List.length_cons, List.length_nil] <;> omega)) only [push_cast, ↓reduceIte, Nat.reduceLT, Nat.reduceEqDiff, reduceCtorEq, Nat.reduceAdd, if_true, if_false, true_and, and_true, hn, hdf, ha, e1, e2, checkE, e0', Bool.true_or, Bool.false_or]
  have hn1 : 1 ≤ c.pins := by simp at e1; omega
  have hn4 : c.pins ≤ 4 := by simp at e2; omega
  simp (disch := first | omega | decide | (simp only [List.length_cons, List.length_nil] <;> omega)) only [push_cast, ↓reduceIte, Nat.reduceLT, Nat.reduceEqDiff, reduceCtorEq, Nat.reduceAdd, if_true, if_false, true_and, and_true, hn, hdf, ha, e1, e2, faL foC1, faL foC2, hl3, hlU]
  refine ACall.mono ?_ (valid21 h0 h1 hn1 hn4)
  rintro _ k1 ⟨rfl, rfl⟩
  simp (disch := first | omega | decide | (simp only [List.length_cons, List.length_nil] <;> omega)) only [push_cast, ↓reduceIte, Nat.reduceLT, Nat.reduceEqDiff, reduceCtorEq, Nat.reduceAdd, if_true, if_false, true_and, and_true, hn, hdf, ha, e1, e2]
  refine wantM_of (fun e3 => ?_) (fun e3 => ?_)
  case refine_2 => simp (disch := first | omega | decide | (simp only [List.length_cons, List.length_nil] <;> omega)) only [push_cast, ↓reduceIte, Nat.reduceLT, Nat.reduceEqDiff, reduceCtorEq, Nat.reduceAdd, if_true, if_false, true_and, and_true, hn, hdf, ha, e1, e2, e3, checkE, e0', Bool.true_or, Bool.false_or]
  simp (disch := first | omega | decide | (simp only [List.length_cons, List.length_nil] <;> omega)) only [push_cast, ↓reduceIte, Nat.reduceLT, Nat.reduceEqDiff, reduceCtorEq, Nat.reduceAdd, if_true, if_false, true_and, and_true, hn, hdf, ha, e1, e2, e3, faL foC3, hl2]
  refine wantM_not (fun e4 => ?_) (fun e4 => ?_)
  · simp (disch := first | omega | decide | (simp only [List.length_cons, List.length_nil] <;> omega)) only [push_cast, ↓reduceIte, Nat.reduceLT, Nat.reduceEqDiff, reduceCtorEq, Nat.reduceAdd, if_true, if_false, true_and, and_true, hn, hdf, ha, e1, e2, e3, e4, checkE, e0', Bool.true_or, Bool.false_or]
  simp (disch := first | omega | decide | (simp only [List.length_cons, List.length_nil] <;> omega)) only [push_cast, ↓reduceIte, Nat.reduceLT, Nat.reduceEqDiff, reduceCtorEq, Nat.reduceAdd, if_true, if_false, true_and, and_true, hn, hdf, ha, e1, e2, e3, e4, faL foC3, hl2]
  refine condV_of (fun e5 => ?_) (fun e5 => ?_)
  · simp (disch := first | omega | decide | (simp only [List.length_cons, List.length_nil] <;> omega)) only [push_cast, ↓reduceIte, Nat.reduceLT, Nat.reduceEqDiff, reduceCtorEq, Nat.reduceAdd, if_true, if_false, true_and, and_true, hn, hdf, ha, e1, e2, e3, e4, e5, checkE, e0', Bool.true_or, Bool.false_or]
  simp (disch := first | omega | decide | (simp only [List.length_cons, List.length_nil] <;> omega)) only [push_cast, ↓reduceIte, Nat.reduceLT, Nat.reduceEqDiff, reduceCtorEq, Nat.reduceAdd, if_true, if_false, true_and, and_true, hn, hdf, ha, faL foC4, faL foC1, hlL, hl3, hd.lenA Tryz.underlying38]
  refine condV_not (fun e6 => ?_) (fun e6 => ?_)
  case refine_1 =>
    have : ¬ (c.delay.length : Int) = c.pins := by simpa using e6
    simp (disch := first | omega | decide | (simp only [List.length_cons, List.length_nil] <;> omega)) only [push_cast, ↓reduceIte, Nat.reduceLT, Nat.reduceEqDiff, reduceCtorEq, Nat.reduceAdd, if_true, if_false, true_and, and_true, hn, hdf, ha, e1, e2, e3, e4, e5, checkE, e0', ne_eq, this, Bool.false_or]
  have e6' : (c.delay.length : Int) = c.pins := by simpa using e6
  have hC : checkE c = if c.delay.any delayBad = true then 1 else 0 := by
    simp only [checkE, e0', e1, e2, e3, e4, e5, e6', ne_eq, not_true_eq_false, Bool.false_or, if_false, if_neg]; simp
  have hds := hd.sub hs
  simp (disch := first | omega | decide | (simp only [List.length_cons, List.length_nil] <;> omega)) only [push_cast, ↓reduceIte, Nat.reduceLT, Nat.reduceEqDiff, reduceCtorEq, Nat.reduceAdd, if_true, if_false, true_and, and_true, hn, hdf, ha]
  refine AW.loopN 40 [3] (fun m a' h' => h' = k1 ∧ ∃ i : Nat, a'.tm 3 = .int .i64 i ∧ i + m = c.delay.length ∧ (c.delay.drop i).any delayBad = c.delay.any delayBad) c.delay.length ?_ ?_
  · exact ⟨rfl, 0, by simp (disch := first | omega | decide | (simp only [List.length_cons, List.length_nil] <;> omega)) only [push_cast, ↓reduceIte, Nat.reduceLT, Nat.reduceEqDiff, reduceCtorEq, Nat.reduceAdd, if_true, if_false, true_and, and_true], by omega, rfl⟩
  rintro a1 m a' h' hk kn kd kt ⟨rfl, i, h3, him, hany⟩
  simp (disch := first | omega | decide | (simp only [List.length_cons, List.length_nil] <;> omega)) only [push_cast, ↓reduceIte, Nat.reduceLT, Nat.reduceEqDiff, reduceCtorEq, Nat.reduceAdd, if_true, if_false, true_and, and_true, kn, kd, kt, hn, hdf, ha, h3, faL foC4, hlL, hd.lenA Tryz.underlying38]
  refine condV_of (fun hlt => ?_) (fun hge => ?_)
  · have hi : i < c.delay.length := by have := hlt; simp at this; omega
    have hidx := hds.idxI slL .i64 i (by omega) (by omega)
    have hld := hds.ldI slL i (by omega)
    rw [Int.toNat_natCast] at hidx
    rw [any_drop hi 0] at hany
    have hw : IntKind.i64.wrap ((i : Int) + 1) = i + 1 := wrapI (by omega) (by omega)
    generalize c.delay.getD i 0 = z at *
    simp (disch := first | omega | decide | (simp only [List.length_cons, List.length_nil] <;> omega)) only [push_cast, ↓reduceIte, Nat.reduceLT, Nat.reduceEqDiff, reduceCtorEq, Nat.reduceAdd, if_true, if_false, true_and, and_true, kn, kd, kt, hn, hdf, ha, h3, faL foC4, hlL, hidx, hld]
    refine wantM_not (fun b1 => ?_) (fun b1 => ?_)
    · rw [delayBad, b1, Bool.true_or, Bool.true_or] at hany
      simp (disch := first | omega | decide | (simp only [List.length_cons, List.length_nil] <;> omega)) only [push_cast, ↓reduceIte, Nat.reduceLT, Nat.reduceEqDiff, reduceCtorEq, Nat.reduceAdd, if_true, if_false, true_and, and_true, kn, kd, kt, hn, hdf, ha, h3, b1, hC, ← hany]
    · simp (disch := first | omega | decide | (simp only [List.length_cons, List.length_nil] <;> omega)) only [push_cast, ↓reduceIte, Nat.reduceLT, Nat.reduceEqDiff, reduceCtorEq, Nat.reduceAdd, if_true, if_false, true_and, and_true, kn, kd, kt, hn, hdf, ha, h3, b1, faL foC4, hlL, hidx, hld]
      refine condV_of (fun b2 => ?_) (fun b2 => ?_)
      · rw [delayBad, b1, b2, Bool.or_true, Bool.true_or] at hany
        simp (disch := first | omega | decide | (simp only [List.length_cons, List.length_nil] <;> omega)) only [push_cast, ↓reduceIte, Nat.reduceLT, Nat.reduceEqDiff, reduceCtorEq, Nat.reduceAdd, if_true, if_false, true_and, and_true, kn, kd, kt, hn, hdf, ha, h3, hC, ← hany]
      · rw [delayBad, b1, b2, Bool.or_false, Bool.false_or] at hany
        simp (disch := first | omega | decide | (simp only [List.length_cons, List.length_nil] <;> omega)) only [push_cast, ↓reduceIte, Nat.reduceLT, Nat.reduceEqDiff, reduceCtorEq, Nat.reduceAdd, if_true, if_false, true_and, and_true, kn, kd, kt, hn, hdf, ha, h3, hw]
        exact ⟨m - 1, by omega, (by simp (disch := decide) only [Kp_put, put_none, hk]), rfl, i + 1, by simp (disch := first | omega | decide | (simp only [List.length_cons, List.length_nil] <;> omega)) only [push_cast, ↓reduceIte, Nat.reduceLT, Nat.reduceEqDiff, reduceCtorEq, Nat.reduceAdd, if_true, if_false, true_and, and_true], by omega, hany⟩
  · have hi : i = c.delay.length := by have := hge; simp at this; omega
    subst hi
    rw [List.drop_length, List.any_nil] at hany
    simp (disch := first | omega | decide | (simp only [List.length_cons, List.length_nil] <;> omega)) only [push_cast, ↓reduceIte, Nat.reduceLT, Nat.reduceEqDiff, reduceCtorEq, Nat.reduceAdd, if_true, if_false, true_and, and_true, kn, kd, kt, hn, hdf, ha, h3, hC, ← hany]

theorem one28 {h : AH} {c : Cell} {dv : Value} (hd : SlOf h dv (c.delay.map (.int .i64))) (h0 : 0 ≤ c.table) (h1 : c.table < 18446744073709551616) (hb : c.delay.length ≤ 4611686018427387904) :
    ACall Tryz.prog 75 [cellV c dv] h (fun r h' => r = .int .i64 (checkE c) ∧ h' = h) :=
  ACall.viewed rfl (one28R hd.view h0 h1 hb)

/-! ### netlabref28.Check -/

def errE (l : List Cell) (i : Nat) : Int := if checkE (l.getD i default) ≠ 0 then checkE (l.getD i default) else if (l.take i).any (sameName (l.getD i default).name) = true then 10 else 0

theorem cellsGo_step {l : List Cell} {i : Nat} (hi : i < l.length) : cellsGo (l.take i) i (l.drop i) = if errE l i ≠ 0 then ((i : Int), errE l i) else cellsGo (l.take (i + 1)) (i + 1) (l.drop (i + 1)) := by
  rw [drop_cons_getD hi default, cellsGo, errE, take_succ_getD hi default]
  generalize l.getD i default = c
  generalize (l.take i).any (sameName c.name) = b
  cases b <;> by_cases h1 : checkE c = 0 <;> simp [h1]

theorem cells28R {h : AH} {v : Value} {l : List Cell} (hv : RowOf cellL h v l) (hok : ∀ c ∈ l, CellOK c) : ACall Tryz.prog 55 [v] h (fun r _ => r = .tuple #[.int .i64 (cellsE l).1, .int .i64 (cellsE l).2]) := by
  refine ACall.of_wp 45 [.tmp 2, .tmp 3] Tryz.func55 rfl (by kernel_rfl) rfl rfl fun a hn hd ha => ?_
  simp (disch := first | omega | decide | (simp only [List.length_cons, List.length_nil] <;> omega)) only [push_cast, ↓reduceIte, Nat.reduceLT, Nat.reduceEqDiff, reduceCtorEq, Nat.reduceAdd, if_true, if_false, true_and, and_true, hn, hd, ha, hv.len Tryz.underlying22]
  refine condV_of (fun e0 => ?_) (fun e0 => ?_)
  · have e : l.length > 32 := by simp at e0; omega
    simp (disch := first | omega | decide | (simp only [List.length_cons, List.length_nil] <;> omega)) only [push_cast, ↓reduceIte, Nat.reduceLT, Nat.reduceEqDiff, reduceCtorEq, Nat.reduceAdd, if_true, if_false, true_and, and_true, hn, hd, ha, cellsE, e]
  have e : ¬ l.length > 32 := by simp at e0; omega
  have hE : cellsE l = cellsGo [] 0 l := by rw [cellsE, if_neg e]
  simp (disch := first | omega | decide | (simp only [List.length_cons, List.length_nil] <;> omega)) only [push_cast, ↓reduceIte, Nat.reduceLT, Nat.reduceEqDiff, reduceCtorEq, Nat.reduceAdd, if_true, if_false, true_and, and_true, hn, hd, ha]
  refine AW.loopN 7 [4, 5, 6] (fun m a' h' => h' = h ∧ ∃ i : Nat, a'.tm 4 = .int .i64 i ∧ i + m = l.length ∧ cellsGo (l.take i) i (l.drop i) = cellsE l) l.length ?_ ?_
  · exact ⟨rfl, 0, by simp (disch := first | omega | decide | (simp only [List.length_cons, List.length_nil] <;> omega)) only [push_cast, ↓reduceIte, Nat.reduceLT, Nat.reduceEqDiff, reduceCtorEq, Nat.reduceAdd, if_true, if_false, true_and, and_true], by omega, by rw [hE]; rfl⟩
  rintro a1 m a' h' hk kn kd kt ⟨rfl, i, h4, him, hgo⟩
  simp (disch := first | omega | decide | (simp only [List.length_cons, List.length_nil] <;> omega)) only [push_cast, ↓reduceIte, Nat.reduceLT, Nat.reduceEqDiff, reduceCtorEq, Nat.reduceAdd, if_true, if_false, true_and, and_true, kn, kd, kt, hn, hd, ha, h4, hv.len Tryz.underlying22]
  refine condV_of (fun hlt => ?_) (fun hge => ?_)
  · have hi : i < l.length := by have := hlt; simp at this; omega
    rw [cellsGo_step hi] at hgo
    obtain ⟨cs, ⟨dv, rfl, hdv⟩, hld, hcf, hca⟩ := hv.get (P := Tryz.prog) hi default
    replace hld := hld _ agC
    have hcn := hcf 0 _ fl9 (by decide)
    have hfa := hca _ _ _ foC0
    obtain ⟨o1, o2, o3⟩ := hok _ (getD_mem hi default)
    have hidx := hv.idx (P := Tryz.prog) Tryz.underlying22 infC .i64 i (by omega) (by omega)
    rw [Int.toNat_natCast] at hidx
    have hw : IntKind.i64.wrap ((i : Int) + 1) = i + 1 := wrapI (by omega) (by omega)
    have hEr : errE l i = if checkE (l.getD i default) ≠ 0 then checkE (l.getD i default) else if (l.take i).any (sameName (l.getD i default).name) = true then 10 else 0 := rfl
    have hcall := one28 (h := h') hdv o1 o2 o3
    rw [cellV] at hcall
    generalize hc : l.getD i default = c at *
    simp (disch := first | omega | decide | (simp only [List.length_cons, List.length_nil] <;> omega)) only [push_cast, ↓reduceIte, Nat.reduceLT, Nat.reduceEqDiff, reduceCtorEq, Nat.reduceAdd, if_true, if_false, true_and, and_true, kn, kd, kt, hn, hd, ha, h4, hidx, hld]
    refine ACall.mono ?_ hcall
    rintro _ h6 ⟨rfl, rfl⟩
    simp (disch := first | omega | decide | (simp only [List.length_cons, List.length_nil] <;> omega)) only [push_cast, ↓reduceIte, Nat.reduceLT, Nat.reduceEqDiff, reduceCtorEq, Nat.reduceAdd, if_true, if_false, true_and, and_true, kn, kd, kt, hn, hd, ha, h4]
    refine AW.keep 7 [4, 5, 6] (a0 := a1) (by simp (disch := decide) only [Kp_put, put_none, hk]) (fun hkc => ?_)
    refine AW.mono (Q := fun ex a2 h2 => ex = .exit 2 ∧ h2 = h6 ∧ a2.n = 45 ∧ a2.df = [] ∧ a2.tm 0 = v ∧ a2.tm 4 = .int .i64 i ∧ a2.tm 5 = .int .i64 (errE l i) ∧ Kp 7 [4, 5, 6] a1 a2) ?_ ?_
    · rintro _ a2 h2 ⟨rfl, rfl, hn2, hd2, hz0, hz4, hz5, hk⟩
      simp (disch := first | omega | decide | (simp only [List.length_cons, List.length_nil] <;> omega)) only [push_cast, ↓reduceIte, Nat.reduceLT, Nat.reduceEqDiff, reduceCtorEq, Nat.reduceAdd, if_true, if_false, true_and, and_true, hn2, hd2, hz0, hz4, hz5]
      refine condV_not (fun hE0 => ?_) (fun hE0 => ?_)
      · have hE1 : errE l i ≠ 0 := by simpa using hE0
        rw [if_pos hE1] at hgo
        simp (disch := first | omega | decide | (simp only [List.length_cons, List.length_nil] <;> omega)) only [push_cast, ↓reduceIte, Nat.reduceLT, Nat.reduceEqDiff, reduceCtorEq, Nat.reduceAdd, if_true, if_false, true_and, and_true, hn2, hd2, hz0, hz4, hz5, ← hgo]
      · have hE1 : errE l i = 0 := by simpa using hE0
        rw [if_neg (by simpa using hE1)] at hgo
        simp (disch := first | omega | decide | (simp only [List.length_cons, List.length_nil] <;> omega)) only [push_cast, ↓reduceIte, Nat.reduceLT, Nat.reduceEqDiff, reduceCtorEq, Nat.reduceAdd, if_true, if_false, true_and, and_true, hn2, hd2, hz0, hz4, hz5, hw]
        exact ⟨m - 1, by omega, (by simp (disch := decide) only [Kp_put, put_none, hk]), rfl, i + 1, by simp (disch := first | omega | decide | (simp only [List.length_cons, List.length_nil] <;> omega)) only [push_cast, ↓reduceIte, Nat.reduceLT, Nat.reduceEqDiff, reduceCtorEq, Nat.reduceAdd, if_true, if_false, true_and, and_true], by omega, hgo⟩
    refine AW.loopN 21 [5, 6] (fun q a2 h2 => h2 = h6 ∧ ∃ (k : Nat) (e : Int), a2.tm 6 = .int .i64 k ∧ a2.tm 5 = .int .i64 e ∧ k + q = i ∧
      ((checkE c ≠ 0 ∧ e = checkE c) ∨ (checkE c = 0 ∧ e = 0 ∧ ((l.take i).drop k).any (sameName c.name) = (l.take i).any (sameName c.name)) ∨ (checkE c = 0 ∧ e = 10 ∧ (l.take i).any (sameName c.name) = true))) i ?_ ?_
    · refine ⟨rfl, 0, checkE c, by simp (disch := first | omega | decide | (simp only [List.length_cons, List.length_nil] <;> omega)) only [push_cast, ↓reduceIte, Nat.reduceLT, Nat.reduceEqDiff, reduceCtorEq, Nat.reduceAdd, if_true, if_false, true_and, and_true], by simp (disch := first | omega | decide | (simp only [List.length_cons, List.length_nil] <;> omega)) only [push_cast, ↓reduceIte, Nat.reduceLT, Nat.reduceEqDiff, reduceCtorEq, Nat.reduceAdd, if_true, if_false, true_and, and_true], by omega, ?_⟩
      by_cases hc0 : checkE c = 0
      · exact .inr (.inl ⟨hc0, hc0, rfl⟩)
      · exact .inl ⟨hc0, rfl⟩
    rintro a3 q a2 h2 hk2 kn2 kd2 kt2 ⟨rfl, k, e, ht6, h5, hkq, hcase⟩
    have stop : ¬ (k < i ∧ e = 0) → e = errE l i := by
      intro hns
      rw [hEr]
      rcases hcase with ⟨x, rfl⟩ | ⟨x, rfl, y⟩ | ⟨x, rfl, y⟩
      · rw [if_pos x]
      · have : k = i := by
          apply Classical.byContradiction
          intro hne
          exact hns ⟨by omega, rfl⟩
        rw [this, List.drop_of_length_le (by rw [List.length_take]; omega), List.any_nil] at y
        rw [if_neg (by simpa using x), ← y]; simp
      · rw [if_neg (by simpa using x), if_pos y]
    have hk := Kp.trans hkc ⟨kn2, kd2, kt2⟩ (by decide) (by decide)
    simp (disch := first | omega | decide | (simp only [List.length_cons, List.length_nil] <;> omega)) only [push_cast, ↓reduceIte, Nat.reduceLT, Nat.reduceEqDiff, reduceCtorEq, Nat.reduceAdd, if_true, if_false, true_and, and_true, kn2, kd2, kt2, kn, kd, kt, hn, hd, ha, h4, ht6, h5]
    refine wantM_of (fun hki => ?_) (fun hki => ?_)
    · have hki' : k < i := by simp at hki; omega
      simp (disch := first | omega | decide | (simp only [List.length_cons, List.length_nil] <;> omega)) only [push_cast, ↓reduceIte, Nat.reduceLT, Nat.reduceEqDiff, reduceCtorEq, Nat.reduceAdd, if_true, if_false, true_and, and_true, kn2, kd2, kt2, kn, kd, kt, hn, hd, ha, h4, ht6, h5, hki]
      refine condV_of (fun he => ?_) (fun he => ?_)
      · have he' : e = 0 := by simpa using he
        subst he'
        obtain ⟨csk, ⟨dvk, rfl, hdvk⟩, -, hcfk, hcak⟩ := hv.get (P := Tryz.prog) (show k < l.length by omega) default
        have hcnk := hcfk 0 _ fl9 (by decide)
        have hfak := hcak _ _ _ foC0
        have hidxk := hv.idx (P := Tryz.prog) Tryz.underlying22 infC .i64 k (by omega) (by omega)
        rw [Int.toNat_natCast] at hidxk
        have hwk : IntKind.i64.wrap ((k : Int) + 1) = k + 1 := wrapI (by omega) (by omega)
        have hgk : (l.take i).getD k default = l.getD k default := by
          simp [List.getD_eq_getElem?_getD, List.getElem?_take, hki']
        have hany := any_drop (p := sameName c.name) (zs := l.take i) (i := k) (by rw [List.length_take]; omega) default
        rw [hgk] at hany
        obtain ⟨x, y⟩ : checkE c = 0 ∧ ((l.take i).drop k).any (sameName c.name) = (l.take i).any (sameName c.name) := by
          rcases hcase with ⟨x, y⟩ | ⟨x, _, y⟩ | ⟨x, y, _⟩
          · exact absurd y.symm x
          · exact ⟨x, y⟩
          · cases y
        generalize l.getD k default = ck at *
        simp (disch := first | omega | decide | (simp only [List.length_cons, List.length_nil] <;> omega)) only [push_cast, ↓reduceIte, Nat.reduceLT, Nat.reduceEqDiff, reduceCtorEq, Nat.reduceAdd, if_true, if_false, true_and, and_true, kn2, kd2, kt2, kn, kd, kt, hn, hd, ha, h4, ht6, h5]
        refine AW.drawT (.take 0 [10, 4, 3, 2] (.take 1 [10, 4, 3, 2] (.take 2 [10, 4, 3] (.take 3 [10, 4] (.take 4 [10] (.take 5 [10, 9, 8, 7] (.take 6 [10, 9, 8, 7] (.take 7 [10, 9, 8] (.take 8 [10, 9] (.take 9 [10] (.take 10 [] .done))))))))))) [0, 0, 0, 0, 0, 0, 0, 0, 0, 0, 0] mixed (by kernel_rfl) (by kernel_rfl) ?_
        simp (disch := first | omega | decide | (simp only [List.length_cons, List.length_nil] <;> omega)) only [push_cast, ↓reduceIte, Nat.reduceLT, Nat.reduceEqDiff, reduceCtorEq, Nat.reduceAdd, if_true, if_false, true_and, and_true, kn2, kd2, kt2, kn, kd, kt, hn, hd, ha, h4, ht6, h5, hidx, hfa, hcn, hidxk, hfak, hcnk, strBin]
        refine condV_of (fun hs => ?_) (fun hs => ?_)
        · rw [show sameName c.name ck = true from hs, Bool.true_or] at hany
          simp (disch := first | omega | decide | (simp only [List.length_cons, List.length_nil] <;> omega)) only [push_cast, ↓reduceIte, Nat.reduceLT, Nat.reduceEqDiff, reduceCtorEq, Nat.reduceAdd, if_true, if_false, true_and, and_true, kn2, kd2, kt2, kn, kd, kt, hn, hd, ha, h4, ht6, h5, hwk]
          exact ⟨q - 1, by omega, by simp (disch := decide) only [Kp_put, put_none, hk2], rfl, k + 1, 10, by simp (disch := first | omega | decide | (simp only [List.length_cons, List.length_nil] <;> omega)) only [push_cast, ↓reduceIte, Nat.reduceLT, Nat.reduceEqDiff, reduceCtorEq, Nat.reduceAdd, if_true, if_false, true_and, and_true], by simp (disch := first | omega | decide | (simp only [List.length_cons, List.length_nil] <;> omega)) only [push_cast, ↓reduceIte, Nat.reduceLT, Nat.reduceEqDiff, reduceCtorEq, Nat.reduceAdd, if_true, if_false, true_and, and_true], by omega, .inr (.inr ⟨x, rfl, by rw [← y, hany]⟩)⟩
        · rw [show sameName c.name ck = false from hs, Bool.false_or] at hany
          simp (disch := first | omega | decide | (simp only [List.length_cons, List.length_nil] <;> omega)) only [push_cast, ↓reduceIte, Nat.reduceLT, Nat.reduceEqDiff, reduceCtorEq, Nat.reduceAdd, if_true, if_false, true_and, and_true, kn2, kd2, kt2, kn, kd, kt, hn, hd, ha, h4, ht6, h5, hwk]
          exact ⟨q - 1, by omega, by simp (disch := decide) only [Kp_put, put_none, hk2], rfl, k + 1, 0, by simp (disch := first | omega | decide | (simp only [List.length_cons, List.length_nil] <;> omega)) only [push_cast, ↓reduceIte, Nat.reduceLT, Nat.reduceEqDiff, reduceCtorEq, Nat.reduceAdd, if_true, if_false, true_and, and_true], by simp (disch := first | omega | decide | (simp only [List.length_cons, List.length_nil] <;> omega)) only [push_cast, ↓reduceIte, Nat.reduceLT, Nat.reduceEqDiff, reduceCtorEq, Nat.reduceAdd, if_true, if_false, true_and, and_true, h5], by omega, .inr (.inl ⟨x, rfl, by rw [← y, hany]⟩)⟩
      · have he' : ¬ e = 0 := by simpa using he
        have hst := stop (fun x => he' x.2)
        simp (disch := first | omega | decide | (simp only [List.length_cons, List.length_nil] <;> omega)) only [push_cast, ↓reduceIte, Nat.reduceLT, Nat.reduceEqDiff, reduceCtorEq, Nat.reduceAdd, if_true, if_false, true_and, and_true, kn2, kd2, kt2, kn, kd, kt, hn, hd, ha, h4, ht6, h5, hst]
        exact (by simp (disch := decide) only [Kp_put, put_none, hk])
    · have hki' : ¬ k < i := by simp at hki; omega
      have hst := stop (fun x => hki' x.1)
      simp (disch := first | omega | decide | (simp only [List.length_cons, List.length_nil] <;> omega)) only [push_cast, ↓reduceIte, Nat.reduceLT, Nat.reduceEqDiff, reduceCtorEq, Nat.reduceAdd, if_true, if_false, true_and, and_true, kn2, kd2, kt2, kn, kd, kt, hn, hd, ha, h4, ht6, h5, hki, hst]
      exact (by simp (disch := decide) only [Kp_put, put_none, hk])
  · have hi : i = l.length := by have := hge; simp at this; omega
    subst hi
    rw [List.drop_length, cellsGo] at hgo
    simp (disch := first | omega | decide | (simp only [List.length_cons, List.length_nil] <;> omega)) only [push_cast, ↓reduceIte, Nat.reduceLT, Nat.reduceEqDiff, reduceCtorEq, Nat.reduceAdd, if_true, if_false, true_and, and_true, kn, kd, kt, hn, hd, ha, h4, ← hgo]

theorem cells28 {h : AH} {v : Value} {l : List Cell} (hv : RowOf cellL h v l) (hok : ∀ c ∈ l, CellOK c) : ACall Tryz.prog 55 [v] h (fun r h' => r = .tuple #[.int .i64 (cellsE l).1, .int .i64 (cellsE l).2] ∧ h' = h) :=
  ACall.viewed rfl (cells28R hv.view hok)

end Go.Ab.S1
