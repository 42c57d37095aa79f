/- scan.Insert, plainly; the netlist that it builds, as its own blocks. scan.Insert: the loops over the cells and over the instances. scan.Insert: the loop over the order. -/
import Derived.Test.YtnejoceplinjpaaGreatB9
set_option linter.unusedSimpArgs false
set_option linter.unusedVariables false
namespace Go.Ab.S1
open Go.Proofs
set_option linter.unusedSimpArgs false
set_option linter.unusedVariables false
set_option maxRecDepth 100000
set_option maxHeartbeats 4000000
attribute [local push_cast] wpA_skip wpA_ret wpA_exit wpA_seq wpA_block wpA_cond2 andK_true wpA_region wpA_draw wpA_loop thenQ_normal thenQ_ret thenQ_exit blockQ_normal blockQ_ret blockQ_exit condV_true condV_false opsM_nil opsM_cons2 okM_true wantM_true wantM_false stepM seqM_cons2 seqM_nil2 okS_true wantS_true wantS_false stepS skipS okB Keeps_nil contK_app List.zip_cons_cons List.zip_nil_left List.zip_nil_right Op.operands Call.operands Array.toList_append List.append_nil List.nil_append List.all_cons List.all_nil cOK plain put_n put_tm put_none put_df ev_tmp ev_const ev_func wanted_none wanted_some callR_func dop ex_some1 aBuiltin aBin intBin aUn Option.map_some Bool.and_true Bool.true_and Bool.and_self List.map_cons List.map_nil List.toList_toArray List.getElem?_toArray List.getElem?_cons_zero List.getElem?_cons_succ Option.getD_some Option.getD_none Bool.false_eq_true eq_self_iff_true decide_true decide_false List.cons_append aExtract resL resV List.getD_cons_zero List.getD_cons_succ List.getD_nil Nat.succ_ne_self g1 g2 yieldedA2 isB_bool isB_undef g3 Option.bind_some Option.bind_none bne_self_eq_false beq_self_eq_true Bool.not_true Bool.not_false Int.toNat_natCast List.length_map List.mem_cons List.not_mem_nil or_false not_false_eq_true decide_not Bool.not_not bodyR_ret2 bodyR_normal2 closeMarks_nil ex_some0 Nat.zero_add Nat.add_zero ieq ine List.map_toArray Option.toArray_none Option.toArray_some oev Keeps_cons Still_eq selL wpX_skip wpX_ret wpX_exit wpX_seq wpX_block wpX_cond wpX_region wpX_draw wpX_loop List.take_succ_cons List.take_zero List.drop_succ_cons List.drop_zero Int.zero_add Int.add_zero aNil

/-! ### The code inside a block -/

def blkC (i : Nat) : Code → Option Code
  | .block j c => if i = j then some c else blkC i c
  | .seq x y => match blkC i x with
    | some c => some c
    | none => blkC i y
  | .cond _ x y => match blkC i x with
    | some c => some c
    | none => blkC i y
  | .loop c => blkC i c
  | _ => none

def bodyBlk (f : Func) (i : Nat) : Code := match f.body with
  | some c => (blkC i c).getD .skip
  | none => .skip

theorem AW.at {P : Program} {rd : Option Nat} {Q : Exit → AAct → AH → Prop} {a : AAct} {h : AH} {c c' : Code} (e : c = c') (hx : AW P rd c' Q a h) : AW P rd c Q a h := e ▸ hx

/-! ### What Insert makes, plainly -/

def pick3 (n : Net) : Int × List Int := (matchGo 202 3 0 n.cells).headD (0, [])
def instS (n : Net) (x : Inst) : Inst := ⟨x.cell, x.pins.map (shiftE n)⟩
def insBase (n : Net) : Net := ⟨n.cells, n.inputs + 2, n.flops, n.insts.map (instS n), n.outs.map (shiftE n)⟩
def insNets (n : Net) (s : Int × Net) (i : Int) : List Int := [shiftE n (n.flops.getD i.toNat default).next, s.1, n.inputs]
def insFlop (n : Net) (m : Net) (i : Int) : Flop := ⟨n.inputs + 2 + m.flops.length + m.insts.length, (m.flops.getD i.toNat default).init⟩
def insInst (n : Net) (s : Int × Net) (i : Int) : Inst := ⟨(pick3 n).1, (pick3 n).2.map fun k => (insNets n s i).getD k.toNat 0⟩
def insStep (n : Net) (s : Int × Net) (i : Int) : Int × Net :=
  (n.inputs + 2 + i, { s.2 with flops := s.2.flops.set i.toNat (insFlop n s.2 i), insts := s.2.insts ++ [insInst n s i] })
def insGo (n : Net) (ord : List Int) : Int × Net := ord.foldl (insStep n) (n.inputs + 1, insBase n)
def insN (n : Net) (ord : List Int) : Net := { (insGo n ord).2 with outs := (insGo n ord).2.outs ++ [(insGo n ord).1] }
def zeroN : Net := ⟨[], 0, [], [], []⟩
noncomputable def insE (n : Net) (ord : List Int) : Int :=
  if scanE n ord ≠ 0 then scanE n ord
  else if matchE n.cells 202 3 ≠ 0 ∨ matchGo 202 3 0 n.cells = [] then 20
  else if n.inputs + 2 > 64 ∨ (n.outs.length : Int) ≥ 64 ∨ ((n.insts.length : Int) + n.flops.length > 4096) then 5
  else 0

/-! ### The matches -/

theorem ext3 : ∀ p ∈ ext 3 3 [], p.length = 3 ∧ ∀ z ∈ p, 0 ≤ z ∧ z < 3 := by decide

theorem matchGo_mem {tt : Int} {N : Nat} : ∀ {l : List Cell} {j : Nat} {b : Int × List Int}, b ∈ matchGo tt N j l →
    ∃ k : Nat, k < l.length ∧ b.1 = (j + k : Nat) ∧ (l.getD k default).pins = N ∧ b.2 ∈ ext N N [] ∧ hitE (l.getD k default).table tt N b.2 = true := by
  intro l
  induction l with
  | nil => intro j b h; cases h
  | cons c cs ih =>
    intro j b h
    rw [matchGo] at h
    rcases List.mem_append.1 h with h | h
    · by_cases hp : c.pins = N
      · rw [if_pos hp] at h
        simp only [cellM, List.mem_map, List.mem_filter] at h
        obtain ⟨p, ⟨h1, h2⟩, rfl⟩ := h
        exact ⟨0, by simp, rfl, by simpa using hp, h1, by simpa using h2⟩
      · rw [if_neg hp] at h; cases h
    · obtain ⟨k, h1, h2, h3, h4, h5⟩ := ih h
      exact ⟨k + 1, by simpa using h1, by rw [h2]; omega, by simpa using h3, h4, by simpa using h5⟩

theorem pick3_mem {n : Net} (h : matchGo 202 3 0 n.cells ≠ []) : pick3 n ∈ matchGo 202 3 0 n.cells := by
  unfold pick3
  cases e : matchGo 202 3 0 n.cells with
  | nil => exact absurd e h
  | cons a l => simp

theorem pick3_ok {n : Net} (h : matchGo 202 3 0 n.cells ≠ []) : 0 ≤ (pick3 n).1 ∧ (pick3 n).1 < n.cells.length ∧ (n.cells.getD (pick3 n).1.toNat default).pins = 3 ∧ (pick3 n).2.length = 3 ∧ ∀ z ∈ (pick3 n).2, 0 ≤ z ∧ z < 3 := by
  obtain ⟨k, h1, h2, h3, h4, h5⟩ := matchGo_mem (pick3_mem h)
  have h6 := ext3 _ h4
  rw [Nat.zero_add] at h2
  rw [h2]
  exact ⟨by omega, by omega, by rw [Int.toNat_natCast]; exact_mod_cast h3, h6.1, h6.2⟩

/-! ### Rows of one's own, whose elements reach beside one's own -/

noncomputable def away (nm : Nat → Nat) (ob : Nat → Option AObj) (X : Nat) (h : AH) : AH := hide (fun C => C = X) (hide (Own nm ob) h)

theorem away_sub (nm : Nat → Nat) (ob : Nat → Option AObj) (X : Nat) (h : AH) : Sub (away nm ob X h) h := (hide_sub _ _).trans (hide_sub _ _)

theorem awayFresh {b h h' : AH} {nm : Nat → Nat} {ob : Nat → Option AObj} {X : Nat} (ho : _root_.Go.Ab.Owns b h nm ob) (hX : X < h.next) {v : Value} {vs : List Value} (hs : SlOf h' v vs) (hf : ∀ C off l c, v = .slice (some ⟨C, off, none⟩) l c → h.next ≤ C) : SlOf (away nm ob X h') v vs :=
  SlOf_hide (ownFresh ho hs hf) (fun C off l c e hC => by have := hf C off l c e; omega)

/-- A row of one's own. -/
def RowV {α : Type} (L : Lay α) (e : TypeId) (g : AH) (v : Value) (ob : Option AObj) (A : Nat) (xs : List α) : Prop :=
  ∃ zs, VecM L.sz e v ob A xs.length zs ∧ ∀ (i : Nat) (x : α), xs[i]? = some x → L.rel g ((zs.drop (i * L.sz)).take L.sz) x

theorem RowV.sub {α : Type} {L : Lay α} {e : TypeId} {g g' : AH} {v : Value} {ob : Option AObj} {A : Nat} {xs : List α} (r : RowV L e g v ob A xs) (s : Sub g g') : RowV L e g' v ob A xs := by
  obtain ⟨zs, h1, h2⟩ := r
  exact ⟨zs, h1, fun i x hx => L.mono s (h2 i x hx)⟩

theorem RowV.nil {α : Type} {L : Lay α} {e : TypeId} {g : AH} {A : Nat} : RowV L e g (.slice none 0 0) none A ([] : List α) :=
  ⟨[], ⟨by simp, .inl ⟨rfl, rfl, rfl⟩⟩, fun i x hx => by simp at hx⟩

theorem RowV.row {α : Type} {L : Lay α} {e : TypeId} {h : AH} {v : Value} {ob : Option AObj} {A : Nat} {xs : List α} (r : RowV L e h v ob A xs) (hg : ∀ o, ob = some o → h.get A = some o) (hb : xs.length ≤ 4294967296) : RowOf L h v xs := by
  obtain ⟨zs, h1, h2⟩ := r
  exact h1.row hg hb h2

theorem RowV.one {α : Type} {L : Lay α} {e : TypeId} {g : AH} {v : Value} {ob : Option AObj} {A : Nat} {xs : List α} (r : RowV L e g v ob A xs) : oneC v = true ∧ v.cells.toList = [v] := by
  obtain ⟨zs, h1, h2⟩ := r
  exact h1.one

theorem VecM.len {P : Program} {sz : Nat} {t e e' : TypeId} {v : Value} {ob : Option AObj} {A n : Nat} {zs : List Value} (hv : VecM sz e v ob A n zs) (ht : P.underlying t = some (.slice e')) : ∀ h, aLen P t v h = some (.int .i64 n) := by
  intro h
  rcases hv with ⟨_, ⟨rfl, rfl, _⟩ | ⟨rfl, rfl, _⟩ | ⟨rfl, _⟩⟩ <;> exact lenS ht _ _ _ _

theorem RowV.len {α : Type} {P : Program} {L : Lay α} {t e e' : TypeId} {g : AH} {v : Value} {ob : Option AObj} {A : Nat} {xs : List α} (r : RowV L e g v ob A xs) (ht : P.underlying t = some (.slice e')) : ∀ h, aLen P t v h = some (.int .i64 xs.length) := by
  obtain ⟨zs, h1, h2⟩ := r
  exact VecM.len h1 ht

/-- One element more. -/
theorem RowV.push {α : Type} {L : Lay α} {t e : TypeId} {B X : Nat} (ht : SlM Tryz.prog t e L.sz B) (hs : L.sz ≤ 16777216) {b h : AH} {nm : Nat → Nat} {ob : Nat → Option AObj} (w0 : WFH b) (ho : _root_.Go.Ab.Owns b h nm ob) {r : Nat} {v : Value} {xs : List α} (hv : RowV L e (away nm ob X h) v (ob r) (nm r) xs)
    {cs : List Value} {x : α} (hx : L.rel (away nm ob X h) cs x) (hb : (2 * (xs.length + 1) + 192) * B ≤ 281474976710656) (hm : xs.length + 1 < 4611686018427387904) :
    aBuildSlice Tryz.prog t 1 [(0, .agg cs.toArray)] h = some (.slice (some ⟨h.next, 0, none⟩) 1 1, h.new (.row cs e true)) ∧
    ∃ v' h' A' o', aAppend Tryz.prog #[t, t] v (.slice (some ⟨h.next, 0, none⟩) 1 1) (h.new (.row cs e true)) = some (v', h') ∧ RowV L e (away (upd nm r A') (upd ob r (some o')) X h') v' (some o') A' (xs ++ [x]) ∧
      _root_.Go.Ab.Owns b h' (upd nm r A') (upd ob r (some o')) ∧ Sub (away nm ob X h) (away (upd nm r A') (upd ob r (some o')) X h') ∧ h.next ≤ h'.next := by
  obtain ⟨zs, h1, h2⟩ := hv
  have hlen := L.len hx
  obtain ⟨e1, v', h', A', o', e2, hV, o2, s2, n2⟩ := ownPush ht hs w0 ho h1 hlen (by rw [List.all_eq_true]; exact L.one hx) hb hm
  refine ⟨e1, v', h', A', o', e2, ⟨zs ++ cs, by simpa using hV, fun i y hy => ?_⟩, o2, hide_mono s2, n2⟩
  have s3 : Sub (away nm ob X h) (away (upd nm r A') (upd ob r (some o')) X h') := hide_mono s2
  have hzl : zs.length = xs.length * L.sz := h1.1
  by_cases hi : i < xs.length
  · rw [List.getElem?_append_left hi] at hy
    have hle : i * L.sz + L.sz ≤ xs.length * L.sz := by
      rw [← Nat.succ_mul]; exact Nat.mul_le_mul_right _ hi
    rw [List.drop_append_of_le_length (by omega), List.take_append_of_le_length (by rw [List.length_drop]; omega)]
    exact L.mono s3 (h2 i y hy)
  · rw [List.getElem?_append_right (by omega)] at hy
    have hi0 : i = xs.length := by
      have := (List.getElem?_eq_some_iff.1 hy).1
      simp only [List.length_cons, List.length_nil] at this; omega
    subst hi0
    rw [Nat.sub_self] at hy
    cases hy
    rw [← hzl, List.drop_left, ← hlen, List.take_length]
    exact L.mono s3 hx

/-! ### The netlist that is built -/

structure Bld (b h : AH) (X T : Nat) (m : Net) (nm : Nat → Nat) (ob : Nat → Option AObj) (cv fv iv ov : Value) : Prop where
  own : _root_.Go.Ab.Owns b h nm ob
  t : nm 4 = T
  at4 : ob 4 = some (.row (netC m cv fv iv ov) 27 true)
  c : RowV cellL 40 (away nm ob X h) cv (ob 0) (nm 0) m.cells
  f : RowV flopL 65 (away nm ob X h) fv (ob 1) (nm 1) m.flops
  i : RowV instL 36 (away nm ob X h) iv (ob 2) (nm 2) m.insts
  o : _root_.Go.Ab.Vec 3 ov (ob 3) (nm 3) (m.outs.map (.int .i64))

section
variable {b h : AH} {X T : Nat} {m : Net} {nm : Nat → Nat} {ob : Nat → Option AObj} {cv fv iv ov : Value}

theorem Bld.get (B : Bld b h X T m nm ob cv fv iv ov) : h.get T = some (.row (netC m cv fv iv ov) 27 true) := B.t ▸ B.own.get 4 _ B.at4
theorem Bld.at (B : Bld b h X T m nm ob cv fv iv ov) : NetAt h T m cv fv iv ov := ⟨_, B.get, rfl⟩

theorem Bld.lt (B : Bld b h X T m nm ob cv fv iv ov) : T < h.next := AH.get_lt B.own.gr.wf B.get
theorem Bld.lo (B : Bld b h X T m nm ob cv fv iv ov) : b.next ≤ T := B.t ▸ B.own.lo 4 _ B.at4

theorem Bld.grown (B : Bld b h X T m nm ob cv fv iv ov) {h' : AH} (g : Gr h h') : Bld b h' X T m nm ob cv fv iv ov := by
  have s : Sub (away nm ob X h) (away nm ob X h') := hide_mono (hide_mono g.sub)
  exact ⟨B.own.grown g, B.t, B.at4, B.c.sub s, B.f.sub s, B.i.sub s, B.o⟩

/-- A field of the netlist's block written over. -/
theorem ownSet {r : Nat} {o o' : AObj} (w0 : WFH b) (ho : _root_.Go.Ab.Owns b h nm ob) (hr : ob r = some o) : _root_.Go.Ab.Owns b (h.set (nm r) o') nm (upd ob r (some o')) ∧ Sub (away nm ob X h) (away nm (upd ob r (some o')) X (h.set (nm r) o')) := by
  have hlt := AH.get_lt ho.gr.wf (ho.get r o hr)
  obtain ⟨o2, s2⟩ := ownUp (h' := h.set (nm r) o') (o' := o') (r := r) (A' := nm r) w0 ho (by rw [AH.set_get, if_pos rfl]) (.inl ⟨rfl, by rw [hr]; simp⟩) (fun B p hB he => by
    rw [AH.set_get, if_neg (fun e => by have := he e; rw [hr] at this; cases this)]; exact hB) (ho.gr.wf.set hlt _) (by simp)
  have : upd nm r (nm r) = nm := by funext i; unfold upd; split <;> simp_all
  rw [this] at o2 s2
  exact ⟨o2, hide_mono s2⟩

theorem info1 {e : TypeId} (he : ∃ i, Tryz.prog.info? e = some i ∧ i.size = 1) : ∃ i, Tryz.prog.info? e = some i ∧ i.size = 1 := he

theorem szC : ∃ i, Tryz.prog.info? 22 = some i ∧ i.size = 1 := ⟨(Tryz.prog.info? 22).get (by kernel_rfl), by kernel_rfl, by kernel_rfl⟩
theorem szF : ∃ i, Tryz.prog.info? 23 = some i ∧ i.size = 1 := ⟨(Tryz.prog.info? 23).get (by kernel_rfl), by kernel_rfl, by kernel_rfl⟩
theorem szN : ∃ i, Tryz.prog.info? 24 = some i ∧ i.size = 1 := ⟨(Tryz.prog.info? 24).get (by kernel_rfl), by kernel_rfl, by kernel_rfl⟩
theorem szII : ∃ i, Tryz.prog.info? 25 = some i ∧ i.size = 1 := ⟨(Tryz.prog.info? 25).get (by kernel_rfl), by kernel_rfl, by kernel_rfl⟩
theorem sz3 : ∃ i, Tryz.prog.info? 3 = some i ∧ i.size = 1 := ⟨(Tryz.prog.info? 3).get (by kernel_rfl), by kernel_rfl, by kernel_rfl⟩

/-- A cell more. -/
theorem Bld.pushC (B : Bld b h X T m nm ob cv fv iv ov) (w0 : WFH b) {cs : List Value} {x : Cell} (hx : cellL.rel (away nm ob X h) cs x) (hb : m.cells.length ≤ 4294967296) :
    aBuildSlice Tryz.prog 22 1 [(0, .agg cs.toArray)] h = some (.slice (some ⟨h.next, 0, none⟩) 1 1, h.new (.row cs 40 true)) ∧
    ∃ v' h' h'', aAppend Tryz.prog #[22, 22] cv (.slice (some ⟨h.next, 0, none⟩) 1 1) (h.new (.row cs 40 true)) = some (v', h') ∧
      aStore Tryz.prog 22 (.pointer (some ⟨T, 0, none⟩)) v' h' = some h'' ∧ ∃ nm' ob', Bld b h'' X T { m with cells := m.cells ++ [x] } nm' ob' v' fv iv ov ∧ h.next ≤ h''.next ∧ Sub (away nm ob X h) h' ∧ Sub (away nm ob X h) h'' := by
  obtain ⟨e1, v', h', A', o', e2, hV, o2, s2, n2⟩ := RowV.push (r := 0) smC (by decide) w0 B.own B.c hx (by omega) (by omega)
  have h4 : upd ob 0 (some o') 4 = some (.row (netC m cv fv iv ov) 27 true) := by rw [upd_ne _ _ (by decide)]; exact B.at4
  have n4 : upd nm 0 A' 4 = T := by rw [upd_ne _ _ (by decide)]; exact B.t
  have hg := o2.get 4 _ h4
  rw [n4] at hg
  obtain ⟨o3, s3⟩ := ownSet (X := X) (o' := .row ((netC m cv fv iv ov).set 0 v') 27 true) w0 o2 h4
  rw [n4] at o3 s3
  refine ⟨e1, v', h', _, e2, stC szC hg 0 v' (by simp [netC]) hV.one.2 hV.one.1, _, _, ⟨o3, n4, ?_, ?_, ?_, ?_, ?_⟩, by simpa using n2, s2.trans (away_sub _ _ _ _), (s2.trans s3).trans (away_sub _ _ _ _)⟩
  · rw [upd_same]; rfl
  · rw [upd_ne _ _ (by decide), upd_same, upd_same]; exact hV.sub s3
  · rw [upd_ne _ _ (by decide), upd_ne _ _ (by decide), upd_ne _ _ (by decide)]; exact (B.f.sub s2).sub s3
  · rw [upd_ne _ _ (by decide), upd_ne _ _ (by decide), upd_ne _ _ (by decide)]; exact (B.i.sub s2).sub s3
  · rw [upd_ne _ _ (by decide), upd_ne _ _ (by decide), upd_ne _ _ (by decide)]; exact B.o

/-- An instance more. -/
theorem Bld.pushI (B : Bld b h X T m nm ob cv fv iv ov) (w0 : WFH b) {cs : List Value} {x : Inst} (hx : instL.rel (away nm ob X h) cs x) (hb : m.insts.length ≤ 4294967296) :
    aBuildSlice Tryz.prog 24 1 [(0, .agg cs.toArray)] h = some (.slice (some ⟨h.next, 0, none⟩) 1 1, h.new (.row cs 36 true)) ∧
    ∃ v' h' h'', aAppend Tryz.prog #[24, 24] iv (.slice (some ⟨h.next, 0, none⟩) 1 1) (h.new (.row cs 36 true)) = some (v', h') ∧
      aStore Tryz.prog 24 (.pointer (some ⟨T, 3, none⟩)) v' h' = some h'' ∧ ∃ nm' ob', Bld b h'' X T { m with insts := m.insts ++ [x] } nm' ob' cv fv v' ov ∧ h.next ≤ h''.next ∧ Sub (away nm ob X h) h' ∧ Sub (away nm ob X h) h'' := by
  obtain ⟨e1, v', h', A', o', e2, hV, o2, s2, n2⟩ := RowV.push (r := 2) smN (by decide) w0 B.own B.i hx (by omega) (by omega)
  have h4 : upd ob 2 (some o') 4 = some (.row (netC m cv fv iv ov) 27 true) := by rw [upd_ne _ _ (by decide)]; exact B.at4
  have n4 : upd nm 2 A' 4 = T := by rw [upd_ne _ _ (by decide)]; exact B.t
  have hg := o2.get 4 _ h4
  rw [n4] at hg
  obtain ⟨o3, s3⟩ := ownSet (X := X) (o' := .row ((netC m cv fv iv ov).set 3 v') 27 true) w0 o2 h4
  rw [n4] at o3 s3
  refine ⟨e1, v', h', _, e2, stC szN hg 3 v' (by simp [netC]) hV.one.2 hV.one.1, _, _, ⟨o3, n4, ?_, ?_, ?_, ?_, ?_⟩, by simpa using n2, s2.trans (away_sub _ _ _ _), (s2.trans s3).trans (away_sub _ _ _ _)⟩
  · rw [upd_same]; rfl
  · rw [upd_ne _ _ (by decide), upd_ne _ _ (by decide), upd_ne _ _ (by decide)]; exact (B.c.sub s2).sub s3
  · rw [upd_ne _ _ (by decide), upd_ne _ _ (by decide), upd_ne _ _ (by decide)]; exact (B.f.sub s2).sub s3
  · rw [upd_ne _ _ (by decide), upd_same, upd_same]; exact hV.sub s3
  · rw [upd_ne _ _ (by decide), upd_ne _ _ (by decide), upd_ne _ _ (by decide)]; exact B.o

theorem take2 {α : Type} {l : List α} {k : Nat} {a b : α} (h1 : l[k]? = some a) (h2 : l[k + 1]? = some b) : (l.drop k).take 2 = [a, b] := by
  obtain ⟨i1, e1⟩ := List.getElem?_eq_some_iff.1 h1
  obtain ⟨i2, e2⟩ := List.getElem?_eq_some_iff.1 h2
  rw [List.drop_eq_getElem_cons i1, List.drop_eq_getElem_cons i2, e1, e2]; rfl

theorem take2_inv {α : Type} {l : List α} {k : Nat} {a b : α} (h : (l.drop k).take 2 = [a, b]) : l[k]? = some a ∧ l[k + 1]? = some b := by
  have h1 := congrArg (·[0]?) h
  have h2 := congrArg (·[1]?) h
  simp [List.getElem?_take] at h1 h2
  exact ⟨h1, h2⟩

/-- A flop's next written over. -/
theorem Bld.setF (B : Bld b h X T m nm ob cv fv iv ov) (w0 : WFH b) (hb : m.flops.length ≤ 4294967296) {i : Nat} (hi : i < m.flops.length) (y : Int) :
    aIndexAddr Tryz.prog 23 fv (.int .i64 i) = some (slF 2 fv i 0) ∧ aFieldAddr Tryz.prog 65 0 (slF 2 fv i 0) = some (slF 2 fv i 0) ∧
    ∃ h' ob', aStore Tryz.prog 3 (slF 2 fv i 0) (.int .i64 y) h = some h' ∧ Bld b h' X T { m with flops := m.flops.set i ⟨y, (m.flops.getD i default).init⟩ } nm ob' cv fv iv ov ∧ h'.next = h.next ∧ Sub (away nm ob X h) (away nm ob' X h') := by
  have hidx := ((B.f.sub (away_sub _ _ _ _)).row (B.own.get 1) hb).idx Tryz.underlying23 infF .i64 i (by omega) (by omega)
  rw [Int.toNat_natCast] at hidx
  obtain ⟨zs, ⟨hzl, hV⟩, hr⟩ := B.f
  rcases hV with ⟨e, _⟩ | ⟨e, _⟩ | ⟨rfl, e1⟩
  · omega
  · omega
  · have hg := B.own.get 1 _ e1
    obtain ⟨o2, s2⟩ := ownSet (X := X) (o' := .grow (zs.set (i * 2) (.int .i64 y)) 65) w0 B.own e1
    have hlt : i * 2 < zs.length := by rw [hzl]; show i * 2 < m.flops.length * 2; omega
    have hfl : m.flops[i]? = some (m.flops.getD i default) := by simp [List.getD_eq_getElem?_getD, hi]
    have hcell := hr i _ hfl
    change (zs.drop (i * 2)).take 2 = flopC (m.flops.getD i default) at hcell
    refine ⟨?_, ?_, h.set (nm 1) (.grow (zs.set (i * 2) (.int .i64 y)) 65), upd ob 1 (some (.grow (zs.set (i * 2) (.int .i64 y)) 65)), ?_, ⟨o2, B.t, ?_, ?_, ⟨zs.set (i * 2) (.int .i64 y), ⟨?_, .inr (.inr ⟨?_, ?_⟩)⟩, fun j x hx => ?_⟩, ?_, ?_⟩, by simp, s2⟩
    · exact hidx
    · exact faL foF0 _ _
    · obtain ⟨I, hI, hs⟩ := sz3
      simp [aStore, slF, hI, hs, hg, AObj.setCells, Value.cells, oneC, setL, show i * 2 + 1 ≤ zs.length by omega]
    · rw [upd_ne _ _ (by decide)]; exact B.at4
    · rw [upd_ne _ _ (by decide)]; exact B.c.sub s2
    · simpa using hzl
    · simp
    · rw [upd_same]
    · obtain ⟨g1, g2⟩ := take2_inv hcell
      show ((zs.set (i * 2) (.int .i64 y)).drop (j * 2)).take 2 = flopC x
      by_cases hj : j = i
      · subst hj
        rw [List.getElem?_set_self (by simpa using hi)] at hx
        cases hx
        exact take2 (by rw [List.getElem?_set_self hlt]) (by rw [List.getElem?_set_ne (by omega)]; exact g2)
      · rw [List.getElem?_set_ne (fun e => hj e.symm)] at hx
        obtain ⟨k1, k2⟩ := take2_inv (hr j x hx)
        exact take2 (by rw [List.getElem?_set_ne (by omega)]; exact k1) (by rw [List.getElem?_set_ne (by omega)]; exact k2)
    · rw [upd_ne _ _ (by decide)]; exact B.i.sub s2
    · rw [upd_ne _ _ (by decide)]; exact B.o
end

/-! ### Structs, built -/

theorem buildS {t : TypeId} {zs : List Value} {pl : List (Nat × Nat)} (hz : ∃ i, Tryz.prog.info? t = some i ∧ i.zero = some (.agg zs.toArray)) (hp : plain 9 (.agg zs.toArray) = true) (hs : ∃ fs, Tryz.prog.underlying t = some (.struct fs) ∧ sizesOf Tryz.prog fs.toList = some pl)
    (ps : List (Nat × Value)) : aBuild Tryz.prog t ps = (fillL (fun k => pl[k]?) zs ps).map fun c => .agg c.toArray := by
  obtain ⟨ib, hb1, hb2⟩ := hz
  obtain ⟨fs, hf1, hf2⟩ := hs
  have hcz : (Value.agg zs.toArray).cells = zs.toArray := rfl
  simp only [aBuild, hb1, hb2, hf1, hf2, hp, hcz]
  simp

theorem buildI {i : Int} {pv : Value} (hp : pv.cells.toList = [pv]) : aBuild Tryz.prog 36 [(0, .int .i64 i), (1, pv)] = some (.agg #[.int .i64 i, pv]) := by
  have hc : pv.cells.size = 1 := by
    have := congrArg List.length hp
    simpa using this
  have hc0 : (Value.int .i64 i).cells = #[.int .i64 i] := rfl
  rw [buildS (zs := [.int .i64 0, .slice none 0 0]) (pl := [(0, 1), (1, 1)]) ⟨(Tryz.prog.info? 36).get (by kernel_rfl), by kernel_rfl, by kernel_rfl⟩ rfl ⟨_, Tryz.underlying36, by kernel_rfl⟩]
  simp [fillL, hc0, hc, hp, setL]

def zeroC : List Value := [.slice none 0 0, .int .i64 0, .slice none 0 0, .slice none 0 0, .slice none 0 0]

theorem infN : ∃ i, Tryz.prog.info? 27 = some i ∧ i.zero = some (.agg zeroC.toArray) := ⟨(Tryz.prog.info? 27).get (by kernel_rfl), by kernel_rfl, by kernel_rfl⟩
theorem zrN : Zr Tryz.prog 27 zeroC := by
  obtain ⟨i, h1, h2⟩ := infN
  exact ⟨i, _, h1, h2, rfl, rfl, rfl⟩

theorem buildN0 : aBuild Tryz.prog 27 [] = some (.agg zeroC.toArray) := by
  rw [buildS (zs := zeroC) (pl := [(0, 1), (1, 1), (2, 1), (3, 1), (4, 1)]) infN rfl ⟨_, Tryz.underlying27, by kernel_rfl⟩]
  simp [fillL]

theorem buildN {i : Int} {fv ov : Value} (hf : fv.cells.toList = [fv]) (ho : ov.cells.toList = [ov]) : aBuild Tryz.prog 27 [(1, .int .i64 i), (2, fv), (4, ov)] = some (.agg #[.slice none 0 0, .int .i64 i, fv, .slice none 0 0, ov]) := by
  have hc : fv.cells.size = 1 := by
    have := congrArg List.length hf
    simpa using this
  have hc2 : ov.cells.size = 1 := by
    have := congrArg List.length ho
    simpa using this
  have hc0 : (Value.int .i64 i).cells = #[.int .i64 i] := rfl
  rw [buildS (zs := zeroC) (pl := [(0, 1), (1, 1), (2, 1), (3, 1), (4, 1)]) infN rfl ⟨_, Tryz.underlying27, by kernel_rfl⟩]
  simp [fillL, hc0, hc, hc2, hf, ho, setL, zeroC]

end Go.Ab.S1

namespace Go.Ab.S1
open Go.Proofs
set_option linter.unusedSimpArgs false
set_option linter.unusedVariables false
set_option maxRecDepth 100000
set_option maxHeartbeats 4000000
attribute [local push_cast] wpA_skip wpA_ret wpA_exit wpA_seq wpA_block wpA_cond2 andK_true wpA_region wpA_draw wpA_loop thenQ_normal thenQ_ret thenQ_exit blockQ_normal blockQ_ret blockQ_exit condV_true condV_false opsM_nil opsM_cons2 okM_true wantM_true wantM_false stepM seqM_cons2 seqM_nil2 okS_true wantS_true wantS_false stepS skipS okB Keeps_nil contK_app List.zip_cons_cons List.zip_nil_left List.zip_nil_right Op.operands Call.operands Array.toList_append List.append_nil List.nil_append List.all_cons List.all_nil cOK plain put_n put_tm put_none put_df ev_tmp ev_const ev_func wanted_none wanted_some callR_func dop ex_some1 aBuiltin aBin intBin aUn Option.map_some Bool.and_true Bool.true_and Bool.and_self List.map_cons List.map_nil List.toList_toArray List.getElem?_toArray List.getElem?_cons_zero List.getElem?_cons_succ Option.getD_some Option.getD_none Bool.false_eq_true eq_self_iff_true decide_true decide_false List.cons_append aExtract resL resV List.getD_cons_zero List.getD_cons_succ List.getD_nil Nat.succ_ne_self g1 g2 yieldedA2 isB_bool isB_undef g3 Option.bind_some Option.bind_none bne_self_eq_false beq_self_eq_true Bool.not_true Bool.not_false Int.toNat_natCast List.length_map List.mem_cons List.not_mem_nil or_false not_false_eq_true decide_not Bool.not_not bodyR_ret2 bodyR_normal2 closeMarks_nil ex_some0 Nat.zero_add Nat.add_zero ieq ine List.map_toArray Option.toArray_none Option.toArray_some oev Keeps_cons Still_eq selL wpX_skip wpX_ret wpX_exit wpX_seq wpX_block wpX_cond wpX_region wpX_draw wpX_loop List.take_succ_cons List.take_zero List.drop_succ_cons List.drop_zero Int.zero_add Int.add_zero aNil
attribute [local push_cast] treeM_nil treeM_step treeM_two okX_true wantX_true wantX_false stepX skipX

theorem agL0 : ∃ i, Tryz.prog.info? 38 = some i ∧ i.size = 1 := ⟨(Tryz.prog.info? 38).get (by kernel_rfl), by kernel_rfl, by kernel_rfl⟩

theorem Net.setCells {m : Net} (hm : m.cells = []) : { m with cells := [] } = m := by cases m; simp only at hm; rw [hm]
theorem Net.setInsts {m : Net} (hm : m.insts = []) : { m with insts := [] } = m := by cases m; simp only at hm; rw [hm]

theorem insCells {b h : AH} {X T : Nat} {n m : Net} {nm : Nat → Nat} {ob : Nat → Option AObj} {cv fv iv ov cv0 fv0 iv0 ov0 : Value} {a : AAct} (hn : a.n = 196) (hd : a.df = []) (hX : X < h.next) (w0 : WFH b) (r : NetR b n cv0 fv0 iv0 ov0)
    (hc : n.cells.length ≤ 4294967296) (hdl : ∀ c ∈ n.cells, c.delay.length ≤ 4294967296) (B : Bld b h X T m nm ob cv fv iv ov) (hm : m.cells = []) (h12 : a.tm 12 = .pointer (some ⟨T, 0, none⟩)) (h85 : a.tm 85 = cv0) (h86 : a.tm 86 = .int .i64 n.cells.length) (h87 : a.tm 87 = .int .i64 0) :
    AW Tryz.prog none (bodyBlk Tryz.f12 1) (fun e a' h' => e = .exit 1 ∧ a'.n = 196 ∧ a'.df = [] ∧ (∀ i, i < 87 → i ∉ [14] → a'.tm i = a.tm i) ∧ h.next ≤ h'.next ∧ ∃ nm' ob' cv', Bld b h' X T { m with cells := n.cells } nm' ob' cv' fv iv ov) a h := by
  refine AW.at (rfl : bodyBlk Tryz.f12 1 = .loop _) ?_
  refine AW.loopN 87 [14] (fun k a' h' => ∃ (i : Nat) (nm : Nat → Nat) (ob : Nat → Option AObj) (cv : Value), a'.tm 87 = .int .i64 i ∧ i + k = n.cells.length ∧ h.next ≤ h'.next ∧ Bld b h' X T { m with cells := n.cells.take i } nm ob cv fv iv ov) n.cells.length ?_ ?_
  · exact ⟨0, nm, ob, cv, by rw [h87]; rfl, by omega, Nat.le_refl _, by rw [List.take_zero, Net.setCells hm]; exact B⟩
  clear B nm ob cv
  rintro a1 k a' h' hk kn kd kt ⟨i, nm, ob, cv, h87', hik, hnx, B⟩
  simp (disch := first | omega | decide | (simp only [List.length_cons, List.length_nil] <;> omega)) only [push_cast, ↓reduceIte, Nat.reduceLT, Nat.reduceEqDiff, reduceCtorEq, Nat.reduceAdd, if_true, if_false, true_and, and_true, kn, kd, kt, hn, hd, h12, h85, h86, h87']
  refine condV_of (fun hlt => ?_) (fun hge => ?_)
  · have hi : i < n.cells.length := by have := hlt; simp at this; omega
    have hg := B.own.gr
    have hlo := B.lo
    obtain ⟨cs, ⟨dv, rfl, hdv⟩, hld, -, -⟩ := r.c.get hi default
    replace hld := aLoad_sub hg.sub (hld _ agC)
    have hcl := hdl _ (getD_mem hi default)
    have htake : n.cells.take (i + 1) = n.cells.take i ++ [n.cells.getD i default] := take_succ_getD hi default
    generalize n.cells.getD i default = c at *
    have hone : [Value.string c.name, .int .i64 c.pins, .int .u64 c.table, .int .i64 c.area, dv].all oneC = true := by simp only [List.all_cons, List.all_nil, hdv.one]; rfl
    have hst := fun (hh : AH) cs e hl => stN agC hh cs e [Value.string c.name, .int .i64 c.pins, .int .u64 c.table, .int .i64 c.area, dv] hl rfl hone
    have gI := (Gr.refl hg.wf).new (.row [Value.string c.name, .int .i64 c.pins, .int .u64 c.table, .int .i64 c.area, dv] 40 true)
    have hP : (h'.new (.row [Value.string c.name, .int .i64 c.pins, .int .u64 c.table, .int .i64 c.area, dv] 40 true)).get h'.next = some (.row [Value.string c.name, .int .i64 c.pins, .int .u64 c.table, .int .i64 c.area, dv] 40 true) := by rw [AH.new_get, if_pos rfl]
    have hdv2 := (hdv.sub hg.sub).sub gI.sub
    have hnew : (h'.new (.row [Value.string c.name, .int .i64 c.pins, .int .u64 c.table, .int .i64 c.area, dv] 40 true)).next = h'.next + 1 := rfl
    have hCs : CsAt (h'.new (.row [Value.string c.name, .int .i64 c.pins, .int .u64 c.table, .int .i64 c.area, dv] 40 true)) h'.next [Value.string c.name, .int .i64 c.pins, .int .u64 c.table, .int .i64 c.area, dv] := CsAt.new _ _ _ _
    simp (disch := first | omega | decide | (simp only [List.length_cons, List.length_nil] <;> omega)) only [push_cast, ↓reduceIte, Nat.reduceLT, Nat.reduceEqDiff, reduceCtorEq, Nat.reduceAdd, if_true, if_false, true_and, and_true, kn, kd, kt, hn, hd, h12, h85, h86, h87', r.c.idx Tryz.underlying22 infC, hld, alL zrC, hst, faL foC0, faL foC1, faL foC2, faL foC3, faL foC4, hCs.ld flL]
    generalize h'.new (.row [Value.string c.name, .int .i64 c.pins, .int .u64 c.table, .int .i64 c.area, dv] 40 true) = h2 at gI hP hdv2 hnew hCs ⊢
    refine ACall.mono ?_ (cloneL hdv2 hcl)
    rintro rv h3 ⟨g3, hs3, hf3⟩
    have hP3 := g3.sub _ _ hP
    have hlt3 := AH.get_lt g3.wf hP3
    have hrv1 : oneC rv = true ∧ rv.cells.toList = [rv] := by obtain ⟨p, l, c, rfl, _⟩ := hs3; exact ⟨rfl, rfl⟩
    have hst4 := stC agL0 hP3 4 rv (by simp) hrv1.2 hrv1.1
    have g4 := (gI.trans g3).set hg.wf (Nat.le_refl _) hlt3 (.row ([Value.string c.name, .int .i64 c.pins, .int .u64 c.table, .int .i64 c.area, dv].set 4 rv) 40 true)
    have hs4 : SlOf (h3.set h'.next (.row ([Value.string c.name, .int .i64 c.pins, .int .u64 c.table, .int .i64 c.area, dv].set 4 rv) 40 true)) rv (c.delay.map (.int .i64)) :=
      (SlOf_hide (K := fun C => C = h'.next) hs3 (fun C off l c' e hC => by have := hf3 C off l c' e; omega)).sub (fun C o hC => by
        obtain ⟨h1, h2⟩ := hide_get.1 hC
        rw [AH.set_get, if_neg h1]; exact h2)
    have hP4 : CsAt (h3.set h'.next (.row ([Value.string c.name, .int .i64 c.pins, .int .u64 c.table, .int .i64 c.area, dv].set 4 rv) 40 true)) h'.next [Value.string c.name, .int .i64 c.pins, .int .u64 c.table, .int .i64 c.area, rv] :=
      ⟨_, by rw [AH.set_get, if_pos rfl], rfl⟩
    simp (disch := first | omega | decide | (simp only [List.length_cons, List.length_nil] <;> omega)) only [push_cast, ↓reduceIte, Nat.reduceLT, Nat.reduceEqDiff, reduceCtorEq, Nat.reduceAdd, if_true, if_false, true_and, and_true, kn, kd, kt, hn, hd, h12, h85, h86, h87', faL foC0, faL foC1, faL foC2, faL foC3, faL foC4, hst4]
    generalize h3.set h'.next (.row ([Value.string c.name, .int .i64 c.pins, .int .u64 c.table, .int .i64 c.area, dv].set 4 rv) 40 true) = h4 at g4 hs4 hP4 ⊢
    have hrel : cellL.rel (away nm ob X h4) [Value.string c.name, .int .i64 c.pins, .int .u64 c.table, .int .i64 c.area, rv] c :=
      ⟨rv, rfl, awayFresh B.own (by omega) hs4 (fun C off l c' e => by have := hf3 C off l c' e; omega)⟩
    have B4 := B.grown g4
    have hM := B4.at
    obtain ⟨e1, v', h5, h6, e2, e3, nm', ob', B6, n6, -, -⟩ := B4.pushC w0 hrel (by simp; omega)
    have hw : IntKind.i64.wrap ((i : Int) + 1) = i + 1 := wrapI (by omega) (by omega)
    simp (disch := first | omega | decide | (simp only [List.length_cons, List.length_nil] <;> omega)) only [push_cast, ↓reduceIte, Nat.reduceLT, Nat.reduceEqDiff, reduceCtorEq, Nat.reduceAdd, if_true, if_false, true_and, and_true, kn, kd, kt, hn, hd, h12, h85, h86, h87', faL foN0, faL foN1, faL foN2, faL foN3, faL foN4, hM.l0, hM.l1, hM.l2, hM.l3, hM.l4, hM.la, hP4.la agC, e1, e2, e3, hw]
    refine ⟨k - 1, by omega, (by simp (disch := decide) only [Kp_put, put_none, hk]), i + 1, nm', ob', v', by simp (disch := first | omega | decide | (simp only [List.length_cons, List.length_nil] <;> omega)) only [push_cast, ↓reduceIte, Nat.reduceLT, Nat.reduceEqDiff, reduceCtorEq, Nat.reduceAdd, if_true, if_false, true_and, and_true], by omega, ?_, by rw [htake]; exact B6⟩
    have := g4.nx
    omega
  · have hi : i = n.cells.length := by have := hge; simp at this; omega
    subst hi
    rw [List.take_length] at B
    simp (disch := first | omega | decide | (simp only [List.length_cons, List.length_nil] <;> omega)) only [push_cast, ↓reduceIte, Nat.reduceLT, Nat.reduceEqDiff, reduceCtorEq, Nat.reduceAdd, if_true, if_false, true_and, and_true, kn, kd, kt, hn, hd, h12, h85, h86, h87']
    exact ⟨fun j h1 h2 => by rw [if_neg (by omega)]; exact kt j h1 (by simpa using h2), hnx, nm, ob, cv, B⟩

theorem insInsts {b h : AH} {X T B0 : Nat} {n m : Net} {nm : Nat → Nat} {ob : Nat → Option AObj} {cv fv iv ov cv0 fv0 iv0 ov0 : Value} {a : AAct} (hn : a.n = 196) (hd : a.df = []) (hX : X < h.next) (w0 : WFH b) (r : NetR b n cv0 fv0 iv0 ov0) (hN : NetAt b B0 n cv0 fv0 iv0 ov0)
    (hc : n.insts.length ≤ 4294967296) (hdl : ∀ x ∈ n.insts, x.pins.length ≤ 4294967296) (B : Bld b h X T m nm ob cv fv iv ov) (hm : m.insts = []) (h12 : a.tm 12 = .pointer (some ⟨T, 0, none⟩)) (h9 : a.tm 9 = .func (.func 35) #[] #[.pointer (some ⟨B0, 0, none⟩)])
    (h85 : a.tm 103 = iv0) (h86 : a.tm 104 = .int .i64 n.insts.length) (h87 : a.tm 105 = .int .i64 0) :
    AW Tryz.prog none (bodyBlk Tryz.f12 3) (fun e a' h' => e = .exit 3 ∧ a'.n = 196 ∧ a'.df = [] ∧ (∀ i, i < 105 → i ∉ [16] → a'.tm i = a.tm i) ∧ h.next ≤ h'.next ∧ ∃ nm' ob' iv', Bld b h' X T { m with insts := n.insts.map (instS n) } nm' ob' cv fv iv' ov) a h := by
  refine AW.at (rfl : bodyBlk Tryz.f12 3 = .loop _) ?_
  refine AW.loopN 105 [16] (fun k a' h' => ∃ (i : Nat) (nm : Nat → Nat) (ob : Nat → Option AObj) (iv : Value), a'.tm 105 = .int .i64 i ∧ i + k = n.insts.length ∧ h.next ≤ h'.next ∧ Bld b h' X T { m with insts := (n.insts.take i).map (instS n) } nm ob cv fv iv ov) n.insts.length ?_ ?_
  · exact ⟨0, nm, ob, iv, by rw [h87]; rfl, by omega, Nat.le_refl _, by rw [List.take_zero, List.map_nil, Net.setInsts hm]; exact B⟩
  clear B nm ob iv
  rintro a1 k a' h' hk kn kd kt ⟨i, nm, ob, iv, h87', hik, hnx, B⟩
  simp (disch := first | omega | decide | (simp only [List.length_cons, List.length_nil] <;> omega)) only [push_cast, ↓reduceIte, Nat.reduceLT, Nat.reduceEqDiff, reduceCtorEq, Nat.reduceAdd, if_true, if_false, true_and, and_true, kn, kd, kt, hn, hd, h12, h9, h85, h86, h87']
  refine condV_of (fun hlt => ?_) (fun hge => ?_)
  · have hi : i < n.insts.length := by have := hlt; simp at this; omega
    have hg := B.own.gr
    have hlo := B.lo
    obtain ⟨cs, ⟨pv, rfl, hpv⟩, hld, -, -⟩ := r.i.get hi default
    replace hld := aLoad_sub hg.sub (hld _ agI)
    have hpl := hdl _ (getD_mem hi default)
    have htake : (n.insts.take (i + 1)).map (instS n) = (n.insts.take i).map (instS n) ++ [instS n (n.insts.getD i default)] := by rw [take_succ_getD hi default, List.map_append]; rfl
    generalize n.insts.getD i default = x at *
    have hone : [Value.int .i64 x.cell, pv].all oneC = true := by simp only [List.all_cons, List.all_nil, hpv.one]; rfl
    have hst := fun (hh : AH) cs e hl => stN agI hh cs e [Value.int .i64 x.cell, pv] hl rfl hone
    have gI := (Gr.refl hg.wf).new (.row [Value.int .i64 x.cell, pv] 36 true)
    have hpv2 := (hpv.sub hg.sub).sub gI.sub
    have hN2 := (hN.sub hg.sub).sub gI.sub
    have hnew : (h'.new (.row [Value.int .i64 x.cell, pv] 36 true)).next = h'.next + 1 := rfl
    have hCs : CsAt (h'.new (.row [Value.int .i64 x.cell, pv] 36 true)) h'.next [Value.int .i64 x.cell, pv] := CsAt.new _ _ _ _
    have hKey : ∀ (rv : Value) (h3 : AH), (Gr (h'.new (.row [Value.int .i64 x.cell, pv] 36 true)) h3 ∧ ∃ ob A, IntsV h3 rv ob A (x.pins.map (shiftE n)) ∧ (∀ o, ob = some o → (h'.new (.row [Value.int .i64 x.cell, pv] 36 true)).next ≤ A)) →
        (rv.cells.toList = [rv] ∧ NetAt h3 T { m with insts := (n.insts.take i).map (instS n) } cv fv iv ov ∧ CsAt h3 h'.next [Value.int .i64 x.cell, pv] ∧ CsAt (h3.new (.row [Value.int .i64 x.cell, rv] 36 true)) h'.next [Value.int .i64 x.cell, pv]) ∧
        aBuildSlice Tryz.prog 24 1 [(0, .agg #[Value.int .i64 x.cell, rv])] h3 = some (.slice (some ⟨h3.next, 0, none⟩) 1 1, h3.new (.row [Value.int .i64 x.cell, rv] 36 true)) ∧
        ∃ v' h5 h6, aAppend Tryz.prog #[24, 24] iv (.slice (some ⟨h3.next, 0, none⟩) 1 1) (h3.new (.row [Value.int .i64 x.cell, rv] 36 true)) = some (v', h5) ∧ CsAt h5 h'.next [Value.int .i64 x.cell, pv] ∧
          aStore Tryz.prog 24 (.pointer (some ⟨T, 3, none⟩)) v' h5 = some h6 ∧ CsAt h6 h'.next [Value.int .i64 x.cell, pv] ∧ h.next ≤ h6.next ∧ ∃ nm' ob', Bld b h6 X T { m with insts := (n.insts.take (i + 1)).map (instS n) } nm' ob' cv fv v' ov := by
      rintro rv h3 ⟨g3, obr, Ar, hrv, hrlo⟩
      have B3 := B.grown (gI.trans g3)
      have hP3 := hCs.sub g3.sub
      have hfr := hrv.fresh hrlo
      have hrel : instL.rel (away nm ob X h3) [Value.int .i64 x.cell, rv] (instS n x) := ⟨rv, rfl, awayFresh B.own (by omega) hrv.sl (fun C off l c' e => by have := hfr C off l c' e; omega)⟩
      obtain ⟨e1, v', h5, h6, e2, e3, nm', ob', B6, n6, s5, s6⟩ := B3.pushI w0 hrel (by simp; omega)
      have hPw : CsAt (away nm ob X h3) h'.next [Value.int .i64 x.cell, pv] := by
        obtain ⟨o, h1, h2⟩ := hP3
        exact ⟨o, hide_get.2 ⟨by omega, hide_get.2 ⟨fun hC => by have := ownLt B.own hC; omega, h1⟩⟩, h2⟩
      have hrv1 : rv.cells.toList = [rv] := by obtain ⟨p, l, c, rfl, _⟩ := hrv.sl; rfl
      have := (gI.trans g3).nx
      exact ⟨⟨hrv1, B3.at, hP3, hP3.sub (Sub.new g3.wf _)⟩, e1, v', h5, h6, e2, hPw.sub s5, e3, hPw.sub s6, by omega, nm', ob', by rw [htake]; exact B6⟩
    have hM2 := B.at.sub gI.sub
    have hsh := shift hN2 hpv2 hpl
    have hw : IntKind.i64.wrap ((i : Int) + 1) = i + 1 := wrapI (by omega) (by omega)
    simp (disch := first | omega | decide | (simp only [List.length_cons, List.length_nil] <;> omega)) only [push_cast, ↓reduceIte, Nat.reduceLT, Nat.reduceEqDiff, reduceCtorEq, Nat.reduceAdd, if_true, if_false, true_and, and_true, kn, kd, kt, hn, hd, h12, h9, h85, h86, h87', r.i.idx Tryz.underlying24 infI, hld, alL zrI, hst]
    generalize h'.new (.row [Value.int .i64 x.cell, pv] 36 true) = h2 at gI hpv2 hnew hCs hN2 hM2 hsh hKey ⊢
    refine AW.drawX (.take 0 [12, 11, 10, 1] (.take 2 [12, 11, 10, 9, 8, 3] (.take 4 [12, 11, 10, 9, 8, 7] (.take 5 [12, 11, 10, 9, 8, 7, 6] (.take 6 [12, 11, 10, 9, 8, 7] (.watch 3 [12, 11, 10, 9, 8] (.two 1 (.only 7 (.take 8 [12, 11, 10, 9] (.only 9 (.only 10 (.take 11 [12] (.only 12 .done)))))) 7 (.take 1 [12, 11, 10] (.take 8 [12, 11, 10, 9] (.only 9 (.only 10 (.take 11 [12] (.only 12 .done))))))))))))) (.step 0 0 (.step 0 2 (.step 0 4 (.step 0 5 (.step 0 6 (.step 1 3 (.two 1 (.step 2 7 (.step 0 8 (.step 2 9 (.step 2 10 (.step 0 11 (.step 2 12 .nil)))))) 7 (.step 0 1 (.step 0 8 (.step 2 9 (.step 2 10 (.step 0 11 (.step 2 12 .nil))))))))))))) mixed (by kernel_rfl) rfl ?_
    simp (disch := first | omega | decide | (simp only [List.length_cons, List.length_nil] <;> omega)) only [push_cast, ↓reduceIte, Nat.reduceLT, Nat.reduceEqDiff, reduceCtorEq, Nat.reduceAdd, if_true, if_false, true_and, and_true, kn, kd, kt, hn, hd, h12, h9, h85, h86, h87', faL foN0, faL foN1, faL foN2, faL foN3, faL foN4, faL foI0, faL foI1, hM2.l0, hM2.l1, hM2.l2, hM2.l3, hM2.l4, hM2.la, hCs.ld fl3, hCs.ld flI]
    refine ⟨?_, ?_⟩
    · refine ACall.mono ?_ hsh
      intro rv h3 hpost
      obtain ⟨⟨k1, k2, k3, k4⟩, e1, v', h5, h6, e2, k5, e3, k6, n6, nm', ob', B6⟩ := hKey rv h3 hpost
      simp (disch := first | omega | decide | (simp only [List.length_cons, List.length_nil] <;> omega)) only [push_cast, ↓reduceIte, Nat.reduceLT, Nat.reduceEqDiff, reduceCtorEq, Nat.reduceAdd, if_true, if_false, true_and, and_true, kn, kd, kt, hn, hd, h12, h9, h85, h86, h87', faL foN0, faL foN1, faL foN2, faL foN3, faL foN4, faL foI0, faL foI1, k2.l0, k2.l1, k2.l2, k2.l3, k2.l4, k2.la, k3.ld fl3, k4.ld fl3, k5.ld fl3, k6.ld fl3, buildI k1, e1, e2, e3, hw]
      exact ⟨k - 1, by omega, (by simp (disch := decide) only [Kp_put, put_none, hk]), i + 1, nm', ob', v', by simp (disch := first | omega | decide | (simp only [List.length_cons, List.length_nil] <;> omega)) only [push_cast, ↓reduceIte, Nat.reduceLT, Nat.reduceEqDiff, reduceCtorEq, Nat.reduceAdd, if_true, if_false, true_and, and_true], by omega, n6, B6⟩
    · refine ACall.mono ?_ hsh
      intro rv h3 hpost
      obtain ⟨⟨k1, k2, k3, k4⟩, e1, v', h5, h6, e2, k5, e3, k6, n6, nm', ob', B6⟩ := hKey rv h3 hpost
      simp (disch := first | omega | decide | (simp only [List.length_cons, List.length_nil] <;> omega)) only [push_cast, ↓reduceIte, Nat.reduceLT, Nat.reduceEqDiff, reduceCtorEq, Nat.reduceAdd, if_true, if_false, true_and, and_true, kn, kd, kt, hn, hd, h12, h9, h85, h86, h87', faL foN0, faL foN1, faL foN2, faL foN3, faL foN4, faL foI0, faL foI1, k2.l0, k2.l1, k2.l2, k2.l3, k2.l4, k2.la, k3.ld fl3, k4.ld fl3, k5.ld fl3, k6.ld fl3, buildI k1, e1, e2, e3, hw]
      exact ⟨k - 1, by omega, (by simp (disch := decide) only [Kp_put, put_none, hk]), i + 1, nm', ob', v', by simp (disch := first | omega | decide | (simp only [List.length_cons, List.length_nil] <;> omega)) only [push_cast, ↓reduceIte, Nat.reduceLT, Nat.reduceEqDiff, reduceCtorEq, Nat.reduceAdd, if_true, if_false, true_and, and_true], by omega, n6, B6⟩
  · have hi : i = n.insts.length := by have := hge; simp at this; omega
    subst hi
    rw [List.take_length] at B
    simp (disch := first | omega | decide | (simp only [List.length_cons, List.length_nil] <;> omega)) only [push_cast, ↓reduceIte, Nat.reduceLT, Nat.reduceEqDiff, reduceCtorEq, Nat.reduceAdd, if_true, if_false, true_and, and_true, kn, kd, kt, hn, hd, h12, h9, h85, h86, h87']
    exact ⟨fun j h1 h2 => by rw [if_neg (by omega)]; exact kt j h1 (by simpa using h2), hnx, nm, ob, iv, B⟩

end Go.Ab.S1

namespace Go.Ab.S1
open Go.Proofs
set_option linter.unusedSimpArgs false
set_option linter.unusedVariables false
set_option maxRecDepth 100000
set_option maxHeartbeats 4000000
attribute [local push_cast] wpA_skip wpA_ret wpA_exit wpA_seq wpA_block wpA_cond2 andK_true wpA_region wpA_draw wpA_loop thenQ_normal thenQ_ret thenQ_exit blockQ_normal blockQ_ret blockQ_exit condV_true condV_false opsM_nil opsM_cons2 okM_true wantM_true wantM_false stepM seqM_cons2 seqM_nil2 okS_true wantS_true wantS_false stepS skipS okB Keeps_nil contK_app List.zip_cons_cons List.zip_nil_left List.zip_nil_right Op.operands Call.operands Array.toList_append List.append_nil List.nil_append List.all_cons List.all_nil cOK plain put_n put_tm put_none put_df ev_tmp ev_const ev_func wanted_none wanted_some callR_func dop ex_some1 aBuiltin aBin intBin aUn Option.map_some Bool.and_true Bool.true_and Bool.and_self List.map_cons List.map_nil List.toList_toArray List.getElem?_toArray List.getElem?_cons_zero List.getElem?_cons_succ Option.getD_some Option.getD_none Bool.false_eq_true eq_self_iff_true decide_true decide_false List.cons_append aExtract resL resV List.getD_cons_zero List.getD_cons_succ List.getD_nil Nat.succ_ne_self g1 g2 yieldedA2 isB_bool isB_undef g3 Option.bind_some Option.bind_none bne_self_eq_false beq_self_eq_true Bool.not_true Bool.not_false Int.toNat_natCast List.length_map List.mem_cons List.not_mem_nil or_false not_false_eq_true decide_not Bool.not_not bodyR_ret2 bodyR_normal2 closeMarks_nil ex_some0 Nat.zero_add Nat.add_zero ieq ine List.map_toArray Option.toArray_none Option.toArray_some oev Keeps_cons Still_eq selL wpX_skip wpX_ret wpX_exit wpX_seq wpX_block wpX_cond wpX_region wpX_draw wpX_loop List.take_succ_cons List.take_zero List.drop_succ_cons List.drop_zero Int.zero_add Int.add_zero aNil

theorem aBuild2 (h : AH) (x y : Int) : aBuildSlice Tryz.prog 25 2 [(0, .int .i64 x), (1, .int .i64 y)] h = some (.slice (some ⟨h.next, 0, none⟩) 2 2, h.new (.row [.int .i64 x, .int .i64 y] 3 true)) := by
  obtain ⟨i, hi, h1, hb, hz⟩ := t22.info
  have hp : plain 9 (.int .i64 0) = true := rfl
  have hc : (Value.int .i64 0).cells.size = 1 := rfl
  have hl : (Value.int .i64 0).cells.toList = [.int .i64 0] := rfl
  have hx1 : ∀ z : Int, (Value.int .i64 z).cells.size = 1 := fun _ => rfl
  have hx2 : ∀ z : Int, (Value.int .i64 z).cells.toList = [.int .i64 z] := fun _ => rfl
  simp only [aBuildSlice, t22.sl, hi, hz, h1, hp, hc, fillL, hl, zeros_one]
  simp [SL, hx1, hx2, setL, oneC, List.replicate]

theorem FrSl.far {e : TypeId} {h0 h : AH} {v : Value} {vs : List Value} (hf : FrSl e h0 h v vs) : ∀ C off l c, v = .slice (some ⟨C, off, none⟩) l c → h0.next ≤ C := by
  intro C off l c e1
  obtain ⟨B, ⟨_, rfl⟩ | ⟨hne, rfl, _⟩, h2⟩ := hf
  · cases e1
  · cases e1; exact h2 hne

theorem insPins {h : AH} {pv nv : Value} {ps ns : List Int} {a : AAct} (hw0 : WFH h) (hn : a.n = 196) (hd : a.df = []) (hp : SlOf h pv (ps.map (.int .i64))) (hns : SlOf h nv (ns.map (.int .i64))) (hps : ∀ z ∈ ps, 0 ≤ z ∧ z < ns.length) (hpl : ps.length ≤ 8) (hnl : ns.length ≤ 8)
    (h144 : a.tm 144 = pv) (h145 : a.tm 145 = .int .i64 ps.length) (h146 : a.tm 146 = .int .i64 0) (h19 : a.tm 19 = nv) (h20 : a.tm 20 = .slice none 0 0) :
    AW Tryz.prog none (bodyBlk Tryz.f12 7) (fun e a' h' => e = .exit 7 ∧ a'.n = 196 ∧ a'.df = [] ∧ (∀ i, i < 146 → i ∉ [20, 22] → a'.tm i = a.tm i) ∧ Gr h h' ∧ FrSl 3 h h' (a'.tm 20) ((ps.map fun k => ns.getD k.toNat 0).map (.int .i64))) a h := by
  refine AW.at (rfl : bodyBlk Tryz.f12 7 = .loop _) ?_
  refine AW.loopN 146 [20, 22] (fun k a' h' => ∃ (i : Nat) (rv : Value), a'.tm 146 = .int .i64 i ∧ a'.tm 20 = rv ∧ i + k = ps.length ∧ Gr h h' ∧ FrSl 3 h h' rv (((ps.take i).map fun k => ns.getD k.toNat 0).map (.int .i64))) ps.length ?_ ?_
  · exact ⟨0, _, by rw [h146]; rfl, h20, by omega, Gr.refl hw0, FrSl.nil _ _ _⟩
  rintro a1 k a' h' hk kn kd kt ⟨i, rv, h146', h20', hik, hg, hf⟩
  simp (disch := first | omega | decide | (simp only [List.length_cons, List.length_nil] <;> omega)) only [push_cast, ↓reduceIte, Nat.reduceLT, Nat.reduceEqDiff, reduceCtorEq, Nat.reduceAdd, if_true, if_false, true_and, and_true, kn, kd, kt, hn, hd, h144, h145, h146', h19, h20']
  refine condV_of (fun hlt => ?_) (fun hge => ?_)
  · have hi : i < ps.length := by have := hlt; simp at this; omega
    have hz := hps _ (getD_mem hi 0)
    have hidx := (hp.sub hg.sub).idxI sl22 .i64 i (by omega) (by omega)
    have hld := (hp.sub hg.sub).ldI sl22 i (by omega)
    rw [Int.toNat_natCast] at hidx
    have htake : (ps.take (i + 1)).map (fun k => ns.getD k.toNat 0) = (ps.take i).map (fun k => ns.getD k.toNat 0) ++ [ns.getD (ps.getD i 0).toNat 0] := by rw [take_succ_getD hi 0, List.map_append]; rfl
    generalize ps.getD i 0 = z at *
    have hidx2 := (hns.sub hg.sub).idxI sl22 .i64 z (by omega) (by omega)
    have hld2 := (hns.sub hg.sub).ldI sl22 z.toNat (by omega)
    have happ := app1 t22 (t := 25) hg hf (by simp; omega) (by simp; omega) (.int .i64 (ns.getD z.toNat 0))
    have hw : IntKind.i64.wrap ((i : Int) + 1) = i + 1 := wrapI (by omega) (by omega)
    simp (disch := first | omega | decide | (simp only [List.length_cons, List.length_nil] <;> omega)) only [push_cast, ↓reduceIte, Nat.reduceLT, Nat.reduceEqDiff, reduceCtorEq, Nat.reduceAdd, if_true, if_false, true_and, and_true, kn, kd, kt, hn, hd, h144, h145, h146', h19, h20', hidx, hld, hidx2, hld2, aBuild1 t22 h' (x := .int .i64 (ns.getD z.toNat 0)) rfl rfl, happ, hw]
    refine ⟨k - 1, by omega, (by simp (disch := decide) only [Kp_put, put_none, hk]), i + 1, app1V h' (ps.take i).length, by simp (disch := first | omega | decide | (simp only [List.length_cons, List.length_nil] <;> omega)) only [push_cast, ↓reduceIte, Nat.reduceLT, Nat.reduceEqDiff, reduceCtorEq, Nat.reduceAdd, if_true, if_false, true_and, and_true], by simp (disch := first | omega | decide | (simp only [List.length_cons, List.length_nil] <;> omega)) only [push_cast, ↓reduceIte, Nat.reduceLT, Nat.reduceEqDiff, reduceCtorEq, Nat.reduceAdd, if_true, if_false, true_and, and_true], by omega, app1_gr hw0 hg hf, ?_⟩
    rw [htake, List.map_append]
    have := app1_fr (e := 3) (x := .int .i64 (ns.getD z.toNat 0)) (v := rv) hg (vs := ((ps.take i).map fun k => ns.getD k.toNat 0).map (.int .i64))
    simpa using this
  · have hi : i = ps.length := by have := hge; simp at this; omega
    subst hi
    rw [List.take_length] at hf
    simp (disch := first | omega | decide | (simp only [List.length_cons, List.length_nil] <;> omega)) only [push_cast, ↓reduceIte, Nat.reduceLT, Nat.reduceEqDiff, reduceCtorEq, Nat.reduceAdd, if_true, if_false, true_and, and_true, kn, kd, kt, hn, hd, h144, h145, h146', h19, h20']
    exact ⟨fun j h1 h2 => by rw [if_neg (by omega)]; exact kt j h1 (by simpa using h2), hg, hf⟩

theorem AW.keep {P : Program} {rd : Option Nat} {c : Code} {Q : Exit → AAct → AH → Prop} {a0 a : AAct} {h : AH} (lo : Nat) (X : List Nat) (hk : Kp lo X a0 a) (F : Kp lo X a0 a → AW P rd c Q a h) : AW P rd c Q a h := F hk

/-! ### What the steps keep -/

theorem insStep_flops (n : Net) (s : Int × Net) (i : Int) : (insStep n s i).2.flops.length = s.2.flops.length := by simp [insStep]
theorem insGo_keep (n : Net) : ∀ (ord : List Int) (s : Int × Net), (ord.foldl (insStep n) s).2.flops.length = s.2.flops.length ∧ (ord.foldl (insStep n) s).2.insts.length = s.2.insts.length + ord.length ∧ (ord.foldl (insStep n) s).2.inputs = s.2.inputs ∧ (ord.foldl (insStep n) s).2.cells = s.2.cells ∧ (ord.foldl (insStep n) s).2.outs = s.2.outs := by
  intro ord
  induction ord with
  | nil => intro s; simp
  | cons i is ih =>
    intro s
    obtain ⟨h1, h2, h3, h4, h5⟩ := ih (insStep n s i)
    rw [List.foldl_cons]
    refine ⟨by rw [h1, insStep_flops], by rw [h2]; simp [insStep]; omega, h3, h4, h5⟩

theorem insGo_before (n : Net) : ∀ (ord : List Int) (s : Int × Net), (∀ z ∈ ord, 0 ≤ z ∧ z < n.flops.length) → 0 ≤ n.inputs ∧ n.inputs ≤ 64 → n.flops.length ≤ 64 → (0 ≤ s.1 ∧ s.1 ≤ 256) → 0 ≤ (ord.foldl (insStep n) s).1 ∧ (ord.foldl (insStep n) s).1 ≤ 256 := by
  intro ord
  induction ord with
  | nil => intro s _ _ _ h; exact h
  | cons i is ih =>
    intro s hz h1 h2 h3
    rw [List.foldl_cons]
    have := hz i (List.mem_cons_self ..)
    exact ih _ (fun z hm => hz z (List.mem_cons_of_mem _ hm)) h1 h2 ⟨by simp only [insStep]; omega, by simp only [insStep]; omega⟩

theorem flB3 : Fl Tryz.prog 3 := fl3
theorem infB : ∃ i, Tryz.prog.info? 81 = some i ∧ i.size = instL.sz := ⟨(Tryz.prog.info? 81).get (by kernel_rfl), by kernel_rfl, by kernel_rfl⟩

def bindI (x : Int × List Int) : Inst := ⟨x.1, x.2⟩

theorem BindV.row {h : AH} {v : Value} {ob : Option AObj} {A : Nat} {bs : List (Int × List Int)} (hb : BindV h v ob A bs) (hl : bs.length ≤ 4294967296) : RowOf instL h v (bs.map bindI) := by
  obtain ⟨zs, h1, h2, h3⟩ := hb
  refine VecM.row (L := instL) (xs := bs.map bindI) (by rw [List.length_map]; exact h1) h2 (by simpa using hl) (fun i x hx => ?_)
  rw [List.getElem?_map, Option.map_eq_some_iff] at hx
  obtain ⟨y, hy, rfl⟩ := hx
  obtain ⟨pv, e, hs⟩ := h3 i y hy
  exact ⟨pv, e, hs⟩

set_option maxHeartbeats 8000000 in
theorem insOrd {b h : AH} {X T B0 : Nat} {n m : Net} {nm : Nat → Nat} {ob : Nat → Option AObj} {cv fv iv ov cv0 fv0 iv0 ov0 mv v : Value} {ord : List Int} {bs : List Inst} {a : AAct} (hn : a.n = 196) (hd : a.df = []) (hX : X < h.next) (w0 : WFH b) (r : NetR b n cv0 fv0 iv0 ov0) (hN : NetAt b B0 n cv0 fv0 iv0 ov0)
    (hv : SlOf b v (ord.map (.int .i64))) (hol : ord.length ≤ 64) (hord : ∀ z ∈ ord, 0 ≤ z ∧ z < n.flops.length) (hi0 : 0 ≤ n.inputs ∧ n.inputs ≤ 64) (hfl : n.flops.length ≤ 64) (hmf : m.flops.length = n.flops.length) (hml : m.insts.length ≤ 4096) (hmi : m.inputs = n.inputs + 2)
    (hmv : RowOf instL b mv bs) (hbs : bs ≠ []) (hpk : bs.getD 0 default = bindI (pick3 n)) (hpl : (pick3 n).2.length = 3) (hpz : ∀ z ∈ (pick3 n).2, 0 ≤ z ∧ z < 3)
    (B : Bld b h X T m nm ob cv fv iv ov) (h2 : a.tm 2 = .pointer (some ⟨B0, 0, none⟩)) (h7 : a.tm 7 = mv) (h12 : a.tm 12 = .pointer (some ⟨T, 0, none⟩)) (h9 : a.tm 9 = .func (.func 35) #[] #[.pointer (some ⟨B0, 0, none⟩)])
    (h10 : a.tm 10 = .int .i64 n.inputs) (h11 : a.tm 11 = .int .i64 (n.inputs + 1)) (h122 : a.tm 122 = v) (h123 : a.tm 123 = .int .i64 ord.length) (h124 : a.tm 124 = .int .i64 0) :
    AW Tryz.prog none (bodyBlk Tryz.f12 5) (fun e a' h' => e = .exit 5 ∧ a'.n = 196 ∧ a'.df = [] ∧ (∀ i, i < 124 → i ∉ [11, 18, 19, 20, 22] → a'.tm i = a.tm i) ∧ h.next ≤ h'.next ∧ a'.tm 11 = .int .i64 (ord.foldl (insStep n) (n.inputs + 1, m)).1 ∧
      ∃ nm' ob' fv' iv', Bld b h' X T (ord.foldl (insStep n) (n.inputs + 1, m)).2 nm' ob' cv fv' iv' ov) a h := by
  refine AW.at (rfl : bodyBlk Tryz.f12 5 = .loop _) ?_
  refine AW.loopN 124 [11, 18, 19, 20, 22] (fun k a' h' => ∃ (i : Nat) (nm : Nat → Nat) (ob : Nat → Option AObj) (fv iv : Value) (bf : Int), a'.tm 124 = .int .i64 i ∧ i + k = ord.length ∧ h.next ≤ h'.next ∧ a'.tm 11 = .int .i64 bf ∧ bf = ((ord.take i).foldl (insStep n) (n.inputs + 1, m)).1 ∧
      Bld b h' X T ((ord.take i).foldl (insStep n) (n.inputs + 1, m)).2 nm ob cv fv iv ov) ord.length ?_ ?_
  · exact ⟨0, nm, ob, fv, iv, _, by rw [h124]; rfl, by omega, Nat.le_refl _, h11, rfl, B⟩
  clear B nm ob fv iv
  rintro a1 k a' h' hk kn kd kt ⟨i, nm, ob, fv, iv, bf, h124', hik, hnx, h11', hbf, B⟩
  simp (disch := first | omega | decide | (simp only [List.length_cons, List.length_nil] <;> omega)) only [push_cast, ↓reduceIte, Nat.reduceLT, Nat.reduceEqDiff, reduceCtorEq, Nat.reduceAdd, if_true, if_false, true_and, and_true, kn, kd, kt, hn, hd, h2, h7, h9, h10, h12, h122, h123, h124', h11']
  refine condV_of (fun hlt => ?_) (fun hge => ?_)
  · have hi : i < ord.length := by have := hlt; simp at this; omega
    have hg := B.own.gr
    have hlo := B.lo
    obtain ⟨q1, q2, q3, q4, q5⟩ := insGo_keep n (ord.take i) (n.inputs + 1, m)
    have qb := insGo_before n (ord.take i) (n.inputs + 1, m) (fun z hz => hord z (List.mem_of_mem_take hz)) hi0 hfl ⟨by simp only; omega, by simp only; omega⟩
    rw [← hbf] at qb
    have hz := hord _ (getD_mem hi 0)
    have hfold : (ord.take (i + 1)).foldl (insStep n) (n.inputs + 1, m) = insStep n ((ord.take i).foldl (insStep n) (n.inputs + 1, m)) (ord.getD i 0) := by rw [take_succ_getD hi 0, List.foldl_append]; rfl
    have hidx := (hv.sub hg.sub).idxI sl22 .i64 i (by omega) (by omega)
    have hld := (hv.sub hg.sub).ldI sl22 i (by omega)
    rw [Int.toNat_natCast] at hidx
    generalize ord.getD i 0 = z at *
    have htl : (ord.take i).length = i := by rw [List.length_take]; omega
    rw [htl] at q2
    generalize hs : (ord.take i).foldl (insStep n) (n.inputs + 1, m) = s at *
    have hN1 := hN.sub hg.sub
    have hzl : z.toNat < n.flops.length := by omega
    obtain ⟨csf, hcsf, -, hff, hfa⟩ := r.f.get (P := Tryz.prog) hzl default
    have hcsf : csf = _ := hcsf
    subst hcsf
    have hff := aLoad_sub hg.sub (hff 0 _ fl3 (by decide))
    have g1 := (Gr.refl hg.wf).new (.row [.int .i64 (n.flops.getD z.toNat default).next] 3 true)
    have hsl1 : SlOf (h'.new (.row [.int .i64 (n.flops.getD z.toNat default).next] 3 true)) (.slice (some ⟨h'.next, 0, none⟩) 1 1) ([(n.flops.getD z.toNat default).next].map (.int .i64)) :=
      SlOf.lit (by rw [AH.new_get, if_pos rfl]) rfl rfl
    have hsh := shift (hN1.sub g1.sub) hsl1 (by simp)
    have hmv0 : 0 < bs.length := List.length_pos_iff.2 hbs
    have hbi : aIndexAddr Tryz.prog 75 mv (.int .i64 0) = some (slF instL.sz mv 0 0) := hmv.idx Tryz.underlying75 infB .i64 0 (by omega) (by omega)
    obtain ⟨bcs, ⟨pv, rfl, hpv⟩, -, hbl, hba⟩ := hmv.get (P := Tryz.prog) hmv0 default
    rw [hpk] at hbl hpv
    have hbl0 : aLoad Tryz.prog 3 (slF instL.sz mv 0 0) b = some (.int .i64 (pick3 n).1) := hbl 0 _ fl3 (by decide)
    have hbl1 : aLoad Tryz.prog 25 (slF instL.sz mv 0 1) b = some pv := hbl 1 _ flI (by decide)
    have hpv : SlOf b pv ((pick3 n).2.map (.int .i64)) := hpv
    have hba0 := hba _ _ _ foB0
    have hba1 := hba _ _ _ foB1
    simp (disch := first | omega | decide | (simp only [List.length_cons, List.length_nil] <;> omega)) only [push_cast, ↓reduceIte, Nat.reduceLT, Nat.reduceEqDiff, reduceCtorEq, Nat.reduceAdd, if_true, if_false, true_and, and_true, kn, kd, kt, hn, hd, h2, h7, h9, h10, h12, h122, h123, h124', h11', hidx, hld, faL foN0, faL foN1, faL foN2, faL foN3, faL foN4, hN1.l0, hN1.l1, hN1.l2, hN1.l3, hN1.l4, hN1.la, r.f.idx Tryz.underlying23 infF, hfa _ _ _ foF0, hff, aBuild1 t22 h' (x := .int .i64 (n.flops.getD z.toNat default).next) rfl rfl]
    have hnew : (h'.new (.row [.int .i64 (n.flops.getD z.toNat default).next] 3 true)).next = h'.next + 1 := rfl
    generalize h'.new (.row [.int .i64 (n.flops.getD z.toNat default).next] 3 true) = h1 at g1 hsh hnew ⊢
    refine ACall.mono ?_ hsh
    rintro sv k2 ⟨g2, obs, As, hsv, hslo⟩
    have g12 := g1.trans g2
    have g3 := (Gr.refl g2.wf).new (.row [.int .i64 bf, .int .i64 n.inputs] 3 true)
    have hsrc : srcCells 1 (.slice (some ⟨k2.next, 0, none⟩) 2 2) (k2.new (.row [.int .i64 bf, .int .i64 n.inputs] 3 true)) = some (2, [.int .i64 bf, .int .i64 n.inputs]) := by simp [srcCells, AH.new_get, AObj.cells?]
    obtain ⟨nv, k3, happ, hup⟩ := appendVs (t := 25) (t2 := 25) (ys := [.int .i64 bf, .int .i64 n.inputs]) t22 ⟨_, Tryz.underlying25⟩ g3.wf hsv.1 (fun o e => g3.sub _ _ (hsv.2 o e)) hsrc (by simp) rfl (by simp) (by simp)
    obtain ⟨An, on, hVn, hgn, hAn⟩ := hup.up
    have hNs : SlOf k3 nv (([shiftE n (n.flops.getD z.toNat default).next, bf, n.inputs]).map (.int .i64)) := by simpa using hVn.sl (fun o e => by cases e; exact hgn)
    have hg3 : Gr h' k3 := ⟨hup.wf, fun C o hC => hup.frx C o ((g12.sub.trans g3.sub) C o hC) (fun e => by
      cases hob : obs with
      | none => rfl
      | some o2 => have h8 := hslo o2 hob; have h9 := AH.get_lt hg.wf hC; omega), Nat.le_trans g12.nx (Nat.le_trans g3.nx hup.nx)⟩
    simp (disch := first | omega | decide | (simp only [List.length_cons, List.length_nil] <;> omega)) only [push_cast, ↓reduceIte, Nat.reduceLT, Nat.reduceEqDiff, reduceCtorEq, Nat.reduceAdd, if_true, if_false, true_and, and_true, kn, kd, kt, hn, hd, h2, h7, h9, h10, h12, h122, h123, h124', h11', aBuild2, happ, hbi, hba1, aLoad_sub (hg.sub.trans hg3.sub) hbl1, hpv.lenA Tryz.underlying25]
    refine AW.keep 124 [11, 18, 19, 20, 22] (a0 := a1) (by simp (disch := decide) only [Kp_put, put_none, hk]) (fun hkc => ?_)
    refine AW.mono ?_ (insPins (pv := pv) (nv := nv) (ps := (pick3 n).2) (ns := [shiftE n (n.flops.getD z.toNat default).next, bf, n.inputs]) hup.wf (by simp (disch := first | omega | decide | (simp only [List.length_cons, List.length_nil] <;> omega)) only [push_cast, ↓reduceIte, Nat.reduceLT, Nat.reduceEqDiff, reduceCtorEq, Nat.reduceAdd, if_true, if_false, true_and, and_true, kn, hn]) (by simp (disch := first | omega | decide | (simp only [List.length_cons, List.length_nil] <;> omega)) only [push_cast, ↓reduceIte, Nat.reduceLT, Nat.reduceEqDiff, reduceCtorEq, Nat.reduceAdd, if_true, if_false, true_and, and_true, kd, hd]) (hpv.sub (hg.sub.trans hg3.sub)) hNs (by simpa using hpz) (by omega) (by simp) (by simp (disch := first | omega | decide | (simp only [List.length_cons, List.length_nil] <;> omega)) only [push_cast, ↓reduceIte, Nat.reduceLT, Nat.reduceEqDiff, reduceCtorEq, Nat.reduceAdd, if_true, if_false, true_and, and_true]) (by simp (disch := first | omega | decide | (simp only [List.length_cons, List.length_nil] <;> omega)) only [push_cast, ↓reduceIte, Nat.reduceLT, Nat.reduceEqDiff, reduceCtorEq, Nat.reduceAdd, if_true, if_false, true_and, and_true]) (by simp (disch := first | omega | decide | (simp only [List.length_cons, List.length_nil] <;> omega)) only [push_cast, ↓reduceIte, Nat.reduceLT, Nat.reduceEqDiff, reduceCtorEq, Nat.reduceAdd, if_true, if_false, true_and, and_true]) (by simp (disch := first | omega | decide | (simp only [List.length_cons, List.length_nil] <;> omega)) only [push_cast, ↓reduceIte, Nat.reduceLT, Nat.reduceEqDiff, reduceCtorEq, Nat.reduceAdd, if_true, if_false, true_and, and_true]) (by simp (disch := first | omega | decide | (simp only [List.length_cons, List.length_nil] <;> omega)) only [push_cast, ↓reduceIte, Nat.reduceLT, Nat.reduceEqDiff, reduceCtorEq, Nat.reduceAdd, if_true, if_false, true_and, and_true]))
    rintro _ a4 k4 ⟨rfl, hn4, hd4, ht4, g4, hf4⟩
    have hk : Kp 124 [11, 18, 19, 20, 22] a1 a4 := Kp.trans hkc ⟨by rw [hn4]; simp (disch := first | omega | decide | (simp only [List.length_cons, List.length_nil] <;> omega)) only [push_cast, ↓reduceIte, Nat.reduceLT, Nat.reduceEqDiff, reduceCtorEq, Nat.reduceAdd, if_true, if_false, true_and, and_true, kn, hn], by rw [hd4]; simp (disch := first | omega | decide | (simp only [List.length_cons, List.length_nil] <;> omega)) only [push_cast, ↓reduceIte, Nat.reduceLT, Nat.reduceEqDiff, reduceCtorEq, Nat.reduceAdd, if_true, if_false, true_and, and_true, kd, hd], ht4⟩ (by decide) (by decide)
    have hg4 := hg3.trans g4
    have B4 := B.grown hg4
    have q3' : s.2.inputs = n.inputs + 2 := by rw [q3]; exact hmi
    have q1' : s.2.flops.length = n.flops.length := q1.trans hmf
    have q2' : s.2.insts.length ≤ 4096 + i := by rw [q2]; simp only; omega
    have hzt : ((z.toNat : Nat) : Int) = z := Int.toNat_of_nonneg hz.1
    have hw1 : IntKind.i64.wrap (n.inputs + 2 + s.2.flops.length) = n.inputs + 2 + s.2.flops.length := wrapI (by omega) (by omega)
    have hw2 : IntKind.i64.wrap (n.inputs + 2 + s.2.flops.length + s.2.insts.length) = n.inputs + 2 + s.2.flops.length + s.2.insts.length := wrapI (by omega) (by omega)
    have hw3 : IntKind.i64.wrap (n.inputs + 2 + z) = n.inputs + 2 + z := wrapI (by omega) (by omega)
    have hw4 : IntKind.i64.wrap ((i : Int) + 1) = i + 1 := wrapI (by omega) (by omega)
    obtain ⟨e1, e2, k5, ob5, e3, B5, n5, s5⟩ := B4.setF w0 (by omega) (i := z.toNat) (by omega) (n.inputs + 2 + s.2.flops.length + s.2.insts.length)
    rw [hzt] at e1
    have hM4 := B4.at
    have hM5 := B5.at
    have hrvs := hf4.sl
    have hfar := FrSl.far hf4
    generalize hrv : a4.tm 20 = rv at *
    have hrv1 : rv.cells.toList = [rv] := by obtain ⟨p, l, c, rfl, _⟩ := hrvs; rfl
    have hrel : instL.rel (away nm ob5 X k5) [Value.int .i64 (pick3 n).1, rv] (insInst n s z) := ⟨rv, rfl, by
      have := (awayFresh (X := X) B.own (by omega) hrvs (fun C off l c e => Nat.le_trans hg3.nx (hfar C off l c e))).sub s5
      rw [hbf] at this; exact this⟩
    obtain ⟨e4, v', k6, k7, e5, e6, nm7, ob7, B7, n7, -, -⟩ := B5.pushI w0 hrel (by simp only; omega)
    have hM7 := B7.at
    have hl5 := B5.own.gr.sub
    simp (disch := first | omega | decide | (simp only [List.length_cons, List.length_nil] <;> omega)) only [push_cast, ↓reduceIte, Nat.reduceLT, Nat.reduceEqDiff, reduceCtorEq, Nat.reduceAdd, if_true, if_false, true_and, and_true, hn4, hd4, ht4, hrv, kn, kd, kt, hn, hd, h2, h7, h9, h10, h12, h122, h123, h124', h11', faL foN0, faL foN1, faL foN2, faL foN3, faL foN4, hM4.l0, hM4.l1, hM4.l2, hM4.l3, hM4.l4, hM4.la, B4.f.len Tryz.underlying23, B4.i.len Tryz.underlying24, q3', hw1, hw2, e1, e2, e3]
    refine AW.drawP (.take 0 [11, 10, 9, 1] (.take 1 [11, 10, 9] (.take 2 [11, 10, 9, 8, 7, 5, 4, 3] (.take 3 [11, 10, 9, 8, 7, 5, 4] (.take 4 [11, 10, 9, 8, 7, 5] (.take 5 [11, 10, 9, 8, 7] (.take 6 [11, 10, 9, 8, 7] (.take 7 [11, 10, 9, 8] (.only 8 (.only 9 (.take 10 [11] (.only 11 .done)))))))))))) [(0, 0), (0, 1), (0, 2), (0, 3), (0, 4), (0, 5), (0, 6), (0, 7), (2, 8), (2, 9), (0, 10), (2, 11)] mixed (by kernel_rfl) (by kernel_rfl) ?_
    simp (disch := first | omega | decide | (simp only [List.length_cons, List.length_nil] <;> omega)) only [push_cast, ↓reduceIte, Nat.reduceLT, Nat.reduceEqDiff, reduceCtorEq, Nat.reduceAdd, if_true, if_false, true_and, and_true, hn4, hd4, ht4, hrv, kn, kd, kt, hn, hd, h2, h7, h9, h10, h12, h122, h123, h124', h11', faL foN0, faL foN1, faL foN2, faL foN3, faL foN4, hM5.l0, hM5.l1, hM5.l2, hM5.l3, hM5.l4, hM5.la, hbi, hba0, aLoad_sub hl5 hbl0, buildI hrv1, e4, e5, e6, hM7.l0, hM7.l1, hM7.l2, hM7.l3, hM7.l4, hM7.la, q3', hw3, hw4]
    refine ⟨k - 1, by omega, (by simp (disch := decide) only [Kp_put, put_none, hk]), i + 1, nm7, ob7, fv, v', n.inputs + 2 + z, by simp (disch := first | omega | decide | (simp only [List.length_cons, List.length_nil] <;> omega)) only [push_cast, ↓reduceIte, Nat.reduceLT, Nat.reduceEqDiff, reduceCtorEq, Nat.reduceAdd, if_true, if_false, true_and, and_true], by omega, ?_, by simp (disch := first | omega | decide | (simp only [List.length_cons, List.length_nil] <;> omega)) only [push_cast, ↓reduceIte, Nat.reduceLT, Nat.reduceEqDiff, reduceCtorEq, Nat.reduceAdd, if_true, if_false, true_and, and_true], by rw [hfold]; rfl, by rw [hfold]; exact B7⟩
    have := hg4.nx
    omega
  · have hi : i = ord.length := by have := hge; simp at this; omega
    subst hi
    rw [List.take_length] at B hbf
    simp (disch := first | omega | decide | (simp only [List.length_cons, List.length_nil] <;> omega)) only [push_cast, ↓reduceIte, Nat.reduceLT, Nat.reduceEqDiff, reduceCtorEq, Nat.reduceAdd, if_true, if_false, true_and, and_true, kn, kd, kt, hn, hd, h2, h7, h9, h10, h12, h122, h123, h124', h11']
    exact ⟨fun j h1 h2 => by rw [if_neg (by omega)]; exact kt j h1 (by simpa using h2), hnx, by rw [hbf], nm, ob, fv, iv, B⟩

end Go.Ab.S1
