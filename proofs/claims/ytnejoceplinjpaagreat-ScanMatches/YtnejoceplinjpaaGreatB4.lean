/- scan.Insert, plainly; the netlist that it builds, as its own blocks. scan.Insert: the loops over the cells and over the instances. scan.Insert: the loop over the order. scan.Insert. Own layer 'Ab': a row's arguments that hold slices of structs, as the abstract heap holds them. Own layer 'Ab': zeros appended to nil; an append of any slice. Own layer 'Ab': a region that draws its order, whose operations but the last one only lay blocks: every order at once; a region in parts. Own layer 'Ab': copies into a new slice; an element's field written over; what type a block is of. netlabref28.Copy. netlabref28.letter, digit, name, one and Check; netlabref21.Mask (evaluated) and Valid. netlabref28.letter, digit, name, one and Check. netlabref28.one and Check. netlabref29.Nets, net and shape. netlabref29.order and Check. A netlist, as an argument of a row: brought onto the abstract heap. -/
import Derived.Test.YtnejoceplinjpaaGreatB3
import Derived.ChangeArms
import Derived.DataReads
set_option linter.unusedSimpArgs false
set_option linter.unusedVariables false
namespace Go.Ab.S1
open Go.Proofs
set_option linter.unusedSimpArgs false
set_option linter.unusedVariables false
set_option maxRecDepth 100000
set_option maxHeartbeats 4000000
attribute [local push_cast] wpA_skip wpA_ret wpA_exit wpA_seq wpA_block wpA_cond2 andK_true wpA_region wpA_draw wpA_loop thenQ_normal thenQ_ret thenQ_exit blockQ_normal blockQ_ret blockQ_exit condV_true condV_false opsM_nil opsM_cons2 okM_true wantM_true wantM_false stepM seqM_cons2 seqM_nil2 okS_true wantS_true wantS_false stepS skipS okB Keeps_nil contK_app List.zip_cons_cons List.zip_nil_left List.zip_nil_right Op.operands Call.operands Array.toList_append List.append_nil List.nil_append List.all_cons List.all_nil cOK plain put_n put_tm put_none put_df ev_tmp ev_const ev_func wanted_none wanted_some callR_func dop ex_some1 aBuiltin aBin intBin aUn Option.map_some Bool.and_true Bool.true_and Bool.and_self List.map_cons List.map_nil List.toList_toArray List.getElem?_toArray List.getElem?_cons_zero List.getElem?_cons_succ Option.getD_some Option.getD_none Bool.false_eq_true eq_self_iff_true decide_true decide_false List.cons_append aExtract resL resV List.getD_cons_zero List.getD_cons_succ List.getD_nil Nat.succ_ne_self g1 g2 yieldedA2 isB_bool isB_undef g3 Option.bind_some Option.bind_none bne_self_eq_false beq_self_eq_true Bool.not_true Bool.not_false Int.toNat_natCast List.length_map List.mem_cons List.not_mem_nil or_false not_false_eq_true decide_not Bool.not_not bodyR_ret2 bodyR_normal2 closeMarks_nil ex_some0 Nat.zero_add Nat.add_zero ieq ine List.map_toArray Option.toArray_none Option.toArray_some oev Keeps_cons Still_eq selL wpX_skip wpX_ret wpX_exit wpX_seq wpX_block wpX_cond wpX_region wpX_draw wpX_loop List.take_succ_cons List.take_zero List.drop_succ_cons List.drop_zero Int.zero_add Int.add_zero aNil if_true if_false true_and and_true

/-! ### The code inside a block -/

def blkC (i : Nat) : Code → Option Code
  | .block j c => if i = j then some c else blkC i c
  | .seq x y => match blkC i x with
    | some c => some c
    | none => blkC i y
  | .cond _ x y => match blkC i x with
    | some c => some c
    | none => blkC i y
  | .loop c => blkC i c
  | _ => none

def bodyBlk (f : Func) (i : Nat) : Code := match f.body with
  | some c => (blkC i c).getD .skip
  | none => .skip

theorem AW.at {P : Program} {rd : Option Nat} {Q : Exit → AAct → AH → Prop} {a : AAct} {h : AH} {c c' : Code} (e : c = c') (hx : AW P rd c' Q a h) : AW P rd c Q a h := e ▸ hx

/-! ### What Insert makes, plainly -/

def pick3 (n : Net) : Int × List Int := (matchGo 202 3 0 n.cells).headD (0, [])
def instS (n : Net) (x : Inst) : Inst := ⟨x.cell, x.pins.map (shiftE n)⟩
def insBase (n : Net) : Net := ⟨n.cells, n.inputs + 2, n.flops, n.insts.map (instS n), n.outs.map (shiftE n)⟩
def insNets (n : Net) (s : Int × Net) (i : Int) : List Int := [shiftE n (n.flops.getD i.toNat default).next, s.1, n.inputs]
def insFlop (n : Net) (m : Net) (i : Int) : Flop := ⟨n.inputs + 2 + m.flops.length + m.insts.length, (m.flops.getD i.toNat default).init⟩
def insInst (n : Net) (s : Int × Net) (i : Int) : Inst := ⟨(pick3 n).1, (pick3 n).2.map fun k => (insNets n s i).getD k.toNat 0⟩
def insStep (n : Net) (s : Int × Net) (i : Int) : Int × Net :=
  (n.inputs + 2 + i, { s.2 with flops := s.2.flops.set i.toNat (insFlop n s.2 i), insts := s.2.insts ++ [insInst n s i] })
def insGo (n : Net) (ord : List Int) : Int × Net := ord.foldl (insStep n) (n.inputs + 1, insBase n)
def insN (n : Net) (ord : List Int) : Net := { (insGo n ord).2 with outs := (insGo n ord).2.outs ++ [(insGo n ord).1] }
def zeroN : Net := ⟨[], 0, [], [], []⟩
noncomputable def insE (n : Net) (ord : List Int) : Int :=
  if scanE n ord ≠ 0 then scanE n ord
  else if matchE n.cells 202 3 ≠ 0 ∨ matchGo 202 3 0 n.cells = [] then 20
  else if n.inputs + 2 > 64 ∨ (n.outs.length : Int) ≥ 64 ∨ ((n.insts.length : Int) + n.flops.length > 4096) then 5
  else 0

/-! ### The matches -/

theorem ext3 : ∀ p ∈ ext 3 3 [], p.length = 3 ∧ ∀ z ∈ p, 0 ≤ z ∧ z < 3 := by decide

theorem matchGo_mem {tt : Int} {N : Nat} : ∀ {l : List Cell} {j : Nat} {b : Int × List Int}, b ∈ matchGo tt N j l →
    ∃ k : Nat, k < l.length ∧ b.1 = (j + k : Nat) ∧ (l.getD k default).pins = N ∧ b.2 ∈ ext N N [] ∧ hitE (l.getD k default).table tt N b.2 = true := by
  intro l
  induction l with
  | nil => intro j b h; cases h
  | cons c cs ih =>
    intro j b h
    rw [matchGo] at h
    rcases List.mem_append.1 h with h | h
    · by_cases hp : c.pins = N
      · rw [if_pos hp] at h
        simp only [cellM, List.mem_map, List.mem_filter] at h
        obtain ⟨p, ⟨h1, h2⟩, rfl⟩ := h
        exact ⟨0, by simp, rfl, by simpa using hp, h1, by simpa using h2⟩
      · rw [if_neg hp] at h; cases h
    · obtain ⟨k, h1, h2, h3, h4, h5⟩ := ih h
      exact ⟨k + 1, by simpa using h1, by rw [h2]; omega, by simpa using h3, h4, by simpa using h5⟩

theorem pick3_mem {n : Net} (h : matchGo 202 3 0 n.cells ≠ []) : pick3 n ∈ matchGo 202 3 0 n.cells := by
  unfold pick3
  cases e : matchGo 202 3 0 n.cells with
  | nil => exact absurd e h
  | cons a l => simp

theorem pick3_ok {n : Net} (h : matchGo 202 3 0 n.cells ≠ []) : 0 ≤ (pick3 n).1 ∧ (pick3 n).1 < n.cells.length ∧ (n.cells.getD (pick3 n).1.toNat default).pins = 3 ∧ (pick3 n).2.length = 3 ∧ ∀ z ∈ (pick3 n).2, 0 ≤ z ∧ z < 3 := by
  obtain ⟨k, h1, h2, h3, h4, h5⟩ := matchGo_mem (pick3_mem h)
  have h6 := ext3 _ h4
  rw [Nat.zero_add] at h2
  rw [h2]
  exact ⟨by omega, by omega, by rw [Int.toNat_natCast]; exact_mod_cast h3, h6.1, h6.2⟩

/-! ### Rows of one's own, whose elements reach beside one's own -/

noncomputable def away (nm : Nat → Nat) (ob : Nat → Option AObj) (X : Nat) (h : AH) : AH := hide (fun C => C = X) (hide (Own nm ob) h)

theorem away_sub (nm : Nat → Nat) (ob : Nat → Option AObj) (X : Nat) (h : AH) : Sub (away nm ob X h) h := (hide_sub _ _).trans (hide_sub _ _)

theorem awayWV {b h h' : AH} {nm : Nat → Nat} {ob : Nat → Option AObj} {X : Nat} (ho : _root_.Go.Ab.Owns b h nm ob) (hX : X < h.next) {e : TypeId} {v : Value} {vs : List Value} (w : WV e h.next h' v vs) : WV e b.next (away nm ob X h') v vs := by
  obtain ⟨obv, A, h1, h2⟩ := w
  exact ⟨obv, A, h1, fun o e => ⟨hide_get.2 ⟨by have := (h2 o e).2; omega, hide_get.2 ⟨fun hC => by have := ownLt ho hC; have := (h2 o e).2; omega, (h2 o e).1⟩⟩, Nat.le_trans ho.gr.nx (h2 o e).2⟩⟩

/-- Cells and instances whose inner slices are one's own. -/
def cellW (N : Nat) : Lay Cell where
  sz := 5
  pos := by decide
  rel h cs c := ∃ dv, cs = [.string c.name, .int .i64 c.pins, .int .u64 c.table, .int .i64 c.area, dv] ∧ WV 2 N h dv (c.delay.map (.int .i64))
  mono := by rintro h h' cs x hs ⟨dv, rfl, hd⟩; exact ⟨dv, rfl, hd.sub hs⟩
  len := by rintro h cs x ⟨dv, rfl, hd⟩; rfl
  one := by rintro h cs x ⟨dv, rfl, hd⟩ v hv; simp only [List.mem_cons, List.not_mem_nil, or_false] at hv; rcases hv with rfl | rfl | rfl | rfl | rfl <;> first | rfl | exact hd.one.1
def instW (N : Nat) : Lay Inst where
  sz := 2
  pos := by decide
  rel h cs c := ∃ dv, cs = [.int .i64 c.cell, dv] ∧ WV 3 N h dv (c.pins.map (.int .i64))
  mono := by rintro h h' cs x hs ⟨dv, rfl, hd⟩; exact ⟨dv, rfl, hd.sub hs⟩
  len := by rintro h cs x ⟨dv, rfl, hd⟩; rfl
  one := by rintro h cs x ⟨dv, rfl, hd⟩ v hv; simp only [List.mem_cons, List.not_mem_nil, or_false] at hv; rcases hv with rfl | rfl <;> first | rfl | exact hd.one.1

theorem RowOf.imp {α : Type} {L L' : Lay α} {h : AH} {v : Value} {xs : List α} (hz : L.sz = L'.sz) (hr : ∀ cs x, L.rel h cs x → L'.rel h cs x) (r : RowOf L h v xs) : RowOf L' h v xs := by
  obtain ⟨p, l, c, rfl, hl, hc, hx⟩ := r
  rw [hz] at hc hx
  exact ⟨p, l, c, rfl, hl, hc, hx.imp id fun ⟨A, off, o, cs, e, h1, h2, h3⟩ => ⟨A, off, o, cs, e, h1, h2, fun i x hi => hr _ _ (h3 i x hi)⟩⟩
theorem rowCellW {N : Nat} {h : AH} {v : Value} {xs : List Cell} (r : RowOf (cellW N) h v xs) : RowOf cellL h v xs := RowOf.imp (L := cellW N) (L' := cellL) rfl (fun _ _ ⟨dv, e, hd⟩ => ⟨dv, e, hd.sl⟩) r
theorem rowInstW {N : Nat} {h : AH} {v : Value} {xs : List Inst} (r : RowOf (instW N) h v xs) : RowOf instL h v xs := RowOf.imp (L := instW N) (L' := instL) rfl (fun _ _ ⟨dv, e, hd⟩ => ⟨dv, e, hd.sl⟩) r

/-- A row of one's own. -/
def RowV {α : Type} (L : Lay α) (e : TypeId) (g : AH) (v : Value) (ob : Option AObj) (A : Nat) (xs : List α) : Prop :=
  ∃ zs, VecM L.sz e v ob A xs.length zs ∧ ∀ (i : Nat) (x : α), xs[i]? = some x → L.rel g ((zs.drop (i * L.sz)).take L.sz) x

theorem RowV.sub {α : Type} {L : Lay α} {e : TypeId} {g g' : AH} {v : Value} {ob : Option AObj} {A : Nat} {xs : List α} (r : RowV L e g v ob A xs) (s : Sub g g') : RowV L e g' v ob A xs := by
  obtain ⟨zs, h1, h2⟩ := r
  exact ⟨zs, h1, fun i x hx => L.mono s (h2 i x hx)⟩

theorem RowV.imp {α : Type} {L L' : Lay α} {e : TypeId} {g : AH} {v : Value} {ob : Option AObj} {A : Nat} {xs : List α} (hz : L.sz = L'.sz) (hr : ∀ cs x, L.rel g cs x → L'.rel g cs x) (r : RowV L e g v ob A xs) : RowV L' e g v ob A xs := by
  obtain ⟨zs, h1, h2⟩ := r
  rw [hz] at h1 h2
  exact ⟨zs, h1, fun i x hi => hr _ _ (h2 i x hi)⟩

theorem RowV.nil {α : Type} {L : Lay α} {e : TypeId} {g : AH} {A : Nat} : RowV L e g (.slice none 0 0) none A ([] : List α) :=
  ⟨[], ⟨by simp, .inl ⟨rfl, rfl, rfl⟩⟩, fun i x hx => by simp at hx⟩

theorem RowV.row {α : Type} {L : Lay α} {e : TypeId} {h : AH} {v : Value} {ob : Option AObj} {A : Nat} {xs : List α} (r : RowV L e h v ob A xs) (hg : ∀ o, ob = some o → h.get A = some o) (hb : xs.length ≤ 4294967296) : RowOf L h v xs := by
  obtain ⟨zs, h1, h2⟩ := r
  exact h1.row hg hb h2

theorem RowV.one {α : Type} {L : Lay α} {e : TypeId} {g : AH} {v : Value} {ob : Option AObj} {A : Nat} {xs : List α} (r : RowV L e g v ob A xs) : oneC v = true ∧ v.cells.toList = [v] := by
  obtain ⟨zs, h1, h2⟩ := r
  exact h1.one

theorem VecM.len {P : Program} {sz : Nat} {t e e' : TypeId} {v : Value} {ob : Option AObj} {A n : Nat} {zs : List Value} (hv : VecM sz e v ob A n zs) (ht : P.underlying t = some (.slice e')) : ∀ h, aLen P t v h = some (.int .i64 n) := by
  intro h
  rcases hv with ⟨_, ⟨rfl, rfl, _⟩ | ⟨rfl, rfl, _⟩ | ⟨rfl, _⟩⟩ <;> exact lenS ht _ _ _ _

theorem RowV.len {α : Type} {P : Program} {L : Lay α} {t e e' : TypeId} {g : AH} {v : Value} {ob : Option AObj} {A : Nat} {xs : List α} (r : RowV L e g v ob A xs) (ht : P.underlying t = some (.slice e')) : ∀ h, aLen P t v h = some (.int .i64 xs.length) := by
  obtain ⟨zs, h1, h2⟩ := r
  exact VecM.len h1 ht

/-- One element more. -/
theorem RowV.push {α : Type} {L : Lay α} {t e : TypeId} {B X : Nat} (ht : SlM Tryz.prog t e L.sz B) (hs : L.sz ≤ 16777216) {b h : AH} {nm : Nat → Nat} {ob : Nat → Option AObj} (w0 : WFH b) (ho : _root_.Go.Ab.Owns b h nm ob) {r : Nat} {v : Value} {xs : List α} (hv : RowV L e (away nm ob X h) v (ob r) (nm r) xs)
    {cs : List Value} {x : α} (hx : L.rel (away nm ob X h) cs x) (hb : (2 * (xs.length + 1) + 192) * B ≤ 281474976710656) (hm : xs.length + 1 < 4611686018427387904) :
    aBuildSlice Tryz.prog t 1 [(0, .agg cs.toArray)] h = some (.slice (some ⟨h.next, 0, none⟩) 1 1, h.new (.row cs e true)) ∧
    ∃ v' h' A' o', aAppend Tryz.prog #[t, t] v (.slice (some ⟨h.next, 0, none⟩) 1 1) (h.new (.row cs e true)) = some (v', h') ∧ RowV L e (away (upd nm r A') (upd ob r (some o')) X h') v' (some o') A' (xs ++ [x]) ∧
      _root_.Go.Ab.Owns b h' (upd nm r A') (upd ob r (some o')) ∧ Sub (away nm ob X h) (away (upd nm r A') (upd ob r (some o')) X h') ∧ h.next ≤ h'.next := by
  obtain ⟨zs, h1, h2⟩ := hv
  have hlen := L.len hx
  obtain ⟨e1, v', h', A', o', e2, hV, o2, s2, n2⟩ := ownPush ht hs w0 ho h1 hlen (by rw [List.all_eq_true]; exact L.one hx) hb hm
  refine ⟨e1, v', h', A', o', e2, ⟨zs ++ cs, by simpa using hV, fun i y hy => ?_⟩, o2, hide_mono s2, n2⟩
  have s3 : Sub (away nm ob X h) (away (upd nm r A') (upd ob r (some o')) X h') := hide_mono s2
  have hzl : zs.length = xs.length * L.sz := h1.1
  by_cases hi : i < xs.length
  · rw [List.getElem?_append_left hi] at hy
    have hle : i * L.sz + L.sz ≤ xs.length * L.sz := by
      rw [← Nat.succ_mul]; exact Nat.mul_le_mul_right _ hi
    rw [List.drop_append_of_le_length (by omega), List.take_append_of_le_length (by rw [List.length_drop]; omega)]
    exact L.mono s3 (h2 i y hy)
  · rw [List.getElem?_append_right (by omega)] at hy
    have hi0 : i = xs.length := by
      have := (List.getElem?_eq_some_iff.1 hy).1
      simp only [List.length_cons, List.length_nil] at this; omega
    subst hi0
    rw [Nat.sub_self] at hy
    cases hy
    rw [← hzl, List.drop_left, ← hlen, List.take_length]
    exact L.mono s3 hx

/-! ### The netlist that is built -/

structure Bld (b h : AH) (X T : Nat) (m : Net) (nm : Nat → Nat) (ob : Nat → Option AObj) (cv fv iv ov : Value) : Prop where
  own : _root_.Go.Ab.Owns b h nm ob
  t : nm 4 = T
  at4 : ob 4 = some (.row (netC m cv fv iv ov) 27 true)
  c : RowV (cellW b.next) 40 (away nm ob X h) cv (ob 0) (nm 0) m.cells
  f : RowV flopL 65 (away nm ob X h) fv (ob 1) (nm 1) m.flops
  i : RowV (instW b.next) 36 (away nm ob X h) iv (ob 2) (nm 2) m.insts
  o : _root_.Go.Ab.Vec 3 ov (ob 3) (nm 3) (m.outs.map (.int .i64))

section
variable {b h : AH} {X T : Nat} {m : Net} {nm : Nat → Nat} {ob : Nat → Option AObj} {cv fv iv ov : Value}

theorem Bld.get (B : Bld b h X T m nm ob cv fv iv ov) : h.get T = some (.row (netC m cv fv iv ov) 27 true) := B.t ▸ B.own.get 4 _ B.at4
theorem Bld.at (B : Bld b h X T m nm ob cv fv iv ov) : NetAt h T m cv fv iv ov := ⟨_, B.get, rfl⟩

theorem Bld.lt (B : Bld b h X T m nm ob cv fv iv ov) : T < h.next := AH.get_lt B.own.gr.wf B.get
theorem Bld.lo (B : Bld b h X T m nm ob cv fv iv ov) : b.next ≤ T := B.t ▸ B.own.lo 4 _ B.at4

theorem Bld.grown (B : Bld b h X T m nm ob cv fv iv ov) {h' : AH} (g : Gr h h') : Bld b h' X T m nm ob cv fv iv ov := by
  have s : Sub (away nm ob X h) (away nm ob X h') := hide_mono (hide_mono g.sub)
  exact ⟨B.own.grown g, B.t, B.at4, B.c.sub s, B.f.sub s, B.i.sub s, B.o⟩

/-- A field of the netlist's block written over. -/
theorem ownSet {r : Nat} {o o' : AObj} (w0 : WFH b) (ho : _root_.Go.Ab.Owns b h nm ob) (hr : ob r = some o) : _root_.Go.Ab.Owns b (h.set (nm r) o') nm (upd ob r (some o')) ∧ Sub (away nm ob X h) (away nm (upd ob r (some o')) X (h.set (nm r) o')) := by
  have hlt := AH.get_lt ho.gr.wf (ho.get r o hr)
  obtain ⟨o2, s2⟩ := ownUp (h' := h.set (nm r) o') (o' := o') (r := r) (A' := nm r) w0 ho (by rw [AH.set_get, if_pos rfl]) (.inl ⟨rfl, by rw [hr]; simp⟩) (fun B p hB he => by
    rw [AH.set_get, if_neg (fun e => by have := he e; rw [hr] at this; cases this)]; exact hB) (ho.gr.wf.set hlt _) (by simp)
  have : upd nm r (nm r) = nm := by funext i; unfold upd; split <;> simp_all
  rw [this] at o2 s2
  exact ⟨o2, hide_mono s2⟩

theorem szC : ∃ i, Tryz.prog.info? 22 = some i ∧ i.size = 1 := ⟨(Tryz.prog.info? 22).get (by kernel_rfl), by kernel_rfl, by kernel_rfl⟩
theorem szN : ∃ i, Tryz.prog.info? 24 = some i ∧ i.size = 1 := ⟨(Tryz.prog.info? 24).get (by kernel_rfl), by kernel_rfl, by kernel_rfl⟩
theorem sz3 : ∃ i, Tryz.prog.info? 3 = some i ∧ i.size = 1 := ⟨(Tryz.prog.info? 3).get (by kernel_rfl), by kernel_rfl, by kernel_rfl⟩

/-- A cell more. -/
theorem Bld.pushC (B : Bld b h X T m nm ob cv fv iv ov) (w0 : WFH b) {cs : List Value} {x : Cell} (hx : (cellW b.next).rel (away nm ob X h) cs x) (hb : m.cells.length ≤ 4294967296) :
    aBuildSlice Tryz.prog 22 1 [(0, .agg cs.toArray)] h = some (.slice (some ⟨h.next, 0, none⟩) 1 1, h.new (.row cs 40 true)) ∧
    ∃ v' h' h'', aAppend Tryz.prog #[22, 22] cv (.slice (some ⟨h.next, 0, none⟩) 1 1) (h.new (.row cs 40 true)) = some (v', h') ∧
      aStore Tryz.prog 22 (.pointer (some ⟨T, 0, none⟩)) v' h' = some h'' ∧ ∃ nm' ob', Bld b h'' X T { m with cells := m.cells ++ [x] } nm' ob' v' fv iv ov ∧ h.next ≤ h''.next ∧ Sub (away nm ob X h) h' ∧ Sub (away nm ob X h) h'' := by
  obtain ⟨e1, v', h', A', o', e2, hV, o2, s2, n2⟩ := RowV.push (r := 0) smC (show 5 ≤ 16777216 by decide) w0 B.own B.c hx (by omega) (by omega)
  have h4 : upd ob 0 (some o') 4 = some (.row (netC m cv fv iv ov) 27 true) := by rw [upd_ne _ _ (by decide)]; exact B.at4
  have n4 : upd nm 0 A' 4 = T := by rw [upd_ne _ _ (by decide)]; exact B.t
  have hg := o2.get 4 _ h4
  rw [n4] at hg
  obtain ⟨o3, s3⟩ := ownSet (X := X) (o' := .row ((netC m cv fv iv ov).set 0 v') 27 true) w0 o2 h4
  rw [n4] at o3 s3
  refine ⟨e1, v', h', _, e2, stC szC hg 0 v' (by simp [netC]) hV.one.2 hV.one.1, _, _, ⟨o3, n4, ?_, ?_, ?_, ?_, ?_⟩, by simpa using n2, s2.trans (away_sub _ _ _ _), (s2.trans s3).trans (away_sub _ _ _ _)⟩
  · rw [upd_same]; rfl
  · rw [upd_ne _ _ (by decide), upd_same, upd_same]; exact hV.sub s3
  · rw [upd_ne _ _ (by decide), upd_ne _ _ (by decide), upd_ne _ _ (by decide)]; exact (B.f.sub s2).sub s3
  · rw [upd_ne _ _ (by decide), upd_ne _ _ (by decide), upd_ne _ _ (by decide)]; exact (B.i.sub s2).sub s3
  · rw [upd_ne _ _ (by decide), upd_ne _ _ (by decide), upd_ne _ _ (by decide)]; exact B.o

/-- An instance more. -/
theorem Bld.pushI (B : Bld b h X T m nm ob cv fv iv ov) (w0 : WFH b) {cs : List Value} {x : Inst} (hx : (instW b.next).rel (away nm ob X h) cs x) (hb : m.insts.length ≤ 4294967296) :
    aBuildSlice Tryz.prog 24 1 [(0, .agg cs.toArray)] h = some (.slice (some ⟨h.next, 0, none⟩) 1 1, h.new (.row cs 36 true)) ∧
    ∃ v' h' h'', aAppend Tryz.prog #[24, 24] iv (.slice (some ⟨h.next, 0, none⟩) 1 1) (h.new (.row cs 36 true)) = some (v', h') ∧
      aStore Tryz.prog 24 (.pointer (some ⟨T, 3, none⟩)) v' h' = some h'' ∧ ∃ nm' ob', Bld b h'' X T { m with insts := m.insts ++ [x] } nm' ob' cv fv v' ov ∧ h.next ≤ h''.next ∧ Sub (away nm ob X h) h' ∧ Sub (away nm ob X h) h'' := by
  obtain ⟨e1, v', h', A', o', e2, hV, o2, s2, n2⟩ := RowV.push (r := 2) smN (show 2 ≤ 16777216 by decide) w0 B.own B.i hx (by omega) (by omega)
  have h4 : upd ob 2 (some o') 4 = some (.row (netC m cv fv iv ov) 27 true) := by rw [upd_ne _ _ (by decide)]; exact B.at4
  have n4 : upd nm 2 A' 4 = T := by rw [upd_ne _ _ (by decide)]; exact B.t
  have hg := o2.get 4 _ h4
  rw [n4] at hg
  obtain ⟨o3, s3⟩ := ownSet (X := X) (o' := .row ((netC m cv fv iv ov).set 3 v') 27 true) w0 o2 h4
  rw [n4] at o3 s3
  refine ⟨e1, v', h', _, e2, stC szN hg 3 v' (by simp [netC]) hV.one.2 hV.one.1, _, _, ⟨o3, n4, ?_, ?_, ?_, ?_, ?_⟩, by simpa using n2, s2.trans (away_sub _ _ _ _), (s2.trans s3).trans (away_sub _ _ _ _)⟩
  · rw [upd_same]; rfl
  · rw [upd_ne _ _ (by decide), upd_ne _ _ (by decide), upd_ne _ _ (by decide)]; exact (B.c.sub s2).sub s3
  · rw [upd_ne _ _ (by decide), upd_ne _ _ (by decide), upd_ne _ _ (by decide)]; exact (B.f.sub s2).sub s3
  · rw [upd_ne _ _ (by decide), upd_same, upd_same]; exact hV.sub s3
  · rw [upd_ne _ _ (by decide), upd_ne _ _ (by decide), upd_ne _ _ (by decide)]; exact B.o

theorem take2 {α : Type} {l : List α} {k : Nat} {a b : α} (h1 : l[k]? = some a) (h2 : l[k + 1]? = some b) : (l.drop k).take 2 = [a, b] := by
  obtain ⟨i1, e1⟩ := List.getElem?_eq_some_iff.1 h1
  obtain ⟨i2, e2⟩ := List.getElem?_eq_some_iff.1 h2
  rw [List.drop_eq_getElem_cons i1, List.drop_eq_getElem_cons i2, e1, e2]; rfl

theorem take2_inv {α : Type} {l : List α} {k : Nat} {a b : α} (h : (l.drop k).take 2 = [a, b]) : l[k]? = some a ∧ l[k + 1]? = some b := by
  have h1 := congrArg (·[0]?) h
  have h2 := congrArg (·[1]?) h
  simp [List.getElem?_take] at h1 h2
  exact ⟨h1, h2⟩

/-- A flop's next written over. -/
theorem Bld.setF (B : Bld b h X T m nm ob cv fv iv ov) (w0 : WFH b) (hb : m.flops.length ≤ 4294967296) {i : Nat} (hi : i < m.flops.length) (y : Int) :
    aIndexAddr Tryz.prog 23 fv (.int .i64 i) = some (slF 2 fv i 0) ∧ aFieldAddr Tryz.prog 65 0 (slF 2 fv i 0) = some (slF 2 fv i 0) ∧
    ∃ h' ob', aStore Tryz.prog 3 (slF 2 fv i 0) (.int .i64 y) h = some h' ∧ Bld b h' X T { m with flops := m.flops.set i ⟨y, (m.flops.getD i default).init⟩ } nm ob' cv fv iv ov ∧ h'.next = h.next ∧ Sub (away nm ob X h) (away nm ob' X h') := by
  have hidx := ((B.f.sub (away_sub _ _ _ _)).row (B.own.get 1) hb).idx Tryz.underlying23 infF .i64 i (by omega) (by omega)
  rw [Int.toNat_natCast] at hidx
  obtain ⟨zs, ⟨hzl, hV⟩, hr⟩ := B.f
  rcases hV with ⟨e, _⟩ | ⟨e, _⟩ | ⟨rfl, e1⟩
  · omega
  · omega
  · have hg := B.own.get 1 _ e1
    obtain ⟨o2, s2⟩ := ownSet (X := X) (o' := .grow (zs.set (i * 2) (.int .i64 y)) 65) w0 B.own e1
    have hlt : i * 2 < zs.length := by rw [hzl]; show i * 2 < m.flops.length * 2; omega
    have hfl : m.flops[i]? = some (m.flops.getD i default) := by simp [List.getD_eq_getElem?_getD, hi]
    have hcell := hr i _ hfl
    change (zs.drop (i * 2)).take 2 = flopC (m.flops.getD i default) at hcell
    refine ⟨?_, ?_, h.set (nm 1) (.grow (zs.set (i * 2) (.int .i64 y)) 65), upd ob 1 (some (.grow (zs.set (i * 2) (.int .i64 y)) 65)), ?_, ⟨o2, B.t, ?_, ?_, ⟨zs.set (i * 2) (.int .i64 y), ⟨?_, .inr (.inr ⟨?_, ?_⟩)⟩, fun j x hx => ?_⟩, ?_, ?_⟩, by simp, s2⟩
    · exact hidx
    · exact faL foF0 _ _
    · obtain ⟨I, hI, hs⟩ := sz3
      simp [aStore, slF, hI, hs, hg, AObj.setCells, Value.cells, oneC, setL, show i * 2 + 1 ≤ zs.length by omega]
    · rw [upd_ne _ _ (by decide)]; exact B.at4
    · rw [upd_ne _ _ (by decide)]; exact B.c.sub s2
    · simpa using hzl
    · simp
    · rw [upd_same]
    · obtain ⟨g1, g2⟩ := take2_inv hcell
      show ((zs.set (i * 2) (.int .i64 y)).drop (j * 2)).take 2 = flopC x
      by_cases hj : j = i
      · subst hj
        rw [List.getElem?_set_self (by simpa using hi)] at hx
        cases hx
        exact take2 (by rw [List.getElem?_set_self hlt]) (by rw [List.getElem?_set_ne (by omega)]; exact g2)
      · rw [List.getElem?_set_ne (fun e => hj e.symm)] at hx
        obtain ⟨k1, k2⟩ := take2_inv (hr j x hx)
        exact take2 (by rw [List.getElem?_set_ne (by omega)]; exact k1) (by rw [List.getElem?_set_ne (by omega)]; exact k2)
    · rw [upd_ne _ _ (by decide)]; exact B.i.sub s2
    · rw [upd_ne _ _ (by decide)]; exact B.o
end

/-! ### Structs, built -/

theorem buildS {t : TypeId} {zs : List Value} {pl : List (Nat × Nat)} (hz : ∃ i, Tryz.prog.info? t = some i ∧ i.zero = some (.agg zs.toArray)) (hp : plain 9 (.agg zs.toArray) = true) (hs : ∃ fs, Tryz.prog.underlying t = some (.struct fs) ∧ sizesOf Tryz.prog fs.toList = some pl)
    (ps : List (Nat × Value)) : aBuild Tryz.prog t ps = (fillL (fun k => pl[k]?) zs ps).map fun c => .agg c.toArray := by
  obtain ⟨ib, hb1, hb2⟩ := hz
  obtain ⟨fs, hf1, hf2⟩ := hs
  have hcz : (Value.agg zs.toArray).cells = zs.toArray := rfl
  simp only [aBuild, hb1, hb2, hf1, hf2, hp, hcz]
  simp

theorem buildI {i : Int} {pv : Value} (hp : pv.cells.toList = [pv]) : aBuild Tryz.prog 36 [(0, .int .i64 i), (1, pv)] = some (.agg #[.int .i64 i, pv]) := by
  have hc : pv.cells.size = 1 := by
    have := congrArg List.length hp
    simpa using this
  have hc0 : (Value.int .i64 i).cells = #[.int .i64 i] := rfl
  rw [buildS (zs := [.int .i64 0, .slice none 0 0]) (pl := [(0, 1), (1, 1)]) ⟨(Tryz.prog.info? 36).get (by kernel_rfl), by kernel_rfl, by kernel_rfl⟩ rfl ⟨_, Tryz.underlying36, by kernel_rfl⟩]
  simp [fillL, hc0, hc, hp, setL]

def zeroC : List Value := [.slice none 0 0, .int .i64 0, .slice none 0 0, .slice none 0 0, .slice none 0 0]

theorem infN : ∃ i, Tryz.prog.info? 27 = some i ∧ i.zero = some (.agg zeroC.toArray) := ⟨(Tryz.prog.info? 27).get (by kernel_rfl), by kernel_rfl, by kernel_rfl⟩
theorem zrN : Zr Tryz.prog 27 zeroC := by
  obtain ⟨i, h1, h2⟩ := infN
  exact ⟨i, _, h1, h2, rfl, rfl, rfl⟩

theorem buildN0 : aBuild Tryz.prog 27 [] = some (.agg zeroC.toArray) := by
  rw [buildS (zs := zeroC) (pl := [(0, 1), (1, 1), (2, 1), (3, 1), (4, 1)]) infN rfl ⟨_, Tryz.underlying27, by kernel_rfl⟩]
  simp [fillL]

theorem buildN {i : Int} {fv ov : Value} (hf : fv.cells.toList = [fv]) (ho : ov.cells.toList = [ov]) : aBuild Tryz.prog 27 [(1, .int .i64 i), (2, fv), (4, ov)] = some (.agg #[.slice none 0 0, .int .i64 i, fv, .slice none 0 0, ov]) := by
  have hc : fv.cells.size = 1 := by
    have := congrArg List.length hf
    simpa using this
  have hc2 : ov.cells.size = 1 := by
    have := congrArg List.length ho
    simpa using this
  have hc0 : (Value.int .i64 i).cells = #[.int .i64 i] := rfl
  rw [buildS (zs := zeroC) (pl := [(0, 1), (1, 1), (2, 1), (3, 1), (4, 1)]) infN rfl ⟨_, Tryz.underlying27, by kernel_rfl⟩]
  simp [fillL, hc0, hc, hc2, hf, ho, setL, zeroC]

attribute [local push_cast] treeM_nil treeM_step treeM_two okX_true wantX_true wantX_false stepX skipX

theorem agL0 : ∃ i, Tryz.prog.info? 38 = some i ∧ i.size = 1 := ⟨(Tryz.prog.info? 38).get (by kernel_rfl), by kernel_rfl, by kernel_rfl⟩

theorem Net.setCells {m : Net} (hm : m.cells = []) : { m with cells := [] } = m := by cases m; simp only at hm; rw [hm]
theorem Net.setInsts {m : Net} (hm : m.insts = []) : { m with insts := [] } = m := by cases m; simp only at hm; rw [hm]

theorem insCells {b h : AH} {X T : Nat} {n m : Net} {nm : Nat → Nat} {ob : Nat → Option AObj} {cv fv iv ov cv0 fv0 iv0 ov0 : Value} {a : AAct} (hn : a.n = 196) (hd : a.df = []) (hX : X < h.next) (w0 : WFH b) (r : NetR b n cv0 fv0 iv0 ov0)
    (hc : n.cells.length ≤ 4294967296) (hdl : ∀ c ∈ n.cells, c.delay.length ≤ 4294967296) (B : Bld b h X T m nm ob cv fv iv ov) (hm : m.cells = []) (h12 : a.tm 12 = .pointer (some ⟨T, 0, none⟩)) (h85 : a.tm 85 = cv0) (h86 : a.tm 86 = .int .i64 n.cells.length) (h87 : a.tm 87 = .int .i64 0) :
    AW Tryz.prog none (bodyBlk Tryz.f12 1) (fun e a' h' => e = .exit 1 ∧ a'.n = 196 ∧ a'.df = [] ∧ (∀ i, i < 87 → i ∉ [14] → a'.tm i = a.tm i) ∧ h.next ≤ h'.next ∧ ∃ nm' ob' cv', Bld b h' X T { m with cells := n.cells } nm' ob' cv' fv iv ov) a h := by
  refine AW.at (rfl : bodyBlk Tryz.f12 1 = .loop _) ?_
  refine AW.loopN 87 [14] (fun k a' h' => ∃ (i : Nat) (nm : Nat → Nat) (ob : Nat → Option AObj) (cv : Value), a'.tm 87 = .int .i64 i ∧ i + k = n.cells.length ∧ h.next ≤ h'.next ∧ Bld b h' X T { m with cells := n.cells.take i } nm ob cv fv iv ov) n.cells.length ?_ ?_
  · exact ⟨0, nm, ob, cv, by rw [h87]; rfl, by omega, Nat.le_refl _, by rw [List.take_zero, Net.setCells hm]; exact B⟩
  clear B nm ob cv
  rintro a1 k a' h' hk kn kd kt ⟨i, nm, ob, cv, h87', hik, hnx, B⟩
  simp (disch := first | omega | decide | (simp only [List.length_cons, List.length_nil] <;> omega)) only [push_cast, ↓reduceIte, Nat.reduceLT, Nat.reduceEqDiff, reduceCtorEq, Nat.reduceAdd, kn, kd, kt, hn, hd, h12, h85, h86, h87']
  refine condV_of (fun hlt => ?_) (fun hge => ?_)
  · have hi : i < n.cells.length := by have := hlt; simp at this; omega
    have hg := B.own.gr
    have hlo := B.lo
    obtain ⟨cs, ⟨dv, rfl, hdv⟩, hld, -, -⟩ := r.c.get hi default
    replace hld := aLoad_sub hg.sub (hld _ agC)
    have hcl := hdl _ (getD_mem hi default)
    have htake : n.cells.take (i + 1) = n.cells.take i ++ [n.cells.getD i default] := take_succ_getD hi default
    generalize n.cells.getD i default = c at *
    have hone : [Value.string c.name, .int .i64 c.pins, .int .u64 c.table, .int .i64 c.area, dv].all oneC = true := by simp only [List.all_cons, List.all_nil, hdv.one]; rfl
    have hst := fun (hh : AH) cs e hl => stN agC hh cs e [Value.string c.name, .int .i64 c.pins, .int .u64 c.table, .int .i64 c.area, dv] hl rfl hone
    have gI := (Gr.refl hg.wf).new (.row [Value.string c.name, .int .i64 c.pins, .int .u64 c.table, .int .i64 c.area, dv] 40 true)
    have hP : (h'.new (.row [Value.string c.name, .int .i64 c.pins, .int .u64 c.table, .int .i64 c.area, dv] 40 true)).get h'.next = some (.row [Value.string c.name, .int .i64 c.pins, .int .u64 c.table, .int .i64 c.area, dv] 40 true) := by rw [AH.new_get, if_pos rfl]
    have hdv2 := (hdv.sub hg.sub).sub gI.sub
    have hnew : (h'.new (.row [Value.string c.name, .int .i64 c.pins, .int .u64 c.table, .int .i64 c.area, dv] 40 true)).next = h'.next + 1 := rfl
    have hCs : CsAt (h'.new (.row [Value.string c.name, .int .i64 c.pins, .int .u64 c.table, .int .i64 c.area, dv] 40 true)) h'.next [Value.string c.name, .int .i64 c.pins, .int .u64 c.table, .int .i64 c.area, dv] := CsAt.new _ _ _ _
    simp (disch := first | omega | decide | (simp only [List.length_cons, List.length_nil] <;> omega)) only [push_cast, ↓reduceIte, Nat.reduceLT, Nat.reduceEqDiff, reduceCtorEq, Nat.reduceAdd, kn, kd, kt, hn, hd, h12, h85, h86, h87', r.c.idx Tryz.underlying22 infC, hld, alL zrC, hst, faL foC0, faL foC1, faL foC2, faL foC3, faL foC4, hCs.ld flL]
    generalize h'.new (.row [Value.string c.name, .int .i64 c.pins, .int .u64 c.table, .int .i64 c.area, dv] 40 true) = h2 at gI hP hdv2 hnew hCs ⊢
    refine ACall.mono ?_ (cloneL hdv2 hcl)
    rintro rv h3 ⟨g3, hs3⟩
    have hP3 := g3.sub _ _ hP
    have hlt3 := AH.get_lt g3.wf hP3
    have hrv1 := hs3.one
    have hst4 := stC agL0 hP3 4 rv (by simp) hrv1.2 hrv1.1
    have g4 := (gI.trans g3).set hg.wf (Nat.le_refl _) hlt3 (.row ([Value.string c.name, .int .i64 c.pins, .int .u64 c.table, .int .i64 c.area, dv].set 4 rv) 40 true)
    have hs4 := (hs3.set (B := h'.next) (by omega) (.row ([Value.string c.name, .int .i64 c.pins, .int .u64 c.table, .int .i64 c.area, dv].set 4 rv) 40 true)).le (M := h'.next) (by omega)
    have hP4 : CsAt (h3.set h'.next (.row ([Value.string c.name, .int .i64 c.pins, .int .u64 c.table, .int .i64 c.area, dv].set 4 rv) 40 true)) h'.next [Value.string c.name, .int .i64 c.pins, .int .u64 c.table, .int .i64 c.area, rv] :=
      ⟨_, by rw [AH.set_get, if_pos rfl], rfl⟩
    simp (disch := first | omega | decide | (simp only [List.length_cons, List.length_nil] <;> omega)) only [push_cast, ↓reduceIte, Nat.reduceLT, Nat.reduceEqDiff, reduceCtorEq, Nat.reduceAdd, kn, kd, kt, hn, hd, h12, h85, h86, h87', faL foC0, faL foC1, faL foC2, faL foC3, faL foC4, hst4]
    generalize h3.set h'.next (.row ([Value.string c.name, .int .i64 c.pins, .int .u64 c.table, .int .i64 c.area, dv].set 4 rv) 40 true) = h4 at g4 hs4 hP4 ⊢
    have hrel : (cellW b.next).rel (away nm ob X h4) [Value.string c.name, .int .i64 c.pins, .int .u64 c.table, .int .i64 c.area, rv] c := ⟨rv, rfl, awayWV B.own (by omega) hs4⟩
    have B4 := B.grown g4
    have hM := B4.at
    obtain ⟨e1, v', h5, h6, e2, e3, nm', ob', B6, n6, -, -⟩ := B4.pushC w0 hrel (by simp; omega)
    have hw : IntKind.i64.wrap ((i : Int) + 1) = i + 1 := wrapI (by omega) (by omega)
    simp (disch := first | omega | decide | (simp only [List.length_cons, List.length_nil] <;> omega)) only [push_cast, ↓reduceIte, Nat.reduceLT, Nat.reduceEqDiff, reduceCtorEq, Nat.reduceAdd, kn, kd, kt, hn, hd, h12, h85, h86, h87', faL foN0, faL foN1, faL foN2, faL foN3, faL foN4, hM.l0, hM.l1, hM.l2, hM.l3, hM.l4, hM.la, hP4.la agC, e1, e2, e3, hw]
    refine ⟨k - 1, by omega, (by simp (disch := decide) only [Kp_put, put_none, hk]), i + 1, nm', ob', v', by simp (disch := first | omega | decide | (simp only [List.length_cons, List.length_nil] <;> omega)) only [push_cast, ↓reduceIte, Nat.reduceLT, Nat.reduceEqDiff, reduceCtorEq, Nat.reduceAdd], by omega, ?_, by rw [htake]; exact B6⟩
    have := g4.nx
    omega
  · have hi : i = n.cells.length := by have := hge; simp at this; omega
    subst hi
    rw [List.take_length] at B
    simp (disch := first | omega | decide | (simp only [List.length_cons, List.length_nil] <;> omega)) only [push_cast, ↓reduceIte, Nat.reduceLT, Nat.reduceEqDiff, reduceCtorEq, Nat.reduceAdd, kn, kd, kt, hn, hd, h12, h85, h86, h87']
    exact ⟨fun j h1 h2 => by rw [if_neg (by omega)]; exact kt j h1 (by simpa using h2), hnx, nm, ob, cv, B⟩

theorem insInsts {b h : AH} {X T B0 : Nat} {n m : Net} {nm : Nat → Nat} {ob : Nat → Option AObj} {cv fv iv ov cv0 fv0 iv0 ov0 : Value} {a : AAct} (hn : a.n = 196) (hd : a.df = []) (hX : X < h.next) (w0 : WFH b) (r : NetR b n cv0 fv0 iv0 ov0) (hN : NetAt b B0 n cv0 fv0 iv0 ov0)
    (hc : n.insts.length ≤ 4294967296) (hdl : ∀ x ∈ n.insts, x.pins.length ≤ 4294967296) (B : Bld b h X T m nm ob cv fv iv ov) (hm : m.insts = []) (h12 : a.tm 12 = .pointer (some ⟨T, 0, none⟩)) (h9 : a.tm 9 = .func (.func 35) #[] #[.pointer (some ⟨B0, 0, none⟩)])
    (h85 : a.tm 103 = iv0) (h86 : a.tm 104 = .int .i64 n.insts.length) (h87 : a.tm 105 = .int .i64 0) :
    AW Tryz.prog none (bodyBlk Tryz.f12 3) (fun e a' h' => e = .exit 3 ∧ a'.n = 196 ∧ a'.df = [] ∧ (∀ i, i < 105 → i ∉ [16] → a'.tm i = a.tm i) ∧ h.next ≤ h'.next ∧ ∃ nm' ob' iv', Bld b h' X T { m with insts := n.insts.map (instS n) } nm' ob' cv fv iv' ov) a h := by
  refine AW.at (rfl : bodyBlk Tryz.f12 3 = .loop _) ?_
  refine AW.loopN 105 [16] (fun k a' h' => ∃ (i : Nat) (nm : Nat → Nat) (ob : Nat → Option AObj) (iv : Value), a'.tm 105 = .int .i64 i ∧ i + k = n.insts.length ∧ h.next ≤ h'.next ∧ Bld b h' X T { m with insts := (n.insts.take i).map (instS n) } nm ob cv fv iv ov) n.insts.length ?_ ?_
  · exact ⟨0, nm, ob, iv, by rw [h87]; rfl, by omega, Nat.le_refl _, by rw [List.take_zero, List.map_nil, Net.setInsts hm]; exact B⟩
  clear B nm ob iv
  rintro a1 k a' h' hk kn kd kt ⟨i, nm, ob, iv, h87', hik, hnx, B⟩
  simp (disch := first | omega | decide | (simp only [List.length_cons, List.length_nil] <;> omega)) only [push_cast, ↓reduceIte, Nat.reduceLT, Nat.reduceEqDiff, reduceCtorEq, Nat.reduceAdd, kn, kd, kt, hn, hd, h12, h9, h85, h86, h87']
  refine condV_of (fun hlt => ?_) (fun hge => ?_)
  · have hi : i < n.insts.length := by have := hlt; simp at this; omega
    have hg := B.own.gr
    have hlo := B.lo
    obtain ⟨cs, ⟨pv, rfl, hpv⟩, hld, -, -⟩ := r.i.get hi default
    replace hld := aLoad_sub hg.sub (hld _ agI)
    have hpl := hdl _ (getD_mem hi default)
    have htake : (n.insts.take (i + 1)).map (instS n) = (n.insts.take i).map (instS n) ++ [instS n (n.insts.getD i default)] := by rw [take_succ_getD hi default, List.map_append]; rfl
    generalize n.insts.getD i default = x at *
    have hone : [Value.int .i64 x.cell, pv].all oneC = true := by simp only [List.all_cons, List.all_nil, hpv.one]; rfl
    have hst := fun (hh : AH) cs e hl => stN agI hh cs e [Value.int .i64 x.cell, pv] hl rfl hone
    have gI := (Gr.refl hg.wf).new (.row [Value.int .i64 x.cell, pv] 36 true)
    have hpv2 := (hpv.sub hg.sub).sub gI.sub
    have hN2 := (hN.sub hg.sub).sub gI.sub
    have hnew : (h'.new (.row [Value.int .i64 x.cell, pv] 36 true)).next = h'.next + 1 := rfl
    have hCs : CsAt (h'.new (.row [Value.int .i64 x.cell, pv] 36 true)) h'.next [Value.int .i64 x.cell, pv] := CsAt.new _ _ _ _
    have hKey : ∀ (rv : Value) (h3 : AH), (Gr (h'.new (.row [Value.int .i64 x.cell, pv] 36 true)) h3 ∧ ∃ ob A, IntsV h3 rv ob A (x.pins.map (shiftE n)) ∧ (∀ o, ob = some o → (h'.new (.row [Value.int .i64 x.cell, pv] 36 true)).next ≤ A)) →
        (rv.cells.toList = [rv] ∧ NetAt h3 T { m with insts := (n.insts.take i).map (instS n) } cv fv iv ov ∧ CsAt h3 h'.next [Value.int .i64 x.cell, pv] ∧ CsAt (h3.new (.row [Value.int .i64 x.cell, rv] 36 true)) h'.next [Value.int .i64 x.cell, pv]) ∧
        aBuildSlice Tryz.prog 24 1 [(0, .agg #[Value.int .i64 x.cell, rv])] h3 = some (.slice (some ⟨h3.next, 0, none⟩) 1 1, h3.new (.row [Value.int .i64 x.cell, rv] 36 true)) ∧
        ∃ v' h5 h6, aAppend Tryz.prog #[24, 24] iv (.slice (some ⟨h3.next, 0, none⟩) 1 1) (h3.new (.row [Value.int .i64 x.cell, rv] 36 true)) = some (v', h5) ∧ CsAt h5 h'.next [Value.int .i64 x.cell, pv] ∧
          aStore Tryz.prog 24 (.pointer (some ⟨T, 3, none⟩)) v' h5 = some h6 ∧ CsAt h6 h'.next [Value.int .i64 x.cell, pv] ∧ h.next ≤ h6.next ∧ ∃ nm' ob', Bld b h6 X T { m with insts := (n.insts.take (i + 1)).map (instS n) } nm' ob' cv fv v' ov := by
      rintro rv h3 ⟨g3, obr, Ar, hrv, hrlo⟩
      have B3 := B.grown (gI.trans g3)
      have hP3 := hCs.sub g3.sub
      have hrel : (instW b.next).rel (away nm ob X h3) [Value.int .i64 x.cell, rv] (instS n x) := ⟨rv, rfl, awayWV B.own (by omega) ⟨obr, Ar, hrv.1, fun o e => ⟨hrv.2 o e, by have := hrlo o e; omega⟩⟩⟩
      obtain ⟨e1, v', h5, h6, e2, e3, nm', ob', B6, n6, s5, s6⟩ := B3.pushI w0 hrel (by simp; omega)
      have hPw : CsAt (away nm ob X h3) h'.next [Value.int .i64 x.cell, pv] := by
        obtain ⟨o, h1, h2⟩ := hP3
        exact ⟨o, hide_get.2 ⟨by omega, hide_get.2 ⟨fun hC => by have := ownLt B.own hC; omega, h1⟩⟩, h2⟩
      have hrv1 : rv.cells.toList = [rv] := by obtain ⟨p, l, c, rfl, _⟩ := hrv.sl; rfl
      have := (gI.trans g3).nx
      exact ⟨⟨hrv1, B3.at, hP3, hP3.sub (Sub.new g3.wf _)⟩, e1, v', h5, h6, e2, hPw.sub s5, e3, hPw.sub s6, by omega, nm', ob', by rw [htake]; exact B6⟩
    have hM2 := B.at.sub gI.sub
    have hsh := shift hN2 hpv2 hpl
    have hw : IntKind.i64.wrap ((i : Int) + 1) = i + 1 := wrapI (by omega) (by omega)
    simp (disch := first | omega | decide | (simp only [List.length_cons, List.length_nil] <;> omega)) only [push_cast, ↓reduceIte, Nat.reduceLT, Nat.reduceEqDiff, reduceCtorEq, Nat.reduceAdd, kn, kd, kt, hn, hd, h12, h9, h85, h86, h87', r.i.idx Tryz.underlying24 infI, hld, alL zrI, hst]
    generalize h'.new (.row [Value.int .i64 x.cell, pv] 36 true) = h2 at gI hpv2 hnew hCs hN2 hM2 hsh hKey ⊢
    refine AW.drawX (.take 0 [12, 11, 10, 1] (.take 2 [12, 11, 10, 9, 8, 3] (.take 4 [12, 11, 10, 9, 8, 7] (.take 5 [12, 11, 10, 9, 8, 7, 6] (.take 6 [12, 11, 10, 9, 8, 7] (.watch 3 [12, 11, 10, 9, 8] (.two 1 (.only 7 (.take 8 [12, 11, 10, 9] (.only 9 (.only 10 (.take 11 [12] (.only 12 .done)))))) 7 (.take 1 [12, 11, 10] (.take 8 [12, 11, 10, 9] (.only 9 (.only 10 (.take 11 [12] (.only 12 .done))))))))))))) (.step 0 0 (.step 0 2 (.step 0 4 (.step 0 5 (.step 0 6 (.step 1 3 (.two 1 (.step 2 7 (.step 0 8 (.step 2 9 (.step 2 10 (.step 0 11 (.step 2 12 .nil)))))) 7 (.step 0 1 (.step 0 8 (.step 2 9 (.step 2 10 (.step 0 11 (.step 2 12 .nil))))))))))))) mixed (by kernel_rfl) rfl ?_
    simp (disch := first | omega | decide | (simp only [List.length_cons, List.length_nil] <;> omega)) only [push_cast, ↓reduceIte, Nat.reduceLT, Nat.reduceEqDiff, reduceCtorEq, Nat.reduceAdd, kn, kd, kt, hn, hd, h12, h9, h85, h86, h87', faL foN0, faL foN1, faL foN2, faL foN3, faL foN4, faL foI0, faL foI1, hM2.l0, hM2.l1, hM2.l2, hM2.l3, hM2.l4, hM2.la, hCs.ld fl3, hCs.ld flI]
    refine ⟨?_, ?_⟩
    · refine ACall.mono ?_ hsh
      intro rv h3 hpost
      obtain ⟨⟨k1, k2, k3, k4⟩, e1, v', h5, h6, e2, k5, e3, k6, n6, nm', ob', B6⟩ := hKey rv h3 hpost
      simp (disch := first | omega | decide | (simp only [List.length_cons, List.length_nil] <;> omega)) only [push_cast, ↓reduceIte, Nat.reduceLT, Nat.reduceEqDiff, reduceCtorEq, Nat.reduceAdd, kn, kd, kt, hn, hd, h12, h9, h85, h86, h87', faL foN0, faL foN1, faL foN2, faL foN3, faL foN4, faL foI0, faL foI1, k2.l0, k2.l1, k2.l2, k2.l3, k2.l4, k2.la, k3.ld fl3, k4.ld fl3, k5.ld fl3, k6.ld fl3, buildI k1, e1, e2, e3, hw]
      exact ⟨k - 1, by omega, (by simp (disch := decide) only [Kp_put, put_none, hk]), i + 1, nm', ob', v', by simp (disch := first | omega | decide | (simp only [List.length_cons, List.length_nil] <;> omega)) only [push_cast, ↓reduceIte, Nat.reduceLT, Nat.reduceEqDiff, reduceCtorEq, Nat.reduceAdd], by omega, n6, B6⟩
    · refine ACall.mono ?_ hsh
      intro rv h3 hpost
      obtain ⟨⟨k1, k2, k3, k4⟩, e1, v', h5, h6, e2, k5, e3, k6, n6, nm', ob', B6⟩ := hKey rv h3 hpost
      simp (disch := first | omega | decide | (simp only [List.length_cons, List.length_nil] <;> omega)) only [push_cast, ↓reduceIte, Nat.reduceLT, Nat.reduceEqDiff, reduceCtorEq, Nat.reduceAdd, kn, kd, kt, hn, hd, h12, h9, h85, h86, h87', faL foN0, faL foN1, faL foN2, faL foN3, faL foN4, faL foI0, faL foI1, k2.l0, k2.l1, k2.l2, k2.l3, k2.l4, k2.la, k3.ld fl3, k4.ld fl3, k5.ld fl3, k6.ld fl3, buildI k1, e1, e2, e3, hw]
      exact ⟨k - 1, by omega, (by simp (disch := decide) only [Kp_put, put_none, hk]), i + 1, nm', ob', v', by simp (disch := first | omega | decide | (simp only [List.length_cons, List.length_nil] <;> omega)) only [push_cast, ↓reduceIte, Nat.reduceLT, Nat.reduceEqDiff, reduceCtorEq, Nat.reduceAdd], by omega, n6, B6⟩
  · have hi : i = n.insts.length := by have := hge; simp at this; omega
    subst hi
    rw [List.take_length] at B
    simp (disch := first | omega | decide | (simp only [List.length_cons, List.length_nil] <;> omega)) only [push_cast, ↓reduceIte, Nat.reduceLT, Nat.reduceEqDiff, reduceCtorEq, Nat.reduceAdd, kn, kd, kt, hn, hd, h12, h9, h85, h86, h87']
    exact ⟨fun j h1 h2 => by rw [if_neg (by omega)]; exact kt j h1 (by simpa using h2), hnx, nm, ob, iv, B⟩


theorem aBuild2 (h : AH) (x y : Int) : aBuildSlice Tryz.prog 25 2 [(0, .int .i64 x), (1, .int .i64 y)] h = some (.slice (some ⟨h.next, 0, none⟩) 2 2, h.new (.row [.int .i64 x, .int .i64 y] 3 true)) := by
  obtain ⟨i, hi, h1, hb, hz⟩ := t22.info
  have hp : plain 9 (.int .i64 0) = true := rfl
  have hc : (Value.int .i64 0).cells.size = 1 := rfl
  have hl : (Value.int .i64 0).cells.toList = [.int .i64 0] := rfl
  have hx1 : ∀ z : Int, (Value.int .i64 z).cells.size = 1 := fun _ => rfl
  have hx2 : ∀ z : Int, (Value.int .i64 z).cells.toList = [.int .i64 z] := fun _ => rfl
  simp only [aBuildSlice, t22.sl, hi, hz, h1, hp, hc, fillL, hl, zeros_one]
  simp [SL, hx1, hx2, setL, oneC, List.replicate]

theorem FrSl.far {e : TypeId} {h0 h : AH} {v : Value} {vs : List Value} (hf : FrSl e h0 h v vs) : ∀ C off l c, v = .slice (some ⟨C, off, none⟩) l c → h0.next ≤ C := by
  intro C off l c e1
  obtain ⟨B, ⟨_, rfl⟩ | ⟨hne, rfl, _⟩, h2⟩ := hf
  · cases e1
  · cases e1; exact h2 hne

theorem insPins {h : AH} {pv nv : Value} {ps ns : List Int} {a : AAct} (hw0 : WFH h) (hn : a.n = 196) (hd : a.df = []) (hp : SlOf h pv (ps.map (.int .i64))) (hns : SlOf h nv (ns.map (.int .i64))) (hps : ∀ z ∈ ps, 0 ≤ z ∧ z < ns.length) (hpl : ps.length ≤ 8) (hnl : ns.length ≤ 8)
    (h144 : a.tm 144 = pv) (h145 : a.tm 145 = .int .i64 ps.length) (h146 : a.tm 146 = .int .i64 0) (h19 : a.tm 19 = nv) (h20 : a.tm 20 = .slice none 0 0) :
    AW Tryz.prog none (bodyBlk Tryz.f12 7) (fun e a' h' => e = .exit 7 ∧ a'.n = 196 ∧ a'.df = [] ∧ (∀ i, i < 146 → i ∉ [20, 22] → a'.tm i = a.tm i) ∧ Gr h h' ∧ FrSl 3 h h' (a'.tm 20) ((ps.map fun k => ns.getD k.toNat 0).map (.int .i64))) a h := by
  refine AW.at (rfl : bodyBlk Tryz.f12 7 = .loop _) ?_
  refine AW.loopN 146 [20, 22] (fun k a' h' => ∃ (i : Nat) (rv : Value), a'.tm 146 = .int .i64 i ∧ a'.tm 20 = rv ∧ i + k = ps.length ∧ Gr h h' ∧ FrSl 3 h h' rv (((ps.take i).map fun k => ns.getD k.toNat 0).map (.int .i64))) ps.length ?_ ?_
  · exact ⟨0, _, by rw [h146]; rfl, h20, by omega, Gr.refl hw0, FrSl.nil _ _ _⟩
  rintro a1 k a' h' hk kn kd kt ⟨i, rv, h146', h20', hik, hg, hf⟩
  simp (disch := first | omega | decide) only [push_cast, ↓reduceIte, Nat.reduceLT, Nat.reduceEqDiff, reduceCtorEq, Nat.reduceAdd, kn, kd, kt, hn, hd, h144, h145, h146', h19, h20']
  refine condV_of (fun hlt => ?_) (fun hge => ?_)
  · have hi : i < ps.length := by have := hlt; simp at this; omega
    have hz := hps _ (getD_mem hi 0)
    have hidx := (hp.sub hg.sub).idxI sl22 .i64 i (by omega) (by omega)
    have hld := (hp.sub hg.sub).ldI sl22 i (by omega)
    rw [Int.toNat_natCast] at hidx
    have htake : (ps.take (i + 1)).map (fun k => ns.getD k.toNat 0) = (ps.take i).map (fun k => ns.getD k.toNat 0) ++ [ns.getD (ps.getD i 0).toNat 0] := by rw [take_succ_getD hi 0, List.map_append]; rfl
    generalize ps.getD i 0 = z at *
    have hidx2 := (hns.sub hg.sub).idxI sl22 .i64 z (by omega) (by omega)
    have hld2 := (hns.sub hg.sub).ldI sl22 z.toNat (by omega)
    have happ := app1 t22 (t := 25) hg hf (by simp; omega) (by simp; omega) (.int .i64 (ns.getD z.toNat 0))
    have hw : IntKind.i64.wrap ((i : Int) + 1) = i + 1 := wrapI (by omega) (by omega)
    simp (disch := first | omega | decide) only [push_cast, ↓reduceIte, Nat.reduceLT, Nat.reduceEqDiff, reduceCtorEq, Nat.reduceAdd, kn, kd, kt, hn, hd, h144, h145, h146', h19, h20', hidx, hld, hidx2, hld2, aBuild1 t22 h' (x := .int .i64 (ns.getD z.toNat 0)) rfl rfl, happ, hw]
    refine ⟨k - 1, by omega, (by simp (disch := decide) only [Kp_put, put_none, hk]), i + 1, app1V h' (ps.take i).length, by simp (disch := first | omega | decide) only [push_cast, ↓reduceIte, Nat.reduceLT, Nat.reduceEqDiff, reduceCtorEq, Nat.reduceAdd], by simp (disch := first | omega | decide) only [push_cast, ↓reduceIte, Nat.reduceLT, Nat.reduceEqDiff, reduceCtorEq, Nat.reduceAdd], by omega, app1_gr hw0 hg hf, ?_⟩
    rw [htake, List.map_append]
    have := app1_fr (e := 3) (x := .int .i64 (ns.getD z.toNat 0)) (v := rv) hg (vs := ((ps.take i).map fun k => ns.getD k.toNat 0).map (.int .i64))
    simpa using this
  · have hi : i = ps.length := by have := hge; simp at this; omega
    subst hi
    rw [List.take_length] at hf
    simp (disch := first | omega | decide) only [push_cast, ↓reduceIte, Nat.reduceLT, Nat.reduceEqDiff, reduceCtorEq, Nat.reduceAdd, kn, kd, kt, hn, hd, h144, h145, h146', h19, h20']
    exact ⟨fun j h1 h2 => by rw [if_neg (by omega)]; exact kt j h1 (by simpa using h2), hg, hf⟩

theorem AW.keep {P : Program} {rd : Option Nat} {c : Code} {Q : Exit → AAct → AH → Prop} {a0 a : AAct} {h : AH} (lo : Nat) (X : List Nat) (hk : Kp lo X a0 a) (F : Kp lo X a0 a → AW P rd c Q a h) : AW P rd c Q a h := F hk

/-! ### What the steps keep -/

theorem insStep_flops (n : Net) (s : Int × Net) (i : Int) : (insStep n s i).2.flops.length = s.2.flops.length := by simp [insStep]
theorem insGo_keep (n : Net) : ∀ (ord : List Int) (s : Int × Net), (ord.foldl (insStep n) s).2.flops.length = s.2.flops.length ∧ (ord.foldl (insStep n) s).2.insts.length = s.2.insts.length + ord.length ∧ (ord.foldl (insStep n) s).2.inputs = s.2.inputs ∧ (ord.foldl (insStep n) s).2.cells = s.2.cells ∧ (ord.foldl (insStep n) s).2.outs = s.2.outs := by
  intro ord
  induction ord with
  | nil => intro s; simp
  | cons i is ih =>
    intro s
    obtain ⟨h1, h2, h3, h4, h5⟩ := ih (insStep n s i)
    rw [List.foldl_cons]
    refine ⟨by rw [h1, insStep_flops], by rw [h2]; simp [insStep]; omega, h3, h4, h5⟩

theorem insGo_before (n : Net) : ∀ (ord : List Int) (s : Int × Net), (∀ z ∈ ord, 0 ≤ z ∧ z < n.flops.length) → 0 ≤ n.inputs ∧ n.inputs ≤ 64 → n.flops.length ≤ 64 → (0 ≤ s.1 ∧ s.1 ≤ 256) → 0 ≤ (ord.foldl (insStep n) s).1 ∧ (ord.foldl (insStep n) s).1 ≤ 256 := by
  intro ord
  induction ord with
  | nil => intro s _ _ _ h; exact h
  | cons i is ih =>
    intro s hz h1 h2 h3
    rw [List.foldl_cons]
    have := hz i (List.mem_cons_self ..)
    exact ih _ (fun z hm => hz z (List.mem_cons_of_mem _ hm)) h1 h2 ⟨by simp only [insStep]; omega, by simp only [insStep]; omega⟩

theorem infB : ∃ i, Tryz.prog.info? 81 = some i ∧ i.size = instL.sz := ⟨(Tryz.prog.info? 81).get (by kernel_rfl), by kernel_rfl, by kernel_rfl⟩

def bindI (x : Int × List Int) : Inst := ⟨x.1, x.2⟩

theorem BindV.row {h : AH} {v : Value} {ob : Option AObj} {A : Nat} {bs : List (Int × List Int)} (hb : BindV h v ob A bs) (hl : bs.length ≤ 4294967296) : RowOf instL h v (bs.map bindI) := by
  obtain ⟨zs, h1, h2, h3⟩ := hb
  refine VecM.row (L := instL) (xs := bs.map bindI) (by rw [List.length_map]; exact h1) h2 (by simpa using hl) (fun i x hx => ?_)
  rw [List.getElem?_map, Option.map_eq_some_iff] at hx
  obtain ⟨y, hy, rfl⟩ := hx
  obtain ⟨pv, e, hs⟩ := h3 i y hy
  exact ⟨pv, e, hs⟩

set_option maxHeartbeats 8000000 in
theorem insOrd {b h : AH} {X T B0 : Nat} {n m : Net} {nm : Nat → Nat} {ob : Nat → Option AObj} {cv fv iv ov cv0 fv0 iv0 ov0 mv v : Value} {ord : List Int} {bs : List Inst} {a : AAct} (hn : a.n = 196) (hd : a.df = []) (hX : X < h.next) (w0 : WFH b) (r : NetR b n cv0 fv0 iv0 ov0) (hN : NetAt b B0 n cv0 fv0 iv0 ov0)
    (hv : SlOf b v (ord.map (.int .i64))) (hol : ord.length ≤ 64) (hord : ∀ z ∈ ord, 0 ≤ z ∧ z < n.flops.length) (hi0 : 0 ≤ n.inputs ∧ n.inputs ≤ 64) (hfl : n.flops.length ≤ 64) (hmf : m.flops.length = n.flops.length) (hml : m.insts.length ≤ 4096) (hmi : m.inputs = n.inputs + 2)
    (hmv : RowOf instL b mv bs) (hbs : bs ≠ []) (hpk : bs.getD 0 default = bindI (pick3 n)) (hpl : (pick3 n).2.length = 3) (hpz : ∀ z ∈ (pick3 n).2, 0 ≤ z ∧ z < 3)
    (B : Bld b h X T m nm ob cv fv iv ov) (h2 : a.tm 2 = .pointer (some ⟨B0, 0, none⟩)) (h7 : a.tm 7 = mv) (h12 : a.tm 12 = .pointer (some ⟨T, 0, none⟩)) (h9 : a.tm 9 = .func (.func 35) #[] #[.pointer (some ⟨B0, 0, none⟩)])
    (h10 : a.tm 10 = .int .i64 n.inputs) (h11 : a.tm 11 = .int .i64 (n.inputs + 1)) (h122 : a.tm 122 = v) (h123 : a.tm 123 = .int .i64 ord.length) (h124 : a.tm 124 = .int .i64 0) :
    AW Tryz.prog none (bodyBlk Tryz.f12 5) (fun e a' h' => e = .exit 5 ∧ a'.n = 196 ∧ a'.df = [] ∧ (∀ i, i < 124 → i ∉ [11, 18, 19, 20, 22] → a'.tm i = a.tm i) ∧ h.next ≤ h'.next ∧ a'.tm 11 = .int .i64 (ord.foldl (insStep n) (n.inputs + 1, m)).1 ∧
      ∃ nm' ob' fv' iv', Bld b h' X T (ord.foldl (insStep n) (n.inputs + 1, m)).2 nm' ob' cv fv' iv' ov) a h := by
  refine AW.at (rfl : bodyBlk Tryz.f12 5 = .loop _) ?_
  refine AW.loopN 124 [11, 18, 19, 20, 22] (fun k a' h' => ∃ (i : Nat) (nm : Nat → Nat) (ob : Nat → Option AObj) (fv iv : Value) (bf : Int), a'.tm 124 = .int .i64 i ∧ i + k = ord.length ∧ h.next ≤ h'.next ∧ a'.tm 11 = .int .i64 bf ∧ bf = ((ord.take i).foldl (insStep n) (n.inputs + 1, m)).1 ∧
      Bld b h' X T ((ord.take i).foldl (insStep n) (n.inputs + 1, m)).2 nm ob cv fv iv ov) ord.length ?_ ?_
  · exact ⟨0, nm, ob, fv, iv, _, by rw [h124]; rfl, by omega, Nat.le_refl _, h11, rfl, B⟩
  clear B nm ob fv iv
  rintro a1 k a' h' hk kn kd kt ⟨i, nm, ob, fv, iv, bf, h124', hik, hnx, h11', hbf, B⟩
  simp (disch := first | omega | decide) only [push_cast, ↓reduceIte, Nat.reduceLT, Nat.reduceEqDiff, reduceCtorEq, Nat.reduceAdd, kn, kd, kt, hn, hd, h2, h7, h9, h10, h12, h122, h123, h124', h11']
  refine condV_of (fun hlt => ?_) (fun hge => ?_)
  · have hi : i < ord.length := by have := hlt; simp at this; omega
    have hg := B.own.gr
    have hlo := B.lo
    obtain ⟨q1, q2, q3, q4, q5⟩ := insGo_keep n (ord.take i) (n.inputs + 1, m)
    have qb := insGo_before n (ord.take i) (n.inputs + 1, m) (fun z hz => hord z (List.mem_of_mem_take hz)) hi0 hfl ⟨by simp only; omega, by simp only; omega⟩
    rw [← hbf] at qb
    have hz := hord _ (getD_mem hi 0)
    have hfold : (ord.take (i + 1)).foldl (insStep n) (n.inputs + 1, m) = insStep n ((ord.take i).foldl (insStep n) (n.inputs + 1, m)) (ord.getD i 0) := by rw [take_succ_getD hi 0, List.foldl_append]; rfl
    have hidx := (hv.sub hg.sub).idxI sl22 .i64 i (by omega) (by omega)
    have hld := (hv.sub hg.sub).ldI sl22 i (by omega)
    rw [Int.toNat_natCast] at hidx
    generalize ord.getD i 0 = z at *
    have htl : (ord.take i).length = i := by rw [List.length_take]; omega
    rw [htl] at q2
    generalize hs : (ord.take i).foldl (insStep n) (n.inputs + 1, m) = s at *
    have hN1 := hN.sub hg.sub
    have hzl : z.toNat < n.flops.length := by omega
    obtain ⟨csf, hcsf, -, hff, hfa⟩ := r.f.get (P := Tryz.prog) hzl default
    have hcsf : csf = _ := hcsf
    subst hcsf
    have hff := aLoad_sub hg.sub (hff 0 _ fl3 (by decide))
    have g1 := (Gr.refl hg.wf).new (.row [.int .i64 (n.flops.getD z.toNat default).next] 3 true)
    have hsl1 : SlOf (h'.new (.row [.int .i64 (n.flops.getD z.toNat default).next] 3 true)) (.slice (some ⟨h'.next, 0, none⟩) 1 1) ([(n.flops.getD z.toNat default).next].map (.int .i64)) :=
      SlOf.lit (by rw [AH.new_get, if_pos rfl]) rfl rfl
    have hsh := shift (hN1.sub g1.sub) hsl1 (by simp)
    have hmv0 : 0 < bs.length := List.length_pos_iff.2 hbs
    have hbi : aIndexAddr Tryz.prog 75 mv (.int .i64 0) = some (slF instL.sz mv 0 0) := hmv.idx Tryz.underlying75 infB .i64 0 (by omega) (by omega)
    obtain ⟨bcs, ⟨pv, rfl, hpv⟩, -, hbl, hba⟩ := hmv.get (P := Tryz.prog) hmv0 default
    rw [hpk] at hbl hpv
    have hbl0 : aLoad Tryz.prog 3 (slF instL.sz mv 0 0) b = some (.int .i64 (pick3 n).1) := hbl 0 _ fl3 (by decide)
    have hbl1 : aLoad Tryz.prog 25 (slF instL.sz mv 0 1) b = some pv := hbl 1 _ flI (by decide)
    have hpv : SlOf b pv ((pick3 n).2.map (.int .i64)) := hpv
    have hba0 := hba _ _ _ foB0
    have hba1 := hba _ _ _ foB1
    simp (disch := first | omega | decide) only [push_cast, ↓reduceIte, Nat.reduceLT, Nat.reduceEqDiff, reduceCtorEq, Nat.reduceAdd, kn, kd, kt, hn, hd, h2, h7, h9, h10, h12, h122, h123, h124', h11', hidx, hld, faL foN0, faL foN1, faL foN2, faL foN3, faL foN4, hN1.l0, hN1.l1, hN1.l2, hN1.l3, hN1.l4, hN1.la, r.f.idx Tryz.underlying23 infF, hfa _ _ _ foF0, hff, aBuild1 t22 h' (x := .int .i64 (n.flops.getD z.toNat default).next) rfl rfl]
    have hnew : (h'.new (.row [.int .i64 (n.flops.getD z.toNat default).next] 3 true)).next = h'.next + 1 := rfl
    generalize h'.new (.row [.int .i64 (n.flops.getD z.toNat default).next] 3 true) = h1 at g1 hsh hnew ⊢
    refine ACall.mono ?_ hsh
    rintro sv k2 ⟨g2, obs, As, hsv, hslo⟩
    have g12 := g1.trans g2
    have g3 := (Gr.refl g2.wf).new (.row [.int .i64 bf, .int .i64 n.inputs] 3 true)
    have hsrc : srcCells 1 (.slice (some ⟨k2.next, 0, none⟩) 2 2) (k2.new (.row [.int .i64 bf, .int .i64 n.inputs] 3 true)) = some (2, [.int .i64 bf, .int .i64 n.inputs]) := by simp [srcCells, AH.new_get, AObj.cells?]
    obtain ⟨nv, k3, happ, hup⟩ := appendVs (t := 25) (t2 := 25) (ys := [.int .i64 bf, .int .i64 n.inputs]) t22 ⟨_, Tryz.underlying25⟩ g3.wf hsv.1 (fun o e => g3.sub _ _ (hsv.2 o e)) hsrc (by simp) rfl (by simp) (by simp)
    obtain ⟨An, on, hVn, hgn, hAn⟩ := hup.up
    have hNs : SlOf k3 nv (([shiftE n (n.flops.getD z.toNat default).next, bf, n.inputs]).map (.int .i64)) := by simpa using hVn.sl (fun o e => by cases e; exact hgn)
    have hg3 : Gr h' k3 := ⟨hup.wf, fun C o hC => hup.frx C o ((g12.sub.trans g3.sub) C o hC) (fun e => by
      cases hob : obs with
      | none => rfl
      | some o2 => have h8 := hslo o2 hob; have h9 := AH.get_lt hg.wf hC; omega), Nat.le_trans g12.nx (Nat.le_trans g3.nx hup.nx)⟩
    simp (disch := first | omega | decide) only [push_cast, ↓reduceIte, Nat.reduceLT, Nat.reduceEqDiff, reduceCtorEq, Nat.reduceAdd, kn, kd, kt, hn, hd, h2, h7, h9, h10, h12, h122, h123, h124', h11', aBuild2, happ, hbi, hba1, aLoad_sub (hg.sub.trans hg3.sub) hbl1, hpv.lenA Tryz.underlying25]
    refine AW.keep 124 [11, 18, 19, 20, 22] (a0 := a1) (by simp (disch := decide) only [Kp_put, put_none, hk]) (fun hkc => ?_)
    refine AW.mono ?_ (insPins (pv := pv) (nv := nv) (ps := (pick3 n).2) (ns := [shiftE n (n.flops.getD z.toNat default).next, bf, n.inputs]) hup.wf (by simp (disch := first | omega | decide) only [push_cast, ↓reduceIte, Nat.reduceLT, Nat.reduceEqDiff, reduceCtorEq, Nat.reduceAdd, kn, hn]) (by simp (disch := first | omega | decide) only [push_cast, ↓reduceIte, Nat.reduceLT, Nat.reduceEqDiff, reduceCtorEq, Nat.reduceAdd, kd, hd]) (hpv.sub (hg.sub.trans hg3.sub)) hNs (by simpa using hpz) (by omega) (by simp) (by simp (disch := first | omega | decide) only [push_cast, ↓reduceIte, Nat.reduceLT, Nat.reduceEqDiff, reduceCtorEq, Nat.reduceAdd]) (by simp (disch := first | omega | decide) only [push_cast, ↓reduceIte, Nat.reduceLT, Nat.reduceEqDiff, reduceCtorEq, Nat.reduceAdd]) (by simp (disch := first | omega | decide) only [push_cast, ↓reduceIte, Nat.reduceLT, Nat.reduceEqDiff, reduceCtorEq, Nat.reduceAdd]) (by simp (disch := first | omega | decide) only [push_cast, ↓reduceIte, Nat.reduceLT, Nat.reduceEqDiff, reduceCtorEq, Nat.reduceAdd]) (by simp (disch := first | omega | decide) only [push_cast, ↓reduceIte, Nat.reduceLT, Nat.reduceEqDiff, reduceCtorEq, Nat.reduceAdd]))
    rintro _ a4 k4 ⟨rfl, hn4, hd4, ht4, g4, hf4⟩
    have hk : Kp 124 [11, 18, 19, 20, 22] a1 a4 := Kp.trans hkc ⟨by rw [hn4]; simp (disch := first | omega | decide) only [push_cast, ↓reduceIte, Nat.reduceLT, Nat.reduceEqDiff, reduceCtorEq, Nat.reduceAdd, kn, hn], by rw [hd4]; simp (disch := first | omega | decide) only [push_cast, ↓reduceIte, Nat.reduceLT, Nat.reduceEqDiff, reduceCtorEq, Nat.reduceAdd, kd, hd], ht4⟩ (by decide) (by decide)
    have hg4 := hg3.trans g4
    have B4 := B.grown hg4
    have q3' : s.2.inputs = n.inputs + 2 := by rw [q3]; exact hmi
    have q1' : s.2.flops.length = n.flops.length := q1.trans hmf
    have q2' : s.2.insts.length ≤ 4096 + i := by rw [q2]; simp only; omega
    have hzt : ((z.toNat : Nat) : Int) = z := Int.toNat_of_nonneg hz.1
    have hw1 : IntKind.i64.wrap (n.inputs + 2 + s.2.flops.length) = n.inputs + 2 + s.2.flops.length := wrapI (by omega) (by omega)
    have hw2 : IntKind.i64.wrap (n.inputs + 2 + s.2.flops.length + s.2.insts.length) = n.inputs + 2 + s.2.flops.length + s.2.insts.length := wrapI (by omega) (by omega)
    have hw3 : IntKind.i64.wrap (n.inputs + 2 + z) = n.inputs + 2 + z := wrapI (by omega) (by omega)
    have hw4 : IntKind.i64.wrap ((i : Int) + 1) = i + 1 := wrapI (by omega) (by omega)
    obtain ⟨e1, e2, k5, ob5, e3, B5, n5, s5⟩ := B4.setF w0 (by omega) (i := z.toNat) (by omega) (n.inputs + 2 + s.2.flops.length + s.2.insts.length)
    rw [hzt] at e1
    have hM4 := B4.at
    have hM5 := B5.at
    have hfw := FrSl.wv hf4
    generalize hrv : a4.tm 20 = rv at *
    have hrv1 := hfw.one.2
    have hrel : (instW b.next).rel (away nm ob5 X k5) [Value.int .i64 (pick3 n).1, rv] (insInst n s z) := ⟨rv, rfl, by
      have := (awayWV (X := X) B.own (by omega) (hfw.le hg3.nx)).sub s5
      rw [hbf] at this; exact this⟩
    obtain ⟨e4, v', k6, k7, e5, e6, nm7, ob7, B7, n7, -, -⟩ := B5.pushI w0 hrel (by simp only; omega)
    have hM7 := B7.at
    have hl5 := B5.own.gr.sub
    simp (disch := first | omega | decide) only [push_cast, ↓reduceIte, Nat.reduceLT, Nat.reduceEqDiff, reduceCtorEq, Nat.reduceAdd, hn4, hd4, ht4, hrv, kn, kd, kt, hn, hd, h2, h7, h9, h10, h12, h122, h123, h124', h11', faL foN0, faL foN1, faL foN2, faL foN3, faL foN4, hM4.l0, hM4.l1, hM4.l2, hM4.l3, hM4.l4, hM4.la, B4.f.len Tryz.underlying23, B4.i.len Tryz.underlying24, q3', hw1, hw2, e1, e2, e3]
    refine AW.drawP (.take 0 [11, 10, 9, 1] (.take 1 [11, 10, 9] (.take 2 [11, 10, 9, 8, 7, 5, 4, 3] (.take 3 [11, 10, 9, 8, 7, 5, 4] (.take 4 [11, 10, 9, 8, 7, 5] (.take 5 [11, 10, 9, 8, 7] (.take 6 [11, 10, 9, 8, 7] (.take 7 [11, 10, 9, 8] (.only 8 (.only 9 (.take 10 [11] (.only 11 .done)))))))))))) [(0, 0), (0, 1), (0, 2), (0, 3), (0, 4), (0, 5), (0, 6), (0, 7), (2, 8), (2, 9), (0, 10), (2, 11)] mixed (by kernel_rfl) (by kernel_rfl) ?_
    simp (disch := first | omega | decide) only [push_cast, ↓reduceIte, Nat.reduceLT, Nat.reduceEqDiff, reduceCtorEq, Nat.reduceAdd, hn4, hd4, ht4, hrv, kn, kd, kt, hn, hd, h2, h7, h9, h10, h12, h122, h123, h124', h11', faL foN0, faL foN1, faL foN2, faL foN3, faL foN4, hM5.l0, hM5.l1, hM5.l2, hM5.l3, hM5.l4, hM5.la, hbi, hba0, aLoad_sub hl5 hbl0, buildI hrv1, e4, e5, e6, hM7.l0, hM7.l1, hM7.l2, hM7.l3, hM7.l4, hM7.la, q3', hw3, hw4]
    refine ⟨k - 1, by omega, (by simp (disch := decide) only [Kp_put, put_none, hk]), i + 1, nm7, ob7, fv, v', n.inputs + 2 + z, by simp (disch := first | omega | decide) only [push_cast, ↓reduceIte, Nat.reduceLT, Nat.reduceEqDiff, reduceCtorEq, Nat.reduceAdd], by omega, ?_, by simp (disch := first | omega | decide) only [push_cast, ↓reduceIte, Nat.reduceLT, Nat.reduceEqDiff, reduceCtorEq, Nat.reduceAdd], by rw [hfold]; rfl, by rw [hfold]; exact B7⟩
    have := hg4.nx
    omega
  · have hi : i = ord.length := by have := hge; simp at this; omega
    subst hi
    rw [List.take_length] at B hbf
    simp (disch := first | omega | decide) only [push_cast, ↓reduceIte, Nat.reduceLT, Nat.reduceEqDiff, reduceCtorEq, Nat.reduceAdd, kn, kd, kt, hn, hd, h2, h7, h9, h10, h12, h122, h123, h124', h11']
    exact ⟨fun j h1 h2 => by rw [if_neg (by omega)]; exact kt j h1 (by simpa using h2), hnx, by rw [hbf], nm, ob, fv, iv, B⟩


section
variable {b h : AH} {X T : Nat} {m : Net} {nm : Nat → Nat} {ob : Nat → Option AObj} {cv fv iv ov : Value}

/-- An output more. -/
theorem Bld.pushO (B : Bld b h X T m nm ob cv fv iv ov) (w0 : WFH b) (y : Int) (hb : m.outs.length ≤ 4294967296) :
    aBuildSlice Tryz.prog 25 1 [(0, .int .i64 y)] h = some (.slice (some ⟨h.next, 0, none⟩) 1 1, h.new (.row [.int .i64 y] 3 true)) ∧
    ∃ v' h' h'', aAppend Tryz.prog #[25, 25] ov (.slice (some ⟨h.next, 0, none⟩) 1 1) (h.new (.row [.int .i64 y] 3 true)) = some (v', h') ∧
      aStore Tryz.prog 25 (.pointer (some ⟨T, 4, none⟩)) v' h' = some h'' ∧ ∃ nm' ob', Bld b h'' X T { m with outs := m.outs ++ [y] } nm' ob' cv fv iv v' := by
  have g3 := (Gr.refl B.own.gr.wf).new (.row [.int .i64 y] 3 true)
  have B1 := B.grown g3
  have s1 : Sub (away nm ob X h) (away nm ob X (h.new (.row [.int .i64 y] 3 true))) := hide_mono (hide_mono g3.sub)
  have hB : (h.new (.row [.int .i64 y] 3 true)).get h.next = some (.row [.int .i64 y] 3 true) := by rw [AH.new_get, if_pos rfl]
  obtain ⟨v', h', happ, hup⟩ := appendV (t := 25) (t2 := 25) t22 ⟨_, Tryz.underlying25⟩ g3.wf B1.o (B1.own.get 3) hB rfl rfl (by simp; omega) (by simp; omega)
  obtain ⟨A', o', hV, hgA, hAA⟩ := hup.up
  obtain ⟨o2, s2⟩ := ownUp (r := 3) w0 B1.own hgA hAA hup.frx hup.wf hup.nx
  replace s2 : Sub (away nm ob X _) (away (upd nm 3 A') (upd ob 3 (some o')) X h') := hide_mono s2
  have h4 : upd ob 3 (some o') 4 = some (.row (netC m cv fv iv ov) 27 true) := by rw [upd_ne _ _ (by decide)]; exact B.at4
  have n4 : upd nm 3 A' 4 = T := by rw [upd_ne _ _ (by decide)]; exact B.t
  have hg := o2.get 4 _ h4
  rw [n4] at hg
  obtain ⟨o3, s3⟩ := ownSet (X := X) (o' := .row ((netC m cv fv iv ov).set 4 v') 27 true) w0 o2 h4
  rw [n4] at o3 s3
  have hv1 : v'.cells.toList = [v'] ∧ oneC v' = true := by
    obtain ⟨p, l, c, rfl, _⟩ := hV.sl (h := h') (fun o e => by cases e; exact hgA)
    exact ⟨rfl, rfl⟩
  refine ⟨aBuild1 t22 h (x := .int .i64 y) rfl rfl, v', h', _, happ, stC szI hg 4 v' (by simp [netC]) hv1.1 hv1.2, _, _, ⟨o3, n4, ?_, ?_, ?_, ?_, ?_⟩⟩
  · rw [upd_same]; rfl
  · rw [upd_ne _ _ (by decide), upd_ne _ _ (by decide), upd_ne _ _ (by decide)]; exact (B1.c.sub s2).sub s3
  · rw [upd_ne _ _ (by decide), upd_ne _ _ (by decide), upd_ne _ _ (by decide)]; exact (B1.f.sub s2).sub s3
  · rw [upd_ne _ _ (by decide), upd_ne _ _ (by decide), upd_ne _ _ (by decide)]; exact (B1.i.sub s2).sub s3
  · rw [upd_ne _ _ (by decide), upd_same, upd_same]; simpa using hV

theorem Bld.one (B : Bld b h X T m nm ob cv fv iv ov) : (netC m cv fv iv ov).all oneC = true := by
  have h5 : oneC ov = true := by
    obtain ⟨p, l, c, rfl, _⟩ := B.o.sl (h := h) (B.own.get 3)
    rfl
  simp only [netC, List.all_cons, List.all_nil, B.c.one.1, B.f.one.1, B.i.one.1, h5]; rfl

theorem Bld.net (B : Bld b h X T m nm ob cv fv iv ov) (hX : X < b.next) (o : AObj) (hc : m.cells.length ≤ 4294967296) (hf : m.flops.length ≤ 4294967296) (hi : m.insts.length ≤ 4294967296) : NetR (h.set X o) m cv fv iv ov := by
  have s : Sub (away nm ob X h) (h.set X o) := fun C p hC => by
    obtain ⟨h1, h2⟩ := hide_get.1 hC
    rw [AH.set_get, if_neg h1]; exact hide_sub _ _ _ _ h2
  have hg : ∀ r p, ob r = some p → (h.set X o).get (nm r) = some p := fun r p hr => by
    have := B.own.lo r p hr
    rw [AH.set_get, if_neg (by omega)]; exact B.own.get r p hr
  exact ⟨rowCellW ((B.c.sub s).row (hg 0) hc), (B.f.sub s).row (hg 1) hf, rowInstW ((B.i.sub s).row (hg 2) hi), B.o.sl (hg 3)⟩
end

/-! ### The netlist, laid -/

def insBase0 (n : Net) : Net := ⟨[], n.inputs + 2, n.flops, [], n.outs.map (shiftE n)⟩

theorem FlopsV.sub {h h' : AH} {v : Value} {ob : Option AObj} {A : Nat} {xs : List Flop} (hv : FlopsV h v ob A xs) (s : Sub h h') : FlopsV h' v ob A xs := by
  obtain ⟨zs, h1, h2, h3⟩ := hv
  exact ⟨zs, h1, fun o e => s _ _ (h2 o e), h3⟩
theorem IntsV.sub {h h' : AH} {v : Value} {ob : Option AObj} {A : Nat} {xs : List Int} (hv : IntsV h v ob A xs) (s : Sub h h') : IntsV h' v ob A xs := ⟨hv.1, fun o e => s _ _ (hv.2 o e)⟩
theorem FlopsV.one {h : AH} {v : Value} {ob : Option AObj} {A : Nat} {xs : List Flop} (hv : FlopsV h v ob A xs) : oneC v = true ∧ v.cells.toList = [v] := by
  obtain ⟨zs, h1, _⟩ := hv
  exact h1.one
theorem IntsV.one {h : AH} {v : Value} {ob : Option AObj} {A : Nat} {xs : List Int} (hv : IntsV h v ob A xs) : oneC v = true ∧ v.cells.toList = [v] := by
  obtain ⟨p, l, c, rfl, _⟩ := hv.sl
  exact ⟨rfl, rfl⟩

theorem FlopsV.lt {h : AH} {v : Value} {ob : Option AObj} {A : Nat} {xs : List Flop} (hv : FlopsV h v ob A xs) (w : WFH h) : ∀ o, ob = some o → A < h.next := fun o e => by
  obtain ⟨zs, h1, h2, _⟩ := hv
  exact AH.get_lt w (h2 o e)
theorem IntsV.lt {h : AH} {v : Value} {ob : Option AObj} {A : Nat} {xs : List Int} (hv : IntsV h v ob A xs) (w : WFH h) : ∀ o, ob = some o → A < h.next := fun o e => AH.get_lt w (hv.2 o e)
theorem NetAt.lt {h : AH} {B : Nat} {n : Net} {cv fv iv ov : Value} (r : NetAt h B n cv fv iv ov) (w : WFH h) : B < h.next := by
  obtain ⟨o, h1, _⟩ := r
  exact AH.get_lt w h1
theorem NetAt.keep {h h' : AH} {B T : Nat} {n : Net} {cv fv iv ov : Value} (r : NetAt h B n cv fv iv ov) (hk : ∀ C, C ≠ T → h'.get C = h.get C) (hne : B ≠ T) : NetAt h' B n cv fv iv ov := by
  obtain ⟨o, h1, h2⟩ := r
  exact ⟨o, by rw [hk B hne]; exact h1, h2⟩

theorem madeB {b h : AH} {X T AF AO : Nat} {n : Net} {fr ov : Value} {obF obO : Option AObj} (w0 : WFH b) (g : Gr b h) (hT : h.get T = some (.row zeroC 27 true)) (hTb : b.next ≤ T) (hF : FlopsV h fr obF AF n.flops) (hFb : ∀ o, obF = some o → b.next ≤ AF)
    (hO : IntsV h ov obO AO (n.outs.map (shiftE n))) (hOb : ∀ o, obO = some o → b.next ≤ AO) (d1 : ∀ o p, obF = some o → obO = some p → AF ≠ AO) (d2 : ∀ o, obF = some o → AF ≠ T) (d3 : ∀ o, obO = some o → AO ≠ T) :
    ∃ h', aStore Tryz.prog 27 (.pointer (some ⟨T, 0, none⟩)) (.agg #[.slice none 0 0, .int .i64 (n.inputs + 2), fr, .slice none 0 0, ov]) h = some h' ∧ h.next = h'.next ∧ (∀ C, C ≠ T → h'.get C = h.get C) ∧ ∃ nm ob, Bld b h' X T (insBase0 n) nm ob (.slice none 0 0) fr (.slice none 0 0) ov := by
  have hst := stA agN hT rfl [.slice none 0 0, .int .i64 (n.inputs + 2), fr, .slice none 0 0, ov] rfl (by simp only [List.all_cons, List.all_nil, hF.one.1, hO.one.1]; rfl)
  have hlt := AH.get_lt g.wf hT
  refine ⟨_, hst, by simp, fun C hC => by rw [AH.set_get, if_neg hC], fun r => if r = 1 then AF else if r = 3 then AO else T, fun r => if r = 1 then obF else if r = 3 then obO else if r = 4 then some (.row [.slice none 0 0, .int .i64 (n.inputs + 2), fr, .slice none 0 0, ov] 27 true) else none, ⟨⟨?_, ?_, ?_, g.set w0 hTb hlt _⟩, rfl, rfl, RowV.nil, ?_, RowV.nil, ?_⟩⟩
  · intro r o hr
    by_cases h1 : r = 1
    · subst h1
      simp only [if_true] at hr ⊢
      rw [AH.set_get, if_neg (d2 o hr)]
      obtain ⟨zs, _, h2, _⟩ := hF
      exact h2 o hr
    · by_cases h3 : r = 3
      · subst h3
        simp only [if_neg h1, if_true] at hr ⊢
        rw [AH.set_get, if_neg (d3 o hr)]
        exact hO.2 o hr
      · by_cases h4 : r = 4
        · subst h4
          simp only [if_neg h1, if_neg h3, if_true] at hr ⊢
          cases hr
          rw [AH.set_get, if_pos rfl]
        · simp only [if_neg h1, if_neg h3, if_neg h4] at hr; cases hr
  · intro r s o p hr hs hne
    by_cases h1 : r = 1
    · subst h1
      simp only [if_true] at hr ⊢
      rw [if_neg (fun e => hne e.symm)] at hs ⊢
      by_cases h3 : s = 3
      · subst h3; simp only [if_true] at hs ⊢; exact d1 _ _ hr hs
      · rw [if_neg h3]; exact d2 _ hr
    · rw [if_neg h1] at hr ⊢
      by_cases h3 : r = 3
      · subst h3
        simp only [if_true] at hr ⊢
        by_cases h5 : s = 1
        · subst h5; simp only [if_true] at hs ⊢; exact fun e => d1 _ _ hs hr e.symm
        · rw [if_neg h5, if_neg (fun e => hne e.symm)]; exact d3 _ hr
      · rw [if_neg h3] at hr ⊢
        by_cases h4 : r = 4
        · subst h4
          by_cases h5 : s = 1
          · subst h5; simp only [if_true] at hs ⊢; exact fun e => d2 _ hs e.symm
          · rw [if_neg h5] at hs ⊢
            by_cases h6 : s = 3
            · subst h6; simp only [if_true] at hs ⊢; exact fun e => d3 _ hs e.symm
            · rw [if_neg h6, if_neg (fun e => hne e.symm)] at hs; cases hs
        · rw [if_neg h4] at hr; cases hr
  · intro r o hr
    by_cases h1 : r = 1
    · subst h1; simp only [if_true] at hr ⊢; exact hFb o hr
    · rw [if_neg h1] at hr ⊢
      by_cases h3 : r = 3
      · subst h3; simp only [if_true] at hr ⊢; exact hOb o hr
      · rw [if_neg h3]; exact hTb
  · obtain ⟨zs, h1, h2, h3⟩ := hF
    exact ⟨zs, h1, h3⟩
  · exact hO.1

/-! ### Insert -/

noncomputable def insR (n : Net) (ord : List Int) : Net := open Classical in if insE n ord = 0 then insN n ord else zeroN

theorem rowNil {α : Type} {L : Lay α} {h : AH} : RowOf L h (.slice none 0 0) ([] : List α) := ⟨none, 0, 0, rfl, rfl, ⟨fun q e => (nomatch e), Nat.le_refl _, .inl (by unfold SL; omega)⟩, .inl rfl⟩

theorem zeroR (h : AH) : NetR h zeroN (.slice none 0 0) (.slice none 0 0) (.slice none 0 0) (.slice none 0 0) := ⟨rowNil, rowNil, rowNil, ⟨none, 0, 0, rfl, rfl, fun q e => (nomatch e), .inl rfl⟩⟩

/-- What of a netlist is one's own, from N on. -/
structure NetOwn (N : Nat) (h : AH) (m : Net) (cv iv ov : Value) : Prop where
  c : ∃ ob A, RowV (cellW N) 40 h cv ob A m.cells ∧ ∀ o, ob = some o → h.get A = some o
  i : ∃ ob A, RowV (instW N) 36 h iv ob A m.insts ∧ ∀ o, ob = some o → h.get A = some o
  o : WV 3 N h ov (m.outs.map (.int .i64))

theorem NetOwn.le {N M : Nat} {h : AH} {m : Net} {cv iv ov : Value} (w : NetOwn N h m cv iv ov) (hm : M ≤ N) : NetOwn M h m cv iv ov := by
  obtain ⟨⟨ob, A, a, b⟩, ⟨ob', A', a', b'⟩, c⟩ := w
  exact ⟨⟨ob, A, RowV.imp (L := cellW N) (L' := cellW M) rfl (fun _ _ ⟨dv, e, hd⟩ => ⟨dv, e, hd.le hm⟩) a, b⟩, ⟨ob', A', RowV.imp (L := instW N) (L' := instW M) rfl (fun _ _ ⟨dv, e, hd⟩ => ⟨dv, e, hd.le hm⟩) a', b'⟩, c.le hm⟩

theorem NetOwn.zero (N : Nat) (h : AH) : NetOwn N h zeroN (.slice none 0 0) (.slice none 0 0) (.slice none 0 0) :=
  ⟨⟨none, 0, RowV.nil, fun o e => (nomatch e)⟩, ⟨none, 0, RowV.nil, fun o e => (nomatch e)⟩, WV.nil⟩

theorem Bld.netOwn {b h : AH} {X T : Nat} {m : Net} {nm : Nat → Nat} {ob : Nat → Option AObj} {cv fv iv ov : Value} (B : Bld b h X T m nm ob cv fv iv ov) (hX : X < b.next) (o : AObj) : NetOwn b.next (h.set X o) m cv iv ov := by
  have s : Sub (away nm ob X h) (h.set X o) := fun C p hC => by
    obtain ⟨h1, h2⟩ := hide_get.1 hC
    rw [AH.set_get, if_neg h1]; exact hide_sub _ _ _ _ h2
  have hg : ∀ r p, ob r = some p → (h.set X o).get (nm r) = some p := fun r p hr => by
    have := B.own.lo r p hr
    rw [AH.set_get, if_neg (by omega)]; exact B.own.get r p hr
  exact ⟨⟨_, _, B.c.sub s, hg 0⟩, ⟨_, _, B.i.sub s, hg 2⟩, _, _, B.o, fun o e => ⟨hg 3 o e, B.own.lo 3 o e⟩⟩

def InsPost (n : Net) (ord : List Int) (h : AH) (r : Value) (h' : AH) : Prop :=
  Gr h h' ∧ ∃ cv fv iv ov, r = .tuple #[.agg (netC (insR n ord) cv fv iv ov).toArray, .int .i64 (insE n ord)] ∧ NetR h' (insR n ord) cv fv iv ov

def InsOwn (n : Net) (ord : List Int) (h : AH) (r : Value) (h' : AH) : Prop :=
  Gr h h' ∧ ∃ cv fv iv ov, r = .tuple #[.agg (netC (insR n ord) cv fv iv ov).toArray, .int .i64 (insE n ord)] ∧ NetR h' (insR n ord) cv fv iv ov ∧ NetOwn h.next h' (insR n ord) cv iv ov

theorem insFail {n : Net} {ord : List Int} {h k : AH} {X : Nat} (w0 : WFH h) (g : Gr h k) (hX : h.next ≤ X) (hXr : k.get X = some (.row zeroC 27 true)) (e : Int) (he : insE n ord = e) (hne : e ≠ 0) :
    aStore Tryz.prog 27 (.pointer (some ⟨X, 0, none⟩)) (.agg zeroC.toArray) k = some (k.set X (.row zeroC 27 true)) ∧
    aLoad Tryz.prog 27 (.pointer (some ⟨X, 0, none⟩)) (k.set X (.row zeroC 27 true)) = some (.agg zeroC.toArray) ∧
    InsOwn n ord h (.tuple #[.agg zeroC.toArray, .int .i64 e]) (k.set X (.row zeroC 27 true)) := by
  have hlt := AH.get_lt g.wf hXr
  refine ⟨stA agN hXr rfl _ rfl rfl, ldLA (by rw [AH.set_get, if_pos rfl]) rfl agN rfl, g.set w0 hX hlt _, .slice none 0 0, .slice none 0 0, .slice none 0 0, .slice none 0 0, ?_, ?_, ?_⟩
  · have : insR n ord = zeroN := by unfold insR; rw [if_neg (by rw [he]; exact hne)]
    rw [this, he]; rfl
  · have : insR n ord = zeroN := by unfold insR; rw [if_neg (by rw [he]; exact hne)]
    rw [this]; exact zeroR _
  · have : insR n ord = zeroN := by unfold insR; rw [if_neg (by rw [he]; exact hne)]
    rw [this]; exact NetOwn.zero _ _

theorem cellsE_len {l : List Cell} (h : (cellsE l).2 = 0) : l.length ≤ 32 := by
  unfold cellsE at h
  by_cases hl : l.length > 32
  · rw [if_pos hl] at h; simp at h
  · omega

theorem scanE_zero {n : Net} {ord : List Int} (h : scanE n ord = 0) : netE n = 0 ∧ IsPerm ord ∧ (ord.length : Int) = n.flops.length := by
  unfold scanE at h
  by_cases h1 : netE n = 0
  · rw [if_neg (by simpa using h1)] at h
    by_cases h2 : IsPerm ord ∧ (ord.length : Int) = n.flops.length
    · exact ⟨h1, h2⟩
    · rw [if_neg h2] at h; cases h
  · rw [if_pos h1] at h; exact absurd h h1

theorem matchGo_len {tt : Int} {N : Nat} (hN : N ≤ 4) : ∀ (l : List Cell) (j : Nat), (matchGo tt N j l).length ≤ 24 * l.length := by
  intro l
  induction l with
  | nil => intro j; simp [matchGo]
  | cons c cs ih =>
    intro j
    rw [matchGo, List.length_append, List.length_cons]
    have h1 := ih (j + 1)
    have h2 := cellM_le tt N c.table j (ext N N [])
    have h3 := ext_le hN
    by_cases hp : c.pins = N
    · rw [if_pos hp]; omega
    · rw [if_neg hp]; simp; omega

/-- Behind the netlist's laying. -/
def Made (n : Net) (v mv : Value) (B0 X : Nat) (b : AH) (a : AAct) (h : AH) : Prop :=
  a.n = 196 ∧ a.df = [] ∧ a.tm 1 = v ∧ a.tm 2 = .pointer (some ⟨B0, 0, none⟩) ∧ a.tm 4 = .pointer (some ⟨X, 0, none⟩) ∧ a.tm 7 = mv ∧ a.tm 9 = .func (.func 35) #[] #[.pointer (some ⟨B0, 0, none⟩)] ∧ a.tm 10 = .int .i64 n.inputs ∧ a.tm 11 = .int .i64 (n.inputs + 1) ∧
  ∃ T nm ob fr orr, a.tm 12 = .pointer (some ⟨T, 0, none⟩) ∧ Bld b h X T (insBase0 n) nm ob (.slice none 0 0) fr (.slice none 0 0) orr

theorem insertO {h : AH} {n : Net} {cv fv iv ov v : Value} {ord : List Int} (r : NetR h n cv fv iv ov) (ok : NetOK n) (hv : SlOf h v (ord.map (.int .i64))) (hb : ord.length ≤ 17592186043904) :
    ACall Tryz.prog 12 [.agg (netC n cv fv iv ov).toArray, v] h (InsOwn n ord h) := by
  refine ACall.wf ⟨_, Tryz.func12, rfl, by kernel_rfl⟩ fun hwf => ?_
  refine ACall.of_wp 196 [.cell 4 27, .tmp 5] Tryz.func12 rfl (by kernel_rfl) rfl rfl fun a hn hd ha => ?_
  have hbox := boxA 27 h _ r.one
  have hN := NetAt.new (h := h) (n := n) (cv := cv) (fv := fv) (iv := iv) (ov := ov)
  have g1 : Gr h (h.new (.row (netC n cv fv iv ov) 27 true)) := (Gr.refl hwf).new _
  have hnx : (h.new (.row (netC n cv fv iv ov) 27 true)).next = h.next + 1 := rfl
  simp (disch := first | omega | decide) only [push_cast, ↓reduceIte, Nat.reduceLT, Nat.reduceEqDiff, reduceCtorEq, Nat.reduceAdd, hn, hd, ha, hbox, alL zrN]
  generalize h.new (.row (netC n cv fv iv ov) 27 true) = h1 at hN g1 hnx ⊢
  have g2 := (Gr.refl g1.wf).new (.row zeroC 27 true)
  have hX : (h1.new (.row zeroC 27 true)).get h1.next = some (.row zeroC 27 true) := by rw [AH.new_get, if_pos rfl]
  have hXlo : h.next ≤ h1.next := by omega
  replace g2 := g1.trans g2
  have hN2 := hN.sub (Sub.new g1.wf (.row zeroC 27 true))
  generalize h1.new (.row zeroC 27 true) = h2 at g2 hX hN2 ⊢
  generalize h1.next = X at hX hXlo ⊢
  generalize h.next = B0 at hN2 ⊢
  clear hN g1 hnx h1
  have r2 := r.sub g2.sub
  have hv2 := hv.sub g2.sub
  simp (disch := first | omega | decide) only [push_cast, ↓reduceIte, Nat.reduceLT, Nat.reduceEqDiff, reduceCtorEq, Nat.reduceAdd, hn, hd, ha, hN2.l0, hN2.l1, hN2.l2, hN2.l3, hN2.l4, hN2.la]
  refine ACall.mono ?_ (scanCheck r2 ok hv2 hb)
  rintro _ h2 ⟨rfl, rfl⟩
  simp (disch := first | omega | decide) only [push_cast, ↓reduceIte, Nat.reduceLT, Nat.reduceEqDiff, reduceCtorEq, Nat.reduceAdd, hn, hd, ha]
  refine condV_not (fun e0 => ?_) (fun e0 => ?_)
  · have e : ¬ scanE n ord = 0 := by simpa using e0
    obtain ⟨f1, f2, f3⟩ := insFail (n := n) (ord := ord) hwf g2 hXlo hX (scanE n ord) (by rw [insE, if_pos e]) e
    simp (disch := first | omega | decide) only [push_cast, ↓reduceIte, Nat.reduceLT, Nat.reduceEqDiff, reduceCtorEq, Nat.reduceAdd, hn, hd, ha, buildN0, f1, f2]
    exact f3
  have e : scanE n ord = 0 := by simpa using e0
  obtain ⟨hnet, hperm, hol⟩ := scanE_zero e
  have s := ShapeOK.of (netE_zero.1 hnet).1
  have hcl := cellsE_len s.cells
  have hi0 := s.i0
  have hi1 := s.i1
  have hfl := s.fl
  have houl := s.ol
  have hil := s.il
  simp (disch := first | omega | decide) only [push_cast, ↓reduceIte, Nat.reduceLT, Nat.reduceEqDiff, reduceCtorEq, Nat.reduceAdd, hn, hd, ha, e, faL foN0, faL foN1, faL foN2, faL foN3, faL foN4, hN2.l0, hN2.l1, hN2.l2, hN2.l3, hN2.l4, hN2.la]
  refine ACall.mono ?_ (matchN (tt := 202) (N := 3) r2.c ok.cell (by decide) (by decide) (by decide) (by omega))
  rintro _ h3 ⟨g3, mv, rfl, obm, Am, hbv⟩
  have gb := g2.trans g3
  have hX3 := g3.sub _ _ hX
  have hN3 := hN2.sub g3.sub
  have r3 := r2.sub g3.sub
  have hv3 := hv2.sub g3.sub
  by_cases hm : ¬ matchE n.cells 202 3 = 0
  · obtain ⟨f1, f2, f3⟩ := insFail (n := n) (ord := ord) hwf gb hXlo hX3 20 (by rw [insE, if_neg (by simpa using e), if_pos (.inl hm)]) (by decide)
    simp (disch := first | omega | decide) only [push_cast, ↓reduceIte, Nat.reduceLT, Nat.reduceEqDiff, reduceCtorEq, Nat.reduceAdd, hn, hd, ha, hm, buildN0, f1, f2]
    exact f3
  replace hm : matchE n.cells 202 3 = 0 := Classical.not_not.1 hm
  rw [if_pos hm] at hbv
  have hlen : ∀ h, aLen Tryz.prog 75 mv h = some (.int .i64 (matchGo 202 3 0 n.cells).length) := by
    obtain ⟨zs, hV, _⟩ := hbv
    exact VecM.len hV Tryz.underlying75
  by_cases hl : matchGo 202 3 0 n.cells = []
  · obtain ⟨f1, f2, f3⟩ := insFail (n := n) (ord := ord) hwf gb hXlo hX3 20 (by rw [insE, if_neg (by simpa using e), if_pos (.inr hl)]) (by decide)
    simp (disch := first | omega | decide) only [push_cast, ↓reduceIte, Nat.reduceLT, Nat.reduceEqDiff, reduceCtorEq, Nat.reduceAdd, hn, hd, ha, hm, hlen, hl, List.length_nil, Int.natCast_zero, Int.ofNat_zero, buildN0, f1, f2]
    exact f3
  have hl0 : ¬ (((matchGo 202 3 0 n.cells).length : Int) = 0) := fun x => hl (List.eq_nil_of_length_eq_zero (by omega))
  have hw0 : IntKind.i64.wrap (n.inputs + 2) = n.inputs + 2 := wrapI (by omega) (by omega)
  have hw1 : IntKind.i64.wrap (n.inputs + 1) = n.inputs + 1 := wrapI (by omega) (by omega)
  have hw2 : IntKind.i64.wrap ((n.insts.length : Int) + n.flops.length) = n.insts.length + n.flops.length := wrapI (by omega) (by omega)
  by_cases hbig : n.inputs + 2 > 64 ∨ (n.outs.length : Int) ≥ 64 ∨ ((n.insts.length : Int) + n.flops.length > 4096)
  · obtain ⟨f1, f2, f3⟩ := insFail (n := n) (ord := ord) hwf gb hXlo hX3 5 (by rw [insE, if_neg (by simpa using e), if_neg (by rintro (x | x); exact x hm; exact hl x), if_pos hbig]) (by decide)
    by_cases c1 : n.inputs + 2 > 64
    · simp (disch := first | omega | decide) only [push_cast, ↓reduceIte, Nat.reduceLT, Nat.reduceEqDiff, reduceCtorEq, Nat.reduceAdd, hn, hd, ha, hm, hlen, hl0, faL foN0, faL foN1, faL foN2, faL foN3, faL foN4, hN3.l0, hN3.l1, hN3.l2, hN3.l3, hN3.l4, hN3.la, hw0, c1, buildN0, f1, f2]
      exact f3
    by_cases c2 : (n.outs.length : Int) ≥ 64
    · simp (disch := first | omega | decide) only [push_cast, ↓reduceIte, Nat.reduceLT, Nat.reduceEqDiff, reduceCtorEq, Nat.reduceAdd, hn, hd, ha, hm, hlen, hl0, faL foN0, faL foN1, faL foN2, faL foN3, faL foN4, hN3.l0, hN3.l1, hN3.l2, hN3.l3, hN3.l4, hN3.la, hw0, c1, c2, r3.o.lenA Tryz.underlying25, buildN0, f1, f2]
      exact f3
    have c3 : (n.insts.length : Int) + n.flops.length > 4096 := by
      rcases hbig with x | x | x
      · exact absurd x c1
      · exact absurd x c2
      · exact x
    simp (disch := first | omega | decide) only [push_cast, ↓reduceIte, Nat.reduceLT, Nat.reduceEqDiff, reduceCtorEq, Nat.reduceAdd, hn, hd, ha, hm, hlen, hl0, faL foN0, faL foN1, faL foN2, faL foN3, faL foN4, hN3.l0, hN3.l1, hN3.l2, hN3.l3, hN3.l4, hN3.la, hw0, hw2, c1, c2, c3, r3.o.lenA Tryz.underlying25, r3.i.len Tryz.underlying24, r3.f.len Tryz.underlying23, buildN0, f1, f2]
    exact f3
  have he : insE n ord = 0 := by rw [insE, if_neg (by simpa using e), if_neg (by rintro (x | x); exact x hm; exact hl x), if_neg hbig]
  have c1 : ¬ n.inputs + 2 > 64 := fun x => hbig (.inl x)
  have c2 : ¬ (n.outs.length : Int) ≥ 64 := fun x => hbig (.inr (.inl x))
  have c3 : ¬ (n.insts.length : Int) + n.flops.length > 4096 := fun x => hbig (.inr (.inr x))
  simp (disch := first | omega | decide) only [push_cast, ↓reduceIte, Nat.reduceLT, Nat.reduceEqDiff, reduceCtorEq, Nat.reduceAdd, hn, hd, ha, hm, hlen, hl0, faL foN0, faL foN1, faL foN2, faL foN3, faL foN4, hN3.l0, hN3.l1, hN3.l2, hN3.l3, hN3.l4, hN3.la, hw0, hw2, c1, c2, c3, r3.o.lenA Tryz.underlying25, r3.i.len Tryz.underlying24, r3.f.len Tryz.underlying23]
  refine AW.drawT (.take 0 [6, 5, 1] (.take 1 [6, 5] (.take 2 [6, 4, 3] (.take 3 [6, 4] (.take 4 [6] (.take 5 [6] (.take 6 [] .done))))))) [0, 0, 0, 0, 0, 0, 0] mixed (by kernel_rfl) (by kernel_rfl) ?_
  simp (disch := first | omega | decide) only [push_cast, ↓reduceIte, Nat.reduceLT, Nat.reduceEqDiff, reduceCtorEq, Nat.reduceAdd, hn, hd, ha, faL foN0, faL foN1, faL foN2, faL foN3, faL foN4, hN3.l0, hN3.l1, hN3.l2, hN3.l3, hN3.l4, hN3.la, hw1]
  refine AW.mono (Q := fun e a' h' => e = .normal ∧ Made n v mv B0 X h3 a' h') ?_ ?_
  case refine_2 =>
    refine AW.drawX (.take 0 [12, 10, 2, 1] (.take 3 [12, 10, 9, 5, 4] (.take 4 [12, 10, 9, 5] (.take 6 [12, 10, 9] (.take 7 [12, 10, 9, 8] (.watch 1 [12, 10, 2] (.take 2 [12, 10] (.watch 8 [12, 10, 9] (.two 5 (.two 9 (.take 10 [12] (.only 11 (.only 12 .done))) 11 (.only 9 (.take 10 [12] (.only 12 .done)))) 11 (.only 5 (.only 9 (.take 10 [12] (.only 12 .done))))))))))))) (.step 0 0 (.step 0 3 (.step 0 4 (.step 0 6 (.step 0 7 (.step 1 1 (.step 0 2 (.step 1 8 (.two 5 (.two 9 (.step 0 10 (.step 2 11 (.step 2 12 .nil))) 11 (.step 2 9 (.step 0 10 (.step 2 12 .nil)))) 11 (.step 2 5 (.step 2 9 (.step 0 10 (.step 2 12 .nil))))))))))))) mixed (by kernel_rfl) rfl ?_
    simp (disch := first | omega | decide) only [push_cast, ↓reduceIte, Nat.reduceLT, Nat.reduceEqDiff, reduceCtorEq, Nat.reduceAdd, hn, hd, ha, faL foN0, faL foN1, faL foN2, faL foN3, faL foN4, hN3.l0, hN3.l1, hN3.l2, hN3.l3, hN3.l4, hN3.la, hw0]
    refine ⟨?_, ?_⟩
    · refine ACall.mono ?_ (cloneF r3.f (by omega))
      rintro fr k1 ⟨gk1, obF, AF, hF, hFlo⟩
      have hN4 := hN3.sub gk1.sub
      simp (disch := first | omega | decide) only [push_cast, ↓reduceIte, Nat.reduceLT, Nat.reduceEqDiff, reduceCtorEq, Nat.reduceAdd, hn, hd, ha, faL foN0, faL foN1, faL foN2, faL foN3, faL foN4, hN4.l0, hN4.l1, hN4.l2, hN4.l3, hN4.l4, hN4.la, hw0]
      refine ⟨?_, ?_⟩
      · refine ACall.mono ?_ (shift hN4 (r3.o.sub gk1.sub) (by omega))
        rintro orr k2 ⟨gk2, obO, AO, hO, hOlo⟩
        have hN5 := hN4.sub gk2.sub
        have s3 := Sub.new gk2.wf (.row zeroC 27 true)
        have hN6 := hN5.sub s3
        have hT : (k2.new (.row zeroC 27 true)).get k2.next = some (.row zeroC 27 true) := by rw [AH.new_get, if_pos rfl]
        have hBl := hN5.lt gk2.wf
        have hFl := hF.lt gk1.wf
        have hOl := hO.lt gk2.wf
        have nk1 := gk1.nx
        have nk2 := gk2.nx
        obtain ⟨k4, est, nx4, keep4, nm, ob, B⟩ := madeB (X := X) gb.wf ((gk1.trans gk2).new (.row zeroC 27 true)) hT (by omega) (hF.sub (gk2.sub.trans s3)) hFlo (hO.sub s3) (fun o e => by have := hOlo o e; omega)
          (fun o p e1 e2 => by have := hFl o e1; have := hOlo p e2; omega) (fun o e => by have := hFl o e; omega) (fun o e => by have := hOl o e; omega)
        have hN7 := hN6.keep keep4 (by omega)
        simp (disch := first | omega | decide) only [push_cast, ↓reduceIte, Nat.reduceLT, Nat.reduceEqDiff, reduceCtorEq, Nat.reduceAdd, hn, hd, ha, faL foN0, faL foN1, faL foN2, faL foN3, faL foN4, hN5.l0, hN5.l1, hN5.l2, hN5.l3, hN5.l4, hN5.la, hN6.l0, hN6.l1, hN6.l2, hN6.l3, hN6.l4, hN6.la, hN7.l0, hN7.l1, hN7.l2, hN7.l3, hN7.l4, hN7.la, hw0, buildN hF.one.2 hO.one.2, alL zrN, est]
        exact ⟨by simp (disch := first | omega | decide) only [push_cast, ↓reduceIte, Nat.reduceLT, Nat.reduceEqDiff, reduceCtorEq, Nat.reduceAdd, hn], by simp (disch := first | omega | decide) only [push_cast, ↓reduceIte, Nat.reduceLT, Nat.reduceEqDiff, reduceCtorEq, Nat.reduceAdd, hd], by simp (disch := first | omega | decide) only [push_cast, ↓reduceIte, Nat.reduceLT, Nat.reduceEqDiff, reduceCtorEq, Nat.reduceAdd, ha], by simp (disch := first | omega | decide) only [push_cast, ↓reduceIte, Nat.reduceLT, Nat.reduceEqDiff, reduceCtorEq, Nat.reduceAdd], by simp (disch := first | omega | decide) only [push_cast, ↓reduceIte, Nat.reduceLT, Nat.reduceEqDiff, reduceCtorEq, Nat.reduceAdd], by simp (disch := first | omega | decide) only [push_cast, ↓reduceIte, Nat.reduceLT, Nat.reduceEqDiff, reduceCtorEq, Nat.reduceAdd], by simp (disch := first | omega | decide) only [push_cast, ↓reduceIte, Nat.reduceLT, Nat.reduceEqDiff, reduceCtorEq, Nat.reduceAdd], by simp (disch := first | omega | decide) only [push_cast, ↓reduceIte, Nat.reduceLT, Nat.reduceEqDiff, reduceCtorEq, Nat.reduceAdd], by simp (disch := first | omega | decide) only [push_cast, ↓reduceIte, Nat.reduceLT, Nat.reduceEqDiff, reduceCtorEq, Nat.reduceAdd], _, nm, ob, fr, orr, by simp (disch := first | omega | decide) only [push_cast, ↓reduceIte, Nat.reduceLT, Nat.reduceEqDiff, reduceCtorEq, Nat.reduceAdd], B⟩
      · have s2 := Sub.new gk1.wf (.row zeroC 27 true)
        have gk2 := (Gr.refl gk1.wf).new (.row zeroC 27 true)
        have hN5 := hN4.sub s2
        have hT0 : (k1.new (.row zeroC 27 true)).get k1.next = some (.row zeroC 27 true) := by rw [AH.new_get, if_pos rfl]
        have hnx2 : (k1.new (.row zeroC 27 true)).next = k1.next + 1 := rfl
        have hFl := hF.lt gk1.wf
        have hBl := hN4.lt gk1.wf
        have hsh := shift hN5 ((r3.o.sub gk1.sub).sub s2) (by omega)
        simp (disch := first | omega | decide) only [push_cast, ↓reduceIte, Nat.reduceLT, Nat.reduceEqDiff, reduceCtorEq, Nat.reduceAdd, hn, hd, ha, faL foN0, faL foN1, faL foN2, faL foN3, faL foN4, hN5.l0, hN5.l1, hN5.l2, hN5.l3, hN5.l4, hN5.la, hw0, alL zrN]
        generalize k1.new (.row zeroC 27 true) = k2 at s2 gk2 hN5 hT0 hnx2 hsh ⊢
        refine ACall.mono ?_ hsh
        rintro orr k3 ⟨gk3, obO, AO, hO, hOlo⟩
        have hN6 := hN5.sub gk3.sub
        have hOl := hO.lt gk3.wf
        have nk1 := gk1.nx
        have nk3 := gk3.nx
        obtain ⟨k4, est, nx4, keep4, nm, ob, B⟩ := madeB (X := X) gb.wf ((gk1.trans gk2).trans gk3) (gk3.sub _ _ hT0) (by omega) (hF.sub (gk2.sub.trans gk3.sub)) hFlo hO (fun o e => by have := hOlo o e; omega)
          (fun o p e1 e2 => by have := hFl o e1; have := hOlo p e2; omega) (fun o e => by have := hFl o e; omega) (fun o e => by have := hOlo o e; omega)
        have hN7 := hN6.keep keep4 (by omega)
        simp (disch := first | omega | decide) only [push_cast, ↓reduceIte, Nat.reduceLT, Nat.reduceEqDiff, reduceCtorEq, Nat.reduceAdd, hn, hd, ha, faL foN0, faL foN1, faL foN2, faL foN3, faL foN4, hN6.l0, hN6.l1, hN6.l2, hN6.l3, hN6.l4, hN6.la, hN7.l0, hN7.l1, hN7.l2, hN7.l3, hN7.l4, hN7.la, hw0, buildN hF.one.2 hO.one.2, est]
        exact ⟨by simp (disch := first | omega | decide) only [push_cast, ↓reduceIte, Nat.reduceLT, Nat.reduceEqDiff, reduceCtorEq, Nat.reduceAdd, hn], by simp (disch := first | omega | decide) only [push_cast, ↓reduceIte, Nat.reduceLT, Nat.reduceEqDiff, reduceCtorEq, Nat.reduceAdd, hd], by simp (disch := first | omega | decide) only [push_cast, ↓reduceIte, Nat.reduceLT, Nat.reduceEqDiff, reduceCtorEq, Nat.reduceAdd, ha], by simp (disch := first | omega | decide) only [push_cast, ↓reduceIte, Nat.reduceLT, Nat.reduceEqDiff, reduceCtorEq, Nat.reduceAdd], by simp (disch := first | omega | decide) only [push_cast, ↓reduceIte, Nat.reduceLT, Nat.reduceEqDiff, reduceCtorEq, Nat.reduceAdd], by simp (disch := first | omega | decide) only [push_cast, ↓reduceIte, Nat.reduceLT, Nat.reduceEqDiff, reduceCtorEq, Nat.reduceAdd], by simp (disch := first | omega | decide) only [push_cast, ↓reduceIte, Nat.reduceLT, Nat.reduceEqDiff, reduceCtorEq, Nat.reduceAdd], by simp (disch := first | omega | decide) only [push_cast, ↓reduceIte, Nat.reduceLT, Nat.reduceEqDiff, reduceCtorEq, Nat.reduceAdd], by simp (disch := first | omega | decide) only [push_cast, ↓reduceIte, Nat.reduceLT, Nat.reduceEqDiff, reduceCtorEq, Nat.reduceAdd], _, nm, ob, fr, orr, by simp (disch := first | omega | decide) only [push_cast, ↓reduceIte, Nat.reduceLT, Nat.reduceEqDiff, reduceCtorEq, Nat.reduceAdd], B⟩
    · have s1 := Sub.new gb.wf (.row zeroC 27 true)
      have gk1 := (Gr.refl gb.wf).new (.row zeroC 27 true)
      have hN4 := hN3.sub s1
      have hT0 : (h3.new (.row zeroC 27 true)).get h3.next = some (.row zeroC 27 true) := by rw [AH.new_get, if_pos rfl]
      have hnx1 : (h3.new (.row zeroC 27 true)).next = h3.next + 1 := rfl
      have hBl := hN3.lt gb.wf
      have hcf := cloneF (r3.f.sub s1) (by omega)
      simp (disch := first | omega | decide) only [push_cast, ↓reduceIte, Nat.reduceLT, Nat.reduceEqDiff, reduceCtorEq, Nat.reduceAdd, hn, hd, ha, faL foN0, faL foN1, faL foN2, faL foN3, faL foN4, hN4.l0, hN4.l1, hN4.l2, hN4.l3, hN4.l4, hN4.la, hw0, alL zrN]
      generalize h3.new (.row zeroC 27 true) = k1 at s1 gk1 hN4 hT0 hnx1 hcf ⊢
      refine ACall.mono ?_ hcf
      rintro fr k2 ⟨gk2, obF, AF, hF, hFlo⟩
      have hN5 := hN4.sub gk2.sub
      simp (disch := first | omega | decide) only [push_cast, ↓reduceIte, Nat.reduceLT, Nat.reduceEqDiff, reduceCtorEq, Nat.reduceAdd, hn, hd, ha, faL foN0, faL foN1, faL foN2, faL foN3, faL foN4, hN5.l0, hN5.l1, hN5.l2, hN5.l3, hN5.l4, hN5.la, hw0]
      refine ACall.mono ?_ (shift hN5 ((r3.o.sub s1).sub gk2.sub) (by omega))
      rintro orr k3 ⟨gk3, obO, AO, hO, hOlo⟩
      have hN6 := hN5.sub gk3.sub
      have hFl := hF.lt gk2.wf
      have hOl := hO.lt gk3.wf
      have nk2 := gk2.nx
      have nk3 := gk3.nx
      obtain ⟨k4, est, nx4, keep4, nm, ob, B⟩ := madeB (X := X) gb.wf ((gk1.trans gk2).trans gk3) (gk3.sub _ _ (gk2.sub _ _ hT0)) (Nat.le_refl _) (hF.sub gk3.sub) (fun o e => by have := hFlo o e; omega) hO (fun o e => by have := hOlo o e; omega)
        (fun o p e1 e2 => by have := hFl o e1; have := hOlo p e2; omega) (fun o e => by have := hFlo o e; omega) (fun o e => by have := hOlo o e; omega)
      have hN7 := hN6.keep keep4 (by omega)
      simp (disch := first | omega | decide) only [push_cast, ↓reduceIte, Nat.reduceLT, Nat.reduceEqDiff, reduceCtorEq, Nat.reduceAdd, hn, hd, ha, faL foN0, faL foN1, faL foN2, faL foN3, faL foN4, hN6.l0, hN6.l1, hN6.l2, hN6.l3, hN6.l4, hN6.la, hN7.l0, hN7.l1, hN7.l2, hN7.l3, hN7.l4, hN7.la, hw0, buildN hF.one.2 hO.one.2, est]
      exact ⟨by simp (disch := first | omega | decide) only [push_cast, ↓reduceIte, Nat.reduceLT, Nat.reduceEqDiff, reduceCtorEq, Nat.reduceAdd, hn], by simp (disch := first | omega | decide) only [push_cast, ↓reduceIte, Nat.reduceLT, Nat.reduceEqDiff, reduceCtorEq, Nat.reduceAdd, hd], by simp (disch := first | omega | decide) only [push_cast, ↓reduceIte, Nat.reduceLT, Nat.reduceEqDiff, reduceCtorEq, Nat.reduceAdd, ha], by simp (disch := first | omega | decide) only [push_cast, ↓reduceIte, Nat.reduceLT, Nat.reduceEqDiff, reduceCtorEq, Nat.reduceAdd], by simp (disch := first | omega | decide) only [push_cast, ↓reduceIte, Nat.reduceLT, Nat.reduceEqDiff, reduceCtorEq, Nat.reduceAdd], by simp (disch := first | omega | decide) only [push_cast, ↓reduceIte, Nat.reduceLT, Nat.reduceEqDiff, reduceCtorEq, Nat.reduceAdd], by simp (disch := first | omega | decide) only [push_cast, ↓reduceIte, Nat.reduceLT, Nat.reduceEqDiff, reduceCtorEq, Nat.reduceAdd], by simp (disch := first | omega | decide) only [push_cast, ↓reduceIte, Nat.reduceLT, Nat.reduceEqDiff, reduceCtorEq, Nat.reduceAdd], by simp (disch := first | omega | decide) only [push_cast, ↓reduceIte, Nat.reduceLT, Nat.reduceEqDiff, reduceCtorEq, Nat.reduceAdd], _, nm, ob, fr, orr, by simp (disch := first | omega | decide) only [push_cast, ↓reduceIte, Nat.reduceLT, Nat.reduceEqDiff, reduceCtorEq, Nat.reduceAdd], B⟩
  have hXb : X < h3.next := AH.get_lt gb.wf hX3
  have hdl : ∀ c ∈ n.cells, c.delay.length ≤ 4294967296 := fun c hc => by have := checkE_pins (cellsE_zero s.cells c hc); omega
  have hpl : ∀ x ∈ n.insts, x.pins.length ≤ 4294967296 := fun x hx => by have := s.pins4 hx; omega
  clear ha hn hd a
  rintro _ a h4 ⟨rfl, hn, hd, h1, h2, ht4, h7, h9, h10, h11, T, nm, ob, fr, orr, h12, B⟩
  have hN4 := hN3.sub B.own.gr.sub
  have n4 := B.own.gr.nx
  simp (disch := first | omega | decide) only [push_cast, ↓reduceIte, Nat.reduceLT, Nat.reduceEqDiff, reduceCtorEq, Nat.reduceAdd, hn, hd, h1, h2, ht4, h7, h9, h10, h11, h12, faL foN0, faL foN1, faL foN2, faL foN3, faL foN4, hN4.l0, hN4.l1, hN4.l2, hN4.l3, hN4.l4, hN4.la, r3.c.len Tryz.underlying22]
  refine AW.mono ?_ (insCells (X := X) (by simp (disch := first | omega | decide) only [push_cast, ↓reduceIte, Nat.reduceLT, Nat.reduceEqDiff, reduceCtorEq, Nat.reduceAdd, hn]) (by simp (disch := first | omega | decide) only [push_cast, ↓reduceIte, Nat.reduceLT, Nat.reduceEqDiff, reduceCtorEq, Nat.reduceAdd, hd]) (by omega) gb.wf r3 (by omega) hdl B rfl (by simp (disch := first | omega | decide) only [push_cast, ↓reduceIte, Nat.reduceLT, Nat.reduceEqDiff, reduceCtorEq, Nat.reduceAdd, h12]) (by simp (disch := first | omega | decide) only [push_cast, ↓reduceIte, Nat.reduceLT, Nat.reduceEqDiff, reduceCtorEq, Nat.reduceAdd]) (by simp (disch := first | omega | decide) only [push_cast, ↓reduceIte, Nat.reduceLT, Nat.reduceEqDiff, reduceCtorEq, Nat.reduceAdd]) (by simp (disch := first | omega | decide) only [push_cast, ↓reduceIte, Nat.reduceLT, Nat.reduceEqDiff, reduceCtorEq, Nat.reduceAdd]))
  rintro _ a5 h5 ⟨rfl, hn5, hd5, ht5, n5, nm5, ob5, cv5, B5⟩
  have hN5 := hN3.sub B5.own.gr.sub
  simp (disch := first | omega | decide) only [push_cast, ↓reduceIte, Nat.reduceLT, Nat.reduceEqDiff, reduceCtorEq, Nat.reduceAdd, hn5, hd5, ht5, hn, hd, h1, h2, ht4, h7, h9, h10, h11, h12, faL foN0, faL foN1, faL foN2, faL foN3, faL foN4, hN5.l0, hN5.l1, hN5.l2, hN5.l3, hN5.l4, hN5.la, r3.i.len Tryz.underlying24]
  refine AW.mono ?_ (insInsts (B0 := B0) (X := X) (by simp (disch := first | omega | decide) only [push_cast, ↓reduceIte, Nat.reduceLT, Nat.reduceEqDiff, reduceCtorEq, Nat.reduceAdd, hn5]) (by simp (disch := first | omega | decide) only [push_cast, ↓reduceIte, Nat.reduceLT, Nat.reduceEqDiff, reduceCtorEq, Nat.reduceAdd, hd5]) (by omega) gb.wf r3 hN3 (by omega) hpl B5 rfl (by simp (disch := first | omega | decide) only [push_cast, ↓reduceIte, Nat.reduceLT, Nat.reduceEqDiff, reduceCtorEq, Nat.reduceAdd, ht5, h12]) (by simp (disch := first | omega | decide) only [push_cast, ↓reduceIte, Nat.reduceLT, Nat.reduceEqDiff, reduceCtorEq, Nat.reduceAdd, ht5, h9]) (by simp (disch := first | omega | decide) only [push_cast, ↓reduceIte, Nat.reduceLT, Nat.reduceEqDiff, reduceCtorEq, Nat.reduceAdd]) (by simp (disch := first | omega | decide) only [push_cast, ↓reduceIte, Nat.reduceLT, Nat.reduceEqDiff, reduceCtorEq, Nat.reduceAdd]) (by simp (disch := first | omega | decide) only [push_cast, ↓reduceIte, Nat.reduceLT, Nat.reduceEqDiff, reduceCtorEq, Nat.reduceAdd]))
  rintro _ a6 h6 ⟨rfl, hn6, hd6, ht6, n6, nm6, ob6, iv6, B6⟩
  simp (disch := first | omega | decide) only [push_cast, ↓reduceIte, Nat.reduceLT, Nat.reduceEqDiff, reduceCtorEq, Nat.reduceAdd, hn6, hd6, ht6, ht5, hn, hd, h1, h2, ht4, h7, h9, h10, h11, h12, hv.lenA Tryz.underlying25]
  have hpk := pick3_ok hl
  have hml := matchGo_len (tt := 202) (N := 3) (by decide) n.cells 0
  have hbs : (matchGo 202 3 0 n.cells).map bindI ≠ [] := by simpa using hl
  have hp0 : ((matchGo 202 3 0 n.cells).map bindI).getD 0 default = bindI (pick3 n) := by
    unfold pick3
    cases hx : matchGo 202 3 0 n.cells with
    | nil => exact absurd hx hl
    | cons y ys => rfl
  refine AW.mono ?_ (insOrd (B0 := B0) (X := X) (T := T) (m := { ({ (insBase0 n) with cells := n.cells } : Net) with insts := n.insts.map (instS n) }) (by simp (disch := first | omega | decide) only [push_cast, ↓reduceIte, Nat.reduceLT, Nat.reduceEqDiff, reduceCtorEq, Nat.reduceAdd, hn6]) (by simp (disch := first | omega | decide) only [push_cast, ↓reduceIte, Nat.reduceLT, Nat.reduceEqDiff, reduceCtorEq, Nat.reduceAdd, hd6]) (by omega) gb.wf r3 hN3 hv3 (by omega) (fun z hz => by obtain ⟨i, hi, rfl⟩ := hperm.range hz; omega) ⟨hi0, hi1⟩ hfl rfl (by show (n.insts.map (instS n)).length ≤ 4096; simpa using hil) rfl
    (hbv.row (by omega)) hbs hp0 hpk.2.2.2.1 hpk.2.2.2.2 B6 (by simp (disch := first | omega | decide) only [push_cast, ↓reduceIte, Nat.reduceLT, Nat.reduceEqDiff, reduceCtorEq, Nat.reduceAdd, ht6, ht5, h2]) (by simp (disch := first | omega | decide) only [push_cast, ↓reduceIte, Nat.reduceLT, Nat.reduceEqDiff, reduceCtorEq, Nat.reduceAdd, ht6, ht5, h7]) (by simp (disch := first | omega | decide) only [push_cast, ↓reduceIte, Nat.reduceLT, Nat.reduceEqDiff, reduceCtorEq, Nat.reduceAdd, ht6, ht5, h12]) (by simp (disch := first | omega | decide) only [push_cast, ↓reduceIte, Nat.reduceLT, Nat.reduceEqDiff, reduceCtorEq, Nat.reduceAdd, ht6, ht5, h9]) (by simp (disch := first | omega | decide) only [push_cast, ↓reduceIte, Nat.reduceLT, Nat.reduceEqDiff, reduceCtorEq, Nat.reduceAdd, ht6, ht5, h10]) (by simp (disch := first | omega | decide) only [push_cast, ↓reduceIte, Nat.reduceLT, Nat.reduceEqDiff, reduceCtorEq, Nat.reduceAdd, ht6, ht5, h11]) (by simp (disch := first | omega | decide) only [push_cast, ↓reduceIte, Nat.reduceLT, Nat.reduceEqDiff, reduceCtorEq, Nat.reduceAdd]) (by simp (disch := first | omega | decide) only [push_cast, ↓reduceIte, Nat.reduceLT, Nat.reduceEqDiff, reduceCtorEq, Nat.reduceAdd]) (by simp (disch := first | omega | decide) only [push_cast, ↓reduceIte, Nat.reduceLT, Nat.reduceEqDiff, reduceCtorEq, Nat.reduceAdd]))
  rintro _ a7 h7' ⟨rfl, hn7, hd7, ht7, n7, h11', nm7, ob7, fv7, iv7, B7⟩
  have hgo : (ord.foldl (insStep n) (n.inputs + 1, { ({ (insBase0 n) with cells := n.cells } : Net) with insts := n.insts.map (instS n) })) = insGo n ord := rfl
  rw [hgo] at h11' B7
  obtain ⟨q1, q2, q3, q4, q5⟩ := insGo_keep n ord (n.inputs + 1, insBase n)
  have hgo2 : ord.foldl (insStep n) (n.inputs + 1, insBase n) = insGo n ord := rfl
  rw [hgo2] at q1 q2 q3 q4 q5
  have q5l : (insGo n ord).2.outs.length = n.outs.length := by rw [q5]; simp [insBase]
  obtain ⟨e1, v', k1, k2, e2, e3, nm8, ob8, B8⟩ := B7.pushO gb.wf (insGo n ord).1 (by omega)
  have hM7 := B7.at
  have hM8 := B8.at
  have hX8 := B8.own.gr.sub _ _ hX3
  have hins : insR n ord = insN n ord := by unfold insR; rw [if_pos he]
  have hnl : (insN n ord).insts.length ≤ 4294967296 := by show (insGo n ord).2.insts.length ≤ _; rw [q2]; simp [insBase]; omega
  have hfn : (insN n ord).flops.length ≤ 4294967296 := by show (insGo n ord).2.flops.length ≤ _; rw [q1]; simp [insBase]; omega
  have hcn : (insN n ord).cells.length ≤ 4294967296 := by show (insGo n ord).2.cells.length ≤ _; rw [q4]; simp [insBase]; omega
  have hlt8 := AH.get_lt B8.own.gr.wf hX8
  have hst8 := stA agN hX8 rfl _ rfl B8.one
  have hld8 : aLoad Tryz.prog 27 (.pointer (some ⟨X, 0, none⟩)) (k2.set X (.row (netC { (insGo n ord).2 with outs := (insGo n ord).2.outs ++ [(insGo n ord).1] } cv5 fv7 iv7 v') 27 true)) = some (.agg (netC { (insGo n ord).2 with outs := (insGo n ord).2.outs ++ [(insGo n ord).1] } cv5 fv7 iv7 v').toArray) := ldLA (by rw [AH.set_get, if_pos rfl]) rfl agN rfl
  simp (disch := first | omega | decide) only [push_cast, ↓reduceIte, Nat.reduceLT, Nat.reduceEqDiff, reduceCtorEq, Nat.reduceAdd, hn7, hd7, ht7, ht6, ht5, hn, hd, h1, h2, ht4, h7, h9, h10, h11, h12, h11', faL foN0, faL foN1, faL foN2, faL foN3, faL foN4, hM7.l0, hM7.l1, hM7.l2, hM7.l3, hM7.l4, hM7.la, e1, e2, e3, hM8.l0, hM8.l1, hM8.l2, hM8.l3, hM8.l4, hM8.la, hst8, hld8]
  have hnet8 := B8.net hXb (.row (netC { (insGo n ord).2 with outs := (insGo n ord).2.outs ++ [(insGo n ord).1] } cv5 fv7 iv7 v') 27 true) hcn hfn hnl
  have hown8 := (B8.netOwn hXb (.row (netC { (insGo n ord).2 with outs := (insGo n ord).2.outs ++ [(insGo n ord).1] } cv5 fv7 iv7 v') 27 true)).le gb.nx
  refine ⟨(gb.trans B8.own.gr).set hwf hXlo hlt8 _, cv5, fv7, iv7, v', ?_, ?_, ?_⟩
  · rw [hins, he]; rfl
  · rw [hins]; exact hnet8
  · rw [hins]; exact hown8

end Go.Ab.S1

namespace Go.Ab
open Go.ChangeShapes Go.WideShapes Go.ChangeAt Go.RowKit

/-- The heap of arguments grows. -/
structure GrA (W : World) (ρ : Ren) (h : AH) (ρ' : Ren) (h' : AH) : Prop where
  le : ρ.le ρ'
  hr : HR ρ' h' W
  ro : AllRO h'
  sub : Sub h h'

theorem GrA.refl {W : World} {ρ : Ren} {h : AH} (hr : HR ρ h W) (hro : AllRO h) : GrA W ρ h ρ h := ⟨Ren.le_refl _, hr, hro, fun _ _ x => x⟩
theorem GrA.trans {W : World} {ρ ρ1 ρ2 : Ren} {h h1 h2 : AH} (a : GrA W ρ h ρ1 h1) (b : GrA W ρ1 h1 ρ2 h2) : GrA W ρ h ρ2 h2 := ⟨Ren.le_trans a.le b.le, b.hr, b.ro, a.sub.trans b.sub⟩

/-- A name for a place, without an object. -/
theorem nameArg {ρ : Ren} {h : AH} {W : World} (hr : HR ρ h W) (hro : AllRO h) (blk off : Nat) : GrA W ρ h (ρ.put h.next ⟨blk, off, 0⟩) { next := h.next + 1, get := h.get } := by
  have hle : ρ.le (ρ.put h.next ⟨blk, off, 0⟩) := Ren.le_put hr.fresh
  refine ⟨hle, ⟨fun A o ha => ?_, fun A B o p r q h1 h2 _ _ _ how => ?_, fun A r hA => ?_⟩, hro, fun _ _ x => x⟩
  · obtain ⟨r, hq, hor⟩ := hr.obj A o ha
    exact ⟨r, hle _ _ hq, hor.move hle rfl⟩
  · rw [hro A o h1, hro B p h2] at how; simp at how
  · by_cases e : A = h.next
    · subst e; exact Nat.lt_succ_self _
    · rw [Ren.put_ne _ _ e] at hA; exact Nat.lt_succ_of_lt (hr.dom A r hA)

/-- A row of cells that may only be read. -/
theorem rowArg {ρ : Ren} {h : AH} {W : World} (hr : HR ρ h W) (hro : AllRO h) {blk off : Nat} {us : List Value} (hne : us ≠ []) (hone : ∀ u ∈ us, oneC u = true)
    (hc : ∀ (i : Nat) (u : Value), us[i]? = some u → ∃ v, W.cell? ⟨blk, off + i, none⟩ = some v ∧ VR ρ u v) : ∃ e, GrA W ρ h (ρ.put h.next ⟨blk, off, 0⟩) (h.new (.row us e false)) := by
  have hle : ρ.le (ρ.put h.next ⟨blk, off, 0⟩) := Ren.le_put hr.fresh
  have hlast : us.length - 1 < us.length := by
    have : us.length ≠ 0 := by simpa using hne
    omega
  have hblk : ∃ cc e fr, W.heap[blk]? = some (.cells cc e fr) ∧ ∀ (i : Nat) (u : Value), us[i]? = some u → ∃ v, cc[off + i]? = some v ∧ VR ρ u v := by
    obtain ⟨v, h1, _⟩ := hc _ _ (List.getElem?_eq_getElem hlast)
    unfold World.cell? at h1
    split at h1
    · rename_i cc e fr hh
      refine ⟨cc, e, fr, hh, fun i u hi => ?_⟩
      obtain ⟨v2, h2, h3⟩ := hc i u hi
      unfold World.cell? at h2
      rw [hh] at h2
      exact ⟨v2, by simpa using h2, h3⟩
    · cases h1
  obtain ⟨cc, e, fr, hh, hcc⟩ := hblk
  have hro' : AllRO (h.new (.row us e false)) := by
    intro A o ha
    rw [AH.new_get] at ha
    split at ha
    · cases ha; rfl
    · exact hro A o ha
  refine ⟨e, hle, ⟨fun A o ha => ?_, fun A B o p r q h1 h2 _ _ _ how => ?_, fun A r hA => ?_⟩, hro', Sub.new hr.wf _⟩
  · rw [AH.new_get] at ha
    split at ha
    · rename_i e'; cases ha; subst e'
      refine ⟨_, Ren.put_same _ _ _, cc, fr, hh, ?_, fun i u hi => ?_, (fun hw => by cases hw), hone⟩
      · obtain ⟨v, hv, _⟩ := hcc _ _ (List.getElem?_eq_getElem hlast)
        have := (Array.getElem?_eq_some_iff.1 hv).1
        simp only; omega
      · obtain ⟨v, hv, hr⟩ := hcc i u hi
        exact ⟨v, hv, hr.mono hle⟩
    · obtain ⟨r, hq, hor⟩ := hr.obj A o ha
      exact ⟨r, hle _ _ hq, hor.move hle rfl⟩
  · rw [hro' A o h1, hro' B p h2] at how; simp at how
  · by_cases e : A = h.next
    · subst e; simp
    · rw [Ren.put_ne _ _ e] at hA; have := hr.dom A r hA; simp; omega

section
variable {H : Type} {enc : TypeId × Value → H} {P : Program} {W : World} {base : Nat} {spare : Nat → Bool} {held : Bool}

/-- What cells hold, and how they are brought onto the abstract heap. -/
def Brings {α : Type} (W : World) (L : Lay α) (Good : α → Prop) (cs : List Value) (x : α) : Prop :=
  Good x ∧ ∀ ρ h, HR ρ h W → AllRO h → ∃ ρ' h' us, GrA W ρ h ρ' h' ∧ LR ρ' us cs ∧ L.rel h' us x

/-- Of a type, every trodden element. -/
def Opens (enc : TypeId × Value → H) (P : Program) (W : World) (base : Nat) (spare : Nat → Bool) (held : Bool) (e : TypeId) {α : Type} (L : Lay α) (Good : α → Prop) : Prop :=
  ∀ fuel cs y, DataW.trod enc P W base spare held fuel e cs = some y → (∀ n ∈ DataW.weights P e y.1, n ≤ reachBytes) → ∃ x : α, Brings W L Good cs x

theorem mem_weightsAll {e : TypeId} {n : Nat} : ∀ {l : List (DataW H)} {d : DataW H}, d ∈ l → n ∈ d.weights P e → n ∈ DataW.weightsAll P e l := by
  intro l
  induction l with
  | nil => intro d h; cases h
  | cons x l ih =>
    intro d hd hn
    rw [DataW.weightsAll]
    rcases List.mem_cons.1 hd with rfl | hd
    · exact List.mem_append_left _ hn
    · exact List.mem_append_right _ (ih hd hn)

theorem mem_weightsEach {n : Nat} : ∀ {ts : List TypeId} {l : List (DataW H)} {i : Nat} {t : TypeId} {d : DataW H}, ts[i]? = some t → l[i]? = some d → n ∈ d.weights P t → n ∈ DataW.weightsEach P ts l := by
  intro ts
  induction ts with
  | nil => intro l i t d h; simp at h
  | cons t0 ts ih =>
    intro l i t d ht hd hn
    cases l with
    | nil => simp at hd
    | cons d0 l =>
      rw [DataW.weightsEach]
      cases i with
      | zero => cases ht; cases hd; exact List.mem_append_left _ hn
      | succ i => exact List.mem_append_right _ (ih ht hd hn)

theorem spot_of_cells {a : Addr} {n : Nat} {cs : List Value} (hn : 0 < n) (h : W.cells? base a n = some cs) : a.spot = none := by
  obtain ⟨_, hl, hc⟩ := World.cells?_some h
  have h0 := hc 0 hn
  have : (a.add 0) = a := by simp [Addr.add]
  rw [this, List.getElem?_eq_getElem (by omega)] at h0
  unfold World.cell? at h0
  split at h0
  · split at h0
    · cases h0
    · rename_i hs; simpa using hs
  · cases h0

theorem openRow {t e : TypeId} {α : Type} {L : Lay α} {Good : α → Prop} (ht : P.underlying t = some (.slice e)) (hc : P.cellsOf e = L.sz) (ho : Opens enc P W base (fun _ => true) held e L Good) {fuel : Nat} {cs : List Value} {y : DataW H × List MemPlace}
    (hd : DataW.trod enc P W base (fun _ => true) held fuel t cs = some y) (hw : ∀ n ∈ DataW.weights P t y.1, n ≤ reachBytes) :
    ∃ (v : Value) (xs : List α), cs = [v] ∧ (∀ x ∈ xs, Good x) ∧ xs.length * P.bytesOf e ≤ reachBytes ∧ ∀ ρ h, HR ρ h W → AllRO h → ∃ ρ' h' u, GrA W ρ h ρ' h' ∧ VR ρ' u v ∧ RowOf L h' u xs := by
  have hsz := L.pos
  rcases DataW.trod_slice ht hd with ⟨rfl, rfl⟩ | ⟨a, len, cap, elems, rest, m, _, rfl, rfl, hb, hlc, hcm, hlen, hel, hsp, _⟩
  · exact ⟨_, [], rfl, fun x h => (nomatch h), by simp [reachBytes], fun ρ h hr hro => ⟨ρ, h, .slice none 0 0, GrA.refl hr hro, .nilSlice _ _, none, 0, 0, rfl, rfl, ⟨fun q e => (nomatch e), Nat.le_refl _, .inl (by unfold SL; omega)⟩, .inl rfl⟩⟩
  have hwe : DataW.weights P t (.slice (elems.map (·.1)) (rest.map (·.1))) = (elems.length + rest.length) * P.bytesOf e :: (DataW.weightsAll P e (elems.map (·.1)) ++ DataW.weightsAll P e (rest.map (·.1))) := by
    rw [DataW.weights, ht]; simp
  rw [hwe] at hw
  have hbytes := hw _ (List.mem_cons_self ..)
  have hml : maxLen = 9223372036854775807 := rfl
  have each : ∀ i, i < len → ∃ csi x, W.cells? base (a.add (i * L.sz)) L.sz = some csi ∧ Brings W L Good csi x := by
    intro i hi
    have h1 := hel i hi
    rw [hc, List.getElem?_eq_getElem (by omega), Option.bind_eq_some_iff] at h1
    obtain ⟨csi, hcs, hy⟩ := h1
    obtain ⟨x, hx⟩ := ho _ _ _ hy (fun n hn => hw n (List.mem_cons_of_mem _ (List.mem_append_left _ (mem_weightsAll (List.mem_map.2 ⟨_, List.getElem_mem _, rfl⟩) hn))))
    exact ⟨csi, x, hcs, hx⟩
  have all : ∀ k, k ≤ len → ∃ xs : List α, xs.length = k ∧ ∀ i x, xs[i]? = some x → ∃ csi, W.cells? base (a.add (i * L.sz)) L.sz = some csi ∧ Brings W L Good csi x := by
    intro k
    induction k with
    | zero => intro _; exact ⟨[], rfl, fun i x h => by simp at h⟩
    | succ k ih =>
      intro hk
      obtain ⟨xs, hx, hall⟩ := ih (by omega)
      obtain ⟨csi, x, h1, h2⟩ := each k (by omega)
      refine ⟨xs ++ [x], by simp [hx], fun i z hz => ?_⟩
      by_cases hi : i < xs.length
      · rw [List.getElem?_append_left hi] at hz; exact hall i z hz
      · rw [List.getElem?_append_right (by omega)] at hz
        have hi0 : i = k := by
          have := (List.getElem?_eq_some_iff.1 hz).1
          simp at this; omega
        subst hi0
        rw [hx, Nat.sub_self] at hz
        cases hz
        exact ⟨csi, h1, h2⟩
  obtain ⟨xs, hxl, hall⟩ := all len (Nat.le_refl _)
  have hgood : ∀ x ∈ xs, Good x := by
    intro x hx
    obtain ⟨i, hi, e⟩ := List.getElem_of_mem hx
    obtain ⟨csi, _, h2⟩ := hall i x (by rw [List.getElem?_eq_getElem hi, e])
    exact h2.1
  refine ⟨_, xs, rfl, hgood, ?_, fun ρ h hr hro => ?_⟩
  · rw [hxl, ← hlen]
    exact Nat.le_trans (Nat.mul_le_mul_right _ (Nat.le_add_right _ _)) hbytes
  by_cases h0 : len = 0
  · subst h0
    have hx0 : xs = [] := List.eq_nil_of_length_eq_zero hxl
    subst hx0
    by_cases hcap : cap = 0
    · subst hcap
      exact ⟨ρ, h, .slice (some ⟨0, 0, none⟩) 0 0, GrA.refl hr hro, .slip, _, 0, 0, rfl, rfl, ⟨fun q e => by cases e; rfl, Nat.le_refl _, .inl (by unfold SL; omega)⟩, .inl rfl⟩
    · have hspot : a.spot = none := by
        obtain ⟨hrl, hrest⟩ := hsp rfl
        have h1 := hrest 0 (by omega)
        rw [hc, List.getElem?_eq_getElem (by omega), Option.bind_eq_some_iff] at h1
        obtain ⟨csi, hcs, _⟩ := h1
        have := spot_of_cells hsz hcs
        simpa [Addr.add] using this
      obtain ⟨blk, off, sp⟩ := a
      simp only at hspot; subst hspot
      have hg := nameArg hr hro blk off
      refine ⟨_, _, .slice (some ⟨h.next, 0, none⟩) 0 cap, hg, ?_, _, 0, cap, rfl, rfl, ⟨fun q e => by cases e; rfl, Nat.zero_le _, .inl (by unfold SL; omega)⟩, .inl rfl⟩
      have := VR.slice (ρ := ρ.put h.next ⟨blk, off, 0⟩) (A := h.next) (off := 0) (l := 0) (c := cap) (Ren.put_same _ _ _) (by unfold SL; omega)
      simpa using this
  · have hspot : a.spot = none := by
      obtain ⟨csi, x, hcs, _⟩ := each 0 (by omega)
      have := spot_of_cells hsz hcs
      simpa [Addr.add] using this
    obtain ⟨blk, off, sp⟩ := a
    simp only at hspot; subst hspot
    have build : ∀ k, k ≤ len → ∃ (ρ' : Ren) (h' : AH) (us : List Value), GrA W ρ h ρ' h' ∧ us.length = k * L.sz ∧ (∀ (i : Nat) (u : Value), us[i]? = some u → ∃ v, W.cell? ⟨blk, off + i, none⟩ = some v ∧ VR ρ' u v) ∧
        (∀ (i : Nat) (x : α), i < k → xs[i]? = some x → L.rel h' ((us.drop (i * L.sz)).take L.sz) x) ∧ ∀ u ∈ us, oneC u = true := by
      intro k
      induction k with
      | zero => intro _; exact ⟨ρ, h, [], GrA.refl hr hro, by simp, fun i u hu => by simp at hu, fun i x hi => by omega, fun u hu => by cases hu⟩
      | succ k ih =>
        intro hk
        obtain ⟨ρ1, h1, us, g1, hul, hcell, hrel, hone⟩ := ih (by omega)
        have hxk : xs[k]? = some xs[k] := List.getElem?_eq_getElem (by omega)
        obtain ⟨csi, hcs, _, hbr⟩ := hall k _ hxk
        obtain ⟨ρ2, h2, vs, g2, hlr, hr2⟩ := hbr ρ1 h1 g1.hr g1.ro
        obtain ⟨_, hcl, hcc⟩ := World.cells?_some hcs
        have hvl := L.len hr2
        refine ⟨ρ2, h2, us ++ vs, g1.trans g2, by rw [List.length_append, hul, hvl, Nat.succ_mul], fun i u hu => ?_, fun i x hi hx => ?_, fun u hu => ?_⟩
        · by_cases hi : i < us.length
          · rw [List.getElem?_append_left hi] at hu
            obtain ⟨v, hv, hvr⟩ := hcell i u hu
            exact ⟨v, hv, hvr.mono g2.le⟩
          · rw [List.getElem?_append_right (by omega)] at hu
            obtain ⟨v, hv, hvr⟩ := hlr.get hu
            have hj : i - us.length < L.sz := by
              have := (List.getElem?_eq_some_iff.1 hu).1; omega
            have := hcc _ hj
            rw [hv] at this
            refine ⟨v, ?_, hvr⟩
            rw [← this]
            congr 1
            have e1 : (⟨blk, off, none⟩ : Addr).add (k * L.sz) = ⟨blk, off + k * L.sz, none⟩ := add_eq _ _ _
            rw [e1, add_eq]
            congr 1; omega
        · by_cases hik : i < k
          · have hle : i * L.sz + L.sz ≤ k * L.sz := by rw [← Nat.succ_mul]; exact Nat.mul_le_mul_right _ hik
            rw [List.drop_append_of_le_length (by omega), List.take_append_of_le_length (by rw [List.length_drop]; omega)]
            exact L.mono g2.sub (hrel i x hik hx)
          · have hik' : i = k := by omega
            subst hik'
            rw [hxk] at hx; cases hx
            rw [← hul, List.drop_left, ← hvl, List.take_length]
            exact hr2
        · rcases List.mem_append.1 hu with hu | hu
          · exact hone u hu
          · exact L.one hr2 u hu
    obtain ⟨ρ1, h1, us, g1, hul, hcell, hrel, hone⟩ := build len (Nat.le_refl _)
    have hus : us ≠ [] := by
      intro e; rw [e] at hul
      have : 0 < len * L.sz := Nat.mul_pos (by omega) hsz
      simp at hul; omega
    obtain ⟨e', g2⟩ := rowArg g1.hr g1.ro hus hone hcell
    refine ⟨_, _, .slice (some ⟨h1.next, 0, none⟩) len cap, g1.trans g2, ?_, _, len, cap, rfl, hxl.symm, ⟨fun q e => by cases e; rfl, hlc, .inl (by unfold SL; omega)⟩, .inr ⟨h1.next, 0, .row us e' false, us, rfl, by rw [AH.new_get, if_pos rfl], rfl, fun i x hx => ?_⟩⟩
    · have := VR.slice (ρ := ρ1.put h1.next ⟨blk, off, 0⟩) (A := h1.next) (off := 0) (l := len) (c := cap) (Ren.put_same _ _ _) (by unfold SL; omega)
      simpa using this
    · rw [Nat.zero_add]
      exact L.mono g2.sub (hrel i x (by have := (List.getElem?_eq_some_iff.1 hx).1; omega) hx)

/-- Integers of a kind. -/
def intL (k : IntKind) : Lay Int where
  sz := 1
  pos := by decide
  rel h cs z := cs = [.int k z]
  mono := by rintro h h' cs x hs rfl; rfl
  len := by rintro h cs x rfl; rfl
  one := by rintro h cs x rfl v hv; simp only [List.mem_cons, List.not_mem_nil, or_false] at hv; subst hv; rfl
instance (k : IntKind) : LayV (intL k) := ⟨by rintro h cs x rfl; rfl⟩

theorem openInt {t : TypeId} {k : IntKind} (ht : P.underlying t = some (.int k)) : Opens enc P W base spare held t (intL k) (fun z => (Lit.int k z).wf = true) := by
  intro fuel cs y hd _
  obtain ⟨n, rfl, _, hwf⟩ := DataW.trod_int ht hd
  exact ⟨n, hwf, fun ρ h hr hro => ⟨ρ, h, _, GrA.refl hr hro, LR.single (.int _ _), rfl⟩⟩

theorem RowOf.ints {k : IntKind} {h : AH} {v : Value} {zs : List Int} (hr : RowOf (intL k) h v zs) : SlOf h v (zs.map (.int k)) := by
  obtain ⟨p, l, c, rfl, hl, ⟨hsp, _⟩, hcs⟩ := hr
  refine ⟨p, l, c, rfl, by rw [List.length_map]; exact hl, hsp, ?_⟩
  rcases hcs with rfl | ⟨A, off, o, cs, rfl, hg, hc, hx⟩
  · exact .inl rfl
  · refine .inr ⟨A, off, o, cs, rfl, hg, hc, fun i x hi => ?_⟩
    rw [List.getElem?_map, Option.map_eq_some_iff] at hi
    obtain ⟨z, hz, rfl⟩ := hi
    have : (cs.drop (off + i * 1)).take 1 = [.int k z] := hx i z hz
    have h1 := congrArg (·[0]?) this
    simp [List.getElem?_take] at h1
    exact h1

end
end Go.Ab

namespace Go.Ab

section
variable {P : Program}

/-- What became of a slice of one's own to which any slice was appended. -/
structure VecGo (e : TypeId) (h : AH) (ob : Option AObj) (A : Nat) (r : Value) (zs : List Value) (h' : AH) : Prop where
  up : ∃ ob' A', Vec e r ob' A' zs ∧ (∀ o, ob' = some o → h'.get A' = some o) ∧ (ob' ≠ none → (A' = A ∧ ob ≠ none) ∨ h.next ≤ A')
  frx : ∀ B o, h.get B = some o → (B = A → ob = none) → h'.get B = some o
  wf : WFH h'
  nx : h.next ≤ h'.next

theorem appendAny {t t2 e : TypeId} {B : Nat} {z : Value} (ht : SlT P t e B z) (ht2 : ∃ e2, P.underlying t2 = some (.slice e2)) {h : AH} (hw : WFH h) {v : Value} {ob : Option AObj} {A : Nat} {zs : List Value} (hv : Vec e v ob A zs) (hg : ∀ o, ob = some o → h.get A = some o)
    {x : Value} {ys : List Value} (hsrc : srcCells 1 x h = some (ys.length, ys)) (hx : ys.all oneC = true) (hb : (2 * (zs.length + ys.length) + 192) * B ≤ 281474976710656) (hm : zs.length + ys.length < 4611686018427387904) :
    ∃ r h', aAppend P #[t, t2] v x h = some (r, h') ∧ VecGo e h ob A r (zs ++ ys) h' := by
  by_cases hne : ys = []
  · subst hne
    obtain ⟨i, hi, h1, hbb, hzz⟩ := ht.info
    have hc : z.cells.size = 1 := by
      have := congrArg List.length ht.zc
      simpa using this
    obtain ⟨e2, ht2⟩ := ht2
    have hs0 : srcCells 1 x h = some (0, []) := hsrc
    refine ⟨v, h, ?_, ⟨ob, A, by simpa using hv, hg, fun hn => .inl ⟨rfl, hn⟩⟩, fun B o hB _ => hB, hw, Nat.le_refl _⟩
    rcases hv with ⟨rfl, rfl, rfl⟩ | ⟨cs, rfl, rfl, hle, htk⟩ | ⟨cs, C, rfl, hCm, hnC, hCl, rfl, htk⟩
    · simp [aAppend, ht.sl, ht2, hi, hzz, h1, hc, isIntT, hs0, ht.zk]
    · have hle2 : zs.length ≤ SL + 1 := by
        simp only [List.length_nil, Nat.add_zero] at hm; unfold SL; omega
      simp [aAppend, ht.sl, ht2, hi, hzz, h1, hc, isIntT, hs0, ht.zk, hle2]
    · simp [aAppend, ht.sl, ht2, hi, hzz, h1, hc, isIntT, hs0, ht.zk, hnC]
  · obtain ⟨r, h', happ, hup⟩ := appendVs ht ht2 hw hv hg hsrc hne hx hb hm
    obtain ⟨A', o', hV, hgA, hA⟩ := hup.up
    exact ⟨r, h', happ, ⟨some o', A', hV, fun o e => by cases e; exact hgA, fun _ => hA⟩, hup.frx, hup.wf, hup.nx⟩

theorem SemOp.mono {ops : Array Oper} {o : Oper} {a : AAct} {h : AH} {K K' : AAct → AH → Prop} (hk : ∀ a h, K a h → K' a h) (hs : SemOp P ops o a h K) : SemOp P ops o a h K' := by
  intro n ρ crd ca w ha hr Q N hN
  exact hs n ρ crd ca w ha hr Q N (fun ca' w' ⟨ρ', a', h', hK, x⟩ => hN ca' w' ⟨ρ', a', h', hk _ _ hK, x⟩)

end
end Go.Ab

namespace Go.Ab

section
variable {P : Program}

/-- What the run of an operation must bring about. -/
def freeK (F : Nat → Value → AH → Prop) (i : Nat) (o : Oper) (a : AAct) (h : AH) (a2 : AAct) (h2 : AH) : Prop := ∃ v, a2 = a.put o.dst v ∧ F i v h2 ∧ Gr h h2

def dstOf (ops : Array Oper) (j : Nat) : Nat := ((ops[j]?).bind (·.dst)).getD 0

/-- The facts of the operations that one waits for. -/
def factsW (F : Nat → Value → AH → Prop) (ops : Array Oper) (a : AAct) (h : AH) : List Nat → Prop
  | [] => True
  | j :: l => F j (a.tm (dstOf ops j)) h ∧ factsW F ops a h l

/-- Between the operations. -/
structure FreeAt (a0 : AAct) (h0 : AH) (T : List Nat) (a : AAct) (h : AH) : Prop where
  n : a.n = a0.n
  df : a.df = a0.df
  tm : ∀ t, t ∉ T → a.tm t = a0.tm t
  gr : Gr h0 h

def freeM (P : Program) (F : Nat → Value → AH → Prop) (ops : Array Oper) (N : AAct → AH → Prop) (a0 : AAct) (h0 : AH) (T : List Nat) : Nat → List Oper → List (List Nat) → Prop
  | _, [], _ => True
  | i, o :: l, D => (∀ a h, FreeAt a0 h0 T a h → factsW F ops a h (D.headD []) → opsM P ops (if l.isEmpty then N else freeK F i o a h) [o] a h) ∧ freeM P F ops N a0 h0 T (i + 1) l D.tail

theorem freeM_cons {F : Nat → Value → AH → Prop} {ops : Array Oper} {N : AAct → AH → Prop} {a0 : AAct} {h0 : AH} {T : List Nat} {i : Nat} {o o' : Oper} {l : List Oper} {d : List Nat} {D : List (List Nat)}
    (h1 : ∀ a h, FreeAt a0 h0 T a h → factsW F ops a h d → opsM P ops (freeK F i o a h) [o] a h) (h2 : freeM P F ops N a0 h0 T (i + 1) (o' :: l) D) : freeM P F ops N a0 h0 T i (o :: o' :: l) (d :: D) := ⟨h1, h2⟩
theorem freeM_last {F : Nat → Value → AH → Prop} {ops : Array Oper} {N : AAct → AH → Prop} {a0 : AAct} {h0 : AH} {T : List Nat} {i : Nat} {o : Oper} {d : List Nat} {D : List (List Nat)}
    (h1 : ∀ a h, FreeAt a0 h0 T a h → factsW F ops a h d → opsM P ops N [o] a h) : freeM P F ops N a0 h0 T i [o] (d :: D) := ⟨h1, trivial⟩

def freeDep (o : Oper) (j : Nat) : Bool := o.after.any fun e => Region.binds .any e && e.on == j

def freeOK (ops : Array Oper) (T : List Nat) (D : List (List Nat)) : Bool :=
  decide (0 < ops.size) && (List.range ops.size).all fun i => match ops[i]? with
    | none => false
    | some o => o.after.all (fun e => !Region.binds .any e || decide (e.on < i)) && (D.getD i []).all (fun j => decide (j < i) && freeDep o j) &&
      (if i + 1 = ops.size then (List.range i).all (freeDep o) else match o.dst with
        | none => false
        | some t => T.contains t && (List.range i).all fun j => dstOf ops j != t)

theorem freeDep_spec {ops : Array Oper} {o : Oper} {i j : Nat} {listed : Array Bool} (ho : ops[i]? = some o) (hd : freeDep o j = true) (hr : i ∈ Region.ready .any ops listed) : listed.getD j false = true := by
  obtain ⟨_, o', ho', hall⟩ := mem_ready.1 hr
  rw [ho] at ho'; cases ho'
  obtain ⟨e, he, hb⟩ := Array.any_eq_true'.1 hd
  simp only [Bool.and_eq_true, beq_iff_eq] at hb
  rw [← hb.2]; exact hall e he hb.1

def unl (listed : Array Bool) (L : List Nat) : Nat := L.countP fun i => !listed.getD i true

theorem unl_set {listed : Array Bool} {i : Nat} (hi : listed.getD i true = false) : ∀ L : List Nat, unl (listed.setIfInBounds i true) L + (if i ∈ L then 1 else 0) ≤ unl listed L := by
  intro L
  have hlt : i < listed.size := by
    rcases Nat.lt_or_ge i listed.size with h | h
    · exact h
    · simp [h] at hi
  have hself : (listed.setIfInBounds i true).getD i true = true := by simp
  induction L with
  | nil => simp [unl]
  | cons j l ih =>
    unfold unl at ih ⊢
    rw [List.countP_cons, List.countP_cons]
    by_cases hij : i = j
    · subst hij
      simp only [hself, hi, Bool.not_true, Bool.not_false, if_true, Bool.false_eq_true, if_false, List.mem_cons, true_or]
      have : (List.countP (fun j => !(listed.setIfInBounds i true).getD j true) l) ≤ List.countP (fun j => !listed.getD j true) l := Nat.le_trans (Nat.le_add_right _ _) ih
      omega
    · rw [getD_set_ne true hij]
      simp only [List.mem_cons, hij, false_or]
      omega

theorem freeM_get {F : Nat → Value → AH → Prop} {ops : Array Oper} {N : AAct → AH → Prop} {a0 : AAct} {h0 : AH} {T : List Nat} : ∀ (l : List Oper) (i : Nat) (D : List (List Nat)), freeM P F ops N a0 h0 T i l D → ∀ k o, l[k]? = some o →
    ∀ a h, FreeAt a0 h0 T a h → factsW F ops a h (D.getD k []) → opsM P ops (if k + 1 = l.length then N else freeK F (i + k) o a h) [o] a h := by
  intro l
  induction l with
  | nil => intro i D _ k o hk; simp at hk
  | cons x l ih =>
    intro i D hf k o hk a h hA hW
    cases k with
    | zero =>
      simp only [List.getElem?_cons_zero, Option.some.injEq] at hk
      subst hk
      have hW' : factsW F ops a h (D.headD []) := by cases D <;> exact hW
      have := hf.1 a h hA hW'
      cases l with
      | nil => simpa using this
      | cons y l => simpa using this
    | succ k =>
      have hW' : factsW F ops a h (D.tail.getD k []) := by cases D <;> simpa using hW
      have := ih (i + 1) D.tail hf.2 k o (by simpa using hk) a h hA hW'
      have e : i + 1 + k = i + (k + 1) := by omega
      rw [e] at this
      simpa using this

theorem factsW_of {F : Nat → Value → AH → Prop} {ops : Array Oper} {a : AAct} {h : AH} : ∀ {L : List Nat}, (∀ j ∈ L, F j (a.tm (dstOf ops j)) h) → factsW F ops a h L := by
  intro L
  induction L with
  | nil => intro _; trivial
  | cons j l ih => intro hx; exact ⟨hx j (List.mem_cons_self ..), ih fun k hk => hx k (List.mem_cons_of_mem _ hk)⟩

/-- A region that draws its order: every order at once. -/
theorem AW.free {rd : Option Nat} {id : Nat} {ops : Array Oper} {Q : Exit → AAct → AH → Prop} {a0 : AAct} {h0 : AH} (F : Nat → Value → AH → Prop) (T : List Nat) (D : List (List Nat)) (hm : P.follows .mixedOrders = true) (hok : freeOK ops T D = true)
    (hF : ∀ i v h1 h2, F i v h1 → Gr h1 h2 → F i v h2) (hx : WFH h0 → freeM P F ops (Q .normal) a0 h0 T 0 ops.toList D) : AW P rd (.region id ops true) Q a0 h0 := by
  intro n0 ρ0 crd0 ca0 w0 hrd0 ha0 hr0
  have hwf := hr0.wf
  refine AW.draw hm ?_ n0 ρ0 crd0 ca0 w0 hrd0 ha0 hr0
  simp only [freeOK, Bool.and_eq_true, decide_eq_true_eq, List.all_eq_true, List.mem_range] at hok
  obtain ⟨hpos, hok⟩ := hok
  have key : ∀ (fuel : Nat) (listed : Array Bool) (a : AAct) (h : AH), listed.size = ops.size → unl listed (List.range ops.size) ≤ fuel → listed.getD (ops.size - 1) true = false → FreeAt a0 h0 T a h → freeM P F ops (Q .normal) a0 h0 T 0 ops.toList D →
      (∀ j, j + 1 < ops.size → listed.getD j false = true → F j (a.tm (dstOf ops j)) h) → anyW P ops Q fuel listed [] a h := by
    intro fuel
    induction fuel with
    | zero =>
      intro listed a h hsz hu hl
      have : 0 < unl listed (List.range ops.size) := List.countP_pos_iff.2 ⟨ops.size - 1, by simp; omega, by rw [hl]; rfl⟩
      omega
    | succ fuel ih =>
      intro listed a h hsz hu hl hA hM hFs _ _
      have hne : ∀ n i, ops.size ≤ i + n → i < ops.size → (∀ j, j < i → listed.getD j false = true) → Region.ready .any ops listed ≠ [] := by
        intro n
        induction n with
        | zero => intro i h1 h2; omega
        | succ n ihn =>
          intro i h1 h2 h3
          by_cases hi : listed.getD i true = false
          · intro hnil
            have hio := Array.getElem?_eq_getElem h2
            have hki := hok i h2
            rw [hio] at hki
            simp only [Bool.and_eq_true, Array.all_eq_true', Bool.or_eq_true, Bool.not_eq_true', decide_eq_true_eq] at hki
            have : i ∈ Region.ready .any ops listed := mem_ready.2 ⟨hi, _, hio, fun e he hb => h3 _ (by
              rcases hki.1.1 e he with hk | hk
              · rw [hb] at hk; cases hk
              · exact hk)⟩
            rw [hnil] at this; cases this
          · have hil : i < listed.size := by omega
            have hi2 : listed.getD i false = true := by
              simp [hil] at hi ⊢; exact hi
            by_cases hlast : i + 1 = ops.size
            · have : ops.size - 1 = i := by omega
              rw [this] at hl; exact absurd hl hi
            · exact ihn (i + 1) (by omega) (by omega) (fun j hj => by
                by_cases e : j = i
                · subst e; exact hi2
                · exact h3 j (by omega))
      refine ⟨fun e => absurd e (hne ops.size 0 (by omega) hpos (fun j hj => by omega)), fun i hi o ho => ?_⟩
      have hun := (mem_ready.1 hi).1
      have hlt : i < ops.size := (Array.getElem?_eq_some_iff.1 ho).1
      have hki := hok i hlt
      rw [ho] at hki
      simp only [Bool.and_eq_true, List.all_eq_true, decide_eq_true_eq] at hki
      obtain ⟨⟨_, hD⟩, hdst⟩ := hki
      have hol : ops.toList[i]? = some o := by simpa using ho
      have hst := freeM_get ops.toList 0 D hM i o hol a h hA (factsW_of fun j hj => by
        obtain ⟨h1, h2⟩ := hD j hj
        exact hFs j (by omega) (freeDep_spec ho h2 hi))
      have hop := opsM_sound _ _ _ hst
      simp only [opsL, Nat.zero_add, Array.length_toList] at hop
      by_cases hlast : i + 1 = ops.size
      · rw [if_pos hlast] at hop hdst
        refine opW.mono (fun a' h' hq => ⟨fun p hp => (nomatch hp), ?_⟩) hop
        have hnone : Region.ready .any ops (listed.setIfInBounds i true) = [] := by
          cases hr : Region.ready .any ops (listed.setIfInBounds i true) with
          | nil => rfl
          | cons k l =>
            have hk : k ∈ Region.ready .any ops (listed.setIfInBounds i true) := by rw [hr]; exact List.mem_cons_self ..
            obtain ⟨hk1, ok, hk2, _⟩ := mem_ready.1 hk
            have hkl : k < ops.size := (Array.getElem?_eq_some_iff.1 hk2).1
            by_cases hki : k = i
            · subst hki
              have : (listed.setIfInBounds k true).getD k true = true := by simp
              rw [this] at hk1; cases hk1
            · have h1 := freeDep_spec ho (List.all_eq_true.1 hdst k (List.mem_range.2 (by omega))) hi
              rw [getD_set_ne true (fun e => hki e.symm)] at hk1
              have hkl2 : k < listed.size := by omega
              simp [hkl2] at h1 hk1
              rw [h1] at hk1; cases hk1
        cases fuel with
        | zero => exact fun _ _ => ⟨hnone, hq⟩
        | succ fuel => exact fun _ _ => ⟨fun _ => hq, fun k hk => by rw [hnone] at hk; cases hk⟩
      · rw [if_neg hlast] at hop hdst
        refine opW.mono (fun a' h' hq => ⟨fun p hp => (nomatch hp), ?_⟩) hop
        obtain ⟨v, rfl, hFv, hg⟩ := hq
        cases hd : o.dst with
        | none => rw [hd] at hdst; cases hdst
        | some t =>
          rw [hd] at hdst
          simp only [Bool.and_eq_true, List.contains_iff_mem, List.all_eq_true, List.mem_range, bne_iff_ne, ne_eq] at hdst
          have hti : dstOf ops i = t := by simp [dstOf, ho, hd]
          have hdis : ∀ j, j + 1 < ops.size → j ≠ i → dstOf ops j ≠ t := by
            intro j hj hji
            rcases Nat.lt_or_ge j i with hlt' | hge
            · exact hdst.2 j hlt'
            · have hjl : j < ops.size := by omega
              have hkj := hok j hjl
              rw [Array.getElem?_eq_getElem hjl] at hkj
              simp only [Bool.and_eq_true] at hkj
              have h2 := hkj.2
              rw [if_neg (by omega)] at h2
              cases hdj : ops[j].dst with
              | none => rw [hdj] at h2; cases h2
              | some u =>
                rw [hdj] at h2
                simp only [Bool.and_eq_true, List.all_eq_true, List.mem_range, bne_iff_ne, ne_eq] at h2
                have e : dstOf ops j = u := by simp [dstOf, Array.getElem?_eq_getElem hjl, hdj]
                rw [e]; intro e2; exact h2.2 i (by omega) (by rw [hti, e2])
          have hne2 : ops.size - 1 ≠ i := by omega
          refine ih _ _ _ (by simpa using hsz) ?_ ?_ ⟨?_, ?_, ?_, hA.gr.trans hg⟩ hM ?_
          · have := unl_set hun (List.range ops.size)
            rw [if_pos (List.mem_range.2 hlt)] at this
            omega
          · rw [getD_set_ne true (fun e => hne2 e.symm)]; exact hl
          · rw [put_n]; exact hA.n
          · rw [put_df]; exact hA.df
          · intro u hu
            rw [put_tm, if_neg (fun e => hu (by rw [e]; exact hdst.1))]; exact hA.tm u hu
          · intro j hj hlj
            by_cases hji : j = i
            · subst hji; rw [hti, put_tm, if_pos rfl]; exact hFv
            · rw [put_tm, if_neg (hdis j hj hji)]
              refine hF _ _ _ _ (hFs j hj ?_) hg
              rw [← hlj]
              exact (getD_set_ne (listed := listed) false (Ne.symm hji)).symm
  refine key ops.size (Array.replicate ops.size false) a0 h0 (by simp) ?_ ?_ ⟨rfl, rfl, fun _ _ => rfl, Gr.refl hwf⟩ (hx hwf) ?_
  · have := List.countP_le_length (p := fun i => !(Array.replicate ops.size false).getD i true) (l := List.range ops.size)
    simpa [unl] using this
  · have hp : ops.size - 1 < ops.size := by omega
    simp [hp]
  · intro j hj hl
    have hjl : j < ops.size := by omega
    simp [hjl] at hl

theorem put_lt (a : AAct) {t u : Nat} (v : Value) (h : t < u) : (a.put (some u) v).tm t = a.tm t := by rw [put_tm, if_neg (by omega)]

/-- A region in two parts. -/
theorem opsM_append {ops : Array Oper} {N : AAct → AH → Prop} (l2 : List Oper) : ∀ (l1 : List Oper) (a : AAct) (h : AH), opsM P ops (opsM P ops N l2) l1 a h → opsM P ops N (l1 ++ l2) a h := by
  intro l1
  induction l1 with
  | nil => intro a h hx; exact hx
  | cons o l ih =>
    intro a h hx
    have ih' : ∀ d a v h, contK (opsM P ops (opsM P ops N l2) l) d a v h → contK (opsM P ops N (l ++ l2)) d a v h := fun d a v h hk => ih _ _ hk
    simp only [List.cons_append, opsM] at hx ⊢
    repeat' split
    all_goals simp_all
    all_goals first
      | exact callR.mono (fun v h hk => ih' _ _ _ _ hk) hx
      | exact opR.mono (P := P) (op := .next _ false) (fun v h hk => ih' _ _ _ _ hk) hx

/-- What is shown of a region's first operations, and what follows of it, apart. -/
theorem opsM_cut {ops : Array Oper} {N : AAct → AH → Prop} {l : List Oper} {a : AAct} {h : AH} (R : AAct → AH → Prop) (h1 : ∀ N' : AAct → AH → Prop, (∀ a' h', R a' h' → N' a' h') → opsM P ops N' l a h) (h2 : ∀ a' h', R a' h' → N a' h') : opsM P ops N l a h := h1 N h2
theorem opsM_cutAt {ops : Array Oper} {N : AAct → AH → Prop} {l : List Oper} {a : AAct} {h : AH} (n : Nat) (R : AAct → AH → Prop) (h1 : ∀ N' : AAct → AH → Prop, (∀ a' h', R a' h' → N' a' h') → opsM P ops N' (l.take n) a h) (h2 : ∀ a' h', R a' h' → opsM P ops N (l.drop n) a' h') : opsM P ops N l a h := by
  rw [← List.take_append_drop n l]
  exact opsM_append _ _ _ _ (h1 _ h2)
end
end Go.Ab

namespace Go.Ab

section
variable {P : Program}

def AObj.ty : AObj → Option TypeId
  | .row _ e _ => some e
  | .grow _ e => some e
  | _ => none

theorem Vec.ty {e : TypeId} {v : Value} {ob : Option AObj} {A : Nat} {zs : List Value} (hv : Vec e v ob A zs) : ∀ o, ob = some o → o.ty = some e := by
  intro o ho
  rcases hv with ⟨_, _, rfl⟩ | ⟨cs, _, rfl, _⟩ | ⟨cs, C, _, _, _, _, rfl, _⟩ <;> cases ho <;> rfl
theorem VecM.ty {sz : Nat} {e : TypeId} {v : Value} {ob : Option AObj} {A n : Nat} {zs : List Value} (hv : VecM sz e v ob A n zs) : ∀ o, ob = some o → o.ty = some e := by
  intro o ho
  obtain ⟨_, ⟨_, _, rfl⟩ | ⟨_, _, rfl⟩ | ⟨_, rfl⟩⟩ := hv <;> cases ho <;> rfl
theorem ty_ne {h : AH} {A B : Nat} {o p : AObj} {e f : TypeId} (ha : h.get A = some o) (hb : h.get B = some p) (ho : o.ty = some e) (hp : p.ty = some f) (hne : e ≠ f) : A ≠ B := by
  rintro rfl
  rw [ha] at hb; cases hb
  rw [ho] at hp; cases hp; exact hne rfl

/-- append([]T{}, x...), for elements of one cell. -/
theorem copyV {t e : TypeId} {B : Nat} {z : Value} (ht : SlT P t e B z) {h : AH} (w : WFH h) {A : Nat} (hg : h.get A = some (.row [] e true)) {v : Value} {vs : List Value} (hs : SlOf h v vs) (hb : (2 * vs.length + 192) * B ≤ 281474976710656) (hm : vs.length < ML) :
    ∃ r h' o' A', aAppend P #[t, t] (.slice (some ⟨A, 0, none⟩) 0 0) v h = some (r, h') ∧ Gr h h' ∧ Vec e r (some o') A' vs ∧ h'.get A' = some o' ∧ (A' = A ∨ h.next ≤ A') := by
  have hsrc := hs.src
  by_cases hz : vs = []
  · subst hz
    exact ⟨_, h, _, A, aAppend_none ht hsrc, Gr.refl w, .inr (.inr ⟨[], 0, rfl, by omega, Nat.le_refl _, Nat.le_refl _, rfl, rfl⟩), hg, .inl rfl⟩
  · exact ⟨_, _, _, h.next, aAppend_first ht hg hsrc hz hb hm, (Gr.refl w).new _, .inr (.inl ⟨vs, rfl, rfl, Nat.le_refl _, List.take_length⟩), by rw [AH.new_get, if_pos rfl], .inr (Nat.le_refl _)⟩

/-- append([]T{}, x...), for elements of several cells. -/
theorem copyM {α : Type} {L : Lay α} {t e : TypeId} {B : Nat} (ht : SlM P t e L.sz B) {h : AH} (w : WFH h) {A : Nat} (hg : h.get A = some (.row [] e true)) {v : Value} {xs : List α} (hv : RowOf L h v xs) (hb : (2 * xs.length + 192) * B ≤ 281474976710656) (hm : xs.length < 4611686018427387904) :
    ∃ r h' o' A' ys, aAppend P #[t, t] (.slice (some ⟨A, 0, none⟩) 0 0) v h = some (r, h') ∧ Gr h h' ∧ VecM L.sz e r (some o') A' xs.length ys ∧ h'.get A' = some o' ∧ (A' = A ∨ h.next ≤ A') ∧ ∀ (i : Nat) (x : α), xs[i]? = some x → L.rel h ((ys.drop (i * L.sz)).take L.sz) x := by
  obtain ⟨ys, hsrc, hyl, hyr⟩ := hv.src
  by_cases hz : xs = []
  · subst hz
    have happ : aAppend P #[t, t] (.slice (some ⟨A, 0, none⟩) 0 0) v h = some (.slice (some ⟨A, 0, none⟩) 0 0, h) := by
      obtain ⟨i, z, hi, h1, hbb, hzz, hc, hzk, _⟩ := ht.info
      simp [aAppend, ht.sl, hi, hzz, h1, hc, isIntT, hsrc, hzk]
    exact ⟨_, h, _, A, [], happ, Gr.refl w, ⟨by simp, .inr (.inl ⟨rfl, rfl, rfl⟩)⟩, hg, .inl rfl, fun i x e => by simp at e⟩
  · have hk : xs.length ≠ 0 := fun e => hz (List.eq_nil_of_length_eq_zero e)
    obtain ⟨r, h2, happ, ⟨A', o', hv', hA', hlo⟩, frx, w2, n2⟩ := appendM (t := t) (t2 := t) ht ⟨_, ht.sl⟩ w (v := .slice (some ⟨A, 0, none⟩) 0 0) (ob := some (.row [] e true)) (A := A) (n := 0) (zs := [])
      ⟨by simp, .inr (.inl ⟨rfl, rfl, rfl⟩)⟩ (fun o e => by cases e; exact hg) hsrc hk hyl (by rw [Nat.zero_add]; exact hb) (by omega)
    rw [Nat.zero_add, List.nil_append] at hv'
    refine ⟨r, h2, o', A', ys, happ, ⟨w2, fun C o hC => ?_, n2⟩, hv', hA', .inr hlo, hyr⟩
    by_cases hCA : C = A
    · subst hCA
      rw [hg] at hC; cases hC
      obtain ⟨i, z, hi, h1, hbb, hzz, hc, hzk, _⟩ := ht.info
      have e2 : aAppend P #[t, t] (.slice (some ⟨C, 0, none⟩) 0 0) v h = some (.slice (some ⟨h.next, 0, none⟩) xs.length (SL + L.sz), h.new (.grow ys e)) := by
        have h0 : 0 < SL := by unfold SL; omega
        have hm' : xs.length < ML := by unfold ML; omega
        simp [aAppend, ht.sl, hi, hzz, h1, hc, isIntT, hsrc, hbb, hb, hm', hzk, hk, hg, AObj.cells?, h0]
      rw [e2] at happ
      cases happ
      exact Sub.new w _ _ _ hg
    · exact frx C o hC (fun e => absurd e hCA)

/-- A field of an element, written over. -/
theorem setChunk {zs : List Value} {sz i f : Nat} {x : Value} (hf : f < sz) (j : Nat) : ((zs.set (i * sz + f) x).drop (j * sz)).take sz = if j = i then ((zs.drop (i * sz)).take sz).set f x else (zs.drop (j * sz)).take sz := by
  by_cases hj : j = i
  · subst hj
    rw [if_pos rfl, ← List.set_drop, List.take_set]
  · rw [if_neg hj]
    apply List.ext_getElem?
    intro m
    rw [List.getElem?_take, List.getElem?_take]
    by_cases hm : m < sz
    · rw [if_pos hm, if_pos hm, List.getElem?_drop, List.getElem?_drop, List.getElem?_set_ne]
      intro e
      rcases Nat.lt_or_gt_of_ne hj with h | h
      · have : (j + 1) * sz ≤ i * sz := Nat.mul_le_mul_right _ h
        rw [Nat.add_mul, Nat.one_mul] at this; omega
      · have : (i + 1) * sz ≤ j * sz := Nat.mul_le_mul_right _ h
        rw [Nat.add_mul, Nat.one_mul] at this; omega
    · rw [if_neg hm, if_neg hm]

theorem VecM.storeF {sz : Nat} {e t : TypeId} {h : AH} {v : Value} {ob : Option AObj} {A n : Nat} {zs : List Value} (hv : VecM sz e v ob A n zs) (hg : ∀ o, ob = some o → h.get A = some o) (he : ∃ i, P.info? t = some i ∧ i.size = 1) {i f : Nat} (hi : i < n) (hf : f < sz)
    {x : Value} (hx : x.cells.toList = [x]) (ho : oneC x = true) : ob = some (.grow zs e) ∧ aStore P t (slF sz v i f) x h = some (h.set A (.grow (zs.set (i * sz + f) x) e)) ∧ VecM sz e v (some (.grow (zs.set (i * sz + f) x) e)) A n (zs.set (i * sz + f) x) := by
  obtain ⟨hl, ⟨rfl, _⟩ | ⟨rfl, _⟩ | ⟨rfl, rfl⟩⟩ := hv
  · omega
  · omega
  · obtain ⟨I, hI, hs⟩ := he
    have hc : x.cells.size = 1 := by
      have := congrArg List.length hx
      simpa using this
    have hlt : i * sz + f + 1 ≤ zs.length := by
      have : (i + 1) * sz ≤ n * sz := Nat.mul_le_mul_right _ hi
      rw [Nat.add_mul, Nat.one_mul] at this; omega
    refine ⟨rfl, ?_, by simpa using hl, .inr (.inr ⟨rfl, rfl⟩)⟩
    simp [aStore, slF, hI, hs, hg _ rfl, AObj.setCells, hc, hx, ho, setL, hlt]
end
end Go.Ab

namespace Go.Ab.S1
open Go.Proofs
set_option linter.unusedSimpArgs false
set_option linter.unusedVariables false
set_option maxRecDepth 100000
set_option maxHeartbeats 4000000
attribute [local push_cast] wpA_skip wpA_ret wpA_exit wpA_seq wpA_block wpA_cond2 andK_true wpA_region wpA_draw wpA_loop thenQ_normal thenQ_ret thenQ_exit blockQ_normal blockQ_ret blockQ_exit condV_true condV_false opsM_nil opsM_cons2 okM_true wantM_true wantM_false stepM seqM_cons2 seqM_nil2 okS_true wantS_true wantS_false stepS skipS okB Keeps_nil contK_app List.zip_cons_cons List.zip_nil_left List.zip_nil_right Op.operands Call.operands Array.toList_append List.append_nil List.nil_append List.all_cons List.all_nil cOK plain put_n put_tm put_none put_df ev_tmp ev_const ev_func wanted_none wanted_some callR_func dop ex_some1 aBuiltin aBin intBin aUn Option.map_some Bool.and_true Bool.true_and Bool.and_self List.map_cons List.map_nil List.toList_toArray List.getElem?_toArray List.getElem?_cons_zero List.getElem?_cons_succ Option.getD_some Option.getD_none Bool.false_eq_true eq_self_iff_true decide_true decide_false List.cons_append aExtract resL resV List.getD_cons_zero List.getD_cons_succ List.getD_nil Nat.succ_ne_self g1 g2 yieldedA2 isB_bool isB_undef g3 Option.bind_some Option.bind_none bne_self_eq_false beq_self_eq_true Bool.not_true Bool.not_false Int.toNat_natCast List.length_map List.mem_cons List.not_mem_nil or_false not_false_eq_true decide_not Bool.not_not bodyR_ret2 bodyR_normal2 closeMarks_nil ex_some0 Nat.zero_add Nat.add_zero ieq ine List.map_toArray Option.toArray_none Option.toArray_some oev Keeps_cons Still_eq selL wpX_skip wpX_ret wpX_exit wpX_seq wpX_block wpX_cond wpX_region wpX_draw wpX_loop List.take_succ_cons List.take_zero List.drop_succ_cons List.drop_zero Int.zero_add Int.add_zero aNil if_true if_false true_and and_true

theorem WV.hide {e : TypeId} {N : Nat} {h : AH} {v : Value} {vs : List Value} (w : WV e N h v vs) {K : Nat → Prop} (hK : ∀ A o, h.get A = some o → N ≤ A → o.ty = some e → ¬ K A) : WV e N (hide K h) v vs := by
  obtain ⟨ob, A, a, b⟩ := w
  exact ⟨ob, A, a, fun o ho => ⟨hide_get.2 ⟨hK A o (b o ho).1 (b o ho).2 (a.ty o ho), (b o ho).1⟩, (b o ho).2⟩⟩

/-- What Copy has laid. -/
def CellsCopy (N : Nat) (h : AH) (r : Value) (cs : List Cell) : Prop := ∃ ob A, RowV (cellW N) 40 (hide (fun C => C = A) h) r ob A cs ∧ ∀ o, ob = some o → h.get A = some o ∧ N ≤ A

theorem CellsCopy.sub {N : Nat} {h h' : AH} {r : Value} {cs : List Cell} (c : CellsCopy N h r cs) (s : Sub h h') : CellsCopy N h' r cs := by
  obtain ⟨ob, A, a, b⟩ := c
  exact ⟨ob, A, a.sub (hide_mono s), fun o e => ⟨s _ _ (b o e).1, (b o e).2⟩⟩

theorem chunk5 {zs : List Value} {i : Nat} {a b c d e x : Value} (h : (zs.drop (i * 5)).take 5 = [a, b, c, d, e]) : ((zs.drop (i * 5)).take 5).set 4 x = [a, b, c, d, x] := by rw [h]; rfl

theorem copy28 {h : AH} {v : Value} {cs : List Cell} (hv : RowOf cellL h v cs) (hb : cs.length ≤ 4294967296) (hdl : ∀ c ∈ cs, c.delay.length ≤ 4294967296) :
    ACall Tryz.prog 28 [v] h (fun r h' => Gr h h' ∧ CellsCopy h.next h' r cs) := by
  refine ACall.wf ⟨_, Tryz.func28, rfl, by kernel_rfl⟩ fun hwf => ?_
  refine ACall.of_wp 26 [.tmp 2] Tryz.func28 rfl (by kernel_rfl) rfl rfl fun a hn hd ha => ?_
  have he : aBuildSlice Tryz.prog 22 0 [] h = some (.slice (some ⟨h.next, 0, none⟩) 0 0, h.new (.row [] 40 true)) := by
    obtain ⟨i, z, hi, h1, hb, hz, hc, hzk, hp⟩ := smC.info
    simp only [aBuildSlice, smC.sl, hi, hz, h1, hp, hc, fillL, zeros]
    simp [SL]
  have g1 := (Gr.refl hwf).new (.row [] 40 true)
  have hg1 : (h.new (.row [] 40 true)).get h.next = some (.row [] 40 true) := by rw [AH.new_get, if_pos rfl]
  have hnx1 : (h.new (.row [] 40 true)).next = h.next + 1 := rfl
  have hv1 := hv.sub g1.sub
  simp (disch := first | omega | decide) only [push_cast, ↓reduceIte, Nat.reduceLT, Nat.reduceEqDiff, reduceCtorEq, Nat.reduceAdd, hn, hd, ha, he]
  generalize h.new (.row [] 40 true) = h1 at g1 hg1 hnx1 hv1 ⊢
  obtain ⟨r, h2, o2, A, ys, happ, g2, hV, hA, hlo, hrel⟩ := copyM (L := cellL) (t := 22) smC g1.wf hg1 hv1 (by omega) (by omega)
  have hNA : h.next ≤ A := by
    rcases hlo with e | e <;> omega
  simp (disch := first | omega | decide) only [push_cast, ↓reduceIte, Nat.reduceLT, Nat.reduceEqDiff, reduceCtorEq, Nat.reduceAdd, hn, hd, ha, happ]
  refine AW.loopN 8 [4] (fun q a' h' => ∃ (i : Nat) (zs : List Value) (o : AObj), Gr h1 h' ∧ a'.tm 3 = r ∧ a'.tm 4 = .int .i64 i ∧ i + q = cs.length ∧ h'.get A = some o ∧ VecM 5 40 r (some o) A cs.length zs ∧
    ∀ j c, cs[j]? = some c → ∃ dv, (zs.drop (j * 5)).take 5 = [.string c.name, .int .i64 c.pins, .int .u64 c.table, .int .i64 c.area, dv] ∧ (if j < i then WV 2 h.next (hide (fun C => C = A) h') dv (c.delay.map (.int .i64)) else SlOf h1 dv (c.delay.map (.int .i64)))) cs.length ?_ ?_
  · refine ⟨0, ys, o2, g2, by simp (disch := first | omega | decide) only [push_cast, ↓reduceIte, Nat.reduceLT, Nat.reduceEqDiff, reduceCtorEq, Nat.reduceAdd], by simp (disch := first | omega | decide) only [push_cast, ↓reduceIte, Nat.reduceLT, Nat.reduceEqDiff, reduceCtorEq, Nat.reduceAdd], by omega, hA, hV, fun j c hc => ?_⟩
    obtain ⟨dv, e, hs⟩ := hrel j c hc
    exact ⟨dv, e, by rw [if_neg (Nat.not_lt_zero j)]; exact hs⟩
  clear hrel hV hA g2 happ h2 o2 ys
  rintro a1 q a' h' hk kn kd kt ⟨i, zs, o, g, h3, h4, hiq, hA, hV, hrel⟩
  have hrow : RowOf cellL h' r cs := VecM.row (L := cellL) hV (fun o e => by cases e; exact hA) hb (fun j c hc => by
    obtain ⟨dv, e, hd⟩ := hrel j c hc
    refine ⟨dv, e, ?_⟩
    split at hd
    · exact (hd.sub (hide_sub _ _)).sl
    · exact hd.sub g.sub)
  simp (disch := first | omega | decide) only [push_cast, ↓reduceIte, Nat.reduceLT, Nat.reduceEqDiff, reduceCtorEq, Nat.reduceAdd, kn, kd, kt, hn, hd, ha, h3, h4, hrow.len Tryz.underlying22]
  refine condV_of (fun hlt => ?_) (fun hge => ?_)
  · have hi : i < cs.length := by have := hlt; simp at this; omega
    have hget : cs[i]? = some (cs.getD i default) := by simp [List.getD_eq_getElem?_getD, hi]
    obtain ⟨dv, hch, -⟩ := hrel i _ hget
    have gk := (Gr.refl g.wf).new (.row [] 2 true)
    have hgk : (h'.new (.row [] 2 true)).get h'.next = some (.row [] 2 true) := by rw [AH.new_get, if_pos rfl]
    have hrow1 := hrow.sub gk.sub
    have hnk : (h'.new (.row [] 2 true)).next = h'.next + 1 := rfl
    have hAlt := AH.get_lt g.wf hA
    simp (disch := first | omega | decide) only [push_cast, ↓reduceIte, Nat.reduceLT, Nat.reduceEqDiff, reduceCtorEq, Nat.reduceAdd, kn, kd, kt, hn, hd, ha, h3, h4, aBuildSlice_empty tL h', hrow.idx Tryz.underlying22 infC]
    generalize h'.new (.row [] 2 true) = k1 at gk hgk hrow1 hnk ⊢
    obtain ⟨c', ⟨dv', rfl, hd'⟩, -, hf, hfa⟩ := hrow1.get (P := Tryz.prog) hi default
    have hl4 := hf 4 _ flL (by decide)
    have hf4 := hfa _ _ _ foC4
    have hdb := hdl _ (getD_mem hi default)
    obtain ⟨r', k2, o', A', happ, gk2, hV2, hA2, hlo2⟩ := copyV (t := 38) tL gk.wf hgk hd' (by rw [List.length_map]; omega) (by rw [List.length_map]; unfold ML; omega)
    have hA3 := (gk.trans gk2).sub _ _ hA
    obtain ⟨eo, est, hV3⟩ := hV.storeF (P := Tryz.prog) (h := k2) (t := 38) (i := i) (f := 4) (x := r') (fun p e => by cases e; exact hA3) agL0 hi (by decide) (WV.one ⟨_, _, hV2, fun o e => ⟨by cases e; exact hA2, Nat.zero_le _⟩⟩).2 (WV.one ⟨_, _, hV2, fun o e => ⟨by cases e; exact hA2, Nat.zero_le _⟩⟩).1
    have est : aStore Tryz.prog 38 (slF cellL.sz r i 4) r' k2 = _ := est
    have hA1 : h1.next ≤ A := by
      rcases hlo with e | e
      · have := g.sub _ _ hg1
        rw [← e, hA] at this
        rw [eo] at this
        cases this
      · exact e
    have hw1 : IntKind.i64.wrap ((i : Int) + 1) = i + 1 := wrapI (by omega) (by omega)
    have hlt2 := AH.get_lt gk2.wf hA3
    simp (disch := first | omega | decide) only [push_cast, ↓reduceIte, Nat.reduceLT, Nat.reduceEqDiff, reduceCtorEq, Nat.reduceAdd, kn, kd, kt, hn, hd, ha, h3, h4, hrow.idx Tryz.underlying22 infC, hf4, hl4, happ, est, hw1]
    refine ⟨q - 1, by omega, (by simp (disch := decide) only [Kp_put, put_none, hk]), i + 1, _, _, ((g.trans gk).trans gk2).set g1.wf hA1 hlt2 _, by simp (disch := first | omega | decide) only [push_cast, ↓reduceIte, Nat.reduceLT, Nat.reduceEqDiff, reduceCtorEq, Nat.reduceAdd, h3], by simp (disch := first | omega | decide) only [push_cast, ↓reduceIte, Nat.reduceLT, Nat.reduceEqDiff, reduceCtorEq, Nat.reduceAdd], by omega, by rw [AH.set_get, if_pos rfl], hV3, fun j c hc => ?_⟩
    rw [setChunk (by decide) j]
    by_cases hj : j = i
    · subst hj
      rw [hget] at hc; cases hc
      rw [if_pos rfl]
      refine ⟨r', chunk5 hch, ?_⟩
      rw [if_pos (Nat.lt_succ_self j)]
      refine ⟨_, A', hV2, fun o e => ?_⟩
      cases e
      have hne : A' ≠ A := by rcases hlo2 with e | e <;> omega
      have := gk.nx
      exact ⟨hide_get.2 ⟨hne, by rw [AH.set_get, if_neg hne]; exact hA2⟩, by rcases hlo2 with e | e <;> omega⟩
    · rw [if_neg hj]
      obtain ⟨dv2, e2, h2⟩ := hrel j c hc
      refine ⟨dv2, e2, ?_⟩
      by_cases hji : j < i
      · rw [if_pos hji] at h2
        rw [if_pos (by omega)]
        refine h2.sub (fun C p hC => ?_)
        obtain ⟨x1, x2⟩ := hide_get.1 hC
        exact hide_get.2 ⟨x1, by rw [AH.set_get, if_neg x1]; exact (gk.trans gk2).sub _ _ x2⟩
      · rw [if_neg hji] at h2
        rw [if_neg (by omega)]
        exact h2
  · have hi : i = cs.length := by have := hge; simp at this; omega
    subst hi
    simp (disch := first | omega | decide) only [push_cast, ↓reduceIte, Nat.reduceLT, Nat.reduceEqDiff, reduceCtorEq, Nat.reduceAdd, kn, kd, kt, hn, hd, ha, h3, h4]
    refine ⟨g1.trans g, _, A, ⟨zs, hV, fun j c hc => ?_⟩, fun o e => by cases e; exact ⟨hA, hNA⟩⟩
    obtain ⟨dv, e, hd⟩ := hrel j c hc
    rw [if_pos (List.getElem?_eq_some_iff.1 hc).1] at hd
    exact ⟨dv, e, hd⟩


/-! ### Closed runs -/

def isV (V : Int) : Value → EH → Bool
  | .int .u64 n, _ => decide (n = V)
  | _, _ => false

theorem emptyDen0 : (EH.den { next := 0, hp := T.full 11 }) = emptyH := by
  simp only [EH.den, emptyH]; congr 1; funext i; exact full_get 11 i

theorem closedU {g : FuncId} {args : List Value} {V : Int} (hargs : args.all (plain 9) = true) (hrun : evCall Tryz.prog (evC ⟨Tryz.prog, [], []⟩ 100000) g args { next := 0, hp := T.full 11 } (isV V) = true) (h : AH) :
    ACall Tryz.prog g args h (fun v h' => v = .int .u64 V ∧ h' = h) := by
  refine ACall.closed hargs rfl ?_ h
  have := evCall_sound (evC_sound (E := ⟨Tryz.prog, [], []⟩) mixed 100000) g args _ (isV V) hrun
  rw [emptyDen0] at this
  refine ACall.mono ?_ this
  rintro v h' ⟨eh, rfl, hk⟩
  unfold isV at hk
  split at hk
  · rw [of_decide_eq_true hk]
  · cases hk

theorem mask1 (h : AH) : ACall Tryz.prog 76 [.int .i64 1] h (fun v h' => v = .int .u64 3 ∧ h' = h) := closedU rfl (by kernel_rfl) h
theorem mask2 (h : AH) : ACall Tryz.prog 76 [.int .i64 2] h (fun v h' => v = .int .u64 15 ∧ h' = h) := closedU rfl (by kernel_rfl) h
theorem mask3 (h : AH) : ACall Tryz.prog 76 [.int .i64 3] h (fun v h' => v = .int .u64 255 ∧ h' = h) := closedU rfl (by kernel_rfl) h
theorem mask4 (h : AH) : ACall Tryz.prog 76 [.int .i64 4] h (fun v h' => v = .int .u64 65535 ∧ h' = h) := closedU rfl (by kernel_rfl) h

theorem or_mask (t k : Nat) (ht : t < 2 ^ 64) (hk : k ≤ 64) : (BitVec.ofInt 64 (t : Int) ||| BitVec.ofInt 64 ((2 ^ k - 1 : Nat) : Int)).toNat = 2 ^ k - 1 ↔ t < 2 ^ k := by
  have hp : 2 ^ k ≤ 2 ^ 64 := Nat.pow_le_pow_right (by omega) hk
  have h1 := Nat.one_le_two_pow (n := k)
  have e1 : BitVec.ofInt 64 (t : Int) = BitVec.ofNat 64 t := by simp
  have e2 : BitVec.ofInt 64 ((2 ^ k - 1 : Nat) : Int) = BitVec.ofNat 64 (2 ^ k - 1) := by simp
  rw [e1, e2, BitVec.toNat_or, BitVec.toNat_ofNat, BitVec.toNat_ofNat, Nat.mod_eq_of_lt ht, Nat.mod_eq_of_lt (by omega)]
  constructor
  · intro h
    have : t ≤ t ||| (2 ^ k - 1) := Nat.left_le_or
    omega
  · intro h
    apply Nat.eq_of_testBit_eq
    intro i
    rw [Nat.testBit_or, Nat.testBit_two_pow_sub_one]
    by_cases hi : i < k
    · simp [hi]
    · have : t.testBit i = false := Nat.testBit_lt_two_pow (Nat.lt_of_lt_of_le h (Nat.pow_le_pow_right (by omega) (by omega)))
      simp [hi, this]

theorem or_maskE {t n : Int} {k : Nat} {m : Int} (h0 : 0 ≤ t) (h1 : t < 18446744073709551616) (hk : k ≤ 64) (hm : m = ((2 ^ k - 1 : Nat) : Int)) (hn : n = lim n) (hmask : maskE n = m) :
    (IntKind.u64.wrap ((BitVec.ofInt 64 t ||| BitVec.ofInt 64 m).toNat : Int) == m) = validE t n := by
  obtain ⟨q, rfl⟩ : ∃ q : Nat, t = q := ⟨t.toNat, by omega⟩
  subst hm
  have := or_mask q k (by omega) hk
  have h1p := Nat.one_le_two_pow (n := k)
  generalize hx : (BitVec.ofInt 64 (q : Int) ||| BitVec.ofInt 64 ((2 ^ k - 1 : Nat) : Int)) = x at this ⊢
  have hlt := x.isLt
  have hw : IntKind.u64.wrap (x.toNat : Int) = x.toNat := by
    unfold IntKind.wrap
    simp [IntKind.bits, IntKind.signed]
    omega
  rw [hw, validE, hmask, decide_eq_true hn, Bool.true_and]
  by_cases hq : q < 2 ^ k
  · have h2 := this.2 hq
    rw [h2, decide_eq_true (by omega)]; simp
  · have h2 : ¬ x.toNat = 2 ^ k - 1 := fun e => hq (this.1 e)
    rw [decide_eq_false (by omega)]
    simp only [beq_eq_false_iff_ne, ne_eq, Int.natCast_inj]
    exact h2

theorem valid21 {h : AH} {t n : Int} (h0 : 0 ≤ t) (h1 : t < 18446744073709551616) (hn1 : 1 ≤ n) (hn4 : n ≤ 4) : ACall Tryz.prog 56 [.int .u64 t, .int .i64 n] h (fun r h' => r = .bool (validE t n) ∧ h' = h) := by
  have key : ∀ {m : Int} {k : Nat}, (∀ h, ACall Tryz.prog 76 [.int .i64 n] h (fun v h' => v = .int .u64 m ∧ h' = h)) → k ≤ 64 → m = ((2 ^ k - 1 : Nat) : Int) → n = lim n → maskE n = m → 0 ≤ n → n ≤ 6 → ACall Tryz.prog 56 [.int .u64 t, .int .i64 n] h (fun r h' => r = .bool (validE t n) ∧ h' = h) := by
    intro m k hM hk hm hl hmask hn0 hn6
    refine ACall.of_wp 20 [.tmp 4] Tryz.func56 rfl (by kernel_rfl) rfl rfl fun a hn hd ha => ?_
    simp (disch := first | omega | decide) only [push_cast, ↓reduceIte, Nat.reduceLT, Nat.reduceEqDiff, reduceCtorEq, Nat.reduceAdd, decide_eq_true, decide_eq_false, hn, hd, ha, ge_iff_le, hn0, hn6]
    refine ACall.mono ?_ (hM h)
    rintro _ h ⟨rfl, rfl⟩
    simp (disch := first | omega | decide) only [push_cast, ↓reduceIte, Nat.reduceLT, Nat.reduceEqDiff, reduceCtorEq, Nat.reduceAdd, hn, hd, ha]
    refine ACall.mono ?_ (hM h)
    rintro _ h ⟨rfl, rfl⟩
    have hv := or_maskE h0 h1 hk hm hl hmask
    rw [ieq] at hv
    simp (disch := first | omega | decide) only [push_cast, ↓reduceIte, Nat.reduceLT, Nat.reduceEqDiff, reduceCtorEq, Nat.reduceAdd, hn, hd, ha]
    exact congrArg Value.bool hv
  rcases (show n = 1 ∨ n = 2 ∨ n = 3 ∨ n = 4 by omega) with rfl | rfl | rfl | rfl
  · exact key mask1 (k := 2) (by decide) (by decide) (by decide) (by decide) (by decide) (by decide)
  · exact key mask2 (k := 4) (by decide) (by decide) (by decide) (by decide) (by decide) (by decide)
  · exact key mask3 (k := 8) (by decide) (by decide) (by decide) (by decide) (by decide) (by decide)
  · exact key mask4 (k := 16) (by decide) (by decide) (by decide) (by decide) (by decide) (by decide)


theorem letter28 {h : AH} {c : Int} : ACall Tryz.prog 122 [.int .u8 c] h (fun r h' => r = .bool (letterE c) ∧ h' = h) := by
  refine ACall.of_wp 17 [.tmp 2] Tryz.func122 rfl (by kernel_rfl) rfl rfl fun a hn hd ha => ?_
  by_cases a1 : 97 ≤ c <;> by_cases a2 : c ≤ 122 <;> by_cases a3 : 65 ≤ c <;> by_cases a4 : c ≤ 90 <;> first | (exfalso; omega) | simp (disch := first | omega | decide) only [push_cast, ↓reduceIte, Nat.reduceLT, Nat.reduceEqDiff, reduceCtorEq, Nat.reduceAdd, decide_eq_true, decide_eq_false, ge_iff_le, hn, hd, ha, letterE, a1, a2, a3, a4, Bool.or_true, Bool.or_false, Bool.and_false]

theorem digit28 {h : AH} {c : Int} : ACall Tryz.prog 123 [.int .u8 c] h (fun r h' => r = .bool (digitE c) ∧ h' = h) := by
  refine ACall.of_wp 9 [.tmp 2] Tryz.func123 rfl (by kernel_rfl) rfl rfl fun a hn hd ha => ?_
  by_cases a1 : 48 ≤ c <;> by_cases a2 : c ≤ 57 <;> first | (exfalso; omega) | simp (disch := first | omega | decide) only [push_cast, ↓reduceIte, Nat.reduceLT, Nat.reduceEqDiff, reduceCtorEq, Nat.reduceAdd, decide_eq_true, decide_eq_false, ge_iff_le, hn, hd, ha, digitE, a1, a2, Bool.or_true, Bool.or_false, Bool.and_false]

theorem strAt {s : ByteArray} {k : IntKind} : ∀ i : Int, 0 ≤ i → i < s.size → aIndex Tryz.prog 9 (.string s) (.int k i) = some (.int .u8 ((bytesI s).getD i.toNat 0)) := by
  intro i h0 h1
  have hi : i.toNat < s.size := by omega
  have e1 : s[i.toNat]? = some s[i.toNat] := getElem?_pos s i.toNat hi
  have e2 : (bytesI s).getD i.toNat 0 = (s[i.toNat].toNat : Int) := by
    have hl : i.toNat < s.data.toList.length := hi
    rw [bytesI, List.getD_eq_getElem?_getD, List.getElem?_map, List.getElem?_eq_getElem hl]
    rfl
  simp only [aIndex, Tryz.underlying9, if_pos h0, e1, e2]

def okC (c : Int) : Bool := letterE c || (digitE c || decide (c = 95))

theorem nameGo_all : ∀ l : List Int, nameGo false l = l.all okC := by
  intro l
  induction l with
  | nil => rfl
  | cons c cs ih =>
    rw [nameGo, List.all_cons, ih, okC]
    cases letterE c <;> cases digitE c <;> simp

theorem nameE_eq {s : ByteArray} (h0 : s.size ≠ 0) (h1 : s.size ≤ 16) : nameE s = (letterE ((bytesI s).getD 0 0) && (bytesI s).all okC) := by
  have hl := bytesI_len s
  cases hb : bytesI s with
  | nil => rw [hb] at hl; exact absurd hl.symm h0
  | cons c cs =>
    simp only [nameE, ne_eq, h0, h1, hb, not_false_eq_true, decide_true, Bool.true_and, nameGo, nameGo_all, List.getD_cons_zero, List.all_cons, okC]
    cases letterE c <;> simp

theorem all_drop {α : Type} {p : α → Bool} {zs : List α} {i : Nat} (hi : i < zs.length) (d : α) : (zs.drop i).all p = (p (zs.getD i d) && (zs.drop (i + 1)).all p) := by
  rw [List.drop_eq_getElem_cons hi, List.all_cons]
  simp [List.getD_eq_getElem?_getD, hi]

theorem name28 {h : AH} {s : ByteArray} : ACall Tryz.prog 99 [.string s] h (fun r h' => r = .bool (nameE s) ∧ h' = h) := by
  refine ACall.of_wp 41 [.tmp 2] Tryz.func99 rfl (by kernel_rfl) rfl rfl fun a hn hd ha => ?_
  simp (disch := first | omega | decide) only [push_cast, ↓reduceIte, Nat.reduceLT, Nat.reduceEqDiff, reduceCtorEq, Nat.reduceAdd, hn, hd, ha, strBin, toList_empty]
  refine wantM_not (fun h0 => ?_) (fun h0 => ?_)
  · have e : s.size = 0 := by simpa using h0
    simp (disch := first | omega | decide) only [push_cast, ↓reduceIte, Nat.reduceLT, Nat.reduceEqDiff, reduceCtorEq, Nat.reduceAdd, decide_eq_true, decide_eq_false, hn, hd, ha, e, nameE, ne_eq, not_true_eq_false, Bool.false_and]
  have h0' : s.size ≠ 0 := by simpa using h0
  simp (disch := first | omega | decide) only [push_cast, ↓reduceIte, Nat.reduceLT, Nat.reduceEqDiff, reduceCtorEq, Nat.reduceAdd, hn, hd, ha, h0, lenStr Tryz.underlying9]
  refine wantM_not (fun h1 => ?_) (fun h1 => ?_)
  · have e : ¬ s.size ≤ 16 := by simp at h1; omega
    simp (disch := first | omega | decide) only [push_cast, ↓reduceIte, Nat.reduceLT, Nat.reduceEqDiff, reduceCtorEq, Nat.reduceAdd, decide_eq_true, decide_eq_false, hn, hd, ha, h1, nameE, e, Bool.and_false, Bool.false_and]
  have h1' : s.size ≤ 16 := by simp at h1; omega
  have hN := nameE_eq h0' h1'
  have hb0 := strAt (s := s) (k := .i64) 0 (by omega) (by omega)
  rw [show Int.toNat 0 = 0 from rfl] at hb0
  simp (disch := first | omega | decide) only [push_cast, ↓reduceIte, Nat.reduceLT, Nat.reduceEqDiff, reduceCtorEq, Nat.reduceAdd, hn, hd, ha, h1, hb0]
  refine ACall.mono ?_ letter28
  rintro _ h ⟨rfl, rfl⟩
  simp (disch := first | omega | decide) only [push_cast, ↓reduceIte, Nat.reduceLT, Nat.reduceEqDiff, reduceCtorEq, Nat.reduceAdd, hn, hd, ha]
  refine condV_not (fun hl => ?_) (fun hl => ?_)
  · simp (disch := first | omega | decide) only [push_cast, ↓reduceIte, Nat.reduceLT, Nat.reduceEqDiff, reduceCtorEq, Nat.reduceAdd, hn, hd, ha, hN, hl, Bool.false_and]
  rw [hl, Bool.true_and] at hN
  have hsz := bytesI_len s
  simp (disch := first | omega | decide) only [push_cast, ↓reduceIte, Nat.reduceLT, Nat.reduceEqDiff, reduceCtorEq, Nat.reduceAdd, hn, hd, ha]
  refine AW.loopN 17 [3] (fun m a' h' => h' = h ∧ ∃ i : Nat, a'.tm 3 = .int .i64 i ∧ i + m = s.size ∧ ((bytesI s).drop i).all okC = nameE s) s.size ?_ ?_
  · exact ⟨rfl, 0, by simp (disch := first | omega | decide) only [push_cast, ↓reduceIte, Nat.reduceLT, Nat.reduceEqDiff, reduceCtorEq, Nat.reduceAdd], by omega, by rw [hN, List.drop_zero]⟩
  rintro a1 m a' h' hk kn kd kt ⟨rfl, i, h3, him, hgo⟩
  simp (disch := first | omega | decide) only [push_cast, ↓reduceIte, Nat.reduceLT, Nat.reduceEqDiff, reduceCtorEq, Nat.reduceAdd, kn, kd, kt, hn, hd, ha, h3, lenStr Tryz.underlying9]
  refine condV_of (fun hlt => ?_) (fun hge => ?_)
  · have hi : i < s.size := by have := hlt; simp at this; omega
    have hbi := strAt (s := s) (k := .i64) i (by omega) (by omega)
    rw [Int.toNat_natCast] at hbi
    rw [all_drop (by omega) 0] at hgo
    have hw : IntKind.i64.wrap ((i : Int) + 1) = i + 1 := wrapI (by omega) (by omega)
    generalize (bytesI s).getD i 0 = c at *
    simp (disch := first | omega | decide) only [push_cast, ↓reduceIte, Nat.reduceLT, Nat.reduceEqDiff, reduceCtorEq, Nat.reduceAdd, kn, kd, kt, hn, hd, ha, h3, hbi]
    refine ACall.mono ?_ letter28
    rintro _ h ⟨rfl, rfl⟩
    simp (disch := first | omega | decide) only [push_cast, ↓reduceIte, Nat.reduceLT, Nat.reduceEqDiff, reduceCtorEq, Nat.reduceAdd, kn, kd, kt, hn, hd, ha, h3]
    refine wantM_not (fun e1 => ?_) (fun e1 => ?_)
    · rw [okC, e1] at hgo
      simp (disch := first | omega | decide) only [push_cast, ↓reduceIte, Nat.reduceLT, Nat.reduceEqDiff, reduceCtorEq, Nat.reduceAdd, kn, kd, kt, hn, hd, ha, h3, e1, hw]
      exact ⟨m - 1, by omega, (by simp (disch := decide) only [Kp_put, put_none, hk]), rfl, i + 1, by simp (disch := first | omega | decide) only [push_cast, ↓reduceIte, Nat.reduceLT, Nat.reduceEqDiff, reduceCtorEq, Nat.reduceAdd], by omega, by simpa using hgo⟩
    · simp (disch := first | omega | decide) only [push_cast, ↓reduceIte, Nat.reduceLT, Nat.reduceEqDiff, reduceCtorEq, Nat.reduceAdd, kn, kd, kt, hn, hd, ha, h3, e1, hbi]
      refine ACall.mono ?_ digit28
      rintro _ h ⟨rfl, rfl⟩
      simp (disch := first | omega | decide) only [push_cast, ↓reduceIte, Nat.reduceLT, Nat.reduceEqDiff, reduceCtorEq, Nat.reduceAdd, kn, kd, kt, hn, hd, ha, h3, e1, hbi]
      refine wantM_not (fun e2 => ?_) (fun e2 => ?_)
      · rw [okC, e1, e2] at hgo
        simp (disch := first | omega | decide) only [push_cast, ↓reduceIte, Nat.reduceLT, Nat.reduceEqDiff, reduceCtorEq, Nat.reduceAdd, kn, kd, kt, hn, hd, ha, h3, e1, e2, hw]
        exact ⟨m - 1, by omega, (by simp (disch := decide) only [Kp_put, put_none, hk]), rfl, i + 1, by simp (disch := first | omega | decide) only [push_cast, ↓reduceIte, Nat.reduceLT, Nat.reduceEqDiff, reduceCtorEq, Nat.reduceAdd], by omega, by simpa using hgo⟩
      · simp (disch := first | omega | decide) only [push_cast, ↓reduceIte, Nat.reduceLT, Nat.reduceEqDiff, reduceCtorEq, Nat.reduceAdd, kn, kd, kt, hn, hd, ha, h3, e1, e2, hbi]
        refine condV_not (fun e3 => ?_) (fun e3 => ?_)
        · rw [okC, e1, e2, e3] at hgo
          simp (disch := first | omega | decide) only [push_cast, ↓reduceIte, Nat.reduceLT, Nat.reduceEqDiff, reduceCtorEq, Nat.reduceAdd, kn, kd, kt, hn, hd, ha, h3, ← hgo, Bool.or_false, Bool.false_and]
        · rw [okC, e1, e2, e3] at hgo
          simp (disch := first | omega | decide) only [push_cast, ↓reduceIte, Nat.reduceLT, Nat.reduceEqDiff, reduceCtorEq, Nat.reduceAdd, kn, kd, kt, hn, hd, ha, h3, hw]
          exact ⟨m - 1, by omega, (by simp (disch := decide) only [Kp_put, put_none, hk]), rfl, i + 1, by simp (disch := first | omega | decide) only [push_cast, ↓reduceIte, Nat.reduceLT, Nat.reduceEqDiff, reduceCtorEq, Nat.reduceAdd], by omega, by simpa using hgo⟩
  · have hi : i = s.size := by have := hge; simp at this; omega
    subst hi
    rw [List.drop_of_length_le (by omega)] at hgo
    simp (disch := first | omega | decide) only [push_cast, ↓reduceIte, Nat.reduceLT, Nat.reduceEqDiff, reduceCtorEq, Nat.reduceAdd, kn, kd, kt, hn, hd, ha, h3, ← hgo, List.all_nil]


theorem one28R {h : AH} {c : Cell} {dv : Value} (hd : SlOf h dv (c.delay.map (.int .i64))) (h0 : 0 ≤ c.table) (h1 : c.table < 18446744073709551616) (hb : c.delay.length ≤ 4611686018427387904) :
    ACall Tryz.prog 75 [cellV c dv] h (fun r _ => r = .int .i64 (checkE c)) := by
  refine ACall.wf ⟨_, Tryz.func75, rfl, by kernel_rfl⟩ fun hwf => ?_
  refine ACall.of_wp 61 [.tmp 2] Tryz.func75 rfl (by kernel_rfl) rfl rfl fun a hn hdf ha => ?_
  have hbox := boxA 40 h [.string c.name, .int .i64 c.pins, .int .u64 c.table, .int .i64 c.area, dv] (by simp only [List.all_cons, List.all_nil, hd.one]; rfl)
  have hB : (h.new (.row [.string c.name, .int .i64 c.pins, .int .u64 c.table, .int .i64 c.area, dv] 40 true)).get h.next = some (.row [.string c.name, .int .i64 c.pins, .int .u64 c.table, .int .i64 c.area, dv] 40 true) := by simp [AH.new_get]
  have hs : Sub h (h.new (.row [.string c.name, .int .i64 c.pins, .int .u64 c.table, .int .i64 c.area, dv] 40 true)) := Sub.new hwf _
  simp (disch := first | omega | decide | (simp only [List.length_cons, List.length_nil] <;> omega)) only [push_cast, ↓reduceIte, Nat.reduceLT, Nat.reduceEqDiff, reduceCtorEq, Nat.reduceAdd, hn, hdf, ha, cellV, hbox, faL foC0, ldN fl9, List.length_cons, List.length_nil]
  generalize h.new (.row [.string c.name, .int .i64 c.pins, .int .u64 c.table, .int .i64 c.area, dv] 40 true) = k1 at hB hs ⊢
  generalize h.next = P at hB ⊢
  have hl2 := ldL hB rfl fl2
  have hl3 := ldL hB rfl fl3
  have hlU := ldL hB rfl flU
  have hlL := ldL hB rfl flL
  simp only [List.length_cons, List.length_nil] at hl2 hl3 hlU hlL
  refine ACall.mono ?_ name28
  rintro _ k1 ⟨rfl, rfl⟩
  simp (disch := first | omega | decide | (simp only [List.length_cons, List.length_nil] <;> omega)) only [push_cast, ↓reduceIte, Nat.reduceLT, Nat.reduceEqDiff, reduceCtorEq, Nat.reduceAdd, hn, hdf, ha]
  refine condV_not (fun e0 => ?_) (fun e0 => ?_)
  · have e : nameE c.name = false := by simpa using e0
    simp (disch := first | omega | decide | (simp only [List.length_cons, List.length_nil] <;> omega)) only [push_cast, ↓reduceIte, Nat.reduceLT, Nat.reduceEqDiff, reduceCtorEq, Nat.reduceAdd, hn, hdf, ha, checkE, e]
  have e0' : ¬ nameE c.name = false := by simp [e0]
  simp (disch := first | omega | decide | (simp only [List.length_cons, List.length_nil] <;> omega)) only [push_cast, ↓reduceIte, Nat.reduceLT, Nat.reduceEqDiff, reduceCtorEq, Nat.reduceAdd, hn, hdf, ha, faL foC1, hl3]
  refine wantM_not (fun e1 => ?_) (fun e1 => ?_)
  · simp (disch := first | omega | decide | (simp only [List.length_cons, List.length_nil] <;> omega)) only [push_cast, ↓reduceIte, Nat.reduceLT, Nat.reduceEqDiff, reduceCtorEq, Nat.reduceAdd, hn, hdf, ha, e1, checkE, e0', Bool.true_or]
  simp (disch := first | omega | decide | (simp only [List.length_cons, List.length_nil] <;> omega)) only [push_cast, ↓reduceIte, Nat.reduceLT, Nat.reduceEqDiff, reduceCtorEq, Nat.reduceAdd, hn, hdf, ha, e1, faL foC1, hl3]
  refine wantM_not (fun e2 => ?_) (fun e2 => ?_)
  · simp (disch := first | omega | decide | (simp only [List.length_cons, List.length_nil] <;> omega)) only [push_cast, ↓reduceIte, Nat.reduceLT, Nat.reduceEqDiff, reduceCtorEq, Nat.reduceAdd, hn, hdf, ha, e1, e2, checkE, e0', Bool.true_or, Bool.false_or]
  have hn1 : 1 ≤ c.pins := by simp at e1; omega
  have hn4 : c.pins ≤ 4 := by simp at e2; omega
  simp (disch := first | omega | decide | (simp only [List.length_cons, List.length_nil] <;> omega)) only [push_cast, ↓reduceIte, Nat.reduceLT, Nat.reduceEqDiff, reduceCtorEq, Nat.reduceAdd, hn, hdf, ha, e1, e2, faL foC1, faL foC2, hl3, hlU]
  refine ACall.mono ?_ (valid21 h0 h1 hn1 hn4)
  rintro _ k1 ⟨rfl, rfl⟩
  simp (disch := first | omega | decide | (simp only [List.length_cons, List.length_nil] <;> omega)) only [push_cast, ↓reduceIte, Nat.reduceLT, Nat.reduceEqDiff, reduceCtorEq, Nat.reduceAdd, hn, hdf, ha, e1, e2]
  refine wantM_of (fun e3 => ?_) (fun e3 => ?_)
  case refine_2 => simp (disch := first | omega | decide | (simp only [List.length_cons, List.length_nil] <;> omega)) only [push_cast, ↓reduceIte, Nat.reduceLT, Nat.reduceEqDiff, reduceCtorEq, Nat.reduceAdd, hn, hdf, ha, e1, e2, e3, checkE, e0', Bool.true_or, Bool.false_or]
  simp (disch := first | omega | decide | (simp only [List.length_cons, List.length_nil] <;> omega)) only [push_cast, ↓reduceIte, Nat.reduceLT, Nat.reduceEqDiff, reduceCtorEq, Nat.reduceAdd, hn, hdf, ha, e1, e2, e3, faL foC3, hl2]
  refine wantM_not (fun e4 => ?_) (fun e4 => ?_)
  · simp (disch := first | omega | decide | (simp only [List.length_cons, List.length_nil] <;> omega)) only [push_cast, ↓reduceIte, Nat.reduceLT, Nat.reduceEqDiff, reduceCtorEq, Nat.reduceAdd, hn, hdf, ha, e1, e2, e3, e4, checkE, e0', Bool.true_or, Bool.false_or]
  simp (disch := first | omega | decide | (simp only [List.length_cons, List.length_nil] <;> omega)) only [push_cast, ↓reduceIte, Nat.reduceLT, Nat.reduceEqDiff, reduceCtorEq, Nat.reduceAdd, hn, hdf, ha, e1, e2, e3, e4, faL foC3, hl2]
  refine condV_of (fun e5 => ?_) (fun e5 => ?_)
  · simp (disch := first | omega | decide | (simp only [List.length_cons, List.length_nil] <;> omega)) only [push_cast, ↓reduceIte, Nat.reduceLT, Nat.reduceEqDiff, reduceCtorEq, Nat.reduceAdd, hn, hdf, ha, e1, e2, e3, e4, e5, checkE, e0', Bool.true_or, Bool.false_or]
  simp (disch := first | omega | decide | (simp only [List.length_cons, List.length_nil] <;> omega)) only [push_cast, ↓reduceIte, Nat.reduceLT, Nat.reduceEqDiff, reduceCtorEq, Nat.reduceAdd, hn, hdf, ha, faL foC4, faL foC1, hlL, hl3, hd.lenA Tryz.underlying38]
  refine condV_not (fun e6 => ?_) (fun e6 => ?_)
  case refine_1 =>
    have : ¬ (c.delay.length : Int) = c.pins := by simpa using e6
    simp (disch := first | omega | decide | (simp only [List.length_cons, List.length_nil] <;> omega)) only [push_cast, ↓reduceIte, Nat.reduceLT, Nat.reduceEqDiff, reduceCtorEq, Nat.reduceAdd, hn, hdf, ha, e1, e2, e3, e4, e5, checkE, e0', ne_eq, this, Bool.false_or]
  have e6' : (c.delay.length : Int) = c.pins := by simpa using e6
  have hC : checkE c = if c.delay.any delayBad = true then 1 else 0 := by
    simp only [checkE, e0', e1, e2, e3, e4, e5, e6', ne_eq, not_true_eq_false, Bool.false_or, if_false, if_neg]; simp
  have hds := hd.sub hs
  simp (disch := first | omega | decide | (simp only [List.length_cons, List.length_nil] <;> omega)) only [push_cast, ↓reduceIte, Nat.reduceLT, Nat.reduceEqDiff, reduceCtorEq, Nat.reduceAdd, hn, hdf, ha]
  refine AW.loopN 40 [3] (fun m a' h' => h' = k1 ∧ ∃ i : Nat, a'.tm 3 = .int .i64 i ∧ i + m = c.delay.length ∧ (c.delay.drop i).any delayBad = c.delay.any delayBad) c.delay.length ?_ ?_
  · exact ⟨rfl, 0, by simp (disch := first | omega | decide | (simp only [List.length_cons, List.length_nil] <;> omega)) only [push_cast, ↓reduceIte, Nat.reduceLT, Nat.reduceEqDiff, reduceCtorEq, Nat.reduceAdd], by omega, rfl⟩
  rintro a1 m a' h' hk kn kd kt ⟨rfl, i, h3, him, hany⟩
  simp (disch := first | omega | decide | (simp only [List.length_cons, List.length_nil] <;> omega)) only [push_cast, ↓reduceIte, Nat.reduceLT, Nat.reduceEqDiff, reduceCtorEq, Nat.reduceAdd, kn, kd, kt, hn, hdf, ha, h3, faL foC4, hlL, hd.lenA Tryz.underlying38]
  refine condV_of (fun hlt => ?_) (fun hge => ?_)
  · have hi : i < c.delay.length := by have := hlt; simp at this; omega
    have hidx := hds.idxI slL .i64 i (by omega) (by omega)
    have hld := hds.ldI slL i (by omega)
    rw [Int.toNat_natCast] at hidx
    rw [any_drop hi 0] at hany
    have hw : IntKind.i64.wrap ((i : Int) + 1) = i + 1 := wrapI (by omega) (by omega)
    generalize c.delay.getD i 0 = z at *
    simp (disch := first | omega | decide | (simp only [List.length_cons, List.length_nil] <;> omega)) only [push_cast, ↓reduceIte, Nat.reduceLT, Nat.reduceEqDiff, reduceCtorEq, Nat.reduceAdd, kn, kd, kt, hn, hdf, ha, h3, faL foC4, hlL, hidx, hld]
    refine wantM_not (fun b1 => ?_) (fun b1 => ?_)
    · rw [delayBad, b1, Bool.true_or, Bool.true_or] at hany
      simp (disch := first | omega | decide | (simp only [List.length_cons, List.length_nil] <;> omega)) only [push_cast, ↓reduceIte, Nat.reduceLT, Nat.reduceEqDiff, reduceCtorEq, Nat.reduceAdd, kn, kd, kt, hn, hdf, ha, h3, b1, hC, ← hany]
    · simp (disch := first | omega | decide | (simp only [List.length_cons, List.length_nil] <;> omega)) only [push_cast, ↓reduceIte, Nat.reduceLT, Nat.reduceEqDiff, reduceCtorEq, Nat.reduceAdd, kn, kd, kt, hn, hdf, ha, h3, b1, faL foC4, hlL, hidx, hld]
      refine condV_of (fun b2 => ?_) (fun b2 => ?_)
      · rw [delayBad, b1, b2, Bool.or_true, Bool.true_or] at hany
        simp (disch := first | omega | decide | (simp only [List.length_cons, List.length_nil] <;> omega)) only [push_cast, ↓reduceIte, Nat.reduceLT, Nat.reduceEqDiff, reduceCtorEq, Nat.reduceAdd, kn, kd, kt, hn, hdf, ha, h3, hC, ← hany]
      · rw [delayBad, b1, b2, Bool.or_false, Bool.false_or] at hany
        simp (disch := first | omega | decide | (simp only [List.length_cons, List.length_nil] <;> omega)) only [push_cast, ↓reduceIte, Nat.reduceLT, Nat.reduceEqDiff, reduceCtorEq, Nat.reduceAdd, kn, kd, kt, hn, hdf, ha, h3, hw]
        exact ⟨m - 1, by omega, (by simp (disch := decide) only [Kp_put, put_none, hk]), rfl, i + 1, by simp (disch := first | omega | decide | (simp only [List.length_cons, List.length_nil] <;> omega)) only [push_cast, ↓reduceIte, Nat.reduceLT, Nat.reduceEqDiff, reduceCtorEq, Nat.reduceAdd], by omega, hany⟩
  · have hi : i = c.delay.length := by have := hge; simp at this; omega
    subst hi
    rw [List.drop_length, List.any_nil] at hany
    simp (disch := first | omega | decide | (simp only [List.length_cons, List.length_nil] <;> omega)) only [push_cast, ↓reduceIte, Nat.reduceLT, Nat.reduceEqDiff, reduceCtorEq, Nat.reduceAdd, kn, kd, kt, hn, hdf, ha, h3, hC, ← hany]

theorem one28 {h : AH} {c : Cell} {dv : Value} (hd : SlOf h dv (c.delay.map (.int .i64))) (h0 : 0 ≤ c.table) (h1 : c.table < 18446744073709551616) (hb : c.delay.length ≤ 4611686018427387904) :
    ACall Tryz.prog 75 [cellV c dv] h (fun r h' => r = .int .i64 (checkE c) ∧ h' = h) :=
  ACall.viewed rfl (one28R hd.view h0 h1 hb)

/-! ### netlabref28.Check -/

def errE (l : List Cell) (i : Nat) : Int := if checkE (l.getD i default) ≠ 0 then checkE (l.getD i default) else if (l.take i).any (sameName (l.getD i default).name) = true then 10 else 0

theorem cellsGo_step {l : List Cell} {i : Nat} (hi : i < l.length) : cellsGo (l.take i) i (l.drop i) = if errE l i ≠ 0 then ((i : Int), errE l i) else cellsGo (l.take (i + 1)) (i + 1) (l.drop (i + 1)) := by
  rw [drop_cons_getD hi default, cellsGo, errE, take_succ_getD hi default]
  generalize l.getD i default = c
  generalize (l.take i).any (sameName c.name) = b
  cases b <;> by_cases h1 : checkE c = 0 <;> simp [h1]

theorem cells28R {h : AH} {v : Value} {l : List Cell} (hv : RowOf cellL h v l) (hok : ∀ c ∈ l, CellOK c) : ACall Tryz.prog 55 [v] h (fun r _ => r = .tuple #[.int .i64 (cellsE l).1, .int .i64 (cellsE l).2]) := by
  refine ACall.of_wp 45 [.tmp 2, .tmp 3] Tryz.func55 rfl (by kernel_rfl) rfl rfl fun a hn hd ha => ?_
  simp (disch := first | omega | decide | (simp only [List.length_cons, List.length_nil] <;> omega)) only [push_cast, ↓reduceIte, Nat.reduceLT, Nat.reduceEqDiff, reduceCtorEq, Nat.reduceAdd, hn, hd, ha, hv.len Tryz.underlying22]
  refine condV_of (fun e0 => ?_) (fun e0 => ?_)
  · have e : l.length > 32 := by simp at e0; omega
    simp (disch := first | omega | decide | (simp only [List.length_cons, List.length_nil] <;> omega)) only [push_cast, ↓reduceIte, Nat.reduceLT, Nat.reduceEqDiff, reduceCtorEq, Nat.reduceAdd, hn, hd, ha, cellsE, e]
  have e : ¬ l.length > 32 := by simp at e0; omega
  have hE : cellsE l = cellsGo [] 0 l := by rw [cellsE, if_neg e]
  simp (disch := first | omega | decide | (simp only [List.length_cons, List.length_nil] <;> omega)) only [push_cast, ↓reduceIte, Nat.reduceLT, Nat.reduceEqDiff, reduceCtorEq, Nat.reduceAdd, hn, hd, ha]
  refine AW.loopN 7 [4, 5, 6] (fun m a' h' => h' = h ∧ ∃ i : Nat, a'.tm 4 = .int .i64 i ∧ i + m = l.length ∧ cellsGo (l.take i) i (l.drop i) = cellsE l) l.length ?_ ?_
  · exact ⟨rfl, 0, by simp (disch := first | omega | decide | (simp only [List.length_cons, List.length_nil] <;> omega)) only [push_cast, ↓reduceIte, Nat.reduceLT, Nat.reduceEqDiff, reduceCtorEq, Nat.reduceAdd], by omega, by rw [hE]; rfl⟩
  rintro a1 m a' h' hk kn kd kt ⟨rfl, i, h4, him, hgo⟩
  simp (disch := first | omega | decide | (simp only [List.length_cons, List.length_nil] <;> omega)) only [push_cast, ↓reduceIte, Nat.reduceLT, Nat.reduceEqDiff, reduceCtorEq, Nat.reduceAdd, kn, kd, kt, hn, hd, ha, h4, hv.len Tryz.underlying22]
  refine condV_of (fun hlt => ?_) (fun hge => ?_)
  · have hi : i < l.length := by have := hlt; simp at this; omega
    rw [cellsGo_step hi] at hgo
    obtain ⟨cs, ⟨dv, rfl, hdv⟩, hld, hcf, hca⟩ := hv.get (P := Tryz.prog) hi default
    replace hld := hld _ agC
    have hcn := hcf 0 _ fl9 (by decide)
    have hfa := hca _ _ _ foC0
    obtain ⟨o1, o2, o3⟩ := hok _ (getD_mem hi default)
    have hidx := hv.idx (P := Tryz.prog) Tryz.underlying22 infC .i64 i (by omega) (by omega)
    rw [Int.toNat_natCast] at hidx
    have hw : IntKind.i64.wrap ((i : Int) + 1) = i + 1 := wrapI (by omega) (by omega)
    have hEr : errE l i = if checkE (l.getD i default) ≠ 0 then checkE (l.getD i default) else if (l.take i).any (sameName (l.getD i default).name) = true then 10 else 0 := rfl
    have hcall := one28 (h := h') hdv o1 o2 o3
    rw [cellV] at hcall
    generalize hc : l.getD i default = c at *
    simp (disch := first | omega | decide | (simp only [List.length_cons, List.length_nil] <;> omega)) only [push_cast, ↓reduceIte, Nat.reduceLT, Nat.reduceEqDiff, reduceCtorEq, Nat.reduceAdd, kn, kd, kt, hn, hd, ha, h4, hidx, hld]
    refine ACall.mono ?_ hcall
    rintro _ h6 ⟨rfl, rfl⟩
    simp (disch := first | omega | decide | (simp only [List.length_cons, List.length_nil] <;> omega)) only [push_cast, ↓reduceIte, Nat.reduceLT, Nat.reduceEqDiff, reduceCtorEq, Nat.reduceAdd, kn, kd, kt, hn, hd, ha, h4]
    refine AW.keep 7 [4, 5, 6] (a0 := a1) (by simp (disch := decide) only [Kp_put, put_none, hk]) (fun hkc => ?_)
    refine AW.mono (Q := fun ex a2 h2 => ex = .exit 2 ∧ h2 = h6 ∧ a2.n = 45 ∧ a2.df = [] ∧ a2.tm 0 = v ∧ a2.tm 4 = .int .i64 i ∧ a2.tm 5 = .int .i64 (errE l i) ∧ Kp 7 [4, 5, 6] a1 a2) ?_ ?_
    · rintro _ a2 h2 ⟨rfl, rfl, hn2, hd2, hz0, hz4, hz5, hk⟩
      simp (disch := first | omega | decide | (simp only [List.length_cons, List.length_nil] <;> omega)) only [push_cast, ↓reduceIte, Nat.reduceLT, Nat.reduceEqDiff, reduceCtorEq, Nat.reduceAdd, hn2, hd2, hz0, hz4, hz5]
      refine condV_not (fun hE0 => ?_) (fun hE0 => ?_)
      · have hE1 : errE l i ≠ 0 := by simpa using hE0
        rw [if_pos hE1] at hgo
        simp (disch := first | omega | decide | (simp only [List.length_cons, List.length_nil] <;> omega)) only [push_cast, ↓reduceIte, Nat.reduceLT, Nat.reduceEqDiff, reduceCtorEq, Nat.reduceAdd, hn2, hd2, hz0, hz4, hz5, ← hgo]
      · have hE1 : errE l i = 0 := by simpa using hE0
        rw [if_neg (by simpa using hE1)] at hgo
        simp (disch := first | omega | decide | (simp only [List.length_cons, List.length_nil] <;> omega)) only [push_cast, ↓reduceIte, Nat.reduceLT, Nat.reduceEqDiff, reduceCtorEq, Nat.reduceAdd, hn2, hd2, hz0, hz4, hz5, hw]
        exact ⟨m - 1, by omega, (by simp (disch := decide) only [Kp_put, put_none, hk]), rfl, i + 1, by simp (disch := first | omega | decide | (simp only [List.length_cons, List.length_nil] <;> omega)) only [push_cast, ↓reduceIte, Nat.reduceLT, Nat.reduceEqDiff, reduceCtorEq, Nat.reduceAdd], by omega, hgo⟩
    refine AW.loopN 21 [5, 6] (fun q a2 h2 => h2 = h6 ∧ ∃ (k : Nat) (e : Int), a2.tm 6 = .int .i64 k ∧ a2.tm 5 = .int .i64 e ∧ k + q = i ∧
      ((checkE c ≠ 0 ∧ e = checkE c) ∨ (checkE c = 0 ∧ e = 0 ∧ ((l.take i).drop k).any (sameName c.name) = (l.take i).any (sameName c.name)) ∨ (checkE c = 0 ∧ e = 10 ∧ (l.take i).any (sameName c.name) = true))) i ?_ ?_
    · refine ⟨rfl, 0, checkE c, by simp (disch := first | omega | decide | (simp only [List.length_cons, List.length_nil] <;> omega)) only [push_cast, ↓reduceIte, Nat.reduceLT, Nat.reduceEqDiff, reduceCtorEq, Nat.reduceAdd], by simp (disch := first | omega | decide | (simp only [List.length_cons, List.length_nil] <;> omega)) only [push_cast, ↓reduceIte, Nat.reduceLT, Nat.reduceEqDiff, reduceCtorEq, Nat.reduceAdd], by omega, ?_⟩
      by_cases hc0 : checkE c = 0
      · exact .inr (.inl ⟨hc0, hc0, rfl⟩)
      · exact .inl ⟨hc0, rfl⟩
    rintro a3 q a2 h2 hk2 kn2 kd2 kt2 ⟨rfl, k, e, ht6, h5, hkq, hcase⟩
    have stop : ¬ (k < i ∧ e = 0) → e = errE l i := by
      intro hns
      rw [hEr]
      rcases hcase with ⟨x, rfl⟩ | ⟨x, rfl, y⟩ | ⟨x, rfl, y⟩
      · rw [if_pos x]
      · have : k = i := by
          apply Classical.byContradiction
          intro hne
          exact hns ⟨by omega, rfl⟩
        rw [this, List.drop_of_length_le (by rw [List.length_take]; omega), List.any_nil] at y
        rw [if_neg (by simpa using x), ← y]; simp
      · rw [if_neg (by simpa using x), if_pos y]
    have hk := Kp.trans hkc ⟨kn2, kd2, kt2⟩ (by decide) (by decide)
    simp (disch := first | omega | decide | (simp only [List.length_cons, List.length_nil] <;> omega)) only [push_cast, ↓reduceIte, Nat.reduceLT, Nat.reduceEqDiff, reduceCtorEq, Nat.reduceAdd, kn2, kd2, kt2, kn, kd, kt, hn, hd, ha, h4, ht6, h5]
    refine wantM_of (fun hki => ?_) (fun hki => ?_)
    · have hki' : k < i := by simp at hki; omega
      simp (disch := first | omega | decide | (simp only [List.length_cons, List.length_nil] <;> omega)) only [push_cast, ↓reduceIte, Nat.reduceLT, Nat.reduceEqDiff, reduceCtorEq, Nat.reduceAdd, kn2, kd2, kt2, kn, kd, kt, hn, hd, ha, h4, ht6, h5, hki]
      refine condV_of (fun he => ?_) (fun he => ?_)
      · have he' : e = 0 := by simpa using he
        subst he'
        obtain ⟨csk, ⟨dvk, rfl, hdvk⟩, -, hcfk, hcak⟩ := hv.get (P := Tryz.prog) (show k < l.length by omega) default
        have hcnk := hcfk 0 _ fl9 (by decide)
        have hfak := hcak _ _ _ foC0
        have hidxk := hv.idx (P := Tryz.prog) Tryz.underlying22 infC .i64 k (by omega) (by omega)
        rw [Int.toNat_natCast] at hidxk
        have hwk : IntKind.i64.wrap ((k : Int) + 1) = k + 1 := wrapI (by omega) (by omega)
        have hgk : (l.take i).getD k default = l.getD k default := by
          simp [List.getD_eq_getElem?_getD, List.getElem?_take, hki']
        have hany := any_drop (p := sameName c.name) (zs := l.take i) (i := k) (by rw [List.length_take]; omega) default
        rw [hgk] at hany
        obtain ⟨x, y⟩ : checkE c = 0 ∧ ((l.take i).drop k).any (sameName c.name) = (l.take i).any (sameName c.name) := by
          rcases hcase with ⟨x, y⟩ | ⟨x, _, y⟩ | ⟨x, y, _⟩
          · exact absurd y.symm x
          · exact ⟨x, y⟩
          · cases y
        generalize l.getD k default = ck at *
        simp (disch := first | omega | decide | (simp only [List.length_cons, List.length_nil] <;> omega)) only [push_cast, ↓reduceIte, Nat.reduceLT, Nat.reduceEqDiff, reduceCtorEq, Nat.reduceAdd, kn2, kd2, kt2, kn, kd, kt, hn, hd, ha, h4, ht6, h5]
        refine AW.drawT (.take 0 [10, 4, 3, 2] (.take 1 [10, 4, 3, 2] (.take 2 [10, 4, 3] (.take 3 [10, 4] (.take 4 [10] (.take 5 [10, 9, 8, 7] (.take 6 [10, 9, 8, 7] (.take 7 [10, 9, 8] (.take 8 [10, 9] (.take 9 [10] (.take 10 [] .done))))))))))) [0, 0, 0, 0, 0, 0, 0, 0, 0, 0, 0] mixed (by kernel_rfl) (by kernel_rfl) ?_
        simp (disch := first | omega | decide | (simp only [List.length_cons, List.length_nil] <;> omega)) only [push_cast, ↓reduceIte, Nat.reduceLT, Nat.reduceEqDiff, reduceCtorEq, Nat.reduceAdd, kn2, kd2, kt2, kn, kd, kt, hn, hd, ha, h4, ht6, h5, hidx, hfa, hcn, hidxk, hfak, hcnk, strBin]
        refine condV_of (fun hs => ?_) (fun hs => ?_)
        · rw [show sameName c.name ck = true from hs, Bool.true_or] at hany
          simp (disch := first | omega | decide | (simp only [List.length_cons, List.length_nil] <;> omega)) only [push_cast, ↓reduceIte, Nat.reduceLT, Nat.reduceEqDiff, reduceCtorEq, Nat.reduceAdd, kn2, kd2, kt2, kn, kd, kt, hn, hd, ha, h4, ht6, h5, hwk]
          exact ⟨q - 1, by omega, by simp (disch := decide) only [Kp_put, put_none, hk2], rfl, k + 1, 10, by simp (disch := first | omega | decide | (simp only [List.length_cons, List.length_nil] <;> omega)) only [push_cast, ↓reduceIte, Nat.reduceLT, Nat.reduceEqDiff, reduceCtorEq, Nat.reduceAdd], by simp (disch := first | omega | decide | (simp only [List.length_cons, List.length_nil] <;> omega)) only [push_cast, ↓reduceIte, Nat.reduceLT, Nat.reduceEqDiff, reduceCtorEq, Nat.reduceAdd], by omega, .inr (.inr ⟨x, rfl, by rw [← y, hany]⟩)⟩
        · rw [show sameName c.name ck = false from hs, Bool.false_or] at hany
          simp (disch := first | omega | decide | (simp only [List.length_cons, List.length_nil] <;> omega)) only [push_cast, ↓reduceIte, Nat.reduceLT, Nat.reduceEqDiff, reduceCtorEq, Nat.reduceAdd, kn2, kd2, kt2, kn, kd, kt, hn, hd, ha, h4, ht6, h5, hwk]
          exact ⟨q - 1, by omega, by simp (disch := decide) only [Kp_put, put_none, hk2], rfl, k + 1, 0, by simp (disch := first | omega | decide | (simp only [List.length_cons, List.length_nil] <;> omega)) only [push_cast, ↓reduceIte, Nat.reduceLT, Nat.reduceEqDiff, reduceCtorEq, Nat.reduceAdd], by simp (disch := first | omega | decide | (simp only [List.length_cons, List.length_nil] <;> omega)) only [push_cast, ↓reduceIte, Nat.reduceLT, Nat.reduceEqDiff, reduceCtorEq, Nat.reduceAdd, h5], by omega, .inr (.inl ⟨x, rfl, by rw [← y, hany]⟩)⟩
      · have he' : ¬ e = 0 := by simpa using he
        have hst := stop (fun x => he' x.2)
        simp (disch := first | omega | decide | (simp only [List.length_cons, List.length_nil] <;> omega)) only [push_cast, ↓reduceIte, Nat.reduceLT, Nat.reduceEqDiff, reduceCtorEq, Nat.reduceAdd, kn2, kd2, kt2, kn, kd, kt, hn, hd, ha, h4, ht6, h5, hst]
        exact (by simp (disch := decide) only [Kp_put, put_none, hk])
    · have hki' : ¬ k < i := by simp at hki; omega
      have hst := stop (fun x => hki' x.1)
      simp (disch := first | omega | decide | (simp only [List.length_cons, List.length_nil] <;> omega)) only [push_cast, ↓reduceIte, Nat.reduceLT, Nat.reduceEqDiff, reduceCtorEq, Nat.reduceAdd, kn2, kd2, kt2, kn, kd, kt, hn, hd, ha, h4, ht6, h5, hki, hst]
      exact (by simp (disch := decide) only [Kp_put, put_none, hk])
  · have hi : i = l.length := by have := hge; simp at this; omega
    subst hi
    rw [List.drop_length, cellsGo] at hgo
    simp (disch := first | omega | decide | (simp only [List.length_cons, List.length_nil] <;> omega)) only [push_cast, ↓reduceIte, Nat.reduceLT, Nat.reduceEqDiff, reduceCtorEq, Nat.reduceAdd, kn, kd, kt, hn, hd, ha, h4, ← hgo]

theorem cells28 {h : AH} {v : Value} {l : List Cell} (hv : RowOf cellL h v l) (hok : ∀ c ∈ l, CellOK c) : ACall Tryz.prog 55 [v] h (fun r h' => r = .tuple #[.int .i64 (cellsE l).1, .int .i64 (cellsE l).2] ∧ h' = h) :=
  ACall.viewed rfl (cells28R hv.view hok)


theorem nets29 {h : AH} {n : Net} {cv fv iv ov : Value} (r : NetR h n cv fv iv ov) (hs : Small n) :
    ACall Tryz.prog 32 [.agg (netC n cv fv iv ov).toArray] h (fun v h' => v = .int .i64 (firstE n + n.insts.length) ∧ h' = h) := by
  have h0 := hs.i0; have h1 := hs.i1; have h2 := hs.f; have h3 := hs.i
  refine ACall.viewed rfl ?_
  replace r := r.view
  generalize AH.view h = h at r
  refine ACall.wf ⟨_, Tryz.func32, rfl, by kernel_rfl⟩ fun hwf => ?_
  refine ACall.of_wp 13 [.tmp 2] Tryz.func32 rfl (by kernel_rfl) rfl rfl fun a hn hd ha => ?_
  have hbox := boxA 27 h _ r.one
  have hN := NetAt.new (h := h) (n := n) (cv := cv) (fv := fv) (iv := iv) (ov := ov)
  have hw1 : IntKind.i64.wrap (n.inputs + n.flops.length) = n.inputs + n.flops.length := wrapI (by omega) (by omega)
  have hw2 : IntKind.i64.wrap (n.inputs + n.flops.length + n.insts.length) = n.inputs + n.flops.length + n.insts.length := wrapI (by omega) (by omega)
  simp (disch := first | omega | decide | (simp only [List.length_cons, List.length_nil] <;> omega)) only [push_cast, ↓reduceIte, Nat.reduceLT, Nat.reduceEqDiff, reduceCtorEq, Nat.reduceAdd, hn, hd, ha, hbox, faL foN0, faL foN1, faL foN2, faL foN3, faL foN4, hN.l0, hN.l1, hN.l2, hN.l3, hN.l4, hN.la, r.f.len Tryz.underlying23, r.i.len Tryz.underlying24, hw1, hw2, firstE]

theorem net29 {h : AH} {n : Net} {cv fv iv ov : Value} (r : NetR h n cv fv iv ov) (hs : Small n) {x : Int} :
    ACall Tryz.prog 68 [.agg (netC n cv fv iv ov).toArray, .int .i64 x] h (fun v h' => v = .bool (!badB n x) ∧ h' = h) := by
  refine ACall.viewed rfl ?_
  replace r := r.view
  generalize AH.view h = h at r
  refine ACall.wf ⟨_, Tryz.func68, rfl, by kernel_rfl⟩ fun hwf => ?_
  refine ACall.of_wp 13 [.tmp 4] Tryz.func68 rfl (by kernel_rfl) rfl rfl fun a hn hd ha => ?_
  have hbox := boxA 27 h _ r.one
  have hN := NetAt.new (h := h) (n := n) (cv := cv) (fv := fv) (iv := iv) (ov := ov)
  have r1 := r.sub (Sub.new hwf (.row (netC n cv fv iv ov) 27 true))
  simp (disch := first | omega | decide | (simp only [List.length_cons, List.length_nil] <;> omega)) only [push_cast, ↓reduceIte, Nat.reduceLT, Nat.reduceEqDiff, reduceCtorEq, Nat.reduceAdd, hn, hd, ha, hbox]
  generalize h.new (.row (netC n cv fv iv ov) 27 true) = h1 at hN r1 ⊢
  by_cases e : x < -2
  · simp (disch := first | omega | decide | (simp only [List.length_cons, List.length_nil] <;> omega)) only [push_cast, ↓reduceIte, Nat.reduceLT, Nat.reduceEqDiff, reduceCtorEq, Nat.reduceAdd, decide_eq_true, decide_eq_false, hn, hd, ha, ge_iff_le, badB, e, Bool.true_or]
  · simp (disch := first | omega | decide | (simp only [List.length_cons, List.length_nil] <;> omega)) only [push_cast, ↓reduceIte, Nat.reduceLT, Nat.reduceEqDiff, reduceCtorEq, Nat.reduceAdd, decide_eq_true, decide_eq_false, hn, hd, ha, ge_iff_le, hN.l0, hN.l1, hN.l2, hN.l3, hN.l4, hN.la]
    refine ACall.mono ?_ (nets29 r1 hs)
    rintro _ h1 ⟨rfl, rfl⟩
    by_cases e2 : x < firstE n + n.insts.length
    · simp (disch := first | omega | decide | (simp only [List.length_cons, List.length_nil] <;> omega)) only [push_cast, ↓reduceIte, Nat.reduceLT, Nat.reduceEqDiff, reduceCtorEq, Nat.reduceAdd, decide_eq_true, decide_eq_false, hn, hd, ha, badB, ge_iff_le, e, e2, Bool.false_or]
    · simp (disch := first | omega | decide | (simp only [List.length_cons, List.length_nil] <;> omega)) only [push_cast, ↓reduceIte, Nat.reduceLT, Nat.reduceEqDiff, reduceCtorEq, Nat.reduceAdd, decide_eq_true, decide_eq_false, hn, hd, ha, badB, ge_iff_le, e, e2, Bool.false_or]

theorem shape29R {h : AH} {n : Net} {cv fv iv ov : Value} (r : NetR h n cv fv iv ov) (ok : NetOK n) :
    ACall Tryz.prog 48 [.agg (netC n cv fv iv ov).toArray] h (fun v _ => v = .int .i64 (shapeE n)) := by
  refine ACall.wf ⟨_, Tryz.func48, rfl, by kernel_rfl⟩ fun hwf => ?_
  refine ACall.of_wp 118 [.tmp 2] Tryz.func48 rfl (by kernel_rfl) rfl rfl fun a hn hd ha => ?_
  have hbox := boxA 27 h _ r.one
  have hN := NetAt.new (h := h) (n := n) (cv := cv) (fv := fv) (iv := iv) (ov := ov)
  have r1 := r.sub (Sub.new hwf (.row (netC n cv fv iv ov) 27 true))
  have g1 := Gr.refl (hwf.new (.row (netC n cv fv iv ov) 27 true))
  simp (disch := first | omega | decide | (simp only [List.length_cons, List.length_nil] <;> omega)) only [push_cast, ↓reduceIte, Nat.reduceLT, Nat.reduceEqDiff, reduceCtorEq, Nat.reduceAdd, hn, hd, ha, hbox, faL foN0, faL foN1, faL foN2, faL foN3, faL foN4, hN.l0, hN.l1, hN.l2, hN.l3, hN.l4, hN.la]
  generalize h.new (.row (netC n cv fv iv ov) 27 true) = h1 at hN r1 g1 ⊢
  generalize h.next = B at hN ⊢
  refine ACall.mono ?_ (cells28 r1.c ok.cell)
  rintro _ h1 ⟨rfl, rfl⟩
  simp (disch := first | omega | decide | (simp only [List.length_cons, List.length_nil] <;> omega)) only [push_cast, ↓reduceIte, Nat.reduceLT, Nat.reduceEqDiff, reduceCtorEq, Nat.reduceAdd, hn, hd, ha]
  refine condV_not (fun e0 => ?_) (fun e0 => ?_)
  · have e : ¬ (cellsE n.cells).2 = 0 := by simpa using e0
    simp (disch := first | omega | decide | (simp only [List.length_cons, List.length_nil] <;> omega)) only [push_cast, ↓reduceIte, Nat.reduceLT, Nat.reduceEqDiff, reduceCtorEq, Nat.reduceAdd, hn, hd, ha, shapeE, ne_eq, e]
  have e0' : (cellsE n.cells).2 = 0 := by simpa using e0
  simp (disch := first | omega | decide | (simp only [List.length_cons, List.length_nil] <;> omega)) only [push_cast, ↓reduceIte, Nat.reduceLT, Nat.reduceEqDiff, reduceCtorEq, Nat.reduceAdd, hn, hd, ha, faL foN0, faL foN1, faL foN2, faL foN3, faL foN4, hN.l0, hN.l1, hN.l2, hN.l3, hN.l4, hN.la]
  refine condV_of (fun e1 => ?_) (fun e1 => ?_)
  · have e : n.inputs < 0 := by simpa using e1
    simp (disch := first | omega | decide | (simp only [List.length_cons, List.length_nil] <;> omega)) only [push_cast, ↓reduceIte, Nat.reduceLT, Nat.reduceEqDiff, reduceCtorEq, Nat.reduceAdd, hn, hd, ha, shapeE, ne_eq, e0', e, not_true_eq_false]
  have e1' : ¬ n.inputs < 0 := by simpa using e1
  have hS : shapeE n = if bigB n = true then 5 else if instsGo n n.insts ≠ 0 then instsGo n n.insts else if n.flops.any (flopB n) = true then 1 else if n.outs.any (badB n) = true then 1 else 0 := by
    simp only [shapeE, ne_eq, e0', e1', not_true_eq_false, if_false]
  by_cases hbig : bigB n = true
  · rw [if_pos hbig] at hS
    have hbg : n.inputs > 64 ∨ (n.flops.length : Int) > 64 ∨ (n.outs.length : Int) > 64 ∨ (n.insts.length : Int) > 4096 := by
      simp only [bigB, Bool.or_eq_true, decide_eq_true_eq] at hbig; omega
    by_cases c1 : n.inputs > 64
    · simp (disch := first | omega | decide | (simp only [List.length_cons, List.length_nil] <;> omega)) only [push_cast, ↓reduceIte, Nat.reduceLT, Nat.reduceEqDiff, reduceCtorEq, Nat.reduceAdd, hn, hd, ha, faL foN0, faL foN1, faL foN2, faL foN3, faL foN4, hN.l0, hN.l1, hN.l2, hN.l3, hN.l4, hN.la, c1, hS]
    by_cases c2 : (n.flops.length : Int) > 64
    · simp (disch := first | omega | decide | (simp only [List.length_cons, List.length_nil] <;> omega)) only [push_cast, ↓reduceIte, Nat.reduceLT, Nat.reduceEqDiff, reduceCtorEq, Nat.reduceAdd, hn, hd, ha, faL foN0, faL foN1, faL foN2, faL foN3, faL foN4, hN.l0, hN.l1, hN.l2, hN.l3, hN.l4, hN.la, r1.f.len Tryz.underlying23, c1, c2, hS]
    by_cases c3 : (n.outs.length : Int) > 64
    · simp (disch := first | omega | decide | (simp only [List.length_cons, List.length_nil] <;> omega)) only [push_cast, ↓reduceIte, Nat.reduceLT, Nat.reduceEqDiff, reduceCtorEq, Nat.reduceAdd, hn, hd, ha, faL foN0, faL foN1, faL foN2, faL foN3, faL foN4, hN.l0, hN.l1, hN.l2, hN.l3, hN.l4, hN.la, r1.f.len Tryz.underlying23, r1.o.lenA Tryz.underlying25, c1, c2, c3, hS]
    have c4 : (n.insts.length : Int) > 4096 := by omega
    simp (disch := first | omega | decide | (simp only [List.length_cons, List.length_nil] <;> omega)) only [push_cast, ↓reduceIte, Nat.reduceLT, Nat.reduceEqDiff, reduceCtorEq, Nat.reduceAdd, hn, hd, ha, faL foN0, faL foN1, faL foN2, faL foN3, faL foN4, hN.l0, hN.l1, hN.l2, hN.l3, hN.l4, hN.la, r1.f.len Tryz.underlying23, r1.o.lenA Tryz.underlying25, r1.i.len Tryz.underlying24, c1, c2, c3, c4, hS]
  have hsb : n.inputs ≤ 64 ∧ (n.flops.length : Int) ≤ 64 ∧ (n.outs.length : Int) ≤ 64 ∧ (n.insts.length : Int) ≤ 4096 := by
    have hb : bigB n = false := by simpa using hbig
    simp only [bigB, Bool.or_eq_false_iff, decide_eq_false_iff_not] at hb; omega
  obtain ⟨b1, b2, b3, b4⟩ := hsb
  have hsm : Small n := ⟨by omega, by omega, by omega, by omega⟩
  rw [if_neg hbig] at hS
  have c1 : ¬ n.inputs > 64 := by omega
  have c2 : ¬ (n.flops.length : Int) > 64 := by omega
  have c3 : ¬ (n.outs.length : Int) > 64 := by omega
  have c4 : ¬ (n.insts.length : Int) > 4096 := by omega
  simp (disch := first | omega | decide | (simp only [List.length_cons, List.length_nil] <;> omega)) only [push_cast, ↓reduceIte, Nat.reduceLT, Nat.reduceEqDiff, reduceCtorEq, Nat.reduceAdd, hn, hd, ha, faL foN0, faL foN1, faL foN2, faL foN3, faL foN4, hN.l0, hN.l1, hN.l2, hN.l3, hN.l4, hN.la, r1.f.len Tryz.underlying23, r1.o.lenA Tryz.underlying25, r1.i.len Tryz.underlying24, c1, c2, c3, c4]
  refine AW.loopN 49 [2, 6, 8, 49] (fun m a' h' => Gr h1 h' ∧ ∃ i : Nat, a'.tm 49 = .int .i64 i ∧ i + m = n.insts.length ∧ instsGo n (n.insts.drop i) = instsGo n n.insts) n.insts.length ?_ ?_
  · exact ⟨g1, 0, by simp (disch := first | omega | decide | (simp only [List.length_cons, List.length_nil] <;> omega)) only [push_cast, ↓reduceIte, Nat.reduceLT, Nat.reduceEqDiff, reduceCtorEq, Nat.reduceAdd], by omega, rfl⟩
  rintro a1 m a' h' hk kn kd kt ⟨hg, i, h49, him, hgo⟩
  simp (disch := first | omega | decide | (simp only [List.length_cons, List.length_nil] <;> omega)) only [push_cast, ↓reduceIte, Nat.reduceLT, Nat.reduceEqDiff, reduceCtorEq, Nat.reduceAdd, kn, kd, kt, hn, hd, ha, h49]
  refine condV_of (fun hlt => ?_) (fun hge => ?_)
  · have hi : i < n.insts.length := by have := hlt; simp at this; omega
    have r2 := r1.sub hg.sub
    have hN2 := hN.sub hg.sub
    obtain ⟨cs, ⟨pv, rfl, hpv⟩, hld, -, -⟩ := r2.i.get hi default
    replace hld := hld _ agI
    have hpl := ok.pins _ (getD_mem hi default)
    have hdrop : n.insts.drop i = n.insts.getD i default :: n.insts.drop (i + 1) := drop_cons_getD hi default
    rw [hdrop] at hgo
    have hwi : IntKind.i64.wrap ((i : Int) + 1) = i + 1 := wrapI (by omega) (by omega)
    generalize n.insts.getD i default = x at *
    have hone : [Value.int .i64 x.cell, pv].all oneC = true := by simp only [List.all_cons, List.all_nil, hpv.one]; rfl
    have hst := fun (hh : AH) cs e hl => stN agI hh cs e [Value.int .i64 x.cell, pv] hl rfl hone
    have hg2 := hg.new (.row [Value.int .i64 x.cell, pv] 36 true)
    have hs2 := Sub.new hg.wf (.row [Value.int .i64 x.cell, pv] 36 true)
    have hI := CsAt.new h' [Value.int .i64 x.cell, pv] 36 true
    simp (disch := first | omega | decide | (simp only [List.length_cons, List.length_nil] <;> omega)) only [push_cast, ↓reduceIte, Nat.reduceLT, Nat.reduceEqDiff, reduceCtorEq, Nat.reduceAdd, kn, kd, kt, hn, hd, ha, h49, r2.i.idx Tryz.underlying24 infI, hld, alL zrI, hst, faL foI0, faL foI1, hI.ld fl3]
    generalize h'.new (.row [Value.int .i64 x.cell, pv] 36 true) = h2 at hg2 hs2 hI ⊢
    generalize h'.next = C at hI ⊢
    have r3 := r2.sub hs2
    have hN3 := hN2.sub hs2
    have hpv3 := hpv.sub hs2
    have loop2 : ∀ e, instE n x = e → e ≠ 0 → shapeE n = e := by
      intro e he h0
      rw [hS, ← hgo]; simp only [instsGo, he, ne_eq, h0, not_false_eq_true, if_true]
    refine wantM_not (fun e4 => ?_) (fun e4 => ?_)
    · have hE := loop2 1 (by simp only [instE, e4, Bool.true_or, if_true]) (by decide)
      simp (disch := first | omega | decide | (simp only [List.length_cons, List.length_nil] <;> omega)) only [push_cast, ↓reduceIte, Nat.reduceLT, Nat.reduceEqDiff, reduceCtorEq, Nat.reduceAdd, kn, kd, kt, hn, hd, ha, h49, e4, hE]
    simp (disch := first | omega | decide | (simp only [List.length_cons, List.length_nil] <;> omega)) only [push_cast, ↓reduceIte, Nat.reduceLT, Nat.reduceEqDiff, reduceCtorEq, Nat.reduceAdd, kn, kd, kt, hn, hd, ha, h49, e4, faL foI0, faL foI1, hI.ld fl3, faL foN0, faL foN1, faL foN2, faL foN3, faL foN4, hN3.l0, hN3.l1, hN3.l2, hN3.l3, hN3.l4, hN3.la, r3.c.len Tryz.underlying22]
    refine condV_of (fun e5 => ?_) (fun e5 => ?_)
    · have hE := loop2 1 (by simp only [instE, e4, e5, Bool.false_or, if_true]) (by decide)
      simp (disch := first | omega | decide | (simp only [List.length_cons, List.length_nil] <;> omega)) only [push_cast, ↓reduceIte, Nat.reduceLT, Nat.reduceEqDiff, reduceCtorEq, Nat.reduceAdd, kn, kd, kt, hn, hd, ha, h49, hE]
    have hc0 : 0 ≤ x.cell := by simpa using e4
    have hc1 : x.cell < n.cells.length := by simpa using e5
    obtain ⟨cs, ⟨dv, rfl, hdv⟩, -, hfl, hfa⟩ := r3.c.get (i := x.cell.toNat) (by omega) default
    have hfa1 := hfa _ _ _ foC1
    have hfl1 := hfl 1 _ fl3 (by decide)
    simp (disch := first | omega | decide | (simp only [List.length_cons, List.length_nil] <;> omega)) only [push_cast, ↓reduceIte, Nat.reduceLT, Nat.reduceEqDiff, reduceCtorEq, Nat.reduceAdd, kn, kd, kt, hn, hd, ha, h49]
    refine AW.drawT (.take 0 [10, 2, 1] (.take 1 [10, 2] (.take 2 [10] (.take 3 [10, 9, 8, 7, 4] (.take 4 [10, 9, 8, 7] (.take 5 [10, 9, 8, 7, 6] (.take 6 [10, 9, 8, 7] (.take 7 [10, 9, 8] (.take 8 [10, 9] (.take 9 [10] (.take 10 [] .done))))))))))) [0, 0, 0, 0, 0, 0, 0, 0, 0, 0, 0] mixed (by kernel_rfl) (by kernel_rfl) ?_
    simp (disch := first | omega | decide | (simp only [List.length_cons, List.length_nil] <;> omega)) only [push_cast, ↓reduceIte, Nat.reduceLT, Nat.reduceEqDiff, reduceCtorEq, Nat.reduceAdd, kn, kd, kt, hn, hd, ha, h49, faL foI0, faL foI1, hI.ld fl3, hI.ld flI, faL foN0, faL foN1, faL foN2, faL foN3, faL foN4, hN3.l0, hN3.l1, hN3.l2, hN3.l3, hN3.l4, hN3.la, hpv3.lenA Tryz.underlying25, r3.c.idx Tryz.underlying22 infC, hfa1, hfl1]
    have hC : instE n x = if (x.pins.length : Int) ≠ (n.cells.getD x.cell.toNat default).pins then 12 else if x.pins.any (badB n) = true then 1 else 0 := by
      simp only [instE, e4, e5, Bool.false_or, Bool.false_eq_true, if_false]
    refine condV_not (fun e6 => ?_) (fun e6 => ?_)
    · have e : ¬ (x.pins.length : Int) = (n.cells.getD x.cell.toNat default).pins := by simpa using e6
      have hE := loop2 12 (by rw [hC, if_pos e]) (by decide)
      simp (disch := first | omega | decide | (simp only [List.length_cons, List.length_nil] <;> omega)) only [push_cast, ↓reduceIte, Nat.reduceLT, Nat.reduceEqDiff, reduceCtorEq, Nat.reduceAdd, kn, kd, kt, hn, hd, ha, h49, hE]
    have e6' : (x.pins.length : Int) = (n.cells.getD x.cell.toNat default).pins := by simpa using e6
    rw [if_neg (fun x => x e6')] at hC
    simp (disch := first | omega | decide | (simp only [List.length_cons, List.length_nil] <;> omega)) only [push_cast, ↓reduceIte, Nat.reduceLT, Nat.reduceEqDiff, reduceCtorEq, Nat.reduceAdd, kn, kd, kt, hn, hd, ha, h49, faL foI0, faL foI1, hI.ld flI, hpv3.lenA Tryz.underlying25]
    refine AW.keep 49 [2, 6, 8, 49] (a0 := a1) (by simp (disch := decide) only [Kp_put, put_none, hk]) (fun hkc => ?_)
    refine AW.loopN 78 [2, 8] (fun q b h' => h' = h2 ∧ ∃ j : Nat, b.tm 78 = .int .i64 j ∧ j + q = x.pins.length ∧ (x.pins.drop j).any (badB n) = x.pins.any (badB n)) x.pins.length ?_ ?_
    · exact ⟨rfl, 0, by simp (disch := first | omega | decide | (simp only [List.length_cons, List.length_nil] <;> omega)) only [push_cast, ↓reduceIte, Nat.reduceLT, Nat.reduceEqDiff, reduceCtorEq, Nat.reduceAdd], by omega, rfl⟩
    rintro b1 q b h4 hk2 kn2 kd2 kt2 ⟨rfl, j, h78, hjq, hany⟩
    have hk := Kp.trans hkc ⟨kn2, kd2, kt2⟩ (by decide) (by decide)
    simp (disch := first | omega | decide | (simp only [List.length_cons, List.length_nil] <;> omega)) only [push_cast, ↓reduceIte, Nat.reduceLT, Nat.reduceEqDiff, reduceCtorEq, Nat.reduceAdd, kn2, kd2, kt2, kn, kd, kt, hn, hd, ha, h49, h78]
    refine condV_of (fun hlt2 => ?_) (fun hge2 => ?_)
    · have hj : j < x.pins.length := by have := hlt2; simp at this; omega
      have hidx := hpv3.idxI sl22 .i64 j (by omega) (by omega)
      have hldp := hpv3.ldI sl22 j (by omega)
      rw [Int.toNat_natCast] at hidx
      rw [any_drop hj 0] at hany
      have hw : IntKind.i64.wrap ((j : Int) + 1) = j + 1 := wrapI (by omega) (by omega)
      generalize x.pins.getD j 0 = p at *
      simp (disch := first | omega | decide | (simp only [List.length_cons, List.length_nil] <;> omega)) only [push_cast, ↓reduceIte, Nat.reduceLT, Nat.reduceEqDiff, reduceCtorEq, Nat.reduceAdd, kn2, kd2, kt2, kn, kd, kt, hn, hd, ha, h49, h78, hidx, hldp, hN3.l0, hN3.l1, hN3.l2, hN3.l3, hN3.l4, hN3.la]
      refine ACall.mono ?_ (net29 (x := p) r3 hsm)
      rintro _ h5 ⟨rfl, rfl⟩
      simp (disch := first | omega | decide | (simp only [List.length_cons, List.length_nil] <;> omega)) only [push_cast, ↓reduceIte, Nat.reduceLT, Nat.reduceEqDiff, reduceCtorEq, Nat.reduceAdd, kn2, kd2, kt2, kn, kd, kt, hn, hd, ha, h49, h78]
      refine condV_of (fun e7 => ?_) (fun e7 => ?_)
      · rw [e7, Bool.true_or] at hany
        have hE := loop2 1 (by rw [hC, ← hany, if_pos rfl]) (by decide)
        simp (disch := first | omega | decide | (simp only [List.length_cons, List.length_nil] <;> omega)) only [push_cast, ↓reduceIte, Nat.reduceLT, Nat.reduceEqDiff, reduceCtorEq, Nat.reduceAdd, kn2, kd2, kt2, kn, kd, kt, hn, hd, ha, h49, h78, hE]
      · rw [e7, Bool.false_or] at hany
        simp (disch := first | omega | decide | (simp only [List.length_cons, List.length_nil] <;> omega)) only [push_cast, ↓reduceIte, Nat.reduceLT, Nat.reduceEqDiff, reduceCtorEq, Nat.reduceAdd, kn2, kd2, kt2, kn, kd, kt, hn, hd, ha, h49, h78, hw]
        exact ⟨q - 1, by omega, by simp (disch := decide) only [Kp_put, put_none, hk2], rfl, j + 1, by simp (disch := first | omega | decide | (simp only [List.length_cons, List.length_nil] <;> omega)) only [push_cast, ↓reduceIte, Nat.reduceLT, Nat.reduceEqDiff, reduceCtorEq, Nat.reduceAdd], by omega, hany⟩
    · have hj : x.pins.length ≤ j := by have := hge2; simp at this; omega
      rw [List.drop_of_length_le hj, List.any_nil] at hany
      have e7' : ¬ x.pins.any (badB n) = true := by rw [← hany]; decide
      simp (disch := first | omega | decide | (simp only [List.length_cons, List.length_nil] <;> omega)) only [push_cast, ↓reduceIte, Nat.reduceLT, Nat.reduceEqDiff, reduceCtorEq, Nat.reduceAdd, kn2, kd2, kt2, kn, kd, kt, hn, hd, ha, h49, h78, hwi]
      refine ⟨m - 1, by omega, (by simp (disch := decide) only [Kp_put, put_none, hk]), hg2, i + 1, by simp (disch := first | omega | decide | (simp only [List.length_cons, List.length_nil] <;> omega)) only [push_cast, ↓reduceIte, Nat.reduceLT, Nat.reduceEqDiff, reduceCtorEq, Nat.reduceAdd], by omega, ?_⟩
      rw [← hgo]
      simp only [instsGo, hC, if_neg e7', ne_eq, not_true_eq_false, if_false]
  · have hi : n.insts.length ≤ i := by have := hge; simp at this; omega
    rw [List.drop_of_length_le hi] at hgo
    have hG : instsGo n n.insts = 0 := by rw [← hgo]; rfl
    rw [if_neg (fun x => x hG)] at hS
    have r2 := r1.sub hg.sub
    have hN2 := hN.sub hg.sub
    clear hgo h49 him hi
    simp (disch := first | omega | decide | (simp only [List.length_cons, List.length_nil] <;> omega)) only [push_cast, ↓reduceIte, Nat.reduceLT, Nat.reduceEqDiff, reduceCtorEq, Nat.reduceAdd, kn, kd, kt, hn, hd, ha, faL foN0, faL foN1, faL foN2, faL foN3, faL foN4, hN2.l0, hN2.l1, hN2.l2, hN2.l3, hN2.l4, hN2.la, r2.f.len Tryz.underlying23]
    refine AW.loopN 91 [2, 6, 8, 10, 49, 91] (fun m a' h' => Gr h1 h' ∧ ∃ i : Nat, a'.tm 91 = .int .i64 i ∧ i + m = n.flops.length ∧ (n.flops.drop i).any (flopB n) = n.flops.any (flopB n)) n.flops.length ?_ ?_
    · exact ⟨hg, 0, by simp (disch := first | omega | decide | (simp only [List.length_cons, List.length_nil] <;> omega)) only [push_cast, ↓reduceIte, Nat.reduceLT, Nat.reduceEqDiff, reduceCtorEq, Nat.reduceAdd], by omega, rfl⟩
    rintro b1 m2 b h5 hk2 kn2 kd2 kt2 ⟨hg5, i, h91, him, hany⟩
    have r5 := r1.sub hg5.sub
    have hN5 := hN.sub hg5.sub
    simp (disch := first | omega | decide | (simp only [List.length_cons, List.length_nil] <;> omega)) only [push_cast, ↓reduceIte, Nat.reduceLT, Nat.reduceEqDiff, reduceCtorEq, Nat.reduceAdd, kn2, kd2, kt2, kn, kd, kt, hn, hd, ha, h91]
    refine condV_of (fun hlt => ?_) (fun hge => ?_)
    · have hi : i < n.flops.length := by have := hlt; simp at this; omega
      obtain ⟨cs, rfl, hld, -, -⟩ := r5.f.get hi default
      replace hld := hld _ agF
      rw [any_drop hi default] at hany
      have hw : IntKind.i64.wrap ((i : Int) + 1) = i + 1 := wrapI (by omega) (by omega)
      generalize n.flops.getD i default = x at *
      have hst := fun (hh : AH) cs e hl => stN agF hh cs e [Value.int .i64 x.next, .int .u8 x.init] hl rfl rfl
      have hg6 := hg5.new (.row [Value.int .i64 x.next, .int .u8 x.init] 65 true)
      have hs6 := Sub.new hg5.wf (.row [Value.int .i64 x.next, .int .u8 x.init] 65 true)
      have hI6 := CsAt.new h5 [Value.int .i64 x.next, .int .u8 x.init] 65 true
      have hN6 := hN5.sub hs6
      simp (disch := first | omega | decide | (simp only [List.length_cons, List.length_nil] <;> omega)) only [push_cast, ↓reduceIte, Nat.reduceLT, Nat.reduceEqDiff, reduceCtorEq, Nat.reduceAdd, kn2, kd2, kt2, kn, kd, kt, hn, hd, ha, h91, r5.f.idx Tryz.underlying23 infF, hld, alL zrF, hst, faL foF0, faL foF1, hI6.ld fl3, hN6.l0, hN6.l1, hN6.l2, hN6.l3, hN6.l4, hN6.la]
      generalize h5.new (.row [Value.int .i64 x.next, .int .u8 x.init] 65 true) = h6 at hg6 hs6 hI6 hN6 ⊢
      generalize h5.next = C at hI6 ⊢
      have r6 := r5.sub hs6
      refine ACall.mono ?_ (net29 (x := x.next) r6 hsm)
      rintro _ h7 ⟨rfl, rfl⟩
      simp (disch := first | omega | decide | (simp only [List.length_cons, List.length_nil] <;> omega)) only [push_cast, ↓reduceIte, Nat.reduceLT, Nat.reduceEqDiff, reduceCtorEq, Nat.reduceAdd, kn2, kd2, kt2, kn, kd, kt, hn, hd, ha, h91]
      refine wantM_not (fun e8 => ?_) (fun e8 => ?_)
      · have hF : n.flops.any (flopB n) = true := by rw [← hany]; simp only [flopB, e8, Bool.true_or]
        rw [if_pos hF] at hS
        simp (disch := first | omega | decide | (simp only [List.length_cons, List.length_nil] <;> omega)) only [push_cast, ↓reduceIte, Nat.reduceLT, Nat.reduceEqDiff, reduceCtorEq, Nat.reduceAdd, kn2, kd2, kt2, kn, kd, kt, hn, hd, ha, h91, e8, hS]
      simp (disch := first | omega | decide | (simp only [List.length_cons, List.length_nil] <;> omega)) only [push_cast, ↓reduceIte, Nat.reduceLT, Nat.reduceEqDiff, reduceCtorEq, Nat.reduceAdd, kn2, kd2, kt2, kn, kd, kt, hn, hd, ha, h91, e8, faL foF0, faL foF1, hI6.ld fl5]
      refine condV_of (fun e9 => ?_) (fun e9 => ?_)
      · have hF : n.flops.any (flopB n) = true := by rw [← hany]; simp only [flopB, e8, e9, Bool.true_or, Bool.false_or]
        rw [if_pos hF] at hS
        simp (disch := first | omega | decide | (simp only [List.length_cons, List.length_nil] <;> omega)) only [push_cast, ↓reduceIte, Nat.reduceLT, Nat.reduceEqDiff, reduceCtorEq, Nat.reduceAdd, kn2, kd2, kt2, kn, kd, kt, hn, hd, ha, hS]
      · simp (disch := first | omega | decide | (simp only [List.length_cons, List.length_nil] <;> omega)) only [push_cast, ↓reduceIte, Nat.reduceLT, Nat.reduceEqDiff, reduceCtorEq, Nat.reduceAdd, kn2, kd2, kt2, kn, kd, kt, hn, hd, ha, h91, hw]
        refine ⟨m2 - 1, by omega, (by simp (disch := decide) only [Kp_put, put_none, hk2]), hg6, i + 1, by simp (disch := first | omega | decide | (simp only [List.length_cons, List.length_nil] <;> omega)) only [push_cast, ↓reduceIte, Nat.reduceLT, Nat.reduceEqDiff, reduceCtorEq, Nat.reduceAdd], by omega, ?_⟩
        rw [← hany]; simp only [flopB, e8, e9, Bool.false_or]
    · have hi : n.flops.length ≤ i := by have := hge; simp at this; omega
      rw [List.drop_of_length_le hi] at hany
      have hF : ¬ n.flops.any (flopB n) = true := by rw [← hany]; simp
      rw [if_neg hF] at hS
      clear hany him h91 hi
      simp (disch := first | omega | decide | (simp only [List.length_cons, List.length_nil] <;> omega)) only [push_cast, ↓reduceIte, Nat.reduceLT, Nat.reduceEqDiff, reduceCtorEq, Nat.reduceAdd, kn2, kd2, kt2, kn, kd, kt, hn, hd, ha, faL foN0, faL foN1, faL foN2, faL foN3, faL foN4, hN5.l0, hN5.l1, hN5.l2, hN5.l3, hN5.l4, hN5.la, r5.o.lenA Tryz.underlying25]
      refine AW.loopN 109 [2, 12, 109] (fun q c h' => h' = h5 ∧ ∃ i : Nat, c.tm 109 = .int .i64 i ∧ i + q = n.outs.length ∧ (n.outs.drop i).any (badB n) = n.outs.any (badB n)) n.outs.length ?_ ?_
      · exact ⟨rfl, 0, by simp (disch := first | omega | decide | (simp only [List.length_cons, List.length_nil] <;> omega)) only [push_cast, ↓reduceIte, Nat.reduceLT, Nat.reduceEqDiff, reduceCtorEq, Nat.reduceAdd], by omega, rfl⟩
      rintro c1 q c h6 hk3 kn3 kd3 kt3 ⟨rfl, i, h109, hiq, hany⟩
      simp (disch := first | omega | decide | (simp only [List.length_cons, List.length_nil] <;> omega)) only [push_cast, ↓reduceIte, Nat.reduceLT, Nat.reduceEqDiff, reduceCtorEq, Nat.reduceAdd, kn3, kd3, kt3, kn2, kd2, kt2, kn, kd, kt, hn, hd, ha, h109]
      refine condV_of (fun hlt => ?_) (fun hge => ?_)
      · have hi : i < n.outs.length := by have := hlt; simp at this; omega
        have hidx := r5.o.idxI sl22 .i64 i (by omega) (by omega)
        have hldp := r5.o.ldI sl22 i (by omega)
        rw [Int.toNat_natCast] at hidx
        rw [any_drop hi 0] at hany
        have hw : IntKind.i64.wrap ((i : Int) + 1) = i + 1 := wrapI (by omega) (by omega)
        generalize n.outs.getD i 0 = p at *
        simp (disch := first | omega | decide | (simp only [List.length_cons, List.length_nil] <;> omega)) only [push_cast, ↓reduceIte, Nat.reduceLT, Nat.reduceEqDiff, reduceCtorEq, Nat.reduceAdd, kn3, kd3, kt3, kn2, kd2, kt2, kn, kd, kt, hn, hd, ha, h109, hidx, hldp, hN5.l0, hN5.l1, hN5.l2, hN5.l3, hN5.l4, hN5.la]
        refine ACall.mono ?_ (net29 (x := p) r5 hsm)
        rintro _ h7 ⟨rfl, rfl⟩
        simp (disch := first | omega | decide | (simp only [List.length_cons, List.length_nil] <;> omega)) only [push_cast, ↓reduceIte, Nat.reduceLT, Nat.reduceEqDiff, reduceCtorEq, Nat.reduceAdd, kn3, kd3, kt3, kn2, kd2, kt2, kn, kd, kt, hn, hd, ha, h109]
        refine condV_of (fun e7 => ?_) (fun e7 => ?_)
        · rw [e7, Bool.true_or] at hany
          rw [if_pos hany.symm] at hS
          simp (disch := first | omega | decide | (simp only [List.length_cons, List.length_nil] <;> omega)) only [push_cast, ↓reduceIte, Nat.reduceLT, Nat.reduceEqDiff, reduceCtorEq, Nat.reduceAdd, kn3, kd3, kt3, kn2, kd2, kt2, kn, kd, kt, hn, hd, ha, hS]
        · rw [e7, Bool.false_or] at hany
          simp (disch := first | omega | decide | (simp only [List.length_cons, List.length_nil] <;> omega)) only [push_cast, ↓reduceIte, Nat.reduceLT, Nat.reduceEqDiff, reduceCtorEq, Nat.reduceAdd, kn3, kd3, kt3, kn2, kd2, kt2, kn, kd, kt, hn, hd, ha, h109, hw]
          exact ⟨q - 1, by omega, by simp (disch := decide) only [Kp_put, put_none, hk3], rfl, i + 1, by simp (disch := first | omega | decide | (simp only [List.length_cons, List.length_nil] <;> omega)) only [push_cast, ↓reduceIte, Nat.reduceLT, Nat.reduceEqDiff, reduceCtorEq, Nat.reduceAdd], by omega, hany⟩
      · have hi : n.outs.length ≤ i := by have := hge; simp at this; omega
        rw [List.drop_of_length_le hi, List.any_nil] at hany
        rw [if_neg (by rw [← hany]; decide)] at hS
        simp (disch := first | omega | decide | (simp only [List.length_cons, List.length_nil] <;> omega)) only [push_cast, ↓reduceIte, Nat.reduceLT, Nat.reduceEqDiff, reduceCtorEq, Nat.reduceAdd, kn3, kd3, kt3, kn2, kd2, kt2, kn, kd, kt, hn, hd, ha, hS]

theorem shape29 {h : AH} {n : Net} {cv fv iv ov : Value} (r : NetR h n cv fv iv ov) (ok : NetOK n) :
    ACall Tryz.prog 48 [.agg (netC n cv fv iv ov).toArray] h (fun v h' => v = .int .i64 (shapeE n) ∧ h' = h) :=
  ACall.viewed rfl (shape29R r.view ok)


/-! ### Plainly -/

def doneL (n : Net) (O : List Int) : List Bool := (List.range n.insts.length).map fun (j : Nat) => decide ((j : Int) ∈ O)

theorem doneL_len (n : Net) (O : List Int) : (doneL n O).length = n.insts.length := by simp [doneL]
theorem doneL_get {n : Net} {O : List Int} {j : Nat} (hj : j < n.insts.length) : (doneL n O).getD j false = decide ((j : Int) ∈ O) := by
  simp [doneL, List.getD_eq_getElem?_getD, hj]
theorem doneL_set {n : Net} {O : List Int} {i : Nat} (hi : i < n.insts.length) : (doneL n O).set i true = doneL n (O ++ [(i : Int)]) := by
  apply List.ext_getElem?
  intro j
  by_cases hj : j < n.insts.length
  · by_cases hji : j = i
    · subst hji
      rw [List.getElem?_set_self (by simpa [doneL] using hj)]
      simp [doneL, hj]
    · rw [List.getElem?_set_ne (fun e => hji e.symm)]
      have : ¬ (j : Int) = i := by omega
      simp [doneL, hj, this]
  · rw [List.getElem?_eq_none (by simp [doneL]; omega), List.getElem?_eq_none (by simp [doneL]; omega)]
theorem doneL_nil (n : Net) : doneL n [] = List.replicate n.insts.length false := by
  apply List.ext_getElem?
  intro j
  by_cases hj : j < n.insts.length
  · simp [doneL, hj]
  · rw [List.getElem?_eq_none (by simp [doneL]; omega), List.getElem?_eq_none (by simp; omega)]

def pinOK (n : Net) (O : List Int) (p : Int) : Bool := decide (p < firstE n) || decide (p - firstE n ∈ O)
def readyB (n : Net) (O : List Int) (i : Nat) : Bool := !decide ((i : Int) ∈ O) && (pinsOf n i).all (pinOK n O)

theorem readyB_push {n : Net} {O : List Int} {i : Nat} (t : Topo n O) (hi : i < n.insts.length) (hr : readyB n O i = true) : Topo n (O ++ [(i : Int)]) := by
  simp only [readyB, Bool.and_eq_true, Bool.not_eq_true', decide_eq_false_iff_not, List.all_eq_true] at hr
  refine t.push (by omega) (by omega) hr.1 ?_
  rw [Int.toNat_natCast, rem, List.countP_eq_zero]
  intro p hp
  have := hr.2 p hp
  simp only [pinOK, Bool.or_eq_true, decide_eq_true_eq] at this
  simp only [remB, Bool.and_eq_true, decide_eq_true_eq, Bool.not_eq_true', decide_eq_false_iff_not, not_and, Classical.not_not]
  intro h
  rcases this with h1 | h1
  · omega
  · exact h1

theorem readyB_wait {n : Net} {O : List Int} {i : Nat} (hr : readyB n O i = false) (hO : (i : Int) ∉ O) : ∃ p ∈ pinsOf n i, firstE n ≤ p ∧ p - firstE n ∉ O := by
  simp only [readyB, decide_eq_false hO, Bool.not_false, Bool.true_and, List.all_eq_false] at hr
  obtain ⟨p, hp, hq⟩ := hr
  simp only [pinOK, Bool.or_eq_true, decide_eq_true_eq, not_or] at hq
  exact ⟨p, hp, by omega, hq.2⟩

theorem Topo.empty (n : Net) : Topo n [] := ⟨List.nodup_nil, fun x h => (nomatch h), fun j x h => by simp at h⟩

/-! ### The walk -/

def OrdPost (n : Net) (h : AH) (v : Value) (h' : AH) : Prop := Gr h h' ∧ ∃ O : List Int, Topo n O ∧ Stuck n O ∧ SlOf h' v (O.map (.int .i64))

/-- What the reference's search keeps: the marks in D, the order so far. -/
structure RefI (n : Net) (b h : AH) (D : Nat) (nm : Nat → Nat) (ob : Nat → Option AObj) (O : List Int) (ov : Value) : Prop where
  own : _root_.Go.Ab.Owns b h nm ob
  d : nm 0 = D
  at0 : ob 0 = some (.row ((doneL n O).map .bool) 4 true)
  o : _root_.Go.Ab.Vec 3 ov (ob 1) (nm 1) (O.map (.int .i64))
  t : Topo n O

theorem RefI.get {n : Net} {b h : AH} {D : Nat} {nm : Nat → Nat} {ob : Nat → Option AObj} {O : List Int} {ov : Value} (R : RefI n b h D nm ob O ov) : h.get D = some (.row ((doneL n O).map .bool) 4 true) := R.d ▸ R.own.get 0 _ R.at0

theorem RefI.le {n : Net} {b h : AH} {D : Nat} {nm : Nat → Nat} {ob : Nat → Option AObj} {O : List Int} {ov : Value} (R : RefI n b h D nm ob O ov) : O.length ≤ n.insts.length := nodup_le R.t.nodup R.t.range

theorem RefI.push {n : Net} {b h : AH} {D : Nat} {nm : Nat → Nat} {ob : Nat → Option AObj} {O : List Int} {ov : Value} (w0 : WFH b) (R : RefI n b h D nm ob O ov) (hil : n.insts.length ≤ 4096) {i : Nat} (hi : i < n.insts.length) (hr : readyB n O i = true) :
    ∃ h', aStore Tryz.prog 4 (.pointer (some ⟨D, i, none⟩)) (.bool true) h = some h' ∧ aBuildSlice Tryz.prog 25 1 [(0, .int .i64 i)] h' = some (.slice (some ⟨h'.next, 0, none⟩) 1 1, h'.new (.row [.int .i64 i] 3 true)) ∧
      ∃ v' h'', aAppend Tryz.prog #[25, 25] ov (.slice (some ⟨h'.next, 0, none⟩) 1 1) (h'.new (.row [.int .i64 i] 3 true)) = some (v', h'') ∧ ∃ nm' ob', RefI n b h'' D nm' ob' (O ++ [(i : Int)]) v' := by
  have hst := stRow sl23 (f := Value.bool) R.get one_bool i true (by rw [doneL_len]; exact hi)
  rw [doneL_set hi] at hst
  have ho := _root_.Go.Ab.Owns.set (o' := .row ((doneL n (O ++ [(i : Int)])).map .bool) 4 true) w0 R.own R.at0
  rw [R.d] at ho
  generalize h.set D (.row ((doneL n (O ++ [(i : Int)])).map .bool) 4 true) = h' at hst ho
  have g3 := (Gr.refl ho.gr.wf).new (.row [.int .i64 i] 3 true)
  have o3 := ho.grown g3
  have hB : (h'.new (.row [.int .i64 i] 3 true)).get h'.next = some (.row [.int .i64 i] 3 true) := by rw [AH.new_get, if_pos rfl]
  have hle := R.le
  have hV : _root_.Go.Ab.Vec 3 ov (upd ob 0 (some (.row ((doneL n (O ++ [(i : Int)])).map .bool) 4 true)) 1) (nm 1) (O.map (.int .i64)) := by rw [upd_ne _ _ (by decide)]; exact R.o
  obtain ⟨v', h4, happ, hup⟩ := appendV (t := 25) (t2 := 25) t22 ⟨_, Tryz.underlying25⟩ g3.wf hV (o3.get 1) hB rfl rfl (by simp; omega) (by simp; omega)
  obtain ⟨A', o', hv', ho'⟩ := o3.vec (r := 1) w0 hup
  refine ⟨h', hst, aBuild1 t22 h' (x := .int .i64 i) rfl rfl, v', h4, happ, _, _, ⟨ho', ?_, ?_, ?_, readyB_push R.t hi hr⟩⟩
  · rw [upd_ne _ _ (by decide)]; exact R.d
  · rw [upd_ne _ _ (by decide), upd_same]
  · rw [upd_same, upd_same, List.map_append]; exact hv'

set_option maxHeartbeats 8000000 in
theorem order29 {h : AH} {n : Net} {cv fv iv ov : Value} (r : NetR h n cv fv iv ov) (s : ShapeOK n) :
    ACall Tryz.prog 49 [.agg (netC n cv fv iv ov).toArray] h (OrdPost n h) := by
  refine ACall.wf ⟨_, Tryz.func49, rfl, by kernel_rfl⟩ fun hwf => ?_
  refine ACall.of_wp 73 [.tmp 2] Tryz.func49 rfl (by kernel_rfl) rfl rfl fun a hn hd ha => ?_
  have hi0 := s.i0; have hi1 := s.i1; have hfl := s.fl; have hil := s.il
  have hbox := boxA 27 h _ r.one
  have hN := NetAt.new (h := h) (n := n) (cv := cv) (fv := fv) (iv := iv) (ov := ov)
  have r1 := r.sub (Sub.new hwf (.row (netC n cv fv iv ov) 27 true))
  have g1 : Gr h (h.new (.row (netC n cv fv iv ov) 27 true)) := (Gr.refl hwf).new _
  have hwF : IntKind.i64.wrap (n.inputs + n.flops.length) = firstE n := wrapI (by omega) (by omega)
  have hF : 0 ≤ firstE n ∧ firstE n ≤ 128 := by unfold firstE; omega
  have hm := fun hh => aMakeSlice_at t23 hh n.insts.length (by omega) (by omega)
  simp (disch := first | omega | decide) only [push_cast, ↓reduceIte, Nat.reduceLT, Nat.reduceEqDiff, reduceCtorEq, Nat.reduceAdd, hn, hd, ha, hbox, faL foN0, faL foN1, faL foN2, faL foN3, faL foN4, hN.l0, hN.l1, hN.l2, hN.l3, hN.l4, hN.la, r1.f.len Tryz.underlying23, r1.i.len Tryz.underlying24, hwF, hm]
  generalize h.new (.row (netC n cv fv iv ov) 27 true) = h1 at hN r1 g1 ⊢
  generalize h.next = B at hN ⊢
  have w1 := g1.wf
  have hrep : List.replicate n.insts.length (Value.bool false) = (doneL n []).map .bool := by rw [doneL_nil]; simp
  rw [hrep]
  have hD0 : (h1.new (.row ((doneL n []).map .bool) 4 true)).get h1.next = some (.row ((doneL n []).map .bool) 4 true) := by rw [AH.new_get, if_pos rfl]
  have R0 : RefI n h1 (h1.new (.row ((doneL n []).map .bool) 4 true)) h1.next (fun _ => h1.next) (fun i => if i = 0 then some (.row ((doneL n []).map .bool) 4 true) else none) [] (.slice none 0 0) := by
    refine ⟨⟨fun i o hi => ?_, fun i j o p hi hj hne => ?_, fun i o hi => Nat.le_refl _, (Gr.refl w1).new _⟩, rfl, rfl, .inl ⟨rfl, rfl, rfl⟩, Topo.empty n⟩
    · by_cases e : i = 0
      · simp only [if_pos e] at hi; cases hi; exact hD0
      · simp only [if_neg e] at hi; cases hi
    · by_cases e : i = 0
      · by_cases e2 : j = 0
        · exact absurd (e.trans e2.symm) hne
        · simp only [if_neg e2] at hj; cases hj
      · simp only [if_neg e] at hi; cases hi
  generalize h1.new (.row ((doneL n []).map .bool) 4 true) = h2 at R0 ⊢
  generalize hDe : h1.next = D at R0 ⊢
  refine AW.loopN 21 [5, 6, 7, 8, 10] (fun m a' h' => ∃ (O : List Int) (fd : Bool) (nm : Nat → Nat) (ob : Nat → Option AObj) (ov : Value), a'.tm 6 = .bool fd ∧ a'.tm 5 = ov ∧ RefI n h1 h' D nm ob O ov ∧ (fd = false → Stuck n O) ∧ m = if fd = true then n.insts.length - O.length + 1 else 0) (n.insts.length + 1) ?_ ?_
  · exact ⟨[], true, _, _, _, by simp (disch := first | omega | decide) only [push_cast, ↓reduceIte, Nat.reduceLT, Nat.reduceEqDiff, reduceCtorEq, Nat.reduceAdd], by simp (disch := first | omega | decide) only [push_cast, ↓reduceIte, Nat.reduceLT, Nat.reduceEqDiff, reduceCtorEq, Nat.reduceAdd], R0, fun e => (nomatch e), by simp⟩
  clear R0
  rintro a1 m a' h' hk kn kd kt ⟨O, fd, nm, ob, ov', h6, h5, R, hst, hm⟩
  cases fd with
  | false =>
    simp (disch := first | omega | decide) only [push_cast, ↓reduceIte, Nat.reduceLT, Nat.reduceEqDiff, reduceCtorEq, Nat.reduceAdd, kn, kd, kt, hn, hd, ha, h6, h5]
    exact ⟨g1.trans R.own.gr, O, R.t, hst rfl, R.o.sl (R.own.get 1)⟩
  | true =>
    rw [if_pos rfl] at hm
    simp (disch := first | omega | decide) only [push_cast, ↓reduceIte, Nat.reduceLT, Nat.reduceEqDiff, reduceCtorEq, Nat.reduceAdd, kn, kd, kt, hn, hd, ha, h6, h5]
    refine AW.keep 21 [5, 6, 7, 8, 10] (a0 := a1) (by simp (disch := decide) only [Kp_put, put_none, hk]) (fun hkc => ?_)
    refine AW.loopN 22 [5, 6, 7, 8, 10] (fun q b h' => ∃ (i : Nat) (O2 : List Int) (fd : Bool) (nm : Nat → Nat) (ob : Nat → Option AObj) (ov : Value), b.tm 7 = .int .i64 i ∧ b.tm 6 = .bool fd ∧ b.tm 5 = ov ∧ i + q = n.insts.length ∧ RefI n h1 h' D nm ob O2 ov ∧
      ((fd = false ∧ O2 = O ∧ ∀ j : Nat, j < i → (j : Int) ∉ O → ∃ p ∈ pinsOf n j, firstE n ≤ p ∧ p - firstE n ∉ O) ∨ (fd = true ∧ O2.length = O.length + 1))) n.insts.length ?_ ?_
    · exact ⟨0, O, false, nm, ob, ov', by simp (disch := first | omega | decide) only [push_cast, ↓reduceIte, Nat.reduceLT, Nat.reduceEqDiff, reduceCtorEq, Nat.reduceAdd], by simp (disch := first | omega | decide) only [push_cast, ↓reduceIte, Nat.reduceLT, Nat.reduceEqDiff, reduceCtorEq, Nat.reduceAdd], by simp (disch := first | omega | decide) only [push_cast, ↓reduceIte, Nat.reduceLT, Nat.reduceEqDiff, reduceCtorEq, Nat.reduceAdd, h5], by omega, R, .inl ⟨rfl, rfl, fun j hj => by omega⟩⟩
    clear R hst nm ob ov' h5 h6
    rintro b1 q b h4 hk2 kn2 kd2 kt2 ⟨i, O2, fd, nm, ob, ov', h7, h6, h5, hiq, R, hcase⟩
    have hk := Kp.trans hkc ⟨kn2, kd2, kt2⟩ (by decide) (by decide)
    have hg4 := R.own.gr
    have hN4 := hN.sub hg4.sub
    have r4 := r1.sub hg4.sub
    have hle := R.le
    have hdone : fd = true → ∃ m', m' < m ∧ m' = n.insts.length - O2.length + 1 := fun e => by
      rcases hcase with ⟨rfl, _⟩ | ⟨_, hl⟩
      · cases e
      · exact ⟨_, by omega, rfl⟩
    simp (disch := first | omega | decide) only [push_cast, ↓reduceIte, Nat.reduceLT, Nat.reduceEqDiff, reduceCtorEq, Nat.reduceAdd, kn2, kd2, kt2, kn, kd, kt, hn, hd, ha, h7, h6, h5, faL foN0, faL foN1, faL foN2, faL foN3, faL foN4, hN4.l0, hN4.l1, hN4.l2, hN4.l3, hN4.l4, hN4.la, r4.i.len Tryz.underlying24]
    refine wantM_of (fun hlt => ?_) (fun hge => ?_)
    case refine_2 =>
      have hi : i = n.insts.length := by simp at hge; omega
      cases fd with
      | true =>
        obtain ⟨m', hm', e⟩ := hdone rfl
        simp (disch := first | omega | decide) only [push_cast, ↓reduceIte, Nat.reduceLT, Nat.reduceEqDiff, reduceCtorEq, Nat.reduceAdd, kn2, kd2, kt2, kn, kd, kt, hn, hd, ha, h7, h6, h5, hge]
        exact ⟨m', hm', (by simp (disch := decide) only [Kp_put, put_none, hk]), O2, true, nm, ob, ov', by simp (disch := first | omega | decide) only [push_cast, ↓reduceIte, Nat.reduceLT, Nat.reduceEqDiff, reduceCtorEq, Nat.reduceAdd, h6], by simp (disch := first | omega | decide) only [push_cast, ↓reduceIte, Nat.reduceLT, Nat.reduceEqDiff, reduceCtorEq, Nat.reduceAdd, h5], R, fun e => (nomatch e), by rw [if_pos rfl]; exact e⟩
      | false =>
        obtain ⟨_, rfl, hw⟩ | ⟨e, _⟩ := hcase
        · simp (disch := first | omega | decide) only [push_cast, ↓reduceIte, Nat.reduceLT, Nat.reduceEqDiff, reduceCtorEq, Nat.reduceAdd, kn2, kd2, kt2, kn, kd, kt, hn, hd, ha, h7, h6, h5, hge]
          exact ⟨0, by omega, (by simp (disch := decide) only [Kp_put, put_none, hk]), O2, false, nm, ob, ov', by simp (disch := first | omega | decide) only [push_cast, ↓reduceIte, Nat.reduceLT, Nat.reduceEqDiff, reduceCtorEq, Nat.reduceAdd, h6], by simp (disch := first | omega | decide) only [push_cast, ↓reduceIte, Nat.reduceLT, Nat.reduceEqDiff, reduceCtorEq, Nat.reduceAdd, h5], R, fun _ j hj => hw j (by omega), by simp⟩
        · cases e
    have hi : i < n.insts.length := by simp at hlt; omega
    cases fd with
    | true =>
      obtain ⟨m', hm', e⟩ := hdone rfl
      simp (disch := first | omega | decide) only [push_cast, ↓reduceIte, Nat.reduceLT, Nat.reduceEqDiff, reduceCtorEq, Nat.reduceAdd, kn2, kd2, kt2, kn, kd, kt, hn, hd, ha, h7, h6, h5, hlt]
      exact ⟨m', hm', (by simp (disch := decide) only [Kp_put, put_none, hk]), O2, true, nm, ob, ov', by simp (disch := first | omega | decide) only [push_cast, ↓reduceIte, Nat.reduceLT, Nat.reduceEqDiff, reduceCtorEq, Nat.reduceAdd, h6], by simp (disch := first | omega | decide) only [push_cast, ↓reduceIte, Nat.reduceLT, Nat.reduceEqDiff, reduceCtorEq, Nat.reduceAdd, h5], R, fun e => (nomatch e), by rw [if_pos rfl]; exact e⟩
    | false =>
      obtain ⟨_, rfl, hw⟩ | ⟨e, _⟩ := hcase
      case inr => cases e
      have hldD := ldRow sl23 false (f := Value.bool) R.get rfl i (by rw [doneL_len]; exact hi)
      rw [doneL_get hi] at hldD
      obtain ⟨cs, ⟨pv, rfl, hpv⟩, -, hcf, hca⟩ := r4.i.get (P := Tryz.prog) hi default
      have hcf1 := hcf 1 _ flI (by decide)
      have hca1 := hca _ _ _ foI1
      have hidx := r4.i.idx (P := Tryz.prog) Tryz.underlying24 infI .i64 i (by omega) (by omega)
      rw [Int.toNat_natCast] at hidx
      have hidxD := idxL sl23 D 0 n.insts.length n.insts.length .i64 i (by omega) (by omega)
      rw [Int.toNat_natCast] at hidxD
      have hp4 := s.pinsOf4 hi
      have hpr : ∀ p ∈ pinsOf n i, -2 ≤ p ∧ p < firstE n + n.insts.length := fun p hp => s.pinOf hi hp
      have hpe : (n.insts.getD i default).pins = pinsOf n i := rfl
      have hwi : IntKind.i64.wrap ((i : Int) + 1) = i + 1 := wrapI (by omega) (by omega)
      rw [hpe] at hpv
      simp (disch := first | omega | decide) only [push_cast, ↓reduceIte, Nat.reduceLT, Nat.reduceEqDiff, reduceCtorEq, Nat.reduceAdd, kn2, kd2, kt2, kn, kd, kt, hn, hd, ha, h7, h6, h5, hlt, hidxD, hldD, faL foN0, faL foN1, faL foN2, faL foN3, faL foN4, hN4.l0, hN4.l1, hN4.l2, hN4.l3, hN4.l4, hN4.la, hidx, hca1, hcf1, hpv.lenA Tryz.underlying25]
      refine AW.keep 22 [5, 6, 7, 8, 10] (a0 := b1) (by simp (disch := decide) only [Kp_put, put_none, hk2]) (fun hkc2 => ?_)
      refine AW.mono (Q := fun ex c h' => ex = .exit 4 ∧ h' = h4 ∧ c.n = 73 ∧ c.df = [] ∧ Kp 22 [5, 6, 7, 8, 10] b1 c ∧ c.tm 4 = .slice (some ⟨D, 0, none⟩) n.insts.length n.insts.length ∧ c.tm 5 = ov' ∧ c.tm 6 = .bool false ∧ c.tm 7 = .int .i64 i ∧ c.tm 8 = .bool (readyB n O2 i)) ?_ ?_
      · rintro _ c h5' ⟨rfl, rfl, cn, cd, ck, c4, c5, c6, c7, c8⟩
        have hk := ck
        simp (disch := first | omega | decide) only [push_cast, ↓reduceIte, Nat.reduceLT, Nat.reduceEqDiff, reduceCtorEq, Nat.reduceAdd, cn, cd, c4, c5, c6, c7, c8]
        refine condV_of (fun hr => ?_) (fun hr => ?_)
        · obtain ⟨k1, f1, f2, v', k2, f3, nm', ob', R'⟩ := R.push w1 hil hi hr
          simp (disch := first | omega | decide) only [push_cast, ↓reduceIte, Nat.reduceLT, Nat.reduceEqDiff, reduceCtorEq, Nat.reduceAdd, cn, cd, c4, c5, c6, c7, c8, hidxD, f1, f2, f3, hwi]
          exact ⟨q - 1, by omega, (by simp (disch := decide) only [Kp_put, put_none, hk]), i + 1, _, true, nm', ob', v', by simp (disch := first | omega | decide) only [push_cast, ↓reduceIte, Nat.reduceLT, Nat.reduceEqDiff, reduceCtorEq, Nat.reduceAdd], by simp (disch := first | omega | decide) only [push_cast, ↓reduceIte, Nat.reduceLT, Nat.reduceEqDiff, reduceCtorEq, Nat.reduceAdd], by simp (disch := first | omega | decide) only [push_cast, ↓reduceIte, Nat.reduceLT, Nat.reduceEqDiff, reduceCtorEq, Nat.reduceAdd], by omega, R', .inr ⟨rfl, by simp⟩⟩
        · simp (disch := first | omega | decide) only [push_cast, ↓reduceIte, Nat.reduceLT, Nat.reduceEqDiff, reduceCtorEq, Nat.reduceAdd, cn, cd, c4, c5, c6, c7, c8, hwi]
          exact ⟨q - 1, by omega, (by simp (disch := decide) only [Kp_put, put_none, hk]), i + 1, _, false, nm, ob, ov', by simp (disch := first | omega | decide) only [push_cast, ↓reduceIte, Nat.reduceLT, Nat.reduceEqDiff, reduceCtorEq, Nat.reduceAdd], by simp (disch := first | omega | decide) only [push_cast, ↓reduceIte, Nat.reduceLT, Nat.reduceEqDiff, reduceCtorEq, Nat.reduceAdd, c6], by simp (disch := first | omega | decide) only [push_cast, ↓reduceIte, Nat.reduceLT, Nat.reduceEqDiff, reduceCtorEq, Nat.reduceAdd, c5], by omega, R, .inl ⟨rfl, rfl, fun j hj hO => by
            by_cases hji : j = i
            · subst hji; exact readyB_wait hr hO
            · exact hw j (by omega) hO⟩⟩
      refine AW.loopN 45 [8, 10] (fun q2 c h' => h' = h4 ∧ ∃ (j : Nat) (rb : Bool), c.tm 45 = .int .i64 j ∧ j + q2 = (pinsOf n i).length ∧ c.tm 8 = .bool rb ∧ (rb && ((pinsOf n i).drop j).all (pinOK n O2)) = readyB n O2 i) (pinsOf n i).length ?_ ?_
      · exact ⟨rfl, 0, !decide ((i : Int) ∈ O2), by simp (disch := first | omega | decide) only [push_cast, ↓reduceIte, Nat.reduceLT, Nat.reduceEqDiff, reduceCtorEq, Nat.reduceAdd], by omega, by simp (disch := first | omega | decide) only [push_cast, ↓reduceIte, Nat.reduceLT, Nat.reduceEqDiff, reduceCtorEq, Nat.reduceAdd], rfl⟩
      rintro c1 q2 c h5' hk3 kn3 kd3 kt3 ⟨rfl, j, rb, h45, hjq, h8, hgo⟩
      have hkc3 := Kp.trans hkc2 ⟨kn3, kd3, kt3⟩ (by decide) (by decide)
      simp (disch := first | omega | decide) only [push_cast, ↓reduceIte, Nat.reduceLT, Nat.reduceEqDiff, reduceCtorEq, Nat.reduceAdd, kn3, kd3, kt3, kn2, kd2, kt2, kn, kd, kt, hn, hd, ha, h45, h8]
      refine condV_of (fun hlt3 => ?_) (fun hge3 => ?_)
      · have hj : j < (pinsOf n i).length := by have := hlt3; simp at this; omega
        have hidxp := hpv.idxI sl22 .i64 j (by omega) (by omega)
        have hldp := hpv.ldI sl22 j (by omega)
        rw [Int.toNat_natCast] at hidxp
        have hr := hpr _ (getD_mem hj 0)
        rw [all_drop hj 0] at hgo
        have hw3 : IntKind.i64.wrap ((j : Int) + 1) = j + 1 := wrapI (by omega) (by omega)
        generalize (pinsOf n i).getD j 0 = p at *
        cases rb with
        | false =>
          simp (disch := first | omega | decide) only [push_cast, ↓reduceIte, Nat.reduceLT, Nat.reduceEqDiff, reduceCtorEq, Nat.reduceAdd, kn3, kd3, kt3, kn2, kd2, kt2, kn, kd, kt, hn, hd, ha, h45, h8, hidxp, hldp, hw3]
          exact ⟨q2 - 1, by omega, by simp (disch := decide) only [Kp_put, put_none, hk3], rfl, j + 1, false, by simp (disch := first | omega | decide) only [push_cast, ↓reduceIte, Nat.reduceLT, Nat.reduceEqDiff, reduceCtorEq, Nat.reduceAdd], by omega, by simp (disch := first | omega | decide) only [push_cast, ↓reduceIte, Nat.reduceLT, Nat.reduceEqDiff, reduceCtorEq, Nat.reduceAdd], by rw [← hgo]; rfl⟩
        | true =>
          by_cases hpf : p < firstE n
          · rw [pinOK, decide_eq_true hpf, Bool.true_or, Bool.true_and] at hgo
            simp (disch := first | omega | decide) only [push_cast, ↓reduceIte, Nat.reduceLT, Nat.reduceEqDiff, reduceCtorEq, Nat.reduceAdd, kn3, kd3, kt3, kn2, kd2, kt2, kn, kd, kt, hn, hd, ha, h45, h8, hidxp, hldp, hw3, hpf]
            exact ⟨q2 - 1, by omega, by simp (disch := decide) only [Kp_put, put_none, hk3], rfl, j + 1, true, by simp (disch := first | omega | decide) only [push_cast, ↓reduceIte, Nat.reduceLT, Nat.reduceEqDiff, reduceCtorEq, Nat.reduceAdd], by omega, by simp (disch := first | omega | decide) only [push_cast, ↓reduceIte, Nat.reduceLT, Nat.reduceEqDiff, reduceCtorEq, Nat.reduceAdd], hgo⟩
          · have hsub : IntKind.i64.wrap (p - firstE n) = p - firstE n := wrapI (by omega) (by omega)
            have hrn : (p - firstE n).toNat < n.insts.length := by omega
            have hldq := ldRow sl23 false (f := Value.bool) R.get rfl (p - firstE n).toNat (by rw [doneL_len]; exact hrn)
            rw [doneL_get hrn, Int.toNat_of_nonneg (by omega)] at hldq
            have hidxq := idxL sl23 D 0 n.insts.length n.insts.length .i64 (p - firstE n) (by omega) (by omega)
            rw [pinOK, decide_eq_false hpf, Bool.false_or, Bool.true_and] at hgo
            simp (disch := first | omega | decide) only [push_cast, ↓reduceIte, Nat.reduceLT, Nat.reduceEqDiff, reduceCtorEq, Nat.reduceAdd, kn3, kd3, kt3, kn2, kd2, kt2, kn, kd, kt, hn, hd, ha, h45, h8, hidxp, hldp, hw3, hpf, hsub, hidxq, hldq]
            exact ⟨q2 - 1, by omega, by simp (disch := decide) only [Kp_put, put_none, hk3], rfl, j + 1, decide (p - firstE n ∈ O2), by simp (disch := first | omega | decide) only [push_cast, ↓reduceIte, Nat.reduceLT, Nat.reduceEqDiff, reduceCtorEq, Nat.reduceAdd], by omega, by simp (disch := first | omega | decide) only [push_cast, ↓reduceIte, Nat.reduceLT, Nat.reduceEqDiff, reduceCtorEq, Nat.reduceAdd], hgo⟩
      · have hj : (pinsOf n i).length ≤ j := by have := hge3; simp at this; omega
        rw [List.drop_of_length_le hj, List.all_nil, Bool.and_true] at hgo
        subst hgo
        simp (disch := first | omega | decide) only [push_cast, ↓reduceIte, Nat.reduceLT, Nat.reduceEqDiff, reduceCtorEq, Nat.reduceAdd, kn3, kd3, kt3, kn2, kd2, kt2, kn, kd, kt, hn, hd, ha, h45, h8, h5, h6, h7]
        exact (by simp (disch := decide) only [Kp_put, put_none, hkc3])

/-! ### netlabref29.Check -/

theorem check29 {h : AH} {n : Net} {cv fv iv ov : Value} (r : NetR h n cv fv iv ov) (ok : NetOK n) :
    ACall Tryz.prog 21 [.agg (netC n cv fv iv ov).toArray] h (fun v h' => v = .int .i64 (netE n) ∧ h' = h) := by
  refine ACall.viewed rfl ?_
  replace r := r.view
  generalize AH.view h = h at r
  refine ACall.wf ⟨_, Tryz.func21, rfl, by kernel_rfl⟩ fun hwf => ?_
  refine ACall.of_wp 18 [.tmp 2] Tryz.func21 rfl (by kernel_rfl) rfl rfl fun a hn hd ha => ?_
  have hbox := boxA 27 h _ r.one
  have hN := NetAt.new (h := h) (n := n) (cv := cv) (fv := fv) (iv := iv) (ov := ov)
  have r1 := r.sub (Sub.new hwf (.row (netC n cv fv iv ov) 27 true))
  have w1 := hwf.new (.row (netC n cv fv iv ov) 27 true)
  simp (disch := first | omega | decide) only [push_cast, ↓reduceIte, Nat.reduceLT, Nat.reduceEqDiff, reduceCtorEq, Nat.reduceAdd, hn, hd, ha, hbox, faL foN0, faL foN1, faL foN2, faL foN3, faL foN4, hN.l0, hN.l1, hN.l2, hN.l3, hN.l4, hN.la]
  generalize h.new (.row (netC n cv fv iv ov) 27 true) = h1 at hN r1 w1 ⊢
  generalize h.next = B at hN ⊢
  refine ACall.mono ?_ (shape29 r1 ok)
  rintro _ h1 ⟨rfl, rfl⟩
  simp (disch := first | omega | decide) only [push_cast, ↓reduceIte, Nat.reduceLT, Nat.reduceEqDiff, reduceCtorEq, Nat.reduceAdd, hn, hd, ha]
  refine AW.drawP (.take 0 [10, 9, 8, 7, 6, 5, 4, 3, 2, 1] (.take 1 [10, 9, 8, 7, 6, 5, 4, 3, 2] (.take 2 [10, 9, 8, 7, 6, 5, 4, 3] (.take 3 [10, 9, 5, 4] (.take 6 [10, 9, 8, 7] (.watch 7 [10, 9, 8] (.watch 8 [10, 9] (.only 4 (.take 5 [10, 9] (.take 9 [10] (.take 10 [] .done))))))))))) [(0, 0), (0, 1), (0, 2), (0, 3), (0, 6), (1, 7), (1, 8), (2, 4), (0, 5), (0, 9), (0, 10)] mixed (by kernel_rfl) (by kernel_rfl) ?_
  by_cases e : shapeE n = 0
  · have s := ShapeOK.of e
    simp (disch := first | omega | decide) only [push_cast, ↓reduceIte, Nat.reduceLT, Nat.reduceEqDiff, reduceCtorEq, Nat.reduceAdd, hn, hd, ha, e, faL foN0, faL foN1, faL foN2, faL foN3, faL foN4, hN.l0, hN.l1, hN.l2, hN.l3, hN.l4, hN.la, r1.i.len Tryz.underlying24]
    refine ACall.mono ?_ (order29 r1 s)
    rintro rv h2 ⟨hg, O, ht, hst, hs⟩
    have hle := nodup_le ht.nodup ht.range
    have hN2 := hN.sub hg.sub
    simp (disch := first | omega | decide) only [push_cast, ↓reduceIte, Nat.reduceLT, Nat.reduceEqDiff, reduceCtorEq, Nat.reduceAdd, hn, hd, ha, e, faL foN0, faL foN1, faL foN2, faL foN3, faL foN4, hN2.l0, hN2.l1, hN2.l2, hN2.l3, hN2.l4, hN2.la, r1.i.len Tryz.underlying24, hs.lenA Tryz.underlying25]
    refine condV_of (fun hlt => ?_) (fun hge => ?_)
    · have hl : O.length < n.insts.length := by simpa using hlt
      simp (disch := first | omega | decide) only [push_cast, ↓reduceIte, Nat.reduceLT, Nat.reduceEqDiff, reduceCtorEq, Nat.reduceAdd, hn, hd, ha, netE, ne_eq, e, stuck_not_full hst ht hl, not_true_eq_false]
    · have hl : ¬ O.length < n.insts.length := by simpa using hge
      have hf : Full n := ⟨O, ht, by omega⟩
      simp (disch := first | omega | decide) only [push_cast, ↓reduceIte, Nat.reduceLT, Nat.reduceEqDiff, reduceCtorEq, Nat.reduceAdd, hn, hd, ha, netE, ne_eq, e, hf, not_true_eq_false]
  · simp (disch := first | omega | decide) only [push_cast, ↓reduceIte, Nat.reduceLT, Nat.reduceEqDiff, reduceCtorEq, Nat.reduceAdd, hn, hd, ha, e, faL foN0, faL foN1, faL foN2, faL foN3, faL foN4, hN.l0, hN.l1, hN.l2, hN.l3, hN.l4, hN.la, r1.i.len Tryz.underlying24]
    simp (disch := first | omega | decide) only [push_cast, ↓reduceIte, Nat.reduceLT, Nat.reduceEqDiff, reduceCtorEq, Nat.reduceAdd, hn, hd, ha, netE, ne_eq, e]

end Go.Ab.S1

namespace Go.Ab.S1
open Go.Proofs
open Go.ChangeShapes Go.WideShapes Go.ChangeAt Go.RowKit

theorem five {α : Type} {cs : List α} (h : cs.length = 5) : ∃ a b c d e, cs = [a, b, c, d, e] := by
  match cs, h with
  | [a, b, c, d, e], _ => exact ⟨a, b, c, d, e, rfl⟩
theorem two {α : Type} {cs : List α} (h : cs.length = 2) : ∃ a b, cs = [a, b] := by
  match cs, h with
  | [a, b], _ => exact ⟨a, b, rfl⟩

section
variable {H : Type} {enc : TypeId × Value → H} {W : World} {base : Nat} {held : Bool}

theorem co9 : Tryz.prog.cellsOf 9 = 1 := by kernel_rfl
theorem co3 : Tryz.prog.cellsOf 3 = 1 := by kernel_rfl
theorem co2 : Tryz.prog.cellsOf 2 = 1 := by kernel_rfl
theorem co5 : Tryz.prog.cellsOf 5 = 1 := by kernel_rfl
theorem coU : Tryz.prog.cellsOf 37 = 1 := by kernel_rfl
theorem coL : Tryz.prog.cellsOf 38 = 1 := by kernel_rfl
theorem coI : Tryz.prog.cellsOf 25 = 1 := by kernel_rfl
theorem coCs : Tryz.prog.cellsOf 22 = 1 := by kernel_rfl
theorem coFs : Tryz.prog.cellsOf 23 = 1 := by kernel_rfl
theorem coIs : Tryz.prog.cellsOf 24 = 1 := by kernel_rfl
theorem coC : Tryz.prog.cellsOf 40 = 5 := by kernel_rfl
theorem coF : Tryz.prog.cellsOf 65 = 2 := by kernel_rfl
theorem coN : Tryz.prog.cellsOf 36 = 2 := by kernel_rfl
theorem coNet : Tryz.prog.cellsOf 27 = 5 := by kernel_rfl
theorem bo3 : Tryz.prog.bytesOf 3 = 8 := by kernel_rfl
theorem bo2 : Tryz.prog.bytesOf 2 = 8 := by kernel_rfl
theorem boC : Tryz.prog.bytesOf 40 = 64 := by kernel_rfl
theorem boF : Tryz.prog.bytesOf 65 = 16 := by kernel_rfl
theorem boN : Tryz.prog.bytesOf 36 = 32 := by kernel_rfl

theorem openCell : Opens enc Tryz.prog W base (fun _ => true) held 40 cellL CellOK := by
  intro fuel cs y hd hw
  obtain ⟨xs, m, _, rfl, hlen, hxl, hf⟩ := DataW.trod_struct Tryz.underlying40 hd
  rw [coC] at hlen
  obtain ⟨a, b, c, d, e, rfl⟩ := five hlen
  have hx : ∀ i, i < 5 → ∃ x, xs[i]? = some x := fun i hi => ⟨xs[i]'(by rw [hxl]; exact hi), List.getElem?_eq_getElem _⟩
  obtain ⟨x0, e0⟩ := hx 0 (by decide)
  obtain ⟨x1, e1⟩ := hx 1 (by decide)
  obtain ⟨x2, e2⟩ := hx 2 (by decide)
  obtain ⟨x3, e3⟩ := hx 3 (by decide)
  obtain ⟨x4, e4⟩ := hx 4 (by decide)
  have f0 := (hf 0 _ rfl).trans e0
  have f1 := (hf 1 _ rfl).trans e1
  have f2 := (hf 2 _ rfl).trans e2
  have f3 := (hf 3 _ rfl).trans e3
  have f4 := (hf 4 _ rfl).trans e4
  simp only [List.getElem_toArray, List.getElem_cons_zero, List.getElem_cons_succ] at f0 f1 f2 f3 f4
  simp only [co9, co3, coU, co2, coL, List.drop_zero, List.drop_succ_cons, List.take_succ_cons, List.take_zero] at f0 f1 f2 f3 f4
  obtain ⟨s, h0, _⟩ := DataW.trod_string Tryz.underlying9 f0
  obtain ⟨n1, h1, _⟩ := DataW.trod_int Tryz.underlying3 f1
  obtain ⟨n2, h2, _, wf2⟩ := DataW.trod_int Tryz.underlying37 f2
  obtain ⟨n3, h3, _⟩ := DataW.trod_int Tryz.underlying2 f3
  cases h0; cases h1; cases h2; cases h3
  have hwe : DataW.weights Tryz.prog 40 (.agg (xs.map (·.1))) = DataW.weightsEach Tryz.prog [9, 3, 37, 2, 38] (xs.map (·.1)) := by
    rw [DataW.weights, Tryz.underlying40]; rfl
  obtain ⟨v, zs, hv, hz, hb, hbr⟩ := openRow (L := intL .i64) Tryz.underlying38 co2 (openInt Tryz.underlying2) f4 (fun n hn => hw n (by
    rw [hwe]; exact mem_weightsEach (i := 4) (t := 38) (d := x4.1) rfl (by rw [List.getElem?_map, e4]; rfl) hn))
  cases hv
  rw [bo2] at hb
  have hwf2 : 0 ≤ n2 ∧ n2 < 18446744073709551616 := by
    simp [Lit.wf, IntKind.min, IntKind.max, IntKind.signed, IntKind.bits] at wf2
    omega
  refine ⟨⟨s, n1, n2, n3, zs⟩, ⟨hwf2.1, hwf2.2, by simp only [reachBytes] at hb; show zs.length ≤ _; omega⟩, fun ρ h hr hro => ?_⟩
  obtain ⟨ρ', h', u, g, hvr, hrow⟩ := hbr ρ h hr hro
  exact ⟨ρ', h', [.string s, .int .i64 n1, .int .u64 n2, .int .i64 n3, u], g, (LR.single hvr).cons (.int _ _) |>.cons (.int _ _) |>.cons (.int _ _) |>.cons (.string _), u, rfl, hrow.ints⟩

theorem openInst : Opens enc Tryz.prog W base (fun _ => true) held 36 instL (fun x => x.pins.length ≤ 4611686018427387904) := by
  intro fuel cs y hd hw
  obtain ⟨xs, m, _, rfl, hlen, hxl, hf⟩ := DataW.trod_struct Tryz.underlying36 hd
  rw [coN] at hlen
  obtain ⟨a, b, rfl⟩ := two hlen
  have hx : ∀ i, i < 2 → ∃ x, xs[i]? = some x := fun i hi => ⟨xs[i]'(by rw [hxl]; exact hi), List.getElem?_eq_getElem _⟩
  obtain ⟨x0, e0⟩ := hx 0 (by decide)
  obtain ⟨x1, e1⟩ := hx 1 (by decide)
  have f0 := (hf 0 _ rfl).trans e0
  have f1 := (hf 1 _ rfl).trans e1
  simp only [List.getElem_toArray, List.getElem_cons_zero, List.getElem_cons_succ] at f0 f1
  simp only [co3, coI, List.drop_zero, List.drop_succ_cons, List.take_succ_cons, List.take_zero] at f0 f1
  obtain ⟨n1, h1, _⟩ := DataW.trod_int Tryz.underlying3 f0
  cases h1
  have hwe : DataW.weights Tryz.prog 36 (.agg (xs.map (·.1))) = DataW.weightsEach Tryz.prog [3, 25] (xs.map (·.1)) := by
    rw [DataW.weights, Tryz.underlying36]; rfl
  obtain ⟨v, zs, hv, hz, hb, hbr⟩ := openRow (L := intL .i64) Tryz.underlying25 co3 (openInt Tryz.underlying3) f1 (fun n hn => hw n (by
    rw [hwe]; exact mem_weightsEach (i := 1) (t := 25) (d := x1.1) rfl (by rw [List.getElem?_map, e1]; rfl) hn))
  cases hv
  rw [bo3] at hb
  refine ⟨⟨n1, zs⟩, by simp only [reachBytes] at hb; show zs.length ≤ _; omega, fun ρ h hr hro => ?_⟩
  obtain ⟨ρ', h', u, g, hvr, hrow⟩ := hbr ρ h hr hro
  exact ⟨ρ', h', [.int .i64 n1, u], g, (LR.single hvr).cons (.int _ _), u, rfl, hrow.ints⟩

theorem openFlop : Opens enc Tryz.prog W base (fun _ => true) held 65 flopL (fun _ => True) := by
  intro fuel cs y hd hw
  obtain ⟨xs, m, _, rfl, hlen, hxl, hf⟩ := DataW.trod_struct Tryz.underlying65 hd
  rw [coF] at hlen
  obtain ⟨a, b, rfl⟩ := two hlen
  have hx : ∀ i, i < 2 → ∃ x, xs[i]? = some x := fun i hi => ⟨xs[i]'(by rw [hxl]; exact hi), List.getElem?_eq_getElem _⟩
  obtain ⟨x0, e0⟩ := hx 0 (by decide)
  obtain ⟨x1, e1⟩ := hx 1 (by decide)
  have f0 := (hf 0 _ rfl).trans e0
  have f1 := (hf 1 _ rfl).trans e1
  simp only [List.getElem_toArray, List.getElem_cons_zero, List.getElem_cons_succ] at f0 f1
  simp only [co3, co5, List.drop_zero, List.drop_succ_cons, List.take_succ_cons, List.take_zero] at f0 f1
  obtain ⟨n1, h1, _⟩ := DataW.trod_int Tryz.underlying3 f0
  obtain ⟨n2, h2, _⟩ := DataW.trod_int Tryz.underlying5 f1
  cases h1; cases h2
  exact ⟨⟨n1, n2⟩, trivial, fun ρ h hr hro => ⟨ρ, h, [.int .i64 n1, .int .u8 n2], GrA.refl hr hro, (LR.single (.int _ _)).cons (.int _ _), rfl⟩⟩

theorem openNet {v : Value} {d : DataW H} {ps : List MemPlace} (hagg : ∃ cs, v = .agg cs) (hd : DataW.Trod enc Tryz.prog W base (fun _ => true) held 27 v d ps) (hw : ∀ n ∈ DataW.weights Tryz.prog 27 d, n ≤ reachBytes) :
    ∃ n : Net, NetOK n ∧ n.cells.length ≤ 4611686018427387904 ∧ ∀ ρ h, HR ρ h W → AllRO h → ∃ ρ' h' cv fv iv ov, GrA W ρ h ρ' h' ∧ VR ρ' (.agg (netC n cv fv iv ov).toArray) v ∧ NetR h' n cv fv iv ov := by
  obtain ⟨cs, rfl⟩ := hagg
  obtain ⟨fuel, hd⟩ := hd
  have hcs : (Value.agg cs).cells.toList = cs.toList := rfl
  rw [hcs] at hd
  obtain ⟨xs, m, _, hy, hlen, hxl, hf⟩ := DataW.trod_struct Tryz.underlying27 hd
  cases hy
  rw [coNet] at hlen
  obtain ⟨a, b, c, e, f, hl⟩ := five hlen
  rw [hl] at hf
  have hx : ∀ i, i < 5 → ∃ x, xs[i]? = some x := fun i hi => ⟨xs[i]'(by rw [hxl]; exact hi), List.getElem?_eq_getElem _⟩
  obtain ⟨x0, e0⟩ := hx 0 (by decide)
  obtain ⟨x1, e1⟩ := hx 1 (by decide)
  obtain ⟨x2, e2⟩ := hx 2 (by decide)
  obtain ⟨x3, e3⟩ := hx 3 (by decide)
  obtain ⟨x4, e4⟩ := hx 4 (by decide)
  have f0 := (hf 0 _ rfl).trans e0
  have f1 := (hf 1 _ rfl).trans e1
  have f2 := (hf 2 _ rfl).trans e2
  have f3 := (hf 3 _ rfl).trans e3
  have f4 := (hf 4 _ rfl).trans e4
  simp only [List.getElem_toArray, List.getElem_cons_zero, List.getElem_cons_succ] at f0 f1 f2 f3 f4
  simp only [coCs, co3, coFs, coIs, coI, List.drop_zero, List.drop_succ_cons, List.take_succ_cons, List.take_zero] at f0 f1 f2 f3 f4
  have hwe : DataW.weights Tryz.prog 27 (.agg (xs.map (·.1))) = DataW.weightsEach Tryz.prog [22, 3, 23, 24, 25] (xs.map (·.1)) := by
    rw [DataW.weights, Tryz.underlying27]; rfl
  rw [hwe] at hw
  obtain ⟨n1, h1, _⟩ := DataW.trod_int Tryz.underlying3 f1
  obtain ⟨v0, l0, hv0, good0, hb0, br0⟩ := openRow Tryz.underlying22 coC openCell f0 (fun n hn => hw n (mem_weightsEach (i := 0) (t := 22) (d := x0.1) rfl (by rw [List.getElem?_map, e0]; rfl) hn))
  obtain ⟨v2, l2, hv2, good2, hb2, br2⟩ := openRow Tryz.underlying23 coF openFlop f2 (fun n hn => hw n (mem_weightsEach (i := 2) (t := 23) (d := x2.1) rfl (by rw [List.getElem?_map, e2]; rfl) hn))
  obtain ⟨v3, l3, hv3, good3, hb3, br3⟩ := openRow Tryz.underlying24 coN openInst f3 (fun n hn => hw n (mem_weightsEach (i := 3) (t := 24) (d := x3.1) rfl (by rw [List.getElem?_map, e3]; rfl) hn))
  obtain ⟨v4, l4, hv4, good4, hb4, br4⟩ := openRow (L := intL .i64) Tryz.underlying25 co3 (openInt Tryz.underlying3) f4 (fun n hn => hw n (mem_weightsEach (i := 4) (t := 25) (d := x4.1) rfl (by rw [List.getElem?_map, e4]; rfl) hn))
  cases h1; cases hv0; cases hv2; cases hv3; cases hv4
  rw [boC] at hb0
  rw [boF] at hb2
  rw [boN] at hb3
  rw [bo3] at hb4
  simp only [reachBytes] at hb0 hb2 hb3 hb4
  refine ⟨⟨l0, n1, l2, l3, l4⟩, ⟨good0, good3, ?_, ?_, ?_⟩, ?_, fun ρ h hr hro => ?_⟩
  · show l2.length ≤ _; omega
  · show l3.length ≤ _; omega
  · show l4.length ≤ _; omega
  · show l0.length ≤ _; omega
  obtain ⟨ρ0, k0, u0, g0, vr0, r0⟩ := br0 ρ h hr hro
  obtain ⟨ρ2, k2, u2, g2, vr2, r2⟩ := br2 ρ0 k0 g0.hr g0.ro
  obtain ⟨ρ3, k3, u3, g3, vr3, r3⟩ := br3 ρ2 k2 g2.hr g2.ro
  obtain ⟨ρ4, k4, u4, g4, vr4, r4⟩ := br4 ρ3 k3 g3.hr g3.ro
  refine ⟨ρ4, k4, u0, u2, u3, u4, ((g0.trans g2).trans g3).trans g4, ?_, ⟨((r0.sub g2.sub).sub g3.sub).sub g4.sub, (r2.sub g3.sub).sub g4.sub, r3.sub g4.sub, r4.ints⟩⟩
  have hl' : cs = [a, .int .i64 n1, c, e, f].toArray := by rw [← hl]
  rw [hl']
  exact LR.toAgg ((LR.single vr4).cons (vr3.mono g4.le) |>.cons ((vr2.mono g3.le).mono g4.le) |>.cons (.int _ _) |>.cons (((vr0.mono g2.le).mono g3.le).mono g4.le))

/-- A slice of ints, as an argument. -/
theorem openInts {v : Value} {d : DataW H} {ps : List MemPlace} (hone : v.cells.toList = [v]) (hd : DataW.Trod enc Tryz.prog W base (fun _ => true) held 25 v d ps) (hw : ∀ n ∈ DataW.weights Tryz.prog 25 d, n ≤ reachBytes) :
    ∃ zs : List Int, zs.length ≤ 17592186043904 ∧ ∀ ρ h, HR ρ h W → AllRO h → ∃ ρ' h' u, GrA W ρ h ρ' h' ∧ VR ρ' u v ∧ SlOf h' u (zs.map (.int .i64)) := by
  obtain ⟨fuel, hd⟩ := hd
  obtain ⟨v', zs, hv, _, hb, br⟩ := openRow (L := intL .i64) Tryz.underlying25 co3 (openInt Tryz.underlying3) hd hw
  rw [hone] at hv
  cases hv
  rw [bo3] at hb
  simp only [reachBytes] at hb
  refine ⟨zs, by omega, fun ρ h hr hro => ?_⟩
  obtain ⟨ρ', h', u, g, vr, r⟩ := br ρ h hr hro
  exact ⟨ρ', h', u, g, vr, r.ints⟩
end

end Go.Ab.S1
