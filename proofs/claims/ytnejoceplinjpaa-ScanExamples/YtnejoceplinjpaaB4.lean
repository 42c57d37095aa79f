/- scan.Insert, plainly; the netlist that it builds, as its own blocks. scan.Insert: the loops over the cells and over the instances. scan.Insert: the loop over the order. scan.Insert. Own layer 'Ab': a row's arguments that hold slices of structs, as the abstract heap holds them. Own layer 'Ab': zeros appended to nil; an append of any slice. A slice of one's own that holds truths. Slices of truths of one's own: what is appended to them. scan.Load and .Unload, whose results are one's own. What Load and Unload hand back is one thing. Slices of slices of truths: rows, one's own, copies, equality. scan.Pattern. scan.Observe. Own layer 'Ab': a region that draws its order, whose operations but the last one only lay blocks: every order at once; a region in parts. netlabref21.Same, netlabref28.Same, netlabref29.Same: true of equals. netlabref29.Same: true of equals. The netlists of the chapter's examples; what Insert and Pattern say of them, plainly. Own layer 'Ab': copies into a new slice; an element's field written over; what type a block is of. Own layer 'Ab': a row that a closed run has laid, read beside another heap. Own layer 'Ab': a region that draws its order, all of whose operations only lay blocks; slices of several structs, laid. -/
import Derived.Test.YtnejoceplinjpaaB3
import Derived.ChangeArms
import Derived.DataReads
set_option linter.unusedSimpArgs false
set_option linter.unusedVariables false
namespace Go.Ab.S1
open Go.Proofs
set_option linter.unusedSimpArgs false
set_option linter.unusedVariables false
set_option maxRecDepth 100000
set_option maxHeartbeats 4000000
attribute [local push_cast] wpA_skip wpA_ret wpA_exit wpA_seq wpA_block wpA_cond2 andK_true wpA_region wpA_draw wpA_loop thenQ_normal thenQ_ret thenQ_exit blockQ_normal blockQ_ret blockQ_exit condV_true condV_false opsM_nil opsM_cons2 okM_true wantM_true wantM_false stepM seqM_cons2 seqM_nil2 okS_true wantS_true wantS_false stepS skipS okB Keeps_nil contK_app List.zip_cons_cons List.zip_nil_left List.zip_nil_right Op.operands Call.operands Array.toList_append List.append_nil List.nil_append List.all_cons List.all_nil cOK plain put_n put_tm put_none put_df ev_tmp ev_const ev_func wanted_none wanted_some callR_func dop ex_some1 aBuiltin aBin intBin aUn Option.map_some Bool.and_true Bool.true_and Bool.and_self List.map_cons List.map_nil List.toList_toArray List.getElem?_toArray List.getElem?_cons_zero List.getElem?_cons_succ Option.getD_some Option.getD_none Bool.false_eq_true eq_self_iff_true decide_true decide_false List.cons_append aExtract resL resV List.getD_cons_zero List.getD_cons_succ List.getD_nil Nat.succ_ne_self g1 g2 yieldedA2 isB_bool isB_undef g3 Option.bind_some Option.bind_none bne_self_eq_false beq_self_eq_true Bool.not_true Bool.not_false Int.toNat_natCast List.length_map List.mem_cons List.not_mem_nil or_false not_false_eq_true decide_not Bool.not_not bodyR_ret2 bodyR_normal2 closeMarks_nil ex_some0 Nat.zero_add Nat.add_zero ieq ine List.map_toArray Option.toArray_none Option.toArray_some oev Keeps_cons Still_eq selL wpX_skip wpX_ret wpX_exit wpX_seq wpX_block wpX_cond wpX_region wpX_draw wpX_loop List.take_succ_cons List.take_zero List.drop_succ_cons List.drop_zero Int.zero_add Int.add_zero aNil if_true if_false true_and and_true

/-! ### The code inside a block -/

def blkC (i : Nat) : Code → Option Code
  | .block j c => if i = j then some c else blkC i c
  | .seq x y => match blkC i x with
    | some c => some c
    | none => blkC i y
  | .cond _ x y => match blkC i x with
    | some c => some c
    | none => blkC i y
  | .loop c => blkC i c
  | _ => none

def bodyBlk (f : Func) (i : Nat) : Code := match f.body with
  | some c => (blkC i c).getD .skip
  | none => .skip

theorem AW.at {P : Program} {rd : Option Nat} {Q : Exit → AAct → AH → Prop} {a : AAct} {h : AH} {c c' : Code} (e : c = c') (hx : AW P rd c' Q a h) : AW P rd c Q a h := e ▸ hx

/-! ### What Insert makes, plainly -/

def pick3 (n : Net) : Int × List Int := (matchGo 202 3 0 n.cells).headD (0, [])
def instS (n : Net) (x : Inst) : Inst := ⟨x.cell, x.pins.map (shiftE n)⟩
def insBase (n : Net) : Net := ⟨n.cells, n.inputs + 2, n.flops, n.insts.map (instS n), n.outs.map (shiftE n)⟩
def insNets (n : Net) (s : Int × Net) (i : Int) : List Int := [shiftE n (n.flops.getD i.toNat default).next, s.1, n.inputs]
def insFlop (n : Net) (m : Net) (i : Int) : Flop := ⟨n.inputs + 2 + m.flops.length + m.insts.length, (m.flops.getD i.toNat default).init⟩
def insInst (n : Net) (s : Int × Net) (i : Int) : Inst := ⟨(pick3 n).1, (pick3 n).2.map fun k => (insNets n s i).getD k.toNat 0⟩
def insStep (n : Net) (s : Int × Net) (i : Int) : Int × Net :=
  (n.inputs + 2 + i, { s.2 with flops := s.2.flops.set i.toNat (insFlop n s.2 i), insts := s.2.insts ++ [insInst n s i] })
def insGo (n : Net) (ord : List Int) : Int × Net := ord.foldl (insStep n) (n.inputs + 1, insBase n)
def insN (n : Net) (ord : List Int) : Net := { (insGo n ord).2 with outs := (insGo n ord).2.outs ++ [(insGo n ord).1] }
def zeroN : Net := ⟨[], 0, [], [], []⟩
noncomputable def insE (n : Net) (ord : List Int) : Int :=
  if scanE n ord ≠ 0 then scanE n ord
  else if matchE n.cells 202 3 ≠ 0 ∨ matchGo 202 3 0 n.cells = [] then 20
  else if n.inputs + 2 > 64 ∨ (n.outs.length : Int) ≥ 64 ∨ ((n.insts.length : Int) + n.flops.length > 4096) then 5
  else 0

/-! ### The matches -/

theorem ext3 : ∀ p ∈ ext 3 3 [], p.length = 3 ∧ ∀ z ∈ p, 0 ≤ z ∧ z < 3 := by decide

theorem matchGo_mem {tt : Int} {N : Nat} : ∀ {l : List Cell} {j : Nat} {b : Int × List Int}, b ∈ matchGo tt N j l →
    ∃ k : Nat, k < l.length ∧ b.1 = (j + k : Nat) ∧ (l.getD k default).pins = N ∧ b.2 ∈ ext N N [] ∧ hitE (l.getD k default).table tt N b.2 = true := by
  intro l
  induction l with
  | nil => intro j b h; cases h
  | cons c cs ih =>
    intro j b h
    rw [matchGo] at h
    rcases List.mem_append.1 h with h | h
    · by_cases hp : c.pins = N
      · rw [if_pos hp] at h
        simp only [cellM, List.mem_map, List.mem_filter] at h
        obtain ⟨p, ⟨h1, h2⟩, rfl⟩ := h
        exact ⟨0, by simp, rfl, by simpa using hp, h1, by simpa using h2⟩
      · rw [if_neg hp] at h; cases h
    · obtain ⟨k, h1, h2, h3, h4, h5⟩ := ih h
      exact ⟨k + 1, by simpa using h1, by rw [h2]; omega, by simpa using h3, h4, by simpa using h5⟩

theorem pick3_mem {n : Net} (h : matchGo 202 3 0 n.cells ≠ []) : pick3 n ∈ matchGo 202 3 0 n.cells := by
  unfold pick3
  cases e : matchGo 202 3 0 n.cells with
  | nil => exact absurd e h
  | cons a l => simp

theorem pick3_ok {n : Net} (h : matchGo 202 3 0 n.cells ≠ []) : 0 ≤ (pick3 n).1 ∧ (pick3 n).1 < n.cells.length ∧ (n.cells.getD (pick3 n).1.toNat default).pins = 3 ∧ (pick3 n).2.length = 3 ∧ ∀ z ∈ (pick3 n).2, 0 ≤ z ∧ z < 3 := by
  obtain ⟨k, h1, h2, h3, h4, h5⟩ := matchGo_mem (pick3_mem h)
  have h6 := ext3 _ h4
  rw [Nat.zero_add] at h2
  rw [h2]
  exact ⟨by omega, by omega, by rw [Int.toNat_natCast]; exact_mod_cast h3, h6.1, h6.2⟩

/-! ### Rows of one's own, whose elements reach beside one's own -/

noncomputable def away (nm : Nat → Nat) (ob : Nat → Option AObj) (X : Nat) (h : AH) : AH := hide (fun C => C = X) (hide (Own nm ob) h)

theorem away_sub (nm : Nat → Nat) (ob : Nat → Option AObj) (X : Nat) (h : AH) : Sub (away nm ob X h) h := (hide_sub _ _).trans (hide_sub _ _)

theorem awayWV {b h h' : AH} {nm : Nat → Nat} {ob : Nat → Option AObj} {X : Nat} (ho : _root_.Go.Ab.Owns b h nm ob) (hX : X < h.next) {e : TypeId} {v : Value} {vs : List Value} (w : WV e h.next h' v vs) : WV e b.next (away nm ob X h') v vs := by
  obtain ⟨obv, A, h1, h2⟩ := w
  exact ⟨obv, A, h1, fun o e => ⟨hide_get.2 ⟨by have := (h2 o e).2; omega, hide_get.2 ⟨fun hC => by have := ownLt ho hC; have := (h2 o e).2; omega, (h2 o e).1⟩⟩, Nat.le_trans ho.gr.nx (h2 o e).2⟩⟩

/-- Cells and instances whose inner slices are one's own. -/
def cellW (N : Nat) : Lay Cell where
  sz := 5
  pos := by decide
  rel h cs c := ∃ dv, cs = [.string c.name, .int .i64 c.pins, .int .u64 c.table, .int .i64 c.area, dv] ∧ WV 2 N h dv (c.delay.map (.int .i64))
  mono := by rintro h h' cs x hs ⟨dv, rfl, hd⟩; exact ⟨dv, rfl, hd.sub hs⟩
  len := by rintro h cs x ⟨dv, rfl, hd⟩; rfl
  one := by rintro h cs x ⟨dv, rfl, hd⟩ v hv; simp only [List.mem_cons, List.not_mem_nil, or_false] at hv; rcases hv with rfl | rfl | rfl | rfl | rfl <;> first | rfl | exact hd.one.1
def instW (N : Nat) : Lay Inst where
  sz := 2
  pos := by decide
  rel h cs c := ∃ dv, cs = [.int .i64 c.cell, dv] ∧ WV 3 N h dv (c.pins.map (.int .i64))
  mono := by rintro h h' cs x hs ⟨dv, rfl, hd⟩; exact ⟨dv, rfl, hd.sub hs⟩
  len := by rintro h cs x ⟨dv, rfl, hd⟩; rfl
  one := by rintro h cs x ⟨dv, rfl, hd⟩ v hv; simp only [List.mem_cons, List.not_mem_nil, or_false] at hv; rcases hv with rfl | rfl <;> first | rfl | exact hd.one.1

theorem RowOf.imp {α : Type} {L L' : Lay α} {h : AH} {v : Value} {xs : List α} (hz : L.sz = L'.sz) (hr : ∀ cs x, L.rel h cs x → L'.rel h cs x) (r : RowOf L h v xs) : RowOf L' h v xs := by
  obtain ⟨p, l, c, rfl, hl, hc, hx⟩ := r
  rw [hz] at hc hx
  exact ⟨p, l, c, rfl, hl, hc, hx.imp id fun ⟨A, off, o, cs, e, h1, h2, h3⟩ => ⟨A, off, o, cs, e, h1, h2, fun i x hi => hr _ _ (h3 i x hi)⟩⟩
theorem rowCellW {N : Nat} {h : AH} {v : Value} {xs : List Cell} (r : RowOf (cellW N) h v xs) : RowOf cellL h v xs := RowOf.imp (L := cellW N) (L' := cellL) rfl (fun _ _ ⟨dv, e, hd⟩ => ⟨dv, e, hd.sl⟩) r
theorem rowInstW {N : Nat} {h : AH} {v : Value} {xs : List Inst} (r : RowOf (instW N) h v xs) : RowOf instL h v xs := RowOf.imp (L := instW N) (L' := instL) rfl (fun _ _ ⟨dv, e, hd⟩ => ⟨dv, e, hd.sl⟩) r

/-- A row of one's own. -/
def RowV {α : Type} (L : Lay α) (e : TypeId) (g : AH) (v : Value) (ob : Option AObj) (A : Nat) (xs : List α) : Prop :=
  ∃ zs, VecM L.sz e v ob A xs.length zs ∧ ∀ (i : Nat) (x : α), xs[i]? = some x → L.rel g ((zs.drop (i * L.sz)).take L.sz) x

theorem RowV.sub {α : Type} {L : Lay α} {e : TypeId} {g g' : AH} {v : Value} {ob : Option AObj} {A : Nat} {xs : List α} (r : RowV L e g v ob A xs) (s : Sub g g') : RowV L e g' v ob A xs := by
  obtain ⟨zs, h1, h2⟩ := r
  exact ⟨zs, h1, fun i x hx => L.mono s (h2 i x hx)⟩

theorem RowV.imp {α : Type} {L L' : Lay α} {e : TypeId} {g : AH} {v : Value} {ob : Option AObj} {A : Nat} {xs : List α} (hz : L.sz = L'.sz) (hr : ∀ cs x, L.rel g cs x → L'.rel g cs x) (r : RowV L e g v ob A xs) : RowV L' e g v ob A xs := by
  obtain ⟨zs, h1, h2⟩ := r
  rw [hz] at h1 h2
  exact ⟨zs, h1, fun i x hi => hr _ _ (h2 i x hi)⟩

theorem RowV.nil {α : Type} {L : Lay α} {e : TypeId} {g : AH} {A : Nat} : RowV L e g (.slice none 0 0) none A ([] : List α) :=
  ⟨[], ⟨by simp, .inl ⟨rfl, rfl, rfl⟩⟩, fun i x hx => by simp at hx⟩

theorem RowV.row {α : Type} {L : Lay α} {e : TypeId} {h : AH} {v : Value} {ob : Option AObj} {A : Nat} {xs : List α} (r : RowV L e h v ob A xs) (hg : ∀ o, ob = some o → h.get A = some o) (hb : xs.length ≤ 4294967296) : RowOf L h v xs := by
  obtain ⟨zs, h1, h2⟩ := r
  exact h1.row hg hb h2

theorem RowV.one {α : Type} {L : Lay α} {e : TypeId} {g : AH} {v : Value} {ob : Option AObj} {A : Nat} {xs : List α} (r : RowV L e g v ob A xs) : oneC v = true ∧ v.cells.toList = [v] := by
  obtain ⟨zs, h1, h2⟩ := r
  exact h1.one

theorem VecM.len {P : Program} {sz : Nat} {t e e' : TypeId} {v : Value} {ob : Option AObj} {A n : Nat} {zs : List Value} (hv : VecM sz e v ob A n zs) (ht : P.underlying t = some (.slice e')) : ∀ h, aLen P t v h = some (.int .i64 n) := by
  intro h
  rcases hv with ⟨_, ⟨rfl, rfl, _⟩ | ⟨rfl, rfl, _⟩ | ⟨rfl, _⟩⟩ <;> exact lenS ht _ _ _ _

theorem RowV.len {α : Type} {P : Program} {L : Lay α} {t e e' : TypeId} {g : AH} {v : Value} {ob : Option AObj} {A : Nat} {xs : List α} (r : RowV L e g v ob A xs) (ht : P.underlying t = some (.slice e')) : ∀ h, aLen P t v h = some (.int .i64 xs.length) := by
  obtain ⟨zs, h1, h2⟩ := r
  exact VecM.len h1 ht

/-- One element more. -/
theorem RowV.push {α : Type} {L : Lay α} {t e : TypeId} {B X : Nat} (ht : SlM Try.prog t e L.sz B) (hs : L.sz ≤ 16777216) {b h : AH} {nm : Nat → Nat} {ob : Nat → Option AObj} (w0 : WFH b) (ho : _root_.Go.Ab.Owns b h nm ob) {r : Nat} {v : Value} {xs : List α} (hv : RowV L e (away nm ob X h) v (ob r) (nm r) xs)
    {cs : List Value} {x : α} (hx : L.rel (away nm ob X h) cs x) (hb : (2 * (xs.length + 1) + 192) * B ≤ 281474976710656) (hm : xs.length + 1 < 4611686018427387904) :
    aBuildSlice Try.prog t 1 [(0, .agg cs.toArray)] h = some (.slice (some ⟨h.next, 0, none⟩) 1 1, h.new (.row cs e true)) ∧
    ∃ v' h' A' o', aAppend Try.prog #[t, t] v (.slice (some ⟨h.next, 0, none⟩) 1 1) (h.new (.row cs e true)) = some (v', h') ∧ RowV L e (away (upd nm r A') (upd ob r (some o')) X h') v' (some o') A' (xs ++ [x]) ∧
      _root_.Go.Ab.Owns b h' (upd nm r A') (upd ob r (some o')) ∧ Sub (away nm ob X h) (away (upd nm r A') (upd ob r (some o')) X h') ∧ h.next ≤ h'.next := by
  obtain ⟨zs, h1, h2⟩ := hv
  have hlen := L.len hx
  obtain ⟨e1, v', h', A', o', e2, hV, o2, s2, n2⟩ := ownPush ht hs w0 ho h1 hlen (by rw [List.all_eq_true]; exact L.one hx) hb hm
  refine ⟨e1, v', h', A', o', e2, ⟨zs ++ cs, by simpa using hV, fun i y hy => ?_⟩, o2, hide_mono s2, n2⟩
  have s3 : Sub (away nm ob X h) (away (upd nm r A') (upd ob r (some o')) X h') := hide_mono s2
  have hzl : zs.length = xs.length * L.sz := h1.1
  by_cases hi : i < xs.length
  · rw [List.getElem?_append_left hi] at hy
    have hle : i * L.sz + L.sz ≤ xs.length * L.sz := by
      rw [← Nat.succ_mul]; exact Nat.mul_le_mul_right _ hi
    rw [List.drop_append_of_le_length (by omega), List.take_append_of_le_length (by rw [List.length_drop]; omega)]
    exact L.mono s3 (h2 i y hy)
  · rw [List.getElem?_append_right (by omega)] at hy
    have hi0 : i = xs.length := by
      have := (List.getElem?_eq_some_iff.1 hy).1
      simp only [List.length_cons, List.length_nil] at this; omega
    subst hi0
    rw [Nat.sub_self] at hy
    cases hy
    rw [← hzl, List.drop_left, ← hlen, List.take_length]
    exact L.mono s3 hx

/-! ### The netlist that is built -/

structure Bld (b h : AH) (X T : Nat) (m : Net) (nm : Nat → Nat) (ob : Nat → Option AObj) (cv fv iv ov : Value) : Prop where
  own : _root_.Go.Ab.Owns b h nm ob
  t : nm 4 = T
  at4 : ob 4 = some (.row (netC m cv fv iv ov) 34 true)
  c : RowV (cellW b.next) 47 (away nm ob X h) cv (ob 0) (nm 0) m.cells
  f : RowV flopL 62 (away nm ob X h) fv (ob 1) (nm 1) m.flops
  i : RowV (instW b.next) 43 (away nm ob X h) iv (ob 2) (nm 2) m.insts
  o : _root_.Go.Ab.Vec 3 ov (ob 3) (nm 3) (m.outs.map (.int .i64))

section
variable {b h : AH} {X T : Nat} {m : Net} {nm : Nat → Nat} {ob : Nat → Option AObj} {cv fv iv ov : Value}

theorem Bld.get (B : Bld b h X T m nm ob cv fv iv ov) : h.get T = some (.row (netC m cv fv iv ov) 34 true) := B.t ▸ B.own.get 4 _ B.at4
theorem Bld.at (B : Bld b h X T m nm ob cv fv iv ov) : NetAt h T m cv fv iv ov := ⟨_, B.get, rfl⟩

theorem Bld.lt (B : Bld b h X T m nm ob cv fv iv ov) : T < h.next := AH.get_lt B.own.gr.wf B.get
theorem Bld.lo (B : Bld b h X T m nm ob cv fv iv ov) : b.next ≤ T := B.t ▸ B.own.lo 4 _ B.at4

theorem Bld.grown (B : Bld b h X T m nm ob cv fv iv ov) {h' : AH} (g : Gr h h') : Bld b h' X T m nm ob cv fv iv ov := by
  have s : Sub (away nm ob X h) (away nm ob X h') := hide_mono (hide_mono g.sub)
  exact ⟨B.own.grown g, B.t, B.at4, B.c.sub s, B.f.sub s, B.i.sub s, B.o⟩

/-- A field of the netlist's block written over. -/
theorem ownSet {r : Nat} {o o' : AObj} (w0 : WFH b) (ho : _root_.Go.Ab.Owns b h nm ob) (hr : ob r = some o) : _root_.Go.Ab.Owns b (h.set (nm r) o') nm (upd ob r (some o')) ∧ Sub (away nm ob X h) (away nm (upd ob r (some o')) X (h.set (nm r) o')) := by
  have hlt := AH.get_lt ho.gr.wf (ho.get r o hr)
  obtain ⟨o2, s2⟩ := ownUp (h' := h.set (nm r) o') (o' := o') (r := r) (A' := nm r) w0 ho (by rw [AH.set_get, if_pos rfl]) (.inl ⟨rfl, by rw [hr]; simp⟩) (fun B p hB he => by
    rw [AH.set_get, if_neg (fun e => by have := he e; rw [hr] at this; cases this)]; exact hB) (ho.gr.wf.set hlt _) (by simp)
  have : upd nm r (nm r) = nm := by funext i; unfold upd; split <;> simp_all
  rw [this] at o2 s2
  exact ⟨o2, hide_mono s2⟩

theorem szC : ∃ i, Try.prog.info? 30 = some i ∧ i.size = 1 := ⟨(Try.prog.info? 30).get (by kernel_rfl), by kernel_rfl, by kernel_rfl⟩
theorem szN : ∃ i, Try.prog.info? 32 = some i ∧ i.size = 1 := ⟨(Try.prog.info? 32).get (by kernel_rfl), by kernel_rfl, by kernel_rfl⟩
theorem szII : ∃ i, Try.prog.info? 22 = some i ∧ i.size = 1 := ⟨(Try.prog.info? 22).get (by kernel_rfl), by kernel_rfl, by kernel_rfl⟩
theorem sz3 : ∃ i, Try.prog.info? 3 = some i ∧ i.size = 1 := ⟨(Try.prog.info? 3).get (by kernel_rfl), by kernel_rfl, by kernel_rfl⟩

/-- A cell more. -/
theorem Bld.pushC (B : Bld b h X T m nm ob cv fv iv ov) (w0 : WFH b) {cs : List Value} {x : Cell} (hx : (cellW b.next).rel (away nm ob X h) cs x) (hb : m.cells.length ≤ 4294967296) :
    aBuildSlice Try.prog 30 1 [(0, .agg cs.toArray)] h = some (.slice (some ⟨h.next, 0, none⟩) 1 1, h.new (.row cs 47 true)) ∧
    ∃ v' h' h'', aAppend Try.prog #[30, 30] cv (.slice (some ⟨h.next, 0, none⟩) 1 1) (h.new (.row cs 47 true)) = some (v', h') ∧
      aStore Try.prog 30 (.pointer (some ⟨T, 0, none⟩)) v' h' = some h'' ∧ ∃ nm' ob', Bld b h'' X T { m with cells := m.cells ++ [x] } nm' ob' v' fv iv ov ∧ h.next ≤ h''.next ∧ Sub (away nm ob X h) h' ∧ Sub (away nm ob X h) h'' := by
  obtain ⟨e1, v', h', A', o', e2, hV, o2, s2, n2⟩ := RowV.push (r := 0) smC (show 5 ≤ 16777216 by decide) w0 B.own B.c hx (by omega) (by omega)
  have h4 : upd ob 0 (some o') 4 = some (.row (netC m cv fv iv ov) 34 true) := by rw [upd_ne _ _ (by decide)]; exact B.at4
  have n4 : upd nm 0 A' 4 = T := by rw [upd_ne _ _ (by decide)]; exact B.t
  have hg := o2.get 4 _ h4
  rw [n4] at hg
  obtain ⟨o3, s3⟩ := ownSet (X := X) (o' := .row ((netC m cv fv iv ov).set 0 v') 34 true) w0 o2 h4
  rw [n4] at o3 s3
  refine ⟨e1, v', h', _, e2, stC szC hg 0 v' (by simp [netC]) hV.one.2 hV.one.1, _, _, ⟨o3, n4, ?_, ?_, ?_, ?_, ?_⟩, by simpa using n2, s2.trans (away_sub _ _ _ _), (s2.trans s3).trans (away_sub _ _ _ _)⟩
  · rw [upd_same]; rfl
  · rw [upd_ne _ _ (by decide), upd_same, upd_same]; exact hV.sub s3
  · rw [upd_ne _ _ (by decide), upd_ne _ _ (by decide), upd_ne _ _ (by decide)]; exact (B.f.sub s2).sub s3
  · rw [upd_ne _ _ (by decide), upd_ne _ _ (by decide), upd_ne _ _ (by decide)]; exact (B.i.sub s2).sub s3
  · rw [upd_ne _ _ (by decide), upd_ne _ _ (by decide), upd_ne _ _ (by decide)]; exact B.o

/-- An instance more. -/
theorem Bld.pushI (B : Bld b h X T m nm ob cv fv iv ov) (w0 : WFH b) {cs : List Value} {x : Inst} (hx : (instW b.next).rel (away nm ob X h) cs x) (hb : m.insts.length ≤ 4294967296) :
    aBuildSlice Try.prog 32 1 [(0, .agg cs.toArray)] h = some (.slice (some ⟨h.next, 0, none⟩) 1 1, h.new (.row cs 43 true)) ∧
    ∃ v' h' h'', aAppend Try.prog #[32, 32] iv (.slice (some ⟨h.next, 0, none⟩) 1 1) (h.new (.row cs 43 true)) = some (v', h') ∧
      aStore Try.prog 32 (.pointer (some ⟨T, 3, none⟩)) v' h' = some h'' ∧ ∃ nm' ob', Bld b h'' X T { m with insts := m.insts ++ [x] } nm' ob' cv fv v' ov ∧ h.next ≤ h''.next ∧ Sub (away nm ob X h) h' ∧ Sub (away nm ob X h) h'' := by
  obtain ⟨e1, v', h', A', o', e2, hV, o2, s2, n2⟩ := RowV.push (r := 2) smN (show 2 ≤ 16777216 by decide) w0 B.own B.i hx (by omega) (by omega)
  have h4 : upd ob 2 (some o') 4 = some (.row (netC m cv fv iv ov) 34 true) := by rw [upd_ne _ _ (by decide)]; exact B.at4
  have n4 : upd nm 2 A' 4 = T := by rw [upd_ne _ _ (by decide)]; exact B.t
  have hg := o2.get 4 _ h4
  rw [n4] at hg
  obtain ⟨o3, s3⟩ := ownSet (X := X) (o' := .row ((netC m cv fv iv ov).set 3 v') 34 true) w0 o2 h4
  rw [n4] at o3 s3
  refine ⟨e1, v', h', _, e2, stC szN hg 3 v' (by simp [netC]) hV.one.2 hV.one.1, _, _, ⟨o3, n4, ?_, ?_, ?_, ?_, ?_⟩, by simpa using n2, s2.trans (away_sub _ _ _ _), (s2.trans s3).trans (away_sub _ _ _ _)⟩
  · rw [upd_same]; rfl
  · rw [upd_ne _ _ (by decide), upd_ne _ _ (by decide), upd_ne _ _ (by decide)]; exact (B.c.sub s2).sub s3
  · rw [upd_ne _ _ (by decide), upd_ne _ _ (by decide), upd_ne _ _ (by decide)]; exact (B.f.sub s2).sub s3
  · rw [upd_ne _ _ (by decide), upd_same, upd_same]; exact hV.sub s3
  · rw [upd_ne _ _ (by decide), upd_ne _ _ (by decide), upd_ne _ _ (by decide)]; exact B.o

theorem take2 {α : Type} {l : List α} {k : Nat} {a b : α} (h1 : l[k]? = some a) (h2 : l[k + 1]? = some b) : (l.drop k).take 2 = [a, b] := by
  obtain ⟨i1, e1⟩ := List.getElem?_eq_some_iff.1 h1
  obtain ⟨i2, e2⟩ := List.getElem?_eq_some_iff.1 h2
  rw [List.drop_eq_getElem_cons i1, List.drop_eq_getElem_cons i2, e1, e2]; rfl

theorem take2_inv {α : Type} {l : List α} {k : Nat} {a b : α} (h : (l.drop k).take 2 = [a, b]) : l[k]? = some a ∧ l[k + 1]? = some b := by
  have h1 := congrArg (·[0]?) h
  have h2 := congrArg (·[1]?) h
  simp [List.getElem?_take] at h1 h2
  exact ⟨h1, h2⟩

/-- A flop's next written over. -/
theorem Bld.setF (B : Bld b h X T m nm ob cv fv iv ov) (w0 : WFH b) (hb : m.flops.length ≤ 4294967296) {i : Nat} (hi : i < m.flops.length) (y : Int) :
    aIndexAddr Try.prog 31 fv (.int .i64 i) = some (slF 2 fv i 0) ∧ aFieldAddr Try.prog 62 0 (slF 2 fv i 0) = some (slF 2 fv i 0) ∧
    ∃ h' ob', aStore Try.prog 3 (slF 2 fv i 0) (.int .i64 y) h = some h' ∧ Bld b h' X T { m with flops := m.flops.set i ⟨y, (m.flops.getD i default).init⟩ } nm ob' cv fv iv ov ∧ h'.next = h.next ∧ Sub (away nm ob X h) (away nm ob' X h') := by
  have hidx := ((B.f.sub (away_sub _ _ _ _)).row (B.own.get 1) hb).idx Try.underlying31 infF .i64 i (by omega) (by omega)
  rw [Int.toNat_natCast] at hidx
  obtain ⟨zs, ⟨hzl, hV⟩, hr⟩ := B.f
  rcases hV with ⟨e, _⟩ | ⟨e, _⟩ | ⟨rfl, e1⟩
  · omega
  · omega
  · have hg := B.own.get 1 _ e1
    obtain ⟨o2, s2⟩ := ownSet (X := X) (o' := .grow (zs.set (i * 2) (.int .i64 y)) 62) w0 B.own e1
    have hlt : i * 2 < zs.length := by rw [hzl]; show i * 2 < m.flops.length * 2; omega
    have hfl : m.flops[i]? = some (m.flops.getD i default) := by simp [List.getD_eq_getElem?_getD, hi]
    have hcell := hr i _ hfl
    change (zs.drop (i * 2)).take 2 = flopC (m.flops.getD i default) at hcell
    refine ⟨?_, ?_, h.set (nm 1) (.grow (zs.set (i * 2) (.int .i64 y)) 62), upd ob 1 (some (.grow (zs.set (i * 2) (.int .i64 y)) 62)), ?_, ⟨o2, B.t, ?_, ?_, ⟨zs.set (i * 2) (.int .i64 y), ⟨?_, .inr (.inr ⟨?_, ?_⟩)⟩, fun j x hx => ?_⟩, ?_, ?_⟩, by simp, s2⟩
    · exact hidx
    · exact faL foF0 _ _
    · obtain ⟨I, hI, hs⟩ := sz3
      simp [aStore, slF, hI, hs, hg, AObj.setCells, Value.cells, oneC, setL, show i * 2 + 1 ≤ zs.length by omega]
    · rw [upd_ne _ _ (by decide)]; exact B.at4
    · rw [upd_ne _ _ (by decide)]; exact B.c.sub s2
    · simpa using hzl
    · simp
    · rw [upd_same]
    · obtain ⟨g1, g2⟩ := take2_inv hcell
      show ((zs.set (i * 2) (.int .i64 y)).drop (j * 2)).take 2 = flopC x
      by_cases hj : j = i
      · subst hj
        rw [List.getElem?_set_self (by simpa using hi)] at hx
        cases hx
        exact take2 (by rw [List.getElem?_set_self hlt]) (by rw [List.getElem?_set_ne (by omega)]; exact g2)
      · rw [List.getElem?_set_ne (fun e => hj e.symm)] at hx
        obtain ⟨k1, k2⟩ := take2_inv (hr j x hx)
        exact take2 (by rw [List.getElem?_set_ne (by omega)]; exact k1) (by rw [List.getElem?_set_ne (by omega)]; exact k2)
    · rw [upd_ne _ _ (by decide)]; exact B.i.sub s2
    · rw [upd_ne _ _ (by decide)]; exact B.o
end

/-! ### Structs, built -/

theorem buildS {t : TypeId} {zs : List Value} {pl : List (Nat × Nat)} (hz : ∃ i, Try.prog.info? t = some i ∧ i.zero = some (.agg zs.toArray)) (hp : plain 9 (.agg zs.toArray) = true) (hs : ∃ fs, Try.prog.underlying t = some (.struct fs) ∧ sizesOf Try.prog fs.toList = some pl)
    (ps : List (Nat × Value)) : aBuild Try.prog t ps = (fillL (fun k => pl[k]?) zs ps).map fun c => .agg c.toArray := by
  obtain ⟨ib, hb1, hb2⟩ := hz
  obtain ⟨fs, hf1, hf2⟩ := hs
  have hcz : (Value.agg zs.toArray).cells = zs.toArray := rfl
  simp only [aBuild, hb1, hb2, hf1, hf2, hp, hcz]
  simp

theorem buildI {i : Int} {pv : Value} (hp : pv.cells.toList = [pv]) : aBuild Try.prog 43 [(0, .int .i64 i), (1, pv)] = some (.agg #[.int .i64 i, pv]) := by
  have hc : pv.cells.size = 1 := by
    have := congrArg List.length hp
    simpa using this
  have hc0 : (Value.int .i64 i).cells = #[.int .i64 i] := rfl
  rw [buildS (zs := [.int .i64 0, .slice none 0 0]) (pl := [(0, 1), (1, 1)]) ⟨(Try.prog.info? 43).get (by kernel_rfl), by kernel_rfl, by kernel_rfl⟩ rfl ⟨_, Try.underlying43, by kernel_rfl⟩]
  simp [fillL, hc0, hc, hp, setL]

def zeroC : List Value := [.slice none 0 0, .int .i64 0, .slice none 0 0, .slice none 0 0, .slice none 0 0]

theorem infN : ∃ i, Try.prog.info? 34 = some i ∧ i.zero = some (.agg zeroC.toArray) := ⟨(Try.prog.info? 34).get (by kernel_rfl), by kernel_rfl, by kernel_rfl⟩
theorem zrN : Zr Try.prog 34 zeroC := by
  obtain ⟨i, h1, h2⟩ := infN
  exact ⟨i, _, h1, h2, rfl, rfl, rfl⟩

theorem buildN0 : aBuild Try.prog 34 [] = some (.agg zeroC.toArray) := by
  rw [buildS (zs := zeroC) (pl := [(0, 1), (1, 1), (2, 1), (3, 1), (4, 1)]) infN rfl ⟨_, Try.underlying34, by kernel_rfl⟩]
  simp [fillL]

theorem buildN {i : Int} {fv ov : Value} (hf : fv.cells.toList = [fv]) (ho : ov.cells.toList = [ov]) : aBuild Try.prog 34 [(1, .int .i64 i), (2, fv), (4, ov)] = some (.agg #[.slice none 0 0, .int .i64 i, fv, .slice none 0 0, ov]) := by
  have hc : fv.cells.size = 1 := by
    have := congrArg List.length hf
    simpa using this
  have hc2 : ov.cells.size = 1 := by
    have := congrArg List.length ho
    simpa using this
  have hc0 : (Value.int .i64 i).cells = #[.int .i64 i] := rfl
  rw [buildS (zs := zeroC) (pl := [(0, 1), (1, 1), (2, 1), (3, 1), (4, 1)]) infN rfl ⟨_, Try.underlying34, by kernel_rfl⟩]
  simp [fillL, hc0, hc, hc2, hf, ho, setL, zeroC]

attribute [local push_cast] treeM_nil treeM_step treeM_two okX_true wantX_true wantX_false stepX skipX

theorem agL0 : ∃ i, Try.prog.info? 45 = some i ∧ i.size = 1 := ⟨(Try.prog.info? 45).get (by kernel_rfl), by kernel_rfl, by kernel_rfl⟩

theorem Net.setCells {m : Net} (hm : m.cells = []) : { m with cells := [] } = m := by cases m; simp only at hm; rw [hm]
theorem Net.setInsts {m : Net} (hm : m.insts = []) : { m with insts := [] } = m := by cases m; simp only at hm; rw [hm]

theorem insCells {b h : AH} {X T : Nat} {n m : Net} {nm : Nat → Nat} {ob : Nat → Option AObj} {cv fv iv ov cv0 fv0 iv0 ov0 : Value} {a : AAct} (hn : a.n = 196) (hd : a.df = []) (hX : X < h.next) (w0 : WFH b) (r : NetR b n cv0 fv0 iv0 ov0)
    (hc : n.cells.length ≤ 4294967296) (hdl : ∀ c ∈ n.cells, c.delay.length ≤ 4294967296) (B : Bld b h X T m nm ob cv fv iv ov) (hm : m.cells = []) (h12 : a.tm 12 = .pointer (some ⟨T, 0, none⟩)) (h85 : a.tm 85 = cv0) (h86 : a.tm 86 = .int .i64 n.cells.length) (h87 : a.tm 87 = .int .i64 0) :
    AW Try.prog none (bodyBlk Try.f15 1) (fun e a' h' => e = .exit 1 ∧ a'.n = 196 ∧ a'.df = [] ∧ (∀ i, i < 87 → i ∉ [14] → a'.tm i = a.tm i) ∧ h.next ≤ h'.next ∧ ∃ nm' ob' cv', Bld b h' X T { m with cells := n.cells } nm' ob' cv' fv iv ov) a h := by
  refine AW.at (rfl : bodyBlk Try.f15 1 = .loop _) ?_
  refine AW.loopN 87 [14] (fun k a' h' => ∃ (i : Nat) (nm : Nat → Nat) (ob : Nat → Option AObj) (cv : Value), a'.tm 87 = .int .i64 i ∧ i + k = n.cells.length ∧ h.next ≤ h'.next ∧ Bld b h' X T { m with cells := n.cells.take i } nm ob cv fv iv ov) n.cells.length ?_ ?_
  · exact ⟨0, nm, ob, cv, by rw [h87]; rfl, by omega, Nat.le_refl _, by rw [List.take_zero, Net.setCells hm]; exact B⟩
  clear B nm ob cv
  rintro a1 k a' h' hk kn kd kt ⟨i, nm, ob, cv, h87', hik, hnx, B⟩
  simp (disch := first | omega | decide | (simp only [List.length_cons, List.length_nil] <;> omega)) only [push_cast, ↓reduceIte, Nat.reduceLT, Nat.reduceEqDiff, reduceCtorEq, Nat.reduceAdd, kn, kd, kt, hn, hd, h12, h85, h86, h87']
  refine condV_of (fun hlt => ?_) (fun hge => ?_)
  · have hi : i < n.cells.length := by have := hlt; simp at this; omega
    have hg := B.own.gr
    have hlo := B.lo
    obtain ⟨cs, ⟨dv, rfl, hdv⟩, hld, -, -⟩ := r.c.get hi default
    replace hld := aLoad_sub hg.sub (hld _ agC)
    have hcl := hdl _ (getD_mem hi default)
    have htake : n.cells.take (i + 1) = n.cells.take i ++ [n.cells.getD i default] := take_succ_getD hi default
    generalize n.cells.getD i default = c at *
    have hone : [Value.string c.name, .int .i64 c.pins, .int .u64 c.table, .int .i64 c.area, dv].all oneC = true := by simp only [List.all_cons, List.all_nil, hdv.one]; rfl
    have hst := fun (hh : AH) cs e hl => stN agC hh cs e [Value.string c.name, .int .i64 c.pins, .int .u64 c.table, .int .i64 c.area, dv] hl rfl hone
    have gI := (Gr.refl hg.wf).new (.row [Value.string c.name, .int .i64 c.pins, .int .u64 c.table, .int .i64 c.area, dv] 47 true)
    have hP : (h'.new (.row [Value.string c.name, .int .i64 c.pins, .int .u64 c.table, .int .i64 c.area, dv] 47 true)).get h'.next = some (.row [Value.string c.name, .int .i64 c.pins, .int .u64 c.table, .int .i64 c.area, dv] 47 true) := by rw [AH.new_get, if_pos rfl]
    have hdv2 := (hdv.sub hg.sub).sub gI.sub
    have hnew : (h'.new (.row [Value.string c.name, .int .i64 c.pins, .int .u64 c.table, .int .i64 c.area, dv] 47 true)).next = h'.next + 1 := rfl
    have hCs : CsAt (h'.new (.row [Value.string c.name, .int .i64 c.pins, .int .u64 c.table, .int .i64 c.area, dv] 47 true)) h'.next [Value.string c.name, .int .i64 c.pins, .int .u64 c.table, .int .i64 c.area, dv] := CsAt.new _ _ _ _
    simp (disch := first | omega | decide | (simp only [List.length_cons, List.length_nil] <;> omega)) only [push_cast, ↓reduceIte, Nat.reduceLT, Nat.reduceEqDiff, reduceCtorEq, Nat.reduceAdd, kn, kd, kt, hn, hd, h12, h85, h86, h87', r.c.idx Try.underlying30 infC, hld, alL zrC, hst, faL foC0, faL foC1, faL foC2, faL foC3, faL foC4, hCs.ld flL]
    generalize h'.new (.row [Value.string c.name, .int .i64 c.pins, .int .u64 c.table, .int .i64 c.area, dv] 47 true) = h2 at gI hP hdv2 hnew hCs ⊢
    refine ACall.mono ?_ (cloneL hdv2 hcl)
    rintro rv h3 ⟨g3, hs3⟩
    have hP3 := g3.sub _ _ hP
    have hlt3 := AH.get_lt g3.wf hP3
    have hrv1 := hs3.one
    have hst4 := stC agL0 hP3 4 rv (by simp) hrv1.2 hrv1.1
    have g4 := (gI.trans g3).set hg.wf (Nat.le_refl _) hlt3 (.row ([Value.string c.name, .int .i64 c.pins, .int .u64 c.table, .int .i64 c.area, dv].set 4 rv) 47 true)
    have hs4 := (hs3.set (B := h'.next) (by omega) (.row ([Value.string c.name, .int .i64 c.pins, .int .u64 c.table, .int .i64 c.area, dv].set 4 rv) 47 true)).le (M := h'.next) (by omega)
    have hP4 : CsAt (h3.set h'.next (.row ([Value.string c.name, .int .i64 c.pins, .int .u64 c.table, .int .i64 c.area, dv].set 4 rv) 47 true)) h'.next [Value.string c.name, .int .i64 c.pins, .int .u64 c.table, .int .i64 c.area, rv] :=
      ⟨_, by rw [AH.set_get, if_pos rfl], rfl⟩
    simp (disch := first | omega | decide | (simp only [List.length_cons, List.length_nil] <;> omega)) only [push_cast, ↓reduceIte, Nat.reduceLT, Nat.reduceEqDiff, reduceCtorEq, Nat.reduceAdd, kn, kd, kt, hn, hd, h12, h85, h86, h87', faL foC0, faL foC1, faL foC2, faL foC3, faL foC4, hst4]
    generalize h3.set h'.next (.row ([Value.string c.name, .int .i64 c.pins, .int .u64 c.table, .int .i64 c.area, dv].set 4 rv) 47 true) = h4 at g4 hs4 hP4 ⊢
    have hrel : (cellW b.next).rel (away nm ob X h4) [Value.string c.name, .int .i64 c.pins, .int .u64 c.table, .int .i64 c.area, rv] c := ⟨rv, rfl, awayWV B.own (by omega) hs4⟩
    have B4 := B.grown g4
    have hM := B4.at
    obtain ⟨e1, v', h5, h6, e2, e3, nm', ob', B6, n6, -, -⟩ := B4.pushC w0 hrel (by simp; omega)
    have hw : IntKind.i64.wrap ((i : Int) + 1) = i + 1 := wrapI (by omega) (by omega)
    simp (disch := first | omega | decide | (simp only [List.length_cons, List.length_nil] <;> omega)) only [push_cast, ↓reduceIte, Nat.reduceLT, Nat.reduceEqDiff, reduceCtorEq, Nat.reduceAdd, kn, kd, kt, hn, hd, h12, h85, h86, h87', faL foN0, faL foN1, faL foN2, faL foN3, faL foN4, hM.l0, hM.l1, hM.l2, hM.l3, hM.l4, hM.la, hP4.la agC, e1, e2, e3, hw]
    refine ⟨k - 1, by omega, (by simp (disch := decide) only [Kp_put, put_none, hk]), i + 1, nm', ob', v', by simp (disch := first | omega | decide | (simp only [List.length_cons, List.length_nil] <;> omega)) only [push_cast, ↓reduceIte, Nat.reduceLT, Nat.reduceEqDiff, reduceCtorEq, Nat.reduceAdd], by omega, ?_, by rw [htake]; exact B6⟩
    have := g4.nx
    omega
  · have hi : i = n.cells.length := by have := hge; simp at this; omega
    subst hi
    rw [List.take_length] at B
    simp (disch := first | omega | decide | (simp only [List.length_cons, List.length_nil] <;> omega)) only [push_cast, ↓reduceIte, Nat.reduceLT, Nat.reduceEqDiff, reduceCtorEq, Nat.reduceAdd, kn, kd, kt, hn, hd, h12, h85, h86, h87']
    exact ⟨fun j h1 h2 => by rw [if_neg (by omega)]; exact kt j h1 (by simpa using h2), hnx, nm, ob, cv, B⟩

theorem insInsts {b h : AH} {X T B0 : Nat} {n m : Net} {nm : Nat → Nat} {ob : Nat → Option AObj} {cv fv iv ov cv0 fv0 iv0 ov0 : Value} {a : AAct} (hn : a.n = 196) (hd : a.df = []) (hX : X < h.next) (w0 : WFH b) (r : NetR b n cv0 fv0 iv0 ov0) (hN : NetAt b B0 n cv0 fv0 iv0 ov0)
    (hc : n.insts.length ≤ 4294967296) (hdl : ∀ x ∈ n.insts, x.pins.length ≤ 4294967296) (B : Bld b h X T m nm ob cv fv iv ov) (hm : m.insts = []) (h12 : a.tm 12 = .pointer (some ⟨T, 0, none⟩)) (h9 : a.tm 9 = .func (.func 32) #[] #[.pointer (some ⟨B0, 0, none⟩)])
    (h85 : a.tm 103 = iv0) (h86 : a.tm 104 = .int .i64 n.insts.length) (h87 : a.tm 105 = .int .i64 0) :
    AW Try.prog none (bodyBlk Try.f15 3) (fun e a' h' => e = .exit 3 ∧ a'.n = 196 ∧ a'.df = [] ∧ (∀ i, i < 105 → i ∉ [16] → a'.tm i = a.tm i) ∧ h.next ≤ h'.next ∧ ∃ nm' ob' iv', Bld b h' X T { m with insts := n.insts.map (instS n) } nm' ob' cv fv iv' ov) a h := by
  refine AW.at (rfl : bodyBlk Try.f15 3 = .loop _) ?_
  refine AW.loopN 105 [16] (fun k a' h' => ∃ (i : Nat) (nm : Nat → Nat) (ob : Nat → Option AObj) (iv : Value), a'.tm 105 = .int .i64 i ∧ i + k = n.insts.length ∧ h.next ≤ h'.next ∧ Bld b h' X T { m with insts := (n.insts.take i).map (instS n) } nm ob cv fv iv ov) n.insts.length ?_ ?_
  · exact ⟨0, nm, ob, iv, by rw [h87]; rfl, by omega, Nat.le_refl _, by rw [List.take_zero, List.map_nil, Net.setInsts hm]; exact B⟩
  clear B nm ob iv
  rintro a1 k a' h' hk kn kd kt ⟨i, nm, ob, iv, h87', hik, hnx, B⟩
  simp (disch := first | omega | decide | (simp only [List.length_cons, List.length_nil] <;> omega)) only [push_cast, ↓reduceIte, Nat.reduceLT, Nat.reduceEqDiff, reduceCtorEq, Nat.reduceAdd, kn, kd, kt, hn, hd, h12, h9, h85, h86, h87']
  refine condV_of (fun hlt => ?_) (fun hge => ?_)
  · have hi : i < n.insts.length := by have := hlt; simp at this; omega
    have hg := B.own.gr
    have hlo := B.lo
    obtain ⟨cs, ⟨pv, rfl, hpv⟩, hld, -, -⟩ := r.i.get hi default
    replace hld := aLoad_sub hg.sub (hld _ agI)
    have hpl := hdl _ (getD_mem hi default)
    have htake : (n.insts.take (i + 1)).map (instS n) = (n.insts.take i).map (instS n) ++ [instS n (n.insts.getD i default)] := by rw [take_succ_getD hi default, List.map_append]; rfl
    generalize n.insts.getD i default = x at *
    have hone : [Value.int .i64 x.cell, pv].all oneC = true := by simp only [List.all_cons, List.all_nil, hpv.one]; rfl
    have hst := fun (hh : AH) cs e hl => stN agI hh cs e [Value.int .i64 x.cell, pv] hl rfl hone
    have gI := (Gr.refl hg.wf).new (.row [Value.int .i64 x.cell, pv] 43 true)
    have hpv2 := (hpv.sub hg.sub).sub gI.sub
    have hN2 := (hN.sub hg.sub).sub gI.sub
    have hnew : (h'.new (.row [Value.int .i64 x.cell, pv] 43 true)).next = h'.next + 1 := rfl
    have hCs : CsAt (h'.new (.row [Value.int .i64 x.cell, pv] 43 true)) h'.next [Value.int .i64 x.cell, pv] := CsAt.new _ _ _ _
    have hKey : ∀ (rv : Value) (h3 : AH), (Gr (h'.new (.row [Value.int .i64 x.cell, pv] 43 true)) h3 ∧ ∃ ob A, IntsV h3 rv ob A (x.pins.map (shiftE n)) ∧ (∀ o, ob = some o → (h'.new (.row [Value.int .i64 x.cell, pv] 43 true)).next ≤ A)) →
        (rv.cells.toList = [rv] ∧ NetAt h3 T { m with insts := (n.insts.take i).map (instS n) } cv fv iv ov ∧ CsAt h3 h'.next [Value.int .i64 x.cell, pv] ∧ CsAt (h3.new (.row [Value.int .i64 x.cell, rv] 43 true)) h'.next [Value.int .i64 x.cell, pv]) ∧
        aBuildSlice Try.prog 32 1 [(0, .agg #[Value.int .i64 x.cell, rv])] h3 = some (.slice (some ⟨h3.next, 0, none⟩) 1 1, h3.new (.row [Value.int .i64 x.cell, rv] 43 true)) ∧
        ∃ v' h5 h6, aAppend Try.prog #[32, 32] iv (.slice (some ⟨h3.next, 0, none⟩) 1 1) (h3.new (.row [Value.int .i64 x.cell, rv] 43 true)) = some (v', h5) ∧ CsAt h5 h'.next [Value.int .i64 x.cell, pv] ∧
          aStore Try.prog 32 (.pointer (some ⟨T, 3, none⟩)) v' h5 = some h6 ∧ CsAt h6 h'.next [Value.int .i64 x.cell, pv] ∧ h.next ≤ h6.next ∧ ∃ nm' ob', Bld b h6 X T { m with insts := (n.insts.take (i + 1)).map (instS n) } nm' ob' cv fv v' ov := by
      rintro rv h3 ⟨g3, obr, Ar, hrv, hrlo⟩
      have B3 := B.grown (gI.trans g3)
      have hP3 := hCs.sub g3.sub
      have hrel : (instW b.next).rel (away nm ob X h3) [Value.int .i64 x.cell, rv] (instS n x) := ⟨rv, rfl, awayWV B.own (by omega) ⟨obr, Ar, hrv.1, fun o e => ⟨hrv.2 o e, by have := hrlo o e; omega⟩⟩⟩
      obtain ⟨e1, v', h5, h6, e2, e3, nm', ob', B6, n6, s5, s6⟩ := B3.pushI w0 hrel (by simp; omega)
      have hPw : CsAt (away nm ob X h3) h'.next [Value.int .i64 x.cell, pv] := by
        obtain ⟨o, h1, h2⟩ := hP3
        exact ⟨o, hide_get.2 ⟨by omega, hide_get.2 ⟨fun hC => by have := ownLt B.own hC; omega, h1⟩⟩, h2⟩
      have hrv1 : rv.cells.toList = [rv] := by obtain ⟨p, l, c, rfl, _⟩ := hrv.sl; rfl
      have := (gI.trans g3).nx
      exact ⟨⟨hrv1, B3.at, hP3, hP3.sub (Sub.new g3.wf _)⟩, e1, v', h5, h6, e2, hPw.sub s5, e3, hPw.sub s6, by omega, nm', ob', by rw [htake]; exact B6⟩
    have hM2 := B.at.sub gI.sub
    have hsh := shift hN2 hpv2 hpl
    have hw : IntKind.i64.wrap ((i : Int) + 1) = i + 1 := wrapI (by omega) (by omega)
    simp (disch := first | omega | decide | (simp only [List.length_cons, List.length_nil] <;> omega)) only [push_cast, ↓reduceIte, Nat.reduceLT, Nat.reduceEqDiff, reduceCtorEq, Nat.reduceAdd, kn, kd, kt, hn, hd, h12, h9, h85, h86, h87', r.i.idx Try.underlying32 infI, hld, alL zrI, hst]
    generalize h'.new (.row [Value.int .i64 x.cell, pv] 43 true) = h2 at gI hpv2 hnew hCs hN2 hM2 hsh hKey ⊢
    refine AW.drawX (.take 0 [12, 11, 10, 1] (.take 2 [12, 11, 10, 9, 8, 3] (.take 4 [12, 11, 10, 9, 8, 7] (.take 5 [12, 11, 10, 9, 8, 7, 6] (.take 6 [12, 11, 10, 9, 8, 7] (.watch 3 [12, 11, 10, 9, 8] (.two 1 (.only 7 (.take 8 [12, 11, 10, 9] (.only 9 (.only 10 (.take 11 [12] (.only 12 .done)))))) 7 (.take 1 [12, 11, 10] (.take 8 [12, 11, 10, 9] (.only 9 (.only 10 (.take 11 [12] (.only 12 .done))))))))))))) (.step 0 0 (.step 0 2 (.step 0 4 (.step 0 5 (.step 0 6 (.step 1 3 (.two 1 (.step 2 7 (.step 0 8 (.step 2 9 (.step 2 10 (.step 0 11 (.step 2 12 .nil)))))) 7 (.step 0 1 (.step 0 8 (.step 2 9 (.step 2 10 (.step 0 11 (.step 2 12 .nil))))))))))))) mixed (by kernel_rfl) rfl ?_
    simp (disch := first | omega | decide | (simp only [List.length_cons, List.length_nil] <;> omega)) only [push_cast, ↓reduceIte, Nat.reduceLT, Nat.reduceEqDiff, reduceCtorEq, Nat.reduceAdd, kn, kd, kt, hn, hd, h12, h9, h85, h86, h87', faL foN0, faL foN1, faL foN2, faL foN3, faL foN4, faL foI0, faL foI1, hM2.l0, hM2.l1, hM2.l2, hM2.l3, hM2.l4, hM2.la, hCs.ld fl3, hCs.ld flI]
    refine ⟨?_, ?_⟩
    · refine ACall.mono ?_ hsh
      intro rv h3 hpost
      obtain ⟨⟨k1, k2, k3, k4⟩, e1, v', h5, h6, e2, k5, e3, k6, n6, nm', ob', B6⟩ := hKey rv h3 hpost
      simp (disch := first | omega | decide | (simp only [List.length_cons, List.length_nil] <;> omega)) only [push_cast, ↓reduceIte, Nat.reduceLT, Nat.reduceEqDiff, reduceCtorEq, Nat.reduceAdd, kn, kd, kt, hn, hd, h12, h9, h85, h86, h87', faL foN0, faL foN1, faL foN2, faL foN3, faL foN4, faL foI0, faL foI1, k2.l0, k2.l1, k2.l2, k2.l3, k2.l4, k2.la, k3.ld fl3, k4.ld fl3, k5.ld fl3, k6.ld fl3, buildI k1, e1, e2, e3, hw]
      exact ⟨k - 1, by omega, (by simp (disch := decide) only [Kp_put, put_none, hk]), i + 1, nm', ob', v', by simp (disch := first | omega | decide | (simp only [List.length_cons, List.length_nil] <;> omega)) only [push_cast, ↓reduceIte, Nat.reduceLT, Nat.reduceEqDiff, reduceCtorEq, Nat.reduceAdd], by omega, n6, B6⟩
    · refine ACall.mono ?_ hsh
      intro rv h3 hpost
      obtain ⟨⟨k1, k2, k3, k4⟩, e1, v', h5, h6, e2, k5, e3, k6, n6, nm', ob', B6⟩ := hKey rv h3 hpost
      simp (disch := first | omega | decide | (simp only [List.length_cons, List.length_nil] <;> omega)) only [push_cast, ↓reduceIte, Nat.reduceLT, Nat.reduceEqDiff, reduceCtorEq, Nat.reduceAdd, kn, kd, kt, hn, hd, h12, h9, h85, h86, h87', faL foN0, faL foN1, faL foN2, faL foN3, faL foN4, faL foI0, faL foI1, k2.l0, k2.l1, k2.l2, k2.l3, k2.l4, k2.la, k3.ld fl3, k4.ld fl3, k5.ld fl3, k6.ld fl3, buildI k1, e1, e2, e3, hw]
      exact ⟨k - 1, by omega, (by simp (disch := decide) only [Kp_put, put_none, hk]), i + 1, nm', ob', v', by simp (disch := first | omega | decide | (simp only [List.length_cons, List.length_nil] <;> omega)) only [push_cast, ↓reduceIte, Nat.reduceLT, Nat.reduceEqDiff, reduceCtorEq, Nat.reduceAdd], by omega, n6, B6⟩
  · have hi : i = n.insts.length := by have := hge; simp at this; omega
    subst hi
    rw [List.take_length] at B
    simp (disch := first | omega | decide | (simp only [List.length_cons, List.length_nil] <;> omega)) only [push_cast, ↓reduceIte, Nat.reduceLT, Nat.reduceEqDiff, reduceCtorEq, Nat.reduceAdd, kn, kd, kt, hn, hd, h12, h9, h85, h86, h87']
    exact ⟨fun j h1 h2 => by rw [if_neg (by omega)]; exact kt j h1 (by simpa using h2), hnx, nm, ob, iv, B⟩


theorem aBuild2 (h : AH) (x y : Int) : aBuildSlice Try.prog 22 2 [(0, .int .i64 x), (1, .int .i64 y)] h = some (.slice (some ⟨h.next, 0, none⟩) 2 2, h.new (.row [.int .i64 x, .int .i64 y] 3 true)) := by
  obtain ⟨i, hi, h1, hb, hz⟩ := t22.info
  have hp : plain 9 (.int .i64 0) = true := rfl
  have hc : (Value.int .i64 0).cells.size = 1 := rfl
  have hl : (Value.int .i64 0).cells.toList = [.int .i64 0] := rfl
  have hx1 : ∀ z : Int, (Value.int .i64 z).cells.size = 1 := fun _ => rfl
  have hx2 : ∀ z : Int, (Value.int .i64 z).cells.toList = [.int .i64 z] := fun _ => rfl
  simp only [aBuildSlice, t22.sl, hi, hz, h1, hp, hc, fillL, hl, zeros_one]
  simp [SL, hx1, hx2, setL, oneC, List.replicate]

theorem FrSl.far {e : TypeId} {h0 h : AH} {v : Value} {vs : List Value} (hf : FrSl e h0 h v vs) : ∀ C off l c, v = .slice (some ⟨C, off, none⟩) l c → h0.next ≤ C := by
  intro C off l c e1
  obtain ⟨B, ⟨_, rfl⟩ | ⟨hne, rfl, _⟩, h2⟩ := hf
  · cases e1
  · cases e1; exact h2 hne

theorem insPins {h : AH} {pv nv : Value} {ps ns : List Int} {a : AAct} (hw0 : WFH h) (hn : a.n = 196) (hd : a.df = []) (hp : SlOf h pv (ps.map (.int .i64))) (hns : SlOf h nv (ns.map (.int .i64))) (hps : ∀ z ∈ ps, 0 ≤ z ∧ z < ns.length) (hpl : ps.length ≤ 8) (hnl : ns.length ≤ 8)
    (h144 : a.tm 144 = pv) (h145 : a.tm 145 = .int .i64 ps.length) (h146 : a.tm 146 = .int .i64 0) (h19 : a.tm 19 = nv) (h20 : a.tm 20 = .slice none 0 0) :
    AW Try.prog none (bodyBlk Try.f15 7) (fun e a' h' => e = .exit 7 ∧ a'.n = 196 ∧ a'.df = [] ∧ (∀ i, i < 146 → i ∉ [20, 22] → a'.tm i = a.tm i) ∧ Gr h h' ∧ FrSl 3 h h' (a'.tm 20) ((ps.map fun k => ns.getD k.toNat 0).map (.int .i64))) a h := by
  refine AW.at (rfl : bodyBlk Try.f15 7 = .loop _) ?_
  refine AW.loopN 146 [20, 22] (fun k a' h' => ∃ (i : Nat) (rv : Value), a'.tm 146 = .int .i64 i ∧ a'.tm 20 = rv ∧ i + k = ps.length ∧ Gr h h' ∧ FrSl 3 h h' rv (((ps.take i).map fun k => ns.getD k.toNat 0).map (.int .i64))) ps.length ?_ ?_
  · exact ⟨0, _, by rw [h146]; rfl, h20, by omega, Gr.refl hw0, FrSl.nil _ _ _⟩
  rintro a1 k a' h' hk kn kd kt ⟨i, rv, h146', h20', hik, hg, hf⟩
  simp (disch := first | omega | decide) only [push_cast, ↓reduceIte, Nat.reduceLT, Nat.reduceEqDiff, reduceCtorEq, Nat.reduceAdd, kn, kd, kt, hn, hd, h144, h145, h146', h19, h20']
  refine condV_of (fun hlt => ?_) (fun hge => ?_)
  · have hi : i < ps.length := by have := hlt; simp at this; omega
    have hz := hps _ (getD_mem hi 0)
    have hidx := (hp.sub hg.sub).idxI sl22 .i64 i (by omega) (by omega)
    have hld := (hp.sub hg.sub).ldI sl22 i (by omega)
    rw [Int.toNat_natCast] at hidx
    have htake : (ps.take (i + 1)).map (fun k => ns.getD k.toNat 0) = (ps.take i).map (fun k => ns.getD k.toNat 0) ++ [ns.getD (ps.getD i 0).toNat 0] := by rw [take_succ_getD hi 0, List.map_append]; rfl
    generalize ps.getD i 0 = z at *
    have hidx2 := (hns.sub hg.sub).idxI sl22 .i64 z (by omega) (by omega)
    have hld2 := (hns.sub hg.sub).ldI sl22 z.toNat (by omega)
    have happ := app1 t22 (t := 22) hg hf (by simp; omega) (by simp; omega) (.int .i64 (ns.getD z.toNat 0))
    have hw : IntKind.i64.wrap ((i : Int) + 1) = i + 1 := wrapI (by omega) (by omega)
    simp (disch := first | omega | decide) only [push_cast, ↓reduceIte, Nat.reduceLT, Nat.reduceEqDiff, reduceCtorEq, Nat.reduceAdd, kn, kd, kt, hn, hd, h144, h145, h146', h19, h20', hidx, hld, hidx2, hld2, aBuild1 t22 h' (x := .int .i64 (ns.getD z.toNat 0)) rfl rfl, happ, hw]
    refine ⟨k - 1, by omega, (by simp (disch := decide) only [Kp_put, put_none, hk]), i + 1, app1V h' (ps.take i).length, by simp (disch := first | omega | decide) only [push_cast, ↓reduceIte, Nat.reduceLT, Nat.reduceEqDiff, reduceCtorEq, Nat.reduceAdd], by simp (disch := first | omega | decide) only [push_cast, ↓reduceIte, Nat.reduceLT, Nat.reduceEqDiff, reduceCtorEq, Nat.reduceAdd], by omega, app1_gr hw0 hg hf, ?_⟩
    rw [htake, List.map_append]
    have := app1_fr (e := 3) (x := .int .i64 (ns.getD z.toNat 0)) (v := rv) hg (vs := ((ps.take i).map fun k => ns.getD k.toNat 0).map (.int .i64))
    simpa using this
  · have hi : i = ps.length := by have := hge; simp at this; omega
    subst hi
    rw [List.take_length] at hf
    simp (disch := first | omega | decide) only [push_cast, ↓reduceIte, Nat.reduceLT, Nat.reduceEqDiff, reduceCtorEq, Nat.reduceAdd, kn, kd, kt, hn, hd, h144, h145, h146', h19, h20']
    exact ⟨fun j h1 h2 => by rw [if_neg (by omega)]; exact kt j h1 (by simpa using h2), hg, hf⟩

theorem AW.keep {P : Program} {rd : Option Nat} {c : Code} {Q : Exit → AAct → AH → Prop} {a0 a : AAct} {h : AH} (lo : Nat) (X : List Nat) (hk : Kp lo X a0 a) (F : Kp lo X a0 a → AW P rd c Q a h) : AW P rd c Q a h := F hk

/-! ### What the steps keep -/

theorem insStep_flops (n : Net) (s : Int × Net) (i : Int) : (insStep n s i).2.flops.length = s.2.flops.length := by simp [insStep]
theorem insGo_keep (n : Net) : ∀ (ord : List Int) (s : Int × Net), (ord.foldl (insStep n) s).2.flops.length = s.2.flops.length ∧ (ord.foldl (insStep n) s).2.insts.length = s.2.insts.length + ord.length ∧ (ord.foldl (insStep n) s).2.inputs = s.2.inputs ∧ (ord.foldl (insStep n) s).2.cells = s.2.cells ∧ (ord.foldl (insStep n) s).2.outs = s.2.outs := by
  intro ord
  induction ord with
  | nil => intro s; simp
  | cons i is ih =>
    intro s
    obtain ⟨h1, h2, h3, h4, h5⟩ := ih (insStep n s i)
    rw [List.foldl_cons]
    refine ⟨by rw [h1, insStep_flops], by rw [h2]; simp [insStep]; omega, h3, h4, h5⟩

theorem insGo_before (n : Net) : ∀ (ord : List Int) (s : Int × Net), (∀ z ∈ ord, 0 ≤ z ∧ z < n.flops.length) → 0 ≤ n.inputs ∧ n.inputs ≤ 64 → n.flops.length ≤ 64 → (0 ≤ s.1 ∧ s.1 ≤ 256) → 0 ≤ (ord.foldl (insStep n) s).1 ∧ (ord.foldl (insStep n) s).1 ≤ 256 := by
  intro ord
  induction ord with
  | nil => intro s _ _ _ h; exact h
  | cons i is ih =>
    intro s hz h1 h2 h3
    rw [List.foldl_cons]
    have := hz i (List.mem_cons_self ..)
    exact ih _ (fun z hm => hz z (List.mem_cons_of_mem _ hm)) h1 h2 ⟨by simp only [insStep]; omega, by simp only [insStep]; omega⟩

theorem infB : ∃ i, Try.prog.info? 73 = some i ∧ i.size = instL.sz := ⟨(Try.prog.info? 73).get (by kernel_rfl), by kernel_rfl, by kernel_rfl⟩

def bindI (x : Int × List Int) : Inst := ⟨x.1, x.2⟩

theorem BindV.row {h : AH} {v : Value} {ob : Option AObj} {A : Nat} {bs : List (Int × List Int)} (hb : BindV h v ob A bs) (hl : bs.length ≤ 4294967296) : RowOf instL h v (bs.map bindI) := by
  obtain ⟨zs, h1, h2, h3⟩ := hb
  refine VecM.row (L := instL) (xs := bs.map bindI) (by rw [List.length_map]; exact h1) h2 (by simpa using hl) (fun i x hx => ?_)
  rw [List.getElem?_map, Option.map_eq_some_iff] at hx
  obtain ⟨y, hy, rfl⟩ := hx
  obtain ⟨pv, e, hs⟩ := h3 i y hy
  exact ⟨pv, e, hs⟩

set_option maxHeartbeats 8000000 in
theorem insOrd {b h : AH} {X T B0 : Nat} {n m : Net} {nm : Nat → Nat} {ob : Nat → Option AObj} {cv fv iv ov cv0 fv0 iv0 ov0 mv v : Value} {ord : List Int} {bs : List Inst} {a : AAct} (hn : a.n = 196) (hd : a.df = []) (hX : X < h.next) (w0 : WFH b) (r : NetR b n cv0 fv0 iv0 ov0) (hN : NetAt b B0 n cv0 fv0 iv0 ov0)
    (hv : SlOf b v (ord.map (.int .i64))) (hol : ord.length ≤ 64) (hord : ∀ z ∈ ord, 0 ≤ z ∧ z < n.flops.length) (hi0 : 0 ≤ n.inputs ∧ n.inputs ≤ 64) (hfl : n.flops.length ≤ 64) (hmf : m.flops.length = n.flops.length) (hml : m.insts.length ≤ 4096) (hmi : m.inputs = n.inputs + 2)
    (hmv : RowOf instL b mv bs) (hbs : bs ≠ []) (hpk : bs.getD 0 default = bindI (pick3 n)) (hpl : (pick3 n).2.length = 3) (hpz : ∀ z ∈ (pick3 n).2, 0 ≤ z ∧ z < 3)
    (B : Bld b h X T m nm ob cv fv iv ov) (h2 : a.tm 2 = .pointer (some ⟨B0, 0, none⟩)) (h7 : a.tm 7 = mv) (h12 : a.tm 12 = .pointer (some ⟨T, 0, none⟩)) (h9 : a.tm 9 = .func (.func 32) #[] #[.pointer (some ⟨B0, 0, none⟩)])
    (h10 : a.tm 10 = .int .i64 n.inputs) (h11 : a.tm 11 = .int .i64 (n.inputs + 1)) (h122 : a.tm 122 = v) (h123 : a.tm 123 = .int .i64 ord.length) (h124 : a.tm 124 = .int .i64 0) :
    AW Try.prog none (bodyBlk Try.f15 5) (fun e a' h' => e = .exit 5 ∧ a'.n = 196 ∧ a'.df = [] ∧ (∀ i, i < 124 → i ∉ [11, 18, 19, 20, 22] → a'.tm i = a.tm i) ∧ h.next ≤ h'.next ∧ a'.tm 11 = .int .i64 (ord.foldl (insStep n) (n.inputs + 1, m)).1 ∧
      ∃ nm' ob' fv' iv', Bld b h' X T (ord.foldl (insStep n) (n.inputs + 1, m)).2 nm' ob' cv fv' iv' ov) a h := by
  refine AW.at (rfl : bodyBlk Try.f15 5 = .loop _) ?_
  refine AW.loopN 124 [11, 18, 19, 20, 22] (fun k a' h' => ∃ (i : Nat) (nm : Nat → Nat) (ob : Nat → Option AObj) (fv iv : Value) (bf : Int), a'.tm 124 = .int .i64 i ∧ i + k = ord.length ∧ h.next ≤ h'.next ∧ a'.tm 11 = .int .i64 bf ∧ bf = ((ord.take i).foldl (insStep n) (n.inputs + 1, m)).1 ∧
      Bld b h' X T ((ord.take i).foldl (insStep n) (n.inputs + 1, m)).2 nm ob cv fv iv ov) ord.length ?_ ?_
  · exact ⟨0, nm, ob, fv, iv, _, by rw [h124]; rfl, by omega, Nat.le_refl _, h11, rfl, B⟩
  clear B nm ob fv iv
  rintro a1 k a' h' hk kn kd kt ⟨i, nm, ob, fv, iv, bf, h124', hik, hnx, h11', hbf, B⟩
  simp (disch := first | omega | decide) only [push_cast, ↓reduceIte, Nat.reduceLT, Nat.reduceEqDiff, reduceCtorEq, Nat.reduceAdd, kn, kd, kt, hn, hd, h2, h7, h9, h10, h12, h122, h123, h124', h11']
  refine condV_of (fun hlt => ?_) (fun hge => ?_)
  · have hi : i < ord.length := by have := hlt; simp at this; omega
    have hg := B.own.gr
    have hlo := B.lo
    obtain ⟨q1, q2, q3, q4, q5⟩ := insGo_keep n (ord.take i) (n.inputs + 1, m)
    have qb := insGo_before n (ord.take i) (n.inputs + 1, m) (fun z hz => hord z (List.mem_of_mem_take hz)) hi0 hfl ⟨by simp only; omega, by simp only; omega⟩
    rw [← hbf] at qb
    have hz := hord _ (getD_mem hi 0)
    have hfold : (ord.take (i + 1)).foldl (insStep n) (n.inputs + 1, m) = insStep n ((ord.take i).foldl (insStep n) (n.inputs + 1, m)) (ord.getD i 0) := by rw [take_succ_getD hi 0, List.foldl_append]; rfl
    have hidx := (hv.sub hg.sub).idxI sl22 .i64 i (by omega) (by omega)
    have hld := (hv.sub hg.sub).ldI sl22 i (by omega)
    rw [Int.toNat_natCast] at hidx
    generalize ord.getD i 0 = z at *
    have htl : (ord.take i).length = i := by rw [List.length_take]; omega
    rw [htl] at q2
    generalize hs : (ord.take i).foldl (insStep n) (n.inputs + 1, m) = s at *
    have hN1 := hN.sub hg.sub
    have hzl : z.toNat < n.flops.length := by omega
    obtain ⟨csf, hcsf, -, hff, hfa⟩ := r.f.get (P := Try.prog) hzl default
    have hcsf : csf = _ := hcsf
    subst hcsf
    have hff := aLoad_sub hg.sub (hff 0 _ fl3 (by decide))
    have g1 := (Gr.refl hg.wf).new (.row [.int .i64 (n.flops.getD z.toNat default).next] 3 true)
    have hsl1 : SlOf (h'.new (.row [.int .i64 (n.flops.getD z.toNat default).next] 3 true)) (.slice (some ⟨h'.next, 0, none⟩) 1 1) ([(n.flops.getD z.toNat default).next].map (.int .i64)) :=
      SlOf.lit (by rw [AH.new_get, if_pos rfl]) rfl rfl
    have hsh := shift (hN1.sub g1.sub) hsl1 (by simp)
    have hmv0 : 0 < bs.length := List.length_pos_iff.2 hbs
    have hbi : aIndexAddr Try.prog 67 mv (.int .i64 0) = some (slF instL.sz mv 0 0) := hmv.idx Try.underlying67 infB .i64 0 (by omega) (by omega)
    obtain ⟨bcs, ⟨pv, rfl, hpv⟩, -, hbl, hba⟩ := hmv.get (P := Try.prog) hmv0 default
    rw [hpk] at hbl hpv
    have hbl0 : aLoad Try.prog 3 (slF instL.sz mv 0 0) b = some (.int .i64 (pick3 n).1) := hbl 0 _ fl3 (by decide)
    have hbl1 : aLoad Try.prog 22 (slF instL.sz mv 0 1) b = some pv := hbl 1 _ flI (by decide)
    have hpv : SlOf b pv ((pick3 n).2.map (.int .i64)) := hpv
    have hba0 := hba _ _ _ foB0
    have hba1 := hba _ _ _ foB1
    simp (disch := first | omega | decide) only [push_cast, ↓reduceIte, Nat.reduceLT, Nat.reduceEqDiff, reduceCtorEq, Nat.reduceAdd, kn, kd, kt, hn, hd, h2, h7, h9, h10, h12, h122, h123, h124', h11', hidx, hld, faL foN0, faL foN1, faL foN2, faL foN3, faL foN4, hN1.l0, hN1.l1, hN1.l2, hN1.l3, hN1.l4, hN1.la, r.f.idx Try.underlying31 infF, hfa _ _ _ foF0, hff, aBuild1 t22 h' (x := .int .i64 (n.flops.getD z.toNat default).next) rfl rfl]
    have hnew : (h'.new (.row [.int .i64 (n.flops.getD z.toNat default).next] 3 true)).next = h'.next + 1 := rfl
    generalize h'.new (.row [.int .i64 (n.flops.getD z.toNat default).next] 3 true) = h1 at g1 hsh hnew ⊢
    refine ACall.mono ?_ hsh
    rintro sv k2 ⟨g2, obs, As, hsv, hslo⟩
    have g12 := g1.trans g2
    have g3 := (Gr.refl g2.wf).new (.row [.int .i64 bf, .int .i64 n.inputs] 3 true)
    have hsrc : srcCells 1 (.slice (some ⟨k2.next, 0, none⟩) 2 2) (k2.new (.row [.int .i64 bf, .int .i64 n.inputs] 3 true)) = some (2, [.int .i64 bf, .int .i64 n.inputs]) := by simp [srcCells, AH.new_get, AObj.cells?]
    obtain ⟨nv, k3, happ, hup⟩ := appendVs (t := 22) (t2 := 22) (ys := [.int .i64 bf, .int .i64 n.inputs]) t22 ⟨_, Try.underlying22⟩ g3.wf hsv.1 (fun o e => g3.sub _ _ (hsv.2 o e)) hsrc (by simp) rfl (by simp) (by simp)
    obtain ⟨An, on, hVn, hgn, hAn⟩ := hup.up
    have hNs : SlOf k3 nv (([shiftE n (n.flops.getD z.toNat default).next, bf, n.inputs]).map (.int .i64)) := by simpa using hVn.sl (fun o e => by cases e; exact hgn)
    have hg3 : Gr h' k3 := ⟨hup.wf, fun C o hC => hup.frx C o ((g12.sub.trans g3.sub) C o hC) (fun e => by
      cases hob : obs with
      | none => rfl
      | some o2 => have h8 := hslo o2 hob; have h9 := AH.get_lt hg.wf hC; omega), Nat.le_trans g12.nx (Nat.le_trans g3.nx hup.nx)⟩
    simp (disch := first | omega | decide) only [push_cast, ↓reduceIte, Nat.reduceLT, Nat.reduceEqDiff, reduceCtorEq, Nat.reduceAdd, kn, kd, kt, hn, hd, h2, h7, h9, h10, h12, h122, h123, h124', h11', aBuild2, happ, hbi, hba1, aLoad_sub (hg.sub.trans hg3.sub) hbl1, hpv.lenA Try.underlying22]
    refine AW.keep 124 [11, 18, 19, 20, 22] (a0 := a1) (by simp (disch := decide) only [Kp_put, put_none, hk]) (fun hkc => ?_)
    refine AW.mono ?_ (insPins (pv := pv) (nv := nv) (ps := (pick3 n).2) (ns := [shiftE n (n.flops.getD z.toNat default).next, bf, n.inputs]) hup.wf (by simp (disch := first | omega | decide) only [push_cast, ↓reduceIte, Nat.reduceLT, Nat.reduceEqDiff, reduceCtorEq, Nat.reduceAdd, kn, hn]) (by simp (disch := first | omega | decide) only [push_cast, ↓reduceIte, Nat.reduceLT, Nat.reduceEqDiff, reduceCtorEq, Nat.reduceAdd, kd, hd]) (hpv.sub (hg.sub.trans hg3.sub)) hNs (by simpa using hpz) (by omega) (by simp) (by simp (disch := first | omega | decide) only [push_cast, ↓reduceIte, Nat.reduceLT, Nat.reduceEqDiff, reduceCtorEq, Nat.reduceAdd]) (by simp (disch := first | omega | decide) only [push_cast, ↓reduceIte, Nat.reduceLT, Nat.reduceEqDiff, reduceCtorEq, Nat.reduceAdd]) (by simp (disch := first | omega | decide) only [push_cast, ↓reduceIte, Nat.reduceLT, Nat.reduceEqDiff, reduceCtorEq, Nat.reduceAdd]) (by simp (disch := first | omega | decide) only [push_cast, ↓reduceIte, Nat.reduceLT, Nat.reduceEqDiff, reduceCtorEq, Nat.reduceAdd]) (by simp (disch := first | omega | decide) only [push_cast, ↓reduceIte, Nat.reduceLT, Nat.reduceEqDiff, reduceCtorEq, Nat.reduceAdd]))
    rintro _ a4 k4 ⟨rfl, hn4, hd4, ht4, g4, hf4⟩
    have hk : Kp 124 [11, 18, 19, 20, 22] a1 a4 := Kp.trans hkc ⟨by rw [hn4]; simp (disch := first | omega | decide) only [push_cast, ↓reduceIte, Nat.reduceLT, Nat.reduceEqDiff, reduceCtorEq, Nat.reduceAdd, kn, hn], by rw [hd4]; simp (disch := first | omega | decide) only [push_cast, ↓reduceIte, Nat.reduceLT, Nat.reduceEqDiff, reduceCtorEq, Nat.reduceAdd, kd, hd], ht4⟩ (by decide) (by decide)
    have hg4 := hg3.trans g4
    have B4 := B.grown hg4
    have q3' : s.2.inputs = n.inputs + 2 := by rw [q3]; exact hmi
    have q1' : s.2.flops.length = n.flops.length := q1.trans hmf
    have q2' : s.2.insts.length ≤ 4096 + i := by rw [q2]; simp only; omega
    have hzt : ((z.toNat : Nat) : Int) = z := Int.toNat_of_nonneg hz.1
    have hw1 : IntKind.i64.wrap (n.inputs + 2 + s.2.flops.length) = n.inputs + 2 + s.2.flops.length := wrapI (by omega) (by omega)
    have hw2 : IntKind.i64.wrap (n.inputs + 2 + s.2.flops.length + s.2.insts.length) = n.inputs + 2 + s.2.flops.length + s.2.insts.length := wrapI (by omega) (by omega)
    have hw3 : IntKind.i64.wrap (n.inputs + 2 + z) = n.inputs + 2 + z := wrapI (by omega) (by omega)
    have hw4 : IntKind.i64.wrap ((i : Int) + 1) = i + 1 := wrapI (by omega) (by omega)
    obtain ⟨e1, e2, k5, ob5, e3, B5, n5, s5⟩ := B4.setF w0 (by omega) (i := z.toNat) (by omega) (n.inputs + 2 + s.2.flops.length + s.2.insts.length)
    rw [hzt] at e1
    have hM4 := B4.at
    have hM5 := B5.at
    have hfw := FrSl.wv hf4
    generalize hrv : a4.tm 20 = rv at *
    have hrv1 := hfw.one.2
    have hrel : (instW b.next).rel (away nm ob5 X k5) [Value.int .i64 (pick3 n).1, rv] (insInst n s z) := ⟨rv, rfl, by
      have := (awayWV (X := X) B.own (by omega) (hfw.le hg3.nx)).sub s5
      rw [hbf] at this; exact this⟩
    obtain ⟨e4, v', k6, k7, e5, e6, nm7, ob7, B7, n7, -, -⟩ := B5.pushI w0 hrel (by simp only; omega)
    have hM7 := B7.at
    have hl5 := B5.own.gr.sub
    simp (disch := first | omega | decide) only [push_cast, ↓reduceIte, Nat.reduceLT, Nat.reduceEqDiff, reduceCtorEq, Nat.reduceAdd, hn4, hd4, ht4, hrv, kn, kd, kt, hn, hd, h2, h7, h9, h10, h12, h122, h123, h124', h11', faL foN0, faL foN1, faL foN2, faL foN3, faL foN4, hM4.l0, hM4.l1, hM4.l2, hM4.l3, hM4.l4, hM4.la, B4.f.len Try.underlying31, B4.i.len Try.underlying32, q3', hw1, hw2, e1, e2, e3]
    refine AW.drawP (.take 0 [11, 10, 9, 1] (.take 1 [11, 10, 9] (.take 2 [11, 10, 9, 8, 7, 5, 4, 3] (.take 3 [11, 10, 9, 8, 7, 5, 4] (.take 4 [11, 10, 9, 8, 7, 5] (.take 5 [11, 10, 9, 8, 7] (.take 6 [11, 10, 9, 8, 7] (.take 7 [11, 10, 9, 8] (.only 8 (.only 9 (.take 10 [11] (.only 11 .done)))))))))))) [(0, 0), (0, 1), (0, 2), (0, 3), (0, 4), (0, 5), (0, 6), (0, 7), (2, 8), (2, 9), (0, 10), (2, 11)] mixed (by kernel_rfl) (by kernel_rfl) ?_
    simp (disch := first | omega | decide) only [push_cast, ↓reduceIte, Nat.reduceLT, Nat.reduceEqDiff, reduceCtorEq, Nat.reduceAdd, hn4, hd4, ht4, hrv, kn, kd, kt, hn, hd, h2, h7, h9, h10, h12, h122, h123, h124', h11', faL foN0, faL foN1, faL foN2, faL foN3, faL foN4, hM5.l0, hM5.l1, hM5.l2, hM5.l3, hM5.l4, hM5.la, hbi, hba0, aLoad_sub hl5 hbl0, buildI hrv1, e4, e5, e6, hM7.l0, hM7.l1, hM7.l2, hM7.l3, hM7.l4, hM7.la, q3', hw3, hw4]
    refine ⟨k - 1, by omega, (by simp (disch := decide) only [Kp_put, put_none, hk]), i + 1, nm7, ob7, fv, v', n.inputs + 2 + z, by simp (disch := first | omega | decide) only [push_cast, ↓reduceIte, Nat.reduceLT, Nat.reduceEqDiff, reduceCtorEq, Nat.reduceAdd], by omega, ?_, by simp (disch := first | omega | decide) only [push_cast, ↓reduceIte, Nat.reduceLT, Nat.reduceEqDiff, reduceCtorEq, Nat.reduceAdd], by rw [hfold]; rfl, by rw [hfold]; exact B7⟩
    have := hg4.nx
    omega
  · have hi : i = ord.length := by have := hge; simp at this; omega
    subst hi
    rw [List.take_length] at B hbf
    simp (disch := first | omega | decide) only [push_cast, ↓reduceIte, Nat.reduceLT, Nat.reduceEqDiff, reduceCtorEq, Nat.reduceAdd, kn, kd, kt, hn, hd, h2, h7, h9, h10, h12, h122, h123, h124', h11']
    exact ⟨fun j h1 h2 => by rw [if_neg (by omega)]; exact kt j h1 (by simpa using h2), hnx, by rw [hbf], nm, ob, fv, iv, B⟩


section
variable {b h : AH} {X T : Nat} {m : Net} {nm : Nat → Nat} {ob : Nat → Option AObj} {cv fv iv ov : Value}

/-- An output more. -/
theorem Bld.pushO (B : Bld b h X T m nm ob cv fv iv ov) (w0 : WFH b) (y : Int) (hb : m.outs.length ≤ 4294967296) :
    aBuildSlice Try.prog 22 1 [(0, .int .i64 y)] h = some (.slice (some ⟨h.next, 0, none⟩) 1 1, h.new (.row [.int .i64 y] 3 true)) ∧
    ∃ v' h' h'', aAppend Try.prog #[22, 22] ov (.slice (some ⟨h.next, 0, none⟩) 1 1) (h.new (.row [.int .i64 y] 3 true)) = some (v', h') ∧
      aStore Try.prog 22 (.pointer (some ⟨T, 4, none⟩)) v' h' = some h'' ∧ ∃ nm' ob', Bld b h'' X T { m with outs := m.outs ++ [y] } nm' ob' cv fv iv v' := by
  have g3 := (Gr.refl B.own.gr.wf).new (.row [.int .i64 y] 3 true)
  have B1 := B.grown g3
  have s1 : Sub (away nm ob X h) (away nm ob X (h.new (.row [.int .i64 y] 3 true))) := hide_mono (hide_mono g3.sub)
  have hB : (h.new (.row [.int .i64 y] 3 true)).get h.next = some (.row [.int .i64 y] 3 true) := by rw [AH.new_get, if_pos rfl]
  obtain ⟨v', h', happ, hup⟩ := appendV (t := 22) (t2 := 22) t22 ⟨_, Try.underlying22⟩ g3.wf B1.o (B1.own.get 3) hB rfl rfl (by simp; omega) (by simp; omega)
  obtain ⟨A', o', hV, hgA, hAA⟩ := hup.up
  obtain ⟨o2, s2⟩ := ownUp (r := 3) w0 B1.own hgA hAA hup.frx hup.wf hup.nx
  replace s2 : Sub (away nm ob X _) (away (upd nm 3 A') (upd ob 3 (some o')) X h') := hide_mono s2
  have h4 : upd ob 3 (some o') 4 = some (.row (netC m cv fv iv ov) 34 true) := by rw [upd_ne _ _ (by decide)]; exact B.at4
  have n4 : upd nm 3 A' 4 = T := by rw [upd_ne _ _ (by decide)]; exact B.t
  have hg := o2.get 4 _ h4
  rw [n4] at hg
  obtain ⟨o3, s3⟩ := ownSet (X := X) (o' := .row ((netC m cv fv iv ov).set 4 v') 34 true) w0 o2 h4
  rw [n4] at o3 s3
  have hv1 : v'.cells.toList = [v'] ∧ oneC v' = true := by
    obtain ⟨p, l, c, rfl, _⟩ := hV.sl (h := h') (fun o e => by cases e; exact hgA)
    exact ⟨rfl, rfl⟩
  refine ⟨aBuild1 t22 h (x := .int .i64 y) rfl rfl, v', h', _, happ, stC szI hg 4 v' (by simp [netC]) hv1.1 hv1.2, _, _, ⟨o3, n4, ?_, ?_, ?_, ?_, ?_⟩⟩
  · rw [upd_same]; rfl
  · rw [upd_ne _ _ (by decide), upd_ne _ _ (by decide), upd_ne _ _ (by decide)]; exact (B1.c.sub s2).sub s3
  · rw [upd_ne _ _ (by decide), upd_ne _ _ (by decide), upd_ne _ _ (by decide)]; exact (B1.f.sub s2).sub s3
  · rw [upd_ne _ _ (by decide), upd_ne _ _ (by decide), upd_ne _ _ (by decide)]; exact (B1.i.sub s2).sub s3
  · rw [upd_ne _ _ (by decide), upd_same, upd_same]; simpa using hV

theorem Bld.one (B : Bld b h X T m nm ob cv fv iv ov) : (netC m cv fv iv ov).all oneC = true := by
  have h5 : oneC ov = true := by
    obtain ⟨p, l, c, rfl, _⟩ := B.o.sl (h := h) (B.own.get 3)
    rfl
  simp only [netC, List.all_cons, List.all_nil, B.c.one.1, B.f.one.1, B.i.one.1, h5]; rfl

theorem Bld.net (B : Bld b h X T m nm ob cv fv iv ov) (hX : X < b.next) (o : AObj) (hc : m.cells.length ≤ 4294967296) (hf : m.flops.length ≤ 4294967296) (hi : m.insts.length ≤ 4294967296) : NetR (h.set X o) m cv fv iv ov := by
  have s : Sub (away nm ob X h) (h.set X o) := fun C p hC => by
    obtain ⟨h1, h2⟩ := hide_get.1 hC
    rw [AH.set_get, if_neg h1]; exact hide_sub _ _ _ _ h2
  have hg : ∀ r p, ob r = some p → (h.set X o).get (nm r) = some p := fun r p hr => by
    have := B.own.lo r p hr
    rw [AH.set_get, if_neg (by omega)]; exact B.own.get r p hr
  exact ⟨rowCellW ((B.c.sub s).row (hg 0) hc), (B.f.sub s).row (hg 1) hf, rowInstW ((B.i.sub s).row (hg 2) hi), B.o.sl (hg 3)⟩
end

/-! ### The netlist, laid -/

def insBase0 (n : Net) : Net := ⟨[], n.inputs + 2, n.flops, [], n.outs.map (shiftE n)⟩

theorem FlopsV.sub {h h' : AH} {v : Value} {ob : Option AObj} {A : Nat} {xs : List Flop} (hv : FlopsV h v ob A xs) (s : Sub h h') : FlopsV h' v ob A xs := by
  obtain ⟨zs, h1, h2, h3⟩ := hv
  exact ⟨zs, h1, fun o e => s _ _ (h2 o e), h3⟩
theorem IntsV.sub {h h' : AH} {v : Value} {ob : Option AObj} {A : Nat} {xs : List Int} (hv : IntsV h v ob A xs) (s : Sub h h') : IntsV h' v ob A xs := ⟨hv.1, fun o e => s _ _ (hv.2 o e)⟩
theorem FlopsV.one {h : AH} {v : Value} {ob : Option AObj} {A : Nat} {xs : List Flop} (hv : FlopsV h v ob A xs) : oneC v = true ∧ v.cells.toList = [v] := by
  obtain ⟨zs, h1, _⟩ := hv
  exact h1.one
theorem IntsV.one {h : AH} {v : Value} {ob : Option AObj} {A : Nat} {xs : List Int} (hv : IntsV h v ob A xs) : oneC v = true ∧ v.cells.toList = [v] := by
  obtain ⟨p, l, c, rfl, _⟩ := hv.sl
  exact ⟨rfl, rfl⟩

theorem FlopsV.lt {h : AH} {v : Value} {ob : Option AObj} {A : Nat} {xs : List Flop} (hv : FlopsV h v ob A xs) (w : WFH h) : ∀ o, ob = some o → A < h.next := fun o e => by
  obtain ⟨zs, h1, h2, _⟩ := hv
  exact AH.get_lt w (h2 o e)
theorem IntsV.lt {h : AH} {v : Value} {ob : Option AObj} {A : Nat} {xs : List Int} (hv : IntsV h v ob A xs) (w : WFH h) : ∀ o, ob = some o → A < h.next := fun o e => AH.get_lt w (hv.2 o e)
theorem NetAt.lt {h : AH} {B : Nat} {n : Net} {cv fv iv ov : Value} (r : NetAt h B n cv fv iv ov) (w : WFH h) : B < h.next := by
  obtain ⟨o, h1, _⟩ := r
  exact AH.get_lt w h1
theorem NetAt.keep {h h' : AH} {B T : Nat} {n : Net} {cv fv iv ov : Value} (r : NetAt h B n cv fv iv ov) (hk : ∀ C, C ≠ T → h'.get C = h.get C) (hne : B ≠ T) : NetAt h' B n cv fv iv ov := by
  obtain ⟨o, h1, h2⟩ := r
  exact ⟨o, by rw [hk B hne]; exact h1, h2⟩

theorem madeB {b h : AH} {X T AF AO : Nat} {n : Net} {fr ov : Value} {obF obO : Option AObj} (w0 : WFH b) (g : Gr b h) (hT : h.get T = some (.row zeroC 34 true)) (hTb : b.next ≤ T) (hF : FlopsV h fr obF AF n.flops) (hFb : ∀ o, obF = some o → b.next ≤ AF)
    (hO : IntsV h ov obO AO (n.outs.map (shiftE n))) (hOb : ∀ o, obO = some o → b.next ≤ AO) (d1 : ∀ o p, obF = some o → obO = some p → AF ≠ AO) (d2 : ∀ o, obF = some o → AF ≠ T) (d3 : ∀ o, obO = some o → AO ≠ T) :
    ∃ h', aStore Try.prog 34 (.pointer (some ⟨T, 0, none⟩)) (.agg #[.slice none 0 0, .int .i64 (n.inputs + 2), fr, .slice none 0 0, ov]) h = some h' ∧ h.next = h'.next ∧ (∀ C, C ≠ T → h'.get C = h.get C) ∧ ∃ nm ob, Bld b h' X T (insBase0 n) nm ob (.slice none 0 0) fr (.slice none 0 0) ov := by
  have hst := stA agN hT rfl [.slice none 0 0, .int .i64 (n.inputs + 2), fr, .slice none 0 0, ov] rfl (by simp only [List.all_cons, List.all_nil, hF.one.1, hO.one.1]; rfl)
  have hlt := AH.get_lt g.wf hT
  refine ⟨_, hst, by simp, fun C hC => by rw [AH.set_get, if_neg hC], fun r => if r = 1 then AF else if r = 3 then AO else T, fun r => if r = 1 then obF else if r = 3 then obO else if r = 4 then some (.row [.slice none 0 0, .int .i64 (n.inputs + 2), fr, .slice none 0 0, ov] 34 true) else none, ⟨⟨?_, ?_, ?_, g.set w0 hTb hlt _⟩, rfl, rfl, RowV.nil, ?_, RowV.nil, ?_⟩⟩
  · intro r o hr
    by_cases h1 : r = 1
    · subst h1
      simp only [if_true] at hr ⊢
      rw [AH.set_get, if_neg (d2 o hr)]
      obtain ⟨zs, _, h2, _⟩ := hF
      exact h2 o hr
    · by_cases h3 : r = 3
      · subst h3
        simp only [if_neg h1, if_true] at hr ⊢
        rw [AH.set_get, if_neg (d3 o hr)]
        exact hO.2 o hr
      · by_cases h4 : r = 4
        · subst h4
          simp only [if_neg h1, if_neg h3, if_true] at hr ⊢
          cases hr
          rw [AH.set_get, if_pos rfl]
        · simp only [if_neg h1, if_neg h3, if_neg h4] at hr; cases hr
  · intro r s o p hr hs hne
    by_cases h1 : r = 1
    · subst h1
      simp only [if_true] at hr ⊢
      rw [if_neg (fun e => hne e.symm)] at hs ⊢
      by_cases h3 : s = 3
      · subst h3; simp only [if_true] at hs ⊢; exact d1 _ _ hr hs
      · rw [if_neg h3]; exact d2 _ hr
    · rw [if_neg h1] at hr ⊢
      by_cases h3 : r = 3
      · subst h3
        simp only [if_true] at hr ⊢
        by_cases h5 : s = 1
        · subst h5; simp only [if_true] at hs ⊢; exact fun e => d1 _ _ hs hr e.symm
        · rw [if_neg h5, if_neg (fun e => hne e.symm)]; exact d3 _ hr
      · rw [if_neg h3] at hr ⊢
        by_cases h4 : r = 4
        · subst h4
          by_cases h5 : s = 1
          · subst h5; simp only [if_true] at hs ⊢; exact fun e => d2 _ hs e.symm
          · rw [if_neg h5] at hs ⊢
            by_cases h6 : s = 3
            · subst h6; simp only [if_true] at hs ⊢; exact fun e => d3 _ hs e.symm
            · rw [if_neg h6, if_neg (fun e => hne e.symm)] at hs; cases hs
        · rw [if_neg h4] at hr; cases hr
  · intro r o hr
    by_cases h1 : r = 1
    · subst h1; simp only [if_true] at hr ⊢; exact hFb o hr
    · rw [if_neg h1] at hr ⊢
      by_cases h3 : r = 3
      · subst h3; simp only [if_true] at hr ⊢; exact hOb o hr
      · rw [if_neg h3]; exact hTb
  · obtain ⟨zs, h1, h2, h3⟩ := hF
    exact ⟨zs, h1, h3⟩
  · exact hO.1

/-! ### Insert -/

noncomputable def insR (n : Net) (ord : List Int) : Net := open Classical in if insE n ord = 0 then insN n ord else zeroN

theorem rowNil {α : Type} {L : Lay α} {h : AH} : RowOf L h (.slice none 0 0) ([] : List α) := ⟨none, 0, 0, rfl, rfl, ⟨fun q e => (nomatch e), Nat.le_refl _, .inl (by unfold SL; omega)⟩, .inl rfl⟩

theorem zeroR (h : AH) : NetR h zeroN (.slice none 0 0) (.slice none 0 0) (.slice none 0 0) (.slice none 0 0) := ⟨rowNil, rowNil, rowNil, ⟨none, 0, 0, rfl, rfl, fun q e => (nomatch e), .inl rfl⟩⟩

/-- What of a netlist is one's own, from N on. -/
structure NetOwn (N : Nat) (h : AH) (m : Net) (cv iv ov : Value) : Prop where
  c : ∃ ob A, RowV (cellW N) 47 h cv ob A m.cells ∧ ∀ o, ob = some o → h.get A = some o
  i : ∃ ob A, RowV (instW N) 43 h iv ob A m.insts ∧ ∀ o, ob = some o → h.get A = some o
  o : WV 3 N h ov (m.outs.map (.int .i64))

theorem NetOwn.le {N M : Nat} {h : AH} {m : Net} {cv iv ov : Value} (w : NetOwn N h m cv iv ov) (hm : M ≤ N) : NetOwn M h m cv iv ov := by
  obtain ⟨⟨ob, A, a, b⟩, ⟨ob', A', a', b'⟩, c⟩ := w
  exact ⟨⟨ob, A, RowV.imp (L := cellW N) (L' := cellW M) rfl (fun _ _ ⟨dv, e, hd⟩ => ⟨dv, e, hd.le hm⟩) a, b⟩, ⟨ob', A', RowV.imp (L := instW N) (L' := instW M) rfl (fun _ _ ⟨dv, e, hd⟩ => ⟨dv, e, hd.le hm⟩) a', b'⟩, c.le hm⟩

theorem NetOwn.zero (N : Nat) (h : AH) : NetOwn N h zeroN (.slice none 0 0) (.slice none 0 0) (.slice none 0 0) :=
  ⟨⟨none, 0, RowV.nil, fun o e => (nomatch e)⟩, ⟨none, 0, RowV.nil, fun o e => (nomatch e)⟩, WV.nil⟩

theorem Bld.netOwn {b h : AH} {X T : Nat} {m : Net} {nm : Nat → Nat} {ob : Nat → Option AObj} {cv fv iv ov : Value} (B : Bld b h X T m nm ob cv fv iv ov) (hX : X < b.next) (o : AObj) : NetOwn b.next (h.set X o) m cv iv ov := by
  have s : Sub (away nm ob X h) (h.set X o) := fun C p hC => by
    obtain ⟨h1, h2⟩ := hide_get.1 hC
    rw [AH.set_get, if_neg h1]; exact hide_sub _ _ _ _ h2
  have hg : ∀ r p, ob r = some p → (h.set X o).get (nm r) = some p := fun r p hr => by
    have := B.own.lo r p hr
    rw [AH.set_get, if_neg (by omega)]; exact B.own.get r p hr
  exact ⟨⟨_, _, B.c.sub s, hg 0⟩, ⟨_, _, B.i.sub s, hg 2⟩, _, _, B.o, fun o e => ⟨hg 3 o e, B.own.lo 3 o e⟩⟩

def InsPost (n : Net) (ord : List Int) (h : AH) (r : Value) (h' : AH) : Prop :=
  Gr h h' ∧ ∃ cv fv iv ov, r = .tuple #[.agg (netC (insR n ord) cv fv iv ov).toArray, .int .i64 (insE n ord)] ∧ NetR h' (insR n ord) cv fv iv ov

def InsOwn (n : Net) (ord : List Int) (h : AH) (r : Value) (h' : AH) : Prop :=
  Gr h h' ∧ ∃ cv fv iv ov, r = .tuple #[.agg (netC (insR n ord) cv fv iv ov).toArray, .int .i64 (insE n ord)] ∧ NetR h' (insR n ord) cv fv iv ov ∧ NetOwn h.next h' (insR n ord) cv iv ov

theorem insFail {n : Net} {ord : List Int} {h k : AH} {X : Nat} (w0 : WFH h) (g : Gr h k) (hX : h.next ≤ X) (hXr : k.get X = some (.row zeroC 34 true)) (e : Int) (he : insE n ord = e) (hne : e ≠ 0) :
    aStore Try.prog 34 (.pointer (some ⟨X, 0, none⟩)) (.agg zeroC.toArray) k = some (k.set X (.row zeroC 34 true)) ∧
    aLoad Try.prog 34 (.pointer (some ⟨X, 0, none⟩)) (k.set X (.row zeroC 34 true)) = some (.agg zeroC.toArray) ∧
    InsOwn n ord h (.tuple #[.agg zeroC.toArray, .int .i64 e]) (k.set X (.row zeroC 34 true)) := by
  have hlt := AH.get_lt g.wf hXr
  refine ⟨stA agN hXr rfl _ rfl rfl, ldLA (by rw [AH.set_get, if_pos rfl]) rfl agN rfl, g.set w0 hX hlt _, .slice none 0 0, .slice none 0 0, .slice none 0 0, .slice none 0 0, ?_, ?_, ?_⟩
  · have : insR n ord = zeroN := by unfold insR; rw [if_neg (by rw [he]; exact hne)]
    rw [this, he]; rfl
  · have : insR n ord = zeroN := by unfold insR; rw [if_neg (by rw [he]; exact hne)]
    rw [this]; exact zeroR _
  · have : insR n ord = zeroN := by unfold insR; rw [if_neg (by rw [he]; exact hne)]
    rw [this]; exact NetOwn.zero _ _

theorem cellsE_len {l : List Cell} (h : (cellsE l).2 = 0) : l.length ≤ 32 := by
  unfold cellsE at h
  by_cases hl : l.length > 32
  · rw [if_pos hl] at h; simp at h
  · omega

theorem scanE_zero {n : Net} {ord : List Int} (h : scanE n ord = 0) : netE n = 0 ∧ IsPerm ord ∧ (ord.length : Int) = n.flops.length := by
  unfold scanE at h
  by_cases h1 : netE n = 0
  · rw [if_neg (by simpa using h1)] at h
    by_cases h2 : IsPerm ord ∧ (ord.length : Int) = n.flops.length
    · exact ⟨h1, h2⟩
    · rw [if_neg h2] at h; cases h
  · rw [if_pos h1] at h; exact absurd h h1

theorem matchGo_len {tt : Int} {N : Nat} (hN : N ≤ 4) : ∀ (l : List Cell) (j : Nat), (matchGo tt N j l).length ≤ 24 * l.length := by
  intro l
  induction l with
  | nil => intro j; simp [matchGo]
  | cons c cs ih =>
    intro j
    rw [matchGo, List.length_append, List.length_cons]
    have h1 := ih (j + 1)
    have h2 := cellM_le tt N c.table j (ext N N [])
    have h3 := ext_le hN
    by_cases hp : c.pins = N
    · rw [if_pos hp]; omega
    · rw [if_neg hp]; simp; omega

/-- Behind the netlist's laying. -/
def Made (n : Net) (v mv : Value) (B0 X : Nat) (b : AH) (a : AAct) (h : AH) : Prop :=
  a.n = 196 ∧ a.df = [] ∧ a.tm 1 = v ∧ a.tm 2 = .pointer (some ⟨B0, 0, none⟩) ∧ a.tm 4 = .pointer (some ⟨X, 0, none⟩) ∧ a.tm 7 = mv ∧ a.tm 9 = .func (.func 32) #[] #[.pointer (some ⟨B0, 0, none⟩)] ∧ a.tm 10 = .int .i64 n.inputs ∧ a.tm 11 = .int .i64 (n.inputs + 1) ∧
  ∃ T nm ob fr orr, a.tm 12 = .pointer (some ⟨T, 0, none⟩) ∧ Bld b h X T (insBase0 n) nm ob (.slice none 0 0) fr (.slice none 0 0) orr

theorem insertO {h : AH} {n : Net} {cv fv iv ov v : Value} {ord : List Int} (r : NetR h n cv fv iv ov) (ok : NetOK n) (hv : SlOf h v (ord.map (.int .i64))) (hb : ord.length ≤ 17592186043904) :
    ACall Try.prog 15 [.agg (netC n cv fv iv ov).toArray, v] h (InsOwn n ord h) := by
  refine ACall.wf ⟨_, Try.func15, rfl, by kernel_rfl⟩ fun hwf => ?_
  refine ACall.of_wp 196 [.cell 4 34, .tmp 5] Try.func15 rfl (by kernel_rfl) rfl rfl fun a hn hd ha => ?_
  have hbox := boxA 34 h _ r.one
  have hN := NetAt.new (h := h) (n := n) (cv := cv) (fv := fv) (iv := iv) (ov := ov)
  have g1 : Gr h (h.new (.row (netC n cv fv iv ov) 34 true)) := (Gr.refl hwf).new _
  have hnx : (h.new (.row (netC n cv fv iv ov) 34 true)).next = h.next + 1 := rfl
  simp (disch := first | omega | decide) only [push_cast, ↓reduceIte, Nat.reduceLT, Nat.reduceEqDiff, reduceCtorEq, Nat.reduceAdd, hn, hd, ha, hbox, alL zrN]
  generalize h.new (.row (netC n cv fv iv ov) 34 true) = h1 at hN g1 hnx ⊢
  have g2 := (Gr.refl g1.wf).new (.row zeroC 34 true)
  have hX : (h1.new (.row zeroC 34 true)).get h1.next = some (.row zeroC 34 true) := by rw [AH.new_get, if_pos rfl]
  have hXlo : h.next ≤ h1.next := by omega
  replace g2 := g1.trans g2
  have hN2 := hN.sub (Sub.new g1.wf (.row zeroC 34 true))
  generalize h1.new (.row zeroC 34 true) = h2 at g2 hX hN2 ⊢
  generalize h1.next = X at hX hXlo ⊢
  generalize h.next = B0 at hN2 ⊢
  clear hN g1 hnx h1
  have r2 := r.sub g2.sub
  have hv2 := hv.sub g2.sub
  simp (disch := first | omega | decide) only [push_cast, ↓reduceIte, Nat.reduceLT, Nat.reduceEqDiff, reduceCtorEq, Nat.reduceAdd, hn, hd, ha, hN2.l0, hN2.l1, hN2.l2, hN2.l3, hN2.l4, hN2.la]
  refine ACall.mono ?_ (scanCheck r2 ok hv2 hb)
  rintro _ h2 ⟨rfl, rfl⟩
  simp (disch := first | omega | decide) only [push_cast, ↓reduceIte, Nat.reduceLT, Nat.reduceEqDiff, reduceCtorEq, Nat.reduceAdd, hn, hd, ha]
  refine condV_not (fun e0 => ?_) (fun e0 => ?_)
  · have e : ¬ scanE n ord = 0 := by simpa using e0
    obtain ⟨f1, f2, f3⟩ := insFail (n := n) (ord := ord) hwf g2 hXlo hX (scanE n ord) (by rw [insE, if_pos e]) e
    simp (disch := first | omega | decide) only [push_cast, ↓reduceIte, Nat.reduceLT, Nat.reduceEqDiff, reduceCtorEq, Nat.reduceAdd, hn, hd, ha, buildN0, f1, f2]
    exact f3
  have e : scanE n ord = 0 := by simpa using e0
  obtain ⟨hnet, hperm, hol⟩ := scanE_zero e
  have s := ShapeOK.of (netE_zero.1 hnet).1
  have hcl := cellsE_len s.cells
  have hi0 := s.i0
  have hi1 := s.i1
  have hfl := s.fl
  have houl := s.ol
  have hil := s.il
  simp (disch := first | omega | decide) only [push_cast, ↓reduceIte, Nat.reduceLT, Nat.reduceEqDiff, reduceCtorEq, Nat.reduceAdd, hn, hd, ha, e, faL foN0, faL foN1, faL foN2, faL foN3, faL foN4, hN2.l0, hN2.l1, hN2.l2, hN2.l3, hN2.l4, hN2.la]
  refine ACall.mono ?_ (matchN (tt := 202) (N := 3) r2.c ok.cell (by decide) (by decide) (by decide) (by omega))
  rintro _ h3 ⟨g3, mv, rfl, obm, Am, hbv⟩
  have gb := g2.trans g3
  have hX3 := g3.sub _ _ hX
  have hN3 := hN2.sub g3.sub
  have r3 := r2.sub g3.sub
  have hv3 := hv2.sub g3.sub
  by_cases hm : ¬ matchE n.cells 202 3 = 0
  · obtain ⟨f1, f2, f3⟩ := insFail (n := n) (ord := ord) hwf gb hXlo hX3 20 (by rw [insE, if_neg (by simpa using e), if_pos (.inl hm)]) (by decide)
    simp (disch := first | omega | decide) only [push_cast, ↓reduceIte, Nat.reduceLT, Nat.reduceEqDiff, reduceCtorEq, Nat.reduceAdd, hn, hd, ha, hm, buildN0, f1, f2]
    exact f3
  replace hm : matchE n.cells 202 3 = 0 := Classical.not_not.1 hm
  rw [if_pos hm] at hbv
  have hlen : ∀ h, aLen Try.prog 67 mv h = some (.int .i64 (matchGo 202 3 0 n.cells).length) := by
    obtain ⟨zs, hV, _⟩ := hbv
    exact VecM.len hV Try.underlying67
  by_cases hl : matchGo 202 3 0 n.cells = []
  · obtain ⟨f1, f2, f3⟩ := insFail (n := n) (ord := ord) hwf gb hXlo hX3 20 (by rw [insE, if_neg (by simpa using e), if_pos (.inr hl)]) (by decide)
    simp (disch := first | omega | decide) only [push_cast, ↓reduceIte, Nat.reduceLT, Nat.reduceEqDiff, reduceCtorEq, Nat.reduceAdd, hn, hd, ha, hm, hlen, hl, List.length_nil, Int.natCast_zero, Int.ofNat_zero, buildN0, f1, f2]
    exact f3
  have hl0 : ¬ (((matchGo 202 3 0 n.cells).length : Int) = 0) := fun x => hl (List.eq_nil_of_length_eq_zero (by omega))
  have hw0 : IntKind.i64.wrap (n.inputs + 2) = n.inputs + 2 := wrapI (by omega) (by omega)
  have hw1 : IntKind.i64.wrap (n.inputs + 1) = n.inputs + 1 := wrapI (by omega) (by omega)
  have hw2 : IntKind.i64.wrap ((n.insts.length : Int) + n.flops.length) = n.insts.length + n.flops.length := wrapI (by omega) (by omega)
  by_cases hbig : n.inputs + 2 > 64 ∨ (n.outs.length : Int) ≥ 64 ∨ ((n.insts.length : Int) + n.flops.length > 4096)
  · obtain ⟨f1, f2, f3⟩ := insFail (n := n) (ord := ord) hwf gb hXlo hX3 5 (by rw [insE, if_neg (by simpa using e), if_neg (by rintro (x | x); exact x hm; exact hl x), if_pos hbig]) (by decide)
    by_cases c1 : n.inputs + 2 > 64
    · simp (disch := first | omega | decide) only [push_cast, ↓reduceIte, Nat.reduceLT, Nat.reduceEqDiff, reduceCtorEq, Nat.reduceAdd, hn, hd, ha, hm, hlen, hl0, faL foN0, faL foN1, faL foN2, faL foN3, faL foN4, hN3.l0, hN3.l1, hN3.l2, hN3.l3, hN3.l4, hN3.la, hw0, c1, buildN0, f1, f2]
      exact f3
    by_cases c2 : (n.outs.length : Int) ≥ 64
    · simp (disch := first | omega | decide) only [push_cast, ↓reduceIte, Nat.reduceLT, Nat.reduceEqDiff, reduceCtorEq, Nat.reduceAdd, hn, hd, ha, hm, hlen, hl0, faL foN0, faL foN1, faL foN2, faL foN3, faL foN4, hN3.l0, hN3.l1, hN3.l2, hN3.l3, hN3.l4, hN3.la, hw0, c1, c2, r3.o.lenA Try.underlying22, buildN0, f1, f2]
      exact f3
    have c3 : (n.insts.length : Int) + n.flops.length > 4096 := by
      rcases hbig with x | x | x
      · exact absurd x c1
      · exact absurd x c2
      · exact x
    simp (disch := first | omega | decide) only [push_cast, ↓reduceIte, Nat.reduceLT, Nat.reduceEqDiff, reduceCtorEq, Nat.reduceAdd, hn, hd, ha, hm, hlen, hl0, faL foN0, faL foN1, faL foN2, faL foN3, faL foN4, hN3.l0, hN3.l1, hN3.l2, hN3.l3, hN3.l4, hN3.la, hw0, hw2, c1, c2, c3, r3.o.lenA Try.underlying22, r3.i.len Try.underlying32, r3.f.len Try.underlying31, buildN0, f1, f2]
    exact f3
  have he : insE n ord = 0 := by rw [insE, if_neg (by simpa using e), if_neg (by rintro (x | x); exact x hm; exact hl x), if_neg hbig]
  have c1 : ¬ n.inputs + 2 > 64 := fun x => hbig (.inl x)
  have c2 : ¬ (n.outs.length : Int) ≥ 64 := fun x => hbig (.inr (.inl x))
  have c3 : ¬ (n.insts.length : Int) + n.flops.length > 4096 := fun x => hbig (.inr (.inr x))
  simp (disch := first | omega | decide) only [push_cast, ↓reduceIte, Nat.reduceLT, Nat.reduceEqDiff, reduceCtorEq, Nat.reduceAdd, hn, hd, ha, hm, hlen, hl0, faL foN0, faL foN1, faL foN2, faL foN3, faL foN4, hN3.l0, hN3.l1, hN3.l2, hN3.l3, hN3.l4, hN3.la, hw0, hw2, c1, c2, c3, r3.o.lenA Try.underlying22, r3.i.len Try.underlying32, r3.f.len Try.underlying31]
  refine AW.drawT (.take 0 [6, 5, 1] (.take 1 [6, 5] (.take 2 [6, 4, 3] (.take 3 [6, 4] (.take 4 [6] (.take 5 [6] (.take 6 [] .done))))))) [0, 0, 0, 0, 0, 0, 0] mixed (by kernel_rfl) (by kernel_rfl) ?_
  simp (disch := first | omega | decide) only [push_cast, ↓reduceIte, Nat.reduceLT, Nat.reduceEqDiff, reduceCtorEq, Nat.reduceAdd, hn, hd, ha, faL foN0, faL foN1, faL foN2, faL foN3, faL foN4, hN3.l0, hN3.l1, hN3.l2, hN3.l3, hN3.l4, hN3.la, hw1]
  refine AW.mono (Q := fun e a' h' => e = .normal ∧ Made n v mv B0 X h3 a' h') ?_ ?_
  case refine_2 =>
    refine AW.drawX (.take 0 [12, 10, 2, 1] (.take 3 [12, 10, 9, 5, 4] (.take 4 [12, 10, 9, 5] (.take 6 [12, 10, 9] (.take 7 [12, 10, 9, 8] (.watch 1 [12, 10, 2] (.take 2 [12, 10] (.watch 8 [12, 10, 9] (.two 5 (.two 9 (.take 10 [12] (.only 11 (.only 12 .done))) 11 (.only 9 (.take 10 [12] (.only 12 .done)))) 11 (.only 5 (.only 9 (.take 10 [12] (.only 12 .done))))))))))))) (.step 0 0 (.step 0 3 (.step 0 4 (.step 0 6 (.step 0 7 (.step 1 1 (.step 0 2 (.step 1 8 (.two 5 (.two 9 (.step 0 10 (.step 2 11 (.step 2 12 .nil))) 11 (.step 2 9 (.step 0 10 (.step 2 12 .nil)))) 11 (.step 2 5 (.step 2 9 (.step 0 10 (.step 2 12 .nil))))))))))))) mixed (by kernel_rfl) rfl ?_
    simp (disch := first | omega | decide) only [push_cast, ↓reduceIte, Nat.reduceLT, Nat.reduceEqDiff, reduceCtorEq, Nat.reduceAdd, hn, hd, ha, faL foN0, faL foN1, faL foN2, faL foN3, faL foN4, hN3.l0, hN3.l1, hN3.l2, hN3.l3, hN3.l4, hN3.la, hw0]
    refine ⟨?_, ?_⟩
    · refine ACall.mono ?_ (cloneF r3.f (by omega))
      rintro fr k1 ⟨gk1, obF, AF, hF, hFlo⟩
      have hN4 := hN3.sub gk1.sub
      simp (disch := first | omega | decide) only [push_cast, ↓reduceIte, Nat.reduceLT, Nat.reduceEqDiff, reduceCtorEq, Nat.reduceAdd, hn, hd, ha, faL foN0, faL foN1, faL foN2, faL foN3, faL foN4, hN4.l0, hN4.l1, hN4.l2, hN4.l3, hN4.l4, hN4.la, hw0]
      refine ⟨?_, ?_⟩
      · refine ACall.mono ?_ (shift hN4 (r3.o.sub gk1.sub) (by omega))
        rintro orr k2 ⟨gk2, obO, AO, hO, hOlo⟩
        have hN5 := hN4.sub gk2.sub
        have s3 := Sub.new gk2.wf (.row zeroC 34 true)
        have hN6 := hN5.sub s3
        have hT : (k2.new (.row zeroC 34 true)).get k2.next = some (.row zeroC 34 true) := by rw [AH.new_get, if_pos rfl]
        have hBl := hN5.lt gk2.wf
        have hFl := hF.lt gk1.wf
        have hOl := hO.lt gk2.wf
        have nk1 := gk1.nx
        have nk2 := gk2.nx
        obtain ⟨k4, est, nx4, keep4, nm, ob, B⟩ := madeB (X := X) gb.wf ((gk1.trans gk2).new (.row zeroC 34 true)) hT (by omega) (hF.sub (gk2.sub.trans s3)) hFlo (hO.sub s3) (fun o e => by have := hOlo o e; omega)
          (fun o p e1 e2 => by have := hFl o e1; have := hOlo p e2; omega) (fun o e => by have := hFl o e; omega) (fun o e => by have := hOl o e; omega)
        have hN7 := hN6.keep keep4 (by omega)
        simp (disch := first | omega | decide) only [push_cast, ↓reduceIte, Nat.reduceLT, Nat.reduceEqDiff, reduceCtorEq, Nat.reduceAdd, hn, hd, ha, faL foN0, faL foN1, faL foN2, faL foN3, faL foN4, hN5.l0, hN5.l1, hN5.l2, hN5.l3, hN5.l4, hN5.la, hN6.l0, hN6.l1, hN6.l2, hN6.l3, hN6.l4, hN6.la, hN7.l0, hN7.l1, hN7.l2, hN7.l3, hN7.l4, hN7.la, hw0, buildN hF.one.2 hO.one.2, alL zrN, est]
        exact ⟨by simp (disch := first | omega | decide) only [push_cast, ↓reduceIte, Nat.reduceLT, Nat.reduceEqDiff, reduceCtorEq, Nat.reduceAdd, hn], by simp (disch := first | omega | decide) only [push_cast, ↓reduceIte, Nat.reduceLT, Nat.reduceEqDiff, reduceCtorEq, Nat.reduceAdd, hd], by simp (disch := first | omega | decide) only [push_cast, ↓reduceIte, Nat.reduceLT, Nat.reduceEqDiff, reduceCtorEq, Nat.reduceAdd, ha], by simp (disch := first | omega | decide) only [push_cast, ↓reduceIte, Nat.reduceLT, Nat.reduceEqDiff, reduceCtorEq, Nat.reduceAdd], by simp (disch := first | omega | decide) only [push_cast, ↓reduceIte, Nat.reduceLT, Nat.reduceEqDiff, reduceCtorEq, Nat.reduceAdd], by simp (disch := first | omega | decide) only [push_cast, ↓reduceIte, Nat.reduceLT, Nat.reduceEqDiff, reduceCtorEq, Nat.reduceAdd], by simp (disch := first | omega | decide) only [push_cast, ↓reduceIte, Nat.reduceLT, Nat.reduceEqDiff, reduceCtorEq, Nat.reduceAdd], by simp (disch := first | omega | decide) only [push_cast, ↓reduceIte, Nat.reduceLT, Nat.reduceEqDiff, reduceCtorEq, Nat.reduceAdd], by simp (disch := first | omega | decide) only [push_cast, ↓reduceIte, Nat.reduceLT, Nat.reduceEqDiff, reduceCtorEq, Nat.reduceAdd], _, nm, ob, fr, orr, by simp (disch := first | omega | decide) only [push_cast, ↓reduceIte, Nat.reduceLT, Nat.reduceEqDiff, reduceCtorEq, Nat.reduceAdd], B⟩
      · have s2 := Sub.new gk1.wf (.row zeroC 34 true)
        have gk2 := (Gr.refl gk1.wf).new (.row zeroC 34 true)
        have hN5 := hN4.sub s2
        have hT0 : (k1.new (.row zeroC 34 true)).get k1.next = some (.row zeroC 34 true) := by rw [AH.new_get, if_pos rfl]
        have hnx2 : (k1.new (.row zeroC 34 true)).next = k1.next + 1 := rfl
        have hFl := hF.lt gk1.wf
        have hBl := hN4.lt gk1.wf
        have hsh := shift hN5 ((r3.o.sub gk1.sub).sub s2) (by omega)
        simp (disch := first | omega | decide) only [push_cast, ↓reduceIte, Nat.reduceLT, Nat.reduceEqDiff, reduceCtorEq, Nat.reduceAdd, hn, hd, ha, faL foN0, faL foN1, faL foN2, faL foN3, faL foN4, hN5.l0, hN5.l1, hN5.l2, hN5.l3, hN5.l4, hN5.la, hw0, alL zrN]
        generalize k1.new (.row zeroC 34 true) = k2 at s2 gk2 hN5 hT0 hnx2 hsh ⊢
        refine ACall.mono ?_ hsh
        rintro orr k3 ⟨gk3, obO, AO, hO, hOlo⟩
        have hN6 := hN5.sub gk3.sub
        have hOl := hO.lt gk3.wf
        have nk1 := gk1.nx
        have nk3 := gk3.nx
        obtain ⟨k4, est, nx4, keep4, nm, ob, B⟩ := madeB (X := X) gb.wf ((gk1.trans gk2).trans gk3) (gk3.sub _ _ hT0) (by omega) (hF.sub (gk2.sub.trans gk3.sub)) hFlo hO (fun o e => by have := hOlo o e; omega)
          (fun o p e1 e2 => by have := hFl o e1; have := hOlo p e2; omega) (fun o e => by have := hFl o e; omega) (fun o e => by have := hOlo o e; omega)
        have hN7 := hN6.keep keep4 (by omega)
        simp (disch := first | omega | decide) only [push_cast, ↓reduceIte, Nat.reduceLT, Nat.reduceEqDiff, reduceCtorEq, Nat.reduceAdd, hn, hd, ha, faL foN0, faL foN1, faL foN2, faL foN3, faL foN4, hN6.l0, hN6.l1, hN6.l2, hN6.l3, hN6.l4, hN6.la, hN7.l0, hN7.l1, hN7.l2, hN7.l3, hN7.l4, hN7.la, hw0, buildN hF.one.2 hO.one.2, est]
        exact ⟨by simp (disch := first | omega | decide) only [push_cast, ↓reduceIte, Nat.reduceLT, Nat.reduceEqDiff, reduceCtorEq, Nat.reduceAdd, hn], by simp (disch := first | omega | decide) only [push_cast, ↓reduceIte, Nat.reduceLT, Nat.reduceEqDiff, reduceCtorEq, Nat.reduceAdd, hd], by simp (disch := first | omega | decide) only [push_cast, ↓reduceIte, Nat.reduceLT, Nat.reduceEqDiff, reduceCtorEq, Nat.reduceAdd, ha], by simp (disch := first | omega | decide) only [push_cast, ↓reduceIte, Nat.reduceLT, Nat.reduceEqDiff, reduceCtorEq, Nat.reduceAdd], by simp (disch := first | omega | decide) only [push_cast, ↓reduceIte, Nat.reduceLT, Nat.reduceEqDiff, reduceCtorEq, Nat.reduceAdd], by simp (disch := first | omega | decide) only [push_cast, ↓reduceIte, Nat.reduceLT, Nat.reduceEqDiff, reduceCtorEq, Nat.reduceAdd], by simp (disch := first | omega | decide) only [push_cast, ↓reduceIte, Nat.reduceLT, Nat.reduceEqDiff, reduceCtorEq, Nat.reduceAdd], by simp (disch := first | omega | decide) only [push_cast, ↓reduceIte, Nat.reduceLT, Nat.reduceEqDiff, reduceCtorEq, Nat.reduceAdd], by simp (disch := first | omega | decide) only [push_cast, ↓reduceIte, Nat.reduceLT, Nat.reduceEqDiff, reduceCtorEq, Nat.reduceAdd], _, nm, ob, fr, orr, by simp (disch := first | omega | decide) only [push_cast, ↓reduceIte, Nat.reduceLT, Nat.reduceEqDiff, reduceCtorEq, Nat.reduceAdd], B⟩
    · have s1 := Sub.new gb.wf (.row zeroC 34 true)
      have gk1 := (Gr.refl gb.wf).new (.row zeroC 34 true)
      have hN4 := hN3.sub s1
      have hT0 : (h3.new (.row zeroC 34 true)).get h3.next = some (.row zeroC 34 true) := by rw [AH.new_get, if_pos rfl]
      have hnx1 : (h3.new (.row zeroC 34 true)).next = h3.next + 1 := rfl
      have hBl := hN3.lt gb.wf
      have hcf := cloneF (r3.f.sub s1) (by omega)
      simp (disch := first | omega | decide) only [push_cast, ↓reduceIte, Nat.reduceLT, Nat.reduceEqDiff, reduceCtorEq, Nat.reduceAdd, hn, hd, ha, faL foN0, faL foN1, faL foN2, faL foN3, faL foN4, hN4.l0, hN4.l1, hN4.l2, hN4.l3, hN4.l4, hN4.la, hw0, alL zrN]
      generalize h3.new (.row zeroC 34 true) = k1 at s1 gk1 hN4 hT0 hnx1 hcf ⊢
      refine ACall.mono ?_ hcf
      rintro fr k2 ⟨gk2, obF, AF, hF, hFlo⟩
      have hN5 := hN4.sub gk2.sub
      simp (disch := first | omega | decide) only [push_cast, ↓reduceIte, Nat.reduceLT, Nat.reduceEqDiff, reduceCtorEq, Nat.reduceAdd, hn, hd, ha, faL foN0, faL foN1, faL foN2, faL foN3, faL foN4, hN5.l0, hN5.l1, hN5.l2, hN5.l3, hN5.l4, hN5.la, hw0]
      refine ACall.mono ?_ (shift hN5 ((r3.o.sub s1).sub gk2.sub) (by omega))
      rintro orr k3 ⟨gk3, obO, AO, hO, hOlo⟩
      have hN6 := hN5.sub gk3.sub
      have hFl := hF.lt gk2.wf
      have hOl := hO.lt gk3.wf
      have nk2 := gk2.nx
      have nk3 := gk3.nx
      obtain ⟨k4, est, nx4, keep4, nm, ob, B⟩ := madeB (X := X) gb.wf ((gk1.trans gk2).trans gk3) (gk3.sub _ _ (gk2.sub _ _ hT0)) (Nat.le_refl _) (hF.sub gk3.sub) (fun o e => by have := hFlo o e; omega) hO (fun o e => by have := hOlo o e; omega)
        (fun o p e1 e2 => by have := hFl o e1; have := hOlo p e2; omega) (fun o e => by have := hFlo o e; omega) (fun o e => by have := hOlo o e; omega)
      have hN7 := hN6.keep keep4 (by omega)
      simp (disch := first | omega | decide) only [push_cast, ↓reduceIte, Nat.reduceLT, Nat.reduceEqDiff, reduceCtorEq, Nat.reduceAdd, hn, hd, ha, faL foN0, faL foN1, faL foN2, faL foN3, faL foN4, hN6.l0, hN6.l1, hN6.l2, hN6.l3, hN6.l4, hN6.la, hN7.l0, hN7.l1, hN7.l2, hN7.l3, hN7.l4, hN7.la, hw0, buildN hF.one.2 hO.one.2, est]
      exact ⟨by simp (disch := first | omega | decide) only [push_cast, ↓reduceIte, Nat.reduceLT, Nat.reduceEqDiff, reduceCtorEq, Nat.reduceAdd, hn], by simp (disch := first | omega | decide) only [push_cast, ↓reduceIte, Nat.reduceLT, Nat.reduceEqDiff, reduceCtorEq, Nat.reduceAdd, hd], by simp (disch := first | omega | decide) only [push_cast, ↓reduceIte, Nat.reduceLT, Nat.reduceEqDiff, reduceCtorEq, Nat.reduceAdd, ha], by simp (disch := first | omega | decide) only [push_cast, ↓reduceIte, Nat.reduceLT, Nat.reduceEqDiff, reduceCtorEq, Nat.reduceAdd], by simp (disch := first | omega | decide) only [push_cast, ↓reduceIte, Nat.reduceLT, Nat.reduceEqDiff, reduceCtorEq, Nat.reduceAdd], by simp (disch := first | omega | decide) only [push_cast, ↓reduceIte, Nat.reduceLT, Nat.reduceEqDiff, reduceCtorEq, Nat.reduceAdd], by simp (disch := first | omega | decide) only [push_cast, ↓reduceIte, Nat.reduceLT, Nat.reduceEqDiff, reduceCtorEq, Nat.reduceAdd], by simp (disch := first | omega | decide) only [push_cast, ↓reduceIte, Nat.reduceLT, Nat.reduceEqDiff, reduceCtorEq, Nat.reduceAdd], by simp (disch := first | omega | decide) only [push_cast, ↓reduceIte, Nat.reduceLT, Nat.reduceEqDiff, reduceCtorEq, Nat.reduceAdd], _, nm, ob, fr, orr, by simp (disch := first | omega | decide) only [push_cast, ↓reduceIte, Nat.reduceLT, Nat.reduceEqDiff, reduceCtorEq, Nat.reduceAdd], B⟩
  have hXb : X < h3.next := AH.get_lt gb.wf hX3
  have hdl : ∀ c ∈ n.cells, c.delay.length ≤ 4294967296 := fun c hc => by have := checkE_pins (cellsE_zero s.cells c hc); omega
  have hpl : ∀ x ∈ n.insts, x.pins.length ≤ 4294967296 := fun x hx => by have := s.pins4 hx; omega
  clear ha hn hd a
  rintro _ a h4 ⟨rfl, hn, hd, h1, h2, ht4, h7, h9, h10, h11, T, nm, ob, fr, orr, h12, B⟩
  have hN4 := hN3.sub B.own.gr.sub
  have n4 := B.own.gr.nx
  simp (disch := first | omega | decide) only [push_cast, ↓reduceIte, Nat.reduceLT, Nat.reduceEqDiff, reduceCtorEq, Nat.reduceAdd, hn, hd, h1, h2, ht4, h7, h9, h10, h11, h12, faL foN0, faL foN1, faL foN2, faL foN3, faL foN4, hN4.l0, hN4.l1, hN4.l2, hN4.l3, hN4.l4, hN4.la, r3.c.len Try.underlying30]
  refine AW.mono ?_ (insCells (X := X) (by simp (disch := first | omega | decide) only [push_cast, ↓reduceIte, Nat.reduceLT, Nat.reduceEqDiff, reduceCtorEq, Nat.reduceAdd, hn]) (by simp (disch := first | omega | decide) only [push_cast, ↓reduceIte, Nat.reduceLT, Nat.reduceEqDiff, reduceCtorEq, Nat.reduceAdd, hd]) (by omega) gb.wf r3 (by omega) hdl B rfl (by simp (disch := first | omega | decide) only [push_cast, ↓reduceIte, Nat.reduceLT, Nat.reduceEqDiff, reduceCtorEq, Nat.reduceAdd, h12]) (by simp (disch := first | omega | decide) only [push_cast, ↓reduceIte, Nat.reduceLT, Nat.reduceEqDiff, reduceCtorEq, Nat.reduceAdd]) (by simp (disch := first | omega | decide) only [push_cast, ↓reduceIte, Nat.reduceLT, Nat.reduceEqDiff, reduceCtorEq, Nat.reduceAdd]) (by simp (disch := first | omega | decide) only [push_cast, ↓reduceIte, Nat.reduceLT, Nat.reduceEqDiff, reduceCtorEq, Nat.reduceAdd]))
  rintro _ a5 h5 ⟨rfl, hn5, hd5, ht5, n5, nm5, ob5, cv5, B5⟩
  have hN5 := hN3.sub B5.own.gr.sub
  simp (disch := first | omega | decide) only [push_cast, ↓reduceIte, Nat.reduceLT, Nat.reduceEqDiff, reduceCtorEq, Nat.reduceAdd, hn5, hd5, ht5, hn, hd, h1, h2, ht4, h7, h9, h10, h11, h12, faL foN0, faL foN1, faL foN2, faL foN3, faL foN4, hN5.l0, hN5.l1, hN5.l2, hN5.l3, hN5.l4, hN5.la, r3.i.len Try.underlying32]
  refine AW.mono ?_ (insInsts (B0 := B0) (X := X) (by simp (disch := first | omega | decide) only [push_cast, ↓reduceIte, Nat.reduceLT, Nat.reduceEqDiff, reduceCtorEq, Nat.reduceAdd, hn5]) (by simp (disch := first | omega | decide) only [push_cast, ↓reduceIte, Nat.reduceLT, Nat.reduceEqDiff, reduceCtorEq, Nat.reduceAdd, hd5]) (by omega) gb.wf r3 hN3 (by omega) hpl B5 rfl (by simp (disch := first | omega | decide) only [push_cast, ↓reduceIte, Nat.reduceLT, Nat.reduceEqDiff, reduceCtorEq, Nat.reduceAdd, ht5, h12]) (by simp (disch := first | omega | decide) only [push_cast, ↓reduceIte, Nat.reduceLT, Nat.reduceEqDiff, reduceCtorEq, Nat.reduceAdd, ht5, h9]) (by simp (disch := first | omega | decide) only [push_cast, ↓reduceIte, Nat.reduceLT, Nat.reduceEqDiff, reduceCtorEq, Nat.reduceAdd]) (by simp (disch := first | omega | decide) only [push_cast, ↓reduceIte, Nat.reduceLT, Nat.reduceEqDiff, reduceCtorEq, Nat.reduceAdd]) (by simp (disch := first | omega | decide) only [push_cast, ↓reduceIte, Nat.reduceLT, Nat.reduceEqDiff, reduceCtorEq, Nat.reduceAdd]))
  rintro _ a6 h6 ⟨rfl, hn6, hd6, ht6, n6, nm6, ob6, iv6, B6⟩
  simp (disch := first | omega | decide) only [push_cast, ↓reduceIte, Nat.reduceLT, Nat.reduceEqDiff, reduceCtorEq, Nat.reduceAdd, hn6, hd6, ht6, ht5, hn, hd, h1, h2, ht4, h7, h9, h10, h11, h12, hv.lenA Try.underlying22]
  have hpk := pick3_ok hl
  have hml := matchGo_len (tt := 202) (N := 3) (by decide) n.cells 0
  have hbs : (matchGo 202 3 0 n.cells).map bindI ≠ [] := by simpa using hl
  have hp0 : ((matchGo 202 3 0 n.cells).map bindI).getD 0 default = bindI (pick3 n) := by
    unfold pick3
    cases hx : matchGo 202 3 0 n.cells with
    | nil => exact absurd hx hl
    | cons y ys => rfl
  refine AW.mono ?_ (insOrd (B0 := B0) (X := X) (T := T) (m := { ({ (insBase0 n) with cells := n.cells } : Net) with insts := n.insts.map (instS n) }) (by simp (disch := first | omega | decide) only [push_cast, ↓reduceIte, Nat.reduceLT, Nat.reduceEqDiff, reduceCtorEq, Nat.reduceAdd, hn6]) (by simp (disch := first | omega | decide) only [push_cast, ↓reduceIte, Nat.reduceLT, Nat.reduceEqDiff, reduceCtorEq, Nat.reduceAdd, hd6]) (by omega) gb.wf r3 hN3 hv3 (by omega) (fun z hz => by obtain ⟨i, hi, rfl⟩ := hperm.range hz; omega) ⟨hi0, hi1⟩ hfl rfl (by show (n.insts.map (instS n)).length ≤ 4096; simpa using hil) rfl
    (hbv.row (by omega)) hbs hp0 hpk.2.2.2.1 hpk.2.2.2.2 B6 (by simp (disch := first | omega | decide) only [push_cast, ↓reduceIte, Nat.reduceLT, Nat.reduceEqDiff, reduceCtorEq, Nat.reduceAdd, ht6, ht5, h2]) (by simp (disch := first | omega | decide) only [push_cast, ↓reduceIte, Nat.reduceLT, Nat.reduceEqDiff, reduceCtorEq, Nat.reduceAdd, ht6, ht5, h7]) (by simp (disch := first | omega | decide) only [push_cast, ↓reduceIte, Nat.reduceLT, Nat.reduceEqDiff, reduceCtorEq, Nat.reduceAdd, ht6, ht5, h12]) (by simp (disch := first | omega | decide) only [push_cast, ↓reduceIte, Nat.reduceLT, Nat.reduceEqDiff, reduceCtorEq, Nat.reduceAdd, ht6, ht5, h9]) (by simp (disch := first | omega | decide) only [push_cast, ↓reduceIte, Nat.reduceLT, Nat.reduceEqDiff, reduceCtorEq, Nat.reduceAdd, ht6, ht5, h10]) (by simp (disch := first | omega | decide) only [push_cast, ↓reduceIte, Nat.reduceLT, Nat.reduceEqDiff, reduceCtorEq, Nat.reduceAdd, ht6, ht5, h11]) (by simp (disch := first | omega | decide) only [push_cast, ↓reduceIte, Nat.reduceLT, Nat.reduceEqDiff, reduceCtorEq, Nat.reduceAdd]) (by simp (disch := first | omega | decide) only [push_cast, ↓reduceIte, Nat.reduceLT, Nat.reduceEqDiff, reduceCtorEq, Nat.reduceAdd]) (by simp (disch := first | omega | decide) only [push_cast, ↓reduceIte, Nat.reduceLT, Nat.reduceEqDiff, reduceCtorEq, Nat.reduceAdd]))
  rintro _ a7 h7' ⟨rfl, hn7, hd7, ht7, n7, h11', nm7, ob7, fv7, iv7, B7⟩
  have hgo : (ord.foldl (insStep n) (n.inputs + 1, { ({ (insBase0 n) with cells := n.cells } : Net) with insts := n.insts.map (instS n) })) = insGo n ord := rfl
  rw [hgo] at h11' B7
  obtain ⟨q1, q2, q3, q4, q5⟩ := insGo_keep n ord (n.inputs + 1, insBase n)
  have hgo2 : ord.foldl (insStep n) (n.inputs + 1, insBase n) = insGo n ord := rfl
  rw [hgo2] at q1 q2 q3 q4 q5
  have q5l : (insGo n ord).2.outs.length = n.outs.length := by rw [q5]; simp [insBase]
  obtain ⟨e1, v', k1, k2, e2, e3, nm8, ob8, B8⟩ := B7.pushO gb.wf (insGo n ord).1 (by omega)
  have hM7 := B7.at
  have hM8 := B8.at
  have hX8 := B8.own.gr.sub _ _ hX3
  have hins : insR n ord = insN n ord := by unfold insR; rw [if_pos he]
  have hnl : (insN n ord).insts.length ≤ 4294967296 := by show (insGo n ord).2.insts.length ≤ _; rw [q2]; simp [insBase]; omega
  have hfn : (insN n ord).flops.length ≤ 4294967296 := by show (insGo n ord).2.flops.length ≤ _; rw [q1]; simp [insBase]; omega
  have hcn : (insN n ord).cells.length ≤ 4294967296 := by show (insGo n ord).2.cells.length ≤ _; rw [q4]; simp [insBase]; omega
  have hlt8 := AH.get_lt B8.own.gr.wf hX8
  have hst8 := stA agN hX8 rfl _ rfl B8.one
  have hld8 : aLoad Try.prog 34 (.pointer (some ⟨X, 0, none⟩)) (k2.set X (.row (netC { (insGo n ord).2 with outs := (insGo n ord).2.outs ++ [(insGo n ord).1] } cv5 fv7 iv7 v') 34 true)) = some (.agg (netC { (insGo n ord).2 with outs := (insGo n ord).2.outs ++ [(insGo n ord).1] } cv5 fv7 iv7 v').toArray) := ldLA (by rw [AH.set_get, if_pos rfl]) rfl agN rfl
  simp (disch := first | omega | decide) only [push_cast, ↓reduceIte, Nat.reduceLT, Nat.reduceEqDiff, reduceCtorEq, Nat.reduceAdd, hn7, hd7, ht7, ht6, ht5, hn, hd, h1, h2, ht4, h7, h9, h10, h11, h12, h11', faL foN0, faL foN1, faL foN2, faL foN3, faL foN4, hM7.l0, hM7.l1, hM7.l2, hM7.l3, hM7.l4, hM7.la, e1, e2, e3, hM8.l0, hM8.l1, hM8.l2, hM8.l3, hM8.l4, hM8.la, hst8, hld8]
  have hnet8 := B8.net hXb (.row (netC { (insGo n ord).2 with outs := (insGo n ord).2.outs ++ [(insGo n ord).1] } cv5 fv7 iv7 v') 34 true) hcn hfn hnl
  have hown8 := (B8.netOwn hXb (.row (netC { (insGo n ord).2 with outs := (insGo n ord).2.outs ++ [(insGo n ord).1] } cv5 fv7 iv7 v') 34 true)).le gb.nx
  refine ⟨(gb.trans B8.own.gr).set hwf hXlo hlt8 _, cv5, fv7, iv7, v', ?_, ?_, ?_⟩
  · rw [hins, he]; rfl
  · rw [hins]; exact hnet8
  · rw [hins]; exact hown8

theorem insertN {h : AH} {n : Net} {cv fv iv ov v : Value} {ord : List Int} (r : NetR h n cv fv iv ov) (ok : NetOK n) (hv : SlOf h v (ord.map (.int .i64))) (hb : ord.length ≤ 17592186043904) :
    ACall Try.prog 15 [.agg (netC n cv fv iv ov).toArray, v] h (InsPost n ord h) :=
  ACall.mono (fun _ _ ⟨g, cv, fv, iv, ov, e, r, _⟩ => ⟨g, cv, fv, iv, ov, e, r⟩) (insertO r ok hv hb)

end Go.Ab.S1

namespace Go.Ab
open Go.ChangeShapes Go.WideShapes Go.ChangeAt Go.RowKit

/-- The heap of arguments grows. -/
structure GrA (W : World) (ρ : Ren) (h : AH) (ρ' : Ren) (h' : AH) : Prop where
  le : ρ.le ρ'
  hr : HR ρ' h' W
  ro : AllRO h'
  sub : Sub h h'

theorem GrA.refl {W : World} {ρ : Ren} {h : AH} (hr : HR ρ h W) (hro : AllRO h) : GrA W ρ h ρ h := ⟨Ren.le_refl _, hr, hro, fun _ _ x => x⟩
theorem GrA.trans {W : World} {ρ ρ1 ρ2 : Ren} {h h1 h2 : AH} (a : GrA W ρ h ρ1 h1) (b : GrA W ρ1 h1 ρ2 h2) : GrA W ρ h ρ2 h2 := ⟨Ren.le_trans a.le b.le, b.hr, b.ro, a.sub.trans b.sub⟩

section
variable {H : Type} {enc : TypeId × Value → H} {P : Program} {W : World} {base : Nat} {spare : Nat → Bool} {held : Bool}

/-- Integers of a kind. -/
def intL (k : IntKind) : Lay Int where
  sz := 1
  pos := by decide
  rel h cs z := cs = [.int k z]
  mono := by rintro h h' cs x hs rfl; rfl
  len := by rintro h cs x rfl; rfl
  one := by rintro h cs x rfl v hv; simp only [List.mem_cons, List.not_mem_nil, or_false] at hv; subst hv; rfl
instance (k : IntKind) : LayV (intL k) := ⟨by rintro h cs x rfl; rfl⟩

end
end Go.Ab

namespace Go.Ab

section
variable {P : Program}

/-- What became of a slice of one's own to which any slice was appended. -/
structure VecGo (e : TypeId) (h : AH) (ob : Option AObj) (A : Nat) (r : Value) (zs : List Value) (h' : AH) : Prop where
  up : ∃ ob' A', Vec e r ob' A' zs ∧ (∀ o, ob' = some o → h'.get A' = some o) ∧ (ob' ≠ none → (A' = A ∧ ob ≠ none) ∨ h.next ≤ A')
  frx : ∀ B o, h.get B = some o → (B = A → ob = none) → h'.get B = some o
  wf : WFH h'
  nx : h.next ≤ h'.next

theorem appendAny {t t2 e : TypeId} {B : Nat} {z : Value} (ht : SlT P t e B z) (ht2 : ∃ e2, P.underlying t2 = some (.slice e2)) {h : AH} (hw : WFH h) {v : Value} {ob : Option AObj} {A : Nat} {zs : List Value} (hv : Vec e v ob A zs) (hg : ∀ o, ob = some o → h.get A = some o)
    {x : Value} {ys : List Value} (hsrc : srcCells 1 x h = some (ys.length, ys)) (hx : ys.all oneC = true) (hb : (2 * (zs.length + ys.length) + 192) * B ≤ 281474976710656) (hm : zs.length + ys.length < 4611686018427387904) :
    ∃ r h', aAppend P #[t, t2] v x h = some (r, h') ∧ VecGo e h ob A r (zs ++ ys) h' := by
  by_cases hne : ys = []
  · subst hne
    obtain ⟨i, hi, h1, hbb, hzz⟩ := ht.info
    have hc : z.cells.size = 1 := by
      have := congrArg List.length ht.zc
      simpa using this
    obtain ⟨e2, ht2⟩ := ht2
    have hs0 : srcCells 1 x h = some (0, []) := hsrc
    refine ⟨v, h, ?_, ⟨ob, A, by simpa using hv, hg, fun hn => .inl ⟨rfl, hn⟩⟩, fun B o hB _ => hB, hw, Nat.le_refl _⟩
    rcases hv with ⟨rfl, rfl, rfl⟩ | ⟨cs, rfl, rfl, hle, htk⟩ | ⟨cs, C, rfl, hCm, hnC, hCl, rfl, htk⟩
    · simp [aAppend, ht.sl, ht2, hi, hzz, h1, hc, isIntT, hs0, ht.zk]
    · have hle2 : zs.length ≤ SL + 1 := by
        simp only [List.length_nil, Nat.add_zero] at hm; unfold SL; omega
      simp [aAppend, ht.sl, ht2, hi, hzz, h1, hc, isIntT, hs0, ht.zk, hle2]
    · simp [aAppend, ht.sl, ht2, hi, hzz, h1, hc, isIntT, hs0, ht.zk, hnC]
  · obtain ⟨r, h', happ, hup⟩ := appendVs ht ht2 hw hv hg hsrc hne hx hb hm
    obtain ⟨A', o', hV, hgA, hA⟩ := hup.up
    exact ⟨r, h', happ, ⟨some o', A', hV, fun o e => by cases e; exact hgA, fun _ => hA⟩, hup.frx, hup.wf, hup.nx⟩

theorem SemOp.mono {ops : Array Oper} {o : Oper} {a : AAct} {h : AH} {K K' : AAct → AH → Prop} (hk : ∀ a h, K a h → K' a h) (hs : SemOp P ops o a h K) : SemOp P ops o a h K' := by
  intro n ρ crd ca w ha hr Q N hN
  exact hs n ρ crd ca w ha hr Q N (fun ca' w' ⟨ρ', a', h', hK, x⟩ => hN ca' w' ⟨ρ', a', h', hk _ _ hK, x⟩)

end
end Go.Ab

namespace Go.Ab.S1
open Go.Proofs
set_option linter.unusedSimpArgs false
set_option linter.unusedVariables false
set_option maxRecDepth 100000
set_option maxHeartbeats 4000000
attribute [local push_cast] wpA_skip wpA_ret wpA_exit wpA_seq wpA_block wpA_cond2 andK_true wpA_region wpA_draw wpA_loop thenQ_normal thenQ_ret thenQ_exit blockQ_normal blockQ_ret blockQ_exit condV_true condV_false opsM_nil opsM_cons2 okM_true wantM_true wantM_false stepM seqM_cons2 seqM_nil2 okS_true wantS_true wantS_false stepS skipS okB Keeps_nil contK_app List.zip_cons_cons List.zip_nil_left List.zip_nil_right Op.operands Call.operands Array.toList_append List.append_nil List.nil_append List.all_cons List.all_nil cOK plain put_n put_tm put_none put_df ev_tmp ev_const ev_func wanted_none wanted_some callR_func dop ex_some1 aBuiltin aBin intBin aUn Option.map_some Bool.and_true Bool.true_and Bool.and_self List.map_cons List.map_nil List.toList_toArray List.getElem?_toArray List.getElem?_cons_zero List.getElem?_cons_succ Option.getD_some Option.getD_none Bool.false_eq_true eq_self_iff_true decide_true decide_false List.cons_append aExtract resL resV List.getD_cons_zero List.getD_cons_succ List.getD_nil Nat.succ_ne_self g1 g2 yieldedA2 isB_bool isB_undef g3 Option.bind_some Option.bind_none bne_self_eq_false beq_self_eq_true Bool.not_true Bool.not_false Int.toNat_natCast List.length_map List.mem_cons List.not_mem_nil or_false not_false_eq_true decide_not Bool.not_not bodyR_ret2 bodyR_normal2 closeMarks_nil ex_some0 Nat.zero_add Nat.add_zero ieq ine List.map_toArray Option.toArray_none Option.toArray_some oev Keeps_cons Still_eq selL wpX_skip wpX_ret wpX_exit wpX_seq wpX_block wpX_cond wpX_region wpX_draw wpX_loop List.take_succ_cons List.take_zero List.drop_succ_cons List.drop_zero Int.zero_add Int.add_zero aNil if_true if_false true_and and_true

/-- A slice of one's own that holds these truths. -/
def BoolsV (h : AH) (v : Value) (ob : Option AObj) (A : Nat) (bs : List Bool) : Prop :=
  _root_.Go.Ab.Vec 4 v ob A (bs.map .bool) ∧ ∀ o, ob = some o → h.get A = some o

theorem BoolsV.sl {h : AH} {v : Value} {ob : Option AObj} {A : Nat} {bs : List Bool} (hv : BoolsV h v ob A bs) : SlOf h v (bs.map .bool) := hv.1.sl hv.2
theorem BoolsV.sub {h h' : AH} {v : Value} {ob : Option AObj} {A : Nat} {bs : List Bool} (hv : BoolsV h v ob A bs) (s : Sub h h') : BoolsV h' v ob A bs := ⟨hv.1, fun o e => s _ _ (hv.2 o e)⟩
theorem BoolsV.one {h : AH} {v : Value} {ob : Option AObj} {A : Nat} {bs : List Bool} (hv : BoolsV h v ob A bs) : oneC v = true ∧ v.cells.toList = [v] := by
  obtain ⟨p, l, c, rfl, _⟩ := hv.sl
  exact ⟨rfl, rfl⟩


theorem t44 : SlT Try.prog 54 23 24 (.slice none 0 0) := ⟨Try.underlying54, ⟨(Try.prog.info? 23).get (by kernel_rfl), by kernel_rfl, by kernel_rfl, by kernel_rfl, by kernel_rfl⟩, ⟨_, Try.underlying23, rfl⟩, rfl, rfl, rfl⟩
attribute [local push_cast] treeM_nil treeM_step treeM_two okX_true wantX_true wantX_false stepX skipX

theorem appOwn {h0 k : AH} {rv sv : Value} {ob : Option AObj} {A : Nat} {zs ys : List Bool} (w0 : WFH h0) (g : Gr h0 k) (hv : BoolsV k rv ob A zs) (lo : ∀ o, ob = some o → h0.next ≤ A) (hs : SlOf k sv (ys.map .bool)) (hb : zs.length + ys.length ≤ 4294967296) :
    ∃ r h' ob' A', aAppend Try.prog #[23, 23] rv sv k = some (r, h') ∧ Gr h0 h' ∧ BoolsV h' r ob' A' (zs ++ ys) ∧ (∀ o, ob' = some o → h0.next ≤ A') ∧ (∀ B o, k.get B = some o → (B = A → ob = none) → h'.get B = some o) ∧ k.next ≤ h'.next := by
  obtain ⟨r', h'', happ, hgo⟩ := appendAny (t := 23) (t2 := 23) t23 ⟨_, Try.underlying23⟩ g.wf hv.1 hv.2 hs.src (by simp [oneC]) (by simp only [List.length_map]; omega) (by simp only [List.length_map]; omega)
  obtain ⟨ob', A', hV, hgA, hA⟩ := hgo.up
  refine ⟨r', h'', ob', A', happ, ⟨hgo.wf, fun B o hB => hgo.frx B o (g.sub B o hB) (fun e => ?_), Nat.le_trans g.nx hgo.nx⟩, ⟨by rw [List.map_append]; exact hV, hgA⟩, fun o e => ?_, hgo.frx, hgo.nx⟩
  · cases hob : ob with
    | none => rfl
    | some o2 =>
      have h8 := lo o2 hob
      have := AH.get_lt w0 hB
      omega
  · rcases hA (by rw [e]; simp) with ⟨rfl, hne⟩ | hA
    · cases hob : ob with
      | none => exact absurd hob hne
      | some o2 => exact lo o2 hob
    · exact Nat.le_trans g.nx hA

theorem aBuild2b (h : AH) (x y : Bool) : aBuildSlice Try.prog 23 2 [(0, .bool x), (1, .bool y)] h = some (.slice (some ⟨h.next, 0, none⟩) 2 2, h.new (.row [.bool x, .bool y] 4 true)) := by
  obtain ⟨i, hi, h1, hb, hz⟩ := t23.info
  have hp : plain 9 (.bool false) = true := rfl
  have hc : (Value.bool false).cells.size = 1 := rfl
  have hl : (Value.bool false).cells.toList = [.bool false] := rfl
  have hx1 : ∀ z : Bool, (Value.bool z).cells.size = 1 := fun _ => rfl
  have hx2 : ∀ z : Bool, (Value.bool z).cells.toList = [.bool z] := fun _ => rfl
  simp only [aBuildSlice, t23.sl, hi, hz, h1, hp, hc, fillL, hl, zeros_one]
  simp [SL, hx1, hx2, setL, oneC, List.replicate]

/-- The three ways in which the inputs are laid. -/
structure Laid3 (k0 : AH) (xv : Value) (xs : List Bool) (en si : Bool) (Fin : Value → AH → Prop) : Prop where
  w1 : ∃ r1 k1, aAppend Try.prog #[23, 23] (.slice (some ⟨k0.next, 0, none⟩) 0 0) xv (k0.new (.row [] 4 true)) = some (r1, k1) ∧ Gr k0 k1 ∧ Gr k0 (k1.new (.row [.bool en, .bool si] 4 true)) ∧
    ∃ r2 k2, aAppend Try.prog #[23, 23] r1 (.slice (some ⟨k1.next, 0, none⟩) 2 2) (k1.new (.row [.bool en, .bool si] 4 true)) = some (r2, k2) ∧ Gr k0 k2 ∧ Fin r2 k2
  w2 : Gr k0 (k0.new (.row [] 4 true)) ∧ Gr k0 ((k0.new (.row [] 4 true)).new (.row [.bool en, .bool si] 4 true)) ∧
    ∃ r1 k1, aAppend Try.prog #[23, 23] (.slice (some ⟨k0.next, 0, none⟩) 0 0) xv ((k0.new (.row [] 4 true)).new (.row [.bool en, .bool si] 4 true)) = some (r1, k1) ∧ Gr k0 k1 ∧
    ∃ r2 k2, aAppend Try.prog #[23, 23] r1 (.slice (some ⟨k0.next + 1, 0, none⟩) 2 2) k1 = some (r2, k2) ∧ Gr k0 k2 ∧ Fin r2 k2
  w3 : Gr k0 (k0.new (.row [.bool en, .bool si] 4 true)) ∧ Gr k0 ((k0.new (.row [.bool en, .bool si] 4 true)).new (.row [] 4 true)) ∧
    ∃ r1 k1, aAppend Try.prog #[23, 23] (.slice (some ⟨k0.next + 1, 0, none⟩) 0 0) xv ((k0.new (.row [.bool en, .bool si] 4 true)).new (.row [] 4 true)) = some (r1, k1) ∧ Gr k0 k1 ∧
    ∃ r2 k2, aAppend Try.prog #[23, 23] r1 (.slice (some ⟨k0.next, 0, none⟩) 2 2) k1 = some (r2, k2) ∧ Gr k0 k2 ∧ Fin r2 k2


def LoadOwn (R : List Int → List Bool → List Bool → Prop) (zs : List Int) (bs : List Bool) (h : AH) (r : Value) (h' : AH) : Prop :=
  Gr h h' ∧ ((chainE zs bs.length ≠ 0 ∧ r = .tuple #[.slice none 0 0, .int .i64 (chainE zs bs.length)] ∧ h' = h) ∨
    (chainE zs bs.length = 0 ∧ ∃ A out, r = .tuple #[.slice (some ⟨A, 0, none⟩) zs.length zs.length, .int .i64 0] ∧ R zs bs out ∧ out.length = zs.length ∧ h.next ≤ A ∧ h'.get A = some (.row (out.map .bool) 4 true)))

theorem IsPerm.get {zs : List Int} (hp : IsPerm zs) {k : Nat} (hk : k < zs.length) : ∃ z0 : Nat, z0 < zs.length ∧ zs.getD k 0 = (z0 : Int) ∧ zs[k]? = some (z0 : Int) := by
  obtain ⟨z0, hz0, hze⟩ := hp.range (List.getElem_mem hk)
  exact ⟨z0, hz0, by simp [List.getD_eq_getElem?_getD, hk, hze], by simp [hk, hze]⟩

theorem replicate_bool (n : Nat) : List.replicate n (Value.bool false) = (List.replicate n false).map .bool := by simp

theorem chain' {h : AH} {v : Value} {zs : List Int} {k : Nat} (hv : SlOf h v (zs.map (.int .i64))) (hb : zs.length ≤ 17592186043904) :
    ACall Try.prog 26 [v, .int .i64 k] h (fun r h' => r = .int .i64 (chainE zs k) ∧ h' = h) :=
  ACall.viewed rfl (ACall.mono (fun _ _ x => x.1) (chain hv.view hb))

set_option maxRecDepth 100000 in
theorem loadO {h : AH} {v1 v2 : Value} {zs : List Int} {bs : List Bool} (hv : SlOf h v1 (zs.map (.int .i64))) (hw : SlOf h v2 (bs.map .bool)) (hb : zs.length ≤ 17592186043904) :
    ACall Try.prog 10 [v1, v2] h (LoadOwn IsLoad zs bs h) := by
  refine ACall.wf ⟨_, Try.func10, rfl, by kernel_rfl⟩ fun hwf => ?_
  refine ACall.of_wp 40 [.tmp 4, .tmp 5] Try.func10 rfl (by kernel_rfl) rfl rfl fun a hn hd ha => ?_
  simp (disch := first | omega | decide) only [push_cast, ↓reduceIte, Nat.reduceLT, Nat.reduceEqDiff, reduceCtorEq, Nat.reduceAdd, hn, hd, ha, hw.lenM Try.underlying23]
  refine ACall.mono ?_ (chain' hv hb)
  rintro _ _ ⟨rfl, rfl⟩
  simp (disch := first | omega | decide) only [push_cast, ↓reduceIte, Nat.reduceLT, Nat.reduceEqDiff, reduceCtorEq, Nat.reduceAdd, hn, hd, ha]
  refine condV_of (fun h0 => ?_) (fun h0 => ?_)
  · have hc : chainE zs bs.length ≠ 0 := by simpa using h0
    simp (disch := first | omega | decide) only [push_cast, ↓reduceIte, Nat.reduceLT, Nat.reduceEqDiff, reduceCtorEq, Nat.reduceAdd, hn, hd, ha]
    exact ⟨Gr.refl hwf, .inl ⟨hc, rfl, rfl⟩⟩
  · have hc : chainE zs bs.length = 0 := by simpa using h0
    obtain ⟨hp, hl⟩ := chainE_zero hc
    rename_i h
    have hv1 := hv.sub (Sub.new hwf (.row ((List.replicate zs.length false).map .bool) 4 true))
    simp (disch := first | omega | decide) only [push_cast, ↓reduceIte, Nat.reduceLT, Nat.reduceEqDiff, reduceCtorEq, Nat.reduceAdd, hn, hd, ha, hv.lenM Try.underlying22, aMakeSlice_at t23 h zs.length (by omega) (by omega), replicate_bool, hv1.lenM Try.underlying22]
    refine AW.loopK 23 [8, 9, 22] (fun m a' h' => Gr h h' ∧ ∃ (i : Nat) (out : List Bool), a'.tm 22 = .int .i64 i ∧ i + m = zs.length ∧ h.next < h'.next ∧ h'.get h.next = some (.row (out.map .bool) 4 true) ∧ out.length = zs.length ∧
        ∀ j : Nat, j < i → out[zs.length - 1 - j]? = bs[(zs.getD j 0).toNat]?) zs.length ?_ ?_
    · refine ⟨(Gr.refl hwf).new _, 0, List.replicate zs.length false, by simp (disch := first | omega | decide) only [push_cast, ↓reduceIte, Nat.reduceLT, Nat.reduceEqDiff, reduceCtorEq, Nat.reduceAdd], by omega, by simp, by simp [AH.new_get], by simp, fun j hj => by omega⟩
    · rintro m a' h' hk ⟨hg, i, out, h22, him, hnx, hrow, hol, hall⟩
      have hv' := hv.sub hg.sub
      have hw' := hw.sub hg.sub
      simp (disch := first | omega | decide) only [push_cast, ↓reduceIte, Nat.reduceLT, Nat.reduceEqDiff, reduceCtorEq, Nat.reduceAdd, hk.n, hk.df, hk.tm, hn, hd, ha, h22]
      refine condV_of (fun hlt => ?_) (fun hge => ?_)
      · have hi : i < zs.length := by have := hlt; simp at this; omega
        obtain ⟨k, hk1⟩ : ∃ k : Nat, k = zs.length - 1 - i := ⟨_, rfl⟩
        have hk2 : (zs.length : Int) - 1 - i = k := by omega
        obtain ⟨z0, hz0, hzk, hzk'⟩ := hp.get hi
        have hst := fun b i' (hi' : i' < out.length) => stRow sl23 hrow one_bool i' b hi'
        simp (disch := first | omega | decide) only [push_cast, ↓reduceIte, Nat.reduceLT, Nat.reduceEqDiff, reduceCtorEq, Nat.reduceAdd, hk.n, hk.df, hk.tm, hn, hd, ha, h22, lenS Try.underlying23, hk2, hv'.idxI sl22, hv'.ldI sl22, hzk, hw'.idxB sl23, hw'.ldB sl23, idxL sl23, hst, wrapI]
        refine ⟨m - 1, by omega, (by simp (disch := decide) only [Kp_put, put_none, hk]), hg.set hwf (Nat.le_refl _) hnx _, i + 1, out.set k (bs.getD z0 false), ?_, by omega, by simpa using hnx, by simp [AH.set_get], by simp [hol], fun j hj => ?_⟩
        · simp (disch := first | omega | decide) only [push_cast, ↓reduceIte, Nat.reduceLT, Nat.reduceEqDiff, reduceCtorEq, Nat.reduceAdd]
        · by_cases e : j = i
          · subst e
            rw [← hk1, hzk, Int.toNat_natCast, List.getElem?_set_self (by omega)]
            simp [List.getD_eq_getElem?_getD, show z0 < bs.length by omega]
          · rw [List.getElem?_set_ne (by omega)]; exact hall j (by omega)
      · have hi : i = zs.length := by have := hge; simp at this; omega
        simp (disch := first | omega | decide) only [push_cast, ↓reduceIte, Nat.reduceLT, Nat.reduceEqDiff, reduceCtorEq, Nat.reduceAdd, hk.n, hk.df, hk.tm, hn, hd, ha, h22]
        refine ⟨hg, .inr ⟨hc, h.next, out, rfl, ⟨hol, fun k z hz => ?_⟩, hol, Nat.le_refl _, hrow⟩⟩
        have hkl := (List.getElem?_eq_some_iff.1 hz).1
        have := hall k (by omega)
        rw [List.getD_eq_getElem?_getD, hz] at this
        exact this

set_option maxRecDepth 100000 in
theorem unloadO {h : AH} {v1 v2 : Value} {zs : List Int} {bs : List Bool} (hv : SlOf h v1 (zs.map (.int .i64))) (hw : SlOf h v2 (bs.map .bool)) (hb : zs.length ≤ 17592186043904) :
    ACall Try.prog 11 [v1, v2] h (LoadOwn IsUnload zs bs h) := by
  refine ACall.wf ⟨_, Try.func11, rfl, by kernel_rfl⟩ fun hwf => ?_
  refine ACall.of_wp 40 [.tmp 4, .tmp 5] Try.func11 rfl (by kernel_rfl) rfl rfl fun a hn hd ha => ?_
  simp (disch := first | omega | decide) only [push_cast, ↓reduceIte, Nat.reduceLT, Nat.reduceEqDiff, reduceCtorEq, Nat.reduceAdd, hn, hd, ha, hw.lenM Try.underlying23]
  refine ACall.mono ?_ (chain' hv hb)
  rintro _ _ ⟨rfl, rfl⟩
  simp (disch := first | omega | decide) only [push_cast, ↓reduceIte, Nat.reduceLT, Nat.reduceEqDiff, reduceCtorEq, Nat.reduceAdd, hn, hd, ha]
  refine condV_of (fun h0 => ?_) (fun h0 => ?_)
  · have hc : chainE zs bs.length ≠ 0 := by simpa using h0
    simp (disch := first | omega | decide) only [push_cast, ↓reduceIte, Nat.reduceLT, Nat.reduceEqDiff, reduceCtorEq, Nat.reduceAdd, hn, hd, ha]
    exact ⟨Gr.refl hwf, .inl ⟨hc, rfl, rfl⟩⟩
  · have hc : chainE zs bs.length = 0 := by simpa using h0
    obtain ⟨hp, hl⟩ := chainE_zero hc
    rename_i h
    have hv1 := hv.sub (Sub.new hwf (.row ((List.replicate zs.length false).map .bool) 4 true))
    simp (disch := first | omega | decide) only [push_cast, ↓reduceIte, Nat.reduceLT, Nat.reduceEqDiff, reduceCtorEq, Nat.reduceAdd, hn, hd, ha, hv.lenM Try.underlying22, aMakeSlice_at t23 h zs.length (by omega) (by omega), replicate_bool, hv1.lenM Try.underlying22]
    refine AW.loopK 23 [8, 9, 22] (fun m a' h' => Gr h h' ∧ ∃ (i : Nat) (out : List Bool), a'.tm 22 = .int .i64 i ∧ i + m = zs.length ∧ h.next < h'.next ∧ h'.get h.next = some (.row (out.map .bool) 4 true) ∧ out.length = zs.length ∧
        ∀ j : Nat, j < i → out[(zs.getD j 0).toNat]? = bs[zs.length - 1 - j]?) zs.length ?_ ?_
    · refine ⟨(Gr.refl hwf).new _, 0, List.replicate zs.length false, by simp (disch := first | omega | decide) only [push_cast, ↓reduceIte, Nat.reduceLT, Nat.reduceEqDiff, reduceCtorEq, Nat.reduceAdd], by omega, by simp, by simp [AH.new_get], by simp, fun j hj => by omega⟩
    · rintro m a' h' hk ⟨hg, i, out, h22, him, hnx, hrow, hol, hall⟩
      have hv' := hv.sub hg.sub
      have hw' := hw.sub hg.sub
      simp (disch := first | omega | decide) only [push_cast, ↓reduceIte, Nat.reduceLT, Nat.reduceEqDiff, reduceCtorEq, Nat.reduceAdd, hk.n, hk.df, hk.tm, hn, hd, ha, h22]
      refine condV_of (fun hlt => ?_) (fun hge => ?_)
      · have hi : i < zs.length := by have := hlt; simp at this; omega
        obtain ⟨k, hk1⟩ : ∃ k : Nat, k = zs.length - 1 - i := ⟨_, rfl⟩
        have hk2 : (zs.length : Int) - 1 - i = k := by omega
        obtain ⟨z0, hz0, hzk, hzk'⟩ := hp.get hi
        have hst := fun b i' (hi' : i' < out.length) => stRow sl23 hrow one_bool i' b hi'
        simp (disch := first | omega | decide) only [push_cast, ↓reduceIte, Nat.reduceLT, Nat.reduceEqDiff, reduceCtorEq, Nat.reduceAdd, hk.n, hk.df, hk.tm, hn, hd, ha, h22, lenS Try.underlying23, hk2, hv'.idxI sl22, hv'.ldI sl22, hzk, hw'.idxB sl23, hw'.ldB sl23, idxL sl23, hst, wrapI]
        refine ⟨m - 1, by omega, (by simp (disch := decide) only [Kp_put, put_none, hk]), hg.set hwf (Nat.le_refl _) hnx _, i + 1, out.set z0 (bs.getD k false), ?_, by omega, by simpa using hnx, by simp [AH.set_get], by simp [hol], fun j hj => ?_⟩
        · simp (disch := first | omega | decide) only [push_cast, ↓reduceIte, Nat.reduceLT, Nat.reduceEqDiff, reduceCtorEq, Nat.reduceAdd]
        · by_cases e : j = i
          · subst e
            rw [← hk1, hzk, Int.toNat_natCast, List.getElem?_set_self (by omega)]
            simp [List.getD_eq_getElem?_getD, show k < bs.length by omega]
          · obtain ⟨z1, hz1, hz2, hz3⟩ := hp.get (show j < zs.length by omega)
            have hne : z0 ≠ z1 := by
              rintro rfl
              have := hp.inj hzk' hz3
              omega
            have := hall j (by omega)
            rw [hz2, Int.toNat_natCast] at this ⊢
            rw [List.getElem?_set_ne hne]; exact this
      · have hi : i = zs.length := by have := hge; simp at this; omega
        simp (disch := first | omega | decide) only [push_cast, ↓reduceIte, Nat.reduceLT, Nat.reduceEqDiff, reduceCtorEq, Nat.reduceAdd, hk.n, hk.df, hk.tm, hn, hd, ha, h22]
        refine ⟨hg, .inr ⟨hc, h.next, out, rfl, ⟨hol, fun k z hz => ?_⟩, hol, Nat.le_refl _, hrow⟩⟩
        have hkl := (List.getElem?_eq_some_iff.1 hz).1
        have := hall k (by omega)
        rw [List.getD_eq_getElem?_getD, hz] at this
        exact this


theorem SlOf.nil (h : AH) : SlOf h (.slice none 0 0) [] := ⟨none, 0, 0, rfl, rfl, (fun q e => by cases e), .inl rfl⟩


def boolL : Lay Bool where
  sz := 1
  pos := by decide
  rel h cs z := cs = [.bool z]
  mono := by rintro h h' cs x hs rfl; rfl
  len := by rintro h cs x rfl; rfl
  one := by rintro h cs x rfl v hv; simp only [List.mem_cons, List.not_mem_nil, or_false] at hv; subst hv; rfl
instance : LayV boolL := ⟨by rintro h cs x rfl; rfl⟩

theorem rowBools {h : AH} {v : Value} {zs : List Bool} (hr : RowOf boolL h v zs) : SlOf h v (zs.map .bool) := by
  obtain ⟨p, l, c, rfl, hl, ⟨hsp, _⟩, hcs⟩ := hr
  refine ⟨p, l, c, rfl, by rw [List.length_map]; exact hl, hsp, ?_⟩
  rcases hcs with rfl | ⟨A, off, o, cs, rfl, hg, hc, hx⟩
  · exact .inl rfl
  · refine .inr ⟨A, off, o, cs, rfl, hg, hc, fun i x hi => ?_⟩
    rw [List.getElem?_map, Option.map_eq_some_iff] at hi
    obtain ⟨z, hz, rfl⟩ := hi
    have : (cs.drop (off + i * 1)).take 1 = [.bool z] := hx i z hz
    have h1 := congrArg (·[0]?) this
    simp [List.getElem?_take] at h1
    exact h1

def bsL : Lay (List Bool) where
  sz := 1
  pos := by decide
  rel h cs x := ∃ v, cs = [v] ∧ RowOf boolL h v x
  mono := by rintro h h' cs x hs ⟨v, rfl, hd⟩; exact ⟨v, rfl, hd.sub hs⟩
  len := by rintro h cs x ⟨v, rfl, hd⟩; rfl
  one := by rintro h cs x ⟨v, rfl, hd⟩ u hu; simp only [List.mem_cons, List.not_mem_nil, or_false] at hu; subst hu; exact hd.one
instance : LayV bsL := ⟨by rintro h cs x ⟨v, rfl, hd⟩; exact ⟨v, rfl, hd.view⟩⟩

theorem inf23 : ∃ i, Try.prog.info? 23 = some i ∧ i.size = bsL.sz := ⟨(Try.prog.info? 23).get (by kernel_rfl), by kernel_rfl, by kernel_rfl⟩
theorem flBs : Fl Try.prog 23 := ⟨_, Try.underlying23, rfl⟩

theorem rowAtR {t : TypeId} (ht : Try.prog.underlying t = some (.slice 23)) {h : AH} {v : Value} {bss : List (List Bool)} (hs : RowOf bsL h v bss) {i : Nat} (hi : i < bss.length) :
    ∃ w, RowOf boolL h w (bss.getD i []) ∧ (∀ k : IntKind, aIndexAddr Try.prog t v (.int k i) = some (slF 1 v i 0)) ∧ aLoad Try.prog 23 (slF 1 v i 0) h = some w := by
  obtain ⟨cs, ⟨w, rfl, hw⟩, _, hl, _⟩ := hs.get hi []
  refine ⟨w, hw, fun k => ?_, hl 0 _ flBs (by decide)⟩
  have := hs.idx ht inf23 k i (by omega) (by omega)
  rw [Int.toNat_natCast] at this; exact this

theorem rowAtB {h : AH} {v : Value} {bss : List (List Bool)} (hs : RowOf bsL h v bss) {i : Nat} (hi : i < bss.length) :
    ∃ w, SlOf h w ((bss.getD i []).map .bool) ∧ (∀ k : IntKind, aIndexAddr Try.prog 54 v (.int k i) = some (slF 1 v i 0)) ∧ aLoad Try.prog 23 (slF 1 v i 0) h = some w :=
  let ⟨w, a, b, c⟩ := rowAtR Try.underlying54 hs hi
  ⟨w, rowBools a, b, c⟩

theorem rowPostB {h : AH} {v : Value} {bss : List (List Bool)} (hs : RowOf bsL h v bss) {k : IntKind} {n : Nat} (hn : n ≤ bss.length) :
    ∃ v', aSlice Try.prog 54 v (some (.int k n)) none = some v' ∧ RowOf bsL h v' (bss.drop n) := by
  obtain ⟨p, l, c, rfl, rfl, ⟨hsp, hle, hcap⟩, hcs⟩ := hs
  obtain ⟨ie, hi, h1⟩ := inf23
  have h1' : ie.size = 1 := h1
  have hsz : bsL.sz = 1 := rfl
  have hb : bnd (some (.int k (n : Int))) 0 = some n := by simp [bnd]
  have hb0 : ∀ m, bnd none m = some m := fun _ => rfl
  cases p with
  | none =>
    have hx : bss = [] := by
      rcases hcs with e | ⟨A, off, o, cs, e, _⟩
      · exact e
      · cases e
    subst hx
    have hn0 : n = 0 := by simpa using hn
    subst hn0
    refine ⟨.slice none 0 c, ?_, none, 0, c, rfl, by simp, ⟨(fun q e => by cases e), by omega, hcap⟩, .inl (by simp)⟩
    simp only [aSlice, Try.underlying54, hb, hb0, hi]
    simp
  | some q =>
    obtain ⟨A, off, sp⟩ := q
    have : sp = none := hsp _ rfl
    subst this
    rcases hcap with hc | hc
    · refine ⟨.slice (some ⟨A, if c = n then off else off + n * 1, none⟩) (bss.length - n) (c - n), ?_, _, _, _, rfl, by simp, ⟨fun q e => by cases e; rfl, by omega, .inl (by omega)⟩, ?_⟩
      · simp only [aSlice, Try.underlying54, hb, hb0, hi, h1']
        rw [if_pos hc, if_pos ⟨by omega, by omega⟩]
      · by_cases he : n = bss.length
        · exact .inl (by rw [he, List.drop_length])
        rcases hcs with e | ⟨A', off', o, cs, e, hg, hcc, hall⟩
        · exact .inl (by rw [e]; simp)
        cases e
        refine .inr ⟨A, _, o, cs, rfl, hg, hcc, fun i x hx => ?_⟩
        rw [if_neg (by omega)]
        rw [List.getElem?_drop] at hx
        have := hall _ x hx
        rw [hsz] at this ⊢
        have e2 : off + n * 1 + i * 1 = off + (n + i) * 1 := by omega
        rw [e2]; exact this
    · refine ⟨.slice (some ⟨A, off + n * 1, none⟩) (bss.length - n) c, ?_, _, _, _, rfl, by simp, ⟨fun q e => by cases e; rfl, by omega, .inr hc⟩, ?_⟩
      · simp only [aSlice, Try.underlying54, hb, hb0, hi, h1']
        rw [hsz] at hc
        rw [if_neg (by omega), if_pos ⟨hc, by omega, by omega⟩]
      · rcases hcs with e | ⟨A', off', o, cs, e, hg, hcc, hall⟩
        · exact .inl (by rw [e]; simp)
        cases e
        refine .inr ⟨A, _, o, cs, rfl, hg, hcc, fun i x hx => ?_⟩
        rw [List.getElem?_drop] at hx
        have := hall _ x hx
        rw [hsz] at this ⊢
        have e2 : off + n * 1 + i * 1 = off + (n + i) * 1 := by omega
        rw [e2]; exact this

/-- A slice of one's own, as a row of one-cell elements. -/
theorem vecRow {α : Type} {L : Lay α} (hz : L.sz = 1) {e : TypeId} {h g : AH} {v : Value} {ob : Option AObj} {A : Nat} {vs : List Value} {xs : List α} (hV : _root_.Go.Ab.Vec e v ob A vs) (hg : ∀ o, ob = some o → h.get A = some o) (hl : vs.length = xs.length) (hb : xs.length ≤ 4294967296)
    (hr : ∀ i x, xs[i]? = some x → L.rel h [vs.getD i undef] x) : RowOf L h v xs := by
  have key : ∀ cs : List Value, vs.length ≤ cs.length → cs.take vs.length = vs → ∀ (i : Nat) (x : α), xs[i]? = some x → L.rel h ((cs.drop (0 + i * L.sz)).take L.sz) x := by
    intro cs hle htk i x hx
    have hi : i < xs.length := (List.getElem?_eq_some_iff.1 hx).1
    have h0 := hr i x hx
    rw [hz, Nat.zero_add, Nat.mul_one]
    have hv : vs[i]? = some (vs.getD i undef) := by simp [List.getD_eq_getElem?_getD, List.getElem?_eq_getElem (show i < vs.length by omega)]
    have hc := take_get htk i _ hv
    have hic : i < cs.length := by omega
    rw [List.drop_eq_getElem_cons hic, List.take_succ_cons, List.take_zero]
    rw [List.getElem?_eq_getElem hic] at hc
    rw [Option.some.inj hc]; exact h0
  rcases hV with ⟨rfl, rfl, _⟩ | ⟨cs, rfl, rfl, hle, ht⟩ | ⟨cs, C, rfl, hC, hvC, hCc, rfl, ht⟩
  · have hb : xs = [] := List.eq_nil_of_length_eq_zero hl.symm
    subst hb
    exact ⟨none, 0, 0, rfl, rfl, ⟨fun q e => (nomatch e), Nat.le_refl _, .inl (by unfold SL; omega)⟩, .inl rfl⟩
  · exact ⟨_, _, _, rfl, hl, ⟨fun q e => by cases e; rfl, by unfold SL; omega, .inr (by rw [hz])⟩, .inr ⟨A, 0, _, cs, rfl, hg _ rfl, rfl, key cs hle ht⟩⟩
  · exact ⟨_, _, _, rfl, hl, ⟨fun q e => by cases e; rfl, hvC, .inl (by unfold SL; omega)⟩, .inr ⟨A, 0, _, cs, rfl, hg _ rfl, rfl, key cs (by omega) ht⟩⟩

theorem BoolsV.row {h : AH} {v : Value} {ob : Option AObj} {A : Nat} {bs : List Bool} (hv : BoolsV h v ob A bs) (hb : bs.length ≤ 4294967296) : RowOf boolL h v bs :=
  vecRow (g := h) rfl hv.1 hv.2 (by simp) hb (fun i x hx => by
    show [_] = [_]
    simp [List.getD_eq_getElem?_getD, hx])

/-- The heap without the block of one's own, if there is one. -/
def minusV (h : AH) (ob : Option AObj) (A : Nat) : AH :=
  match ob with
  | none => h
  | some _ => h.del A

theorem minusV_sub (h : AH) (ob : Option AObj) (A : Nat) : Sub (minusV h ob A) h := fun B o hB => by
  cases ob with
  | none => exact hB
  | some p =>
    have hB : (h.del A).get B = some o := hB
    rw [AH.del_get] at hB
    split at hB
    · cases hB
    · exact hB

theorem minusV_mono {h h' : AH} (s : Sub h h') (ob : Option AObj) (A : Nat) : Sub (minusV h ob A) (minusV h' ob A) := fun B o hB => by
  cases ob with
  | none => exact s B o hB
  | some p =>
    have hB : (h.del A).get B = some o := hB
    show (h'.del A).get B = some o
    rw [AH.del_get] at hB ⊢
    split at hB
    · cases hB
    · rename_i e; rw [if_neg e]; exact s B o hB

/-- A slice of slices of truths, of one's own, that grows. -/
structure StK (h0 h : AH) (v : Value) (bss : List (List Bool)) (ob : Option AObj) (A : Nat) : Prop where
  gr : Gr h0 h
  vec : ∃ vs, _root_.Go.Ab.Vec 23 v ob A vs ∧ vs.length = bss.length ∧ ∀ i, i < vs.length → RowOf boolL (minusV h ob A) (vs.getD i undef) (bss.getD i [])
  get : ∀ o, ob = some o → h.get A = some o ∧ h0.next ≤ A

theorem StK.nil {h0 : AH} (w : WFH h0) : StK h0 h0 (.slice none 0 0) [] none 0 := ⟨Gr.refl w, ⟨[], .inl ⟨rfl, rfl, rfl⟩, rfl, fun i hi => (nomatch hi)⟩, fun o e => (nomatch e)⟩

theorem StK.to {h0 h h2 : AH} {v : Value} {bss : List (List Bool)} {ob : Option AObj} {A : Nat} (S : StK h0 h v bss ob A) (g : Gr h h2) : StK h0 h2 v bss ob A := by
  obtain ⟨g0, ⟨vs, hV, hl, hr⟩, hg⟩ := S
  exact ⟨g0.trans g, ⟨vs, hV, hl, fun i hi => (hr i hi).sub (minusV_mono g.sub ob A)⟩, fun o e => ⟨g.sub _ _ (hg o e).1, (hg o e).2⟩⟩

theorem StK.row {h0 h : AH} {v : Value} {bss : List (List Bool)} {ob : Option AObj} {A : Nat} (S : StK h0 h v bss ob A) (hb : bss.length ≤ 4294967296) : RowOf bsL h v bss := by
  obtain ⟨_, ⟨vs, hV, hl, hr⟩, hg⟩ := S
  refine vecRow (g := h) rfl hV (fun o e => (hg o e).1) hl hb (fun i x hx => ?_)
  have hi : i < bss.length := (List.getElem?_eq_some_iff.1 hx).1
  have := hr i (by omega)
  have hxe : bss.getD i [] = x := by simp [List.getD_eq_getElem?_getD, hx]
  rw [hxe] at this
  exact ⟨_, rfl, this.sub (minusV_sub h ob A)⟩

theorem t45 : SlT Try.prog 55 23 24 (.slice none 0 0) := ⟨Try.underlying55, t44.info, t44.flat, rfl, rfl, rfl⟩

/-- Truths of one's own lie in another block than the slice that grows. -/
theorem StK.other {h0 k : AH} {v w : Value} {bss : List (List Bool)} {ob ob2 : Option AObj} {A A2 : Nat} {bs : List Bool} (S : StK h0 k v bss ob A) (hw : BoolsV k w ob2 A2 bs) : BoolsV (minusV k ob A) w ob2 A2 bs := by
  refine ⟨hw.1, fun o e => ?_⟩
  have h2 := hw.2 o e
  cases hob : ob with
  | none => exact h2
  | some p =>
    show (k.del A).get A2 = some o
    rw [AH.del_get, if_neg]
    · exact h2
    · rintro rfl
      have h1 := (S.get p hob).1
      obtain ⟨vs, hV, _⟩ := S.vec
      rw [h1] at h2
      cases h2
      have hb := hw.1
      subst hob
      subst e
      rcases hV with ⟨_, _, e1⟩ | ⟨cs, _, e1, _⟩ | ⟨cs, C, _, _, _, _, e1, _⟩ <;> rcases hb with ⟨_, _, e2⟩ | ⟨cs', _, e2, _⟩ | ⟨cs', C', _, _, _, _, e2, _⟩ <;> first | (cases e1; done) | (cases e2; done) | (rw [e1] at e2; cases e2)

theorem StK.push {t : TypeId} (ht : SlT Try.prog t 23 24 (.slice none 0 0)) {h0 k : AH} {v w : Value} {bss : List (List Bool)} {ob ob2 : Option AObj} {A A2 : Nat} {bs : List Bool} (w0 : WFH h0) (S : StK h0 k v bss ob A) (hw : BoolsV k w ob2 A2 bs) (hb : bss.length ≤ 4294967296) (hb2 : bs.length ≤ 4294967296) :
    ∃ r h3 o' A', aAppend Try.prog #[t, t] v (.slice (some ⟨k.next, 0, none⟩) 1 1) (k.new (.row [w] 23 true)) = some (r, h3) ∧ StK h0 h3 r (bss ++ [bs]) (some o') A' ∧ Sub (minusV k ob A) (minusV h3 (some o') A') := by
  have hwo := S.other hw
  obtain ⟨g0, ⟨vs, hV, hl, hr⟩, hg⟩ := S
  have s2 := Sub.new g0.wf (.row [w] 23 true)
  have hgk : ∀ o, ob = some o → (k.new (.row [w] 23 true)).get A = some o := fun o e => s2 _ _ (hg o e).1
  obtain ⟨r, h3, e, up⟩ := appendV (t := t) (t2 := t) ht ⟨_, ht.sl⟩ (g0.wf.new (.row [w] 23 true)) hV hgk (D := k.next) (by rw [AH.new_get, if_pos rfl]) rfl hw.one.1 (by omega) (by omega)
  obtain ⟨A', o', hV', hg', hA'⟩ := up.up
  have hnk : (k.new (.row [w] 23 true)).next = k.next + 1 := rfl
  have n1 := g0.nx
  have n3 := up.nx
  have lt1 : ∀ B o, k.get B = some o → B < k.next := fun B o hB => AH.get_lt g0.wf hB
  have keep : Sub (minusV k ob A) (minusV h3 (some o') A') := fun B o hB => by
    have hB0 := minusV_sub k ob A B o hB
    have hlt := lt1 B o hB0
    have hne : ob ≠ none → B ≠ A := fun h e2 => by
      cases hob : ob with
      | none => exact h hob
      | some p =>
        subst hob
        have hB : (k.del A).get B = some o := hB
        rw [AH.del_get, if_pos e2] at hB; cases hB
    show (h3.del A').get B = some o
    rw [AH.del_get, if_neg]
    · refine up.frx B o (s2 _ _ hB0) (fun e2 => ?_)
      cases hob : ob with
      | none => rfl
      | some p => exact absurd e2 (hne (by rw [hob]; simp))
    · rcases hA' with ⟨rfl, hx⟩ | h
      · exact hne hx
      · omega
  refine ⟨r, h3, o', A', e, ⟨⟨up.wf, fun B o hB => up.frx B o (s2 _ _ (g0.sub _ _ hB)) (fun e => ?_), by omega⟩, ⟨vs ++ [w], hV', by simp [hl], fun i hi => ?_⟩, fun o e => ?_⟩, keep⟩
  · cases hob : ob with
    | none => rfl
    | some p =>
      have h1 := (hg p hob).2
      have h2 := AH.get_lt w0 hB
      omega
  · by_cases hi2 : i < vs.length
    · have h1 : (vs ++ [w]).getD i undef = vs.getD i undef := by simp [List.getD_eq_getElem?_getD, List.getElem?_append_left hi2]
      have h2 : (bss ++ [bs]).getD i [] = bss.getD i [] := by simp [List.getD_eq_getElem?_getD, List.getElem?_append_left (show i < bss.length by omega)]
      rw [h1, h2]
      exact (hr i hi2).sub keep
    · have hi3 : i = vs.length := by simp at hi; omega
      have h1 : (vs ++ [w]).getD i undef = w := by subst hi3; simp [List.getD_eq_getElem?_getD]
      have h2 : (bss ++ [bs]).getD i [] = bs := by rw [hi3, hl]; simp [List.getD_eq_getElem?_getD]
      rw [h1, h2]
      exact (hwo.row hb2).sub keep
  · cases e
    refine ⟨hg', ?_⟩
    rcases hA' with ⟨rfl, hne⟩ | h
    · cases hob : ob with
      | none => exact absurd hob hne
      | some p => exact (hg p hob).2
    · omega

def StV (h0 h : AH) (v : Value) (bss : List (List Bool)) : Prop := ∃ ob A, StK h0 h v bss ob A

theorem StV.nil {h0 : AH} (w : WFH h0) : StV h0 h0 (.slice none 0 0) [] := ⟨_, _, StK.nil w⟩
theorem StV.gr {h0 h : AH} {v : Value} {bss : List (List Bool)} (S : StV h0 h v bss) : Gr h0 h := let ⟨_, _, S⟩ := S; S.gr
theorem StV.to {h0 h h2 : AH} {v : Value} {bss : List (List Bool)} (S : StV h0 h v bss) (g : Gr h h2) : StV h0 h2 v bss := let ⟨_, _, S⟩ := S; ⟨_, _, S.to g⟩
theorem StV.row {h0 h : AH} {v : Value} {bss : List (List Bool)} (S : StV h0 h v bss) (hb : bss.length ≤ 4294967296) : RowOf bsL h v bss := let ⟨_, _, S⟩ := S; S.row hb
theorem StV.push {t : TypeId} (ht : SlT Try.prog t 23 24 (.slice none 0 0)) {h0 k k1 : AH} {v w : Value} {bss : List (List Bool)} {ob2 : Option AObj} {A2 : Nat} {bs : List Bool} (w0 : WFH h0) (S : StV h0 k v bss) (g : Gr k k1) (hw : BoolsV k1 w ob2 A2 bs) (hb2 : bs.length ≤ 4294967296) (hb : bss.length ≤ 4294967296) :
    ∃ r h3, aAppend Try.prog #[t, t] v (.slice (some ⟨k1.next, 0, none⟩) 1 1) (k1.new (.row [w] 23 true)) = some (r, h3) ∧ StV h0 h3 r (bss ++ [bs]) := by
  obtain ⟨ob, A, S⟩ := S
  obtain ⟨r, h3, o', A', e, S', _⟩ := (S.to g).push ht w0 hw hb hb2
  exact ⟨r, h3, e, _, _, S'⟩

/-! ### Copies, rounds -/

theorem emptyB {k : AH} {A : Nat} (hg : k.get A = some (.row [] 4 true)) : BoolsV k (.slice (some ⟨A, 0, none⟩) 0 0) (some (.row [] 4 true)) A [] :=
  ⟨.inr (.inr ⟨[], 0, rfl, by omega, Nat.le_refl _, Nat.le_refl _, rfl, rfl⟩), fun o e => by cases e; exact hg⟩

theorem cloneB {h : AH} {v : Value} {bs : List Bool} (hv : SlOf h v (bs.map .bool)) (hb : bs.length ≤ 4294967296) :
    ACall Try.prog 39 [v] h (fun r h' => Gr h h' ∧ ∃ ob A, BoolsV h' r ob A bs ∧ ∀ o, ob = some o → h.next ≤ A) := by
  refine ACall.wf ⟨_, Try.func39, rfl, by kernel_rfl⟩ fun hwf => ?_
  refine ACall.of_wp 8 [.tmp 2] Try.func39 rfl (by kernel_rfl) rfl rfl fun a hn hd ha => ?_
  obtain ⟨p, l, c, rfl, hl, hsp, _⟩ := id hv
  simp (disch := first | omega | decide) only [push_cast, ↓reduceIte, Nat.reduceLT, Nat.reduceEqDiff, reduceCtorEq, Nat.reduceAdd, hn, hd, ha, eqBin_nil Try.underlying23]
  cases p with
  | none =>
    have hz : bs = [] := by
      rcases hv with ⟨p', l', c', e, hl', _, hcs⟩
      cases e
      rcases hcs with e | ⟨A, off, o, cs, e, _⟩
      · simpa using e
      · cases e
    subst hz
    simp (disch := first | omega | decide) only [push_cast, ↓reduceIte, Nat.reduceLT, Nat.reduceEqDiff, reduceCtorEq, Nat.reduceAdd, Option.isNone_none, hn, hd]
    exact ⟨Gr.refl hwf, none, 0, ⟨.inl ⟨rfl, rfl, rfl⟩, fun o e => (nomatch e)⟩, fun o e => (nomatch e)⟩
  | some q =>
    have g1 := (Gr.refl hwf).new (.row [] 4 true)
    obtain ⟨r, k1, ob, A, e1, g2, hv1, lo, _, _⟩ := appOwn hwf g1 (emptyB (by rw [AH.new_get, if_pos rfl])) (fun o e => Nat.le_refl _) (hv.sub g1.sub) (by simp; omega)
    simp (disch := first | omega | decide) only [push_cast, ↓reduceIte, Nat.reduceLT, Nat.reduceEqDiff, reduceCtorEq, Nat.reduceAdd, Option.isNone_some, hn, hd, ha, aBuildSlice_empty t23, e1]
    exact ⟨g2, ob, A, by simpa using hv1, lo⟩

theorem cycleB {h : AH} {v : Value} {bs : List Bool} {e b : Bool} (hv : SlOf h v (bs.map .bool)) (hb : bs.length ≤ 4294967294) :
    ACall Try.prog 38 [v, .bool e, .bool b] h (fun r h' => Gr h h' ∧ ∃ ob A, BoolsV h' r ob A (bs ++ [e, b]) ∧ ∀ o, ob = some o → h.next ≤ A) := by
  refine ACall.wf ⟨_, Try.func38, rfl, by kernel_rfl⟩ fun hwf => ?_
  refine ACall.of_wp 13 [.tmp 6] Try.func38 rfl (by kernel_rfl) rfl rfl fun a hn hd ha => ?_
  simp (disch := first | omega | decide) only [push_cast, ↓reduceIte, Nat.reduceLT, Nat.reduceEqDiff, reduceCtorEq, Nat.reduceAdd, hn, hd, ha]
  refine ACall.mono ?_ (cloneB hv (by omega))
  rintro r1 h1 ⟨g1, ob, A, hv1, lo⟩
  have g2 := g1.new (.row [.bool e, .bool b] 4 true)
  have s2 := Sub.new g1.wf (.row [.bool e, .bool b] 4 true)
  have hs : SlOf (h1.new (.row [.bool e, .bool b] 4 true)) (.slice (some ⟨h1.next, 0, none⟩) 2 2) ([e, b].map .bool) := SlOf.lit (by rw [AH.new_get, if_pos rfl]) rfl rfl
  obtain ⟨r2, k2, ob', A', e2, g3, hv2, lo2, _⟩ := appOwn hwf g2 (hv1.sub s2) lo hs (by simp; omega)
  simp (disch := first | omega | decide) only [push_cast, ↓reduceIte, Nat.reduceLT, Nat.reduceEqDiff, reduceCtorEq, Nat.reduceAdd, hn, hd, ha, aBuild2b, e2]
  exact ⟨g3, ob', A', hv2, lo2⟩

theorem indexB {h : AH} {v f : Value} {bss : List (List Bool)} {p : List Bool → Bool} (hv : RowOf bsL h v bss) (hf : ∀ w bs, SlOf h w (bs.map .bool) → callR Try.prog f [w] h (fun r h' => r = .bool (p bs) ∧ h' = h)) (hb : bss.length ≤ 4611686018427387904) :
    ACall Try.prog 52 [v, f] h (IdxPost p bss h) := by
  refine ACall.of_wp 19 [.tmp 4] Try.func52 rfl (by kernel_rfl) rfl rfl fun a hn hd ha => ?_
  simp (disch := first | omega | decide) only [push_cast, ↓reduceIte, Nat.reduceLT, Nat.reduceEqDiff, reduceCtorEq, Nat.reduceAdd, hn, hd, ha, hv.len Try.underlying54]
  refine AW.loopN 8 [4, 5, 8] (fun m a' h' => h' = h ∧ ∃ i : Nat, a'.tm 8 = .int .i64 i ∧ i + m = bss.length ∧ a'.tm 7 = .int .i64 bss.length ∧ (bss.drop i).any p = bss.any p) bss.length ?_ ?_
  · exact ⟨rfl, 0, by simp (disch := first | omega | decide) only [push_cast, ↓reduceIte, Nat.reduceLT, Nat.reduceEqDiff, reduceCtorEq, Nat.reduceAdd], by omega, by simp (disch := first | omega | decide) only [push_cast, ↓reduceIte, Nat.reduceLT, Nat.reduceEqDiff, reduceCtorEq, Nat.reduceAdd], rfl⟩
  · rintro a1 m a' h' hk kn kd kt ⟨rfl, i, h8, him, h7, hany⟩
    simp (disch := first | omega | decide) only [push_cast, ↓reduceIte, Nat.reduceLT, Nat.reduceEqDiff, reduceCtorEq, Nat.reduceAdd, kn, kd, kt, hn, hd, ha, h8, h7]
    refine condV_of (fun hlt => ?_) (fun hge => ?_)
    · have hi : i < bss.length := by have := hlt; simp at this; omega
      obtain ⟨w, hw, e1, e2⟩ := rowAtB hv hi
      simp (disch := first | omega | decide) only [push_cast, ↓reduceIte, Nat.reduceLT, Nat.reduceEqDiff, reduceCtorEq, Nat.reduceAdd, kn, kd, kt, hn, hd, ha, h8, h7, e1, e2]
      refine callR.mono ?_ (hf _ _ hw)
      rintro _ _ ⟨rfl, rfl⟩
      simp (disch := first | omega | decide) only [push_cast, ↓reduceIte, Nat.reduceLT, Nat.reduceEqDiff, reduceCtorEq, Nat.reduceAdd, kn, kd, kt, hn, hd, ha, h8, h7]
      rw [any_drop hi []] at hany
      refine condV_of (fun hp => ?_) (fun hp => ?_)
      · simp (disch := first | omega | decide) only [push_cast, ↓reduceIte, Nat.reduceLT, Nat.reduceEqDiff, reduceCtorEq, Nat.reduceAdd, kn, kd, kt, hn, hd, ha, h8, h7]
        exact ⟨rfl, i, rfl, by rw [← hany, hp]; simp⟩
      · simp (disch := first | omega | decide) only [push_cast, ↓reduceIte, Nat.reduceLT, Nat.reduceEqDiff, reduceCtorEq, Nat.reduceAdd, kn, kd, kt, hn, hd, ha, h8, h7, wrapI]
        exact ⟨m - 1, by omega, (by simp (disch := decide) only [Kp_put, put_none, hk]), rfl, i + 1, by simp (disch := first | omega | decide) only [push_cast, ↓reduceIte, Nat.reduceLT, Nat.reduceEqDiff, reduceCtorEq, Nat.reduceAdd], by omega, by simp (disch := first | omega | decide) only [push_cast, ↓reduceIte, Nat.reduceLT, Nat.reduceEqDiff, reduceCtorEq, Nat.reduceAdd, h7], by rw [← hany, hp]; simp⟩
    · have hi : bss.length ≤ i := by have := hge; simp at this; omega
      rw [List.drop_of_length_le hi] at hany
      simp (disch := first | omega | decide) only [push_cast, ↓reduceIte, Nat.reduceLT, Nat.reduceEqDiff, reduceCtorEq, Nat.reduceAdd, kn, kd, kt, hn, hd, ha, h8, h7]
      exact ⟨rfl, -1, rfl, by rw [← hany]; rfl⟩

theorem containsB {h : AH} {v f : Value} {bss : List (List Bool)} {p : List Bool → Bool} (hv : RowOf bsL h v bss) (hf : ∀ w bs, SlOf h w (bs.map .bool) → callR Try.prog f [w] h (fun r h' => r = .bool (p bs) ∧ h' = h)) (hb : bss.length ≤ 4611686018427387904) :
    ACall Try.prog 41 [v, f] h (fun r h' => r = .bool (bss.any p) ∧ h' = h) := by
  refine ACall.of_wp 9 [.tmp 4] Try.func41 rfl (by kernel_rfl) rfl rfl fun a hn hd ha => ?_
  simp (disch := first | omega | decide) only [push_cast, ↓reduceIte, Nat.reduceLT, Nat.reduceEqDiff, reduceCtorEq, Nat.reduceAdd, hn, hd, ha]
  refine ACall.mono ?_ (indexB hv hf hb)
  rintro _ _ ⟨rfl, k, rfl, hk⟩
  simp (disch := first | omega | decide) only [push_cast, ↓reduceIte, Nat.reduceLT, Nat.reduceEqDiff, reduceCtorEq, Nat.reduceAdd, hn, hd, ha, hk]

theorem emptyQ {h : AH} {w : Value} {bs : List Bool} (hw : SlOf h w (bs.map .bool)) : ACall Try.prog 42 [w] h (fun r h' => r = .bool (decide ((bs.length : Int) = 0)) ∧ h' = h) := by
  refine ACall.of_wp 6 [.tmp 2] Try.func42 rfl (by kernel_rfl) rfl rfl fun a hn hd ha => ?_
  simp (disch := first | omega | decide) only [push_cast, ↓reduceIte, Nat.reduceLT, Nat.reduceEqDiff, reduceCtorEq, Nat.reduceAdd, hn, hd, ha, hw.lenA Try.underlying23]

theorem eqStates {h : AH} {v1 v2 : Value} {xs : List (List Bool)} (h1 : RowOf bsL h v1 xs) (h2 : RowOf bsL h v2 xs) (hb : xs.length ≤ 4611686018427387904) (hx : ∀ l ∈ xs, l.length < 4611686018427387904) :
    ACall Try.prog 24 [v1, v2] h (fun r h' => r = .bool true ∧ h' = h) := by
  refine ACall.of_wp 27 [.tmp 4] Try.func24 rfl (by kernel_rfl) rfl rfl fun a hn hd ha => ?_
  simp (disch := first | omega | decide) only [push_cast, ↓reduceIte, Nat.reduceLT, Nat.reduceEqDiff, reduceCtorEq, Nat.reduceAdd, hn, hd, ha, h1.len Try.underlying54, h2.len Try.underlying54]
  refine AW.loopN 5 [] (fun m a' h' => h' = h ∧ ∃ i : Nat, a'.tm 5 = .int .i64 i ∧ i + m = xs.length) xs.length ?_ ?_
  · exact ⟨rfl, 0, by simp (disch := first | omega | decide) only [push_cast, ↓reduceIte, Nat.reduceLT, Nat.reduceEqDiff, reduceCtorEq, Nat.reduceAdd], by omega⟩
  · rintro a1 m a' h' hk kn kd kt ⟨rfl, i, h5, him⟩
    simp (disch := first | omega | decide) only [push_cast, ↓reduceIte, Nat.reduceLT, Nat.reduceEqDiff, reduceCtorEq, Nat.reduceAdd, kn, kd, kt, hn, hd, ha, h5, h1.len Try.underlying54]
    refine condV_of (fun hlt => ?_) (fun hge => ?_)
    · have hi : i < xs.length := by have := hlt; simp at this; omega
      obtain ⟨w1, hw1, e1, e2⟩ := rowAtB h1 hi
      obtain ⟨w2, hw2, e3, e4⟩ := rowAtB h2 hi
      refine AW.drawP (.take 0 [9, 8, 3, 2] (.take 1 [9, 8, 3, 2] (.take 2 [9, 8, 3] (.take 3 [9, 8] (.take 4 [9, 8, 7, 6] (.take 5 [9, 8, 7, 6] (.take 6 [9, 8, 7] (.take 7 [9, 8] (.only 8 (.take 9 [] .done)))))))))) [(0, 0), (0, 1), (0, 2), (0, 3), (0, 4), (0, 5), (0, 6), (0, 7), (2, 8), (0, 9)] mixed (by kernel_rfl) (by kernel_rfl) ?_
      simp (disch := first | omega | decide) only [push_cast, ↓reduceIte, Nat.reduceLT, Nat.reduceEqDiff, reduceCtorEq, Nat.reduceAdd, kn, kd, kt, hn, hd, ha, h5, e1, e2, e3, e4]
      refine ACall.mono ?_ (eqBools hw1 hw2 (hx _ (getD_mem hi [])))
      rintro _ _ ⟨rfl, rfl⟩
      simp (disch := first | omega | decide) only [push_cast, ↓reduceIte, Nat.reduceLT, Nat.reduceEqDiff, reduceCtorEq, Nat.reduceAdd, kn, kd, kt, hn, hd, ha, h5, wrapI]
      exact ⟨m - 1, by omega, (by simp (disch := decide) only [Kp_put, put_none, hk]), rfl, i + 1, by simp (disch := first | omega | decide) only [push_cast, ↓reduceIte, Nat.reduceLT, Nat.reduceEqDiff, reduceCtorEq, Nat.reduceAdd], by omega⟩
    · simp (disch := first | omega | decide) only [push_cast, ↓reduceIte, Nat.reduceLT, Nat.reduceEqDiff, reduceCtorEq, Nat.reduceAdd, kn, kd, kt, hn, hd, ha, h5]


theorem StV.base {h0 h1 h : AH} {v : Value} {bss : List (List Bool)} (g : Gr h0 h1) (S : StV h1 h v bss) : StV h0 h v bss := by
  obtain ⟨ob, A, g1, hV, hg⟩ := S
  exact ⟨ob, A, g.trans g1, hV, fun o e => ⟨(hg o e).1, Nat.le_trans g.nx (hg o e).2⟩⟩

noncomputable def patE (n : Net) (ord : List Int) (st inp : List Bool) : Int :=
  if scanE n ord ≠ 0 then scanE n ord else if ¬ ((st.length : Int) = n.flops.length ∧ (inp.length : Int) = n.inputs) then 12 else if 2 * (ord.length : Int) + 1 > 64 then 5 else 0

def inT (k : Nat) (b : Bool) : List Bool := List.replicate k false ++ [true, b]
def patL (k : Nat) (inp out : List Bool) : List (List Bool) := out.map (inT k) ++ [inp ++ [false, false]] ++ out.map (fun _ => inT k false)

def PatPost (n : Net) (ord : List Int) (st inp : List Bool) (h : AH) (r : Value) (h' : AH) : Prop :=
  (patE n ord st inp ≠ 0 ∧ Gr h h' ∧ r = .tuple #[.slice none 0 0, .int .i64 (patE n ord st inp)]) ∨
  (patE n ord st inp = 0 ∧ ∃ out u, IsLoad ord st out ∧ r = .tuple #[u, .int .i64 0] ∧ StV h h' u (patL n.inputs.toNat inp out))

theorem scanE_z {n : Net} {ord : List Int} (h : scanE n ord = 0) : netE n = 0 ∧ IsPerm ord ∧ (ord.length : Int) = n.flops.length := by
  unfold scanE at h
  split at h
  · rename_i e; exact absurd h e
  · rename_i e
    split at h
    · rename_i e2; exact ⟨by simpa using e, e2.1, e2.2⟩
    · cases h

theorem patternN {h : AH} {n : Net} {cv fv iv ov v sv xv : Value} {ord : List Int} {st inp : List Bool} (r : NetR h n cv fv iv ov) (ok : NetOK n) (hv : SlOf h v (ord.map (.int .i64))) (hs : SlOf h sv (st.map .bool)) (hx : SlOf h xv (inp.map .bool)) (hb : ord.length ≤ 17592186043904) :
    ACall Try.prog 21 [.agg (netC n cv fv iv ov).toArray, v, sv, xv] h (PatPost n ord st inp h) := by
  refine ACall.wf ⟨_, Try.func21, rfl, by kernel_rfl⟩ fun hwf => ?_
  refine ACall.of_wp 88 [.tmp 8, .tmp 9] Try.func21 rfl (by kernel_rfl) rfl rfl fun a hn hd ha => ?_
  have hbox := boxA 34 h _ r.one
  have hN := NetAt.new (h := h) (n := n) (cv := cv) (fv := fv) (iv := iv) (ov := ov)
  have g1 : Gr h (h.new (.row (netC n cv fv iv ov) 34 true)) := (Gr.refl hwf).new _
  simp (disch := first | omega | decide) only [push_cast, ↓reduceIte, Nat.reduceLT, Nat.reduceEqDiff, reduceCtorEq, Nat.reduceAdd, hn, hd, ha, hbox, hN.l0, hN.l1, hN.l2, hN.l3, hN.l4, hN.la]
  generalize h.new (.row (netC n cv fv iv ov) 34 true) = h1 at hN g1 ⊢
  generalize h.next = B0 at hN ⊢
  have r1 := r.sub g1.sub
  have hv1 := hv.sub g1.sub
  have hs1 := hs.sub g1.sub
  have hx1 := hx.sub g1.sub
  refine ACall.mono ?_ (scanCheck r1 ok hv1 (by omega))
  rintro _ _ ⟨rfl, rfl⟩
  rename_i h1
  by_cases e : scanE n ord = 0
  case neg =>
    simp (disch := first | omega | decide) only [push_cast, ↓reduceIte, Nat.reduceLT, Nat.reduceEqDiff, reduceCtorEq, Nat.reduceAdd, hn, hd, ha, e]
    exact .inl ⟨by unfold patE; rw [if_pos e]; exact e, g1, by unfold patE; rw [if_pos e]⟩
  obtain ⟨en, hp, hl⟩ := scanE_z e
  have s := ShapeOK.of (netE_zero.1 en).1
  have hi0 := s.i0
  have hi1 := s.i1
  obtain ⟨ni, hni⟩ := Int.eq_ofNat_of_zero_le hi0
  have hE : patE n ord st inp = if ¬ ((st.length : Int) = n.flops.length ∧ (inp.length : Int) = n.inputs) then 12 else if 2 * (ord.length : Int) + 1 > 64 then 5 else 0 := by
    unfold patE; rw [if_neg (by simpa using e)]
  by_cases e1 : (st.length : Int) = n.flops.length
  case neg =>
    simp (disch := first | omega | decide) only [push_cast, ↓reduceIte, Nat.reduceLT, Nat.reduceEqDiff, reduceCtorEq, Nat.reduceAdd, hn, hd, ha, e, faL foN0, faL foN1, faL foN2, faL foN3, faL foN4, hN.l0, hN.l1, hN.l2, hN.l3, hN.l4, hN.la, r1.f.len Try.underlying31, hs1.lenA Try.underlying23, hx1.lenA Try.underlying23, e1]
    rw [if_pos (by simp [e1])] at hE
    exact .inl ⟨by omega, g1, by rw [hE]⟩
  by_cases e2 : (inp.length : Int) = n.inputs
  case neg =>
    simp (disch := first | omega | decide) only [push_cast, ↓reduceIte, Nat.reduceLT, Nat.reduceEqDiff, reduceCtorEq, Nat.reduceAdd, hn, hd, ha, e, faL foN0, faL foN1, faL foN2, faL foN3, faL foN4, hN.l0, hN.l1, hN.l2, hN.l3, hN.l4, hN.la, r1.f.len Try.underlying31, hs1.lenA Try.underlying23, hx1.lenA Try.underlying23, e1, e2]
    rw [if_pos (by simp [e2])] at hE
    exact .inl ⟨by omega, g1, by rw [hE]⟩
  rw [if_neg (by simp [e1, e2])] at hE
  have hw1 : IntKind.i64.wrap (2 * (ord.length : Int)) = 2 * ord.length := wrapI (by omega) (by omega)
  have hw2 : IntKind.i64.wrap (2 * (ord.length : Int) + 1) = 2 * ord.length + 1 := wrapI (by omega) (by omega)
  simp (disch := first | omega | decide) only [push_cast, ↓reduceIte, Nat.reduceLT, Nat.reduceEqDiff, reduceCtorEq, Nat.reduceAdd, hn, hd, ha, e, faL foN0, faL foN1, faL foN2, faL foN3, faL foN4, hN.l0, hN.l1, hN.l2, hN.l3, hN.l4, hN.la, r1.f.len Try.underlying31, hs1.lenA Try.underlying23, hx1.lenA Try.underlying23, hv1.lenA Try.underlying22, e1, e2, hw1, hw2]
  refine condV_of (fun h5 => ?_) (fun h5 => ?_)
  · have h5' : 2 * (ord.length : Int) + 1 > 64 := by simpa using h5
    simp (disch := first | omega | decide) only [push_cast, ↓reduceIte, Nat.reduceLT, Nat.reduceEqDiff, reduceCtorEq, Nat.reduceAdd, hn, hd, ha]
    rw [if_pos h5'] at hE
    exact .inl ⟨by omega, g1, by rw [hE]⟩
  have h5' : ¬ 2 * (ord.length : Int) + 1 > 64 := by simpa using h5
  rw [if_neg h5'] at hE
  have hch : chainE ord st.length = 0 := by unfold chainE; rw [if_pos hp, if_pos (by omega)]
  simp (disch := first | omega | decide) only [push_cast, ↓reduceIte, Nat.reduceLT, Nat.reduceEqDiff, reduceCtorEq, Nat.reduceAdd, hn, hd, ha]
  refine ACall.mono ?_ (loadO hv1 hs1 (by omega))
  rintro _ h2 ⟨g2, hq⟩
  rcases hq with ⟨hc, _⟩ | ⟨_, A, out, rfl, hil, hol, hA, hrow⟩
  · exact absurd hch hc
  have hN2 := hN.sub g2.sub
  have g3 := g2.new (.row ((List.replicate ni false).map .bool) 4 true)
  have s3 := Sub.new g2.wf (.row ((List.replicate ni false).map .bool) 4 true)
  simp (disch := first | omega | decide) only [push_cast, ↓reduceIte, Nat.reduceLT, Nat.reduceEqDiff, reduceCtorEq, Nat.reduceAdd, hn, hd, ha, faL foN0, faL foN1, faL foN2, faL foN3, faL foN4, hN2.l0, hN2.l1, hN2.l2, hN2.l3, hN2.l4, hN2.la, hni, aMakeSlice_at t23 h2 ni (by omega) (by omega), replicate_bool, lenS Try.underlying23]
  have hId : SlOf (h2.new (.row ((List.replicate ni false).map .bool) 4 true)) (.slice (some ⟨h2.next, 0, none⟩) ni ni) ((List.replicate ni false).map .bool) := SlOf.lit (by rw [AH.new_get, if_pos rfl]) rfl (by simp)
  have hO : SlOf (h2.new (.row ((List.replicate ni false).map .bool) 4 true)) (.slice (some ⟨A, 0, none⟩) ord.length ord.length) (out.map .bool) := SlOf.lit (s3 _ _ hrow) rfl (by simp [hol])
  have hx3 := hx1.sub g3.sub
  generalize h2.new (.row ((List.replicate ni false).map .bool) 4 true) = h3 at hId hO g3 hx3 ⊢
  generalize h2.next = B1 at hId ⊢
  refine AW.mono (Q := fun ex a' h' => ex = .exit 1 ∧ a'.n = 88 ∧ a'.df = [] ∧ a'.tm 3 = xv ∧ a'.tm 11 = .slice (some ⟨A, 0, none⟩) ord.length ord.length ∧ a'.tm 12 = .func (.func 38) #[] #[] ∧ a'.tm 13 = .slice (some ⟨B1, 0, none⟩) ni ni ∧ StV h3 h' (a'.tm 14) (out.map (inT ni))) ?_ ?_
  case refine_2 =>
    refine AW.loopN 58 [14, 16] (fun m a' h' => ∃ i : Nat, a'.tm 58 = .int .i64 i ∧ i + m = ord.length ∧ StV h3 h' (a'.tm 14) ((out.take i).map (inT ni))) ord.length ?_ ?_
    · exact ⟨0, by simp (disch := first | omega | decide) only [push_cast, ↓reduceIte, Nat.reduceLT, Nat.reduceEqDiff, reduceCtorEq, Nat.reduceAdd], by omega, by simp (disch := first | omega | decide) only [push_cast, ↓reduceIte, Nat.reduceLT, Nat.reduceEqDiff, reduceCtorEq, Nat.reduceAdd]; exact StV.nil g3.wf⟩
    rintro a1 m a' h' hk kn kd kt ⟨i, h58, him, S⟩
    simp (disch := first | omega | decide) only [push_cast, ↓reduceIte, Nat.reduceLT, Nat.reduceEqDiff, reduceCtorEq, Nat.reduceAdd, kn, kd, kt, hn, hd, ha, h58]
    refine condV_of (fun hlt => ?_) (fun hge => ?_)
    · have hi : i < ord.length := by have := hlt; simp at this; omega
      have hO' := hO.sub S.gr.sub
      have hidx := hO'.idxB sl23 .i64 i (by omega) (by omega)
      have hld := hO'.ldB sl23 i (by omega)
      rw [Int.toNat_natCast] at hidx
      simp (disch := first | omega | decide) only [push_cast, ↓reduceIte, Nat.reduceLT, Nat.reduceEqDiff, reduceCtorEq, Nat.reduceAdd, kn, kd, kt, hn, hd, ha, h58, hidx, hld]
      refine ACall.mono ?_ (cycleB (hId.sub S.gr.sub) (by simp; omega))
      rintro w k1 ⟨g4, ob, A2, hw, lo⟩
      obtain ⟨r5, k5, e5, S5⟩ := StV.push t45 g3.wf S g4 hw (by simp; omega) (by simp; omega)
      simp (disch := first | omega | decide) only [push_cast, ↓reduceIte, Nat.reduceLT, Nat.reduceEqDiff, reduceCtorEq, Nat.reduceAdd, kn, kd, kt, hn, hd, ha, h58, aBuild1 t45 k1 hw.one.2 hw.one.1, e5, wrapI]
      refine ⟨m - 1, by omega, (by simp (disch := decide) only [Kp_put, put_none, hk]), i + 1, by simp (disch := first | omega | decide) only [push_cast, ↓reduceIte, Nat.reduceLT, Nat.reduceEqDiff, reduceCtorEq, Nat.reduceAdd], by omega, ?_⟩
      simp (disch := first | omega | decide) only [push_cast, ↓reduceIte, Nat.reduceLT, Nat.reduceEqDiff, reduceCtorEq, Nat.reduceAdd]
      have : (out.take (i + 1)).map (inT ni) = (out.take i).map (inT ni) ++ [List.replicate ni false ++ [true, out.getD i false]] := by
        rw [take_succ_getD (show i < out.length by omega) false, List.map_append]; rfl
      rw [this]; exact S5
    · have hi : i = ord.length := by have := hge; simp at this; omega
      simp (disch := first | omega | decide) only [push_cast, ↓reduceIte, Nat.reduceLT, Nat.reduceEqDiff, reduceCtorEq, Nat.reduceAdd, kn, kd, kt, hn, hd, ha, h58]
      rw [List.take_of_length_le (by omega)] at S
      exact S
  clear ha hn hd a
  rintro _ a k3 ⟨rfl, hn, hd, t3, t11, t12, t13, S⟩
  simp (disch := first | omega | decide) only [push_cast, ↓reduceIte, Nat.reduceLT, Nat.reduceEqDiff, reduceCtorEq, Nat.reduceAdd, hn, hd, t3, t11, t12, t13]
  refine ACall.mono ?_ (cycleB (hx3.sub S.gr.sub) (by omega))
  rintro w k4 ⟨g4, ob, A2, hw, lo⟩
  obtain ⟨r5, k5, e5, S5⟩ := StV.push t45 g3.wf S g4 hw (by simp; omega) (by simp; omega)
  simp (disch := first | omega | decide) only [push_cast, ↓reduceIte, Nat.reduceLT, Nat.reduceEqDiff, reduceCtorEq, Nat.reduceAdd, hn, hd, t3, t11, t12, t13, aBuild1 t45 k4 hw.one.2 hw.one.1, e5, lenS Try.underlying23]
  refine AW.loopN 78 [14] (fun m a' h' => ∃ i : Nat, a'.tm 78 = .int .i64 i ∧ i + m = ord.length ∧ StV h3 h' (a'.tm 14) (out.map (inT ni) ++ [inp ++ [false, false]] ++ (out.take i).map (fun _ => inT ni false))) ord.length ?_ ?_
  · exact ⟨0, by simp (disch := first | omega | decide) only [push_cast, ↓reduceIte, Nat.reduceLT, Nat.reduceEqDiff, reduceCtorEq, Nat.reduceAdd], by omega, by simp (disch := first | omega | decide) only [push_cast, ↓reduceIte, Nat.reduceLT, Nat.reduceEqDiff, reduceCtorEq, Nat.reduceAdd]; simpa using S5⟩
  rintro a1 m a' h' hk kn kd kt ⟨i, h78, him, S6⟩
  simp (disch := first | omega | decide) only [push_cast, ↓reduceIte, Nat.reduceLT, Nat.reduceEqDiff, reduceCtorEq, Nat.reduceAdd, kn, kd, kt, hn, hd, t3, t11, t12, t13, h78]
  refine condV_of (fun hlt => ?_) (fun hge => ?_)
  · have hi : i < ord.length := by have := hlt; simp at this; omega
    simp (disch := first | omega | decide) only [push_cast, ↓reduceIte, Nat.reduceLT, Nat.reduceEqDiff, reduceCtorEq, Nat.reduceAdd, kn, kd, kt, hn, hd, t3, t11, t12, t13, h78]
    refine ACall.mono ?_ (cycleB (hId.sub S6.gr.sub) (by simp; omega))
    rintro w k1 ⟨g4, ob, A2, hw, lo⟩
    obtain ⟨r7, k7, e7, S7⟩ := StV.push t45 g3.wf S6 g4 hw (by simp; omega) (by simp; omega)
    simp (disch := first | omega | decide) only [push_cast, ↓reduceIte, Nat.reduceLT, Nat.reduceEqDiff, reduceCtorEq, Nat.reduceAdd, kn, kd, kt, hn, hd, t3, t11, t12, t13, h78, aBuild1 t45 k1 hw.one.2 hw.one.1, e7, wrapI]
    refine ⟨m - 1, by omega, (by simp (disch := decide) only [Kp_put, put_none, hk]), i + 1, by simp (disch := first | omega | decide) only [push_cast, ↓reduceIte, Nat.reduceLT, Nat.reduceEqDiff, reduceCtorEq, Nat.reduceAdd], by omega, ?_⟩
    simp (disch := first | omega | decide) only [push_cast, ↓reduceIte, Nat.reduceLT, Nat.reduceEqDiff, reduceCtorEq, Nat.reduceAdd]
    have : (out.take (i + 1)).map (fun _ => inT ni false) = (out.take i).map (fun _ => inT ni false) ++ [List.replicate ni false ++ [true, false]] := by
      rw [take_succ_getD (show i < out.length by omega) false, List.map_append]; rfl
    rw [this, ← List.append_assoc]; exact S7
  · have hi : i = ord.length := by have := hge; simp at this; omega
    simp (disch := first | omega | decide) only [push_cast, ↓reduceIte, Nat.reduceLT, Nat.reduceEqDiff, reduceCtorEq, Nat.reduceAdd, kn, kd, kt, hn, hd, t3, t11, t12, t13, h78]
    rw [List.take_of_length_le (by omega)] at S6
    exact .inr ⟨hE, out, _, hil, rfl, by rw [hni]; exact S6.base (g1.trans g3)⟩


theorem permV {h : AH} {v : Value} {zs : List Int} {n : Int} (hv : SlOf h v (zs.map (.int .i64))) (hb : zs.length ≤ 17592186043904) :
    ACall Try.prog 40 [v, .int .i64 n] h (fun r h' => r = .bool (decide (IsPerm zs ∧ (zs.length : Int) = n)) ∧ h' = h) :=
  ACall.viewed rfl (ACall.mono (fun _ _ q => q.1) (permutation hv.view hb))

def hasNil (outs : List (List Bool)) : Bool := outs.any fun l => decide ((l.length : Int) = 0)
noncomputable def obsE (ord : List Int) (outs : List (List Bool)) : Int :=
  if ¬ IsPerm ord then 1 else if ¬ (outs.length : Int) = 2 * ord.length + 1 ∨ hasNil outs = true then 12 else 0
def lastB (l : List Bool) : Bool := l.getD (l.length - 1) false
def bitsO (ord : List Int) (outs : List (List Bool)) : List Bool := (outs.drop (ord.length + 1)).map lastB

def ObsPost (ord : List Int) (outs : List (List Bool)) (h : AH) (r : Value) (h' : AH) : Prop :=
  Gr h h' ∧ ((obsE ord outs ≠ 0 ∧ r = .tuple #[.slice none 0 0, .int .i64 (obsE ord outs)]) ∨
    (obsE ord outs = 0 ∧ ∃ u out, r = .tuple #[u, .int .i64 0] ∧ IsUnload ord (bitsO ord outs) out ∧ SlOf h' u (out.map .bool)))

theorem hasNil_at {outs : List (List Bool)} (h : hasNil outs = false) {i : Nat} (hi : i < outs.length) : 0 < (outs.getD i []).length := by
  unfold hasNil at h
  rw [List.any_eq_false] at h
  have := h _ (getD_mem hi [])
  simp at this
  exact List.length_pos_iff.2 this

theorem obs_end {ord : List Int} {outs : List (List Bool)} {h h1 : AH} {r : Value} {h2 : AH} (hE : obsE ord outs = 0) (hp : IsPerm ord) (hl : (outs.length : Int) = 2 * ord.length + 1) (g : Gr h h1) (q : LoadOwn IsUnload ord (bitsO ord outs) h1 r h2) :
    ObsPost ord outs h r h2 := by
  obtain ⟨g2, hq⟩ := q
  have hbl : (bitsO ord outs).length = ord.length := by unfold bitsO; rw [List.length_map, List.length_drop]; omega
  rcases hq with ⟨hc, _⟩ | ⟨_, A, out, rfl, hu, hol, _, hrow⟩
  · exact absurd (by unfold chainE; rw [if_pos hp, if_pos hbl]) hc
  · exact ⟨g.trans g2, .inr ⟨hE, _, out, rfl, hu, SlOf.lit hrow rfl (by simp [hol])⟩⟩

theorem bits_take {ord : List Int} {outs : List (List Bool)} {i : Nat} (hi : i + (ord.length + 1) < outs.length) : (bitsO ord outs).take (i + 1) = (bitsO ord outs).take i ++ [lastB (outs.getD (ord.length + 1 + i) [])] := by
  have hl : i < (bitsO ord outs).length := by unfold bitsO; rw [List.length_map, List.length_drop]; omega
  rw [take_succ_getD hl false]
  congr 2
  unfold bitsO
  have hd : ord.length + 1 + i < outs.length := by omega
  simp [List.getD_eq_getElem?_getD, List.getElem?_map, List.getElem?_drop, List.getElem?_eq_getElem hd]

theorem observeN {h : AH} {v ov : Value} {ord : List Int} {outs : List (List Bool)} (hv : SlOf h v (ord.map (.int .i64))) (ho : RowOf bsL h ov outs) (hb : ord.length ≤ 4294967296) (hol : outs.length ≤ 4294967296) (hbl : ∀ l ∈ outs, l.length ≤ 4611686018427387904) :
    ACall Try.prog 22 [v, ov] h (ObsPost ord outs h) := by
  refine ACall.wf ⟨_, Try.func22, rfl, by kernel_rfl⟩ fun hwf => ?_
  refine ACall.of_wp 52 [.tmp 4, .tmp 5] Try.func22 rfl (by kernel_rfl) rfl rfl fun a hn hd ha => ?_
  simp (disch := first | omega | decide) only [push_cast, ↓reduceIte, Nat.reduceLT, Nat.reduceEqDiff, reduceCtorEq, Nat.reduceAdd, hn, hd, ha, hv.lenA Try.underlying22]
  refine ACall.mono ?_ (permV hv (by omega))
  rintro _ _ ⟨rfl, rfl⟩
  rename_i h
  by_cases hp : IsPerm ord
  case neg =>
    have hE : obsE ord outs = 1 := by unfold obsE; rw [if_pos hp]
    simp (disch := first | omega | decide) only [push_cast, ↓reduceIte, Nat.reduceLT, Nat.reduceEqDiff, reduceCtorEq, Nat.reduceAdd, hn, hd, ha, hp, false_and]
    exact ⟨Gr.refl hwf, .inl ⟨by omega, by rw [hE]⟩⟩
  have hw1 : IntKind.i64.wrap (2 * (ord.length : Int)) = 2 * ord.length := wrapI (by omega) (by omega)
  have hw2 : IntKind.i64.wrap (2 * (ord.length : Int) + 1) = 2 * ord.length + 1 := wrapI (by omega) (by omega)
  have hE : obsE ord outs = if ¬ (outs.length : Int) = 2 * ord.length + 1 ∨ hasNil outs = true then 12 else 0 := by unfold obsE; rw [if_neg (by simpa using hp)]
  by_cases e1 : (outs.length : Int) = 2 * ord.length + 1
  case neg =>
    simp (disch := first | omega | decide) only [push_cast, ↓reduceIte, Nat.reduceLT, Nat.reduceEqDiff, reduceCtorEq, Nat.reduceAdd, hn, hd, ha, hp, ho.len Try.underlying54, hv.lenA Try.underlying22, hw1, hw2, e1]
    rw [if_pos (.inl e1)] at hE
    exact ⟨Gr.refl hwf, .inl ⟨by omega, by rw [hE]⟩⟩
  have e1q : ((outs.length : Int) = 2 * ord.length + 1) = True := eq_true e1
  simp (disch := first | omega | decide) only [push_cast, ↓reduceIte, Nat.reduceLT, Nat.reduceEqDiff, reduceCtorEq, Nat.reduceAdd, hn, hd, ha, hp, ho.len Try.underlying54, hv.lenA Try.underlying22, hw1, hw2, e1q]
  refine ACall.mono ?_ (containsB (p := fun l => decide ((l.length : Int) = 0)) ho (fun w bs hw => by rw [callR_func]; exact emptyQ hw) (by omega))
  rintro _ _ ⟨rfl, rfl⟩
  rename_i h
  have hany : (outs.any fun l => decide ((l.length : Int) = 0)) = hasNil outs := rfl
  rw [hany]
  cases e2 : hasNil outs with
  | true =>
    simp (disch := first | omega | decide) only [push_cast, ↓reduceIte, Nat.reduceLT, Nat.reduceEqDiff, reduceCtorEq, Nat.reduceAdd, hn, hd, ha]
    rw [if_pos (.inr e2)] at hE
    exact ⟨Gr.refl hwf, .inl ⟨by omega, by rw [hE]⟩⟩
  | false =>
  rw [if_neg (by simp [e1, e2])] at hE
  obtain ⟨v', hsl, hr'⟩ := rowPostB (k := .i64) (n := ord.length + 1) ho (by omega)
  have hcast : ((ord.length + 1 : Nat) : Int) = ord.length + 1 := by simp
  rw [hcast] at hsl
  have hw3 : IntKind.i64.wrap ((ord.length : Int) + 1) = ord.length + 1 := wrapI (by omega) (by omega)
  have hdl : (outs.drop (ord.length + 1)).length = ord.length := by rw [List.length_drop]; omega
  simp (disch := first | omega | decide) only [push_cast, ↓reduceIte, Nat.reduceLT, Nat.reduceEqDiff, reduceCtorEq, Nat.reduceAdd, hn, hd, ha, hv.lenA Try.underlying22, hw3, hsl, hr'.len Try.underlying54, hdl]
  refine AW.mono (Q := fun ex a' h' => ex = .exit 1 ∧ a'.n = 52 ∧ a'.df = [] ∧ a'.tm 0 = v ∧ Gr h h' ∧ FrSl 4 h h' (a'.tm 6) ((bitsO ord outs).map .bool)) ?_ ?_
  case refine_2 =>
    refine AW.loopN 33 [6, 8] (fun m a' h' => Gr h h' ∧ ∃ i : Nat, a'.tm 33 = .int .i64 i ∧ i + m = ord.length ∧ FrSl 4 h h' (a'.tm 6) (((bitsO ord outs).take i).map .bool)) ord.length ?_ ?_
    · exact ⟨Gr.refl hwf, 0, by simp (disch := first | omega | decide) only [push_cast, ↓reduceIte, Nat.reduceLT, Nat.reduceEqDiff, reduceCtorEq, Nat.reduceAdd], by omega, by simp (disch := first | omega | decide) only [push_cast, ↓reduceIte, Nat.reduceLT, Nat.reduceEqDiff, reduceCtorEq, Nat.reduceAdd]; exact FrSl.nil _ _ _⟩
    rintro a1 m a' h' hk kn kd kt ⟨g, i, h33, him, F⟩
    simp (disch := first | omega | decide) only [push_cast, ↓reduceIte, Nat.reduceLT, Nat.reduceEqDiff, reduceCtorEq, Nat.reduceAdd, kn, kd, kt, hn, hd, ha, h33]
    refine condV_of (fun hlt => ?_) (fun hge => ?_)
    · have hi : i < ord.length := by have := hlt; simp at this; omega
      obtain ⟨w, hw, f1, f2⟩ := rowAtB (hr'.sub g.sub) (i := i) (by omega)
      have hge0 : (outs.drop (ord.length + 1)).getD i [] = outs.getD (ord.length + 1 + i) [] := by simp [List.getD_eq_getElem?_getD, List.getElem?_drop]
      rw [hge0] at hw
      have hpos := hasNil_at e2 (i := ord.length + 1 + i) (by omega)
      have hbnd := hbl _ (getD_mem (show ord.length + 1 + i < outs.length by omega) [])
      have hbt := bits_take (ord := ord) (outs := outs) (i := i) (by omega)
      generalize outs.getD (ord.length + 1 + i) [] = l at *
      obtain ⟨k, hkl⟩ : ∃ k : Nat, l.length = k + 1 := ⟨l.length - 1, by omega⟩
      have hll : lastB l = l.getD k false := by unfold lastB; rw [hkl]; simp
      have hwl : IntKind.i64.wrap ((l.length : Int) - 1) = k := by rw [hkl, Int.natCast_add, Int.natCast_one, Int.add_sub_cancel]; exact wrapI (by omega) (by omega)
      have hidx := hw.idxB sl23 .i64 k (by omega) (by omega)
      have hld := hw.ldB sl23 k (by omega)
      rw [Int.toNat_natCast] at hidx
      have happ := app1 t23 g F (by simp; omega) (by simp; omega) (.bool (lastB l))
      rw [hll] at happ hbt
      simp (disch := first | omega | decide) only [push_cast, ↓reduceIte, Nat.reduceLT, Nat.reduceEqDiff, reduceCtorEq, Nat.reduceAdd, kn, kd, kt, hn, hd, ha, h33, f1, f2, hw.lenA Try.underlying23, hwl, hidx, hld, fun b => aBuild1 t23 h' (x := .bool b) rfl rfl, happ, wrapI]
      refine ⟨m - 1, by omega, (by simp (disch := decide) only [Kp_put, put_none, hk]), app1_gr hwf g F, i + 1, by simp (disch := first | omega | decide) only [push_cast, ↓reduceIte, Nat.reduceLT, Nat.reduceEqDiff, reduceCtorEq, Nat.reduceAdd], by omega, ?_⟩
      simp (disch := first | omega | decide) only [push_cast, ↓reduceIte, Nat.reduceLT, Nat.reduceEqDiff, reduceCtorEq, Nat.reduceAdd]
      rw [hbt, List.map_append]
      have := app1_fr (e := 4) (v := a'.tm 6) (x := .bool (l.getD k false)) (vs := ((bitsO ord outs).take i).map .bool) g
      simpa using this
    · have hi : i = ord.length := by have := hge; simp at this; omega
      simp (disch := first | omega | decide) only [push_cast, ↓reduceIte, Nat.reduceLT, Nat.reduceEqDiff, reduceCtorEq, Nat.reduceAdd, kn, kd, kt, hn, hd, ha, h33]
      have hbl2 : (bitsO ord outs).length = ord.length := by unfold bitsO; rw [List.length_map]; exact hdl
      rw [List.take_of_length_le (by omega)] at F
      exact ⟨g, F⟩
  have t0 := ha 0
  simp only [List.getD_cons_zero] at t0
  clear ha hn hd a t0
  rintro _ a h2 ⟨rfl, hn, hd, t0, g, F⟩
  simp (disch := first | omega | decide) only [push_cast, ↓reduceIte, Nat.reduceLT, Nat.reduceEqDiff, reduceCtorEq, Nat.reduceAdd, hn, hd, t0]
  refine ACall.mono ?_ (unloadO (hv.sub g.sub) F.sl (by omega))
  intro r h3 q
  obtain ⟨gg, hq⟩ := obs_end hE hp e1 g q
  rcases hq with ⟨hc, _⟩ | ⟨_, u, out, rfl, hu, hs⟩
  · exact absurd hE hc
  simp (disch := first | omega | decide) only [push_cast, ↓reduceIte, Nat.reduceLT, Nat.reduceEqDiff, reduceCtorEq, Nat.reduceAdd, hn, hd, t0]
  exact ⟨gg, .inr ⟨hE, u, out, rfl, hu, hs⟩⟩

end Go.Ab.S1

namespace Go.Ab

section
variable {P : Program}

/-- What the run of an operation must bring about. -/
def freeK (F : Nat → Value → AH → Prop) (i : Nat) (o : Oper) (a : AAct) (h : AH) (a2 : AAct) (h2 : AH) : Prop := ∃ v, a2 = a.put o.dst v ∧ F i v h2 ∧ Gr h h2

def dstOf (ops : Array Oper) (j : Nat) : Nat := ((ops[j]?).bind (·.dst)).getD 0

/-- The facts of the operations that one waits for. -/
def factsW (F : Nat → Value → AH → Prop) (ops : Array Oper) (a : AAct) (h : AH) : List Nat → Prop
  | [] => True
  | j :: l => F j (a.tm (dstOf ops j)) h ∧ factsW F ops a h l

/-- Between the operations. -/
structure FreeAt (a0 : AAct) (h0 : AH) (T : List Nat) (a : AAct) (h : AH) : Prop where
  n : a.n = a0.n
  df : a.df = a0.df
  tm : ∀ t, t ∉ T → a.tm t = a0.tm t
  gr : Gr h0 h

def freeM (P : Program) (F : Nat → Value → AH → Prop) (ops : Array Oper) (N : AAct → AH → Prop) (a0 : AAct) (h0 : AH) (T : List Nat) : Nat → List Oper → List (List Nat) → Prop
  | _, [], _ => True
  | i, o :: l, D => (∀ a h, FreeAt a0 h0 T a h → factsW F ops a h (D.headD []) → opsM P ops (if l.isEmpty then N else freeK F i o a h) [o] a h) ∧ freeM P F ops N a0 h0 T (i + 1) l D.tail

theorem freeM_cons {F : Nat → Value → AH → Prop} {ops : Array Oper} {N : AAct → AH → Prop} {a0 : AAct} {h0 : AH} {T : List Nat} {i : Nat} {o o' : Oper} {l : List Oper} {d : List Nat} {D : List (List Nat)}
    (h1 : ∀ a h, FreeAt a0 h0 T a h → factsW F ops a h d → opsM P ops (freeK F i o a h) [o] a h) (h2 : freeM P F ops N a0 h0 T (i + 1) (o' :: l) D) : freeM P F ops N a0 h0 T i (o :: o' :: l) (d :: D) := ⟨h1, h2⟩
theorem freeM_last {F : Nat → Value → AH → Prop} {ops : Array Oper} {N : AAct → AH → Prop} {a0 : AAct} {h0 : AH} {T : List Nat} {i : Nat} {o : Oper} {d : List Nat} {D : List (List Nat)}
    (h1 : ∀ a h, FreeAt a0 h0 T a h → factsW F ops a h d → opsM P ops N [o] a h) : freeM P F ops N a0 h0 T i [o] (d :: D) := ⟨h1, trivial⟩

def freeDep (o : Oper) (j : Nat) : Bool := o.after.any fun e => Region.binds .any e && e.on == j

def freeOK (ops : Array Oper) (T : List Nat) (D : List (List Nat)) : Bool :=
  decide (0 < ops.size) && (List.range ops.size).all fun i => match ops[i]? with
    | none => false
    | some o => o.after.all (fun e => !Region.binds .any e || decide (e.on < i)) && (D.getD i []).all (fun j => decide (j < i) && freeDep o j) &&
      (if i + 1 = ops.size then (List.range i).all (freeDep o) else match o.dst with
        | none => false
        | some t => T.contains t && (List.range i).all fun j => dstOf ops j != t)

theorem freeDep_spec {ops : Array Oper} {o : Oper} {i j : Nat} {listed : Array Bool} (ho : ops[i]? = some o) (hd : freeDep o j = true) (hr : i ∈ Region.ready .any ops listed) : listed.getD j false = true := by
  obtain ⟨_, o', ho', hall⟩ := mem_ready.1 hr
  rw [ho] at ho'; cases ho'
  obtain ⟨e, he, hb⟩ := Array.any_eq_true'.1 hd
  simp only [Bool.and_eq_true, beq_iff_eq] at hb
  rw [← hb.2]; exact hall e he hb.1

def unl (listed : Array Bool) (L : List Nat) : Nat := L.countP fun i => !listed.getD i true

theorem unl_set {listed : Array Bool} {i : Nat} (hi : listed.getD i true = false) : ∀ L : List Nat, unl (listed.setIfInBounds i true) L + (if i ∈ L then 1 else 0) ≤ unl listed L := by
  intro L
  have hlt : i < listed.size := by
    rcases Nat.lt_or_ge i listed.size with h | h
    · exact h
    · simp [h] at hi
  have hself : (listed.setIfInBounds i true).getD i true = true := by simp
  induction L with
  | nil => simp [unl]
  | cons j l ih =>
    unfold unl at ih ⊢
    rw [List.countP_cons, List.countP_cons]
    by_cases hij : i = j
    · subst hij
      simp only [hself, hi, Bool.not_true, Bool.not_false, if_true, Bool.false_eq_true, if_false, List.mem_cons, true_or]
      have : (List.countP (fun j => !(listed.setIfInBounds i true).getD j true) l) ≤ List.countP (fun j => !listed.getD j true) l := Nat.le_trans (Nat.le_add_right _ _) ih
      omega
    · rw [getD_set_ne true hij]
      simp only [List.mem_cons, hij, false_or]
      omega

theorem freeM_get {F : Nat → Value → AH → Prop} {ops : Array Oper} {N : AAct → AH → Prop} {a0 : AAct} {h0 : AH} {T : List Nat} : ∀ (l : List Oper) (i : Nat) (D : List (List Nat)), freeM P F ops N a0 h0 T i l D → ∀ k o, l[k]? = some o →
    ∀ a h, FreeAt a0 h0 T a h → factsW F ops a h (D.getD k []) → opsM P ops (if k + 1 = l.length then N else freeK F (i + k) o a h) [o] a h := by
  intro l
  induction l with
  | nil => intro i D _ k o hk; simp at hk
  | cons x l ih =>
    intro i D hf k o hk a h hA hW
    cases k with
    | zero =>
      simp only [List.getElem?_cons_zero, Option.some.injEq] at hk
      subst hk
      have hW' : factsW F ops a h (D.headD []) := by cases D <;> exact hW
      have := hf.1 a h hA hW'
      cases l with
      | nil => simpa using this
      | cons y l => simpa using this
    | succ k =>
      have hW' : factsW F ops a h (D.tail.getD k []) := by cases D <;> simpa using hW
      have := ih (i + 1) D.tail hf.2 k o (by simpa using hk) a h hA hW'
      have e : i + 1 + k = i + (k + 1) := by omega
      rw [e] at this
      simpa using this

theorem factsW_of {F : Nat → Value → AH → Prop} {ops : Array Oper} {a : AAct} {h : AH} : ∀ {L : List Nat}, (∀ j ∈ L, F j (a.tm (dstOf ops j)) h) → factsW F ops a h L := by
  intro L
  induction L with
  | nil => intro _; trivial
  | cons j l ih => intro hx; exact ⟨hx j (List.mem_cons_self ..), ih fun k hk => hx k (List.mem_cons_of_mem _ hk)⟩

/-- A region that draws its order: every order at once. -/
theorem AW.free {rd : Option Nat} {id : Nat} {ops : Array Oper} {Q : Exit → AAct → AH → Prop} {a0 : AAct} {h0 : AH} (F : Nat → Value → AH → Prop) (T : List Nat) (D : List (List Nat)) (hm : P.follows .mixedOrders = true) (hok : freeOK ops T D = true)
    (hF : ∀ i v h1 h2, F i v h1 → Gr h1 h2 → F i v h2) (hx : WFH h0 → freeM P F ops (Q .normal) a0 h0 T 0 ops.toList D) : AW P rd (.region id ops true) Q a0 h0 := by
  intro n0 ρ0 crd0 ca0 w0 hrd0 ha0 hr0
  have hwf := hr0.wf
  refine AW.draw hm ?_ n0 ρ0 crd0 ca0 w0 hrd0 ha0 hr0
  simp only [freeOK, Bool.and_eq_true, decide_eq_true_eq, List.all_eq_true, List.mem_range] at hok
  obtain ⟨hpos, hok⟩ := hok
  have key : ∀ (fuel : Nat) (listed : Array Bool) (a : AAct) (h : AH), listed.size = ops.size → unl listed (List.range ops.size) ≤ fuel → listed.getD (ops.size - 1) true = false → FreeAt a0 h0 T a h → freeM P F ops (Q .normal) a0 h0 T 0 ops.toList D →
      (∀ j, j + 1 < ops.size → listed.getD j false = true → F j (a.tm (dstOf ops j)) h) → anyW P ops Q fuel listed [] a h := by
    intro fuel
    induction fuel with
    | zero =>
      intro listed a h hsz hu hl
      have : 0 < unl listed (List.range ops.size) := List.countP_pos_iff.2 ⟨ops.size - 1, by simp; omega, by rw [hl]; rfl⟩
      omega
    | succ fuel ih =>
      intro listed a h hsz hu hl hA hM hFs _ _
      have hne : ∀ n i, ops.size ≤ i + n → i < ops.size → (∀ j, j < i → listed.getD j false = true) → Region.ready .any ops listed ≠ [] := by
        intro n
        induction n with
        | zero => intro i h1 h2; omega
        | succ n ihn =>
          intro i h1 h2 h3
          by_cases hi : listed.getD i true = false
          · intro hnil
            have hio := Array.getElem?_eq_getElem h2
            have hki := hok i h2
            rw [hio] at hki
            simp only [Bool.and_eq_true, Array.all_eq_true', Bool.or_eq_true, Bool.not_eq_true', decide_eq_true_eq] at hki
            have : i ∈ Region.ready .any ops listed := mem_ready.2 ⟨hi, _, hio, fun e he hb => h3 _ (by
              rcases hki.1.1 e he with hk | hk
              · rw [hb] at hk; cases hk
              · exact hk)⟩
            rw [hnil] at this; cases this
          · have hil : i < listed.size := by omega
            have hi2 : listed.getD i false = true := by
              simp [hil] at hi ⊢; exact hi
            by_cases hlast : i + 1 = ops.size
            · have : ops.size - 1 = i := by omega
              rw [this] at hl; exact absurd hl hi
            · exact ihn (i + 1) (by omega) (by omega) (fun j hj => by
                by_cases e : j = i
                · subst e; exact hi2
                · exact h3 j (by omega))
      refine ⟨fun e => absurd e (hne ops.size 0 (by omega) hpos (fun j hj => by omega)), fun i hi o ho => ?_⟩
      have hun := (mem_ready.1 hi).1
      have hlt : i < ops.size := (Array.getElem?_eq_some_iff.1 ho).1
      have hki := hok i hlt
      rw [ho] at hki
      simp only [Bool.and_eq_true, List.all_eq_true, decide_eq_true_eq] at hki
      obtain ⟨⟨_, hD⟩, hdst⟩ := hki
      have hol : ops.toList[i]? = some o := by simpa using ho
      have hst := freeM_get ops.toList 0 D hM i o hol a h hA (factsW_of fun j hj => by
        obtain ⟨h1, h2⟩ := hD j hj
        exact hFs j (by omega) (freeDep_spec ho h2 hi))
      have hop := opsM_sound _ _ _ hst
      simp only [opsL, Nat.zero_add, Array.length_toList] at hop
      by_cases hlast : i + 1 = ops.size
      · rw [if_pos hlast] at hop hdst
        refine opW.mono (fun a' h' hq => ⟨fun p hp => (nomatch hp), ?_⟩) hop
        have hnone : Region.ready .any ops (listed.setIfInBounds i true) = [] := by
          cases hr : Region.ready .any ops (listed.setIfInBounds i true) with
          | nil => rfl
          | cons k l =>
            have hk : k ∈ Region.ready .any ops (listed.setIfInBounds i true) := by rw [hr]; exact List.mem_cons_self ..
            obtain ⟨hk1, ok, hk2, _⟩ := mem_ready.1 hk
            have hkl : k < ops.size := (Array.getElem?_eq_some_iff.1 hk2).1
            by_cases hki : k = i
            · subst hki
              have : (listed.setIfInBounds k true).getD k true = true := by simp
              rw [this] at hk1; cases hk1
            · have h1 := freeDep_spec ho (List.all_eq_true.1 hdst k (List.mem_range.2 (by omega))) hi
              rw [getD_set_ne true (fun e => hki e.symm)] at hk1
              have hkl2 : k < listed.size := by omega
              simp [hkl2] at h1 hk1
              rw [h1] at hk1; cases hk1
        cases fuel with
        | zero => exact fun _ _ => ⟨hnone, hq⟩
        | succ fuel => exact fun _ _ => ⟨fun _ => hq, fun k hk => by rw [hnone] at hk; cases hk⟩
      · rw [if_neg hlast] at hop hdst
        refine opW.mono (fun a' h' hq => ⟨fun p hp => (nomatch hp), ?_⟩) hop
        obtain ⟨v, rfl, hFv, hg⟩ := hq
        cases hd : o.dst with
        | none => rw [hd] at hdst; cases hdst
        | some t =>
          rw [hd] at hdst
          simp only [Bool.and_eq_true, List.contains_iff_mem, List.all_eq_true, List.mem_range, bne_iff_ne, ne_eq] at hdst
          have hti : dstOf ops i = t := by simp [dstOf, ho, hd]
          have hdis : ∀ j, j + 1 < ops.size → j ≠ i → dstOf ops j ≠ t := by
            intro j hj hji
            rcases Nat.lt_or_ge j i with hlt' | hge
            · exact hdst.2 j hlt'
            · have hjl : j < ops.size := by omega
              have hkj := hok j hjl
              rw [Array.getElem?_eq_getElem hjl] at hkj
              simp only [Bool.and_eq_true] at hkj
              have h2 := hkj.2
              rw [if_neg (by omega)] at h2
              cases hdj : ops[j].dst with
              | none => rw [hdj] at h2; cases h2
              | some u =>
                rw [hdj] at h2
                simp only [Bool.and_eq_true, List.all_eq_true, List.mem_range, bne_iff_ne, ne_eq] at h2
                have e : dstOf ops j = u := by simp [dstOf, Array.getElem?_eq_getElem hjl, hdj]
                rw [e]; intro e2; exact h2.2 i (by omega) (by rw [hti, e2])
          have hne2 : ops.size - 1 ≠ i := by omega
          refine ih _ _ _ (by simpa using hsz) ?_ ?_ ⟨?_, ?_, ?_, hA.gr.trans hg⟩ hM ?_
          · have := unl_set hun (List.range ops.size)
            rw [if_pos (List.mem_range.2 hlt)] at this
            omega
          · rw [getD_set_ne true (fun e => hne2 e.symm)]; exact hl
          · rw [put_n]; exact hA.n
          · rw [put_df]; exact hA.df
          · intro u hu
            rw [put_tm, if_neg (fun e => hu (by rw [e]; exact hdst.1))]; exact hA.tm u hu
          · intro j hj hlj
            by_cases hji : j = i
            · subst hji; rw [hti, put_tm, if_pos rfl]; exact hFv
            · rw [put_tm, if_neg (hdis j hj hji)]
              refine hF _ _ _ _ (hFs j hj ?_) hg
              rw [← hlj]
              exact (getD_set_ne (listed := listed) false (Ne.symm hji)).symm
  refine key ops.size (Array.replicate ops.size false) a0 h0 (by simp) ?_ ?_ ⟨rfl, rfl, fun _ _ => rfl, Gr.refl hwf⟩ (hx hwf) ?_
  · have := List.countP_le_length (p := fun i => !(Array.replicate ops.size false).getD i true) (l := List.range ops.size)
    simpa [unl] using this
  · have hp : ops.size - 1 < ops.size := by omega
    simp [hp]
  · intro j hj hl
    have hjl : j < ops.size := by omega
    simp [hjl] at hl

theorem put_lt (a : AAct) {t u : Nat} (v : Value) (h : t < u) : (a.put (some u) v).tm t = a.tm t := by rw [put_tm, if_neg (by omega)]

/-- A region in two parts. -/
theorem opsM_append {ops : Array Oper} {N : AAct → AH → Prop} (l2 : List Oper) : ∀ (l1 : List Oper) (a : AAct) (h : AH), opsM P ops (opsM P ops N l2) l1 a h → opsM P ops N (l1 ++ l2) a h := by
  intro l1
  induction l1 with
  | nil => intro a h hx; exact hx
  | cons o l ih =>
    intro a h hx
    have ih' : ∀ d a v h, contK (opsM P ops (opsM P ops N l2) l) d a v h → contK (opsM P ops N (l ++ l2)) d a v h := fun d a v h hk => ih _ _ hk
    simp only [List.cons_append, opsM] at hx ⊢
    repeat' split
    all_goals simp_all
    all_goals first
      | exact callR.mono (fun v h hk => ih' _ _ _ _ hk) hx
      | exact opR.mono (P := P) (op := .next _ false) (fun v h hk => ih' _ _ _ _ hk) hx

/-- What is shown of a region's first operations, and what follows of it, apart. -/
theorem opsM_cut {ops : Array Oper} {N : AAct → AH → Prop} {l : List Oper} {a : AAct} {h : AH} (R : AAct → AH → Prop) (h1 : ∀ N' : AAct → AH → Prop, (∀ a' h', R a' h' → N' a' h') → opsM P ops N' l a h) (h2 : ∀ a' h', R a' h' → N a' h') : opsM P ops N l a h := h1 N h2
theorem opsM_cutAt {ops : Array Oper} {N : AAct → AH → Prop} {l : List Oper} {a : AAct} {h : AH} (n : Nat) (R : AAct → AH → Prop) (h1 : ∀ N' : AAct → AH → Prop, (∀ a' h', R a' h' → N' a' h') → opsM P ops N' (l.take n) a h) (h2 : ∀ a' h', R a' h' → opsM P ops N (l.drop n) a' h') : opsM P ops N l a h := by
  rw [← List.take_append_drop n l]
  exact opsM_append _ _ _ _ (h1 _ h2)
end
end Go.Ab

namespace Go.Ab.S1
open Go.Proofs
set_option linter.unusedSimpArgs false
set_option linter.unusedVariables false
set_option maxRecDepth 100000
set_option maxHeartbeats 4000000
attribute [local push_cast] wpA_skip wpA_ret wpA_exit wpA_seq wpA_block wpA_cond2 andK_true wpA_region wpA_draw wpA_loop thenQ_normal thenQ_ret thenQ_exit blockQ_normal blockQ_ret blockQ_exit condV_true condV_false opsM_nil opsM_cons2 okM_true wantM_true wantM_false stepM seqM_cons2 seqM_nil2 okS_true wantS_true wantS_false stepS skipS okB Keeps_nil contK_app List.zip_cons_cons List.zip_nil_left List.zip_nil_right Op.operands Call.operands Array.toList_append List.append_nil List.nil_append List.all_cons List.all_nil cOK plain put_n put_tm put_none put_df ev_tmp ev_const ev_func wanted_none wanted_some callR_func dop ex_some1 aBuiltin aBin intBin aUn Option.map_some Bool.and_true Bool.true_and Bool.and_self List.map_cons List.map_nil List.toList_toArray List.getElem?_toArray List.getElem?_cons_zero List.getElem?_cons_succ Option.getD_some Option.getD_none Bool.false_eq_true eq_self_iff_true decide_true decide_false List.cons_append aExtract resL resV List.getD_cons_zero List.getD_cons_succ List.getD_nil Nat.succ_ne_self g1 g2 yieldedA2 isB_bool isB_undef g3 Option.bind_some Option.bind_none bne_self_eq_false beq_self_eq_true Bool.not_true Bool.not_false Int.toNat_natCast List.length_map List.mem_cons List.not_mem_nil or_false not_false_eq_true decide_not Bool.not_not bodyR_ret2 bodyR_normal2 closeMarks_nil ex_some0 Nat.zero_add Nat.add_zero ieq ine List.map_toArray Option.toArray_none Option.toArray_some oev Keeps_cons Still_eq selL wpX_skip wpX_ret wpX_exit wpX_seq wpX_block wpX_cond wpX_region wpX_draw wpX_loop List.take_succ_cons List.take_zero List.drop_succ_cons List.drop_zero Int.zero_add Int.add_zero aNil if_true if_false true_and and_true
attribute [local push_cast] treeM_nil treeM_step treeM_two okX_true wantX_true wantX_false stepX skipX

theorem same21 {h : AH} {v1 v2 : Value} {zs : List Int} (h1 : SlOf h v1 (zs.map (.int .i64))) (h2 : SlOf h v2 (zs.map (.int .i64))) (hb : zs.length ≤ 4611686018427387904) :
    ACall Try.prog 23 [v1, v2] h (fun r h' => r = .bool true ∧ h' = h) := by
  refine ACall.of_wp 26 [.tmp 4] Try.func23 rfl (by kernel_rfl) rfl rfl fun a hn hd ha => ?_
  simp (disch := first | omega | decide) only [push_cast, ↓reduceIte, Nat.reduceLT, Nat.reduceEqDiff, reduceCtorEq, Nat.reduceAdd, hn, hd, ha, h1.lenA Try.underlying22, h2.lenA Try.underlying22]
  refine AW.loopN 5 [] (fun m a' h' => h' = h ∧ ∃ i : Nat, a'.tm 5 = .int .i64 i ∧ i + m = zs.length) zs.length ?_ ?_
  · exact ⟨rfl, 0, by simp (disch := first | omega | decide) only [push_cast, ↓reduceIte, Nat.reduceLT, Nat.reduceEqDiff, reduceCtorEq, Nat.reduceAdd], by omega⟩
  · rintro a1 m a' h' hk kn kd kt ⟨rfl, i, h5, him⟩
    simp (disch := first | omega | decide) only [push_cast, ↓reduceIte, Nat.reduceLT, Nat.reduceEqDiff, reduceCtorEq, Nat.reduceAdd, kn, kd, kt, hn, hd, ha, h5, h1.lenA Try.underlying22]
    refine condV_of (fun hlt => ?_) (fun hge => ?_)
    · have hi : i < zs.length := by have := hlt; simp at this; omega
      refine AW.drawP (.take 0 [8, 3, 2] (.take 1 [8, 3, 2] (.take 2 [8, 3] (.take 3 [8] (.take 4 [8, 7, 6] (.take 5 [8, 7, 6] (.take 6 [8, 7] (.take 7 [8] (.take 8 [] .done))))))))) [(0, 0), (0, 1), (0, 2), (0, 3), (0, 4), (0, 5), (0, 6), (0, 7), (0, 8)] mixed (by kernel_rfl) (by kernel_rfl) ?_
      simp (disch := first | omega | decide) only [push_cast, ↓reduceIte, Nat.reduceLT, Nat.reduceEqDiff, reduceCtorEq, Nat.reduceAdd, kn, kd, kt, hn, hd, ha, h5, h1.idxI sl22, h1.ldI sl22, h2.idxI sl22, h2.ldI sl22, wrapI]
      exact ⟨m - 1, by omega, (by simp (disch := decide) only [Kp_put, put_none, hk]), rfl, i + 1, by simp (disch := first | omega | decide) only [push_cast, ↓reduceIte, Nat.reduceLT, Nat.reduceEqDiff, reduceCtorEq, Nat.reduceAdd], by omega⟩
    · simp (disch := first | omega | decide) only [push_cast, ↓reduceIte, Nat.reduceLT, Nat.reduceEqDiff, reduceCtorEq, Nat.reduceAdd, kn, kd, kt, hn, hd, ha, h5]

/-- Two cells laid and filled. -/
theorem twoSt {k : AH} (w : WFH k) {zs xs ys : List Value} {T : TypeId} {N : Nat} (hT : Ag Try.prog T N) (hz : zs.length = N) (hx : xs.length = N) (hy : ys.length = N) (ox : xs.all oneC = true) (oy : ys.all oneC = true) {A B : Nat} (hAB : (A = k.next ∧ B = k.next + 1) ∨ (A = k.next + 1 ∧ B = k.next)) :
    ∃ k3 k4, aStore Try.prog T (.pointer (some ⟨A, 0, none⟩)) (.agg xs.toArray) ((k.new (.row zs T true)).new (.row zs T true)) = some k3 ∧ aStore Try.prog T (.pointer (some ⟨B, 0, none⟩)) (.agg ys.toArray) k3 = some k4 ∧ Gr k k3 ∧ Gr k k4 ∧ CsAt k4 A xs ∧ CsAt k4 B ys := by
  have g2 := ((Gr.refl w).new (.row zs T true)).new (.row zs T true)
  have hA : ((k.new (.row zs T true)).new (.row zs T true)).get A = some (.row zs T true) := by
    rcases hAB with ⟨rfl, _⟩ | ⟨rfl, _⟩
    · rw [AH.new_get, if_neg (by simp), AH.new_get, if_pos rfl]
    · rw [AH.new_get, if_pos (by simp)]
  have hB : ((k.new (.row zs T true)).new (.row zs T true)).get B = some (.row zs T true) := by
    rcases hAB with ⟨_, rfl⟩ | ⟨_, rfl⟩
    · rw [AH.new_get, if_pos (by simp)]
    · rw [AH.new_get, if_neg (by simp), AH.new_get, if_pos rfl]
  have hne : B ≠ A := by rcases hAB with ⟨rfl, rfl⟩ | ⟨rfl, rfl⟩ <;> omega
  have e1 := stA hT hA hz xs hx ox
  have hB2 : (((k.new (.row zs T true)).new (.row zs T true)).set A (.row xs T true)).get B = some (.row zs T true) := by rw [AH.set_get, if_neg hne]; exact hB
  have e2 := stA hT hB2 hz ys hy oy
  have hlA : k.next ≤ A := by rcases hAB with ⟨rfl, rfl⟩ | ⟨rfl, rfl⟩ <;> omega
  have hlB : k.next ≤ B := by rcases hAB with ⟨rfl, rfl⟩ | ⟨rfl, rfl⟩ <;> omega
  have hxA : A < ((k.new (.row zs T true)).new (.row zs T true)).next := AH.get_lt g2.wf hA
  have g3 := g2.set w hlA hxA (.row xs T true)
  have g4 := g3.set w hlB (AH.get_lt g3.wf hB2) (.row ys T true)
  exact ⟨_, _, e1, e2, g3, g4, ⟨_, by rw [AH.set_get, if_neg (fun e => hne e.symm), AH.set_get, if_pos rfl], rfl⟩, ⟨_, by rw [AH.set_get, if_pos rfl], rfl⟩⟩

theorem strNeq (s : ByteArray) : strBin .neq s s = some (.bool false) := by simp [strBin]


def opsAt : Nat → Code → Option (Array Oper)
  | i, .region j ops _ => if i = j then some ops else none
  | i, .seq x y => match opsAt i x with
    | some c => some c
    | none => opsAt i y
  | i, .cond _ x y => match opsAt i x with
    | some c => some c
    | none => opsAt i y
  | i, .loop c => opsAt i c
  | i, .block _ c => opsAt i c
  | _, _ => none
def opsOf (f : Func) (i : Nat) : Array Oper := match f.body with
  | some c => (opsAt i c).getD #[]
  | none => #[]

theorem opsM.at {P : Program} {ops ops' : Array Oper} {N : AAct → AH → Prop} {l l' : List Oper} {a : AAct} {h : AH} (e : ops' = ops) (e2 : l' = l) (hx : opsM P ops' N l' a h) : opsM P ops N l a h := e ▸ e2 ▸ hx

def cellW0 (c : Cell) (dv : Value) : List Value := [.string c.name, .int .i64 c.pins, .int .u64 c.table, .int .i64 c.area, dv]

/-- The comparison of two equal cells. -/
theorem same28cmp {k : AH} {A B : Nat} {c : Cell} {d1 d2 : Value} {a : AAct} {N : AAct → AH → Prop} (bn : a.n = 81) (bd : a.df = []) (b6 : a.tm 6 = .pointer (some ⟨A, 0, none⟩)) (b7 : a.tm 7 = .pointer (some ⟨B, 0, none⟩)) (cA : CsAt k A (cellW0 c d1)) (cB : CsAt k B (cellW0 c d2))
    (hd1 : SlOf k d1 (c.delay.map (.int .i64))) (hd2 : SlOf k d2 (c.delay.map (.int .i64))) (hN : ∀ a2, a2.n = 81 → a2.df = [] → a2.tm 62 = .bool false → (∀ t, t < 28 → a2.tm t = a.tm t) → N a2 k) :
    opsM Try.prog (opsOf Try.f37 7) N (opsOf Try.f37 7).toList a k := by
  refine opsM.at (rfl : #[_, _, _, _, _, _, _, _, _, _, _, _, _, _, _, _, _, _, _, _, _, _, _, _, _, _, _, _, _, _, _, _, _, _, _] = _) (rfl : [_, _, _, _, _, _, _, _, _, _, _, _] ++ [_, _, _, _, _, _, _, _, _, _, _, _, _, _, _, _, _, _, _, _, _, _, _] = _) ?_
  unfold cellW0 at cA cB
  have lA9 := cA.ld fl9
  have lB9 := cB.ld fl9
  have lA3 := cA.ld fl3
  have lB3 := cB.ld fl3
  have lAU := cA.ld flU
  have lBU := cB.ld flU
  have lA2 := cA.ld fl2
  have lB2 := cB.ld fl2
  have lAL := cA.ld flL
  have lBL := cB.ld flL
  simp only [List.length_cons, List.length_nil, Nat.zero_add, Nat.reduceAdd] at lA9 lB9 lA3 lB3 lAU lBU lA2 lB2 lAL lBL
  have hz1 := hd1.lenA Try.underlying45
  have hz2 := hd2.lenA Try.underlying45
  clear hd1 hd2 cA cB
  refine opsM_append _ _ _ _ ?_
  generalize hM : opsM Try.prog _ N [_, _, _, _, _, _, _, _, _, _, _, _, _, _, _, _, _, _, _, _, _, _, _] = M
  have hM2 : ∀ a2, a2.n = 81 → a2.df = [] → a2.tm 6 = .pointer (some ⟨A, 0, none⟩) → a2.tm 7 = .pointer (some ⟨B, 0, none⟩) → a2.tm 39 = .bool false → (∀ t, t < 28 → a2.tm t = a.tm t) → M a2 k := by
    intro a2 n2 d2 b6 b7 b39 hk
    subst hM
    clear bn bd
    simp (disch := first | omega | decide) only [push_cast, ↓reduceIte, Nat.reduceLT, Nat.reduceEqDiff, reduceCtorEq, Nat.reduceAdd, n2, d2, b6, b7, b39, faL foC0, faL foC1, faL foC2, faL foC3, faL foC4, lAU, lBU, lA2, lB2, lAL, lBL, hz1, hz2]
    refine hN _ (by simp (disch := first | omega | decide) only [push_cast, ↓reduceIte, Nat.reduceLT, Nat.reduceEqDiff, reduceCtorEq, Nat.reduceAdd, n2]) (by simp (disch := first | omega | decide) only [push_cast, ↓reduceIte, Nat.reduceLT, Nat.reduceEqDiff, reduceCtorEq, Nat.reduceAdd, d2]) (by simp (disch := first | omega | decide) only [push_cast, ↓reduceIte, Nat.reduceLT, Nat.reduceEqDiff, reduceCtorEq, Nat.reduceAdd]) (fun t ht => ?_)
    simp (disch := omega) only [put_lt, hk t ht]
  clear hM hN
  simp (disch := first | omega | decide) only [push_cast, ↓reduceIte, Nat.reduceLT, Nat.reduceEqDiff, reduceCtorEq, Nat.reduceAdd, bn, bd, b6, b7, faL foC0, faL foC1, faL foC2, faL foC3, faL foC4, lA9, lB9, lA3, lB3, strNeq]
  refine hM2 _ (by simp (disch := first | omega | decide) only [push_cast, ↓reduceIte, Nat.reduceLT, Nat.reduceEqDiff, reduceCtorEq, Nat.reduceAdd, bn]) (by simp (disch := first | omega | decide) only [push_cast, ↓reduceIte, Nat.reduceLT, Nat.reduceEqDiff, reduceCtorEq, Nat.reduceAdd, bd]) (by simp (disch := first | omega | decide) only [push_cast, ↓reduceIte, Nat.reduceLT, Nat.reduceEqDiff, reduceCtorEq, Nat.reduceAdd, b6]) (by simp (disch := first | omega | decide) only [push_cast, ↓reduceIte, Nat.reduceLT, Nat.reduceEqDiff, reduceCtorEq, Nat.reduceAdd, b7]) (by simp (disch := first | omega | decide) only [push_cast, ↓reduceIte, Nat.reduceLT, Nat.reduceEqDiff, reduceCtorEq, Nat.reduceAdd]) (fun t ht => ?_)
  simp (disch := omega) only [put_lt]

theorem same28 {h : AH} {v1 v2 : Value} {cs : List Cell} (h1 : RowOf cellL h v1 cs) (h2 : RowOf cellL h v2 cs) (hb : cs.length ≤ 4611686018427387904) (hbd : ∀ c ∈ cs, c.delay.length ≤ 4611686018427387904) :
    ACall Try.prog 37 [v1, v2] h (fun r h' => r = .bool true ∧ h' = h) := by
  refine ACall.viewed rfl ?_
  replace h1 := h1.view
  replace h2 := h2.view
  generalize AH.view h = h at h1 h2
  refine ACall.wf ⟨_, Try.func37, rfl, by kernel_rfl⟩ fun hwf => ?_
  refine ACall.of_wp 81 [.tmp 4] Try.func37 rfl (by kernel_rfl) rfl rfl fun a hn hd ha => ?_
  simp (disch := first | omega | decide) only [push_cast, ↓reduceIte, Nat.reduceLT, Nat.reduceEqDiff, reduceCtorEq, Nat.reduceAdd, hn, hd, ha, h1.len Try.underlying30, h2.len Try.underlying30]
  refine AW.loopN 14 [4, 5, 6, 7, 8] (fun m a' h' => Gr h h' ∧ ∃ i : Nat, a'.tm 5 = .int .i64 i ∧ i + m = cs.length) cs.length ?_ ?_
  · exact ⟨Gr.refl hwf, 0, by simp (disch := first | omega | decide) only [push_cast, ↓reduceIte, Nat.reduceLT, Nat.reduceEqDiff, reduceCtorEq, Nat.reduceAdd], by omega⟩
  · rintro a1 m a' h' hk kn kd kt ⟨g, i, h5, him⟩
    simp (disch := first | omega | decide) only [push_cast, ↓reduceIte, Nat.reduceLT, Nat.reduceEqDiff, reduceCtorEq, Nat.reduceAdd, kn, kd, kt, hn, hd, ha, h5, h1.len Try.underlying30]
    refine condV_of (fun hlt => ?_) (fun hge => ?_)
    · have hi : i < cs.length := by have := hlt; simp at this; omega
      obtain ⟨x1, ⟨d1, rfl, hd1⟩, l1, -, -⟩ := (h1.sub g.sub).get hi default
      obtain ⟨x2, ⟨d2, rfl, hd2⟩, l2, -, -⟩ := (h2.sub g.sub).get hi default
      replace l1 := l1 _ agC
      replace l2 := l2 _ agC
      have hdb := hbd _ (getD_mem hi default)
      have hw1 : IntKind.i64.wrap ((i : Int) + 1) = i + 1 := wrapI (by omega) (by omega)
      generalize cs.getD i default = c at *
      refine AW.mono (Q := fun ex a2 h2' => ex = .normal ∧ a2.n = 81 ∧ a2.df = [] ∧ Gr h' h2' ∧ a2.tm 0 = v1 ∧ a2.tm 1 = v2 ∧ a2.tm 5 = .int .i64 i ∧ Kp 14 [4, 5, 6, 7, 8] a1 a2 ∧ ∃ A B, a2.tm 6 = .pointer (some ⟨A, 0, none⟩) ∧ a2.tm 7 = .pointer (some ⟨B, 0, none⟩) ∧ CsAt h2' A (cellW0 c d1) ∧ CsAt h2' B (cellW0 c d2)) ?_ ?_
      case refine_2 =>
        refine AW.drawX (.take 0 [11, 10, 3, 2] (.take 1 [11, 10, 3, 2] (.take 2 [11, 10, 3] (.take 3 [11, 10] (.take 4 [11, 7, 6] (.take 5 [11, 7, 6] (.take 6 [11, 7] (.watch 7 [11] (.two 8 (.only 9 (.only 10 (.only 11 .done))) 9 (.only 8 (.only 10 (.only 11 .done)))))))))))) (.step 0 0 (.step 0 1 (.step 0 2 (.step 0 3 (.step 0 4 (.step 0 5 (.step 0 6 (.step 1 7 (.two 8 (.step 2 9 (.step 2 10 (.step 2 11 .nil))) 9 (.step 2 8 (.step 2 10 (.step 2 11 .nil)))))))))))) mixed (by kernel_rfl) rfl ?_
        simp (disch := first | omega | decide) only [push_cast, ↓reduceIte, Nat.reduceLT, Nat.reduceEqDiff, reduceCtorEq, Nat.reduceAdd, kn, kd, kt, hn, hd, ha, h5, (h1.sub g.sub).idx Try.underlying30 infC, l1, (h2.sub g.sub).idx Try.underlying30 infC, l2]
        have t1 := twoSt (A := h'.next) (B := h'.next + 1) (T := 47) (zs := [.string ByteArray.empty, .int .i64 0, .int .u64 0, .int .i64 0, .slice none 0 0]) (xs := cellW0 c d1) (ys := cellW0 c d2) g.wf agC rfl rfl rfl (by simp only [cellW0, List.all_cons, List.all_nil, hd1.one]; rfl) (by simp only [cellW0, List.all_cons, List.all_nil, hd2.one]; rfl) (.inl ⟨rfl, rfl⟩)
        have t2 := twoSt (A := h'.next + 1) (B := h'.next) (T := 47) (zs := [.string ByteArray.empty, .int .i64 0, .int .u64 0, .int .i64 0, .slice none 0 0]) (xs := cellW0 c d1) (ys := cellW0 c d2) g.wf agC rfl rfl rfl (by simp only [cellW0, List.all_cons, List.all_nil, hd1.one]; rfl) (by simp only [cellW0, List.all_cons, List.all_nil, hd2.one]; rfl) (.inr ⟨rfl, rfl⟩)
        obtain ⟨k3, k4, f1, f2, g3, g4, c1, c2⟩ := t1
        obtain ⟨m3, m4, f3, f4, g5', g5, c3, c4⟩ := t2
        unfold cellW0 at f1 f2 f3 f4
        have gz := (Gr.refl g.wf).new (.row [.string ByteArray.empty, .int .i64 0, .int .u64 0, .int .i64 0, .slice none 0 0] 47 true)
        have q1 := aLoad_sub gz.sub l2
        have q2 := aLoad_sub (gz.new (.row [.string ByteArray.empty, .int .i64 0, .int .u64 0, .int .i64 0, .slice none 0 0] 47 true)).sub l2
        have q3 := aLoad_sub g3.sub l2
        have q4 := aLoad_sub g5'.sub l2
        have q5 := aLoad_sub g4.sub l2
        have q6 := aLoad_sub g5.sub l2
        refine ⟨?_, ?_⟩
        · simp (disch := first | omega | decide) only [push_cast, ↓reduceIte, Nat.reduceLT, Nat.reduceEqDiff, reduceCtorEq, Nat.reduceAdd, kn, kd, kt, hn, hd, ha, h5, alL zrC, AH.new_next, q1, q2, q3, q5, f1, f2]
          exact ⟨g4, (by simp (disch := decide) only [Kp_put, put_none, hk]), _, _, rfl, rfl, c1, c2⟩
        · simp (disch := first | omega | decide) only [push_cast, ↓reduceIte, Nat.reduceLT, Nat.reduceEqDiff, reduceCtorEq, Nat.reduceAdd, kn, kd, kt, hn, hd, ha, h5, alL zrC, AH.new_next, q1, q2, q4, q6, f3, f4]
          exact ⟨g5, (by simp (disch := decide) only [Kp_put, put_none, hk]), _, _, rfl, rfl, c3, c4⟩
      clear kn kd kt
      rintro _ a2 k2 ⟨rfl, bn, bd, g2, b0, b1, b5, hk2, A, B, b6, b7, cA, cB⟩
      have hd1' := hd1.sub g2.sub
      have hd2' := hd2.sub g2.sub
      rw [thenQ_normal, wpA_seq]
      repeat rw [wpA_seq]
      rw [wpA_region]
      refine same28cmp bn bd b6 b7 cA cB hd1' hd2' ?_
      intro a2' bn' bd' b62 bk
      have b0' := (bk 0 (by omega)).trans b0
      have b1' := (bk 1 (by omega)).trans b1
      have b5' := (bk 5 (by omega)).trans b5
      have b6' := (bk 6 (by omega)).trans b6
      have b7' := (bk 7 (by omega)).trans b7
      replace hk2 : Kp 14 [4, 5, 6, 7, 8] a1 a2' := Kp.trans hk2 (lo' := 28) (X' := []) ⟨bn'.trans bn.symm, bd'.trans bd.symm, fun t ht _ => bk t ht⟩ (by omega) (by simp)
      clear bk
      unfold cellW0 at cA cB
      have lAL := cA.ld flL
      have lBL := cB.ld flL
      simp only [List.length_cons, List.length_nil, Nat.zero_add, Nat.reduceAdd] at lAL lBL
      simp (disch := first | omega | decide) only [push_cast, ↓reduceIte, Nat.reduceLT, Nat.reduceEqDiff, reduceCtorEq, Nat.reduceAdd, bn', bd', b62]
      refine AW.mono (Q := fun ex a3 h3 => ex = .exit 2 ∧ a3.n = 81 ∧ a3.df = [] ∧ h3 = k2 ∧ a3.tm 0 = v1 ∧ a3.tm 1 = v2 ∧ a3.tm 5 = .int .i64 i ∧ Kp 14 [4, 5, 6, 7, 8] a1 a3) ?_ ?_
      case refine_2 =>
        refine AW.loopN 63 [4, 8] (fun m a' h' => h' = k2 ∧ ∃ j : Nat, a'.tm 8 = .int .i64 j ∧ j + m = c.delay.length) c.delay.length ?_ ?_
        · exact ⟨rfl, 0, by simp (disch := first | omega | decide) only [push_cast, ↓reduceIte, Nat.reduceLT, Nat.reduceEqDiff, reduceCtorEq, Nat.reduceAdd], by omega⟩
        rintro a4 m2 a5 h5' hk5 kn kd kt ⟨rfl, j, h8, hjm⟩
        simp (disch := first | omega | decide) only [push_cast, ↓reduceIte, Nat.reduceLT, Nat.reduceEqDiff, reduceCtorEq, Nat.reduceAdd, kn, kd, kt, bn', bd', b0', b1', b5', b6', b7', h8, faL foC0, faL foC1, faL foC2, faL foC3, faL foC4, lAL, hd1'.lenA Try.underlying45]
        have hk0 : Kp 14 [4, 5, 6, 7, 8] a1 a5 := Kp.trans (lo' := 63) (X' := [4, 8]) (by simp (disch := decide) only [Kp_put, put_none, hk2]) ⟨kn, kd, kt⟩ (by omega) (by simp)
        refine condV_of (fun hlt => ?_) (fun hge => ?_)
        · have hj : j < c.delay.length := by have := hlt; simp at this; omega
          refine AW.drawP (.take 0 [10, 4, 3, 1] (.take 1 [10, 4, 3] (.take 2 [10, 4, 3] (.take 3 [10, 4] (.take 4 [10] (.take 5 [10, 9, 8, 6] (.take 6 [10, 9, 8] (.take 7 [10, 9, 8] (.take 8 [10, 9] (.take 9 [10] (.take 10 [] .done))))))))))) [(0, 0), (0, 1), (0, 2), (0, 3), (0, 4), (0, 5), (0, 6), (0, 7), (0, 8), (0, 9), (0, 10)] mixed (by kernel_rfl) (by kernel_rfl) ?_
          simp (disch := first | omega | decide) only [push_cast, ↓reduceIte, Nat.reduceLT, Nat.reduceEqDiff, reduceCtorEq, Nat.reduceAdd, kn, kd, kt, bn', bd', b0', b1', b5', b6', b7', h8, faL foC0, faL foC1, faL foC2, faL foC3, faL foC4, lAL, lBL, hd1'.idxI slL, hd1'.ldI slL, hd2'.idxI slL, hd2'.ldI slL, wrapI]
          exact ⟨m2 - 1, by omega, (by simp (disch := decide) only [Kp_put, put_none, hk5]), rfl, j + 1, by simp (disch := first | omega | decide) only [push_cast, ↓reduceIte, Nat.reduceLT, Nat.reduceEqDiff, reduceCtorEq, Nat.reduceAdd], by omega⟩
        · simp (disch := first | omega | decide) only [push_cast, ↓reduceIte, Nat.reduceLT, Nat.reduceEqDiff, reduceCtorEq, Nat.reduceAdd, kn, kd, kt, bn', bd', b0', b1', b5', b6', b7', h8]
          simp (disch := decide) only [Kp_put, put_none, hk0]
      rintro _ a3 _ ⟨rfl, cn, cd, rfl, c0, c1, c5, hk3⟩
      simp (disch := first | omega | decide) only [push_cast, ↓reduceIte, Nat.reduceLT, Nat.reduceEqDiff, reduceCtorEq, Nat.reduceAdd, cn, cd, c0, c1, c5, hw1]
      exact ⟨m - 1, by omega, (by simp (disch := decide) only [Kp_put, put_none, hk3]), g.trans g2, i + 1, by simp (disch := first | omega | decide) only [push_cast, ↓reduceIte, Nat.reduceLT, Nat.reduceEqDiff, reduceCtorEq, Nat.reduceAdd], by omega⟩
    · simp (disch := first | omega | decide) only [push_cast, ↓reduceIte, Nat.reduceLT, Nat.reduceEqDiff, reduceCtorEq, Nat.reduceAdd, kn, kd, kt, hn, hd, ha, h5]


structure NetB (n : Net) : Prop where
  c : n.cells.length ≤ 4294967296
  d : ∀ c ∈ n.cells, c.delay.length ≤ 4294967296
  f : n.flops.length ≤ 4294967296
  i : n.insts.length ≤ 4294967296
  p : ∀ x ∈ n.insts, x.pins.length ≤ 4294967296
  o : n.outs.length ≤ 4294967296

theorem flopNeq (x : Flop) : eqBin Try.prog .neq 62 (.agg #[.int .i64 x.next, .int .u8 x.init]) (.agg #[.int .i64 x.next, .int .u8 x.init]) = some (.bool false) := by
  have hg : Try.prog.eqGuardType Try.prog.depth 62 = false := by kernel_rfl
  have hs : Try.prog.stoodInHeld 62 = false := by kernel_rfl
  simp [eqBin, guardOn, hg, aEq, Try.underlying62, hs, eqAll, aPart, aggT, Try.underlying3, Try.underlying5]

theorem same29 {h : AH} {m : Net} {c1 f1 i1 o1 c2 f2 i2 o2 : Value} (r1 : NetR h m c1 f1 i1 o1) (r2 : NetR h m c2 f2 i2 o2) (b : NetB m) :
    ACall Try.prog 20 [.agg (netC m c1 f1 i1 o1).toArray, .agg (netC m c2 f2 i2 o2).toArray] h (fun r h' => r = .bool true ∧ h' = h) := by
  refine ACall.viewed rfl ?_
  replace r1 := r1.view
  replace r2 := r2.view
  generalize AH.view h = h at r1 r2
  refine ACall.wf ⟨_, Try.func20, rfl, by kernel_rfl⟩ fun hwf => ?_
  refine ACall.of_wp 100 [.tmp 4] Try.func20 rfl (by kernel_rfl) rfl rfl fun a hn hd ha => ?_
  have hb1 := boxA 34 h _ r1.one
  have hb2 := boxA 34 (h.new (.row (netC m c1 f1 i1 o1) 34 true)) _ r2.one
  have g1 := (Gr.refl hwf).new (.row (netC m c1 f1 i1 o1) 34 true)
  have g2 := g1.new (.row (netC m c2 f2 i2 o2) 34 true)
  have hN1 := (NetAt.new (h := h) (n := m) (cv := c1) (fv := f1) (iv := i1) (ov := o1)).sub (Sub.new g1.wf (.row (netC m c2 f2 i2 o2) 34 true))
  have hN2 := NetAt.new (h := h.new (.row (netC m c1 f1 i1 o1) 34 true)) (n := m) (cv := c2) (fv := f2) (iv := i2) (ov := o2)
  repeat rw [wpA_seq]
  rw [wpA_region]
  refine opsM_cut (fun a' h' => a'.n = 100 ∧ a'.df = [] ∧ h' = (h.new (.row (netC m c1 f1 i1 o1) 34 true)).new (.row (netC m c2 f2 i2 o2) 34 true) ∧ a'.tm 2 = .pointer (some ⟨h.next, 0, none⟩) ∧ a'.tm 3 = .pointer (some ⟨h.next + 1, 0, none⟩)) (fun N hN => ?_) ?_
  · simp (disch := first | omega | decide) only [push_cast, ↓reduceIte, Nat.reduceLT, Nat.reduceEqDiff, reduceCtorEq, Nat.reduceAdd, hn, hd, ha, hb1, hb2]
    exact hN _ _ ⟨by simp (disch := first | omega | decide) only [push_cast, ↓reduceIte, Nat.reduceLT, Nat.reduceEqDiff, reduceCtorEq, Nat.reduceAdd, hn], by simp (disch := first | omega | decide) only [push_cast, ↓reduceIte, Nat.reduceLT, Nat.reduceEqDiff, reduceCtorEq, Nat.reduceAdd, hd], rfl, by simp (disch := first | omega | decide) only [push_cast, ↓reduceIte, Nat.reduceLT, Nat.reduceEqDiff, reduceCtorEq, Nat.reduceAdd], by simp (disch := first | omega | decide) only [push_cast, ↓reduceIte, Nat.reduceLT, Nat.reduceEqDiff, reduceCtorEq, Nat.reduceAdd, AH.new_next]⟩
  clear hn hd ha a hb1 hb2
  rintro a _ ⟨hn, hd, rfl, t2, t3⟩
  replace r1 := r1.sub g2.sub
  replace r2 := r2.sub g2.sub
  generalize (h.new (.row (netC m c1 f1 i1 o1) 34 true)).new (.row (netC m c2 f2 i2 o2) 34 true) = k at g2 hN1 hN2 r1 r2 ⊢
  simp only [AH.new_next] at hN2
  generalize h.next = A at hN1 hN2 t2 t3
  generalize A + 1 = B at hN2 t3
  have bf := b.f
  have bi := b.i
  rw [thenQ_normal]
  repeat rw [wpA_seq]
  rw [wpA_region]
  refine opsM_cutAt 7 (fun a' h' => a'.n = 100 ∧ a'.df = [] ∧ h' = k ∧ a'.tm 2 = .pointer (some ⟨A, 0, none⟩) ∧ a'.tm 3 = .pointer (some ⟨B, 0, none⟩) ∧ a'.tm 13 = .bool false) (fun N hN => ?_) ?_
  · simp (disch := first | omega | decide) only [push_cast, ↓reduceIte, Nat.reduceLT, Nat.reduceEqDiff, reduceCtorEq, Nat.reduceAdd, hn, hd, t2, t3, faL foN0, faL foN1, faL foN2, faL foN3, faL foN4, hN1.l0, hN1.l1, hN1.l2, hN1.l3, hN1.l4, hN1.la, hN2.l0, hN2.l1, hN2.l2, hN2.l3, hN2.l4, hN2.la]
    refine ACall.mono ?_ (same28 r1.c r2.c (by have := b.c; omega) (fun c hc => by have := b.d c hc; omega))
    rintro _ k ⟨rfl, rfl⟩
    simp (disch := first | omega | decide) only [push_cast, ↓reduceIte, Nat.reduceLT, Nat.reduceEqDiff, reduceCtorEq, Nat.reduceAdd, hn, hd, t2, t3]
    exact hN _ _ ⟨by simp (disch := first | omega | decide) only [push_cast, ↓reduceIte, Nat.reduceLT, Nat.reduceEqDiff, reduceCtorEq, Nat.reduceAdd, hn], by simp (disch := first | omega | decide) only [push_cast, ↓reduceIte, Nat.reduceLT, Nat.reduceEqDiff, reduceCtorEq, Nat.reduceAdd, hd], rfl, by simp (disch := first | omega | decide) only [push_cast, ↓reduceIte, Nat.reduceLT, Nat.reduceEqDiff, reduceCtorEq, Nat.reduceAdd, t2], by simp (disch := first | omega | decide) only [push_cast, ↓reduceIte, Nat.reduceLT, Nat.reduceEqDiff, reduceCtorEq, Nat.reduceAdd, t3], by simp (disch := first | omega | decide) only [push_cast, ↓reduceIte, Nat.reduceLT, Nat.reduceEqDiff, reduceCtorEq, Nat.reduceAdd]⟩
  clear hn hd t2 t3 a
  rintro a k ⟨hn, hd, rfl, t2, t3, t13⟩
  refine opsM_cutAt 16 (fun a' h' => a'.n = 100 ∧ a'.df = [] ∧ h' = k ∧ a'.tm 2 = .pointer (some ⟨A, 0, none⟩) ∧ a'.tm 3 = .pointer (some ⟨B, 0, none⟩) ∧ a'.tm 29 = .bool false) (fun N hN => ?_) ?_
  · simp (disch := first | omega | decide) only [push_cast, ↓reduceIte, Nat.reduceLT, Nat.reduceEqDiff, reduceCtorEq, Nat.reduceAdd, hn, hd, t2, t3, t13, faL foN0, faL foN1, faL foN2, faL foN3, faL foN4, hN1.l0, hN1.l1, hN1.l2, hN1.l3, hN1.l4, hN1.la, hN2.l0, hN2.l1, hN2.l2, hN2.l3, hN2.l4, hN2.la, r1.f.len Try.underlying31, r2.f.len Try.underlying31]
    exact hN _ _ ⟨by simp (disch := first | omega | decide) only [push_cast, ↓reduceIte, Nat.reduceLT, Nat.reduceEqDiff, reduceCtorEq, Nat.reduceAdd, hn], by simp (disch := first | omega | decide) only [push_cast, ↓reduceIte, Nat.reduceLT, Nat.reduceEqDiff, reduceCtorEq, Nat.reduceAdd, hd], rfl, by simp (disch := first | omega | decide) only [push_cast, ↓reduceIte, Nat.reduceLT, Nat.reduceEqDiff, reduceCtorEq, Nat.reduceAdd, t2], by simp (disch := first | omega | decide) only [push_cast, ↓reduceIte, Nat.reduceLT, Nat.reduceEqDiff, reduceCtorEq, Nat.reduceAdd, t3], by simp (disch := first | omega | decide) only [push_cast, ↓reduceIte, Nat.reduceLT, Nat.reduceEqDiff, reduceCtorEq, Nat.reduceAdd]⟩
  clear hn hd t2 t3 t13 a
  rintro a k ⟨hn, hd, rfl, t2, t3, t29⟩
  simp (disch := first | omega | decide) only [push_cast, ↓reduceIte, Nat.reduceLT, Nat.reduceEqDiff, reduceCtorEq, Nat.reduceAdd, hn, hd, t2, t3, t29, faL foN0, faL foN1, faL foN2, faL foN3, faL foN4, hN1.l0, hN1.l1, hN1.l2, hN1.l3, hN1.l4, hN1.la, hN2.l0, hN2.l1, hN2.l2, hN2.l3, hN2.l4, hN2.la, r1.i.len Try.underlying32, r2.i.len Try.underlying32]
  refine ACall.mono ?_ (same21 r1.o r2.o (by have := b.o; omega))
  rintro _ k ⟨rfl, rfl⟩
  simp (disch := first | omega | decide) only [push_cast, ↓reduceIte, Nat.reduceLT, Nat.reduceEqDiff, reduceCtorEq, Nat.reduceAdd, hn, hd, t2, t3, t29]
  refine AW.loopN 46 [5] (fun q a' h' => h' = k ∧ ∃ i : Nat, a'.tm 5 = .int .i64 i ∧ i + q = m.flops.length) m.flops.length ?_ ?_
  · exact ⟨rfl, 0, by simp (disch := first | omega | decide) only [push_cast, ↓reduceIte, Nat.reduceLT, Nat.reduceEqDiff, reduceCtorEq, Nat.reduceAdd], by omega⟩
  rintro a1 q a' k hk kn kd kt ⟨rfl, i, h5, hiq⟩
  simp (disch := first | omega | decide) only [push_cast, ↓reduceIte, Nat.reduceLT, Nat.reduceEqDiff, reduceCtorEq, Nat.reduceAdd, kn, kd, kt, hn, hd, t2, t3, h5, faL foN0, faL foN1, faL foN2, faL foN3, faL foN4, hN1.l0, hN1.l1, hN1.l2, hN1.l3, hN1.l4, hN1.la, r1.f.len Try.underlying31]
  refine condV_of (fun hlt => ?_) (fun hge => ?_)
  · have hi : i < m.flops.length := by have := hlt; simp at this; omega
    obtain ⟨x1, rfl, l1, -, -⟩ := r1.f.get hi default
    obtain ⟨x2, rfl, l2, -, -⟩ := r2.f.get hi default
    replace l1 := l1 _ agF
    replace l2 := l2 _ agF
    have hw1 : IntKind.i64.wrap ((i : Int) + 1) = i + 1 := wrapI (by omega) (by omega)
    have hq := flopNeq (m.flops.getD i default)
    refine AW.drawP (.take 0 [10, 4, 3, 1] (.take 1 [10, 4, 3] (.take 2 [10, 4, 3] (.take 3 [10, 4] (.take 4 [10] (.take 5 [10, 9, 8, 6] (.take 6 [10, 9, 8] (.take 7 [10, 9, 8] (.take 8 [10, 9] (.take 9 [10] (.take 10 [] .done))))))))))) [(0, 0), (0, 1), (0, 2), (0, 3), (0, 4), (0, 5), (0, 6), (0, 7), (0, 8), (0, 9), (0, 10)] mixed (by kernel_rfl) (by kernel_rfl) ?_
    simp (disch := first | omega | decide) only [push_cast, ↓reduceIte, Nat.reduceLT, Nat.reduceEqDiff, reduceCtorEq, Nat.reduceAdd, kn, kd, kt, hn, hd, t2, t3, h5, faL foN0, faL foN1, faL foN2, faL foN3, faL foN4, hN1.l0, hN1.l1, hN1.l2, hN1.l3, hN1.l4, hN1.la, hN2.l0, hN2.l1, hN2.l2, hN2.l3, hN2.l4, hN2.la, r1.f.idx Try.underlying31 infF, r2.f.idx Try.underlying31 infF, l1, l2, hq, hw1]
    exact ⟨q - 1, by omega, (by simp (disch := decide) only [Kp_put, put_none, hk]), rfl, i + 1, by simp (disch := first | omega | decide) only [push_cast, ↓reduceIte, Nat.reduceLT, Nat.reduceEqDiff, reduceCtorEq, Nat.reduceAdd], by omega⟩
  simp (disch := first | omega | decide) only [push_cast, ↓reduceIte, Nat.reduceLT, Nat.reduceEqDiff, reduceCtorEq, Nat.reduceAdd, kn, kd, kt, hn, hd, t2, t3, h5]
  refine AW.loopN 64 [6] (fun q a' h' => h' = k ∧ ∃ i : Nat, a'.tm 6 = .int .i64 i ∧ i + q = m.insts.length) m.insts.length ?_ ?_
  · exact ⟨rfl, 0, by simp (disch := first | omega | decide) only [push_cast, ↓reduceIte, Nat.reduceLT, Nat.reduceEqDiff, reduceCtorEq, Nat.reduceAdd], by omega⟩
  rintro b1 q a2 k hk2 kn2 kd2 kt2 ⟨rfl, i, h6, hiq⟩
  simp (disch := first | omega | decide) only [push_cast, ↓reduceIte, Nat.reduceLT, Nat.reduceEqDiff, reduceCtorEq, Nat.reduceAdd, kn2, kd2, kt2, kn, kd, kt, hn, hd, t2, t3, h6, faL foN0, faL foN1, faL foN2, faL foN3, faL foN4, hN1.l0, hN1.l1, hN1.l2, hN1.l3, hN1.l4, hN1.la, r1.i.len Try.underlying32]
  refine condV_of (fun hlt => ?_) (fun hge => ?_)
  · have hi : i < m.insts.length := by have := hlt; simp at this; omega
    obtain ⟨x1, ⟨p1, rfl, hp1⟩, -, l1, e1⟩ := r1.i.get (P := Try.prog) hi default
    obtain ⟨x2, ⟨p2, rfl, hp2⟩, -, l2, e2⟩ := r2.i.get (P := Try.prog) hi default
    have l10 := l1 0 _ fl3 (by decide)
    have l11 := l1 1 _ flI (by decide)
    have l20 := l2 0 _ fl3 (by decide)
    have l21 := l2 1 _ flI (by decide)
    have e10 := e1 _ _ _ foI0
    have e11 := e1 _ _ _ foI1
    have e20 := e2 _ _ _ foI0
    have e21 := e2 _ _ _ foI1
    have hpb := b.p _ (getD_mem hi default)
    have hw1 : IntKind.i64.wrap ((i : Int) + 1) = i + 1 := wrapI (by omega) (by omega)
    generalize m.insts.getD i default = x at *
    refine AW.mono (Q := fun ex a3 h3 => ex = .normal ∧ h3 = k ∧ a3.n = 100 ∧ a3.df = [] ∧ a3.tm 99 = .bool false ∧ Kp 64 [6] b1 a3 ∧ a3.tm 6 = .int .i64 i) ?_ ?_
    case refine_2 =>
      refine AW.drawP (.take 0 [28, 27, 26, 25, 24, 23, 22, 21, 20, 19, 18, 17, 16, 15, 14, 13, 12, 5, 4, 3, 1] (.take 1 [28, 27, 26, 25, 24, 23, 22, 21, 20, 19, 18, 17, 16, 15, 14, 13, 12, 5, 4, 3] (.take 2 [28, 27, 26, 25, 24, 23, 22, 21, 20, 19, 18, 17, 16, 15, 14, 13, 12, 5, 4, 3] (.take 3 [28, 27, 26, 25, 24, 23, 22, 21, 20, 19, 18, 17, 16, 15, 14, 13, 12, 5, 4] (.take 4 [28, 27, 26, 25, 24, 23, 22, 21, 20, 19, 18, 17, 16, 15, 14, 13, 12, 5] (.take 5 [28, 27, 26, 25, 24, 23, 22, 21, 20, 19, 18, 17, 16, 15, 14, 13, 12] (.take 6 [28, 27, 26, 25, 24, 23, 22, 21, 20, 19, 18, 17, 16, 15, 14, 13, 12, 11, 10, 9, 7] (.take 7 [28, 27, 26, 25, 24, 23, 22, 21, 20, 19, 18, 17, 16, 15, 14, 13, 12, 11, 10, 9] (.take 8 [28, 27, 26, 25, 24, 23, 22, 21, 20, 19, 18, 17, 16, 15, 14, 13, 12, 11, 10, 9] (.take 9 [28, 27, 26, 25, 24, 23, 22, 21, 20, 19, 18, 17, 16, 15, 14, 13, 12, 11, 10] (.take 10 [28, 27, 26, 25, 24, 23, 22, 21, 20, 19, 18, 17, 16, 15, 14, 13, 12, 11] (.take 11 [28, 27, 26, 25, 24, 23, 22, 21, 20, 19, 18, 17, 16, 15, 14, 13, 12] (.take 12 [28, 27, 26, 25, 24, 23, 22, 21, 20, 19, 18, 17, 16, 15, 14, 13] (.take 13 [28, 27, 26, 25, 24, 23, 22, 21, 20, 19, 18, 17, 16, 15, 14] (.take 14 [28, 27, 26, 19, 18, 17, 15] (.take 15 [28, 27, 26, 19, 18, 17] (.take 16 [28, 27, 26, 19, 18, 17] (.take 17 [28, 27, 26, 19, 18] (.take 18 [28, 27, 26, 19] (.take 19 [28, 27, 26] (.take 20 [28, 27, 26, 25, 24, 23, 21] (.take 21 [28, 27, 26, 25, 24, 23] (.take 22 [28, 27, 26, 25, 24, 23] (.take 23 [28, 27, 26, 25, 24] (.take 24 [28, 27, 26, 25] (.take 25 [28, 27, 26] (.only 26 (.take 27 [28] (.take 28 [] .done))))))))))))))))))))))))))))) [(0, 0), (0, 1), (0, 2), (0, 3), (0, 4), (0, 5), (0, 6), (0, 7), (0, 8), (0, 9), (0, 10), (0, 11), (0, 12), (0, 13), (0, 14), (0, 15), (0, 16), (0, 17), (0, 18), (0, 19), (0, 20), (0, 21), (0, 22), (0, 23), (0, 24), (0, 25), (2, 26), (0, 27), (0, 28)] mixed (by kernel_rfl) (by kernel_rfl) ?_
      simp (disch := first | omega | decide) only [push_cast, ↓reduceIte, Nat.reduceLT, Nat.reduceEqDiff, reduceCtorEq, Nat.reduceAdd, kn2, kd2, kt2, kn, kd, kt, hn, hd, t2, t3, h6, faL foN0, faL foN1, faL foN2, faL foN3, faL foN4, hN1.l0, hN1.l1, hN1.l2, hN1.l3, hN1.l4, hN1.la, hN2.l0, hN2.l1, hN2.l2, hN2.l3, hN2.l4, hN2.la, r1.i.idx Try.underlying32 infI, r2.i.idx Try.underlying32 infI, l10, l11, l20, l21, e10, e11, e20, e21]
      refine ACall.mono ?_ (same21 hp1 hp2 (by omega))
      rintro _ k ⟨rfl, rfl⟩
      simp (disch := first | omega | decide) only [push_cast, ↓reduceIte, Nat.reduceLT, Nat.reduceEqDiff, reduceCtorEq, Nat.reduceAdd, kn2, kd2, kt2, kn, kd, kt, hn, hd, t2, t3, h6]
      simp (disch := decide) only [Kp_put, put_none, hk2]
    rintro _ a3 k ⟨rfl, rfl, bn, bd, b99, hk3, b6⟩
    simp (disch := first | omega | decide) only [push_cast, ↓reduceIte, Nat.reduceLT, Nat.reduceEqDiff, reduceCtorEq, Nat.reduceAdd, bn, bd, b99, b6, hw1]
    exact ⟨q - 1, by omega, (by simp (disch := decide) only [Kp_put, put_none, hk3]), rfl, i + 1, by simp (disch := first | omega | decide) only [push_cast, ↓reduceIte, Nat.reduceLT, Nat.reduceEqDiff, reduceCtorEq, Nat.reduceAdd], by omega⟩
  simp (disch := first | omega | decide) only [push_cast, ↓reduceIte, Nat.reduceLT, Nat.reduceEqDiff, reduceCtorEq, Nat.reduceAdd, kn2, kd2, kt2, kn, kd, kt, hn, hd, t2, t3, h6]


def invC : Cell := ⟨⟨#[73, 78, 86]⟩, 1, 1, 1, [1]⟩
def muxC (t : Int) : Cell := ⟨⟨#[77, 85, 88]⟩, 3, t, 5, [1, 1, 1]⟩
def libC (t : Int) : List Cell := [invC, muxC t]
def exC (t : Int) : Net := ⟨libC t, 1, [⟨0, 0⟩, ⟨1, 1⟩], [], [2]⟩
def badC : Net := { exC 202 with outs := [9] }
def bareC : Net := { exC 202 with cells := [invC] }
def wideC : Net := { exC 202 with inputs := 63 }
def outsC : Net := { exC 202 with outs := List.replicate 64 0 }
def instsC : Net := { exC 202 with insts := List.replicate 4095 ⟨0, [0]⟩ }
def longC : Net := ⟨libC 202, 0, List.replicate 32 ⟨0, 0⟩, [], []⟩
def bareN1 : Net := ⟨libC 202, 1, [], [], []⟩
def oneC1 : Net := ⟨[], 1, [], [], []⟩
def ord32 : List Int := (List.range 32).map fun (i : Nat) => (i : Int)

/-! ### They are netlists -/

theorem full_none {n : Net} (h : n.insts = []) : Full n := ⟨[], ⟨List.nodup_nil, fun x hx => (nomatch hx), fun j x hj => by simp at hj⟩, by rw [h]; rfl⟩

theorem full_free {n : Net} (h : ∀ i, i < n.insts.length → ∀ p ∈ pinsOf n i, p < firstE n) : Full n := by
  refine ⟨(List.range n.insts.length).map fun (i : Nat) => (i : Int), ⟨?_, fun x hx => ?_, fun j x hj p hp hF => ?_⟩, by simp⟩
  · rw [List.nodup_iff_pairwise_ne, List.pairwise_map]
    exact (List.nodup_iff_pairwise_ne.1 List.nodup_range).imp (fun hab e => hab (by exact_mod_cast e))
  · obtain ⟨i, hi, rfl⟩ := List.mem_map.1 hx
    have := List.mem_range.1 hi
    omega
  · rw [List.getElem?_map, Option.map_eq_some_iff] at hj
    obtain ⟨i, hi, rfl⟩ := hj
    have hil : i < n.insts.length := by
      have := (List.getElem?_eq_some_iff.1 hi)
      obtain ⟨h1, h2⟩ := this
      rw [List.getElem_range] at h2; simp at h1; omega
    have := h i hil p (by simpa using hp)
    omega

theorem net0 {n : Net} (h1 : shapeE n = 0) (h2 : Full n) : netE n = 0 := netE_zero.2 ⟨h1, h2⟩
theorem netEx : netE (exC 202) = 0 := net0 (by decide +kernel) (full_none rfl)
theorem netTurn : netE (exC 172) = 0 := net0 (by decide +kernel) (full_none rfl)
theorem netBare : netE bareC = 0 := net0 (by decide +kernel) (full_none rfl)
theorem netWide : netE wideC = 0 := net0 (by decide +kernel) (full_none rfl)
theorem netOuts : netE outsC = 0 := net0 (by decide +kernel) (full_none rfl)
theorem netLong : netE longC = 0 := net0 (by decide +kernel) (full_none rfl)
theorem netN1 : netE bareN1 = 0 := net0 (by decide +kernel) (full_none rfl)
theorem netOne : netE oneC1 = 0 := net0 (by decide +kernel) (full_none rfl)
theorem netInsts : netE instsC = 0 := net0 (by decide +kernel) (full_free (fun i hi p hp => by
  have hi : i < (List.replicate 4095 (⟨0, [0]⟩ : Inst)).length := hi
  rw [List.length_replicate] at hi
  have : pinsOf instsC i = [0] := by
    show ((List.replicate 4095 (⟨0, [0]⟩ : Inst)).getD i default).pins = [0]
    rw [List.getD_eq_getElem?_getD, List.getElem?_replicate, if_pos hi]; rfl
  rw [this] at hp
  simp at hp; subst hp
  show (0 : Int) < firstE instsC
  decide))
theorem netBad : netE badC = 1 := by
  have : shapeE badC = 1 := by decide +kernel
  unfold netE; rw [this]; rfl

/-! ### Orders -/

theorem perm_of {zs : List Int} (h : (zs.all fun z => decide (0 ≤ z ∧ z < zs.length)) = true) (hn : zs.Nodup) : IsPerm zs := by
  refine IsPerm.of_marks ⟨fun z hz => ?_, by rw [List.take_length]; exact hn⟩
  rw [List.take_length] at hz
  have := List.all_eq_true.1 h z hz
  simpa using this
theorem perm10 : IsPerm [1, 0] := perm_of (by decide) (by decide)
theorem perm01 : IsPerm [0, 1] := perm_of (by decide) (by decide)
theorem perm0 : IsPerm [0] := perm_of (by decide) (by decide)
theorem permN : IsPerm [] := perm_of (by decide) (by decide)
theorem perm32 : IsPerm ord32 := perm_of (by decide +kernel) (by decide +kernel)
theorem nperm00 : ¬ IsPerm [0, 0] := fun h => by have := h.nodup; simp at this
theorem nperm02 : ¬ IsPerm [0, 2] := fun h => by obtain ⟨i, hi, e⟩ := h.range (z := 2) (by simp); simp at hi; omega
theorem npermM : ¬ IsPerm [-1, 0] := fun h => by obtain ⟨i, hi, e⟩ := h.range (z := -1) (by simp); omega
theorem nperm1 : ¬ IsPerm [1] := fun h => by obtain ⟨i, hi, e⟩ := h.range (z := 1) (by simp); simp at hi; omega

theorem scan_ok {n : Net} {ord : List Int} (h : netE n = 0) (hp : IsPerm ord) (hl : (ord.length : Int) = n.flops.length) : scanE n ord = 0 := by rw [scanE, if_neg (by simpa using h), if_pos ⟨hp, hl⟩]
theorem scan_arg {n : Net} {ord : List Int} (h : netE n = 0) (hp : ¬ (IsPerm ord ∧ (ord.length : Int) = n.flops.length)) : scanE n ord = 1 := by rw [scanE, if_neg (by simpa using h), if_neg hp]
theorem scan_bad {ord : List Int} : scanE badC ord = 1 := by rw [scanE, netBad]; rfl

/-! ### Insert -/

theorem ins_scan {n : Net} {ord : List Int} {e : Int} (h : scanE n ord = e) (hne : e ≠ 0) : insE n ord = e := by rw [insE, if_pos (by rw [h]; exact hne), h]
theorem ins1 : insE badC [] = 1 := ins_scan scan_bad (by decide)
theorem ins2 : insE bareC [0] = 1 := ins_scan (scan_arg netBare (fun h => by have := h.2; revert this; decide)) (by decide)
theorem ins4 : insE (exC 202) [0, 0] = 1 := ins_scan (scan_arg netEx (fun h => nperm00 h.1)) (by decide)
theorem ins5 : insE (exC 202) [0, 2] = 1 := ins_scan (scan_arg netEx (fun h => nperm02 h.1)) (by decide)
theorem ins6 : insE (exC 202) [-1, 0] = 1 := ins_scan (scan_arg netEx (fun h => npermM h.1)) (by decide)
theorem ins7 : insE (exC 202) [0, 1, 2] = 1 := ins_scan (scan_arg netEx (fun h => by have := h.2; revert this; decide)) (by decide)
theorem ins3 : insE bareC [0, 1] = 20 := by rw [insE, if_neg (by rw [scan_ok netBare perm01 rfl]; decide), if_pos (.inr (by decide +kernel))]
theorem ins_big {n : Net} {ord : List Int} (hs : scanE n ord = 0) (h1 : matchE n.cells 202 3 = 0) (h2 : matchGo 202 3 0 n.cells ≠ []) (h3 : n.inputs + 2 > 64 ∨ (n.outs.length : Int) ≥ 64 ∨ ((n.insts.length : Int) + n.flops.length > 4096)) : insE n ord = 5 := by
  rw [insE, if_neg (by rw [hs]; decide), if_neg (by rintro (x | x); exact x h1; exact h2 x), if_pos h3]
theorem ins_ok {n : Net} {ord : List Int} (hs : scanE n ord = 0) (h1 : matchE n.cells 202 3 = 0) (h2 : matchGo 202 3 0 n.cells ≠ []) (h3 : ¬ (n.inputs + 2 > 64 ∨ (n.outs.length : Int) ≥ 64 ∨ ((n.insts.length : Int) + n.flops.length > 4096))) : insE n ord = 0 := by
  rw [insE, if_neg (by rw [hs]; decide), if_neg (by rintro (x | x); exact x h1; exact h2 x), if_neg h3]
theorem lib0 : matchE (libC 202) 202 3 = 0 := by decide +kernel
theorem lib1 : matchGo 202 3 0 (libC 202) ≠ [] := by decide +kernel
theorem lib2 : matchE (libC 172) 202 3 = 0 := by decide +kernel
theorem lib3 : matchGo 202 3 0 (libC 172) ≠ [] := by decide +kernel
theorem ins8 : insE wideC [1, 0] = 5 := ins_big (scan_ok netWide perm10 rfl) lib0 lib1 (by decide)
theorem ins9 : insE outsC [1, 0] = 5 := ins_big (scan_ok netOuts perm10 rfl) lib0 lib1 (.inr (.inl (by show ((List.replicate 64 (0 : Int)).length : Int) ≥ 64; rw [List.length_replicate]; decide)))
theorem ins10 : insE instsC [1, 0] = 5 := ins_big (scan_ok netInsts perm10 rfl) lib0 lib1 (.inr (.inr (by show ((List.replicate 4095 (⟨0, [0]⟩ : Inst)).length : Int) + 2 > 4096; rw [List.length_replicate]; decide)))
theorem ins11 : insE longC ord32 = 0 := ins_ok (scan_ok netLong perm32 (by decide +kernel)) lib0 lib1 (by decide +kernel)
theorem insN1 : insE bareN1 [] = 0 := ins_ok (scan_ok netN1 permN rfl) lib0 lib1 (by decide)
theorem insT : insE (exC 172) [1, 0] = 0 := ins_ok (scan_ok netTurn perm10 rfl) lib2 lib3 (by decide)
theorem insRN : insR bareN1 [] = ⟨libC 202, 3, [], [], [2]⟩ := by unfold insR; rw [if_pos insN1]; rfl
theorem insRT : insR (exC 172) [1, 0] = ⟨libC 172, 3, [⟨6, 0⟩, ⟨5, 1⟩], [⟨1, [2, 3, 1]⟩, ⟨1, [4, 0, 1]⟩], [4, 3]⟩ := by
  unfold insR; rw [if_pos insT]; kernel_rfl

/-! ### Pattern, Load, Unload, Observe -/

theorem pat_scan {n : Net} {ord : List Int} {st inp : List Bool} {e : Int} (h : scanE n ord = e) (hne : e ≠ 0) : patE n ord st inp = e := by rw [patE, if_pos (by rw [h]; exact hne), h]
theorem pat_wid {n : Net} {ord : List Int} {st inp : List Bool} (h : scanE n ord = 0) (hw : ¬ ((st.length : Int) = n.flops.length ∧ (inp.length : Int) = n.inputs)) : patE n ord st inp = 12 := by rw [patE, if_neg (by rw [h]; decide), if_pos hw]
theorem patA : patE badC [] [] [] = 1 := pat_scan scan_bad (by decide)
theorem patB : patE (exC 202) [0] [] [] = 1 := pat_scan (scan_arg netEx (fun h => by have := h.2; revert this; decide)) (by decide)
theorem patC : patE (exC 202) [0, 1] [false] [false] = 12 := pat_wid (scan_ok netEx perm01 rfl) (by decide)
theorem patD : patE (exC 202) [0, 1] [false, false] [] = 12 := pat_wid (scan_ok netEx perm01 rfl) (by decide)
theorem patEE : patE longC ord32 (List.replicate 32 false) [] = 5 := by
  rw [patE, if_neg (by rw [scan_ok netLong perm32 (by decide +kernel)]; decide), if_neg (by decide +kernel), if_pos (by decide +kernel)]
theorem patF : patE longC ord32 (List.replicate 31 false) [] = 12 := pat_wid (scan_ok netLong perm32 (by decide +kernel)) (by decide +kernel)
theorem patM : patE oneC1 [] [] [true] = 0 := by
  rw [patE, if_neg (by rw [scan_ok netOne permN rfl]; decide), if_neg (by decide), if_neg (by decide)]
theorem obsI : obsE [1] [] = 1 := by unfold obsE; rw [if_pos (by exact nperm1)]
theorem obsJ : obsE [0] [[], []] = 12 := by unfold obsE; rw [if_neg (by simpa using perm0), if_pos (by decide)]
theorem obsK : obsE [0] [[true], [], [true]] = 12 := by unfold obsE; rw [if_neg (by simpa using perm0), if_pos (by decide)]

end Go.Ab.S1

namespace Go.Ab

section
variable {P : Program}

def AObj.ty : AObj → Option TypeId
  | .row _ e _ => some e
  | .grow _ e => some e
  | _ => none

theorem Vec.ty {e : TypeId} {v : Value} {ob : Option AObj} {A : Nat} {zs : List Value} (hv : Vec e v ob A zs) : ∀ o, ob = some o → o.ty = some e := by
  intro o ho
  rcases hv with ⟨_, _, rfl⟩ | ⟨cs, _, rfl, _⟩ | ⟨cs, C, _, _, _, _, rfl, _⟩ <;> cases ho <;> rfl
theorem VecM.ty {sz : Nat} {e : TypeId} {v : Value} {ob : Option AObj} {A n : Nat} {zs : List Value} (hv : VecM sz e v ob A n zs) : ∀ o, ob = some o → o.ty = some e := by
  intro o ho
  obtain ⟨_, ⟨_, _, rfl⟩ | ⟨_, _, rfl⟩ | ⟨_, rfl⟩⟩ := hv <;> cases ho <;> rfl
theorem ty_ne {h : AH} {A B : Nat} {o p : AObj} {e f : TypeId} (ha : h.get A = some o) (hb : h.get B = some p) (ho : o.ty = some e) (hp : p.ty = some f) (hne : e ≠ f) : A ≠ B := by
  rintro rfl
  rw [ha] at hb; cases hb
  rw [ho] at hp; cases hp; exact hne rfl

/-- A field of an element, written over. -/
theorem setChunk {zs : List Value} {sz i f : Nat} {x : Value} (hf : f < sz) (j : Nat) : ((zs.set (i * sz + f) x).drop (j * sz)).take sz = if j = i then ((zs.drop (i * sz)).take sz).set f x else (zs.drop (j * sz)).take sz := by
  by_cases hj : j = i
  · subst hj
    rw [if_pos rfl, ← List.set_drop, List.take_set]
  · rw [if_neg hj]
    apply List.ext_getElem?
    intro m
    rw [List.getElem?_take, List.getElem?_take]
    by_cases hm : m < sz
    · rw [if_pos hm, if_pos hm, List.getElem?_drop, List.getElem?_drop, List.getElem?_set_ne]
      intro e
      rcases Nat.lt_or_gt_of_ne hj with h | h
      · have : (j + 1) * sz ≤ i * sz := Nat.mul_le_mul_right _ h
        rw [Nat.add_mul, Nat.one_mul] at this; omega
      · have : (i + 1) * sz ≤ j * sz := Nat.mul_le_mul_right _ h
        rw [Nat.add_mul, Nat.one_mul] at this; omega
    · rw [if_neg hm, if_neg hm]

end
end Go.Ab

namespace Go.Ab

/-- A row of another reading of the world is read here too. -/
theorem HR.import {ρ : Ren} {h : AH} {w : World} (hr : HR ρ h w) {ρ0 : Ren} {r : RE} {cs us : List Value} {e : TypeId} {wr : Bool} {cc : Array Value} {fr : Nat × Nat} (hrow : RowAt ρ0 r w cs e wr cc fr) (hl : us.length ≤ cs.length)
    (hu : ∀ i u, us[i]? = some u → oneC u = true ∧ ∃ v', cc[r.base + i]? = some v' ∧ VR (ρ.put h.next r) u v') (hsep : ∀ A o q, h.get A = some o → o.own = true → ρ A = some q → q.blk ≠ r.blk) :
    HR (ρ.put h.next r) (h.new (.row us e false)) w ∧ ρ.le (ρ.put h.next r) := by
  have hle : ρ.le (ρ.put h.next r) := Ren.le_put hr.fresh
  refine ⟨⟨fun A o ha => ?_, fun A B o p q q' h1 h2 g1 g2 hne how => ?_, fun A q hA => ?_⟩, hle⟩
  · rw [AH.new_get] at ha
    split at ha
    · rename_i e'; cases ha; subst e'
      refine ⟨_, Ren.put_same _ _ _, cc, fr, hrow.heap, ?_, fun i u hi => (hu i u hi).2, (fun hw => by cases hw), fun u hm => ?_⟩
      · have := hrow.fits; omega
      · obtain ⟨i, hi⟩ := List.getElem?_of_mem hm
        exact (hu i u hi).1
    · obtain ⟨q, hq, hor⟩ := hr.obj A o ha
      exact ⟨q, hle _ _ hq, hor.move hle rfl⟩
  · rw [AH.new_get] at h1 h2
    split at h1
    · rename_i e1
      cases h1
      rw [if_neg (fun e2 => hne (e1.trans e2.symm))] at h2
      rcases how with how | how
      · cases how
      · subst e1
        rw [Ren.put_same] at g1; cases g1
        rw [Ren.put_ne _ _ (fun e => hne e.symm)] at g2
        exact fun e => hsep B p q' h2 how g2 e.symm
    · rename_i e1
      rw [Ren.put_ne _ _ e1] at g1
      split at h2
      · rename_i e2
        cases h2
        subst e2
        rw [Ren.put_same] at g2; cases g2
        rcases how with how | how
        · exact hsep A o q h1 how g1
        · cases how
      · rename_i e2
        rw [Ren.put_ne _ _ e2] at g2
        exact hr.inj A B o p q q' h1 h2 g1 g2 hne how
  · by_cases e : A = h.next
    · subst e; simp
    · rw [Ren.put_ne _ _ e] at hA; have := hr.dom A q hA; simp; omega

/-- The rest of a slice, from an element on. -/
theorem RowOf.post {P : Program} {α : Type} {L : Lay α} {h : AH} {v : Value} {xs : List α} (hs : RowOf L h v xs) {t e : TypeId} (ht : P.underlying t = some (.slice e)) (he : ∃ i, P.info? e = some i ∧ i.size = L.sz) {k : IntKind} {n : Nat} (hn : n ≤ xs.length) :
    ∃ v', aSlice P t v (some (.int k n)) none = some v' ∧ RowOf L h v' (xs.drop n) := by
  obtain ⟨p, l, c, rfl, rfl, ⟨hsp, hle, hcap⟩, hcs⟩ := hs
  obtain ⟨ie, hi, h1⟩ := he
  have hb : bnd (some (.int k (n : Int))) 0 = some n := by simp [bnd]
  have hb0 : ∀ m, bnd none m = some m := fun _ => rfl
  have hpos := L.pos
  cases p with
  | none =>
    have hx : xs = [] := by
      rcases hcs with e | ⟨A, off, o, cs, e, _⟩
      · exact e
      · cases e
    subst hx
    have hn0 : n = 0 := by simpa using hn
    subst hn0
    refine ⟨.slice none 0 c, ?_, none, 0, c, rfl, by simp, ⟨(fun q e => by cases e), by omega, hcap⟩, .inl (by simp)⟩
    simp only [aSlice, ht, hb, hb0, hi]
    simp
  | some q =>
    obtain ⟨A, off, sp⟩ := q
    have : sp = none := hsp _ rfl
    subst this
    have mv : ∀ i : Nat, off + n * L.sz + i * L.sz = off + (n + i) * L.sz := fun i => by rw [Nat.add_mul]; omega
    rcases hcap with hc | hc
    · refine ⟨.slice (some ⟨A, if c = n then off else off + n * L.sz, none⟩) (xs.length - n) (c - n), ?_, _, _, _, rfl, by simp, ⟨fun q e => by cases e; rfl, by omega, .inl (by omega)⟩, ?_⟩
      · simp only [aSlice, ht, hb, hb0, hi, h1]
        rw [if_pos hc, if_pos ⟨by omega, by omega⟩]
      · by_cases he : n = xs.length
        · exact .inl (by rw [he, List.drop_length])
        rcases hcs with e | ⟨A', off', o, cs, e, hg, hcc, hall⟩
        · exact .inl (by rw [e]; simp)
        cases e
        refine .inr ⟨A, _, o, cs, rfl, hg, hcc, fun i x hx => ?_⟩
        rw [if_neg (by omega)]
        rw [List.getElem?_drop] at hx
        rw [mv]; exact hall _ x hx
    · refine ⟨.slice (some ⟨A, off + n * L.sz, none⟩) (xs.length - n) c, ?_, _, _, _, rfl, by simp, ⟨fun q e => by cases e; rfl, by omega, .inr hc⟩, ?_⟩
      · simp only [aSlice, ht, hb, hb0, hi, h1]
        rw [if_neg (by omega), if_pos ⟨hc, by omega, by omega⟩]
      · rcases hcs with e | ⟨A', off', o, cs, e, hg, hcc, hall⟩
        · exact .inl (by rw [e]; simp)
        cases e
        refine .inr ⟨A, _, o, cs, rfl, hg, hcc, fun i x hx => ?_⟩
        rw [List.getElem?_drop] at hx
        rw [mv]; exact hall _ x hx

/-- A slice of one's own, as a row of one-cell elements. -/
theorem Vec.row {α : Type} {L : Lay α} (hz : L.sz = 1) {e : TypeId} {h : AH} {v : Value} {ob : Option AObj} {A : Nat} {vs : List Value} {xs : List α} (hV : Vec e v ob A vs) (hg : ∀ o, ob = some o → h.get A = some o) (hl : vs.length = xs.length) (hb : xs.length ≤ 4294967296)
    (hr : ∀ i x, xs[i]? = some x → L.rel h [vs.getD i undef] x) : RowOf L h v xs := by
  have key : ∀ cs : List Value, vs.length ≤ cs.length → cs.take vs.length = vs → ∀ (i : Nat) (x : α), xs[i]? = some x → L.rel h ((cs.drop (0 + i * L.sz)).take L.sz) x := by
    intro cs hle htk i x hx
    have hi : i < xs.length := (List.getElem?_eq_some_iff.1 hx).1
    have h0 := hr i x hx
    rw [hz, Nat.zero_add, Nat.mul_one]
    have hv : vs[i]? = some (vs.getD i undef) := by simp [List.getD_eq_getElem?_getD, List.getElem?_eq_getElem (show i < vs.length by omega)]
    have hc := take_get htk i _ hv
    have hic : i < cs.length := by omega
    rw [List.drop_eq_getElem_cons hic, List.take_succ_cons, List.take_zero]
    rw [List.getElem?_eq_getElem hic] at hc
    rw [Option.some.inj hc]; exact h0
  rcases hV with ⟨rfl, rfl, _⟩ | ⟨cs, rfl, rfl, hle, ht⟩ | ⟨cs, C, rfl, hC, hvC, hCc, rfl, ht⟩
  · have hb : xs = [] := List.eq_nil_of_length_eq_zero hl.symm
    subst hb
    exact ⟨none, 0, 0, rfl, rfl, ⟨fun q e => (nomatch e), Nat.le_refl _, .inl (by unfold SL; omega)⟩, .inl rfl⟩
  · exact ⟨_, _, _, rfl, hl, ⟨fun q e => by cases e; rfl, by unfold SL; omega, .inr (by rw [hz])⟩, .inr ⟨A, 0, _, cs, rfl, hg _ rfl, rfl, key cs hle ht⟩⟩
  · exact ⟨_, _, _, rfl, hl, ⟨fun q e => by cases e; rfl, hvC, .inl (by unfold SL; omega)⟩, .inr ⟨A, 0, _, cs, rfl, hg _ rfl, rfl, key cs (by omega) ht⟩⟩
end Go.Ab

namespace Go.Ab

section
variable {P : Program}

def freeA (P : Program) (F : Nat → Value → AH → Prop) (ops : Array Oper) (a0 : AAct) (h0 : AH) (T : List Nat) : Nat → List Oper → List (List Nat) → Prop
  | _, [], _ => True
  | i, o :: l, D => (∀ a h, FreeAt a0 h0 T a h → factsW F ops a h (D.headD []) → opsM P ops (freeK F i o a h) [o] a h) ∧ freeA P F ops a0 h0 T (i + 1) l D.tail

theorem freeA_cons {F : Nat → Value → AH → Prop} {ops : Array Oper} {a0 : AAct} {h0 : AH} {T : List Nat} {i : Nat} {o : Oper} {l : List Oper} {d : List Nat} {D : List (List Nat)}
    (h1 : ∀ a h, FreeAt a0 h0 T a h → factsW F ops a h d → opsM P ops (freeK F i o a h) [o] a h) (h2 : freeA P F ops a0 h0 T (i + 1) l D) : freeA P F ops a0 h0 T i (o :: l) (d :: D) := ⟨h1, h2⟩
theorem freeA_nil {F : Nat → Value → AH → Prop} {ops : Array Oper} {a0 : AAct} {h0 : AH} {T : List Nat} {i : Nat} {D : List (List Nat)} : freeA P F ops a0 h0 T i [] D := trivial

theorem freeA_get {F : Nat → Value → AH → Prop} {ops : Array Oper} {a0 : AAct} {h0 : AH} {T : List Nat} : ∀ (l : List Oper) (i : Nat) (D : List (List Nat)), freeA P F ops a0 h0 T i l D → ∀ k o, l[k]? = some o →
    ∀ a h, FreeAt a0 h0 T a h → factsW F ops a h (D.getD k []) → opsM P ops (freeK F (i + k) o a h) [o] a h := by
  intro l
  induction l with
  | nil => intro i D _ k o hk; simp at hk
  | cons x l ih =>
    intro i D hf k o hk a h hA hW
    cases k with
    | zero =>
      simp only [List.getElem?_cons_zero, Option.some.injEq] at hk
      subst hk
      exact hf.1 a h hA (by cases D <;> exact hW)
    | succ k =>
      have := ih (i + 1) D.tail hf.2 k o (by simpa using hk) a h hA (by cases D <;> simpa using hW)
      have e : i + 1 + k = i + (k + 1) := by omega
      rw [e] at this; exact this

def freeAOK (ops : Array Oper) (T : List Nat) (D : List (List Nat)) : Bool :=
  (List.range ops.size).all fun i => match ops[i]? with
    | none => false
    | some o => o.after.all (fun e => !Region.binds .any e || decide (e.on < i)) && (D.getD i []).all (fun j => decide (j < i) && freeDep o j) &&
      (match o.dst with
        | none => false
        | some t => T.contains t && (List.range i).all fun j => dstOf ops j != t)

/-- A region that draws its order, all of whose operations only lay blocks. -/
theorem AW.freeAll {rd : Option Nat} {id : Nat} {ops : Array Oper} {Q : Exit → AAct → AH → Prop} {a0 : AAct} {h0 : AH} (F : Nat → Value → AH → Prop) (T : List Nat) (D : List (List Nat)) (hm : P.follows .mixedOrders = true) (hok : freeAOK ops T D = true)
    (hF : ∀ i v h1 h2, F i v h1 → Gr h1 h2 → F i v h2) (hx : WFH h0 → freeA P F ops a0 h0 T 0 ops.toList D) (hq : ∀ a h, FreeAt a0 h0 T a h → (∀ j, j < ops.size → F j (a.tm (dstOf ops j)) h) → Q .normal a h) : AW P rd (.region id ops true) Q a0 h0 := by
  intro n0 ρ0 crd0 ca0 w0 hrd0 ha0 hr0
  have hwf := hr0.wf
  refine AW.draw hm ?_ n0 ρ0 crd0 ca0 w0 hrd0 ha0 hr0
  simp only [freeAOK, List.all_eq_true, List.mem_range] at hok
  have key : ∀ (fuel : Nat) (listed : Array Bool) (a : AAct) (h : AH), listed.size = ops.size → unl listed (List.range ops.size) ≤ fuel → FreeAt a0 h0 T a h → freeA P F ops a0 h0 T 0 ops.toList D →
      (∀ j, j < ops.size → listed.getD j false = true → F j (a.tm (dstOf ops j)) h) → anyW P ops Q fuel listed [] a h := by
    intro fuel
    induction fuel with
    | zero =>
      intro listed a h hsz hu hA hM hFs _ _
      have hall : ∀ j, j < ops.size → listed.getD j false = true := fun j hj => by
        have hjl : j < listed.size := by omega
        have := List.countP_eq_zero.1 (Nat.le_zero.1 hu) j (List.mem_range.2 hj)
        simp [hjl] at this ⊢; exact this
      refine ⟨?_, hq a h hA fun j hj => hFs j hj (hall j hj)⟩
      cases hr : Region.ready .any ops listed with
      | nil => rfl
      | cons k l =>
        have hk : k ∈ Region.ready .any ops listed := by rw [hr]; exact List.mem_cons_self ..
        obtain ⟨hk1, ok, hk2, _⟩ := mem_ready.1 hk
        have hkl : k < ops.size := (Array.getElem?_eq_some_iff.1 hk2).1
        have := hall k hkl
        have hkl2 : k < listed.size := by omega
        simp [hkl2] at this hk1
        rw [this] at hk1; cases hk1
    | succ fuel ih =>
      intro listed a h hsz hu hA hM hFs _ _
      have hne : ∀ n i, ops.size ≤ i + n → (∀ j, j < i → listed.getD j false = true) → Region.ready .any ops listed = [] → ∀ j, j < ops.size → listed.getD j false = true := by
        intro n
        induction n with
        | zero => intro i h1 h3 _ j hj; exact h3 j (by omega)
        | succ n ihn =>
          intro i h1 h3 hnil j hj
          by_cases h2 : i < ops.size
          · by_cases hi : listed.getD i true = false
            · exfalso
              have hio := Array.getElem?_eq_getElem h2
              have hki := hok i h2
              rw [hio] at hki
              simp only [Bool.and_eq_true, Array.all_eq_true', Bool.or_eq_true, Bool.not_eq_true', decide_eq_true_eq] at hki
              have : i ∈ Region.ready .any ops listed := mem_ready.2 ⟨hi, _, hio, fun e he hb => h3 _ (by
                rcases hki.1.1 e he with hk | hk
                · rw [hb] at hk; cases hk
                · exact hk)⟩
              rw [hnil] at this; cases this
            · have hil : i < listed.size := by omega
              have hi2 : listed.getD i false = true := by
                simp [hil] at hi ⊢; exact hi
              exact ihn (i + 1) (by omega) (fun j hj => by
                by_cases e : j = i
                · subst e; exact hi2
                · exact h3 j (by omega)) hnil j hj
          · exact h3 j (by omega)
      refine ⟨fun e => hq a h hA fun j hj => hFs j hj (hne ops.size 0 (by omega) (fun j hj => by omega) e j hj), fun i hi o ho => ?_⟩
      have hun := (mem_ready.1 hi).1
      have hlt : i < ops.size := (Array.getElem?_eq_some_iff.1 ho).1
      have hki := hok i hlt
      rw [ho] at hki
      simp only [Bool.and_eq_true, List.all_eq_true, decide_eq_true_eq] at hki
      obtain ⟨⟨_, hD⟩, hdst⟩ := hki
      have hol : ops.toList[i]? = some o := by simpa using ho
      have hst := freeA_get ops.toList 0 D hM i o hol a h hA (factsW_of fun j hj => by
        obtain ⟨h1, h2⟩ := hD j hj
        exact hFs j (by omega) (freeDep_spec ho h2 hi))
      have hop := opsM_sound _ _ _ hst
      simp only [opsL, Nat.zero_add] at hop
      refine opW.mono (fun a' h' hq => ⟨fun p hp => (nomatch hp), ?_⟩) hop
      obtain ⟨v, rfl, hFv, hg⟩ := hq
      cases hd : o.dst with
      | none => rw [hd] at hdst; cases hdst
      | some t =>
        rw [hd] at hdst
        simp only [Bool.and_eq_true, List.contains_iff_mem, List.all_eq_true, List.mem_range, bne_iff_ne, ne_eq] at hdst
        have hti : dstOf ops i = t := by simp [dstOf, ho, hd]
        have hdis : ∀ j, j < ops.size → j ≠ i → dstOf ops j ≠ t := by
          intro j hjl hji
          rcases Nat.lt_or_ge j i with hlt' | hge
          · exact hdst.2 j hlt'
          · have hkj := hok j hjl
            rw [Array.getElem?_eq_getElem hjl] at hkj
            simp only [Bool.and_eq_true] at hkj
            have h2 := hkj.2
            cases hdj : ops[j].dst with
            | none => rw [hdj] at h2; cases h2
            | some u =>
              rw [hdj] at h2
              simp only [Bool.and_eq_true, List.all_eq_true, List.mem_range, bne_iff_ne, ne_eq] at h2
              have e : dstOf ops j = u := by simp [dstOf, Array.getElem?_eq_getElem hjl, hdj]
              rw [e]; intro e2; exact h2.2 i (by omega) (by rw [hti, e2])
        refine ih _ _ _ (by simpa using hsz) ?_ ⟨?_, ?_, ?_, hA.gr.trans hg⟩ hM ?_
        · have := unl_set hun (List.range ops.size)
          rw [if_pos (List.mem_range.2 hlt)] at this
          omega
        · rw [put_n]; exact hA.n
        · rw [put_df]; exact hA.df
        · intro u hu
          rw [put_tm, if_neg (fun e => hu (by rw [e]; exact hdst.1))]; exact hA.tm u hu
        · intro j hj hlj
          by_cases hji : j = i
          · subst hji; rw [hti, put_tm, if_pos rfl]; exact hFv
          · rw [put_tm, if_neg (hdis j hj hji)]
            refine hF _ _ _ _ (hFs j hj ?_) hg
            rw [← hlj]
            exact (getD_set_ne (listed := listed) false (Ne.symm hji)).symm
  refine key ops.size (Array.replicate ops.size false) a0 h0 (by simp) ?_ ⟨rfl, rfl, fun _ _ => rfl, Gr.refl hwf⟩ (hx hwf) ?_
  · have := List.countP_le_length (p := fun i => !(Array.replicate ops.size false).getD i true) (l := List.range ops.size)
    simpa [unl] using this
  · intro j hj hl
    simp [hj] at hl

/-- Structs, numbered. -/
def mkPs : Nat → List (List Value) → List (Nat × Value)
  | _, [] => []
  | k, xs :: l => (k, .agg xs.toArray) :: mkPs (k + 1) l

theorem fill_mk {sz : Nat} : ∀ (xss : List (List Value)) (k : Nat) (pre post : List Value), pre.length = k * sz → post.length = xss.length * sz → (∀ xs ∈ xss, xs.length = sz) →
    fillL (fun k => some (k * sz, sz)) (pre ++ post) (mkPs k xss) = some (pre ++ xss.flatten) := by
  intro xss
  induction xss with
  | nil => intro k pre post h1 h2 _; have : post = [] := List.eq_nil_of_length_eq_zero (by simpa using h2); subst this; rfl
  | cons xs l ih =>
    intro k pre post h1 h2 h3
    have hxs := h3 xs (List.mem_cons_self ..)
    have hc : (Value.agg xs.toArray).cells = xs.toArray := rfl
    rw [List.length_cons, Nat.add_mul, Nat.one_mul] at h2
    have hle : sz ≤ post.length := by omega
    simp only [mkPs, fillL, hc]
    rw [if_neg (by simp [hxs, h1]; omega)]
    have hset := setL_mid xs (post.take sz) pre (post.drop sz) (by rw [List.length_take]; omega)
    rw [List.append_assoc, List.take_append_drop, h1] at hset
    rw [hset]
    have := ih (k + 1) (pre ++ xs) (post.drop sz) (by rw [List.length_append, h1, hxs, Nat.add_mul, Nat.one_mul]) (by rw [List.length_drop]; omega) (fun ys hy => h3 ys (List.mem_cons_of_mem _ hy))
    rw [this, List.flatten_cons, List.append_assoc]

/-- A slice of structs, laid. -/
theorem aBuildL {t e : TypeId} {sz B : Nat} (ht : SlM P t e sz B) (hs : sz ≤ 100) (h : AH) {xss : List (List Value)} (hn : xss.length ≤ 1000) (hx : ∀ xs ∈ xss, xs.length = sz) (ho : ∀ xs ∈ xss, xs.all oneC = true) :
    aBuildSlice P t xss.length (mkPs 0 xss) h = some (.slice (some ⟨h.next, 0, none⟩) xss.length xss.length, h.new (.row xss.flatten e true)) := by
  obtain ⟨i, z, hi, h1, hb, hz, hc, hzk, hp⟩ := ht.info
  have hzl : (zeros z.cells.toList xss.length).length = xss.length * sz := by simp [zeros, hc]
  have hfill := fill_mk xss 0 [] (zeros z.cells.toList xss.length) (by simp) hzl hx
  rw [List.nil_append, List.nil_append] at hfill
  have hbig : xss.length * sz ≤ 16777216 := by
    have := Nat.mul_le_mul hn hs
    omega
  have hSL : xss.length < SL := by unfold SL; omega
  have hone : xss.flatten.all oneC = true := by
    rw [List.all_eq_true]
    intro v hv
    obtain ⟨xs, h1, h2⟩ := List.mem_flatten.1 hv
    exact List.all_eq_true.1 (ho xs h1) v h2
  simp only [aBuildSlice, ht.sl, hi, hz, h1, hp, hc, hbig, hSL, and_self, if_true, hfill, hone]
end
end Go.Ab
