/- scan.Observe. What the cycles of a pattern do to a scanned netlist, plainly. netlablaw31.ScanTests on the abstract heap. The examples of the chapter hold: netlablaw31.awake returns true, evaluated. -/
import Derived.Test.YtnejoceplinjpaaGreatB14
import Derived.Test.YtnejoceplinjpaaGreatProg
import Derived.KernelRfl
set_option linter.unusedSimpArgs false
set_option linter.unusedVariables false
namespace Go.Ab.S1
open Go.Proofs
set_option linter.unusedSimpArgs false
set_option linter.unusedVariables false
set_option maxRecDepth 100000
set_option maxHeartbeats 4000000
attribute [local push_cast] wpA_skip wpA_ret wpA_exit wpA_seq wpA_block wpA_cond2 andK_true wpA_region wpA_draw wpA_loop thenQ_normal thenQ_ret thenQ_exit blockQ_normal blockQ_ret blockQ_exit condV_true condV_false opsM_nil opsM_cons2 okM_true wantM_true wantM_false stepM seqM_cons2 seqM_nil2 okS_true wantS_true wantS_false stepS skipS okB Keeps_nil contK_app List.zip_cons_cons List.zip_nil_left List.zip_nil_right Op.operands Call.operands Array.toList_append List.append_nil List.nil_append List.all_cons List.all_nil cOK plain put_n put_tm put_none put_df ev_tmp ev_const ev_func wanted_none wanted_some callR_func dop ex_some1 aBuiltin aBin intBin aUn Option.map_some Bool.and_true Bool.true_and Bool.and_self List.map_cons List.map_nil List.toList_toArray List.getElem?_toArray List.getElem?_cons_zero List.getElem?_cons_succ Option.getD_some Option.getD_none Bool.false_eq_true eq_self_iff_true decide_true decide_false List.cons_append aExtract resL resV List.getD_cons_zero List.getD_cons_succ List.getD_nil Nat.succ_ne_self g1 g2 yieldedA2 isB_bool isB_undef g3 Option.bind_some Option.bind_none bne_self_eq_false beq_self_eq_true Bool.not_true Bool.not_false Int.toNat_natCast List.length_map List.mem_cons List.not_mem_nil or_false not_false_eq_true decide_not Bool.not_not bodyR_ret2 bodyR_normal2 closeMarks_nil ex_some0 Nat.zero_add Nat.add_zero ieq ine List.map_toArray Option.toArray_none Option.toArray_some oev Keeps_cons Still_eq selL wpX_skip wpX_ret wpX_exit wpX_seq wpX_block wpX_cond wpX_region wpX_draw wpX_loop List.take_succ_cons List.take_zero List.drop_succ_cons List.drop_zero Int.zero_add Int.add_zero aNil

theorem permV {h : AH} {v : Value} {zs : List Int} {n : Int} (hv : SlOf h v (zs.map (.int .i64))) (hb : zs.length ≤ 17592186043904) :
    ACall Tryz.prog 43 [v, .int .i64 n] h (fun r h' => r = .bool (decide (IsPerm zs ∧ (zs.length : Int) = n)) ∧ h' = h) :=
  ACall.viewed rfl (ACall.mono (fun _ _ q => q.1) (permutation hv.view hb))

def hasNil (outs : List (List Bool)) : Bool := outs.any fun l => decide ((l.length : Int) = 0)
noncomputable def obsE (ord : List Int) (outs : List (List Bool)) : Int :=
  if ¬ IsPerm ord then 1 else if ¬ (outs.length : Int) = 2 * ord.length + 1 ∨ hasNil outs = true then 12 else 0
def lastB (l : List Bool) : Bool := l.getD (l.length - 1) false
def bitsO (ord : List Int) (outs : List (List Bool)) : List Bool := (outs.drop (ord.length + 1)).map lastB

def ObsPost (ord : List Int) (outs : List (List Bool)) (h : AH) (r : Value) (h' : AH) : Prop :=
  Gr h h' ∧ ((obsE ord outs ≠ 0 ∧ r = .tuple #[.slice none 0 0, .int .i64 (obsE ord outs)]) ∨
    (obsE ord outs = 0 ∧ ∃ u out, r = .tuple #[u, .int .i64 0] ∧ IsUnload ord (bitsO ord outs) out ∧ SlOf h' u (out.map .bool)))

theorem hasNil_at {outs : List (List Bool)} (h : hasNil outs = false) {i : Nat} (hi : i < outs.length) : 0 < (outs.getD i []).length := by
  unfold hasNil at h
  rw [List.any_eq_false] at h
  have := h _ (getD_mem hi [])
  simp at this
  exact List.length_pos_iff.2 this

theorem obs_end {ord : List Int} {outs : List (List Bool)} {h h1 : AH} {r : Value} {h2 : AH} (hE : obsE ord outs = 0) (hp : IsPerm ord) (hl : (outs.length : Int) = 2 * ord.length + 1) (g : Gr h h1) (q : LoadOwn IsUnload ord (bitsO ord outs) h1 r h2) :
    ObsPost ord outs h r h2 := by
  obtain ⟨g2, hq⟩ := q
  have hbl : (bitsO ord outs).length = ord.length := by unfold bitsO; rw [List.length_map, List.length_drop]; omega
  rcases hq with ⟨hc, _⟩ | ⟨_, A, out, rfl, hu, hol, _, hrow⟩
  · exact absurd (by unfold chainE; rw [if_pos hp, if_pos hbl]) hc
  · exact ⟨g.trans g2, .inr ⟨hE, _, out, rfl, hu, SlOf.lit hrow rfl (by simp [hol])⟩⟩

theorem bits_take {ord : List Int} {outs : List (List Bool)} {i : Nat} (hi : i + (ord.length + 1) < outs.length) : (bitsO ord outs).take (i + 1) = (bitsO ord outs).take i ++ [lastB (outs.getD (ord.length + 1 + i) [])] := by
  have hl : i < (bitsO ord outs).length := by unfold bitsO; rw [List.length_map, List.length_drop]; omega
  rw [take_succ_getD hl false]
  congr 2
  unfold bitsO
  have hd : ord.length + 1 + i < outs.length := by omega
  simp [List.getD_eq_getElem?_getD, List.getElem?_map, List.getElem?_drop, List.getElem?_eq_getElem hd]

theorem observeN {h : AH} {v ov : Value} {ord : List Int} {outs : List (List Bool)} (hv : SlOf h v (ord.map (.int .i64))) (ho : RowOf bsL h ov outs) (hb : ord.length ≤ 4294967296) (hol : outs.length ≤ 4294967296) (hbl : ∀ l ∈ outs, l.length ≤ 4611686018427387904) :
    ACall Tryz.prog 17 [v, ov] h (ObsPost ord outs h) := by
  refine ACall.wf ⟨_, Tryz.func17, rfl, by kernel_rfl⟩ fun hwf => ?_
  refine ACall.of_wp 52 [.tmp 4, .tmp 5] Tryz.func17 rfl (by kernel_rfl) rfl rfl fun a hn hd ha => ?_
  simp (disch := first | omega | decide | (simp only [List.length_cons, List.length_nil] <;> omega)) only [push_cast, ↓reduceIte, Nat.reduceLT, Nat.reduceEqDiff, reduceCtorEq, Nat.reduceAdd, if_true, if_false, true_and, and_true, hn, hd, ha, hv.lenA Tryz.underlying25]
  refine ACall.mono ?_ (permV hv (by omega))
  rintro _ _ ⟨rfl, rfl⟩
  rename_i h
  by_cases hp : IsPerm ord
  case neg =>
    have hE : obsE ord outs = 1 := by unfold obsE; rw [if_pos hp]
    simp (disch := first | omega | decide | (simp only [List.length_cons, List.length_nil] <;> omega)) only [push_cast, ↓reduceIte, Nat.reduceLT, Nat.reduceEqDiff, reduceCtorEq, Nat.reduceAdd, if_true, if_false, true_and, and_true, hn, hd, ha, hp, false_and]
    exact ⟨Gr.refl hwf, .inl ⟨by omega, by rw [hE]⟩⟩
  have hw1 : IntKind.i64.wrap (2 * (ord.length : Int)) = 2 * ord.length := wrapI (by omega) (by omega)
  have hw2 : IntKind.i64.wrap (2 * (ord.length : Int) + 1) = 2 * ord.length + 1 := wrapI (by omega) (by omega)
  have hE : obsE ord outs = if ¬ (outs.length : Int) = 2 * ord.length + 1 ∨ hasNil outs = true then 12 else 0 := by unfold obsE; rw [if_neg (by simpa using hp)]
  by_cases e1 : (outs.length : Int) = 2 * ord.length + 1
  case neg =>
    simp (disch := first | omega | decide | (simp only [List.length_cons, List.length_nil] <;> omega)) only [push_cast, ↓reduceIte, Nat.reduceLT, Nat.reduceEqDiff, reduceCtorEq, Nat.reduceAdd, if_true, if_false, true_and, and_true, hn, hd, ha, hp, ho.len Tryz.underlying44, hv.lenA Tryz.underlying25, hw1, hw2, e1]
    rw [if_pos (.inl e1)] at hE
    exact ⟨Gr.refl hwf, .inl ⟨by omega, by rw [hE]⟩⟩
  have e1q : ((outs.length : Int) = 2 * ord.length + 1) = True := eq_true e1
  simp (disch := first | omega | decide | (simp only [List.length_cons, List.length_nil] <;> omega)) only [push_cast, ↓reduceIte, Nat.reduceLT, Nat.reduceEqDiff, reduceCtorEq, Nat.reduceAdd, if_true, if_false, true_and, and_true, hn, hd, ha, hp, ho.len Tryz.underlying44, hv.lenA Tryz.underlying25, hw1, hw2, e1q]
  refine ACall.mono ?_ (containsB (p := fun l => decide ((l.length : Int) = 0)) ho (fun w bs hw => by rw [callR_func]; exact emptyQ hw) (by omega))
  rintro _ _ ⟨rfl, rfl⟩
  rename_i h
  have hany : (outs.any fun l => decide ((l.length : Int) = 0)) = hasNil outs := rfl
  rw [hany]
  cases e2 : hasNil outs with
  | true =>
    simp (disch := first | omega | decide | (simp only [List.length_cons, List.length_nil] <;> omega)) only [push_cast, ↓reduceIte, Nat.reduceLT, Nat.reduceEqDiff, reduceCtorEq, Nat.reduceAdd, if_true, if_false, true_and, and_true, hn, hd, ha]
    rw [if_pos (.inr e2)] at hE
    exact ⟨Gr.refl hwf, .inl ⟨by omega, by rw [hE]⟩⟩
  | false =>
  rw [if_neg (by simp [e1, e2])] at hE
  obtain ⟨v', hsl, hr'⟩ := rowPostB (k := .i64) (n := ord.length + 1) ho (by omega)
  have hcast : ((ord.length + 1 : Nat) : Int) = ord.length + 1 := by simp
  rw [hcast] at hsl
  have hw3 : IntKind.i64.wrap ((ord.length : Int) + 1) = ord.length + 1 := wrapI (by omega) (by omega)
  have hdl : (outs.drop (ord.length + 1)).length = ord.length := by rw [List.length_drop]; omega
  simp (disch := first | omega | decide | (simp only [List.length_cons, List.length_nil] <;> omega)) only [push_cast, ↓reduceIte, Nat.reduceLT, Nat.reduceEqDiff, reduceCtorEq, Nat.reduceAdd, if_true, if_false, true_and, and_true, hn, hd, ha, hv.lenA Tryz.underlying25, hw3, hsl, hr'.len Tryz.underlying44, hdl]
  refine AW.mono (Q := fun ex a' h' => ex = .exit 1 ∧ a'.n = 52 ∧ a'.df = [] ∧ a'.tm 0 = v ∧ Gr h h' ∧ FrSl 4 h h' (a'.tm 6) ((bitsO ord outs).map .bool)) ?_ ?_
  case refine_2 =>
    refine AW.loopN 33 [6, 8] (fun m a' h' => Gr h h' ∧ ∃ i : Nat, a'.tm 33 = .int .i64 i ∧ i + m = ord.length ∧ FrSl 4 h h' (a'.tm 6) (((bitsO ord outs).take i).map .bool)) ord.length ?_ ?_
    · exact ⟨Gr.refl hwf, 0, by simp (disch := first | omega | decide | (simp only [List.length_cons, List.length_nil] <;> omega)) only [push_cast, ↓reduceIte, Nat.reduceLT, Nat.reduceEqDiff, reduceCtorEq, Nat.reduceAdd, if_true, if_false, true_and, and_true], by omega, by simp (disch := first | omega | decide | (simp only [List.length_cons, List.length_nil] <;> omega)) only [push_cast, ↓reduceIte, Nat.reduceLT, Nat.reduceEqDiff, reduceCtorEq, Nat.reduceAdd, if_true, if_false, true_and, and_true]; exact FrSl.nil _ _ _⟩
    rintro a1 m a' h' hk kn kd kt ⟨g, i, h33, him, F⟩
    simp (disch := first | omega | decide | (simp only [List.length_cons, List.length_nil] <;> omega)) only [push_cast, ↓reduceIte, Nat.reduceLT, Nat.reduceEqDiff, reduceCtorEq, Nat.reduceAdd, if_true, if_false, true_and, and_true, kn, kd, kt, hn, hd, ha, h33]
    refine condV_of (fun hlt => ?_) (fun hge => ?_)
    · have hi : i < ord.length := by have := hlt; simp at this; omega
      obtain ⟨w, hw, f1, f2⟩ := rowAtB (hr'.sub g.sub) (i := i) (by omega)
      have hge0 : (outs.drop (ord.length + 1)).getD i [] = outs.getD (ord.length + 1 + i) [] := by simp [List.getD_eq_getElem?_getD, List.getElem?_drop]
      rw [hge0] at hw
      have hpos := hasNil_at e2 (i := ord.length + 1 + i) (by omega)
      have hbnd := hbl _ (getD_mem (show ord.length + 1 + i < outs.length by omega) [])
      have hbt := bits_take (ord := ord) (outs := outs) (i := i) (by omega)
      generalize outs.getD (ord.length + 1 + i) [] = l at *
      obtain ⟨k, hkl⟩ : ∃ k : Nat, l.length = k + 1 := ⟨l.length - 1, by omega⟩
      have hll : lastB l = l.getD k false := by unfold lastB; rw [hkl]; simp
      have hwl : IntKind.i64.wrap ((l.length : Int) - 1) = k := by rw [hkl, Int.natCast_add, Int.natCast_one, Int.add_sub_cancel]; exact wrapI (by omega) (by omega)
      have hidx := hw.idxB sl23 .i64 k (by omega) (by omega)
      have hld := hw.ldB sl23 k (by omega)
      rw [Int.toNat_natCast] at hidx
      have happ := app1 t23 g F (by simp; omega) (by simp; omega) (.bool (lastB l))
      rw [hll] at happ hbt
      simp (disch := first | omega | decide | (simp only [List.length_cons, List.length_nil] <;> omega)) only [push_cast, ↓reduceIte, Nat.reduceLT, Nat.reduceEqDiff, reduceCtorEq, Nat.reduceAdd, if_true, if_false, true_and, and_true, kn, kd, kt, hn, hd, ha, h33, f1, f2, hw.lenA Tryz.underlying43, hwl, hidx, hld, fun b => aBuild1 t23 h' (x := .bool b) rfl rfl, happ, wrapI]
      refine ⟨m - 1, by omega, (by simp (disch := decide) only [Kp_put, put_none, hk]), app1_gr hwf g F, i + 1, by simp (disch := first | omega | decide | (simp only [List.length_cons, List.length_nil] <;> omega)) only [push_cast, ↓reduceIte, Nat.reduceLT, Nat.reduceEqDiff, reduceCtorEq, Nat.reduceAdd, if_true, if_false, true_and, and_true], by omega, ?_⟩
      simp (disch := first | omega | decide | (simp only [List.length_cons, List.length_nil] <;> omega)) only [push_cast, ↓reduceIte, Nat.reduceLT, Nat.reduceEqDiff, reduceCtorEq, Nat.reduceAdd, if_true, if_false, true_and, and_true]
      rw [hbt, List.map_append]
      have := app1_fr (e := 4) (v := a'.tm 6) (x := .bool (l.getD k false)) (vs := ((bitsO ord outs).take i).map .bool) g
      simpa using this
    · have hi : i = ord.length := by have := hge; simp at this; omega
      simp (disch := first | omega | decide | (simp only [List.length_cons, List.length_nil] <;> omega)) only [push_cast, ↓reduceIte, Nat.reduceLT, Nat.reduceEqDiff, reduceCtorEq, Nat.reduceAdd, if_true, if_false, true_and, and_true, kn, kd, kt, hn, hd, ha, h33]
      have hbl2 : (bitsO ord outs).length = ord.length := by unfold bitsO; rw [List.length_map]; exact hdl
      rw [List.take_of_length_le (by omega)] at F
      exact ⟨g, F⟩
  have t0 := ha 0
  simp only [List.getD_cons_zero] at t0
  clear ha hn hd a t0
  rintro _ a h2 ⟨rfl, hn, hd, t0, g, F⟩
  simp (disch := first | omega | decide | (simp only [List.length_cons, List.length_nil] <;> omega)) only [push_cast, ↓reduceIte, Nat.reduceLT, Nat.reduceEqDiff, reduceCtorEq, Nat.reduceAdd, if_true, if_false, true_and, and_true, hn, hd, t0]
  refine ACall.mono ?_ (unloadO (hv.sub g.sub) F.sl (by omega))
  intro r h3 q
  obtain ⟨gg, hq⟩ := obs_end hE hp e1 g q
  rcases hq with ⟨hc, _⟩ | ⟨_, u, out, rfl, hu, hs⟩
  · exact absurd hE hc
  simp (disch := first | omega | decide | (simp only [List.length_cons, List.length_nil] <;> omega)) only [push_cast, ↓reduceIte, Nat.reduceLT, Nat.reduceEqDiff, reduceCtorEq, Nat.reduceAdd, if_true, if_false, true_and, and_true, hn, hd, t0]
  exact ⟨gg, .inr ⟨hE, u, out, rfl, hu, hs⟩⟩

end Go.Ab.S1

namespace Go.Ab.S1
open Go.Proofs

def ch (ord : List Int) (ys : List Bool) (k : Nat) : Bool := ys.getD (ord.getD k 0).toNat false

theorem prevE_succ (ys : List Bool) (ord : List Int) (si : Bool) (k : Nat) : prevE ys ord si (k + 1) = ch ord ys k := by simp [prevE, ch]
theorem prevE_zero (ys : List Bool) (ord : List Int) (si : Bool) : prevE ys ord si 0 = si := by simp [prevE]

theorem lastB_snoc (l : List Bool) (b : Bool) : lastB (l ++ [b]) = b := by simp [lastB, List.getD_eq_getElem?_getD]

section
variable {n : Net} {ord : List Int}

theorem ordAt (o : InsOK n ord) {k : Nat} (hk : k < ord.length) : ∃ i : Nat, i < n.flops.length ∧ ord.getD k 0 = (i : Int) ∧ ord[k]? = some (i : Int) := by
  have hz : ord[k]? = some (ord.getD k 0) := by simp [List.getD_eq_getElem?_getD, List.getElem?_eq_getElem hk]
  obtain ⟨i1, hi1, ei⟩ := o.perm.range (List.mem_of_getElem? hz)
  have := o.len
  exact ⟨i1, by omega, ei, by rw [hz, ei]⟩

theorem ch_ext (o : InsOK n ord) {a b : List Bool} (ha : a.length = n.flops.length) (hb : b.length = n.flops.length) (h : ∀ k, k < ord.length → ch ord a k = ch ord b k) : a = b := by
  apply List.ext_getElem?
  intro j
  have hlen := o.len
  by_cases hj : j < n.flops.length
  · obtain ⟨k, hk⟩ := o.perm.onto (show j < ord.length by omega)
    have hkl := (List.getElem?_eq_some_iff.1 hk).1
    have := h k hkl
    unfold ch at this
    rw [List.getD_eq_getElem?_getD (l := ord), hk, Option.getD_some, Int.toNat_natCast] at this
    rw [List.getElem?_eq_getElem (by omega), List.getElem?_eq_getElem (by omega)]
    simpa [List.getD_eq_getElem?_getD, List.getElem?_eq_getElem (show j < a.length by omega), List.getElem?_eq_getElem (show j < b.length by omega)] using this
  · rw [List.getElem?_eq_none (by omega), List.getElem?_eq_none (by omega)]

theorem stepT (o : InsOK n ord) {inp ys W : List Bool} {en si : Bool} (hx : (inp.length : Int) = n.inputs) (hy : ys.length = n.flops.length) (hW : IsVals (insN n ord) (inp ++ [en, si]) ys W) :
    ∃ V, IsVals n inp ys V ∧ outsV (insN n ord) W = outsV n V ++ [prevE ys ord si ord.length] ∧ (nextV (insN n ord) W).length = n.flops.length ∧
      (en = true → ∀ k, k < ord.length → ch ord (nextV (insN n ord) W) k = prevE ys ord si k) ∧ (en = false → nextV (insN n ord) W = nextV n V) := by
  have s := ShapeOK.of (netE_zero.1 o.net).1
  obtain ⟨O, t, hO⟩ := (netE_zero.1 o.net).2
  have hV := valsE_is s t hO hx hy
  generalize valsE n O inp ys = V at hV
  obtain ⟨s1, s2, s3⟩ := scanVals o hx hy hV hW
  have hmf : (insN n ord).flops.length = n.flops.length := o.k.fl
  refine ⟨V, hV, ?_, by unfold nextV; rw [List.length_map, hmf], fun he k hk => ?_, fun he => ?_⟩
  · unfold outsV
    rw [scan_outs o s1, s3]
  · obtain ⟨i1, hi1, ei, hz⟩ := ordAt o hk
    have := s2 k hk
    rw [if_pos he] at this
    unfold ch nextV
    have hlt : (ord.getD k 0).toNat < (insN n ord).flops.length := by rw [hmf, ei]; omega
    rw [List.getD_eq_getElem?_getD (l := (insN n ord).flops), List.getElem?_eq_getElem hlt, Option.getD_some] at this
    rw [List.getD_eq_getElem?_getD, List.getElem?_map, List.getElem?_eq_getElem hlt]; exact this
  · unfold nextV
    refine scan_next o (F := fun f => ofE W f.next) (G := fun f => ofE V f.next) (fun k hk => ?_)
    have := s2 k hk
    rw [if_neg (by simp [he])] at this
    exact this

theorem shiftT (o : InsOK n ord) {inp : List Bool} (hx : (inp.length : Int) = n.inputs) : ∀ (bs ys : List Bool) (rest os : List (List Bool)), ys.length = n.flops.length → Runs (insN n ord) (bs.map (fun b => inp ++ [true, b]) ++ rest) ys os →
    ∃ pre os' ys', os = pre ++ os' ∧ pre.length = bs.length ∧ ys'.length = n.flops.length ∧ Runs (insN n ord) rest ys' os' ∧ (∀ k, k < ord.length → ch ord ys' k = if k < bs.length then bs.getD (bs.length - 1 - k) false else ch ord ys (k - bs.length)) ∧
      (∀ j, j < bs.length → j < ord.length → lastB (pre.getD j []) = ch ord ys (ord.length - 1 - j)) ∧ ∀ l ∈ pre, l.length = n.outs.length + 1 := by
  intro bs
  induction bs with
  | nil => intro ys rest os hy hR; exact ⟨[], os, ys, rfl, rfl, hy, hR, fun k hk => by simp, fun j hj => by simp at hj, fun l hl => (nomatch hl)⟩
  | cons b bs ih =>
    intro ys rest os hy hR
    obtain ⟨W, os1, hW, rfl, hR1⟩ := hR
    obtain ⟨V, hV, ho, hnl, hsh, _⟩ := stepT o hx hy hW
    obtain ⟨pre, os', ys', rfl, hpl, hyl, hR', hch, hla, hne⟩ := ih _ rest os1 hnl hR1
    refine ⟨outsV (insN n ord) W :: pre, os', ys', rfl, by simp [hpl], hyl, hR', fun k hk => ?_, fun j hj hjF => ?_, fun l hl => ?_⟩
    · rw [hch k hk]
      simp only [List.length_cons]
      by_cases h1 : k < bs.length
      · rw [if_pos h1, if_pos (by omega)]
        have : bs.length + 1 - 1 - k = (bs.length - 1 - k) + 1 := by omega
        rw [this, List.getD_cons_succ]
      · rw [if_neg h1, hsh rfl _ (by omega)]
        by_cases h2 : k = bs.length
        · rw [if_pos (by omega)]
          have e1 : k - bs.length = 0 := by omega
          have e2 : bs.length + 1 - 1 - k = 0 := by omega
          rw [e1, e2, prevE_zero, List.getD_cons_zero]
        · rw [if_neg (by omega)]
          have e1 : k - bs.length = (k - (bs.length + 1)) + 1 := by omega
          rw [e1, prevE_succ]
    · cases j with
      | zero =>
        rw [List.getD_cons_zero, ho, lastB_snoc]
        have : ord.length = (ord.length - 1 - 0) + 1 := by omega
        conv => lhs; rw [this]
        rw [prevE_succ]
      | succ j =>
        rw [List.getD_cons_succ, hla j (by simp at hj; omega) (by omega), hsh rfl _ (by omega)]
        have : ord.length - 1 - j = (ord.length - 1 - (j + 1)) + 1 := by omega
        rw [this, prevE_succ]
    · rcases List.mem_cons.1 hl with rfl | hl
      · rw [ho]; simp [outsV]
      · exact hne l hl

theorem testsT (o : InsOK n ord) {xs ys y0 out : List Bool} {os : List (List Bool)} {ni : Nat} (hni : n.inputs = ni) (hx : (xs.length : Int) = n.inputs) (hy : ys.length = n.flops.length) (h0 : y0.length = n.flops.length) (hl : IsLoad ord ys out) (hR : Runs (insN n ord) (patL ni xs out) y0 os) :
    ∃ V p, IsVals n xs ys V ∧ os.length = 2 * ord.length + 1 ∧ os.getD ord.length [] = outsV n V ++ [p] ∧ hasNil os = false ∧ IsUnload ord (bitsO ord os) (nextV n V) ∧ ∀ l ∈ os, l.length = n.outs.length + 1 := by
  have hlen := o.len
  have hid : ((List.replicate ni false).length : Int) = n.inputs := by simp [hni]
  have e1 : patL ni xs out = out.map (fun b => List.replicate ni false ++ [true, b]) ++ ((xs ++ [false, false]) :: ((out.map fun _ => false).map (fun b => List.replicate ni false ++ [true, b]) ++ [])) := by
    unfold patL; rw [List.append_assoc, List.map_map, List.append_nil]; rfl
  rw [e1] at hR
  obtain ⟨pre1, os1, ys1, rfl, hp1, hy1, hR1, hc1, _, hn1⟩ := shiftT o hid out y0 _ os h0 hR
  have hyy : ys1 = ys := by
    refine ch_ext o hy1 hy (fun k hk => ?_)
    obtain ⟨i1, hi1, ei, hz⟩ := ordAt o hk
    rw [hc1 k hk, if_pos (by rw [hl.1]; exact hk), hl.1]
    have := hl.2 k _ hz
    rw [Int.toNat_natCast] at this
    unfold ch
    rw [ei, Int.toNat_natCast, List.getD_eq_getElem?_getD, this, ← List.getD_eq_getElem?_getD]
  subst hyy
  obtain ⟨W, os2, hW, rfl, hR2⟩ := hR1
  obtain ⟨V, hV, ho, hnl, _, hnx⟩ := stepT o hx hy hW
  rw [hnx rfl] at hR2
  obtain ⟨pre3, os3, ys3, rfl, hp3, hy3, hR3, _, hla, hn3⟩ := shiftT o hid _ _ _ os2 (by rw [← hnx rfl]; exact hnl) hR2
  have h3 : os3 = [] := hR3
  subst h3
  rw [List.append_nil]
  have hp1' : pre1.length = ord.length := by rw [hp1, hl.1]
  have hp3' : pre3.length = ord.length := by rw [hp3, List.length_map, hl.1]
  have hbits : bitsO ord (pre1 ++ outsV (insN n ord) W :: pre3) = pre3.map lastB := by
    unfold bitsO
    rw [← hp1', List.drop_append, List.drop_of_length_le (by omega), List.nil_append]
    have : pre1.length + 1 - pre1.length = 1 := by omega
    rw [this]; rfl
  have hall : ∀ l ∈ pre1 ++ outsV (insN n ord) W :: pre3, l.length = n.outs.length + 1 := fun l hm => by
    rcases List.mem_append.1 hm with h | h
    · exact hn1 l h
    · rcases List.mem_cons.1 h with rfl | h
      · rw [ho]; simp [outsV]
      · exact hn3 l h
  refine ⟨V, prevE ys1 ord false ord.length, hV, by simp; omega, ?_, ?_, ?_, hall⟩
  · rw [← ho, List.getD_eq_getElem?_getD, List.getElem?_append_right (by omega), hp1', Nat.sub_self]; rfl
  · unfold hasNil
    rw [List.any_eq_false]
    intro l hm
    have := hall l hm
    simp only [decide_eq_true_eq]
    omega
  · rw [hbits]
    refine ⟨by unfold nextV; rw [List.length_map]; omega, fun k z hz => ?_⟩
    have hk := (List.getElem?_eq_some_iff.1 hz).1
    obtain ⟨i1, hi1, ei, hz'⟩ := ordAt o hk
    rw [hz] at hz'
    cases hz'
    have := hla (ord.length - 1 - k) (by rw [List.length_map, hl.1]; omega) (by omega)
    have e2 : ord.length - 1 - (ord.length - 1 - k) = k := by omega
    rw [e2] at this
    have hlt : ord.length - 1 - k < pre3.length := by omega
    rw [List.getElem?_map, List.getElem?_eq_getElem hlt, Option.map_some]
    rw [List.getD_eq_getElem?_getD, List.getElem?_eq_getElem hlt, Option.getD_some] at this
    rw [this]
    unfold ch
    rw [ei, Int.toNat_natCast]
    have hlt2 : i1 < (nextV n V).length := by unfold nextV; rw [List.length_map]; exact hi1
    rw [List.getD_eq_getElem?_getD, List.getElem?_eq_getElem hlt2]; rfl

end
end Go.Ab.S1

namespace Go.Ab.S1
open Go.Proofs
set_option linter.unusedSimpArgs false
set_option linter.unusedVariables false
set_option maxRecDepth 100000
set_option maxHeartbeats 4000000
attribute [local push_cast] wpA_skip wpA_ret wpA_exit wpA_seq wpA_block wpA_cond2 andK_true wpA_region wpA_draw wpA_loop thenQ_normal thenQ_ret thenQ_exit blockQ_normal blockQ_ret blockQ_exit condV_true condV_false opsM_nil opsM_cons2 okM_true wantM_true wantM_false stepM seqM_cons2 seqM_nil2 okS_true wantS_true wantS_false stepS skipS okB Keeps_nil contK_app List.zip_cons_cons List.zip_nil_left List.zip_nil_right Op.operands Call.operands Array.toList_append List.append_nil List.nil_append List.all_cons List.all_nil cOK plain put_n put_tm put_none put_df ev_tmp ev_const ev_func wanted_none wanted_some callR_func dop ex_some1 aBuiltin aBin intBin aUn Option.map_some Bool.and_true Bool.true_and Bool.and_self List.map_cons List.map_nil List.toList_toArray List.getElem?_toArray List.getElem?_cons_zero List.getElem?_cons_succ Option.getD_some Option.getD_none Bool.false_eq_true eq_self_iff_true decide_true decide_false List.cons_append aExtract resL resV List.getD_cons_zero List.getD_cons_succ List.getD_nil Nat.succ_ne_self g1 g2 yieldedA2 isB_bool isB_undef g3 Option.bind_some Option.bind_none bne_self_eq_false beq_self_eq_true Bool.not_true Bool.not_false Int.toNat_natCast List.length_map List.mem_cons List.not_mem_nil or_false not_false_eq_true decide_not Bool.not_not bodyR_ret2 bodyR_normal2 closeMarks_nil ex_some0 Nat.zero_add Nat.add_zero ieq ine List.map_toArray Option.toArray_none Option.toArray_some oev Keeps_cons Still_eq selL wpX_skip wpX_ret wpX_exit wpX_seq wpX_block wpX_cond wpX_region wpX_draw wpX_loop List.take_succ_cons List.take_zero List.drop_succ_cons List.drop_zero Int.zero_add Int.add_zero aNil

theorem patE_len {n : Net} {ord : List Int} {st inp : List Bool} (h : patE n ord st inp = 0) : 2 * ord.length + 1 ≤ 64 := by
  unfold patE at h
  split at h
  · rename_i e; exact absurd h e
  · split at h
    · cases h
    · split at h
      · cases h
      · omega

theorem infB1 : ∃ i, Tryz.prog.info? 4 = some i ∧ i.size = boolL.sz := ⟨(Tryz.prog.info? 4).get (by kernel_rfl), by kernel_rfl, by kernel_rfl⟩

theorem scanTests (aw : ∀ h, ACall Tryz.prog 9 [] h (fun v h' => v = .bool true ∧ h' = h)) {h : AH} {n : Net} {cv fv iv ov v : Value} {ord : List Int} {c1 c2 : Int} (r : NetR h n cv fv iv ov) (ok : NetOK n) (hc : n.cells.length ≤ 4611686018427387904) (hv : SlOf h v (ord.map (.int .i64))) (hb : ord.length ≤ 17592186043904) :
    ACall Tryz.prog 7 [.agg (netC n cv fv iv ov).toArray, v, .int .u64 c1, .int .u64 c2] h (fun r _ => r = .bool true) := by
  refine ACall.wf ⟨_, Tryz.func7, rfl, by kernel_rfl⟩ fun hwf => ?_
  refine ACall.of_wp 129 [.tmp 8] Tryz.func7 rfl (by kernel_rfl) rfl rfl fun a hn hd ha => ?_
  have hbox := boxA 27 h _ r.one
  have hN := NetAt.new (h := h) (n := n) (cv := cv) (fv := fv) (iv := iv) (ov := ov)
  have g1 : Gr h (h.new (.row (netC n cv fv iv ov) 27 true)) := (Gr.refl hwf).new _
  simp (disch := first | omega | decide | (simp only [List.length_cons, List.length_nil] <;> omega)) only [push_cast, ↓reduceIte, Nat.reduceLT, Nat.reduceEqDiff, reduceCtorEq, Nat.reduceAdd, if_true, if_false, true_and, and_true, hn, hd, ha, hbox, hN.l0, hN.l1, hN.l2, hN.l3, hN.l4, hN.la]
  generalize h.new (.row (netC n cv fv iv ov) 27 true) = h1 at hN g1 ⊢
  generalize h.next = B0 at hN ⊢
  have r1 := r.sub g1.sub
  have hv1 := hv.sub g1.sub
  refine ACall.mono ?_ (long29 r1 ok hc)
  rintro _ h2 ⟨⟨b, rfl⟩, g2⟩
  have hN2 := hN.sub g2.sub
  have r2 := r1.sub g2.sub
  have hv2 := hv1.sub g2.sub
  cases b with
  | true =>
    simp (disch := first | omega | decide | (simp only [List.length_cons, List.length_nil] <;> omega)) only [push_cast, ↓reduceIte, Nat.reduceLT, Nat.reduceEqDiff, reduceCtorEq, Nat.reduceAdd, if_true, if_false, true_and, and_true, hn, hd, ha]
    refine ACall.mono ?_ (aw _)
    rintro _ _ ⟨rfl, _⟩
    simp (disch := first | omega | decide | (simp only [List.length_cons, List.length_nil] <;> omega)) only [push_cast, ↓reduceIte, Nat.reduceLT, Nat.reduceEqDiff, reduceCtorEq, Nat.reduceAdd, if_true, if_false, true_and, and_true, hn, hd, ha]
  | false =>
  simp (disch := first | omega | decide | (simp only [List.length_cons, List.length_nil] <;> omega)) only [push_cast, ↓reduceIte, Nat.reduceLT, Nat.reduceEqDiff, reduceCtorEq, Nat.reduceAdd, if_true, if_false, true_and, and_true, hn, hd, ha, hN2.l0, hN2.l1, hN2.l2, hN2.l3, hN2.l4, hN2.la]
  refine ACall.mono ?_ (check29 r2 ok)
  rintro _ h2 ⟨rfl, rfl⟩
  by_cases e : netE n = 0
  case neg =>
    simp (disch := first | omega | decide | (simp only [List.length_cons, List.length_nil] <;> omega)) only [push_cast, ↓reduceIte, Nat.reduceLT, Nat.reduceEqDiff, reduceCtorEq, Nat.reduceAdd, if_true, if_false, true_and, and_true, hn, hd, ha, e]
    refine ACall.mono ?_ (aw _)
    rintro _ _ ⟨rfl, _⟩
    simp (disch := first | omega | decide | (simp only [List.length_cons, List.length_nil] <;> omega)) only [push_cast, ↓reduceIte, Nat.reduceLT, Nat.reduceEqDiff, reduceCtorEq, Nat.reduceAdd, if_true, if_false, true_and, and_true, hn, hd, ha]
  simp (disch := first | omega | decide | (simp only [List.length_cons, List.length_nil] <;> omega)) only [push_cast, ↓reduceIte, Nat.reduceLT, Nat.reduceEqDiff, reduceCtorEq, Nat.reduceAdd, if_true, if_false, true_and, and_true, hn, hd, ha, e]
  refine ACall.mono ?_ (aw _)
  rintro _ h2 ⟨rfl, rfl⟩
  have s := ShapeOK.of (netE_zero.1 e).1
  have hfl := s.fl
  have hi0 := s.i0
  have hi1 := s.i1
  have hol := s.ol
  simp (disch := first | omega | decide | (simp only [List.length_cons, List.length_nil] <;> omega)) only [push_cast, ↓reduceIte, Nat.reduceLT, Nat.reduceEqDiff, reduceCtorEq, Nat.reduceAdd, if_true, if_false, true_and, and_true, hn, hd, ha]
  refine AW.drawP (.take 0 [10, 9, 8, 3] (.take 1 [10, 9, 8, 3, 2] (.take 2 [10, 9, 8, 3] (.take 4 [10, 9, 8] (.take 5 [10, 9, 8, 7, 6] (.watch 6 [10, 9, 8, 7] (.watch 7 [10, 9, 8] (.only 3 (.only 8 (.take 9 [10] (.take 10 [] .done))))))))))) [(0, 0), (0, 1), (0, 2), (0, 4), (0, 5), (1, 6), (1, 7), (2, 3), (2, 8), (0, 9), (0, 10)] mixed (by kernel_rfl) (by kernel_rfl) ?_
  simp (disch := first | omega | decide | (simp only [List.length_cons, List.length_nil] <;> omega)) only [push_cast, ↓reduceIte, Nat.reduceLT, Nat.reduceEqDiff, reduceCtorEq, Nat.reduceAdd, if_true, if_false, true_and, and_true, hn, hd, ha, faL foN0, faL foN1, faL foN2, faL foN3, faL foN4, hN2.l0, hN2.l1, hN2.l2, hN2.l3, hN2.l4, hN2.la, r2.f.len Tryz.underlying23]
  refine ACall.mono ?_ (bitsB (x := c1) hi0 hi1)
  rintro xv h3 ⟨g3, xs, hxl, hxs3⟩
  have hN3 := hN2.sub g3.sub
  simp (disch := first | omega | decide | (simp only [List.length_cons, List.length_nil] <;> omega)) only [push_cast, ↓reduceIte, Nat.reduceLT, Nat.reduceEqDiff, reduceCtorEq, Nat.reduceAdd, if_true, if_false, true_and, and_true, hn, hd, ha, faL foN0, faL foN1, faL foN2, faL foN3, faL foN4, hN3.l0, hN3.l1, hN3.l2, hN3.l3, hN3.l4, hN3.la, r2.f.len Tryz.underlying23]
  refine ACall.mono ?_ (bitsB (x := c2) (n := n.flops.length) (by omega) (by omega))
  rintro yv h4 ⟨g4, ys, hyl, hys4⟩
  have hyl' : ys.length = n.flops.length := by omega
  have g24 := g3.trans g4
  have hN4 := hN3.sub g4.sub
  have r4 := r2.sub g24.sub
  have hv4 := hv2.sub g24.sub
  have hxs4 := hxs3.sub g4.sub
  simp (disch := first | omega | decide | (simp only [List.length_cons, List.length_nil] <;> omega)) only [push_cast, ↓reduceIte, Nat.reduceLT, Nat.reduceEqDiff, reduceCtorEq, Nat.reduceAdd, if_true, if_false, true_and, and_true, hn, hd, ha, faL foN0, faL foN1, faL foN2, faL foN3, faL foN4, hN4.l0, hN4.l1, hN4.l2, hN4.l3, hN4.l4, hN4.la, r2.f.len Tryz.underlying23]
  refine ACall.mono ?_ (insertN r4 ok hv4 hb)
  rintro _ h5 ⟨g5, cm, fm, im, om, rfl, r5⟩
  have hstm := fun (hh : AH) cs e hl => stN agN hh cs e (netC (insR n ord) cm fm im om) hl rfl r5.one
  have hM := NetAt.new (h := h5) (n := insR n ord) (cv := cm) (fv := fm) (iv := im) (ov := om)
  have g6 : Gr h5 (h5.new (.row (netC (insR n ord) cm fm im om) 27 true)) := (Gr.refl g5.wf).new _
  simp (disch := first | omega | decide | (simp only [List.length_cons, List.length_nil] <;> omega)) only [push_cast, ↓reduceIte, Nat.reduceLT, Nat.reduceEqDiff, reduceCtorEq, Nat.reduceAdd, if_true, if_false, true_and, and_true, hn, hd, ha, alL zrN, hstm]
  generalize h5.new (.row (netC (insR n ord) cm fm im om) 27 true) = h6 at hM g6 ⊢
  generalize h5.next = BM at hM ⊢
  have g46 := g5.trans g6
  have rm := r5.sub g6.sub
  have rn := r4.sub g46.sub
  have hN6 := hN4.sub g46.sub
  have hv6 := hv4.sub g46.sub
  have hxs6 := hxs4.sub g46.sub
  have hys6 := hys4.sub g46.sub
  simp (disch := first | omega | decide | (simp only [List.length_cons, List.length_nil] <;> omega)) only [push_cast, ↓reduceIte, Nat.reduceLT, Nat.reduceEqDiff, reduceCtorEq, Nat.reduceAdd, if_true, if_false, true_and, and_true, hn, hd, ha, hN6.l0, hN6.l1, hN6.l2, hN6.l3, hN6.l4, hN6.la]
  refine ACall.mono ?_ (patternN rn ok hv6 hys6 hxs6 (by omega))
  intro pr h7 q1
  by_cases e2 : insE n ord = 0
  case neg =>
    rcases q1 with ⟨x, g, rfl⟩ | ⟨x, out, u, hil, rfl, S⟩ <;> simp (disch := first | omega | decide | (simp only [List.length_cons, List.length_nil] <;> omega)) only [push_cast, ↓reduceIte, Nat.reduceLT, Nat.reduceEqDiff, reduceCtorEq, Nat.reduceAdd, if_true, if_false, true_and, and_true, hn, hd, ha, e2]
  rcases q1 with ⟨x, g, rfl⟩ | ⟨x, out, u, hil, rfl, S⟩
  · simp (disch := first | omega | decide | (simp only [List.length_cons, List.length_nil] <;> omega)) only [push_cast, ↓reduceIte, Nat.reduceLT, Nat.reduceEqDiff, reduceCtorEq, Nat.reduceAdd, if_true, if_false, true_and, and_true, hn, hd, ha, e2, x]
  have o := InsOK.of e2
  have hR : insR n ord = insN n ord := by unfold insR; rw [if_pos e2]
  rw [hR] at rm hM
  have okm := insN_ok ok o
  have em := insN_net o
  have hmi : (insN n ord).inputs = n.inputs + 2 := o.k.inputs
  have hmf : (insN n ord).flops.length = n.flops.length := o.k.fl
  have hpl := patE_len x
  have hlen := o.len
  obtain ⟨ni, hni⟩ := Int.eq_ofNat_of_zero_le hi0
  have hnt : n.inputs.toNat = ni := by omega
  rw [hnt] at S
  have hol1 := hil.1
  have htl : (patL ni xs out).length ≤ 64 := by simp [patL]; omega
  have htin : ∀ l ∈ patL ni xs out, (l.length : Int) = (insN n ord).inputs := fun l hl => by
    rw [hmi]
    simp only [patL, List.mem_append, List.mem_map, List.mem_singleton] at hl
    rcases hl with (⟨b, _, rfl⟩ | rfl) | ⟨b, _, rfl⟩ <;> simp [inT] <;> omega
  have g7 := S.gr
  have hM7 := hM.sub g7.sub
  have hN7 := hN6.sub g7.sub
  simp (disch := first | omega | decide | (simp only [List.length_cons, List.length_nil] <;> omega)) only [push_cast, ↓reduceIte, Nat.reduceLT, Nat.reduceEqDiff, reduceCtorEq, Nat.reduceAdd, if_true, if_false, true_and, and_true, hn, hd, ha, e2, x, hM7.l0, hM7.l1, hM7.l2, hM7.l3, hM7.l4, hM7.la]
  refine ACall.mono ?_ (runN (rm.sub g7.sub) okm em (S.row (by omega)) htl htin)
  rintro _ h8 ⟨u2, os, rfl, S2, hRs⟩
  have hsl : (startE (insN n ord)).length = n.flops.length := by rw [startE, if_pos em, List.length_map, hmf]
  obtain ⟨V, p, hV, hosl, hat, hnil, hU, hall⟩ := testsT o hni hxl hyl' hsl hil hRs
  have g68 := g7.trans S2.gr
  have hN8 := hN7.sub S2.gr.sub
  simp (disch := first | omega | decide | (simp only [List.length_cons, List.length_nil] <;> omega)) only [push_cast, ↓reduceIte, Nat.reduceLT, Nat.reduceEqDiff, reduceCtorEq, Nat.reduceAdd, if_true, if_false, true_and, and_true, hn, hd, ha, hN8.l0, hN8.l1, hN8.l2, hN8.l3, hN8.l4, hN8.la]
  refine ACall.mono ?_ (evalT (rn.sub g68.sub) ok e (hxs6.sub g68.sub) (hys6.sub g68.sub))
  rintro _ h9 ⟨g9, o1, o2, rfl, hp⟩
  obtain ⟨V', hV', ⟨BO, hO1⟩, hO2⟩ := hp ⟨hxl, hyl'⟩
  rw [if_pos ⟨hxl, hyl'⟩]
  have hVV : V' = V := IsVals.unique s (netE_zero.1 e).2 (by unfold firstE; omega) hV' hV
  subst hVV
  have hRow := (S2.row (by omega)).sub g9.sub
  obtain ⟨w, hw, f1, f2⟩ := rowAtR Tryz.underlying44 hRow (i := ord.length) (by omega)
  rw [hat] at hw
  have hv9 := (hv6.sub g68.sub).sub g9.sub
  have hw1 : IntKind.i64.wrap (2 * (ord.length : Int)) = 2 * ord.length := wrapI (by omega) (by omega)
  have hw2 : IntKind.i64.wrap (2 * (ord.length : Int) + 1) = 2 * ord.length + 1 := wrapI (by omega) (by omega)
  have hw3 : IntKind.i64.wrap ((n.outs.length : Int) + 1) = n.outs.length + 1 := wrapI (by omega) (by omega)
  have hlo : ((n.outs.map (ofE V')).length : Int) = n.outs.length := by simp
  have hlw : ((outsV n V' ++ [p]).length : Int) = n.outs.length + 1 := by simp [outsV]
  have hlos : (os.length : Int) = 2 * ord.length + 1 := by omega
  simp (disch := first | omega | decide | (simp only [List.length_cons, List.length_nil] <;> omega)) only [push_cast, ↓reduceIte, Nat.reduceLT, Nat.reduceEqDiff, reduceCtorEq, Nat.reduceAdd, if_true, if_false, true_and, and_true, hn, hd, ha, hRow.len Tryz.underlying44, hv9.lenA Tryz.underlying25, hw1, hw2, hlos, f1, f2, hw.len Tryz.underlying43, hO1.sl.lenA Tryz.underlying43, hlo, hlw, hw3]
  refine ACall.mono ?_ (observeN hv9 hRow (by omega) (by omega) (fun l hl => by have := hall l hl; omega))
  rintro _ h10 ⟨g10, q2⟩
  have hobs : obsE ord os = 0 := by unfold obsE; rw [if_neg (by simpa using o.perm), if_neg (by simp [hlos, hnil])]
  rcases q2 with ⟨x2, _⟩ | ⟨_, u3, l3, rfl, hu3, hs3⟩
  · exact absurd hobs x2
  have hl3 := IsUnload.unique o.perm hu3 hU
  subst hl3
  have hRow10 := hRow.sub g10.sub
  obtain ⟨w', hw', f1', f2'⟩ := rowAtR Tryz.underlying44 hRow10 (i := ord.length) (by omega)
  rw [hat] at hw'
  obtain ⟨v', es, hv'⟩ := hw'.pre Tryz.underlying43 infB1 (k := .i64) (n := n.outs.length) (by simp [outsV])
  have hvt := rowBools hv'
  rw [List.take_append_of_le_length (by simp [outsV]), List.take_of_length_le (by simp [outsV])] at hvt
  have hO1s := hO1.sl.sub g10.sub
  simp (disch := first | omega | decide | (simp only [List.length_cons, List.length_nil] <;> omega)) only [push_cast, ↓reduceIte, Nat.reduceLT, Nat.reduceEqDiff, reduceCtorEq, Nat.reduceAdd, if_true, if_false, true_and, and_true, hn, hd, ha, hv9.lenA Tryz.underlying25, f1', f2', hO1.sl.lenA Tryz.underlying43, hlo, es]
  refine ACall.mono ?_ (eqBools hvt hO1s (by simp [outsV]; omega))
  rintro _ _ ⟨rfl, rfl⟩
  simp (disch := first | omega | decide | (simp only [List.length_cons, List.length_nil] <;> omega)) only [push_cast, ↓reduceIte, Nat.reduceLT, Nat.reduceEqDiff, reduceCtorEq, Nat.reduceAdd, if_true, if_false, true_and, and_true, hn, hd, ha, outsV]
  refine ACall.mono ?_ (eqBools hs3 (hO2.sub g10.sub) (by simp [nextV]; omega))
  rintro _ _ ⟨rfl, rfl⟩
  simp (disch := first | omega | decide | (simp only [List.length_cons, List.length_nil] <;> omega)) only [push_cast, ↓reduceIte, Nat.reduceLT, Nat.reduceEqDiff, reduceCtorEq, Nat.reduceAdd, if_true, if_false, true_and, and_true, hn, hd, ha, nextV]

end Go.Ab.S1

namespace Go.Ab.S1
open Go.Proofs

def isTrueV : Value → EH → Bool
  | .bool true, _ => true
  | _, _ => false

def s1pures : List (FuncId × Value) := [(33, .int .i64 0)]

theorem awakeRuns : evCall Tryz.prog (evC ⟨Tryz.prog, s1plans, s1pures⟩ 100000) 9 [] { next := 0, hp := T.full 11 } isTrueV = true := by kernel_rfl

theorem mixedW : Tryz.prog.follows .mixedOrders = true := by kernel_rfl

theorem emptyDen : (EH.den { next := 0, hp := T.full 11 }) = emptyH := by
  simp only [EH.den, emptyH]; congr 1; funext i; exact full_get 11 i

theorem awake (h : AH) : ACall Tryz.prog 9 [] h (fun v h' => v = .bool true ∧ h' = h) := by
  refine ACall.closed rfl rfl ?_ h
  have := evCall_sound (evC_sound (E := ⟨Tryz.prog, s1plans, s1pures⟩) mixedW 100000) 9 [] _ isTrueV awakeRuns
  rw [emptyDen] at this
  refine ACall.mono ?_ this
  rintro v h' ⟨eh, rfl, hk⟩
  unfold isTrueV at hk
  split at hk
  · rfl
  · cases hk
end Go.Ab.S1
