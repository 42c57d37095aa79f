/- The scanned netlist can be put in order; its area and its start: plainly. A law of a netlist and a slice of ints: from the abstract heap to the world. A law of a netlist, a slice of ints, two numbers and a truth: from the abstract heap to the world. Own layer 'Ab': zeros appended to nil; an append of any slice. slices.Grow and Concat for bools; netlist.of. Slices of truths of one's own: what is appended to them. netlabref31.Load and .Unload; scan.Load and .Unload, whose results are one's own. What Load and Unload hand back is one thing. Slices of slices of truths: rows, one's own, copies, equality. -/
import Derived.Test.YtnejoceplinjpaaGreatB12
import Derived.Carry
set_option linter.unusedSimpArgs false
set_option linter.unusedVariables false
namespace Go.Ab.S1
open Go.Proofs

section
variable {n : Net} {ord : List Int}

theorem insN_pinsOld (o : InsOK n ord) {i : Nat} (hi : i < n.insts.length) : pinsOf (insN n ord) i = (pinsOf n i).map (shiftE n) := by
  unfold pinsOf
  rw [insN_split o, List.getD_eq_getElem?_getD, List.getElem?_append_left (by simpa using hi), List.getElem?_map, List.getD_eq_getElem?_getD, List.getElem?_eq_getElem hi]
  rfl

theorem insN_full (o : InsOK n ord) : Full (insN n ord) := by
  have s := ShapeOK.of (netE_zero.1 o.net).1
  obtain ⟨O, t, hO⟩ := (netE_zero.1 o.net).2
  have k := o.k
  have hf := insN_first o
  have hl := insN_len o
  have hall : ∀ i : Nat, i < n.insts.length → (i : Int) ∈ O := fun i hi => nodup_all t.nodup t.range hO hi
  refine ⟨O ++ (List.range n.flops.length).map (fun (j : Nat) => ((n.insts.length + j : Nat) : Int)), ⟨?_, fun x hx => ?_, fun j x hj p hp hF => ?_⟩, by simp [hO, hl]⟩
  · rw [List.nodup_append]
    refine ⟨t.nodup, ?_, fun a ha b hb => ?_⟩
    · exact List.Pairwise.map _ (fun a b hab e => hab (by omega)) (List.nodup_range (n := n.flops.length))
    · obtain ⟨j, _, rfl⟩ := List.mem_map.1 hb
      have := t.range a ha
      omega
  · rw [hl]
    rcases List.mem_append.1 hx with hx | hx
    · have := t.range x hx; omega
    · obtain ⟨j, hj, rfl⟩ := List.mem_map.1 hx
      have := List.mem_range.1 hj
      omega
  · by_cases hjO : j < O.length
    · rw [List.getElem?_append_left hjO] at hj
      rw [List.take_append_of_le_length (by omega)]
      have hxr := t.range x (List.mem_of_getElem? hj)
      rw [insN_pinsOld o (by omega)] at hp
      obtain ⟨q, hq, rfl⟩ := List.mem_map.1 hp
      have hqr := s.pinOf (by omega) hq
      have h2 := shiftE_first s hqr
      rw [hf] at hF ⊢
      have hqF := h2.1.1 hF
      have := t.before j x hj q hq hqF
      rw [h2.2 hqF, show q + 2 - (firstE n + 2) = q - firstE n by omega]; exact this
    · rw [List.getElem?_append_right (by omega)] at hj
      rw [List.take_append, List.take_of_length_le (by omega)]
      apply List.mem_append_left
      rw [List.getElem?_map, Option.map_eq_some_iff] at hj
      obtain ⟨y, hy, rfl⟩ := hj
      have hyr : y < n.flops.length := by
        have := List.mem_range.1 (List.mem_of_getElem? hy); exact this
      have hxm : (insN n ord).insts.getD (n.insts.length + y) default ∈ (insN n ord).insts.drop n.insts.length := by
        have hlt : n.insts.length + y < (insN n ord).insts.length := by omega
        refine List.mem_of_getElem? (i := y) ?_
        rw [List.getElem?_drop, List.getD_eq_getElem?_getD, List.getElem?_eq_getElem hlt]; rfl
      obtain ⟨_, _, h3⟩ := k.new _ hxm
      have hpr := h3 p (by rw [Int.toNat_natCast] at hp; exact hp)
      rw [hf] at hF ⊢
      have hF2 : firstE n = n.inputs + n.flops.length := rfl
      have := hall (p - (firstE n + 2)).toNat (by omega)
      rw [Int.toNat_of_nonneg (by omega)] at this
      exact this

theorem insN_net (o : InsOK n ord) : netE (insN n ord) = 0 := netE_zero.2 ⟨insN_shape o, insN_full o⟩

theorem insN_ok (ok : NetOK n) (o : InsOK n ord) : NetOK (insN n ord) := by
  have s := ShapeOK.of (insN_shape o)
  have hc : (insN n ord).cells = n.cells := o.k.cells
  refine ⟨fun c hm => ok.cell c (by rw [← hc]; exact hm), fun x hx => ?_, ?_, ?_, ?_⟩
  · have := s.pins4 hx; omega
  · have := s.fl; omega
  · have := s.il; omega
  · have := s.ol; omega

/-! ### The start -/

theorem insN_start (o : InsOK n ord) : startE (insN n ord) = startE n := by
  unfold startE
  rw [if_pos (insN_net o), if_pos o.net]
  have h1 : (insN n ord).flops.map (fun f => decide (f.init = 1)) = ((insN n ord).flops.map (·.init)).map (fun i => decide (i = 1)) := by rw [List.map_map]; rfl
  have h2 : n.flops.map (fun f => decide (f.init = 1)) = (n.flops.map (·.init)).map (fun i => decide (i = 1)) := by rw [List.map_map]; rfl
  rw [h1, h2]
  exact congrArg _ o.k.init

/-! ### The area -/

def cellArea (n : Net) (x : Inst) : Int := (n.cells.getD x.cell.toNat default).area

theorem checkE_area {c : Cell} (h : checkE c = 0) : 1 ≤ c.area ∧ c.area ≤ 1000000 := by
  unfold checkE at h
  split at h
  · cases h
  · split at h
    · cases h
    · rename_i h2
      simp only [Bool.or_eq_true, decide_eq_true_eq, not_or] at h2
      omega

theorem area_of {n : Net} (s : ShapeOK n) {x : Inst} (hx : x ∈ n.insts) : 1 ≤ cellArea n x ∧ cellArea n x ≤ 1000000 := by
  obtain ⟨c0, c1, _⟩ := s.cell x hx
  exact checkE_area (cellsE_zero s.cells _ (getD_mem (by omega) default))

theorem area_sum (n : Net) : ∀ (l : List Inst) (t : Int), (∀ x ∈ l, 0 ≤ cellArea n x ∧ cellArea n x ≤ 1000000) → 0 ≤ t → t + l.length * 1000000 < 9223372036854775808 → l.foldl (areaStep n) t = t + (l.map (cellArea n)).sum ∧ 0 ≤ (l.map (cellArea n)).sum ∧ (l.map (cellArea n)).sum ≤ l.length * 1000000 := by
  intro l
  induction l with
  | nil => intro t _ _ _; simp
  | cons x xs ih =>
    intro t h h0 h1
    have hx := h x (List.mem_cons_self ..)
    simp only [List.length_cons] at h1
    have hst : areaStep n t x = t + cellArea n x := wrapI (by show -9223372036854775808 ≤ t + cellArea n x; omega) (by show t + cellArea n x < 9223372036854775808; omega)
    obtain ⟨a, b, c⟩ := ih (t + cellArea n x) (fun y hy => h y (List.mem_cons_of_mem _ hy)) (by omega) (by omega)
    rw [List.foldl_cons, hst, a, List.map_cons, List.sum_cons, List.length_cons]
    refine ⟨by omega, by omega, by omega⟩

theorem areaE_sum {n : Net} (s : ShapeOK n) : areaE n = (n.insts.map (cellArea n)).sum ∧ 0 ≤ areaE n ∧ areaE n ≤ n.insts.length * 1000000 := by
  have h := s.il
  obtain ⟨a, b, c⟩ := area_sum n n.insts 0 (fun x hx => by have := area_of s hx; omega) (Int.le_refl _) (by omega)
  have : areaE n = (n.insts.map (cellArea n)).sum := by unfold areaE; rw [a]; omega
  rw [this]
  exact ⟨rfl, b, c⟩

theorem sum_const {α : Type} {f : α → Int} {A : Int} : ∀ {l : List α}, (∀ x ∈ l, f x = A) → (l.map f).sum = l.length * A := by
  intro l
  induction l with
  | nil => intro _; simp
  | cons x xs ih =>
    intro h
    rw [List.map_cons, List.sum_cons, ih (fun y hy => h y (List.mem_cons_of_mem _ hy)), h x (List.mem_cons_self ..), List.length_cons, Int.natCast_add, Int.add_mul]
    omega

def muxArea (n : Net) : Int := (n.cells.getD (pick3 n).1.toNat default).area

theorem insN_area (o : InsOK n ord) : areaE (insN n ord) = areaE n + n.flops.length * muxArea n := by
  have s := ShapeOK.of (netE_zero.1 o.net).1
  have sm := ShapeOK.of (insN_shape o)
  have hc : (insN n ord).cells = n.cells := o.k.cells
  rw [(areaE_sum sm).1, (areaE_sum s).1, insN_split o, List.map_append, List.sum_append, List.map_map]
  have h1 : (cellArea (insN n ord) ∘ instS n) = cellArea n := by
    funext x
    show ((insN n ord).cells.getD x.cell.toNat default).area = _
    rw [hc]; rfl
  rw [h1, sum_const (f := cellArea (insN n ord)) (A := muxArea n) (fun x hx => by
    unfold cellArea muxArea
    rw [hc, (o.k.new x hx).1]), List.length_drop, insN_len o]
  congr 3; omega

theorem muxArea_range (o : InsOK n ord) : 1 ≤ muxArea n ∧ muxArea n ≤ 1000000 := by
  have s := ShapeOK.of (netE_zero.1 o.net).1
  have hp := pick3_ok o.found
  exact checkE_area (cellsE_zero s.cells _ (getD_mem (by omega) default))

theorem insN_mux (o : InsOK n ord) (hf : n.flops.length ≠ 0) : ((insN n ord).insts.getD n.insts.length default).cell = (pick3 n).1 := by
  have hlt : n.insts.length < (insN n ord).insts.length := by rw [insN_len o]; omega
  refine (o.k.new _ (List.mem_of_getElem? (i := 0) ?_)).1
  show ((insN n ord).insts.drop n.insts.length)[0]? = _
  rw [List.getElem?_drop, List.getD_eq_getElem?_getD, Nat.add_zero, List.getElem?_eq_getElem hlt]; rfl
end

end Go.Ab.S1

namespace Go.Ab.S1
open Go.Proofs
open Go.ChangeShapes Go.WideShapes Go.ChangeAt Go.RowKit

/-- A netlist lies in a world. -/
def NetW (W : World) (v : Value) (n : Net) : Prop := ∀ ρ h, HR ρ h W → AllRO h → ∃ ρ' h' cv fv iv ov, GrA W ρ h ρ' h' ∧ VR ρ' (.agg (netC n cv fv iv ov).toArray) v ∧ NetR h' n cv fv iv ov
def IntsW (W : World) (v : Value) (zs : List Int) : Prop := ∀ ρ h, HR ρ h W → AllRO h → ∃ ρ' h' u, GrA W ρ h ρ' h' ∧ VR ρ' u v ∧ SlOf h' u (zs.map (.int .i64))

theorem lawNI {g : FuncId} {W : World} {v1 v2 : Value} {n : Net} {zs : List Int} (h1 : NetW W v1 n) (h2 : IntsW W v2 zs)
    (hc : ∀ h cv fv iv ov u, NetR h n cv fv iv ov → SlOf h u (zs.map (.int .i64)) → ACall Tryz.prog g [.agg (netC n cv fv iv ov).toArray, u] h (fun r _ => r = .bool true)) :
    Calls Tryz.prog g #[v1, v2] W fun e W' => e = .returned (.bool true) ∧ Below W.heap.size W W' := by
  obtain ⟨ρ1, k1, cv, fv, iv, ov, g1, vr1, s1⟩ := h1 _ _ (HR.empty W) (fun A o h => by cases h)
  obtain ⟨ρ2, k2, u2, g2, vr2, s2⟩ := h2 ρ1 k1 g1.hr g1.ro
  have hcall := (hc k2 cv fv iv ov u2 (s1.sub g2.sub) s2).2 ρ2 #[v1, v2] W ((LR.single vr2).cons (vr1.mono g2.le)) g2.hr
  refine hcall.mono ?_
  rintro e W' ⟨ρ', v, v', h', rfl, rfl, hv, _, hf⟩
  have : v' = .bool true := plain_only 9 _ _ rfl hv
  subst this
  refine ⟨rfl, hf.side.os, hf.side.tape, hf.side.output, hf.size, fun b hb => hf.rest b hb ?_⟩
  rintro ⟨A, o, r, ha, hown, _⟩
  rw [g2.ro A o ha] at hown; cases hown

theorem aggWide {P : Program} {r : Reach} {base : Nat} {W : World} {t : TypeId} {fs : Array Field} {v : Value} (ht : P.underlying t = some (.struct fs)) (h : Value.okWide P W r base t v) : ∃ cs, v = .agg cs := by
  unfold Value.okWide at h
  rw [ht] at h
  obtain ⟨cs, e, _⟩ := h
  exact ⟨cs, e⟩

theorem slWide {P : Program} {r : Reach} {base : Nat} {W : World} {t e : TypeId} {v : Value} (ht : P.underlying t = some (.slice e)) (h : Value.okWide P W r base t v) : v.cells.toList = [v] := by
  unfold Value.okWide at h
  rw [ht] at h
  simp only at h
  unfold Cell.okWide at h
  rw [ht] at h
  simp only [Cell.ok, ht] at h
  cases v <;> simp_all [Value.cells]

end Go.Ab.S1

namespace Go.Ab.S1
open Go.Proofs
open Go.ChangeShapes Go.WideShapes Go.ChangeAt Go.RowKit

section
variable {H : Type} {enc : TypeId × Value → H} {P : Program} {w : World} {base : Nat} {spare : Nat → Bool} {held : Bool}

theorem trodAll_five {t0 t1 t2 t3 t4 : TypeId} {args : Array Value} {ds : List (DataW H)} {ps : List MemPlace} (h : DataW.TrodAll enc P w base spare held [t0, t1, t2, t3, t4] args.toList ds ps) :
    ∃ v0 v1 v2 v3 v4 d0 d1 d2 d3 d4 p0 p1 p2 p3 p4, args = #[v0, v1, v2, v3, v4] ∧ ds = [d0, d1, d2, d3, d4] ∧ ps = p0 ++ (p1 ++ (p2 ++ (p3 ++ p4))) ∧ DataW.Trod enc P w base spare held t0 v0 d0 p0 ∧ DataW.Trod enc P w base spare held t1 v1 d1 p1 ∧ DataW.Trod enc P w base spare held t2 v2 d2 p2 ∧ DataW.Trod enc P w base spare held t3 v3 d3 p3 ∧ DataW.Trod enc P w base spare held t4 v4 d4 p4 := by
  obtain ⟨v0, vs, d0, ds1, p0, q0, hargs, rfl, rfl, h0, hr⟩ := trodAll_cons h
  obtain ⟨v1, vs1, d1, ds2, p1, q1, rfl, rfl, rfl, h1, hr⟩ := trodAll_cons hr
  obtain ⟨v2, vs2, d2, ds3, p2, q2, rfl, rfl, rfl, h2, hr⟩ := trodAll_cons hr
  obtain ⟨v3, vs3, d3, ds4, p3, q3, rfl, rfl, rfl, h3, hr⟩ := trodAll_cons hr
  obtain ⟨v4, vs4, d4, ds5, p4, q4, rfl, rfl, rfl, h4, hr⟩ := trodAll_cons hr
  obtain ⟨rfl, rfl, rfl⟩ := trodAll_nil hr
  exact ⟨v0, v1, v2, v3, v4, d0, d1, d2, d3, d4, p0, p1, p2, p3, p4, by cases args; simp_all, rfl, by simp, h0, h1, h2, h3, h4⟩

theorem trodAll_mk5 {t0 t1 t2 t3 t4 : TypeId} {v0 v1 v2 v3 v4 : Value} {d0 d1 d2 d3 d4 : DataW H} {p0 p1 p2 p3 p4 : List MemPlace} (h0 : DataW.Trod enc P w base spare held t0 v0 d0 p0) (h1 : DataW.Trod enc P w base spare held t1 v1 d1 p1) (h2 : DataW.Trod enc P w base spare held t2 v2 d2 p2)
    (h3 : DataW.Trod enc P w base spare held t3 v3 d3 p3) (h4 : DataW.Trod enc P w base spare held t4 v4 d4 p4) : DataW.TrodAll enc P w base spare held [t0, t1, t2, t3, t4] [v0, v1, v2, v3, v4] [d0, d1, d2, d3, d4] (p0 ++ (p1 ++ (p2 ++ (p3 ++ p4)))) :=
  ⟨p0, _, h0, trodAll_mk4 h1 h2 h3 h4, rfl⟩
end

theorem intWide {P : Program} {r : Reach} {base : Nat} {W : World} {t : TypeId} {k : IntKind} {v : Value} (ht : P.underlying t = some (.int k)) (h : Value.okWide P W r base t v) : ∃ n, v = .int k n := by
  unfold Value.okWide at h
  rw [ht] at h
  simp only at h
  unfold Cell.okWide at h
  rw [ht] at h
  simp only [Cell.ok, ht] at h
  cases v <;> simp_all

theorem boolWide {P : Program} {r : Reach} {base : Nat} {W : World} {t : TypeId} {v : Value} (ht : P.underlying t = some .bool) (h : Value.okWide P W r base t v) : ∃ b, v = .bool b := by
  unfold Value.okWide at h
  rw [ht] at h
  simp only at h
  unfold Cell.okWide at h
  rw [ht] at h
  simp only [Cell.ok, ht] at h
  cases v <;> simp_all

theorem lawN5 {g : FuncId} {W : World} {v1 v2 : Value} {n : Net} {zs : List Int} {c1 c2 : Int} {b : Bool} (h1 : NetW W v1 n) (h2 : IntsW W v2 zs)
    (hc : ∀ h cv fv iv ov u, NetR h n cv fv iv ov → SlOf h u (zs.map (.int .i64)) → ACall Tryz.prog g [.agg (netC n cv fv iv ov).toArray, u, .int .u64 c1, .int .u64 c2, .bool b] h (fun r _ => r = .bool true)) :
    Calls Tryz.prog g #[v1, v2, .int .u64 c1, .int .u64 c2, .bool b] W fun e W' => e = .returned (.bool true) ∧ Below W.heap.size W W' := by
  obtain ⟨ρ1, k1, cv, fv, iv, ov, g1, vr1, s1⟩ := h1 _ _ (HR.empty W) (fun A o h => by cases h)
  obtain ⟨ρ2, k2, u2, g2, vr2, s2⟩ := h2 ρ1 k1 g1.hr g1.ro
  have hcall := (hc k2 cv fv iv ov u2 (s1.sub g2.sub) s2).2 ρ2 #[v1, v2, .int .u64 c1, .int .u64 c2, .bool b] W ((LR.single (.bool b)).cons (.int .u64 c2) |>.cons (.int .u64 c1) |>.cons vr2 |>.cons (vr1.mono g2.le)) g2.hr
  refine hcall.mono ?_
  rintro e W' ⟨ρ', v, v', h', rfl, rfl, hv, _, hf⟩
  have : v' = .bool true := plain_only 9 _ _ rfl hv
  subst this
  refine ⟨rfl, hf.side.os, hf.side.tape, hf.side.output, hf.size, fun b hb => hf.rest b hb ?_⟩
  rintro ⟨A, o, r, ha, hown, _⟩
  rw [g2.ro A o ha] at hown; cases hown

end Go.Ab.S1

namespace Go.Ab

section
variable {P : Program}

theorem SemOp.appendZ0 {ops : Array Oper} {o : Oper} {a : AAct} {h : AH} {K : AAct → AH → Prop} {s x : Operand} {T TI e : TypeId} {B : Nat} {z : Value} (hop : o.op = .call { callee := .builtin .append, args := #[s, x], argTypes := #[T, TI] }) (hg : o.guard = none)
    (hs : cOK s = true) (hx : cOK x = true) (hd : dstOK a o.dst) (ht : SlT P T e B z) (hI : P.underlying TI = some (.int .i64)) {k : Nat} (hvs : a.ev s = .slice none 0 0) (hvx : a.ev x = .int .i64 k)
    (hk0 : 0 < k) (hm : k < 4611686018427387904) (hb : (2 * k + 192) * B ≤ 281474976710656)
    (hk : K (a.put o.dst (.slice (some ⟨h.next, 0, none⟩) k (SL + 1))) (h.new (.grow (List.replicate k z) e))) : SemOp P ops o a h K := by
  intro n ρ crd ca w ha hr Q N hN
  have hw : Region.wanted o (yielded ops ca.tmps) = true := by
    obtain ⟨dst, op, type, pos, after, guard⟩ := o
    simp only at hg; subst hg; rfl
  have hnd : ∀ c, o.op ≠ .defer c := fun c e => by rw [hop] at e; cases e
  rw [if_pos hw]
  refine ⟨fun _ _ => trivial, ?_⟩
  have h1 := ha.ev hs
  have h2 := ha.ev hx
  rw [hvs] at h1
  rw [hvx] at h2
  have hse : ca.eval s = .slice none 0 0 := by
    generalize ca.eval s = y at h1
    cases h1; rfl
  have hxe : ca.eval x = .int .i64 k := by
    generalize ca.eval x = y at h2
    cases h2; rfl
  have hold : ∀ w', w'.heap = w.heap → (Builtin.firstCells 1 0 (.slice none 0 0)).run P w' = .ok #[] w' := fun w' _ => rfl
  obtain ⟨newCap, w1, hnc, hncS, ⟨hw1, sd1⟩, hrun⟩ := appendZ_run ht hI w o.type none 0 0 k #[] (by omega) hk0 (by unfold ML; omega) (by simpa using hb) hold
  have hzl := zeroCells_one ht.zc
  have hlr2 : LR ρ (List.replicate k z) (List.replicate k z) := LR.of_refl fun v hv => by
    rw [List.eq_of_mem_replicate hv]
    exact plain_VR ρ 9 z ht.zp
  rw [Nat.zero_add] at hnc hrun
  obtain ⟨ρ', w', hnew, hvr, hr', hf'⟩ := (hr.same hw1).newGrow P (e := e) (need := k) (cap := newCap) (sz := 1) (rest := List.replicate (newCap - k) z) hlr2 (fun v hv => by
    rw [List.eq_of_mem_replicate hv]; exact ht.zo) (by simp) (by simp) hnc hncS (fun v hv => by rw [List.eq_of_mem_replicate hv]; exact ⟨ht.zp, ht.zo⟩)
  have e1 : ((#[] : Array Value) ++ Builtin.zeroCells z.cells k ++ Builtin.zeroCells z.cells (newCap - k)) = (List.replicate k z ++ List.replicate (newCap - k) z).toArray := by
    apply Array.ext'
    simp [hzl]
  rw [e1, hnew] at hrun
  have hrun2 : (execOp ca.eval o).run P w = .ok (.value (.slice (some ⟨w1.heap.size, 0, none⟩) k newCap)) w' := by
    obtain ⟨dst, op, type, pos, after, guard⟩ := o
    simp only at hop; subst hop
    simp only [execOp, resolve, Sem.run_bind, Sem.run_pure, Result.andThen_ok, invoke, builtin, List.map_toArray, List.map_cons, List.map_nil, hse, hxe]
    simp only at hrun
    rw [hrun]; rfl
  rw [Oper.semAt_eq _ _ _ hnd, hrun2, Oper.uponIn_value]
  exact hN _ _ ⟨ρ', _, _, hk, (ha.mono hf'.le).put hd hvr, hr', (Frm.same hw1 sd1).trans hf'⟩

/-- What became of a slice of one's own to which any slice was appended. -/
structure VecGo (e : TypeId) (h : AH) (ob : Option AObj) (A : Nat) (r : Value) (zs : List Value) (h' : AH) : Prop where
  up : ∃ ob' A', Vec e r ob' A' zs ∧ (∀ o, ob' = some o → h'.get A' = some o) ∧ (ob' ≠ none → (A' = A ∧ ob ≠ none) ∨ h.next ≤ A')
  frx : ∀ B o, h.get B = some o → (B = A → ob = none) → h'.get B = some o
  wf : WFH h'
  nx : h.next ≤ h'.next

theorem appendAny {t t2 e : TypeId} {B : Nat} {z : Value} (ht : SlT P t e B z) (ht2 : ∃ e2, P.underlying t2 = some (.slice e2)) {h : AH} (hw : WFH h) {v : Value} {ob : Option AObj} {A : Nat} {zs : List Value} (hv : Vec e v ob A zs) (hg : ∀ o, ob = some o → h.get A = some o)
    {x : Value} {ys : List Value} (hsrc : srcCells 1 x h = some (ys.length, ys)) (hx : ys.all oneC = true) (hb : (2 * (zs.length + ys.length) + 192) * B ≤ 281474976710656) (hm : zs.length + ys.length < 4611686018427387904) :
    ∃ r h', aAppend P #[t, t2] v x h = some (r, h') ∧ VecGo e h ob A r (zs ++ ys) h' := by
  by_cases hne : ys = []
  · subst hne
    obtain ⟨i, hi, h1, hbb, hzz⟩ := ht.info
    have hc : z.cells.size = 1 := by
      have := congrArg List.length ht.zc
      simpa using this
    obtain ⟨e2, ht2⟩ := ht2
    have hs0 : srcCells 1 x h = some (0, []) := hsrc
    refine ⟨v, h, ?_, ⟨ob, A, by simpa using hv, hg, fun hn => .inl ⟨rfl, hn⟩⟩, fun B o hB _ => hB, hw, Nat.le_refl _⟩
    rcases hv with ⟨rfl, rfl, rfl⟩ | ⟨cs, rfl, rfl, hle, htk⟩ | ⟨cs, C, rfl, hCm, hnC, hCl, rfl, htk⟩
    · simp [aAppend, ht.sl, ht2, hi, hzz, h1, hc, isIntT, hs0, ht.zk]
    · have hle2 : zs.length ≤ SL + 1 := by
        simp only [List.length_nil, Nat.add_zero] at hm; unfold SL; omega
      simp [aAppend, ht.sl, ht2, hi, hzz, h1, hc, isIntT, hs0, ht.zk, hle2]
    · simp [aAppend, ht.sl, ht2, hi, hzz, h1, hc, isIntT, hs0, ht.zk, hnC]
  · obtain ⟨r, h', happ, hup⟩ := appendVs ht ht2 hw hv hg hsrc hne hx hb hm
    obtain ⟨A', o', hV, hgA, hA⟩ := hup.up
    exact ⟨r, h', happ, ⟨some o', A', hV, fun o e => by cases e; exact hgA, fun _ => hA⟩, hup.frx, hup.wf, hup.nx⟩

theorem SemOp.mono {ops : Array Oper} {o : Oper} {a : AAct} {h : AH} {K K' : AAct → AH → Prop} (hk : ∀ a h, K a h → K' a h) (hs : SemOp P ops o a h K) : SemOp P ops o a h K' := by
  intro n ρ crd ca w ha hr Q N hN
  exact hs n ρ crd ca w ha hr Q N (fun ca' w' ⟨ρ', a', h', hK, x⟩ => hN ca' w' ⟨ρ', a', h', hk _ _ hK, x⟩)

/-- A region, two of whose operations are shown by what the model does. -/
theorem AW.regionNN {rd : Option Nat} {id : Nat} {ops : Array Oper} {Q : Exit → AAct → AH → Prop} {a : AAct} {h : AH} (i j : Nat) (hi : i < ops.toList.length) (hj : i + 1 + j < ops.toList.length)
    (hx : opsM P ops (fun a h => SemOp P ops (ops.toList.getD i op0) a h (opsM P ops (fun a h => SemOp P ops (ops.toList.getD (i + 1 + j) op0) a h (opsM P ops (Q .normal) (ops.toList.drop (i + 1 + j + 1)))) ((ops.toList.drop (i + 1)).take j))) (ops.toList.take i) a h) :
    AW P rd (.region id ops false) Q a h := by
  intro n ρ crd ca w hrd ha hr
  have e1 : ∀ k, k < ops.toList.length → ops.toList.getD k op0 :: ops.toList.drop (k + 1) = ops.toList.drop k := by
    intro k hk
    rw [List.drop_eq_getElem_cons hk, List.getD_eq_getElem?_getD, List.getElem?_eq_getElem hk]; rfl
  have hl : ops.toList = ops.toList.take i ++ (ops.toList.getD i op0 :: ((ops.toList.drop (i + 1)).take j ++ (ops.toList.getD (i + 1 + j) op0 :: ops.toList.drop (i + 1 + j + 1)))) := by
    have e2 : ops.toList.drop (i + 1 + j) = (ops.toList.drop (i + 1)).drop j := by rw [List.drop_drop]
    rw [e1 _ hj, e2, List.take_append_drop, e1 _ hi, List.take_append_drop]
  have key : ∀ l a h, opsM P ops (Q .normal) l a h → semL P ops (Q .normal) l a h := fun l a h hk => semL_of l a h (opsM_sound _ _ _ hk)
  refine wpIn_region (semL.sound _ ops.toList a h ?_ ?_ ρ ca w ha hr)
  · apply List.ext_getElem?
    intro i
    simp only [List.getElem?_map]
    by_cases hi : i < ops.size
    · rw [List.getElem?_range hi]
      simp [Array.getElem?_eq_getElem hi]
    · rw [List.getElem?_eq_none (by simpa using hi), List.getElem?_eq_none (by simpa using hi)]; rfl
  · rw [hl]
    refine semL_append _ _ _ _ ?_
    refine opsL_mono ?_ _ _ _ (opsM_sound _ _ _ hx)
    intro a h hk
    refine SemOp.mono ?_ hk
    intro a h hk
    refine semL_append _ _ _ _ ?_
    refine opsL_mono ?_ _ _ _ (opsM_sound _ _ _ hk)
    intro a h hk
    exact SemOp.mono (fun a h hk => key _ _ _ hk) hk

/-- A part of nil. -/
theorem sliceNil {t e : TypeId} (ht : Sl1 P t e) (k : IntKind) : aSlice P t (.slice none 0 0) none (some (.int k 0)) = some (.slice none 0 0) := by
  obtain ⟨i, hi, _⟩ := ht.one
  simp [aSlice, ht.sl, hi, bnd]
end
end Go.Ab

namespace Go.Ab.S1
open Go.Proofs
set_option linter.unusedSimpArgs false
set_option linter.unusedVariables false
set_option maxRecDepth 100000
set_option maxHeartbeats 4000000
attribute [local push_cast] wpA_skip wpA_ret wpA_exit wpA_seq wpA_block wpA_cond2 andK_true wpA_region wpA_draw wpA_loop thenQ_normal thenQ_ret thenQ_exit blockQ_normal blockQ_ret blockQ_exit condV_true condV_false opsM_nil opsM_cons2 okM_true wantM_true wantM_false stepM seqM_cons2 seqM_nil2 okS_true wantS_true wantS_false stepS skipS okB Keeps_nil contK_app List.zip_cons_cons List.zip_nil_left List.zip_nil_right Op.operands Call.operands Array.toList_append List.append_nil List.nil_append List.all_cons List.all_nil cOK plain put_n put_tm put_none put_df ev_tmp ev_const ev_func wanted_none wanted_some callR_func dop ex_some1 aBuiltin aBin intBin aUn Option.map_some Bool.and_true Bool.true_and Bool.and_self List.map_cons List.map_nil List.toList_toArray List.getElem?_toArray List.getElem?_cons_zero List.getElem?_cons_succ Option.getD_some Option.getD_none Bool.false_eq_true eq_self_iff_true decide_true decide_false List.cons_append aExtract resL resV List.getD_cons_zero List.getD_cons_succ List.getD_nil Nat.succ_ne_self g1 g2 yieldedA2 isB_bool isB_undef g3 Option.bind_some Option.bind_none bne_self_eq_false beq_self_eq_true Bool.not_true Bool.not_false Int.toNat_natCast List.length_map List.mem_cons List.not_mem_nil or_false not_false_eq_true decide_not Bool.not_not bodyR_ret2 bodyR_normal2 closeMarks_nil ex_some0 Nat.zero_add Nat.add_zero ieq ine List.map_toArray Option.toArray_none Option.toArray_some oev Keeps_cons Still_eq selL wpX_skip wpX_ret wpX_exit wpX_seq wpX_block wpX_cond wpX_region wpX_draw wpX_loop List.take_succ_cons List.take_zero List.drop_succ_cons List.drop_zero Int.zero_add Int.add_zero aNil

/-- A slice of one's own that holds these truths. -/
def BoolsV (h : AH) (v : Value) (ob : Option AObj) (A : Nat) (bs : List Bool) : Prop :=
  _root_.Go.Ab.Vec 4 v ob A (bs.map .bool) ∧ ∀ o, ob = some o → h.get A = some o

theorem BoolsV.sl {h : AH} {v : Value} {ob : Option AObj} {A : Nat} {bs : List Bool} (hv : BoolsV h v ob A bs) : SlOf h v (bs.map .bool) := hv.1.sl hv.2
theorem BoolsV.sub {h h' : AH} {v : Value} {ob : Option AObj} {A : Nat} {bs : List Bool} (hv : BoolsV h v ob A bs) (s : Sub h h') : BoolsV h' v ob A bs := ⟨hv.1, fun o e => s _ _ (hv.2 o e)⟩
theorem BoolsV.one {h : AH} {v : Value} {ob : Option AObj} {A : Nat} {bs : List Bool} (hv : BoolsV h v ob A bs) : oneC v = true ∧ v.cells.toList = [v] := by
  obtain ⟨p, l, c, rfl, _⟩ := hv.sl
  exact ⟨rfl, rfl⟩

theorem growB {h : AH} {n : Nat} (hn0 : n ≤ 4294967296) :
    ACall Tryz.prog 121 [.slice none 0 0, .int .i64 n] h (fun r h' => Gr h h' ∧ ∃ ob A, BoolsV h' r ob A [] ∧ (∀ o, ob = some o → h.next ≤ A)) := by
  refine ACall.wf ⟨_, Tryz.func121, rfl, by kernel_rfl⟩ fun hwf => ?_
  refine ACall.of_wpX [3, 5] 27 [.tmp 4] Tryz.func121 rfl (by kernel_rfl) rfl rfl fun a hn hd ha => ?_
  have h0 : ¬ ((n : Int) < 0) := by omega
  have hw : IntKind.i64.wrap (n : Int) = n := wrapI (by omega) (by omega)
  have hS : 0 < SL := by unfold SL; omega
  simp (disch := first | omega | decide | (simp only [List.length_cons, List.length_nil] <;> omega)) only [push_cast, ↓reduceIte, Nat.reduceLT, Nat.reduceEqDiff, reduceCtorEq, Nat.reduceAdd, if_true, if_false, true_and, and_true, hn, hd, ha, h0]
  refine AW.regionN 2 (by simp) ?_
  simp (disch := first | omega | decide | (simp only [List.length_cons, List.length_nil] <;> omega)) only [push_cast, ↓reduceIte, Nat.reduceLT, Nat.reduceEqDiff, reduceCtorEq, Nat.reduceAdd, if_true, if_false, true_and, and_true, hn, hd, ha]
  refine SemOp.cap (T := 43) (e := 4) (p := none) (l := 0) (c := 0) (x := .tmp 9) rfl rfl rfl (by simp (disch := first | omega | decide | (simp only [List.length_cons, List.length_nil] <;> omega)) only [push_cast, ↓reduceIte, Nat.reduceLT, Nat.reduceEqDiff, reduceCtorEq, Nat.reduceAdd, if_true, if_false, true_and, and_true, dst_some, hn]) Tryz.underlying43 (by simp (disch := first | omega | decide | (simp only [List.length_cons, List.length_nil] <;> omega)) only [push_cast, ↓reduceIte, Nat.reduceLT, Nat.reduceEqDiff, reduceCtorEq, Nat.reduceAdd, if_true, if_false, true_and, and_true, hn, ha]) hS ?_
  simp (disch := first | omega | decide | (simp only [List.length_cons, List.length_nil] <;> omega)) only [push_cast, ↓reduceIte, Nat.reduceLT, Nat.reduceEqDiff, reduceCtorEq, Nat.reduceAdd, if_true, if_false, true_and, and_true, hn, hd, ha, lenS Tryz.underlying43, Int.natCast_zero, Int.ofNat_zero, Int.sub_self, Int.sub_zero, hw, wrapI]
  refine condV_of (fun hp => ?_) (fun hp => ?_)
  · have hp' : 0 < n := by simp at hp; omega
    refine AW.regionNN 2 2 (by simp) (by simp) ?_
    simp (disch := first | omega | decide | (simp only [List.length_cons, List.length_nil] <;> omega)) only [push_cast, ↓reduceIte, Nat.reduceLT, Nat.reduceEqDiff, reduceCtorEq, Nat.reduceAdd, if_true, if_false, true_and, and_true, hn, hd, ha]
    refine SemOp.cap (T := 43) (e := 4) (p := none) (l := 0) (c := 0) (x := .tmp 18) rfl rfl rfl (by simp (disch := first | omega | decide | (simp only [List.length_cons, List.length_nil] <;> omega)) only [push_cast, ↓reduceIte, Nat.reduceLT, Nat.reduceEqDiff, reduceCtorEq, Nat.reduceAdd, if_true, if_false, true_and, and_true, dst_some, hn]) Tryz.underlying43 (by simp (disch := first | omega | decide | (simp only [List.length_cons, List.length_nil] <;> omega)) only [push_cast, ↓reduceIte, Nat.reduceLT, Nat.reduceEqDiff, reduceCtorEq, Nat.reduceAdd, if_true, if_false, true_and, and_true, hn, ha]) hS ?_
    simp (disch := first | omega | decide | (simp only [List.length_cons, List.length_nil] <;> omega)) only [push_cast, ↓reduceIte, Nat.reduceLT, Nat.reduceEqDiff, reduceCtorEq, Nat.reduceAdd, if_true, if_false, true_and, and_true, hn, hd, ha, Int.natCast_zero, Int.ofNat_zero, sliceNil sl23]
    refine SemOp.appendZ0 (T := 43) (TI := 3) (B := 1) (z := .bool false) (k := n) (s := .tmp 20) (x := .tmp 21) rfl rfl rfl rfl (by simp (disch := first | omega | decide | (simp only [List.length_cons, List.length_nil] <;> omega)) only [push_cast, ↓reduceIte, Nat.reduceLT, Nat.reduceEqDiff, reduceCtorEq, Nat.reduceAdd, if_true, if_false, true_and, and_true, dst_some, hn]) t23 undI (by simp (disch := first | omega | decide | (simp only [List.length_cons, List.length_nil] <;> omega)) only [push_cast, ↓reduceIte, Nat.reduceLT, Nat.reduceEqDiff, reduceCtorEq, Nat.reduceAdd, if_true, if_false, true_and, and_true]) (by simp (disch := first | omega | decide | (simp only [List.length_cons, List.length_nil] <;> omega)) only [push_cast, ↓reduceIte, Nat.reduceLT, Nat.reduceEqDiff, reduceCtorEq, Nat.reduceAdd, if_true, if_false, true_and, and_true]) hp' (by omega) (by omega) ?_
    simp (disch := first | omega | decide | (simp only [List.length_cons, List.length_nil] <;> omega)) only [push_cast, ↓reduceIte, Nat.reduceLT, Nat.reduceEqDiff, reduceCtorEq, Nat.reduceAdd, if_true, if_false, true_and, and_true, hn, hd, ha, lenS Tryz.underlying43, Int.natCast_zero, Int.ofNat_zero, sliceHiS sl23]
    exact ⟨(Gr.refl hwf).new _, some (.grow (List.replicate n (.bool false)) 4), h.next, ⟨.inr (.inl ⟨_, rfl, rfl, by simp, by simp⟩), fun o e => by cases e; rw [AH.new_get, if_pos rfl]⟩, fun o e => Nat.le_refl _⟩
  · have hp' : n = 0 := by simp at hp; omega
    simp (disch := first | omega | decide | (simp only [List.length_cons, List.length_nil] <;> omega)) only [push_cast, ↓reduceIte, Nat.reduceLT, Nat.reduceEqDiff, reduceCtorEq, Nat.reduceAdd, if_true, if_false, true_and, and_true, hn, hd, ha]
    exact ⟨Gr.refl hwf, none, 0, ⟨.inl ⟨rfl, rfl, rfl⟩, fun o e => (nomatch e)⟩, fun o e => (nomatch e)⟩

/-! ### slices.Concat -/

theorem t44 : SlT Tryz.prog 44 43 24 (.slice none 0 0) := ⟨Tryz.underlying44, ⟨(Tryz.prog.info? 43).get (by kernel_rfl), by kernel_rfl, by kernel_rfl, by kernel_rfl, by kernel_rfl⟩, ⟨_, Tryz.underlying43, rfl⟩, rfl, rfl, rfl⟩
theorem sl44 : Sl1 Tryz.prog 44 43 := t44.sl1

theorem flat_take {α : Type} {l : List (List α)} {i : Nat} (hi : i < l.length) : (l.take (i + 1)).flatten = (l.take i).flatten ++ l.getD i [] := by
  rw [take_succ_getD hi [], List.flatten_append]; simp

theorem flat_le2 {α : Type} (l : List (List α)) (i : Nat) : (l.take i).flatten.length ≤ l.flatten.length := by
  conv => rhs; rw [← List.take_append_drop i l, List.flatten_append, List.length_append]
  omega

theorem flat_get_le {α : Type} {l : List (List α)} {i : Nat} (hi : i < l.length) : (l.getD i []).length ≤ l.flatten.length := by
  have := flat_le2 l (i + 1)
  rw [flat_take hi, List.length_append] at this; omega

theorem concatB {h : AH} {v : Value} {vs : List Value} {bss : List (List Bool)} (hv : SlOf h v vs) (hl : vs.length = bss.length) (hvs : ∀ i, i < vs.length → SlOf h (vs.getD i undef) ((bss.getD i []).map .bool)) (hb : bss.flatten.length ≤ 4294967296) (hl8 : vs.length ≤ 8) :
    ACall Tryz.prog 97 [v] h (fun r h' => Gr h h' ∧ ∃ ob A, BoolsV h' r ob A bss.flatten ∧ (∀ o, ob = some o → h.next ≤ A)) := by
  refine ACall.wf ⟨_, Tryz.func97, rfl, by kernel_rfl⟩ fun hwf => ?_
  refine ACall.of_wp 36 [.tmp 2] Tryz.func97 rfl (by kernel_rfl) rfl rfl fun a hn hd ha => ?_
  have hlen2 : ∀ hh, aLen Tryz.prog 44 v hh = some (.int .i64 vs.length) := by
    intro hh
    obtain ⟨p, l, c, rfl, rfl, _⟩ := hv
    exact lenS Tryz.underlying44 _ _ _ _
  simp (disch := first | omega | decide | (simp only [List.length_cons, List.length_nil] <;> omega)) only [push_cast, ↓reduceIte, Nat.reduceLT, Nat.reduceEqDiff, reduceCtorEq, Nat.reduceAdd, if_true, if_false, true_and, and_true, hn, hd, ha, hlen2]
  refine AW.mono (Q := fun e a' h' => e = .exit 0 ∧ h' = h ∧ a'.n = 36 ∧ a'.df = [] ∧ a'.tm 0 = v ∧ a'.tm 3 = .int .i64 bss.flatten.length) ?_ ?_
  case refine_2 =>
    refine AW.loopN 11 [3, 5] (fun m a' h' => h' = h ∧ ∃ i : Nat, a'.tm 11 = .int .i64 i ∧ i + m = vs.length ∧ a'.tm 3 = .int .i64 (bss.take i).flatten.length) vs.length ?_ ?_
    · exact ⟨rfl, 0, by simp (disch := first | omega | decide | (simp only [List.length_cons, List.length_nil] <;> omega)) only [push_cast, ↓reduceIte, Nat.reduceLT, Nat.reduceEqDiff, reduceCtorEq, Nat.reduceAdd, if_true, if_false, true_and, and_true], by omega, by simp (disch := first | omega | decide | (simp only [List.length_cons, List.length_nil] <;> omega)) only [push_cast, ↓reduceIte, Nat.reduceLT, Nat.reduceEqDiff, reduceCtorEq, Nat.reduceAdd, if_true, if_false, true_and, and_true, List.flatten_nil, List.length_nil, Int.natCast_zero, Int.ofNat_zero]⟩
    rintro a1 m a' h' hk kn kd kt ⟨rfl, i, h11, him, h3⟩
    simp (disch := first | omega | decide | (simp only [List.length_cons, List.length_nil] <;> omega)) only [push_cast, ↓reduceIte, Nat.reduceLT, Nat.reduceEqDiff, reduceCtorEq, Nat.reduceAdd, if_true, if_false, true_and, and_true, kn, kd, kt, hn, hd, ha, h11, h3]
    refine condV_of (fun hlt => ?_) (fun hge => ?_)
    · have hi : i < vs.length := by have := hlt; simp at this; omega
      have hidx := hv.idx sl44 .i64 i (by omega) (by omega)
      have hld := hv.ld sl44 i (by omega)
      rw [Int.toNat_natCast] at hidx
      have hbi := hvs i hi
      have hft := flat_take (l := bss) (i := i) (by omega)
      have hle := flat_le2 bss (i + 1)
      have hw : IntKind.i64.wrap ((i : Int) + 1) = i + 1 := wrapI (by omega) (by omega)
      have hsum : ((bss.take i).flatten.length : Int) + (bss.getD i []).length = (bss.take (i + 1)).flatten.length := by rw [hft, List.length_append]; omega
      have hws : IntKind.i64.wrap ((bss.take (i + 1)).flatten.length : Int) = (bss.take (i + 1)).flatten.length := wrapI (by omega) (by omega)
      have hneg : ¬ (((bss.take (i + 1)).flatten.length : Int) < 0) := by omega
      generalize vs.getD i undef = x at *
      simp (disch := first | omega | decide | (simp only [List.length_cons, List.length_nil] <;> omega)) only [push_cast, ↓reduceIte, Nat.reduceLT, Nat.reduceEqDiff, reduceCtorEq, Nat.reduceAdd, if_true, if_false, true_and, and_true, kn, kd, kt, hn, hd, ha, h11, h3, hidx, hld, hbi.lenA Tryz.underlying43, hsum, hws, hneg, hw]
      exact ⟨m - 1, by omega, (by simp (disch := decide) only [Kp_put, put_none, hk]), rfl, i + 1, by simp (disch := first | omega | decide | (simp only [List.length_cons, List.length_nil] <;> omega)) only [push_cast, ↓reduceIte, Nat.reduceLT, Nat.reduceEqDiff, reduceCtorEq, Nat.reduceAdd, if_true, if_false, true_and, and_true], by omega, by simp (disch := first | omega | decide | (simp only [List.length_cons, List.length_nil] <;> omega)) only [push_cast, ↓reduceIte, Nat.reduceLT, Nat.reduceEqDiff, reduceCtorEq, Nat.reduceAdd, if_true, if_false, true_and, and_true]⟩
    · have hi : i = bss.length := by have := hge; simp at this; omega
      subst hi
      rw [List.take_length] at h3
      simp (disch := first | omega | decide | (simp only [List.length_cons, List.length_nil] <;> omega)) only [push_cast, ↓reduceIte, Nat.reduceLT, Nat.reduceEqDiff, reduceCtorEq, Nat.reduceAdd, if_true, if_false, true_and, and_true, kn, kd, kt, hn, hd, ha, h11, h3]
  clear ha hn hd a
  rintro _ a h1 ⟨rfl, rfl, hn, hd, h0, h3⟩
  simp (disch := first | omega | decide | (simp only [List.length_cons, List.length_nil] <;> omega)) only [push_cast, ↓reduceIte, Nat.reduceLT, Nat.reduceEqDiff, reduceCtorEq, Nat.reduceAdd, if_true, if_false, true_and, and_true, hn, hd, h0, h3]
  refine ACall.mono ?_ (growB hb)
  rintro r0 h2 ⟨g2, ob0, A0, hr0, hlo0⟩
  simp (disch := first | omega | decide | (simp only [List.length_cons, List.length_nil] <;> omega)) only [push_cast, ↓reduceIte, Nat.reduceLT, Nat.reduceEqDiff, reduceCtorEq, Nat.reduceAdd, if_true, if_false, true_and, and_true, hn, hd, h0, h3, hlen2]
  refine AW.loopN 27 [6, 8] (fun m a' h' => ∃ (i : Nat) (rv : Value) (ob : Option AObj) (A : Nat), a'.tm 27 = .int .i64 i ∧ i + m = vs.length ∧ a'.tm 6 = rv ∧ Gr h1 h' ∧ BoolsV h' rv ob A (bss.take i).flatten ∧ (∀ o, ob = some o → h1.next ≤ A)) vs.length ?_ ?_
  · exact ⟨0, r0, ob0, A0, by simp (disch := first | omega | decide | (simp only [List.length_cons, List.length_nil] <;> omega)) only [push_cast, ↓reduceIte, Nat.reduceLT, Nat.reduceEqDiff, reduceCtorEq, Nat.reduceAdd, if_true, if_false, true_and, and_true], by omega, by simp (disch := first | omega | decide | (simp only [List.length_cons, List.length_nil] <;> omega)) only [push_cast, ↓reduceIte, Nat.reduceLT, Nat.reduceEqDiff, reduceCtorEq, Nat.reduceAdd, if_true, if_false, true_and, and_true], g2, hr0, hlo0⟩
  clear hr0 hlo0 g2
  rintro a1 m a' h' hk kn kd kt ⟨i, rv, ob, A, h27, him, h6, hg, hr, hlo⟩
  simp (disch := first | omega | decide | (simp only [List.length_cons, List.length_nil] <;> omega)) only [push_cast, ↓reduceIte, Nat.reduceLT, Nat.reduceEqDiff, reduceCtorEq, Nat.reduceAdd, if_true, if_false, true_and, and_true, kn, kd, kt, hn, hd, h0, h27, h6]
  refine condV_of (fun hlt => ?_) (fun hge => ?_)
  · have hi : i < vs.length := by have := hlt; simp at this; omega
    have hv' := hv.sub hg.sub
    have hidx := hv'.idx sl44 .i64 i (by omega) (by omega)
    have hld := hv'.ld sl44 i (by omega)
    rw [Int.toNat_natCast] at hidx
    have hbi := ((hvs i hi).sub hg.sub).src
    have hft := flat_take (l := bss) (i := i) (by omega)
    have hle := flat_le2 bss (i + 1)
    have hle2 : (bss.take i).flatten.length + (bss.getD i []).length = (bss.take (i + 1)).flatten.length := by rw [hft, List.length_append]
    have hw : IntKind.i64.wrap ((i : Int) + 1) = i + 1 := wrapI (by omega) (by omega)
    obtain ⟨r', h'', happ, hgo⟩ := appendAny (t := 43) (t2 := 43) t23 ⟨_, Tryz.underlying43⟩ hg.wf hr.1 hr.2 hbi (by simp [oneC]) (by simp only [List.length_map]; omega) (by simp only [List.length_map]; omega)
    obtain ⟨ob', A', hV, hgA, hA⟩ := hgo.up
    simp (disch := first | omega | decide | (simp only [List.length_cons, List.length_nil] <;> omega)) only [push_cast, ↓reduceIte, Nat.reduceLT, Nat.reduceEqDiff, reduceCtorEq, Nat.reduceAdd, if_true, if_false, true_and, and_true, kn, kd, kt, hn, hd, h0, h27, h6, hidx, hld, happ, hw]
    refine ⟨m - 1, by omega, (by simp (disch := decide) only [Kp_put, put_none, hk]), i + 1, r', ob', A', by simp (disch := first | omega | decide | (simp only [List.length_cons, List.length_nil] <;> omega)) only [push_cast, ↓reduceIte, Nat.reduceLT, Nat.reduceEqDiff, reduceCtorEq, Nat.reduceAdd, if_true, if_false, true_and, and_true], by omega, by simp (disch := first | omega | decide | (simp only [List.length_cons, List.length_nil] <;> omega)) only [push_cast, ↓reduceIte, Nat.reduceLT, Nat.reduceEqDiff, reduceCtorEq, Nat.reduceAdd, if_true, if_false, true_and, and_true], ⟨hgo.wf, fun B o hB => hgo.frx B o (hg.sub B o hB) (fun e => ?_), Nat.le_trans hg.nx hgo.nx⟩, ⟨by rw [hft, List.map_append]; exact hV, hgA⟩, fun o e => ?_⟩
    · cases hob : ob with
      | none => rfl
      | some o2 =>
        have h8 := hlo o2 hob
        have := AH.get_lt hwf hB
        omega
    · rcases hA (by rw [e]; simp) with ⟨rfl, hne⟩ | hA
      · cases hob : ob with
        | none => exact absurd hob hne
        | some o2 => exact hlo o2 hob
      · exact Nat.le_trans hg.nx hA
  · have hi : i = bss.length := by have := hge; simp at this; omega
    subst hi
    rw [List.take_length] at hr
    simp (disch := first | omega | decide | (simp only [List.length_cons, List.length_nil] <;> omega)) only [push_cast, ↓reduceIte, Nat.reduceLT, Nat.reduceEqDiff, reduceCtorEq, Nat.reduceAdd, if_true, if_false, true_and, and_true, kn, kd, kt, hn, hd, h0, h27, h6]
    exact ⟨hg, ob, A, hr, hlo⟩

/-! ### netlist.of -/

def ofE (V : List Bool) (x : Int) : Bool := decide (x = -2) || (decide (0 ≤ x) && V.getD x.toNat false)

theorem ofB {h : AH} {v : Value} {V : List Bool} {x : Int} (hv : SlOf h v (V.map .bool)) (hx : x < V.length) : ACall Tryz.prog 74 [v, .int .i64 x] h (fun r h' => r = .bool (ofE V x) ∧ h' = h) := by
  refine ACall.of_wp 17 [.tmp 4] Tryz.func74 rfl (by kernel_rfl) rfl rfl fun a hn hd ha => ?_
  by_cases e1 : x = -2
  · simp (disch := first | omega | decide | (simp only [List.length_cons, List.length_nil] <;> omega)) only [push_cast, ↓reduceIte, Nat.reduceLT, Nat.reduceEqDiff, reduceCtorEq, Nat.reduceAdd, if_true, if_false, true_and, and_true, hn, hd, ha, e1, ofE, Bool.true_or]
  by_cases e2 : 0 ≤ x
  · have hidx := hv.idxB sl23 .i64 x e2 hx
    have hld := hv.ldB sl23 x.toNat (by omega)
    simp (disch := first | omega | decide | (simp only [List.length_cons, List.length_nil] <;> omega)) only [push_cast, ↓reduceIte, Nat.reduceLT, Nat.reduceEqDiff, reduceCtorEq, Nat.reduceAdd, if_true, if_false, true_and, and_true, decide_eq_true, decide_eq_false, hn, hd, ha, ge_iff_le, e1, e2, ofE, Bool.false_or, hidx, hld]
  · simp (disch := first | omega | decide | (simp only [List.length_cons, List.length_nil] <;> omega)) only [push_cast, ↓reduceIte, Nat.reduceLT, Nat.reduceEqDiff, reduceCtorEq, Nat.reduceAdd, if_true, if_false, true_and, and_true, decide_eq_true, decide_eq_false, hn, hd, ha, ge_iff_le, e1, e2, ofE, Bool.false_or, Bool.false_and]

end Go.Ab.S1

namespace Go.Ab.S1
open Go.Proofs
set_option linter.unusedSimpArgs false
set_option linter.unusedVariables false
set_option maxRecDepth 100000
set_option maxHeartbeats 4000000
attribute [local push_cast] wpA_skip wpA_ret wpA_exit wpA_seq wpA_block wpA_cond2 andK_true wpA_region wpA_draw wpA_loop thenQ_normal thenQ_ret thenQ_exit blockQ_normal blockQ_ret blockQ_exit condV_true condV_false opsM_nil opsM_cons2 okM_true wantM_true wantM_false stepM seqM_cons2 seqM_nil2 okS_true wantS_true wantS_false stepS skipS okB Keeps_nil contK_app List.zip_cons_cons List.zip_nil_left List.zip_nil_right Op.operands Call.operands Array.toList_append List.append_nil List.nil_append List.all_cons List.all_nil cOK plain put_n put_tm put_none put_df ev_tmp ev_const ev_func wanted_none wanted_some callR_func dop ex_some1 aBuiltin aBin intBin aUn Option.map_some Bool.and_true Bool.true_and Bool.and_self List.map_cons List.map_nil List.toList_toArray List.getElem?_toArray List.getElem?_cons_zero List.getElem?_cons_succ Option.getD_some Option.getD_none Bool.false_eq_true eq_self_iff_true decide_true decide_false List.cons_append aExtract resL resV List.getD_cons_zero List.getD_cons_succ List.getD_nil Nat.succ_ne_self g1 g2 yieldedA2 isB_bool isB_undef g3 Option.bind_some Option.bind_none bne_self_eq_false beq_self_eq_true Bool.not_true Bool.not_false Int.toNat_natCast List.length_map List.mem_cons List.not_mem_nil or_false not_false_eq_true decide_not Bool.not_not bodyR_ret2 bodyR_normal2 closeMarks_nil ex_some0 Nat.zero_add Nat.add_zero ieq ine List.map_toArray Option.toArray_none Option.toArray_some oev Keeps_cons Still_eq selL wpX_skip wpX_ret wpX_exit wpX_seq wpX_block wpX_cond wpX_region wpX_draw wpX_loop List.take_succ_cons List.take_zero List.drop_succ_cons List.drop_zero Int.zero_add Int.add_zero aNil
attribute [local push_cast] treeM_nil treeM_step treeM_two okX_true wantX_true wantX_false stepX skipX

theorem ownPre {P : Program} {t e : TypeId} (ht : Sl1 P t e) {h : AH} {v : Value} {B : Nat} {vs : List Value} (ho : OwnSl e h v B vs) {k : IntKind} {n : Nat} (hn : n ≤ vs.length) :
    ∃ v', aSlice P t v none (some (.int k n)) = some v' ∧ SlOf h v' (vs.take n) := by
  rcases ho with ⟨rfl, rfl⟩ | ⟨hne, rfl, hg⟩
  · have hn0 : n = 0 := by simpa using hn
    subst hn0
    exact ⟨_, sliceNil ht k, none, 0, 0, rfl, by simp, fun q e => (nomatch e), .inl (by simp)⟩
  · refine ⟨_, sliceHiS ht B 0 vs.length k n (by omega) (by omega), some ⟨B, 0, none⟩, n, SL + 1, rfl, by rw [List.length_take]; omega, fun q e => by cases e; rfl, .inr ⟨B, 0, _, vs, rfl, hg, rfl, fun i x hx => ?_⟩⟩
    rw [Nat.zero_add]
    rw [List.getElem?_take] at hx
    split at hx
    · exact hx
    · cases hx

theorem appOwn {h0 k : AH} {rv sv : Value} {ob : Option AObj} {A : Nat} {zs ys : List Bool} (w0 : WFH h0) (g : Gr h0 k) (hv : BoolsV k rv ob A zs) (lo : ∀ o, ob = some o → h0.next ≤ A) (hs : SlOf k sv (ys.map .bool)) (hb : zs.length + ys.length ≤ 4294967296) :
    ∃ r h' ob' A', aAppend Tryz.prog #[43, 43] rv sv k = some (r, h') ∧ Gr h0 h' ∧ BoolsV h' r ob' A' (zs ++ ys) ∧ (∀ o, ob' = some o → h0.next ≤ A') ∧ (∀ B o, k.get B = some o → (B = A → ob = none) → h'.get B = some o) ∧ k.next ≤ h'.next := by
  obtain ⟨r', h'', happ, hgo⟩ := appendAny (t := 43) (t2 := 43) t23 ⟨_, Tryz.underlying43⟩ g.wf hv.1 hv.2 hs.src (by simp [oneC]) (by simp only [List.length_map]; omega) (by simp only [List.length_map]; omega)
  obtain ⟨ob', A', hV, hgA, hA⟩ := hgo.up
  refine ⟨r', h'', ob', A', happ, ⟨hgo.wf, fun B o hB => hgo.frx B o (g.sub B o hB) (fun e => ?_), Nat.le_trans g.nx hgo.nx⟩, ⟨by rw [List.map_append]; exact hV, hgA⟩, fun o e => ?_, hgo.frx, hgo.nx⟩
  · cases hob : ob with
    | none => rfl
    | some o2 =>
      have h8 := lo o2 hob
      have := AH.get_lt w0 hB
      omega
  · rcases hA (by rw [e]; simp) with ⟨rfl, hne⟩ | hA
    · cases hob : ob with
      | none => exact absurd hob hne
      | some o2 => exact lo o2 hob
    · exact Nat.le_trans g.nx hA

theorem aBuild2b (h : AH) (x y : Bool) : aBuildSlice Tryz.prog 43 2 [(0, .bool x), (1, .bool y)] h = some (.slice (some ⟨h.next, 0, none⟩) 2 2, h.new (.row [.bool x, .bool y] 4 true)) := by
  obtain ⟨i, hi, h1, hb, hz⟩ := t23.info
  have hp : plain 9 (.bool false) = true := rfl
  have hc : (Value.bool false).cells.size = 1 := rfl
  have hl : (Value.bool false).cells.toList = [.bool false] := rfl
  have hx1 : ∀ z : Bool, (Value.bool z).cells.size = 1 := fun _ => rfl
  have hx2 : ∀ z : Bool, (Value.bool z).cells.toList = [.bool z] := fun _ => rfl
  simp only [aBuildSlice, t23.sl, hi, hz, h1, hp, hc, fillL, hl, zeros_one]
  simp [SL, hx1, hx2, setL, oneC, List.replicate]

/-- The three ways in which the inputs are laid. -/
structure Laid3 (k0 : AH) (xv : Value) (xs : List Bool) (en si : Bool) (Fin : Value → AH → Prop) : Prop where
  w1 : ∃ r1 k1, aAppend Tryz.prog #[43, 43] (.slice (some ⟨k0.next, 0, none⟩) 0 0) xv (k0.new (.row [] 4 true)) = some (r1, k1) ∧ Gr k0 k1 ∧ Gr k0 (k1.new (.row [.bool en, .bool si] 4 true)) ∧
    ∃ r2 k2, aAppend Tryz.prog #[43, 43] r1 (.slice (some ⟨k1.next, 0, none⟩) 2 2) (k1.new (.row [.bool en, .bool si] 4 true)) = some (r2, k2) ∧ Gr k0 k2 ∧ Fin r2 k2
  w2 : Gr k0 (k0.new (.row [] 4 true)) ∧ Gr k0 ((k0.new (.row [] 4 true)).new (.row [.bool en, .bool si] 4 true)) ∧
    ∃ r1 k1, aAppend Tryz.prog #[43, 43] (.slice (some ⟨k0.next, 0, none⟩) 0 0) xv ((k0.new (.row [] 4 true)).new (.row [.bool en, .bool si] 4 true)) = some (r1, k1) ∧ Gr k0 k1 ∧
    ∃ r2 k2, aAppend Tryz.prog #[43, 43] r1 (.slice (some ⟨k0.next + 1, 0, none⟩) 2 2) k1 = some (r2, k2) ∧ Gr k0 k2 ∧ Fin r2 k2
  w3 : Gr k0 (k0.new (.row [.bool en, .bool si] 4 true)) ∧ Gr k0 ((k0.new (.row [.bool en, .bool si] 4 true)).new (.row [] 4 true)) ∧
    ∃ r1 k1, aAppend Tryz.prog #[43, 43] (.slice (some ⟨k0.next + 1, 0, none⟩) 0 0) xv ((k0.new (.row [.bool en, .bool si] 4 true)).new (.row [] 4 true)) = some (r1, k1) ∧ Gr k0 k1 ∧
    ∃ r2 k2, aAppend Tryz.prog #[43, 43] r1 (.slice (some ⟨k0.next, 0, none⟩) 2 2) k1 = some (r2, k2) ∧ Gr k0 k2 ∧ Fin r2 k2

theorem laid3 {k0 : AH} {xv : Value} {xs : List Bool} {en si : Bool} (w0 : WFH k0) (hx : SlOf k0 xv (xs.map .bool)) (hl : xs.length ≤ 4294967296 - 2) : Laid3 k0 xv xs en si (fun r k => SlOf k r ((xs ++ [en, si]).map .bool)) := by
  have g0 := Gr.refl w0
  have hE : ∀ {k : AH} {A : Nat}, k.get A = some (.row [] 4 true) → BoolsV k (.slice (some ⟨A, 0, none⟩) 0 0) (some (.row [] 4 true)) A [] := fun hg => ⟨.inr (.inr ⟨[], 0, rfl, by omega, Nat.le_refl _, Nat.le_refl _, rfl, rfl⟩), fun o e => by cases e; exact hg⟩
  have hD : ∀ {k : AH} {D : Nat}, k.get D = some (.row [.bool en, .bool si] 4 true) → SlOf k (.slice (some ⟨D, 0, none⟩) 2 2) ([en, si].map .bool) := fun hg => SlOf.lit hg rfl rfl
  refine ⟨?_, ?_, ?_⟩
  · have g1 := g0.new (.row [] 4 true)
    obtain ⟨r1, k1, ob, A, e1, g2, hv, lo, _, n1⟩ := appOwn w0 g1 (hE (by rw [AH.new_get, if_pos rfl])) (fun o e => Nat.le_refl _) (hx.sub g1.sub) (by simp; omega)
    have g3 := g2.new (.row [.bool en, .bool si] 4 true)
    have s3 := Sub.new g2.wf (.row [.bool en, .bool si] 4 true)
    obtain ⟨r2, k2, _, _, e2, g4, hv2, _⟩ := appOwn w0 g3 (hv.sub s3) lo (hD (by rw [AH.new_get, if_pos rfl])) (by simp; omega)
    exact ⟨r1, k1, e1, g2, g3, r2, k2, e2, g4, by simpa using hv2.sl⟩
  · have g1 := g0.new (.row [] 4 true)
    have g2 := g1.new (.row [.bool en, .bool si] 4 true)
    have s2 := Sub.new g1.wf (.row [.bool en, .bool si] 4 true)
    have hA1 : ((k0.new (.row [] 4 true)).new (.row [.bool en, .bool si] 4 true)).get k0.next = some (.row [] 4 true) := s2 _ _ (by rw [AH.new_get, if_pos rfl])
    have hD1 : ((k0.new (.row [] 4 true)).new (.row [.bool en, .bool si] 4 true)).get (k0.next + 1) = some (.row [.bool en, .bool si] 4 true) := by rw [AH.new_get, if_pos (by simp)]
    obtain ⟨r1, k1, ob, A, e1, g3, hv, lo, frx, n1⟩ := appOwn w0 g2 (hE hA1) (fun o e => Nat.le_refl _) (hx.sub g2.sub) (by simp; omega)
    have hD2 := frx _ _ hD1 (fun e => by omega)
    obtain ⟨r2, k2, _, _, e2, g4, hv2, _⟩ := appOwn w0 g3 hv lo (hD hD2) (by simp; omega)
    exact ⟨g1, g2, r1, k1, e1, g3, r2, k2, e2, g4, by simpa using hv2.sl⟩
  · have g1 := g0.new (.row [.bool en, .bool si] 4 true)
    have g2 := g1.new (.row [] 4 true)
    have s2 := Sub.new g1.wf (.row [] 4 true)
    have hD1 : ((k0.new (.row [.bool en, .bool si] 4 true)).new (.row [] 4 true)).get k0.next = some (.row [.bool en, .bool si] 4 true) := s2 _ _ (by rw [AH.new_get, if_pos rfl])
    have hA1 : ((k0.new (.row [.bool en, .bool si] 4 true)).new (.row [] 4 true)).get (k0.next + 1) = some (.row [] 4 true) := by rw [AH.new_get, if_pos (by simp)]
    obtain ⟨r1, k1, ob, A, e1, g3, hv, lo, frx, n1⟩ := appOwn w0 g2 (hE hA1) (fun o e => by omega) (hx.sub g2.sub) (by simp; omega)
    have hD2 := frx _ _ hD1 (fun e => by omega)
    obtain ⟨r2, k2, _, _, e2, g4, hv2, _⟩ := appOwn w0 g3 hv lo (hD hD2) (by simp; omega)
    exact ⟨g1, g2, r1, k1, e1, g3, r2, k2, e2, g4, by simpa using hv2.sl⟩

end Go.Ab.S1

namespace Go.Ab.S1
open Go.Proofs
set_option linter.unusedSimpArgs false
set_option linter.unusedVariables false
set_option maxRecDepth 100000
set_option maxHeartbeats 4000000
attribute [local push_cast] wpA_skip wpA_ret wpA_exit wpA_seq wpA_block wpA_cond2 andK_true wpA_region wpA_draw wpA_loop thenQ_normal thenQ_ret thenQ_exit blockQ_normal blockQ_ret blockQ_exit condV_true condV_false opsM_nil opsM_cons2 okM_true wantM_true wantM_false stepM seqM_cons2 seqM_nil2 okS_true wantS_true wantS_false stepS skipS okB Keeps_nil contK_app List.zip_cons_cons List.zip_nil_left List.zip_nil_right Op.operands Call.operands Array.toList_append List.append_nil List.nil_append List.all_cons List.all_nil cOK plain put_n put_tm put_none put_df ev_tmp ev_const ev_func wanted_none wanted_some callR_func dop ex_some1 aBuiltin aBin intBin aUn Option.map_some Bool.and_true Bool.true_and Bool.and_self List.map_cons List.map_nil List.toList_toArray List.getElem?_toArray List.getElem?_cons_zero List.getElem?_cons_succ Option.getD_some Option.getD_none Bool.false_eq_true eq_self_iff_true decide_true decide_false List.cons_append aExtract resL resV List.getD_cons_zero List.getD_cons_succ List.getD_nil Nat.succ_ne_self g1 g2 yieldedA2 isB_bool isB_undef g3 Option.bind_some Option.bind_none bne_self_eq_false beq_self_eq_true Bool.not_true Bool.not_false Int.toNat_natCast List.length_map List.mem_cons List.not_mem_nil or_false not_false_eq_true decide_not Bool.not_not bodyR_ret2 bodyR_normal2 closeMarks_nil ex_some0 Nat.zero_add Nat.add_zero ieq ine List.map_toArray Option.toArray_none Option.toArray_some oev Keeps_cons Still_eq selL wpX_skip wpX_ret wpX_exit wpX_seq wpX_block wpX_cond wpX_region wpX_draw wpX_loop List.take_succ_cons List.take_zero List.drop_succ_cons List.drop_zero Int.zero_add Int.add_zero aNil

set_option maxRecDepth 100000 in
theorem loadRG {h : AH} {v1 v2 : Value} {zs : List Int} {bs : List Bool} (hv : SlOf h v1 (zs.map (.int .i64))) (hw : SlOf h v2 (bs.map .bool)) (hb : zs.length ≤ 17592186043904) :
    ACall Tryz.prog 42 [v1, v2] h (fun r h' => Gr h h' ∧ LoadPost IsLoad zs bs h r h') := by
  refine ACall.wf ⟨_, Tryz.func42, rfl, by kernel_rfl⟩ fun hwf => ?_
  refine ACall.of_wp 34 [.tmp 4, .tmp 5] Tryz.func42 rfl (by kernel_rfl) rfl rfl fun a hn hd ha => ?_
  simp (disch := first | omega | decide | (simp only [List.length_cons, List.length_nil] <;> omega)) only [push_cast, ↓reduceIte, Nat.reduceLT, Nat.reduceEqDiff, reduceCtorEq, Nat.reduceAdd, if_true, if_false, true_and, and_true, hn, hd, ha, hw.lenM Tryz.underlying43]
  refine ACall.mono ?_ (chainR hv hb)
  rintro _ _ ⟨rfl, rfl⟩
  simp (disch := first | omega | decide | (simp only [List.length_cons, List.length_nil] <;> omega)) only [push_cast, ↓reduceIte, Nat.reduceLT, Nat.reduceEqDiff, reduceCtorEq, Nat.reduceAdd, if_true, if_false, true_and, and_true, hn, hd, ha]
  refine condV_of (fun h0 => ?_) (fun h0 => ?_)
  · have hc : chainE zs bs.length ≠ 0 := by simpa using h0
    simp (disch := first | omega | decide | (simp only [List.length_cons, List.length_nil] <;> omega)) only [push_cast, ↓reduceIte, Nat.reduceLT, Nat.reduceEqDiff, reduceCtorEq, Nat.reduceAdd, if_true, if_false, true_and, and_true, hn, hd, ha]
    exact ⟨Gr.refl hwf, Sub.refl _, .inl ⟨hc, rfl⟩⟩
  · have hc : chainE zs bs.length = 0 := by simpa using h0
    obtain ⟨hp, hl⟩ := chainE_zero hc
    simp (disch := first | omega | decide | (simp only [List.length_cons, List.length_nil] <;> omega)) only [push_cast, ↓reduceIte, Nat.reduceLT, Nat.reduceEqDiff, reduceCtorEq, Nat.reduceAdd, if_true, if_false, true_and, and_true, hn, hd, ha, hv.lenM Tryz.underlying25, wrapI]
    rename_i h
    refine AW.loopK 19 [7, 8] (fun m a' h' => Gr h h' ∧ ∃ (i : Nat) (out : List Bool), a'.tm 8 = .int .i64 (zs.length - 1 - i) ∧ i + m = zs.length ∧ FrSl 4 h h' (a'.tm 7) (out.map .bool) ∧ out.length = i ∧
        ∀ j : Nat, j < i → out[j]? = bs[(zs.getD (zs.length - 1 - j) 0).toNat]?) zs.length ?_ ?_
    · refine ⟨Gr.refl hwf, 0, [], by simp (disch := first | omega | decide | (simp only [List.length_cons, List.length_nil] <;> omega)) only [push_cast, ↓reduceIte, Nat.reduceLT, Nat.reduceEqDiff, reduceCtorEq, Nat.reduceAdd, if_true, if_false, true_and, and_true, Int.sub_zero], by omega, by simp (disch := first | omega | decide | (simp only [List.length_cons, List.length_nil] <;> omega)) only [push_cast, ↓reduceIte, Nat.reduceLT, Nat.reduceEqDiff, reduceCtorEq, Nat.reduceAdd, if_true, if_false, true_and, and_true]; exact FrSl.nil 4 _ _, rfl, fun j hj => by omega⟩
    · rintro m a' h' hk ⟨hg, i, out, h8, him, ho, hol, hall⟩
      simp (disch := first | omega | decide | (simp only [List.length_cons, List.length_nil] <;> omega)) only [push_cast, ↓reduceIte, Nat.reduceLT, Nat.reduceEqDiff, reduceCtorEq, Nat.reduceAdd, if_true, if_false, true_and, and_true, hk.n, hk.df, hk.tm, hn, hd, ha, h8]
      refine condV_of (fun hge => ?_) (fun hlt => ?_)
      · have hi : i < zs.length := by have := hge; simp at this; omega
        obtain ⟨k, hk1⟩ : ∃ k : Nat, k = zs.length - 1 - i := ⟨_, rfl⟩
        have hk2 : (zs.length : Int) - 1 - i = k := by omega
        obtain ⟨z0, hz0, hze⟩ := hp.range (List.getElem_mem (show k < zs.length by omega))
        have hzk : zs.getD k 0 = (z0 : Int) := by simp [List.getD_eq_getElem?_getD, show k < zs.length by omega, hze]
        have hv' := hv.sub hg.sub
        have hw' := hw.sub hg.sub
        simp (disch := first | omega | decide | (simp only [List.length_cons, List.length_nil] <;> omega)) only [push_cast, ↓reduceIte, Nat.reduceLT, Nat.reduceEqDiff, reduceCtorEq, Nat.reduceAdd, if_true, if_false, true_and, and_true, hk.n, hk.df, hk.tm, hn, hd, ha, h8, hk2, hv'.idxI sl22, hv'.ldI sl22, hzk, hw'.idxB sl23, hw'.ldB sl23, fun b => aBuild1 t23 h' (x := .bool b) rfl rfl, app1 t23 hg ho (by simp; omega) (by simp; omega), wrapI]
        refine ⟨m - 1, by omega, (by simp (disch := decide) only [Kp_put, put_none, hk]), app1_gr hwf hg ho, i + 1, out ++ [bs.getD z0 false], ?_, by omega, ?_, by simp [hol], fun j hj => ?_⟩
        · simp (disch := first | omega | decide | (simp only [List.length_cons, List.length_nil] <;> omega)) only [push_cast, ↓reduceIte, Nat.reduceLT, Nat.reduceEqDiff, reduceCtorEq, Nat.reduceAdd, if_true, if_false, true_and, and_true]
          congr 1; omega
        · simp (disch := first | omega | decide | (simp only [List.length_cons, List.length_nil] <;> omega)) only [push_cast, ↓reduceIte, Nat.reduceLT, Nat.reduceEqDiff, reduceCtorEq, Nat.reduceAdd, if_true, if_false, true_and, and_true, List.map_append, List.length_map]
          have := app1_fr (e := 4) (v := a'.tm 7) (x := .bool (bs.getD z0 false)) (vs := out.map .bool) hg
          simpa using this
        · by_cases e : j = i
          · subst e
            rw [List.getElem?_append_right (by omega), hol, Nat.sub_self, ← hk1, hzk]
            simp [List.getD_eq_getElem?_getD, show z0 < bs.length by omega]
          · rw [List.getElem?_append_left (by omega)]
            exact hall j (by omega)
      · have hi : i = zs.length := by have := hlt; simp at this; omega
        simp (disch := first | omega | decide | (simp only [List.length_cons, List.length_nil] <;> omega)) only [push_cast, ↓reduceIte, Nat.reduceLT, Nat.reduceEqDiff, reduceCtorEq, Nat.reduceAdd, if_true, if_false, true_and, and_true, hk.n, hk.df, hk.tm, hn, hd, ha, h8]
        refine ⟨hg, hg.sub, .inr ⟨hc, _, out, rfl, ⟨by omega, fun k z hz => ?_⟩, ho.sl⟩⟩
        have hkl := (List.getElem?_eq_some_iff.1 hz).1
        rw [hall _ (by omega)]
        have : zs.length - 1 - (zs.length - 1 - k) = k := by omega
        rw [this, List.getD_eq_getElem?_getD, hz]
        rfl

theorem loadR {h : AH} {v1 v2 : Value} {zs : List Int} {bs : List Bool} (hv : SlOf h v1 (zs.map (.int .i64))) (hw : SlOf h v2 (bs.map .bool)) (hb : zs.length ≤ 17592186043904) :
    ACall Tryz.prog 42 [v1, v2] h (LoadPost IsLoad zs bs h) := ACall.mono (fun _ _ q => q.2) (loadRG hv hw hb)

def LoadOwn (R : List Int → List Bool → List Bool → Prop) (zs : List Int) (bs : List Bool) (h : AH) (r : Value) (h' : AH) : Prop :=
  Gr h h' ∧ ((chainE zs bs.length ≠ 0 ∧ r = .tuple #[.slice none 0 0, .int .i64 (chainE zs bs.length)] ∧ h' = h) ∨
    (chainE zs bs.length = 0 ∧ ∃ A out, r = .tuple #[.slice (some ⟨A, 0, none⟩) zs.length zs.length, .int .i64 0] ∧ R zs bs out ∧ out.length = zs.length ∧ h.next ≤ A ∧ h'.get A = some (.row (out.map .bool) 4 true)))

theorem IsPerm.get {zs : List Int} (hp : IsPerm zs) {k : Nat} (hk : k < zs.length) : ∃ z0 : Nat, z0 < zs.length ∧ zs.getD k 0 = (z0 : Int) ∧ zs[k]? = some (z0 : Int) := by
  obtain ⟨z0, hz0, hze⟩ := hp.range (List.getElem_mem hk)
  exact ⟨z0, hz0, by simp [List.getD_eq_getElem?_getD, hk, hze], by simp [hk, hze]⟩

theorem replicate_bool (n : Nat) : List.replicate n (Value.bool false) = (List.replicate n false).map .bool := by simp

theorem chain' {h : AH} {v : Value} {zs : List Int} {k : Nat} (hv : SlOf h v (zs.map (.int .i64))) (hb : zs.length ≤ 17592186043904) :
    ACall Tryz.prog 54 [v, .int .i64 k] h (fun r h' => r = .int .i64 (chainE zs k) ∧ h' = h) :=
  ACall.viewed rfl (ACall.mono (fun _ _ x => x.1) (chain hv.view hb))

set_option maxRecDepth 100000 in
theorem unloadR {h : AH} {v1 v2 : Value} {zs : List Int} {bs : List Bool} (hv : SlOf h v1 (zs.map (.int .i64))) (hw : SlOf h v2 (bs.map .bool)) (hb : zs.length ≤ 17592186043904) :
    ACall Tryz.prog 47 [v1, v2] h (LoadOwn IsUnload zs bs h) := by
  refine ACall.wf ⟨_, Tryz.func47, rfl, by kernel_rfl⟩ fun hwf => ?_
  refine ACall.of_wp 40 [.tmp 4, .tmp 5] Tryz.func47 rfl (by kernel_rfl) rfl rfl fun a hn hd ha => ?_
  simp (disch := first | omega | decide | (simp only [List.length_cons, List.length_nil] <;> omega)) only [push_cast, ↓reduceIte, Nat.reduceLT, Nat.reduceEqDiff, reduceCtorEq, Nat.reduceAdd, if_true, if_false, true_and, and_true, hn, hd, ha, hw.lenM Tryz.underlying43]
  refine ACall.mono ?_ (chainR hv hb)
  rintro _ _ ⟨rfl, rfl⟩
  simp (disch := first | omega | decide | (simp only [List.length_cons, List.length_nil] <;> omega)) only [push_cast, ↓reduceIte, Nat.reduceLT, Nat.reduceEqDiff, reduceCtorEq, Nat.reduceAdd, if_true, if_false, true_and, and_true, hn, hd, ha]
  refine condV_of (fun h0 => ?_) (fun h0 => ?_)
  · have hc : chainE zs bs.length ≠ 0 := by simpa using h0
    simp (disch := first | omega | decide | (simp only [List.length_cons, List.length_nil] <;> omega)) only [push_cast, ↓reduceIte, Nat.reduceLT, Nat.reduceEqDiff, reduceCtorEq, Nat.reduceAdd, if_true, if_false, true_and, and_true, hn, hd, ha]
    exact ⟨Gr.refl hwf, .inl ⟨hc, rfl, rfl⟩⟩
  · have hc : chainE zs bs.length = 0 := by simpa using h0
    obtain ⟨hp, hl⟩ := chainE_zero hc
    rename_i h
    simp (disch := first | omega | decide | (simp only [List.length_cons, List.length_nil] <;> omega)) only [push_cast, ↓reduceIte, Nat.reduceLT, Nat.reduceEqDiff, reduceCtorEq, Nat.reduceAdd, if_true, if_false, true_and, and_true, hn, hd, ha, hv.lenM Tryz.underlying25, aMakeSlice_at t23 h zs.length (by omega) (by omega), replicate_bool]
    refine AW.loopK 19 [8] (fun m a' h' => Gr h h' ∧ ∃ (i : Nat) (out : List Bool), a'.tm 8 = .int .i64 i ∧ i + m = zs.length ∧ h.next < h'.next ∧ h'.get h.next = some (.row (out.map .bool) 4 true) ∧ out.length = zs.length ∧
        ∀ j : Nat, j < i → out[(zs.getD (zs.length - 1 - j) 0).toNat]? = bs[j]?) zs.length ?_ ?_
    · refine ⟨(Gr.refl hwf).new _, 0, List.replicate zs.length false, by simp (disch := first | omega | decide | (simp only [List.length_cons, List.length_nil] <;> omega)) only [push_cast, ↓reduceIte, Nat.reduceLT, Nat.reduceEqDiff, reduceCtorEq, Nat.reduceAdd, if_true, if_false, true_and, and_true], by omega, by simp, by simp [AH.new_get], by simp, fun j hj => by omega⟩
    · rintro m a' h' hk ⟨hg, i, out, h8, him, hnx, hrow, hol, hall⟩
      have hv' := hv.sub hg.sub
      have hw' := hw.sub hg.sub
      simp (disch := first | omega | decide | (simp only [List.length_cons, List.length_nil] <;> omega)) only [push_cast, ↓reduceIte, Nat.reduceLT, Nat.reduceEqDiff, reduceCtorEq, Nat.reduceAdd, if_true, if_false, true_and, and_true, hk.n, hk.df, hk.tm, hn, hd, ha, h8, hw'.lenM Tryz.underlying43]
      refine condV_of (fun hlt => ?_) (fun hge => ?_)
      · have hi : i < zs.length := by have := hlt; simp at this; omega
        obtain ⟨k, hk1⟩ : ∃ k : Nat, k = zs.length - 1 - i := ⟨_, rfl⟩
        have hk2 : (zs.length : Int) - 1 - i = k := by omega
        obtain ⟨z0, hz0, hzk, hzk'⟩ := hp.get (show k < zs.length by omega)
        have hst := fun b i' (hi' : i' < out.length) => stRow sl23 hrow one_bool i' b hi'
        simp (disch := first | omega | decide | (simp only [List.length_cons, List.length_nil] <;> omega)) only [push_cast, ↓reduceIte, Nat.reduceLT, Nat.reduceEqDiff, reduceCtorEq, Nat.reduceAdd, if_true, if_false, true_and, and_true, hk.n, hk.df, hk.tm, hn, hd, ha, h8]
        refine AW.drawT (.take 0 [14, 13] (.take 1 [14, 13, 8, 7] (.take 2 [14, 13, 8, 7, 6, 4, 3] (.take 3 [14, 13, 8, 7, 6, 4] (.take 4 [14, 13, 8, 7, 6] (.take 5 [14, 13, 8, 7, 6] (.take 6 [14, 13, 8, 7] (.take 7 [14, 13, 8] (.take 8 [14, 13] (.take 9 [14, 13, 12, 11] (.take 10 [14, 13, 12, 11] (.take 11 [14, 13, 12] (.take 12 [14, 13] (.take 13 [14] (.only 14 .done))))))))))))))) [0, 0, 0, 0, 0, 0, 0, 0, 0, 0, 0, 0, 0, 0, 2] mixed (by kernel_rfl) (by kernel_rfl) ?_
        simp (disch := first | omega | decide | (simp only [List.length_cons, List.length_nil] <;> omega)) only [push_cast, ↓reduceIte, Nat.reduceLT, Nat.reduceEqDiff, reduceCtorEq, Nat.reduceAdd, if_true, if_false, true_and, and_true, hk.n, hk.df, hk.tm, hn, hd, ha, h8, hv'.lenM Tryz.underlying25, hk2, hv'.idxI sl22, hv'.ldI sl22, hzk, hw'.idxB sl23, hw'.ldB sl23, idxL sl23, hst, wrapI]
        refine ⟨m - 1, by omega, (by simp (disch := decide) only [Kp_put, put_none, hk]), hg.set hwf (Nat.le_refl _) hnx _, i + 1, out.set z0 (bs.getD i false), ?_, by omega, by simpa using hnx, by simp [AH.set_get], by simp [hol], fun j hj => ?_⟩
        · simp (disch := first | omega | decide | (simp only [List.length_cons, List.length_nil] <;> omega)) only [push_cast, ↓reduceIte, Nat.reduceLT, Nat.reduceEqDiff, reduceCtorEq, Nat.reduceAdd, if_true, if_false, true_and, and_true]
        · by_cases e : j = i
          · subst e
            rw [← hk1, hzk, Int.toNat_natCast, List.getElem?_set_self (by omega)]
            simp [List.getD_eq_getElem?_getD, show j < bs.length by omega]
          · obtain ⟨z1, hz1, hz2, hz3⟩ := hp.get (show zs.length - 1 - j < zs.length by omega)
            have hne : z0 ≠ z1 := by
              rintro rfl
              have := hp.inj hzk' hz3
              omega
            have := hall j (by omega)
            rw [hz2, Int.toNat_natCast] at this ⊢
            rw [List.getElem?_set_ne hne]; exact this
      · have hi : i = zs.length := by have := hge; simp at this; omega
        simp (disch := first | omega | decide | (simp only [List.length_cons, List.length_nil] <;> omega)) only [push_cast, ↓reduceIte, Nat.reduceLT, Nat.reduceEqDiff, reduceCtorEq, Nat.reduceAdd, if_true, if_false, true_and, and_true, hk.n, hk.df, hk.tm, hn, hd, ha, h8]
        refine ⟨hg, .inr ⟨hc, h.next, out, rfl, ⟨hol, fun k z hz => ?_⟩, hol, Nat.le_refl _, hrow⟩⟩
        have hkl := (List.getElem?_eq_some_iff.1 hz).1
        have := hall (zs.length - 1 - k) (by omega)
        have e : zs.length - 1 - (zs.length - 1 - k) = k := by omega
        rw [e, List.getD_eq_getElem?_getD, hz] at this
        exact this

set_option maxRecDepth 100000 in
theorem loadO {h : AH} {v1 v2 : Value} {zs : List Int} {bs : List Bool} (hv : SlOf h v1 (zs.map (.int .i64))) (hw : SlOf h v2 (bs.map .bool)) (hb : zs.length ≤ 17592186043904) :
    ACall Tryz.prog 27 [v1, v2] h (LoadOwn IsLoad zs bs h) := by
  refine ACall.wf ⟨_, Tryz.func27, rfl, by kernel_rfl⟩ fun hwf => ?_
  refine ACall.of_wp 40 [.tmp 4, .tmp 5] Tryz.func27 rfl (by kernel_rfl) rfl rfl fun a hn hd ha => ?_
  simp (disch := first | omega | decide | (simp only [List.length_cons, List.length_nil] <;> omega)) only [push_cast, ↓reduceIte, Nat.reduceLT, Nat.reduceEqDiff, reduceCtorEq, Nat.reduceAdd, if_true, if_false, true_and, and_true, hn, hd, ha, hw.lenM Tryz.underlying43]
  refine ACall.mono ?_ (chain' hv hb)
  rintro _ _ ⟨rfl, rfl⟩
  simp (disch := first | omega | decide | (simp only [List.length_cons, List.length_nil] <;> omega)) only [push_cast, ↓reduceIte, Nat.reduceLT, Nat.reduceEqDiff, reduceCtorEq, Nat.reduceAdd, if_true, if_false, true_and, and_true, hn, hd, ha]
  refine condV_of (fun h0 => ?_) (fun h0 => ?_)
  · have hc : chainE zs bs.length ≠ 0 := by simpa using h0
    simp (disch := first | omega | decide | (simp only [List.length_cons, List.length_nil] <;> omega)) only [push_cast, ↓reduceIte, Nat.reduceLT, Nat.reduceEqDiff, reduceCtorEq, Nat.reduceAdd, if_true, if_false, true_and, and_true, hn, hd, ha]
    exact ⟨Gr.refl hwf, .inl ⟨hc, rfl, rfl⟩⟩
  · have hc : chainE zs bs.length = 0 := by simpa using h0
    obtain ⟨hp, hl⟩ := chainE_zero hc
    rename_i h
    have hv1 := hv.sub (Sub.new hwf (.row ((List.replicate zs.length false).map .bool) 4 true))
    simp (disch := first | omega | decide | (simp only [List.length_cons, List.length_nil] <;> omega)) only [push_cast, ↓reduceIte, Nat.reduceLT, Nat.reduceEqDiff, reduceCtorEq, Nat.reduceAdd, if_true, if_false, true_and, and_true, hn, hd, ha, hv.lenM Tryz.underlying25, aMakeSlice_at t23 h zs.length (by omega) (by omega), replicate_bool, hv1.lenM Tryz.underlying25]
    refine AW.loopK 23 [8, 9, 22] (fun m a' h' => Gr h h' ∧ ∃ (i : Nat) (out : List Bool), a'.tm 22 = .int .i64 i ∧ i + m = zs.length ∧ h.next < h'.next ∧ h'.get h.next = some (.row (out.map .bool) 4 true) ∧ out.length = zs.length ∧
        ∀ j : Nat, j < i → out[zs.length - 1 - j]? = bs[(zs.getD j 0).toNat]?) zs.length ?_ ?_
    · refine ⟨(Gr.refl hwf).new _, 0, List.replicate zs.length false, by simp (disch := first | omega | decide | (simp only [List.length_cons, List.length_nil] <;> omega)) only [push_cast, ↓reduceIte, Nat.reduceLT, Nat.reduceEqDiff, reduceCtorEq, Nat.reduceAdd, if_true, if_false, true_and, and_true], by omega, by simp, by simp [AH.new_get], by simp, fun j hj => by omega⟩
    · rintro m a' h' hk ⟨hg, i, out, h22, him, hnx, hrow, hol, hall⟩
      have hv' := hv.sub hg.sub
      have hw' := hw.sub hg.sub
      simp (disch := first | omega | decide | (simp only [List.length_cons, List.length_nil] <;> omega)) only [push_cast, ↓reduceIte, Nat.reduceLT, Nat.reduceEqDiff, reduceCtorEq, Nat.reduceAdd, if_true, if_false, true_and, and_true, hk.n, hk.df, hk.tm, hn, hd, ha, h22]
      refine condV_of (fun hlt => ?_) (fun hge => ?_)
      · have hi : i < zs.length := by have := hlt; simp at this; omega
        obtain ⟨k, hk1⟩ : ∃ k : Nat, k = zs.length - 1 - i := ⟨_, rfl⟩
        have hk2 : (zs.length : Int) - 1 - i = k := by omega
        obtain ⟨z0, hz0, hzk, hzk'⟩ := hp.get hi
        have hst := fun b i' (hi' : i' < out.length) => stRow sl23 hrow one_bool i' b hi'
        simp (disch := first | omega | decide | (simp only [List.length_cons, List.length_nil] <;> omega)) only [push_cast, ↓reduceIte, Nat.reduceLT, Nat.reduceEqDiff, reduceCtorEq, Nat.reduceAdd, if_true, if_false, true_and, and_true, hk.n, hk.df, hk.tm, hn, hd, ha, h22, lenS Tryz.underlying43, hk2, hv'.idxI sl22, hv'.ldI sl22, hzk, hw'.idxB sl23, hw'.ldB sl23, idxL sl23, hst, wrapI]
        refine ⟨m - 1, by omega, (by simp (disch := decide) only [Kp_put, put_none, hk]), hg.set hwf (Nat.le_refl _) hnx _, i + 1, out.set k (bs.getD z0 false), ?_, by omega, by simpa using hnx, by simp [AH.set_get], by simp [hol], fun j hj => ?_⟩
        · simp (disch := first | omega | decide | (simp only [List.length_cons, List.length_nil] <;> omega)) only [push_cast, ↓reduceIte, Nat.reduceLT, Nat.reduceEqDiff, reduceCtorEq, Nat.reduceAdd, if_true, if_false, true_and, and_true]
        · by_cases e : j = i
          · subst e
            rw [← hk1, hzk, Int.toNat_natCast, List.getElem?_set_self (by omega)]
            simp [List.getD_eq_getElem?_getD, show z0 < bs.length by omega]
          · rw [List.getElem?_set_ne (by omega)]; exact hall j (by omega)
      · have hi : i = zs.length := by have := hge; simp at this; omega
        simp (disch := first | omega | decide | (simp only [List.length_cons, List.length_nil] <;> omega)) only [push_cast, ↓reduceIte, Nat.reduceLT, Nat.reduceEqDiff, reduceCtorEq, Nat.reduceAdd, if_true, if_false, true_and, and_true, hk.n, hk.df, hk.tm, hn, hd, ha, h22]
        refine ⟨hg, .inr ⟨hc, h.next, out, rfl, ⟨hol, fun k z hz => ?_⟩, hol, Nat.le_refl _, hrow⟩⟩
        have hkl := (List.getElem?_eq_some_iff.1 hz).1
        have := hall k (by omega)
        rw [List.getD_eq_getElem?_getD, hz] at this
        exact this

set_option maxRecDepth 100000 in
theorem unloadO {h : AH} {v1 v2 : Value} {zs : List Int} {bs : List Bool} (hv : SlOf h v1 (zs.map (.int .i64))) (hw : SlOf h v2 (bs.map .bool)) (hb : zs.length ≤ 17592186043904) :
    ACall Tryz.prog 46 [v1, v2] h (LoadOwn IsUnload zs bs h) := by
  refine ACall.wf ⟨_, Tryz.func46, rfl, by kernel_rfl⟩ fun hwf => ?_
  refine ACall.of_wp 40 [.tmp 4, .tmp 5] Tryz.func46 rfl (by kernel_rfl) rfl rfl fun a hn hd ha => ?_
  simp (disch := first | omega | decide | (simp only [List.length_cons, List.length_nil] <;> omega)) only [push_cast, ↓reduceIte, Nat.reduceLT, Nat.reduceEqDiff, reduceCtorEq, Nat.reduceAdd, if_true, if_false, true_and, and_true, hn, hd, ha, hw.lenM Tryz.underlying43]
  refine ACall.mono ?_ (chain' hv hb)
  rintro _ _ ⟨rfl, rfl⟩
  simp (disch := first | omega | decide | (simp only [List.length_cons, List.length_nil] <;> omega)) only [push_cast, ↓reduceIte, Nat.reduceLT, Nat.reduceEqDiff, reduceCtorEq, Nat.reduceAdd, if_true, if_false, true_and, and_true, hn, hd, ha]
  refine condV_of (fun h0 => ?_) (fun h0 => ?_)
  · have hc : chainE zs bs.length ≠ 0 := by simpa using h0
    simp (disch := first | omega | decide | (simp only [List.length_cons, List.length_nil] <;> omega)) only [push_cast, ↓reduceIte, Nat.reduceLT, Nat.reduceEqDiff, reduceCtorEq, Nat.reduceAdd, if_true, if_false, true_and, and_true, hn, hd, ha]
    exact ⟨Gr.refl hwf, .inl ⟨hc, rfl, rfl⟩⟩
  · have hc : chainE zs bs.length = 0 := by simpa using h0
    obtain ⟨hp, hl⟩ := chainE_zero hc
    rename_i h
    have hv1 := hv.sub (Sub.new hwf (.row ((List.replicate zs.length false).map .bool) 4 true))
    simp (disch := first | omega | decide | (simp only [List.length_cons, List.length_nil] <;> omega)) only [push_cast, ↓reduceIte, Nat.reduceLT, Nat.reduceEqDiff, reduceCtorEq, Nat.reduceAdd, if_true, if_false, true_and, and_true, hn, hd, ha, hv.lenM Tryz.underlying25, aMakeSlice_at t23 h zs.length (by omega) (by omega), replicate_bool, hv1.lenM Tryz.underlying25]
    refine AW.loopK 23 [8, 9, 22] (fun m a' h' => Gr h h' ∧ ∃ (i : Nat) (out : List Bool), a'.tm 22 = .int .i64 i ∧ i + m = zs.length ∧ h.next < h'.next ∧ h'.get h.next = some (.row (out.map .bool) 4 true) ∧ out.length = zs.length ∧
        ∀ j : Nat, j < i → out[(zs.getD j 0).toNat]? = bs[zs.length - 1 - j]?) zs.length ?_ ?_
    · refine ⟨(Gr.refl hwf).new _, 0, List.replicate zs.length false, by simp (disch := first | omega | decide | (simp only [List.length_cons, List.length_nil] <;> omega)) only [push_cast, ↓reduceIte, Nat.reduceLT, Nat.reduceEqDiff, reduceCtorEq, Nat.reduceAdd, if_true, if_false, true_and, and_true], by omega, by simp, by simp [AH.new_get], by simp, fun j hj => by omega⟩
    · rintro m a' h' hk ⟨hg, i, out, h22, him, hnx, hrow, hol, hall⟩
      have hv' := hv.sub hg.sub
      have hw' := hw.sub hg.sub
      simp (disch := first | omega | decide | (simp only [List.length_cons, List.length_nil] <;> omega)) only [push_cast, ↓reduceIte, Nat.reduceLT, Nat.reduceEqDiff, reduceCtorEq, Nat.reduceAdd, if_true, if_false, true_and, and_true, hk.n, hk.df, hk.tm, hn, hd, ha, h22]
      refine condV_of (fun hlt => ?_) (fun hge => ?_)
      · have hi : i < zs.length := by have := hlt; simp at this; omega
        obtain ⟨k, hk1⟩ : ∃ k : Nat, k = zs.length - 1 - i := ⟨_, rfl⟩
        have hk2 : (zs.length : Int) - 1 - i = k := by omega
        obtain ⟨z0, hz0, hzk, hzk'⟩ := hp.get hi
        have hst := fun b i' (hi' : i' < out.length) => stRow sl23 hrow one_bool i' b hi'
        simp (disch := first | omega | decide | (simp only [List.length_cons, List.length_nil] <;> omega)) only [push_cast, ↓reduceIte, Nat.reduceLT, Nat.reduceEqDiff, reduceCtorEq, Nat.reduceAdd, if_true, if_false, true_and, and_true, hk.n, hk.df, hk.tm, hn, hd, ha, h22, lenS Tryz.underlying43, hk2, hv'.idxI sl22, hv'.ldI sl22, hzk, hw'.idxB sl23, hw'.ldB sl23, idxL sl23, hst, wrapI]
        refine ⟨m - 1, by omega, (by simp (disch := decide) only [Kp_put, put_none, hk]), hg.set hwf (Nat.le_refl _) hnx _, i + 1, out.set z0 (bs.getD k false), ?_, by omega, by simpa using hnx, by simp [AH.set_get], by simp [hol], fun j hj => ?_⟩
        · simp (disch := first | omega | decide | (simp only [List.length_cons, List.length_nil] <;> omega)) only [push_cast, ↓reduceIte, Nat.reduceLT, Nat.reduceEqDiff, reduceCtorEq, Nat.reduceAdd, if_true, if_false, true_and, and_true]
        · by_cases e : j = i
          · subst e
            rw [← hk1, hzk, Int.toNat_natCast, List.getElem?_set_self (by omega)]
            simp [List.getD_eq_getElem?_getD, show k < bs.length by omega]
          · obtain ⟨z1, hz1, hz2, hz3⟩ := hp.get (show j < zs.length by omega)
            have hne : z0 ≠ z1 := by
              rintro rfl
              have := hp.inj hzk' hz3
              omega
            have := hall j (by omega)
            rw [hz2, Int.toNat_natCast] at this ⊢
            rw [List.getElem?_set_ne hne]; exact this
      · have hi : i = zs.length := by have := hge; simp at this; omega
        simp (disch := first | omega | decide | (simp only [List.length_cons, List.length_nil] <;> omega)) only [push_cast, ↓reduceIte, Nat.reduceLT, Nat.reduceEqDiff, reduceCtorEq, Nat.reduceAdd, if_true, if_false, true_and, and_true, hk.n, hk.df, hk.tm, hn, hd, ha, h22]
        refine ⟨hg, .inr ⟨hc, h.next, out, rfl, ⟨hol, fun k z hz => ?_⟩, hol, Nat.le_refl _, hrow⟩⟩
        have hkl := (List.getElem?_eq_some_iff.1 hz).1
        have := hall k (by omega)
        rw [List.getD_eq_getElem?_getD, hz] at this
        exact this


theorem IsLoad.unique {zs : List Int} {bs o1 o2 : List Bool} (h1 : IsLoad zs bs o1) (h2 : IsLoad zs bs o2) : o1 = o2 := by
  apply List.ext_getElem?
  intro j
  by_cases hj : j < zs.length
  · have hk : zs[zs.length - 1 - j]? = some zs[zs.length - 1 - j] := List.getElem?_eq_getElem (by omega)
    have e1 := h1.2 _ _ hk
    have e2 := h2.2 _ _ hk
    have : zs.length - 1 - (zs.length - 1 - j) = j := by omega
    rw [this] at e1 e2
    rw [e1, e2]
  · rw [List.getElem?_eq_none (by have := h1.1; omega), List.getElem?_eq_none (by have := h2.1; omega)]

theorem IsUnload.unique {zs : List Int} {bs o1 o2 : List Bool} (hp : IsPerm zs) (h1 : IsUnload zs bs o1) (h2 : IsUnload zs bs o2) : o1 = o2 := by
  apply List.ext_getElem?
  intro j
  by_cases hj : j < zs.length
  · obtain ⟨k, hk⟩ := hp.onto hj
    have e1 := h1.2 k _ hk
    have e2 := h2.2 k _ hk
    rw [Int.toNat_natCast] at e1 e2
    rw [e1, e2]
  · rw [List.getElem?_eq_none (by have := h1.1; omega), List.getElem?_eq_none (by have := h2.1; omega)]

theorem SlOf.nil (h : AH) : SlOf h (.slice none 0 0) [] := ⟨none, 0, 0, rfl, rfl, (fun q e => by cases e), .inl rfl⟩


def bsL : Lay (List Bool) where
  sz := 1
  pos := by decide
  rel h cs x := ∃ v, cs = [v] ∧ SlOf h v (x.map .bool)
  mono := by rintro h h' cs x hs ⟨v, rfl, hd⟩; exact ⟨v, rfl, hd.sub hs⟩
  view := by rintro h cs x ⟨v, rfl, hd⟩; exact ⟨v, rfl, hd.view⟩
  len := by rintro h cs x ⟨v, rfl, hd⟩; rfl
  one := by rintro h cs x ⟨v, rfl, hd⟩ u hu; simp only [List.mem_cons, List.not_mem_nil, or_false] at hu; subst hu; exact hd.one

theorem inf23 : ∃ i, Tryz.prog.info? 43 = some i ∧ i.size = bsL.sz := ⟨(Tryz.prog.info? 43).get (by kernel_rfl), by kernel_rfl, by kernel_rfl⟩
theorem flBs : Fl Tryz.prog 43 := ⟨_, Tryz.underlying43, rfl⟩

theorem rowAtB {h : AH} {v : Value} {bss : List (List Bool)} (hs : RowOf bsL h v bss) {i : Nat} (hi : i < bss.length) :
    ∃ w, SlOf h w ((bss.getD i []).map .bool) ∧ (∀ k : IntKind, aIndexAddr Tryz.prog 44 v (.int k i) = some (slF 1 v i 0)) ∧ aLoad Tryz.prog 43 (slF 1 v i 0) h = some w := by
  obtain ⟨cs, ⟨w, rfl, hw⟩, _, hl, _⟩ := hs.get hi []
  refine ⟨w, hw, fun k => ?_, hl 0 _ flBs (by decide)⟩
  have := hs.idx Tryz.underlying44 inf23 k i (by omega) (by omega)
  rw [Int.toNat_natCast] at this; exact this

theorem rowPostB {h : AH} {v : Value} {bss : List (List Bool)} (hs : RowOf bsL h v bss) {k : IntKind} {n : Nat} (hn : n ≤ bss.length) :
    ∃ v', aSlice Tryz.prog 44 v (some (.int k n)) none = some v' ∧ RowOf bsL h v' (bss.drop n) := by
  obtain ⟨p, l, c, rfl, rfl, ⟨hsp, hle, hcap⟩, hcs⟩ := hs
  obtain ⟨ie, hi, h1⟩ := inf23
  have h1' : ie.size = 1 := h1
  have hsz : bsL.sz = 1 := rfl
  have hb : bnd (some (.int k (n : Int))) 0 = some n := by simp [bnd]
  have hb0 : ∀ m, bnd none m = some m := fun _ => rfl
  cases p with
  | none =>
    have hx : bss = [] := by
      rcases hcs with e | ⟨A, off, o, cs, e, _⟩
      · exact e
      · cases e
    subst hx
    have hn0 : n = 0 := by simpa using hn
    subst hn0
    refine ⟨.slice none 0 c, ?_, none, 0, c, rfl, by simp, ⟨(fun q e => by cases e), by omega, hcap⟩, .inl (by simp)⟩
    simp only [aSlice, Tryz.underlying44, hb, hb0, hi]
    simp
  | some q =>
    obtain ⟨A, off, sp⟩ := q
    have : sp = none := hsp _ rfl
    subst this
    rcases hcap with hc | hc
    · refine ⟨.slice (some ⟨A, if c = n then off else off + n * 1, none⟩) (bss.length - n) (c - n), ?_, _, _, _, rfl, by simp, ⟨fun q e => by cases e; rfl, by omega, .inl (by omega)⟩, ?_⟩
      · simp only [aSlice, Tryz.underlying44, hb, hb0, hi, h1']
        rw [if_pos hc, if_pos ⟨by omega, by omega⟩]
      · by_cases he : n = bss.length
        · exact .inl (by rw [he, List.drop_length])
        rcases hcs with e | ⟨A', off', o, cs, e, hg, hcc, hall⟩
        · exact .inl (by rw [e]; simp)
        cases e
        refine .inr ⟨A, _, o, cs, rfl, hg, hcc, fun i x hx => ?_⟩
        rw [if_neg (by omega)]
        rw [List.getElem?_drop] at hx
        have := hall _ x hx
        rw [hsz] at this ⊢
        have e2 : off + n * 1 + i * 1 = off + (n + i) * 1 := by omega
        rw [e2]; exact this
    · refine ⟨.slice (some ⟨A, off + n * 1, none⟩) (bss.length - n) c, ?_, _, _, _, rfl, by simp, ⟨fun q e => by cases e; rfl, by omega, .inr hc⟩, ?_⟩
      · simp only [aSlice, Tryz.underlying44, hb, hb0, hi, h1']
        rw [hsz] at hc
        rw [if_neg (by omega), if_pos ⟨hc, by omega, by omega⟩]
      · rcases hcs with e | ⟨A', off', o, cs, e, hg, hcc, hall⟩
        · exact .inl (by rw [e]; simp)
        cases e
        refine .inr ⟨A, _, o, cs, rfl, hg, hcc, fun i x hx => ?_⟩
        rw [List.getElem?_drop] at hx
        have := hall _ x hx
        rw [hsz] at this ⊢
        have e2 : off + n * 1 + i * 1 = off + (n + i) * 1 := by omega
        rw [e2]; exact this

/-- A slice of slices of truths, of one's own, that grows. -/
structure StV (h0 h : AH) (v : Value) (bss : List (List Bool)) : Prop where
  gr : Gr h0 h
  ex : ∃ ob A vs, _root_.Go.Ab.Vec 43 v ob A vs ∧ (∀ o, ob = some o → h.get A = some o ∧ h0.next ≤ A) ∧ vs.length = bss.length ∧ ∀ i, i < vs.length → SlOf (h.del A) (vs.getD i undef) ((bss.getD i []).map .bool)

theorem StV.nil {h0 : AH} (w : WFH h0) : StV h0 h0 (.slice none 0 0) [] := ⟨Gr.refl w, none, 0, [], .inl ⟨rfl, rfl, rfl⟩, fun o e => (nomatch e), rfl, fun i hi => (nomatch hi)⟩

theorem subDel (h : AH) (A : Nat) : Sub (h.del A) h := fun B o hB => by
  rw [AH.del_get] at hB
  split at hB
  · cases hB
  · exact hB

theorem delSub {h h' : AH} (s : Sub h h') (A : Nat) : Sub (h.del A) (h'.del A) := fun B o hB => by
  rw [AH.del_get] at hB ⊢
  split at hB
  · cases hB
  · rename_i e; rw [if_neg e]; exact s B o hB

theorem StV.to {h0 h h2 : AH} {v : Value} {bss : List (List Bool)} (S : StV h0 h v bss) (g : Gr h h2) : StV h0 h2 v bss := by
  obtain ⟨g0, ob, A, vs, hV, hg, hl, hr⟩ := S
  exact ⟨g0.trans g, ob, A, vs, hV, fun o e => ⟨g.sub _ _ (hg o e).1, (hg o e).2⟩, hl, fun i hi => (hr i hi).sub (delSub g.sub A)⟩

theorem StV.row {h0 h : AH} {v : Value} {bss : List (List Bool)} (S : StV h0 h v bss) (hb : bss.length ≤ 4294967296) : RowOf bsL h v bss := by
  obtain ⟨_, ob, A, vs, hV, hg, hl, hr⟩ := S
  have key : ∀ cs : List Value, vs.length ≤ cs.length → cs.take vs.length = vs → ∀ (i : Nat) (x : List Bool), bss[i]? = some x → bsL.rel h ((cs.drop (0 + i * bsL.sz)).take bsL.sz) x := by
    intro cs hle htk i x hx
    have hi : i < bss.length := (List.getElem?_eq_some_iff.1 hx).1
    have hz : bsL.sz = 1 := rfl
    have hxe : bss.getD i [] = x := by simp [List.getD_eq_getElem?_getD, hx]
    have := hr i (by omega)
    rw [hxe] at this
    refine ⟨vs.getD i undef, ?_, this.sub (subDel h A)⟩
    rw [hz, Nat.zero_add, Nat.mul_one]
    have hv : vs[i]? = some (vs.getD i undef) := by simp [List.getD_eq_getElem?_getD, List.getElem?_eq_getElem (show i < vs.length by omega)]
    have hc := take_get htk i _ hv
    have hic : i < cs.length := by omega
    rw [List.drop_eq_getElem_cons hic, List.take_succ_cons, List.take_zero]
    rw [List.getElem?_eq_getElem hic] at hc
    rw [Option.some.inj hc]
  rcases hV with ⟨rfl, rfl, _⟩ | ⟨cs, rfl, rfl, hle, ht⟩ | ⟨cs, C, rfl, hC, hvC, hCc, rfl, ht⟩
  · have hb : bss = [] := List.eq_nil_of_length_eq_zero hl.symm
    subst hb
    exact ⟨none, 0, 0, rfl, rfl, ⟨fun q e => (nomatch e), Nat.le_refl _, .inl (by unfold SL; omega)⟩, .inl rfl⟩
  · exact ⟨_, _, _, rfl, hl, ⟨fun q e => by cases e; rfl, by unfold SL; omega, .inr rfl⟩, .inr ⟨A, 0, _, cs, rfl, (hg _ rfl).1, rfl, key cs hle ht⟩⟩
  · exact ⟨_, _, _, rfl, hl, ⟨fun q e => by cases e; rfl, hvC, .inl (by unfold SL; omega)⟩, .inr ⟨A, 0, _, cs, rfl, (hg _ rfl).1, rfl, key cs (by omega) ht⟩⟩

theorem t45 : SlT Tryz.prog 45 43 24 (.slice none 0 0) := ⟨Tryz.underlying45, t44.info, t44.flat, rfl, rfl, rfl⟩

theorem StV.push {t : TypeId} (ht : SlT Tryz.prog t 43 24 (.slice none 0 0)) {h0 k k1 : AH} {v w : Value} {bss : List (List Bool)} {ob2 : Option AObj} {A2 : Nat} {bs : List Bool} (w0 : WFH h0) (S : StV h0 k v bss) (g : Gr k k1) (hw : BoolsV k1 w ob2 A2 bs) (lo : ∀ o, ob2 = some o → k.next ≤ A2) (hb : bss.length ≤ 4294967296) :
    ∃ r h3, aAppend Tryz.prog #[t, t] v (.slice (some ⟨k1.next, 0, none⟩) 1 1) (k1.new (.row [w] 43 true)) = some (r, h3) ∧ StV h0 h3 r (bss ++ [bs]) := by
  obtain ⟨g0, ob, A, vs, hV, hg, hl, hr⟩ := S
  have s2 := Sub.new g.wf (.row [w] 43 true)
  have hgk : ∀ o, ob = some o → (k1.new (.row [w] 43 true)).get A = some o := fun o e => s2 _ _ (g.sub _ _ (hg o e).1)
  obtain ⟨r, h3, e, up⟩ := appendV (t := t) (t2 := t) ht ⟨_, ht.sl⟩ (g.wf.new (.row [w] 43 true)) hV hgk (D := k1.next) (by rw [AH.new_get, if_pos rfl]) rfl hw.one.1 (by omega) (by omega)
  obtain ⟨A', o', hV', hg', hA'⟩ := up.up
  have hnk : (k1.new (.row [w] 43 true)).next = k1.next + 1 := rfl
  have n1 := g0.nx
  have n2 := g.nx
  have n3 := up.nx
  have lt1 : ∀ B o, k1.get B = some o → B < k1.next := fun B o hB => AH.get_lt g.wf hB
  have keep : Sub (k1.del A) (h3.del A') := fun B o hB => by
    rw [AH.del_get] at hB
    split at hB
    · cases hB
    · rename_i hne
      have := lt1 B o hB
      rw [AH.del_get, if_neg]
      · exact up.frx B o (s2 _ _ hB) (fun e => absurd e hne)
      · rcases hA' with ⟨rfl, _⟩ | h
        · exact hne
        · omega
  refine ⟨r, h3, e, ⟨⟨up.wf, fun B o hB => up.frx B o (s2 _ _ (g.sub _ _ (g0.sub _ _ hB))) (fun e => ?_), by omega⟩, some o', A', vs ++ [w], hV', fun o e => ?_, by simp [hl], fun i hi => ?_⟩⟩
  · cases hob : ob with
    | none => rfl
    | some p =>
      have h1 := (hg p hob).2
      have h2 := AH.get_lt w0 hB
      omega
  · cases e
    refine ⟨hg', ?_⟩
    rcases hA' with ⟨rfl, hne⟩ | h
    · cases hob : ob with
      | none => exact absurd hob hne
      | some p => exact (hg p hob).2
    · omega
  · by_cases hi2 : i < vs.length
    · have h1 : (vs ++ [w]).getD i undef = vs.getD i undef := by simp [List.getD_eq_getElem?_getD, List.getElem?_append_left hi2]
      have h2 : (bss ++ [bs]).getD i [] = bss.getD i [] := by simp [List.getD_eq_getElem?_getD, List.getElem?_append_left (show i < bss.length by omega)]
      rw [h1, h2]
      exact ((hr i hi2).sub (delSub g.sub A)).sub keep
    · have hi3 : i = vs.length := by simp at hi; omega
      have h1 : (vs ++ [w]).getD i undef = w := by subst hi3; simp [List.getD_eq_getElem?_getD]
      have h2 : (bss ++ [bs]).getD i [] = bs := by rw [hi3, hl]; simp [List.getD_eq_getElem?_getD]
      rw [h1, h2]
      have hd : BoolsV (h3.del A') w ob2 A2 bs := ⟨hw.1, fun o e => by
        have hk := hw.2 o e
        have h2 := lo o e
        have h3' := lt1 _ _ hk
        have hlt : ∀ p, ob = some p → A < A2 := fun p hp => by
          have := AH.get_lt g0.wf (hg p hp).1
          omega
        rw [AH.del_get, if_neg]
        · refine up.frx _ _ (s2 _ _ hk) (fun e2 => ?_)
          cases hob : ob with
          | none => rfl
          | some p => have := hlt p hob; omega
        · rcases hA' with ⟨rfl, hne⟩ | h
          · cases hob : ob with
            | none => exact absurd hob hne
            | some p => have := hlt p hob; omega
          · omega⟩
      exact hd.sl

/-! ### Copies, rounds -/

theorem emptyB {k : AH} {A : Nat} (hg : k.get A = some (.row [] 4 true)) : BoolsV k (.slice (some ⟨A, 0, none⟩) 0 0) (some (.row [] 4 true)) A [] :=
  ⟨.inr (.inr ⟨[], 0, rfl, by omega, Nat.le_refl _, Nat.le_refl _, rfl, rfl⟩), fun o e => by cases e; exact hg⟩

theorem cloneB {h : AH} {v : Value} {bs : List Bool} (hv : SlOf h v (bs.map .bool)) (hb : bs.length ≤ 4294967296) :
    ACall Tryz.prog 41 [v] h (fun r h' => Gr h h' ∧ ∃ ob A, BoolsV h' r ob A bs ∧ ∀ o, ob = some o → h.next ≤ A) := by
  refine ACall.wf ⟨_, Tryz.func41, rfl, by kernel_rfl⟩ fun hwf => ?_
  refine ACall.of_wp 8 [.tmp 2] Tryz.func41 rfl (by kernel_rfl) rfl rfl fun a hn hd ha => ?_
  obtain ⟨p, l, c, rfl, hl, hsp, _⟩ := id hv
  simp (disch := first | omega | decide | (simp only [List.length_cons, List.length_nil] <;> omega)) only [push_cast, ↓reduceIte, Nat.reduceLT, Nat.reduceEqDiff, reduceCtorEq, Nat.reduceAdd, if_true, if_false, true_and, and_true, hn, hd, ha, eqBin_nil Tryz.underlying43]
  cases p with
  | none =>
    have hz : bs = [] := by
      rcases hv with ⟨p', l', c', e, hl', _, hcs⟩
      cases e
      rcases hcs with e | ⟨A, off, o, cs, e, _⟩
      · simpa using e
      · cases e
    subst hz
    simp (disch := first | omega | decide | (simp only [List.length_cons, List.length_nil] <;> omega)) only [push_cast, ↓reduceIte, Nat.reduceLT, Nat.reduceEqDiff, reduceCtorEq, Nat.reduceAdd, if_true, if_false, true_and, and_true, Option.isNone_none, hn, hd]
    exact ⟨Gr.refl hwf, none, 0, ⟨.inl ⟨rfl, rfl, rfl⟩, fun o e => (nomatch e)⟩, fun o e => (nomatch e)⟩
  | some q =>
    have g1 := (Gr.refl hwf).new (.row [] 4 true)
    obtain ⟨r, k1, ob, A, e1, g2, hv1, lo, _, _⟩ := appOwn hwf g1 (emptyB (by rw [AH.new_get, if_pos rfl])) (fun o e => Nat.le_refl _) (hv.sub g1.sub) (by simp; omega)
    simp (disch := first | omega | decide | (simp only [List.length_cons, List.length_nil] <;> omega)) only [push_cast, ↓reduceIte, Nat.reduceLT, Nat.reduceEqDiff, reduceCtorEq, Nat.reduceAdd, if_true, if_false, true_and, and_true, Option.isNone_some, hn, hd, ha, aBuildSlice_empty t23, e1]
    exact ⟨g2, ob, A, by simpa using hv1, lo⟩

theorem cycleB {h : AH} {v : Value} {bs : List Bool} {e b : Bool} (hv : SlOf h v (bs.map .bool)) (hb : bs.length ≤ 4294967294) :
    ACall Tryz.prog 40 [v, .bool e, .bool b] h (fun r h' => Gr h h' ∧ ∃ ob A, BoolsV h' r ob A (bs ++ [e, b]) ∧ ∀ o, ob = some o → h.next ≤ A) := by
  refine ACall.wf ⟨_, Tryz.func40, rfl, by kernel_rfl⟩ fun hwf => ?_
  refine ACall.of_wp 13 [.tmp 6] Tryz.func40 rfl (by kernel_rfl) rfl rfl fun a hn hd ha => ?_
  simp (disch := first | omega | decide | (simp only [List.length_cons, List.length_nil] <;> omega)) only [push_cast, ↓reduceIte, Nat.reduceLT, Nat.reduceEqDiff, reduceCtorEq, Nat.reduceAdd, if_true, if_false, true_and, and_true, hn, hd, ha]
  refine ACall.mono ?_ (cloneB hv (by omega))
  rintro r1 h1 ⟨g1, ob, A, hv1, lo⟩
  have g2 := g1.new (.row [.bool e, .bool b] 4 true)
  have s2 := Sub.new g1.wf (.row [.bool e, .bool b] 4 true)
  have hs : SlOf (h1.new (.row [.bool e, .bool b] 4 true)) (.slice (some ⟨h1.next, 0, none⟩) 2 2) ([e, b].map .bool) := SlOf.lit (by rw [AH.new_get, if_pos rfl]) rfl rfl
  obtain ⟨r2, k2, ob', A', e2, g3, hv2, lo2, _⟩ := appOwn hwf g2 (hv1.sub s2) lo hs (by simp; omega)
  simp (disch := first | omega | decide | (simp only [List.length_cons, List.length_nil] <;> omega)) only [push_cast, ↓reduceIte, Nat.reduceLT, Nat.reduceEqDiff, reduceCtorEq, Nat.reduceAdd, if_true, if_false, true_and, and_true, hn, hd, ha, aBuild2b, e2]
  exact ⟨g3, ob', A', hv2, lo2⟩

theorem indexB {h : AH} {v f : Value} {bss : List (List Bool)} {p : List Bool → Bool} (hv : RowOf bsL h v bss) (hf : ∀ w bs, SlOf h w (bs.map .bool) → callR Tryz.prog f [w] h (fun r h' => r = .bool (p bs) ∧ h' = h)) (hb : bss.length ≤ 4611686018427387904) :
    ACall Tryz.prog 67 [v, f] h (IdxPost p bss h) := by
  refine ACall.of_wp 19 [.tmp 4] Tryz.func67 rfl (by kernel_rfl) rfl rfl fun a hn hd ha => ?_
  simp (disch := first | omega | decide | (simp only [List.length_cons, List.length_nil] <;> omega)) only [push_cast, ↓reduceIte, Nat.reduceLT, Nat.reduceEqDiff, reduceCtorEq, Nat.reduceAdd, if_true, if_false, true_and, and_true, hn, hd, ha, hv.len Tryz.underlying44]
  refine AW.loopN 8 [4, 5, 8] (fun m a' h' => h' = h ∧ ∃ i : Nat, a'.tm 8 = .int .i64 i ∧ i + m = bss.length ∧ a'.tm 7 = .int .i64 bss.length ∧ (bss.drop i).any p = bss.any p) bss.length ?_ ?_
  · exact ⟨rfl, 0, by simp (disch := first | omega | decide | (simp only [List.length_cons, List.length_nil] <;> omega)) only [push_cast, ↓reduceIte, Nat.reduceLT, Nat.reduceEqDiff, reduceCtorEq, Nat.reduceAdd, if_true, if_false, true_and, and_true], by omega, by simp (disch := first | omega | decide | (simp only [List.length_cons, List.length_nil] <;> omega)) only [push_cast, ↓reduceIte, Nat.reduceLT, Nat.reduceEqDiff, reduceCtorEq, Nat.reduceAdd, if_true, if_false, true_and, and_true], rfl⟩
  · rintro a1 m a' h' hk kn kd kt ⟨rfl, i, h8, him, h7, hany⟩
    simp (disch := first | omega | decide | (simp only [List.length_cons, List.length_nil] <;> omega)) only [push_cast, ↓reduceIte, Nat.reduceLT, Nat.reduceEqDiff, reduceCtorEq, Nat.reduceAdd, if_true, if_false, true_and, and_true, kn, kd, kt, hn, hd, ha, h8, h7]
    refine condV_of (fun hlt => ?_) (fun hge => ?_)
    · have hi : i < bss.length := by have := hlt; simp at this; omega
      obtain ⟨w, hw, e1, e2⟩ := rowAtB hv hi
      simp (disch := first | omega | decide | (simp only [List.length_cons, List.length_nil] <;> omega)) only [push_cast, ↓reduceIte, Nat.reduceLT, Nat.reduceEqDiff, reduceCtorEq, Nat.reduceAdd, if_true, if_false, true_and, and_true, kn, kd, kt, hn, hd, ha, h8, h7, e1, e2]
      refine callR.mono ?_ (hf _ _ hw)
      rintro _ _ ⟨rfl, rfl⟩
      simp (disch := first | omega | decide | (simp only [List.length_cons, List.length_nil] <;> omega)) only [push_cast, ↓reduceIte, Nat.reduceLT, Nat.reduceEqDiff, reduceCtorEq, Nat.reduceAdd, if_true, if_false, true_and, and_true, kn, kd, kt, hn, hd, ha, h8, h7]
      rw [any_drop hi []] at hany
      refine condV_of (fun hp => ?_) (fun hp => ?_)
      · simp (disch := first | omega | decide | (simp only [List.length_cons, List.length_nil] <;> omega)) only [push_cast, ↓reduceIte, Nat.reduceLT, Nat.reduceEqDiff, reduceCtorEq, Nat.reduceAdd, if_true, if_false, true_and, and_true, kn, kd, kt, hn, hd, ha, h8, h7]
        exact ⟨rfl, i, rfl, by rw [← hany, hp]; simp⟩
      · simp (disch := first | omega | decide | (simp only [List.length_cons, List.length_nil] <;> omega)) only [push_cast, ↓reduceIte, Nat.reduceLT, Nat.reduceEqDiff, reduceCtorEq, Nat.reduceAdd, if_true, if_false, true_and, and_true, kn, kd, kt, hn, hd, ha, h8, h7, wrapI]
        exact ⟨m - 1, by omega, (by simp (disch := decide) only [Kp_put, put_none, hk]), rfl, i + 1, by simp (disch := first | omega | decide | (simp only [List.length_cons, List.length_nil] <;> omega)) only [push_cast, ↓reduceIte, Nat.reduceLT, Nat.reduceEqDiff, reduceCtorEq, Nat.reduceAdd, if_true, if_false, true_and, and_true], by omega, by simp (disch := first | omega | decide | (simp only [List.length_cons, List.length_nil] <;> omega)) only [push_cast, ↓reduceIte, Nat.reduceLT, Nat.reduceEqDiff, reduceCtorEq, Nat.reduceAdd, if_true, if_false, true_and, and_true, h7], by rw [← hany, hp]; simp⟩
    · have hi : bss.length ≤ i := by have := hge; simp at this; omega
      rw [List.drop_of_length_le hi] at hany
      simp (disch := first | omega | decide | (simp only [List.length_cons, List.length_nil] <;> omega)) only [push_cast, ↓reduceIte, Nat.reduceLT, Nat.reduceEqDiff, reduceCtorEq, Nat.reduceAdd, if_true, if_false, true_and, and_true, kn, kd, kt, hn, hd, ha, h8, h7]
      exact ⟨rfl, -1, rfl, by rw [← hany]; rfl⟩

theorem containsB {h : AH} {v f : Value} {bss : List (List Bool)} {p : List Bool → Bool} (hv : RowOf bsL h v bss) (hf : ∀ w bs, SlOf h w (bs.map .bool) → callR Tryz.prog f [w] h (fun r h' => r = .bool (p bs) ∧ h' = h)) (hb : bss.length ≤ 4611686018427387904) :
    ACall Tryz.prog 44 [v, f] h (fun r h' => r = .bool (bss.any p) ∧ h' = h) := by
  refine ACall.of_wp 9 [.tmp 4] Tryz.func44 rfl (by kernel_rfl) rfl rfl fun a hn hd ha => ?_
  simp (disch := first | omega | decide | (simp only [List.length_cons, List.length_nil] <;> omega)) only [push_cast, ↓reduceIte, Nat.reduceLT, Nat.reduceEqDiff, reduceCtorEq, Nat.reduceAdd, if_true, if_false, true_and, and_true, hn, hd, ha]
  refine ACall.mono ?_ (indexB hv hf hb)
  rintro _ _ ⟨rfl, k, rfl, hk⟩
  simp (disch := first | omega | decide | (simp only [List.length_cons, List.length_nil] <;> omega)) only [push_cast, ↓reduceIte, Nat.reduceLT, Nat.reduceEqDiff, reduceCtorEq, Nat.reduceAdd, if_true, if_false, true_and, and_true, hn, hd, ha, hk]

theorem emptyQ {h : AH} {w : Value} {bs : List Bool} (hw : SlOf h w (bs.map .bool)) : ACall Tryz.prog 45 [w] h (fun r h' => r = .bool (decide ((bs.length : Int) = 0)) ∧ h' = h) := by
  refine ACall.of_wp 6 [.tmp 2] Tryz.func45 rfl (by kernel_rfl) rfl rfl fun a hn hd ha => ?_
  simp (disch := first | omega | decide | (simp only [List.length_cons, List.length_nil] <;> omega)) only [push_cast, ↓reduceIte, Nat.reduceLT, Nat.reduceEqDiff, reduceCtorEq, Nat.reduceAdd, if_true, if_false, true_and, and_true, hn, hd, ha, hw.lenA Tryz.underlying43]

theorem eqStates {h : AH} {v1 v2 : Value} {xs : List (List Bool)} (h1 : RowOf bsL h v1 xs) (h2 : RowOf bsL h v2 xs) (hb : xs.length ≤ 4611686018427387904) (hx : ∀ l ∈ xs, l.length < 4611686018427387904) :
    ACall Tryz.prog 19 [v1, v2] h (fun r h' => r = .bool true ∧ h' = h) := by
  refine ACall.of_wp 27 [.tmp 4] Tryz.func19 rfl (by kernel_rfl) rfl rfl fun a hn hd ha => ?_
  simp (disch := first | omega | decide | (simp only [List.length_cons, List.length_nil] <;> omega)) only [push_cast, ↓reduceIte, Nat.reduceLT, Nat.reduceEqDiff, reduceCtorEq, Nat.reduceAdd, if_true, if_false, true_and, and_true, hn, hd, ha, h1.len Tryz.underlying44, h2.len Tryz.underlying44]
  refine AW.loopN 5 [] (fun m a' h' => h' = h ∧ ∃ i : Nat, a'.tm 5 = .int .i64 i ∧ i + m = xs.length) xs.length ?_ ?_
  · exact ⟨rfl, 0, by simp (disch := first | omega | decide | (simp only [List.length_cons, List.length_nil] <;> omega)) only [push_cast, ↓reduceIte, Nat.reduceLT, Nat.reduceEqDiff, reduceCtorEq, Nat.reduceAdd, if_true, if_false, true_and, and_true], by omega⟩
  · rintro a1 m a' h' hk kn kd kt ⟨rfl, i, h5, him⟩
    simp (disch := first | omega | decide | (simp only [List.length_cons, List.length_nil] <;> omega)) only [push_cast, ↓reduceIte, Nat.reduceLT, Nat.reduceEqDiff, reduceCtorEq, Nat.reduceAdd, if_true, if_false, true_and, and_true, kn, kd, kt, hn, hd, ha, h5, h1.len Tryz.underlying44]
    refine condV_of (fun hlt => ?_) (fun hge => ?_)
    · have hi : i < xs.length := by have := hlt; simp at this; omega
      obtain ⟨w1, hw1, e1, e2⟩ := rowAtB h1 hi
      obtain ⟨w2, hw2, e3, e4⟩ := rowAtB h2 hi
      refine AW.drawP (.take 0 [9, 8, 3, 2] (.take 1 [9, 8, 3, 2] (.take 2 [9, 8, 3] (.take 3 [9, 8] (.take 4 [9, 8, 7, 6] (.take 5 [9, 8, 7, 6] (.take 6 [9, 8, 7] (.take 7 [9, 8] (.only 8 (.take 9 [] .done)))))))))) [(0, 0), (0, 1), (0, 2), (0, 3), (0, 4), (0, 5), (0, 6), (0, 7), (2, 8), (0, 9)] mixed (by kernel_rfl) (by kernel_rfl) ?_
      simp (disch := first | omega | decide | (simp only [List.length_cons, List.length_nil] <;> omega)) only [push_cast, ↓reduceIte, Nat.reduceLT, Nat.reduceEqDiff, reduceCtorEq, Nat.reduceAdd, if_true, if_false, true_and, and_true, kn, kd, kt, hn, hd, ha, h5, e1, e2, e3, e4]
      refine ACall.mono ?_ (eqBools hw1 hw2 (hx _ (getD_mem hi [])))
      rintro _ _ ⟨rfl, rfl⟩
      simp (disch := first | omega | decide | (simp only [List.length_cons, List.length_nil] <;> omega)) only [push_cast, ↓reduceIte, Nat.reduceLT, Nat.reduceEqDiff, reduceCtorEq, Nat.reduceAdd, if_true, if_false, true_and, and_true, kn, kd, kt, hn, hd, ha, h5, wrapI]
      exact ⟨m - 1, by omega, (by simp (disch := decide) only [Kp_put, put_none, hk]), rfl, i + 1, by simp (disch := first | omega | decide | (simp only [List.length_cons, List.length_nil] <;> omega)) only [push_cast, ↓reduceIte, Nat.reduceLT, Nat.reduceEqDiff, reduceCtorEq, Nat.reduceAdd, if_true, if_false, true_and, and_true], by omega⟩
    · simp (disch := first | omega | decide | (simp only [List.length_cons, List.length_nil] <;> omega)) only [push_cast, ↓reduceIte, Nat.reduceLT, Nat.reduceEqDiff, reduceCtorEq, Nat.reduceAdd, if_true, if_false, true_and, and_true, kn, kd, kt, hn, hd, ha, h5]

end Go.Ab.S1
