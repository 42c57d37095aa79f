/- The scanned netlist can be put in order; its area and its start: plainly. A law of a netlist and a slice of ints: from the abstract heap to the world. A law of a netlist, a slice of ints, two numbers and a truth: from the abstract heap to the world. A law of a netlist, a slice of ints and two numbers: from the abstract heap to the world. Own layer 'Ab': zeros appended to nil; an append of any slice. slices.Grow and Concat for bools; netlist.of. netlist.values. netlist.eval and Eval; netlabref20.Bits. The values of a netlist's nets, plainly; netlist.Eval. -/
import Derived.Test.YtnejoceplinjpaaGreatB12
import Derived.Carry
set_option linter.unusedSimpArgs false
set_option linter.unusedVariables false
namespace Go.Ab.S1
open Go.Proofs

section
variable {n : Net} {ord : List Int}

theorem insN_pinsOld (o : InsOK n ord) {i : Nat} (hi : i < n.insts.length) : pinsOf (insN n ord) i = (pinsOf n i).map (shiftE n) := by
  unfold pinsOf
  rw [insN_split o, List.getD_eq_getElem?_getD, List.getElem?_append_left (by simpa using hi), List.getElem?_map, List.getD_eq_getElem?_getD, List.getElem?_eq_getElem hi]
  rfl

theorem insN_full (o : InsOK n ord) : Full (insN n ord) := by
  have s := ShapeOK.of (netE_zero.1 o.net).1
  obtain ⟨O, t, hO⟩ := (netE_zero.1 o.net).2
  have k := o.k
  have hf := insN_first o
  have hl := insN_len o
  have hall : ∀ i : Nat, i < n.insts.length → (i : Int) ∈ O := fun i hi => nodup_all t.nodup t.range hO hi
  refine ⟨O ++ (List.range n.flops.length).map (fun (j : Nat) => ((n.insts.length + j : Nat) : Int)), ⟨?_, fun x hx => ?_, fun j x hj p hp hF => ?_⟩, by simp [hO, hl]⟩
  · rw [List.nodup_append]
    refine ⟨t.nodup, ?_, fun a ha b hb => ?_⟩
    · exact List.Pairwise.map _ (fun a b hab e => hab (by omega)) (List.nodup_range (n := n.flops.length))
    · obtain ⟨j, _, rfl⟩ := List.mem_map.1 hb
      have := t.range a ha
      omega
  · rw [hl]
    rcases List.mem_append.1 hx with hx | hx
    · have := t.range x hx; omega
    · obtain ⟨j, hj, rfl⟩ := List.mem_map.1 hx
      have := List.mem_range.1 hj
      omega
  · by_cases hjO : j < O.length
    · rw [List.getElem?_append_left hjO] at hj
      rw [List.take_append_of_le_length (by omega)]
      have hxr := t.range x (List.mem_of_getElem? hj)
      rw [insN_pinsOld o (by omega)] at hp
      obtain ⟨q, hq, rfl⟩ := List.mem_map.1 hp
      have hqr := s.pinOf (by omega) hq
      have h2 := shiftE_first s hqr
      rw [hf] at hF ⊢
      have hqF := h2.1.1 hF
      have := t.before j x hj q hq hqF
      rw [h2.2 hqF, show q + 2 - (firstE n + 2) = q - firstE n by omega]; exact this
    · rw [List.getElem?_append_right (by omega)] at hj
      rw [List.take_append, List.take_of_length_le (by omega)]
      apply List.mem_append_left
      rw [List.getElem?_map, Option.map_eq_some_iff] at hj
      obtain ⟨y, hy, rfl⟩ := hj
      have hyr : y < n.flops.length := by
        have := List.mem_range.1 (List.mem_of_getElem? hy); exact this
      have hxm : (insN n ord).insts.getD (n.insts.length + y) default ∈ (insN n ord).insts.drop n.insts.length := by
        have hlt : n.insts.length + y < (insN n ord).insts.length := by omega
        refine List.mem_of_getElem? (i := y) ?_
        rw [List.getElem?_drop, List.getD_eq_getElem?_getD, List.getElem?_eq_getElem hlt]; rfl
      obtain ⟨_, _, h3⟩ := k.new _ hxm
      have hpr := h3 p (by rw [Int.toNat_natCast] at hp; exact hp)
      rw [hf] at hF ⊢
      have hF2 : firstE n = n.inputs + n.flops.length := rfl
      have := hall (p - (firstE n + 2)).toNat (by omega)
      rw [Int.toNat_of_nonneg (by omega)] at this
      exact this

theorem insN_net (o : InsOK n ord) : netE (insN n ord) = 0 := netE_zero.2 ⟨insN_shape o, insN_full o⟩

theorem insN_ok (ok : NetOK n) (o : InsOK n ord) : NetOK (insN n ord) := by
  have s := ShapeOK.of (insN_shape o)
  have hc : (insN n ord).cells = n.cells := o.k.cells
  refine ⟨fun c hm => ok.cell c (by rw [← hc]; exact hm), fun x hx => ?_, ?_, ?_, ?_⟩
  · have := s.pins4 hx; omega
  · have := s.fl; omega
  · have := s.il; omega
  · have := s.ol; omega

/-! ### The start -/

theorem insN_start (o : InsOK n ord) : startE (insN n ord) = startE n := by
  unfold startE
  rw [if_pos (insN_net o), if_pos o.net]
  have h1 : (insN n ord).flops.map (fun f => decide (f.init = 1)) = ((insN n ord).flops.map (·.init)).map (fun i => decide (i = 1)) := by rw [List.map_map]; rfl
  have h2 : n.flops.map (fun f => decide (f.init = 1)) = (n.flops.map (·.init)).map (fun i => decide (i = 1)) := by rw [List.map_map]; rfl
  rw [h1, h2]
  exact congrArg _ o.k.init

/-! ### The area -/

def cellArea (n : Net) (x : Inst) : Int := (n.cells.getD x.cell.toNat default).area

theorem checkE_area {c : Cell} (h : checkE c = 0) : 1 ≤ c.area ∧ c.area ≤ 1000000 := by
  unfold checkE at h
  split at h
  · cases h
  · split at h
    · cases h
    · rename_i h2
      simp only [Bool.or_eq_true, decide_eq_true_eq, not_or] at h2
      omega

theorem area_of {n : Net} (s : ShapeOK n) {x : Inst} (hx : x ∈ n.insts) : 1 ≤ cellArea n x ∧ cellArea n x ≤ 1000000 := by
  obtain ⟨c0, c1, _⟩ := s.cell x hx
  exact checkE_area (cellsE_zero s.cells _ (getD_mem (by omega) default))

theorem area_sum (n : Net) : ∀ (l : List Inst) (t : Int), (∀ x ∈ l, 0 ≤ cellArea n x ∧ cellArea n x ≤ 1000000) → 0 ≤ t → t + l.length * 1000000 < 9223372036854775808 → l.foldl (areaStep n) t = t + (l.map (cellArea n)).sum ∧ 0 ≤ (l.map (cellArea n)).sum ∧ (l.map (cellArea n)).sum ≤ l.length * 1000000 := by
  intro l
  induction l with
  | nil => intro t _ _ _; simp
  | cons x xs ih =>
    intro t h h0 h1
    have hx := h x (List.mem_cons_self ..)
    simp only [List.length_cons] at h1
    have hst : areaStep n t x = t + cellArea n x := wrapI (by show -9223372036854775808 ≤ t + cellArea n x; omega) (by show t + cellArea n x < 9223372036854775808; omega)
    obtain ⟨a, b, c⟩ := ih (t + cellArea n x) (fun y hy => h y (List.mem_cons_of_mem _ hy)) (by omega) (by omega)
    rw [List.foldl_cons, hst, a, List.map_cons, List.sum_cons, List.length_cons]
    refine ⟨by omega, by omega, by omega⟩

theorem areaE_sum {n : Net} (s : ShapeOK n) : areaE n = (n.insts.map (cellArea n)).sum ∧ 0 ≤ areaE n ∧ areaE n ≤ n.insts.length * 1000000 := by
  have h := s.il
  obtain ⟨a, b, c⟩ := area_sum n n.insts 0 (fun x hx => by have := area_of s hx; omega) (Int.le_refl _) (by omega)
  have : areaE n = (n.insts.map (cellArea n)).sum := by unfold areaE; rw [a]; omega
  rw [this]
  exact ⟨rfl, b, c⟩

theorem sum_const {α : Type} {f : α → Int} {A : Int} : ∀ {l : List α}, (∀ x ∈ l, f x = A) → (l.map f).sum = l.length * A := by
  intro l
  induction l with
  | nil => intro _; simp
  | cons x xs ih =>
    intro h
    rw [List.map_cons, List.sum_cons, ih (fun y hy => h y (List.mem_cons_of_mem _ hy)), h x (List.mem_cons_self ..), List.length_cons, Int.natCast_add, Int.add_mul]
    omega

def muxArea (n : Net) : Int := (n.cells.getD (pick3 n).1.toNat default).area

theorem insN_area (o : InsOK n ord) : areaE (insN n ord) = areaE n + n.flops.length * muxArea n := by
  have s := ShapeOK.of (netE_zero.1 o.net).1
  have sm := ShapeOK.of (insN_shape o)
  have hc : (insN n ord).cells = n.cells := o.k.cells
  rw [(areaE_sum sm).1, (areaE_sum s).1, insN_split o, List.map_append, List.sum_append, List.map_map]
  have h1 : (cellArea (insN n ord) ∘ instS n) = cellArea n := by
    funext x
    show ((insN n ord).cells.getD x.cell.toNat default).area = _
    rw [hc]; rfl
  rw [h1, sum_const (f := cellArea (insN n ord)) (A := muxArea n) (fun x hx => by
    unfold cellArea muxArea
    rw [hc, (o.k.new x hx).1]), List.length_drop, insN_len o]
  congr 3; omega

theorem muxArea_range (o : InsOK n ord) : 1 ≤ muxArea n ∧ muxArea n ≤ 1000000 := by
  have s := ShapeOK.of (netE_zero.1 o.net).1
  have hp := pick3_ok o.found
  exact checkE_area (cellsE_zero s.cells _ (getD_mem (by omega) default))

theorem insN_mux (o : InsOK n ord) (hf : n.flops.length ≠ 0) : ((insN n ord).insts.getD n.insts.length default).cell = (pick3 n).1 := by
  have hlt : n.insts.length < (insN n ord).insts.length := by rw [insN_len o]; omega
  refine (o.k.new _ (List.mem_of_getElem? (i := 0) ?_)).1
  show ((insN n ord).insts.drop n.insts.length)[0]? = _
  rw [List.getElem?_drop, List.getD_eq_getElem?_getD, Nat.add_zero, List.getElem?_eq_getElem hlt]; rfl
end

end Go.Ab.S1

namespace Go.Ab.S1
open Go.Proofs
open Go.ChangeShapes Go.WideShapes Go.ChangeAt Go.RowKit

/-- A netlist lies in a world. -/
def NetW (W : World) (v : Value) (n : Net) : Prop := ∀ ρ h, HR ρ h W → AllRO h → ∃ ρ' h' cv fv iv ov, GrA W ρ h ρ' h' ∧ VR ρ' (.agg (netC n cv fv iv ov).toArray) v ∧ NetR h' n cv fv iv ov
def IntsW (W : World) (v : Value) (zs : List Int) : Prop := ∀ ρ h, HR ρ h W → AllRO h → ∃ ρ' h' u, GrA W ρ h ρ' h' ∧ VR ρ' u v ∧ SlOf h' u (zs.map (.int .i64))

theorem lawNI {g : FuncId} {W : World} {v1 v2 : Value} {n : Net} {zs : List Int} (h1 : NetW W v1 n) (h2 : IntsW W v2 zs)
    (hc : ∀ h cv fv iv ov u, NetR h n cv fv iv ov → SlOf h u (zs.map (.int .i64)) → ACall Tryz.prog g [.agg (netC n cv fv iv ov).toArray, u] h (fun r _ => r = .bool true)) :
    Calls Tryz.prog g #[v1, v2] W fun e W' => e = .returned (.bool true) ∧ Below W.heap.size W W' := by
  obtain ⟨ρ1, k1, cv, fv, iv, ov, g1, vr1, s1⟩ := h1 _ _ (HR.empty W) (fun A o h => by cases h)
  obtain ⟨ρ2, k2, u2, g2, vr2, s2⟩ := h2 ρ1 k1 g1.hr g1.ro
  have hcall := (hc k2 cv fv iv ov u2 (s1.sub g2.sub) s2).2 ρ2 #[v1, v2] W ((LR.single vr2).cons (vr1.mono g2.le)) g2.hr
  refine hcall.mono ?_
  rintro e W' ⟨ρ', v, v', h', rfl, rfl, hv, _, hf⟩
  have : v' = .bool true := plain_only 9 _ _ rfl hv
  subst this
  refine ⟨rfl, hf.side.os, hf.side.tape, hf.side.output, hf.size, fun b hb => hf.rest b hb ?_⟩
  rintro ⟨A, o, r, ha, hown, _⟩
  rw [g2.ro A o ha] at hown; cases hown

theorem aggWide {P : Program} {r : Reach} {base : Nat} {W : World} {t : TypeId} {fs : Array Field} {v : Value} (ht : P.underlying t = some (.struct fs)) (h : Value.okWide P W r base t v) : ∃ cs, v = .agg cs := by
  unfold Value.okWide at h
  rw [ht] at h
  obtain ⟨cs, e, _⟩ := h
  exact ⟨cs, e⟩

theorem slWide {P : Program} {r : Reach} {base : Nat} {W : World} {t e : TypeId} {v : Value} (ht : P.underlying t = some (.slice e)) (h : Value.okWide P W r base t v) : v.cells.toList = [v] := by
  unfold Value.okWide at h
  rw [ht] at h
  simp only at h
  unfold Cell.okWide at h
  rw [ht] at h
  simp only [Cell.ok, ht] at h
  cases v <;> simp_all [Value.cells]

end Go.Ab.S1

namespace Go.Ab.S1
open Go.Proofs
open Go.ChangeShapes Go.WideShapes Go.ChangeAt Go.RowKit

section
variable {H : Type} {enc : TypeId × Value → H} {P : Program} {w : World} {base : Nat} {spare : Nat → Bool} {held : Bool}

theorem trodAll_five {t0 t1 t2 t3 t4 : TypeId} {args : Array Value} {ds : List (DataW H)} {ps : List MemPlace} (h : DataW.TrodAll enc P w base spare held [t0, t1, t2, t3, t4] args.toList ds ps) :
    ∃ v0 v1 v2 v3 v4 d0 d1 d2 d3 d4 p0 p1 p2 p3 p4, args = #[v0, v1, v2, v3, v4] ∧ ds = [d0, d1, d2, d3, d4] ∧ ps = p0 ++ (p1 ++ (p2 ++ (p3 ++ p4))) ∧ DataW.Trod enc P w base spare held t0 v0 d0 p0 ∧ DataW.Trod enc P w base spare held t1 v1 d1 p1 ∧ DataW.Trod enc P w base spare held t2 v2 d2 p2 ∧ DataW.Trod enc P w base spare held t3 v3 d3 p3 ∧ DataW.Trod enc P w base spare held t4 v4 d4 p4 := by
  obtain ⟨v0, vs, d0, ds1, p0, q0, hargs, rfl, rfl, h0, hr⟩ := trodAll_cons h
  obtain ⟨v1, vs1, d1, ds2, p1, q1, rfl, rfl, rfl, h1, hr⟩ := trodAll_cons hr
  obtain ⟨v2, vs2, d2, ds3, p2, q2, rfl, rfl, rfl, h2, hr⟩ := trodAll_cons hr
  obtain ⟨v3, vs3, d3, ds4, p3, q3, rfl, rfl, rfl, h3, hr⟩ := trodAll_cons hr
  obtain ⟨v4, vs4, d4, ds5, p4, q4, rfl, rfl, rfl, h4, hr⟩ := trodAll_cons hr
  obtain ⟨rfl, rfl, rfl⟩ := trodAll_nil hr
  exact ⟨v0, v1, v2, v3, v4, d0, d1, d2, d3, d4, p0, p1, p2, p3, p4, by cases args; simp_all, rfl, by simp, h0, h1, h2, h3, h4⟩

theorem trodAll_mk5 {t0 t1 t2 t3 t4 : TypeId} {v0 v1 v2 v3 v4 : Value} {d0 d1 d2 d3 d4 : DataW H} {p0 p1 p2 p3 p4 : List MemPlace} (h0 : DataW.Trod enc P w base spare held t0 v0 d0 p0) (h1 : DataW.Trod enc P w base spare held t1 v1 d1 p1) (h2 : DataW.Trod enc P w base spare held t2 v2 d2 p2)
    (h3 : DataW.Trod enc P w base spare held t3 v3 d3 p3) (h4 : DataW.Trod enc P w base spare held t4 v4 d4 p4) : DataW.TrodAll enc P w base spare held [t0, t1, t2, t3, t4] [v0, v1, v2, v3, v4] [d0, d1, d2, d3, d4] (p0 ++ (p1 ++ (p2 ++ (p3 ++ p4)))) :=
  ⟨p0, _, h0, trodAll_mk4 h1 h2 h3 h4, rfl⟩
end

theorem intWide {P : Program} {r : Reach} {base : Nat} {W : World} {t : TypeId} {k : IntKind} {v : Value} (ht : P.underlying t = some (.int k)) (h : Value.okWide P W r base t v) : ∃ n, v = .int k n := by
  unfold Value.okWide at h
  rw [ht] at h
  simp only at h
  unfold Cell.okWide at h
  rw [ht] at h
  simp only [Cell.ok, ht] at h
  cases v <;> simp_all

theorem boolWide {P : Program} {r : Reach} {base : Nat} {W : World} {t : TypeId} {v : Value} (ht : P.underlying t = some .bool) (h : Value.okWide P W r base t v) : ∃ b, v = .bool b := by
  unfold Value.okWide at h
  rw [ht] at h
  simp only at h
  unfold Cell.okWide at h
  rw [ht] at h
  simp only [Cell.ok, ht] at h
  cases v <;> simp_all

theorem lawN5 {g : FuncId} {W : World} {v1 v2 : Value} {n : Net} {zs : List Int} {c1 c2 : Int} {b : Bool} (h1 : NetW W v1 n) (h2 : IntsW W v2 zs)
    (hc : ∀ h cv fv iv ov u, NetR h n cv fv iv ov → SlOf h u (zs.map (.int .i64)) → ACall Tryz.prog g [.agg (netC n cv fv iv ov).toArray, u, .int .u64 c1, .int .u64 c2, .bool b] h (fun r _ => r = .bool true)) :
    Calls Tryz.prog g #[v1, v2, .int .u64 c1, .int .u64 c2, .bool b] W fun e W' => e = .returned (.bool true) ∧ Below W.heap.size W W' := by
  obtain ⟨ρ1, k1, cv, fv, iv, ov, g1, vr1, s1⟩ := h1 _ _ (HR.empty W) (fun A o h => by cases h)
  obtain ⟨ρ2, k2, u2, g2, vr2, s2⟩ := h2 ρ1 k1 g1.hr g1.ro
  have hcall := (hc k2 cv fv iv ov u2 (s1.sub g2.sub) s2).2 ρ2 #[v1, v2, .int .u64 c1, .int .u64 c2, .bool b] W ((LR.single (.bool b)).cons (.int .u64 c2) |>.cons (.int .u64 c1) |>.cons vr2 |>.cons (vr1.mono g2.le)) g2.hr
  refine hcall.mono ?_
  rintro e W' ⟨ρ', v, v', h', rfl, rfl, hv, _, hf⟩
  have : v' = .bool true := plain_only 9 _ _ rfl hv
  subst this
  refine ⟨rfl, hf.side.os, hf.side.tape, hf.side.output, hf.size, fun b hb => hf.rest b hb ?_⟩
  rintro ⟨A, o, r, ha, hown, _⟩
  rw [g2.ro A o ha] at hown; cases hown

end Go.Ab.S1

namespace Go.Ab.S1
open Go.Proofs
open Go.ChangeShapes Go.WideShapes Go.ChangeAt Go.RowKit

theorem lawN4 {g : FuncId} {W : World} {v1 v2 : Value} {n : Net} {zs : List Int} {c1 c2 : Int} (h1 : NetW W v1 n) (h2 : IntsW W v2 zs)
    (hc : ∀ h cv fv iv ov u, NetR h n cv fv iv ov → SlOf h u (zs.map (.int .i64)) → ACall Tryz.prog g [.agg (netC n cv fv iv ov).toArray, u, .int .u64 c1, .int .u64 c2] h (fun r _ => r = .bool true)) :
    Calls Tryz.prog g #[v1, v2, .int .u64 c1, .int .u64 c2] W fun e W' => e = .returned (.bool true) ∧ Below W.heap.size W W' := by
  obtain ⟨ρ1, k1, cv, fv, iv, ov, g1, vr1, s1⟩ := h1 _ _ (HR.empty W) (fun A o h => by cases h)
  obtain ⟨ρ2, k2, u2, g2, vr2, s2⟩ := h2 ρ1 k1 g1.hr g1.ro
  have hcall := (hc k2 cv fv iv ov u2 (s1.sub g2.sub) s2).2 ρ2 #[v1, v2, .int .u64 c1, .int .u64 c2] W ((LR.single (.int .u64 c2)).cons (.int .u64 c1) |>.cons vr2 |>.cons (vr1.mono g2.le)) g2.hr
  refine hcall.mono ?_
  rintro e W' ⟨ρ', v, v', h', rfl, rfl, hv, _, hf⟩
  have : v' = .bool true := plain_only 9 _ _ rfl hv
  subst this
  refine ⟨rfl, hf.side.os, hf.side.tape, hf.side.output, hf.size, fun b hb => hf.rest b hb ?_⟩
  rintro ⟨A, o, r, ha, hown, _⟩
  rw [g2.ro A o ha] at hown; cases hown

end Go.Ab.S1

namespace Go.Ab

section
variable {P : Program}

theorem SemOp.appendZ0 {ops : Array Oper} {o : Oper} {a : AAct} {h : AH} {K : AAct → AH → Prop} {s x : Operand} {T TI e : TypeId} {B : Nat} {z : Value} (hop : o.op = .call { callee := .builtin .append, args := #[s, x], argTypes := #[T, TI] }) (hg : o.guard = none)
    (hs : cOK s = true) (hx : cOK x = true) (hd : dstOK a o.dst) (ht : SlT P T e B z) (hI : P.underlying TI = some (.int .i64)) {k : Nat} (hvs : a.ev s = .slice none 0 0) (hvx : a.ev x = .int .i64 k)
    (hk0 : 0 < k) (hm : k < 4611686018427387904) (hb : (2 * k + 192) * B ≤ 281474976710656)
    (hk : K (a.put o.dst (.slice (some ⟨h.next, 0, none⟩) k (SL + 1))) (h.new (.grow (List.replicate k z) e))) : SemOp P ops o a h K := by
  intro n ρ crd ca w ha hr Q N hN
  have hw : Region.wanted o (yielded ops ca.tmps) = true := by
    obtain ⟨dst, op, type, pos, after, guard⟩ := o
    simp only at hg; subst hg; rfl
  have hnd : ∀ c, o.op ≠ .defer c := fun c e => by rw [hop] at e; cases e
  rw [if_pos hw]
  refine ⟨fun _ _ => trivial, ?_⟩
  have h1 := ha.ev hs
  have h2 := ha.ev hx
  rw [hvs] at h1
  rw [hvx] at h2
  have hse : ca.eval s = .slice none 0 0 := by
    generalize ca.eval s = y at h1
    cases h1; rfl
  have hxe : ca.eval x = .int .i64 k := by
    generalize ca.eval x = y at h2
    cases h2; rfl
  have hold : ∀ w', w'.heap = w.heap → (Builtin.firstCells 1 0 (.slice none 0 0)).run P w' = .ok #[] w' := fun w' _ => rfl
  obtain ⟨newCap, w1, hnc, hncS, ⟨hw1, sd1⟩, hrun⟩ := appendZ_run ht hI w o.type none 0 0 k #[] (by omega) hk0 (by unfold ML; omega) (by simpa using hb) hold
  have hzl := zeroCells_one ht.zc
  have hlr2 : LR ρ (List.replicate k z) (List.replicate k z) := LR.of_refl fun v hv => by
    rw [List.eq_of_mem_replicate hv]
    exact plain_VR ρ 9 z ht.zp
  rw [Nat.zero_add] at hnc hrun
  obtain ⟨ρ', w', hnew, hvr, hr', hf'⟩ := (hr.same hw1).newGrow P (e := e) (need := k) (cap := newCap) (sz := 1) (rest := List.replicate (newCap - k) z) hlr2 (fun v hv => by
    rw [List.eq_of_mem_replicate hv]; exact ht.zo) (by simp) (by simp) hnc hncS (fun v hv => by rw [List.eq_of_mem_replicate hv]; exact ⟨ht.zp, ht.zo⟩)
  have e1 : ((#[] : Array Value) ++ Builtin.zeroCells z.cells k ++ Builtin.zeroCells z.cells (newCap - k)) = (List.replicate k z ++ List.replicate (newCap - k) z).toArray := by
    apply Array.ext'
    simp [hzl]
  rw [e1, hnew] at hrun
  have hrun2 : (execOp ca.eval o).run P w = .ok (.value (.slice (some ⟨w1.heap.size, 0, none⟩) k newCap)) w' := by
    obtain ⟨dst, op, type, pos, after, guard⟩ := o
    simp only at hop; subst hop
    simp only [execOp, resolve, Sem.run_bind, Sem.run_pure, Result.andThen_ok, invoke, builtin, List.map_toArray, List.map_cons, List.map_nil, hse, hxe]
    simp only at hrun
    rw [hrun]; rfl
  rw [Oper.semAt_eq _ _ _ hnd, hrun2, Oper.uponIn_value]
  exact hN _ _ ⟨ρ', _, _, hk, (ha.mono hf'.le).put hd hvr, hr', (Frm.same hw1 sd1).trans hf'⟩

/-- What became of a slice of one's own to which any slice was appended. -/
structure VecGo (e : TypeId) (h : AH) (ob : Option AObj) (A : Nat) (r : Value) (zs : List Value) (h' : AH) : Prop where
  up : ∃ ob' A', Vec e r ob' A' zs ∧ (∀ o, ob' = some o → h'.get A' = some o) ∧ (ob' ≠ none → (A' = A ∧ ob ≠ none) ∨ h.next ≤ A')
  frx : ∀ B o, h.get B = some o → (B = A → ob = none) → h'.get B = some o
  wf : WFH h'
  nx : h.next ≤ h'.next

theorem appendAny {t t2 e : TypeId} {B : Nat} {z : Value} (ht : SlT P t e B z) (ht2 : ∃ e2, P.underlying t2 = some (.slice e2)) {h : AH} (hw : WFH h) {v : Value} {ob : Option AObj} {A : Nat} {zs : List Value} (hv : Vec e v ob A zs) (hg : ∀ o, ob = some o → h.get A = some o)
    {x : Value} {ys : List Value} (hsrc : srcCells 1 x h = some (ys.length, ys)) (hx : ys.all oneC = true) (hb : (2 * (zs.length + ys.length) + 192) * B ≤ 281474976710656) (hm : zs.length + ys.length < 4611686018427387904) :
    ∃ r h', aAppend P #[t, t2] v x h = some (r, h') ∧ VecGo e h ob A r (zs ++ ys) h' := by
  by_cases hne : ys = []
  · subst hne
    obtain ⟨i, hi, h1, hbb, hzz⟩ := ht.info
    have hc : z.cells.size = 1 := by
      have := congrArg List.length ht.zc
      simpa using this
    obtain ⟨e2, ht2⟩ := ht2
    have hs0 : srcCells 1 x h = some (0, []) := hsrc
    refine ⟨v, h, ?_, ⟨ob, A, by simpa using hv, hg, fun hn => .inl ⟨rfl, hn⟩⟩, fun B o hB _ => hB, hw, Nat.le_refl _⟩
    rcases hv with ⟨rfl, rfl, rfl⟩ | ⟨cs, rfl, rfl, hle, htk⟩ | ⟨cs, C, rfl, hCm, hnC, hCl, rfl, htk⟩
    · simp [aAppend, ht.sl, ht2, hi, hzz, h1, hc, isIntT, hs0, ht.zk]
    · have hle2 : zs.length ≤ SL + 1 := by
        simp only [List.length_nil, Nat.add_zero] at hm; unfold SL; omega
      simp [aAppend, ht.sl, ht2, hi, hzz, h1, hc, isIntT, hs0, ht.zk, hle2]
    · simp [aAppend, ht.sl, ht2, hi, hzz, h1, hc, isIntT, hs0, ht.zk, hnC]
  · obtain ⟨r, h', happ, hup⟩ := appendVs ht ht2 hw hv hg hsrc hne hx hb hm
    obtain ⟨A', o', hV, hgA, hA⟩ := hup.up
    exact ⟨r, h', happ, ⟨some o', A', hV, fun o e => by cases e; exact hgA, fun _ => hA⟩, hup.frx, hup.wf, hup.nx⟩

theorem SemOp.mono {ops : Array Oper} {o : Oper} {a : AAct} {h : AH} {K K' : AAct → AH → Prop} (hk : ∀ a h, K a h → K' a h) (hs : SemOp P ops o a h K) : SemOp P ops o a h K' := by
  intro n ρ crd ca w ha hr Q N hN
  exact hs n ρ crd ca w ha hr Q N (fun ca' w' ⟨ρ', a', h', hK, x⟩ => hN ca' w' ⟨ρ', a', h', hk _ _ hK, x⟩)

/-- A region, two of whose operations are shown by what the model does. -/
theorem AW.regionNN {rd : Option Nat} {id : Nat} {ops : Array Oper} {Q : Exit → AAct → AH → Prop} {a : AAct} {h : AH} (i j : Nat) (hi : i < ops.toList.length) (hj : i + 1 + j < ops.toList.length)
    (hx : opsM P ops (fun a h => SemOp P ops (ops.toList.getD i op0) a h (opsM P ops (fun a h => SemOp P ops (ops.toList.getD (i + 1 + j) op0) a h (opsM P ops (Q .normal) (ops.toList.drop (i + 1 + j + 1)))) ((ops.toList.drop (i + 1)).take j))) (ops.toList.take i) a h) :
    AW P rd (.region id ops false) Q a h := by
  intro n ρ crd ca w hrd ha hr
  have e1 : ∀ k, k < ops.toList.length → ops.toList.getD k op0 :: ops.toList.drop (k + 1) = ops.toList.drop k := by
    intro k hk
    rw [List.drop_eq_getElem_cons hk, List.getD_eq_getElem?_getD, List.getElem?_eq_getElem hk]; rfl
  have hl : ops.toList = ops.toList.take i ++ (ops.toList.getD i op0 :: ((ops.toList.drop (i + 1)).take j ++ (ops.toList.getD (i + 1 + j) op0 :: ops.toList.drop (i + 1 + j + 1)))) := by
    have e2 : ops.toList.drop (i + 1 + j) = (ops.toList.drop (i + 1)).drop j := by rw [List.drop_drop]
    rw [e1 _ hj, e2, List.take_append_drop, e1 _ hi, List.take_append_drop]
  have key : ∀ l a h, opsM P ops (Q .normal) l a h → semL P ops (Q .normal) l a h := fun l a h hk => semL_of l a h (opsM_sound _ _ _ hk)
  refine wpIn_region (semL.sound _ ops.toList a h ?_ ?_ ρ ca w ha hr)
  · apply List.ext_getElem?
    intro i
    simp only [List.getElem?_map]
    by_cases hi : i < ops.size
    · rw [List.getElem?_range hi]
      simp [Array.getElem?_eq_getElem hi]
    · rw [List.getElem?_eq_none (by simpa using hi), List.getElem?_eq_none (by simpa using hi)]; rfl
  · rw [hl]
    refine semL_append _ _ _ _ ?_
    refine opsL_mono ?_ _ _ _ (opsM_sound _ _ _ hx)
    intro a h hk
    refine SemOp.mono ?_ hk
    intro a h hk
    refine semL_append _ _ _ _ ?_
    refine opsL_mono ?_ _ _ _ (opsM_sound _ _ _ hk)
    intro a h hk
    exact SemOp.mono (fun a h hk => key _ _ _ hk) hk

/-- A part of nil. -/
theorem sliceNil {t e : TypeId} (ht : Sl1 P t e) (k : IntKind) : aSlice P t (.slice none 0 0) none (some (.int k 0)) = some (.slice none 0 0) := by
  obtain ⟨i, hi, _⟩ := ht.one
  simp [aSlice, ht.sl, hi, bnd]
end
end Go.Ab

namespace Go.Ab.S1
open Go.Proofs
set_option linter.unusedSimpArgs false
set_option linter.unusedVariables false
set_option maxRecDepth 100000
set_option maxHeartbeats 4000000
attribute [local push_cast] wpA_skip wpA_ret wpA_exit wpA_seq wpA_block wpA_cond2 andK_true wpA_region wpA_draw wpA_loop thenQ_normal thenQ_ret thenQ_exit blockQ_normal blockQ_ret blockQ_exit condV_true condV_false opsM_nil opsM_cons2 okM_true wantM_true wantM_false stepM seqM_cons2 seqM_nil2 okS_true wantS_true wantS_false stepS skipS okB Keeps_nil contK_app List.zip_cons_cons List.zip_nil_left List.zip_nil_right Op.operands Call.operands Array.toList_append List.append_nil List.nil_append List.all_cons List.all_nil cOK plain put_n put_tm put_none put_df ev_tmp ev_const ev_func wanted_none wanted_some callR_func dop ex_some1 aBuiltin aBin intBin aUn Option.map_some Bool.and_true Bool.true_and Bool.and_self List.map_cons List.map_nil List.toList_toArray List.getElem?_toArray List.getElem?_cons_zero List.getElem?_cons_succ Option.getD_some Option.getD_none Bool.false_eq_true eq_self_iff_true decide_true decide_false List.cons_append aExtract resL resV List.getD_cons_zero List.getD_cons_succ List.getD_nil Nat.succ_ne_self g1 g2 yieldedA2 isB_bool isB_undef g3 Option.bind_some Option.bind_none bne_self_eq_false beq_self_eq_true Bool.not_true Bool.not_false Int.toNat_natCast List.length_map List.mem_cons List.not_mem_nil or_false not_false_eq_true decide_not Bool.not_not bodyR_ret2 bodyR_normal2 closeMarks_nil ex_some0 Nat.zero_add Nat.add_zero ieq ine List.map_toArray Option.toArray_none Option.toArray_some oev Keeps_cons Still_eq selL wpX_skip wpX_ret wpX_exit wpX_seq wpX_block wpX_cond wpX_region wpX_draw wpX_loop List.take_succ_cons List.take_zero List.drop_succ_cons List.drop_zero Int.zero_add Int.add_zero aNil

/-- A slice of one's own that holds these truths. -/
def BoolsV (h : AH) (v : Value) (ob : Option AObj) (A : Nat) (bs : List Bool) : Prop :=
  _root_.Go.Ab.Vec 4 v ob A (bs.map .bool) ∧ ∀ o, ob = some o → h.get A = some o

theorem BoolsV.sl {h : AH} {v : Value} {ob : Option AObj} {A : Nat} {bs : List Bool} (hv : BoolsV h v ob A bs) : SlOf h v (bs.map .bool) := hv.1.sl hv.2
theorem BoolsV.sub {h h' : AH} {v : Value} {ob : Option AObj} {A : Nat} {bs : List Bool} (hv : BoolsV h v ob A bs) (s : Sub h h') : BoolsV h' v ob A bs := ⟨hv.1, fun o e => s _ _ (hv.2 o e)⟩
theorem BoolsV.one {h : AH} {v : Value} {ob : Option AObj} {A : Nat} {bs : List Bool} (hv : BoolsV h v ob A bs) : oneC v = true ∧ v.cells.toList = [v] := by
  obtain ⟨p, l, c, rfl, _⟩ := hv.sl
  exact ⟨rfl, rfl⟩

theorem growB {h : AH} {n : Nat} (hn0 : n ≤ 4294967296) :
    ACall Tryz.prog 121 [.slice none 0 0, .int .i64 n] h (fun r h' => Gr h h' ∧ ∃ ob A, BoolsV h' r ob A [] ∧ (∀ o, ob = some o → h.next ≤ A)) := by
  refine ACall.wf ⟨_, Tryz.func121, rfl, by kernel_rfl⟩ fun hwf => ?_
  refine ACall.of_wpX [3, 5] 27 [.tmp 4] Tryz.func121 rfl (by kernel_rfl) rfl rfl fun a hn hd ha => ?_
  have h0 : ¬ ((n : Int) < 0) := by omega
  have hw : IntKind.i64.wrap (n : Int) = n := wrapI (by omega) (by omega)
  have hS : 0 < SL := by unfold SL; omega
  simp (disch := first | omega | decide | (simp only [List.length_cons, List.length_nil] <;> omega)) only [push_cast, ↓reduceIte, Nat.reduceLT, Nat.reduceEqDiff, reduceCtorEq, Nat.reduceAdd, if_true, if_false, true_and, and_true, hn, hd, ha, h0]
  refine AW.regionN 2 (by simp) ?_
  simp (disch := first | omega | decide | (simp only [List.length_cons, List.length_nil] <;> omega)) only [push_cast, ↓reduceIte, Nat.reduceLT, Nat.reduceEqDiff, reduceCtorEq, Nat.reduceAdd, if_true, if_false, true_and, and_true, hn, hd, ha]
  refine SemOp.cap (T := 43) (e := 4) (p := none) (l := 0) (c := 0) (x := .tmp 9) rfl rfl rfl (by simp (disch := first | omega | decide | (simp only [List.length_cons, List.length_nil] <;> omega)) only [push_cast, ↓reduceIte, Nat.reduceLT, Nat.reduceEqDiff, reduceCtorEq, Nat.reduceAdd, if_true, if_false, true_and, and_true, dst_some, hn]) Tryz.underlying43 (by simp (disch := first | omega | decide | (simp only [List.length_cons, List.length_nil] <;> omega)) only [push_cast, ↓reduceIte, Nat.reduceLT, Nat.reduceEqDiff, reduceCtorEq, Nat.reduceAdd, if_true, if_false, true_and, and_true, hn, ha]) hS ?_
  simp (disch := first | omega | decide | (simp only [List.length_cons, List.length_nil] <;> omega)) only [push_cast, ↓reduceIte, Nat.reduceLT, Nat.reduceEqDiff, reduceCtorEq, Nat.reduceAdd, if_true, if_false, true_and, and_true, hn, hd, ha, lenS Tryz.underlying43, Int.natCast_zero, Int.ofNat_zero, Int.sub_self, Int.sub_zero, hw, wrapI]
  refine condV_of (fun hp => ?_) (fun hp => ?_)
  · have hp' : 0 < n := by simp at hp; omega
    refine AW.regionNN 2 2 (by simp) (by simp) ?_
    simp (disch := first | omega | decide | (simp only [List.length_cons, List.length_nil] <;> omega)) only [push_cast, ↓reduceIte, Nat.reduceLT, Nat.reduceEqDiff, reduceCtorEq, Nat.reduceAdd, if_true, if_false, true_and, and_true, hn, hd, ha]
    refine SemOp.cap (T := 43) (e := 4) (p := none) (l := 0) (c := 0) (x := .tmp 18) rfl rfl rfl (by simp (disch := first | omega | decide | (simp only [List.length_cons, List.length_nil] <;> omega)) only [push_cast, ↓reduceIte, Nat.reduceLT, Nat.reduceEqDiff, reduceCtorEq, Nat.reduceAdd, if_true, if_false, true_and, and_true, dst_some, hn]) Tryz.underlying43 (by simp (disch := first | omega | decide | (simp only [List.length_cons, List.length_nil] <;> omega)) only [push_cast, ↓reduceIte, Nat.reduceLT, Nat.reduceEqDiff, reduceCtorEq, Nat.reduceAdd, if_true, if_false, true_and, and_true, hn, ha]) hS ?_
    simp (disch := first | omega | decide | (simp only [List.length_cons, List.length_nil] <;> omega)) only [push_cast, ↓reduceIte, Nat.reduceLT, Nat.reduceEqDiff, reduceCtorEq, Nat.reduceAdd, if_true, if_false, true_and, and_true, hn, hd, ha, Int.natCast_zero, Int.ofNat_zero, sliceNil sl23]
    refine SemOp.appendZ0 (T := 43) (TI := 3) (B := 1) (z := .bool false) (k := n) (s := .tmp 20) (x := .tmp 21) rfl rfl rfl rfl (by simp (disch := first | omega | decide | (simp only [List.length_cons, List.length_nil] <;> omega)) only [push_cast, ↓reduceIte, Nat.reduceLT, Nat.reduceEqDiff, reduceCtorEq, Nat.reduceAdd, if_true, if_false, true_and, and_true, dst_some, hn]) t23 undI (by simp (disch := first | omega | decide | (simp only [List.length_cons, List.length_nil] <;> omega)) only [push_cast, ↓reduceIte, Nat.reduceLT, Nat.reduceEqDiff, reduceCtorEq, Nat.reduceAdd, if_true, if_false, true_and, and_true]) (by simp (disch := first | omega | decide | (simp only [List.length_cons, List.length_nil] <;> omega)) only [push_cast, ↓reduceIte, Nat.reduceLT, Nat.reduceEqDiff, reduceCtorEq, Nat.reduceAdd, if_true, if_false, true_and, and_true]) hp' (by omega) (by omega) ?_
    simp (disch := first | omega | decide | (simp only [List.length_cons, List.length_nil] <;> omega)) only [push_cast, ↓reduceIte, Nat.reduceLT, Nat.reduceEqDiff, reduceCtorEq, Nat.reduceAdd, if_true, if_false, true_and, and_true, hn, hd, ha, lenS Tryz.underlying43, Int.natCast_zero, Int.ofNat_zero, sliceHiS sl23]
    exact ⟨(Gr.refl hwf).new _, some (.grow (List.replicate n (.bool false)) 4), h.next, ⟨.inr (.inl ⟨_, rfl, rfl, by simp, by simp⟩), fun o e => by cases e; rw [AH.new_get, if_pos rfl]⟩, fun o e => Nat.le_refl _⟩
  · have hp' : n = 0 := by simp at hp; omega
    simp (disch := first | omega | decide | (simp only [List.length_cons, List.length_nil] <;> omega)) only [push_cast, ↓reduceIte, Nat.reduceLT, Nat.reduceEqDiff, reduceCtorEq, Nat.reduceAdd, if_true, if_false, true_and, and_true, hn, hd, ha]
    exact ⟨Gr.refl hwf, none, 0, ⟨.inl ⟨rfl, rfl, rfl⟩, fun o e => (nomatch e)⟩, fun o e => (nomatch e)⟩

/-! ### slices.Concat -/

theorem t44 : SlT Tryz.prog 44 43 24 (.slice none 0 0) := ⟨Tryz.underlying44, ⟨(Tryz.prog.info? 43).get (by kernel_rfl), by kernel_rfl, by kernel_rfl, by kernel_rfl, by kernel_rfl⟩, ⟨_, Tryz.underlying43, rfl⟩, rfl, rfl, rfl⟩
theorem sl44 : Sl1 Tryz.prog 44 43 := t44.sl1

theorem flat_take {α : Type} {l : List (List α)} {i : Nat} (hi : i < l.length) : (l.take (i + 1)).flatten = (l.take i).flatten ++ l.getD i [] := by
  rw [take_succ_getD hi [], List.flatten_append]; simp

theorem flat_le2 {α : Type} (l : List (List α)) (i : Nat) : (l.take i).flatten.length ≤ l.flatten.length := by
  conv => rhs; rw [← List.take_append_drop i l, List.flatten_append, List.length_append]
  omega

theorem flat_get_le {α : Type} {l : List (List α)} {i : Nat} (hi : i < l.length) : (l.getD i []).length ≤ l.flatten.length := by
  have := flat_le2 l (i + 1)
  rw [flat_take hi, List.length_append] at this; omega

theorem concatB {h : AH} {v : Value} {vs : List Value} {bss : List (List Bool)} (hv : SlOf h v vs) (hl : vs.length = bss.length) (hvs : ∀ i, i < vs.length → SlOf h (vs.getD i undef) ((bss.getD i []).map .bool)) (hb : bss.flatten.length ≤ 4294967296) (hl8 : vs.length ≤ 8) :
    ACall Tryz.prog 97 [v] h (fun r h' => Gr h h' ∧ ∃ ob A, BoolsV h' r ob A bss.flatten ∧ (∀ o, ob = some o → h.next ≤ A)) := by
  refine ACall.wf ⟨_, Tryz.func97, rfl, by kernel_rfl⟩ fun hwf => ?_
  refine ACall.of_wp 36 [.tmp 2] Tryz.func97 rfl (by kernel_rfl) rfl rfl fun a hn hd ha => ?_
  have hlen2 : ∀ hh, aLen Tryz.prog 44 v hh = some (.int .i64 vs.length) := by
    intro hh
    obtain ⟨p, l, c, rfl, rfl, _⟩ := hv
    exact lenS Tryz.underlying44 _ _ _ _
  simp (disch := first | omega | decide | (simp only [List.length_cons, List.length_nil] <;> omega)) only [push_cast, ↓reduceIte, Nat.reduceLT, Nat.reduceEqDiff, reduceCtorEq, Nat.reduceAdd, if_true, if_false, true_and, and_true, hn, hd, ha, hlen2]
  refine AW.mono (Q := fun e a' h' => e = .exit 0 ∧ h' = h ∧ a'.n = 36 ∧ a'.df = [] ∧ a'.tm 0 = v ∧ a'.tm 3 = .int .i64 bss.flatten.length) ?_ ?_
  case refine_2 =>
    refine AW.loopN 11 [3, 5] (fun m a' h' => h' = h ∧ ∃ i : Nat, a'.tm 11 = .int .i64 i ∧ i + m = vs.length ∧ a'.tm 3 = .int .i64 (bss.take i).flatten.length) vs.length ?_ ?_
    · exact ⟨rfl, 0, by simp (disch := first | omega | decide | (simp only [List.length_cons, List.length_nil] <;> omega)) only [push_cast, ↓reduceIte, Nat.reduceLT, Nat.reduceEqDiff, reduceCtorEq, Nat.reduceAdd, if_true, if_false, true_and, and_true], by omega, by simp (disch := first | omega | decide | (simp only [List.length_cons, List.length_nil] <;> omega)) only [push_cast, ↓reduceIte, Nat.reduceLT, Nat.reduceEqDiff, reduceCtorEq, Nat.reduceAdd, if_true, if_false, true_and, and_true, List.flatten_nil, List.length_nil, Int.natCast_zero, Int.ofNat_zero]⟩
    rintro a1 m a' h' hk kn kd kt ⟨rfl, i, h11, him, h3⟩
    simp (disch := first | omega | decide | (simp only [List.length_cons, List.length_nil] <;> omega)) only [push_cast, ↓reduceIte, Nat.reduceLT, Nat.reduceEqDiff, reduceCtorEq, Nat.reduceAdd, if_true, if_false, true_and, and_true, kn, kd, kt, hn, hd, ha, h11, h3]
    refine condV_of (fun hlt => ?_) (fun hge => ?_)
    · have hi : i < vs.length := by have := hlt; simp at this; omega
      have hidx := hv.idx sl44 .i64 i (by omega) (by omega)
      have hld := hv.ld sl44 i (by omega)
      rw [Int.toNat_natCast] at hidx
      have hbi := hvs i hi
      have hft := flat_take (l := bss) (i := i) (by omega)
      have hle := flat_le2 bss (i + 1)
      have hw : IntKind.i64.wrap ((i : Int) + 1) = i + 1 := wrapI (by omega) (by omega)
      have hsum : ((bss.take i).flatten.length : Int) + (bss.getD i []).length = (bss.take (i + 1)).flatten.length := by rw [hft, List.length_append]; omega
      have hws : IntKind.i64.wrap ((bss.take (i + 1)).flatten.length : Int) = (bss.take (i + 1)).flatten.length := wrapI (by omega) (by omega)
      have hneg : ¬ (((bss.take (i + 1)).flatten.length : Int) < 0) := by omega
      generalize vs.getD i undef = x at *
      simp (disch := first | omega | decide | (simp only [List.length_cons, List.length_nil] <;> omega)) only [push_cast, ↓reduceIte, Nat.reduceLT, Nat.reduceEqDiff, reduceCtorEq, Nat.reduceAdd, if_true, if_false, true_and, and_true, kn, kd, kt, hn, hd, ha, h11, h3, hidx, hld, hbi.lenA Tryz.underlying43, hsum, hws, hneg, hw]
      exact ⟨m - 1, by omega, (by simp (disch := decide) only [Kp_put, put_none, hk]), rfl, i + 1, by simp (disch := first | omega | decide | (simp only [List.length_cons, List.length_nil] <;> omega)) only [push_cast, ↓reduceIte, Nat.reduceLT, Nat.reduceEqDiff, reduceCtorEq, Nat.reduceAdd, if_true, if_false, true_and, and_true], by omega, by simp (disch := first | omega | decide | (simp only [List.length_cons, List.length_nil] <;> omega)) only [push_cast, ↓reduceIte, Nat.reduceLT, Nat.reduceEqDiff, reduceCtorEq, Nat.reduceAdd, if_true, if_false, true_and, and_true]⟩
    · have hi : i = bss.length := by have := hge; simp at this; omega
      subst hi
      rw [List.take_length] at h3
      simp (disch := first | omega | decide | (simp only [List.length_cons, List.length_nil] <;> omega)) only [push_cast, ↓reduceIte, Nat.reduceLT, Nat.reduceEqDiff, reduceCtorEq, Nat.reduceAdd, if_true, if_false, true_and, and_true, kn, kd, kt, hn, hd, ha, h11, h3]
  clear ha hn hd a
  rintro _ a h1 ⟨rfl, rfl, hn, hd, h0, h3⟩
  simp (disch := first | omega | decide | (simp only [List.length_cons, List.length_nil] <;> omega)) only [push_cast, ↓reduceIte, Nat.reduceLT, Nat.reduceEqDiff, reduceCtorEq, Nat.reduceAdd, if_true, if_false, true_and, and_true, hn, hd, h0, h3]
  refine ACall.mono ?_ (growB hb)
  rintro r0 h2 ⟨g2, ob0, A0, hr0, hlo0⟩
  simp (disch := first | omega | decide | (simp only [List.length_cons, List.length_nil] <;> omega)) only [push_cast, ↓reduceIte, Nat.reduceLT, Nat.reduceEqDiff, reduceCtorEq, Nat.reduceAdd, if_true, if_false, true_and, and_true, hn, hd, h0, h3, hlen2]
  refine AW.loopN 27 [6, 8] (fun m a' h' => ∃ (i : Nat) (rv : Value) (ob : Option AObj) (A : Nat), a'.tm 27 = .int .i64 i ∧ i + m = vs.length ∧ a'.tm 6 = rv ∧ Gr h1 h' ∧ BoolsV h' rv ob A (bss.take i).flatten ∧ (∀ o, ob = some o → h1.next ≤ A)) vs.length ?_ ?_
  · exact ⟨0, r0, ob0, A0, by simp (disch := first | omega | decide | (simp only [List.length_cons, List.length_nil] <;> omega)) only [push_cast, ↓reduceIte, Nat.reduceLT, Nat.reduceEqDiff, reduceCtorEq, Nat.reduceAdd, if_true, if_false, true_and, and_true], by omega, by simp (disch := first | omega | decide | (simp only [List.length_cons, List.length_nil] <;> omega)) only [push_cast, ↓reduceIte, Nat.reduceLT, Nat.reduceEqDiff, reduceCtorEq, Nat.reduceAdd, if_true, if_false, true_and, and_true], g2, hr0, hlo0⟩
  clear hr0 hlo0 g2
  rintro a1 m a' h' hk kn kd kt ⟨i, rv, ob, A, h27, him, h6, hg, hr, hlo⟩
  simp (disch := first | omega | decide | (simp only [List.length_cons, List.length_nil] <;> omega)) only [push_cast, ↓reduceIte, Nat.reduceLT, Nat.reduceEqDiff, reduceCtorEq, Nat.reduceAdd, if_true, if_false, true_and, and_true, kn, kd, kt, hn, hd, h0, h27, h6]
  refine condV_of (fun hlt => ?_) (fun hge => ?_)
  · have hi : i < vs.length := by have := hlt; simp at this; omega
    have hv' := hv.sub hg.sub
    have hidx := hv'.idx sl44 .i64 i (by omega) (by omega)
    have hld := hv'.ld sl44 i (by omega)
    rw [Int.toNat_natCast] at hidx
    have hbi := ((hvs i hi).sub hg.sub).src
    have hft := flat_take (l := bss) (i := i) (by omega)
    have hle := flat_le2 bss (i + 1)
    have hle2 : (bss.take i).flatten.length + (bss.getD i []).length = (bss.take (i + 1)).flatten.length := by rw [hft, List.length_append]
    have hw : IntKind.i64.wrap ((i : Int) + 1) = i + 1 := wrapI (by omega) (by omega)
    obtain ⟨r', h'', happ, hgo⟩ := appendAny (t := 43) (t2 := 43) t23 ⟨_, Tryz.underlying43⟩ hg.wf hr.1 hr.2 hbi (by simp [oneC]) (by simp only [List.length_map]; omega) (by simp only [List.length_map]; omega)
    obtain ⟨ob', A', hV, hgA, hA⟩ := hgo.up
    simp (disch := first | omega | decide | (simp only [List.length_cons, List.length_nil] <;> omega)) only [push_cast, ↓reduceIte, Nat.reduceLT, Nat.reduceEqDiff, reduceCtorEq, Nat.reduceAdd, if_true, if_false, true_and, and_true, kn, kd, kt, hn, hd, h0, h27, h6, hidx, hld, happ, hw]
    refine ⟨m - 1, by omega, (by simp (disch := decide) only [Kp_put, put_none, hk]), i + 1, r', ob', A', by simp (disch := first | omega | decide | (simp only [List.length_cons, List.length_nil] <;> omega)) only [push_cast, ↓reduceIte, Nat.reduceLT, Nat.reduceEqDiff, reduceCtorEq, Nat.reduceAdd, if_true, if_false, true_and, and_true], by omega, by simp (disch := first | omega | decide | (simp only [List.length_cons, List.length_nil] <;> omega)) only [push_cast, ↓reduceIte, Nat.reduceLT, Nat.reduceEqDiff, reduceCtorEq, Nat.reduceAdd, if_true, if_false, true_and, and_true], ⟨hgo.wf, fun B o hB => hgo.frx B o (hg.sub B o hB) (fun e => ?_), Nat.le_trans hg.nx hgo.nx⟩, ⟨by rw [hft, List.map_append]; exact hV, hgA⟩, fun o e => ?_⟩
    · cases hob : ob with
      | none => rfl
      | some o2 =>
        have h8 := hlo o2 hob
        have := AH.get_lt hwf hB
        omega
    · rcases hA (by rw [e]; simp) with ⟨rfl, hne⟩ | hA
      · cases hob : ob with
        | none => exact absurd hob hne
        | some o2 => exact hlo o2 hob
      · exact Nat.le_trans hg.nx hA
  · have hi : i = bss.length := by have := hge; simp at this; omega
    subst hi
    rw [List.take_length] at hr
    simp (disch := first | omega | decide | (simp only [List.length_cons, List.length_nil] <;> omega)) only [push_cast, ↓reduceIte, Nat.reduceLT, Nat.reduceEqDiff, reduceCtorEq, Nat.reduceAdd, if_true, if_false, true_and, and_true, kn, kd, kt, hn, hd, h0, h27, h6]
    exact ⟨hg, ob, A, hr, hlo⟩

/-! ### netlist.of -/

def ofE (V : List Bool) (x : Int) : Bool := decide (x = -2) || (decide (0 ≤ x) && V.getD x.toNat false)

theorem ofB {h : AH} {v : Value} {V : List Bool} {x : Int} (hv : SlOf h v (V.map .bool)) (hx : x < V.length) : ACall Tryz.prog 74 [v, .int .i64 x] h (fun r h' => r = .bool (ofE V x) ∧ h' = h) := by
  refine ACall.of_wp 17 [.tmp 4] Tryz.func74 rfl (by kernel_rfl) rfl rfl fun a hn hd ha => ?_
  by_cases e1 : x = -2
  · simp (disch := first | omega | decide | (simp only [List.length_cons, List.length_nil] <;> omega)) only [push_cast, ↓reduceIte, Nat.reduceLT, Nat.reduceEqDiff, reduceCtorEq, Nat.reduceAdd, if_true, if_false, true_and, and_true, hn, hd, ha, e1, ofE, Bool.true_or]
  by_cases e2 : 0 ≤ x
  · have hidx := hv.idxB sl23 .i64 x e2 hx
    have hld := hv.ldB sl23 x.toNat (by omega)
    simp (disch := first | omega | decide | (simp only [List.length_cons, List.length_nil] <;> omega)) only [push_cast, ↓reduceIte, Nat.reduceLT, Nat.reduceEqDiff, reduceCtorEq, Nat.reduceAdd, if_true, if_false, true_and, and_true, decide_eq_true, decide_eq_false, hn, hd, ha, ge_iff_le, e1, e2, ofE, Bool.false_or, hidx, hld]
  · simp (disch := first | omega | decide | (simp only [List.length_cons, List.length_nil] <;> omega)) only [push_cast, ↓reduceIte, Nat.reduceLT, Nat.reduceEqDiff, reduceCtorEq, Nat.reduceAdd, if_true, if_false, true_and, and_true, decide_eq_true, decide_eq_false, hn, hd, ha, ge_iff_le, e1, e2, ofE, Bool.false_or, Bool.false_and]


theorem aBuild3 (h : AH) {x y z : Value} (hx : x.cells.toList = [x] ∧ oneC x = true) (hy : y.cells.toList = [y] ∧ oneC y = true) (hz : z.cells.toList = [z] ∧ oneC z = true) :
    aBuildSlice Tryz.prog 44 3 [(0, x), (1, y), (2, z)] h = some (.slice (some ⟨h.next, 0, none⟩) 3 3, h.new (.row [x, y, z] 43 true)) := by
  obtain ⟨i, hi, h1, hb, hz0⟩ := t44.info
  have hp : plain 9 (.slice none 0 0) = true := rfl
  have hc : (Value.slice none 0 0).cells.size = 1 := rfl
  have hl : (Value.slice none 0 0).cells.toList = [.slice none 0 0] := rfl
  have sx : x.cells.size = 1 := by have := congrArg List.length hx.1; simpa using this
  have sy : y.cells.size = 1 := by have := congrArg List.length hy.1; simpa using this
  have sz : z.cells.size = 1 := by have := congrArg List.length hz.1; simpa using this
  simp only [aBuildSlice, t44.sl, hi, hz0, h1, hp, hc, fillL, hl, zeros_one]
  simp [SL, sx, sy, sz, hx, hy, hz, setL, List.replicate]

theorem SlOf.one2 {h : AH} {v : Value} {vs : List Value} (hs : SlOf h v vs) : v.cells.toList = [v] ∧ oneC v = true := by
  obtain ⟨p, l, c, rfl, _⟩ := hs
  exact ⟨rfl, rfl⟩

/-- What a table is asked at: the values of the pins, as bits. -/
def kGo (V : List Bool) : Int → Nat → List Int → Int
  | acc, _, [] => acc
  | acc, j, p :: ps => kGo V (if ofE V p = true then orE .i64 acc (shlE .i64 j) else acc) (j + 1) ps

def instTable (n : Net) (i : Nat) : Int := (n.cells.getD (n.insts.getD i default).cell.toNat default).table
def valStep (n : Net) (V : List Bool) (i : Int) : List Bool := V.set (firstE n + i).toNat (evalE (instTable n i.toNat) (kGo V 0 0 (pinsOf n i.toNat)))
def valsE (n : Net) (O : List Int) (xs ys : List Bool) : List Bool := O.foldl (valStep n) (xs ++ (ys ++ List.replicate n.insts.length false))

theorem valStep_len (n : Net) (V : List Bool) (i : Int) : (valStep n V i).length = V.length := by simp [valStep]
theorem valGo_len (n : Net) : ∀ (O : List Int) (V : List Bool), (O.foldl (valStep n) V).length = V.length := by
  intro O
  induction O with
  | nil => intro V; rfl
  | cons i is ih => intro V; rw [List.foldl_cons, ih, valStep_len]

theorem valPins {h : AH} {pv rv : Value} {ps : List Int} {V : List Bool} {a : AAct} (hn : a.n = 84) (hd : a.df = []) (hpv : SlOf h pv (ps.map (.int .i64))) (hr : SlOf h rv (V.map .bool)) (hps : ∀ p ∈ ps, p < V.length) (hpl : ps.length ≤ 8)
    (h48 : a.tm 48 = pv) (h49 : a.tm 49 = .int .i64 ps.length) (h50 : a.tm 50 = .int .i64 0) (h10 : a.tm 10 = rv) (h13 : a.tm 13 = .int .i64 0) :
    AW Tryz.prog none (bodyBlk Tryz.f73 2) (fun e a' h' => e = .exit 2 ∧ h' = h ∧ a'.n = 84 ∧ a'.df = [] ∧ (∀ i, i < 50 → i ∉ [13, 14, 15] → a'.tm i = a.tm i) ∧ a'.tm 13 = .int .i64 (kGo V 0 0 ps)) a h := by
  refine AW.at (rfl : bodyBlk Tryz.f73 2 = .loop _) ?_
  refine AW.loopN 50 [13, 14, 15] (fun q c k => k = h ∧ ∃ (j : Nat) (acc : Int), c.tm 50 = .int .i64 j ∧ j + q = ps.length ∧ c.tm 13 = .int .i64 acc ∧ kGo V acc j (ps.drop j) = kGo V 0 0 ps) ps.length ?_ ?_
  · exact ⟨rfl, 0, 0, by rw [h50]; rfl, by omega, h13, rfl⟩
  rintro c1 q c k hk kn kd kt ⟨rfl, j, acc, h50, hjq, h13, hgo⟩
  simp (disch := first | omega | decide | (simp only [List.length_cons, List.length_nil] <;> omega)) only [push_cast, ↓reduceIte, Nat.reduceLT, Nat.reduceEqDiff, reduceCtorEq, Nat.reduceAdd, if_true, if_false, true_and, and_true, kn, kd, kt, hn, hd, h48, h49, h10, h50, h13]
  refine condV_of (fun hlt2 => ?_) (fun hge2 => ?_)
  · have hj : j < ps.length := by have := hlt2; simp at this; omega
    have hidxp := hpv.idxI sl22 .i64 j (by omega) (by omega)
    have hldp := hpv.ldI sl22 j (by omega)
    rw [Int.toNat_natCast] at hidxp
    have hpp := hps _ (getD_mem hj 0)
    rw [drop_cons_getD hj (0 : Int), kGo] at hgo
    have hwj : IntKind.i64.wrap ((j : Int) + 1) = j + 1 := wrapI (by omega) (by omega)
    have hsh := shl1 .i64 (j : Int) (by omega)
    generalize ps.getD j 0 = p at *
    simp (disch := first | omega | decide | (simp only [List.length_cons, List.length_nil] <;> omega)) only [push_cast, ↓reduceIte, Nat.reduceLT, Nat.reduceEqDiff, reduceCtorEq, Nat.reduceAdd, if_true, if_false, true_and, and_true, kn, kd, kt, hn, hd, h48, h49, h10, h50, h13, hidxp, hldp]
    refine ACall.mono ?_ (ofB (x := p) hr hpp)
    rintro _ h8 ⟨rfl, rfl⟩
    simp (disch := first | omega | decide | (simp only [List.length_cons, List.length_nil] <;> omega)) only [push_cast, ↓reduceIte, Nat.reduceLT, Nat.reduceEqDiff, reduceCtorEq, Nat.reduceAdd, if_true, if_false, true_and, and_true, kn, kd, kt, hn, hd, h48, h49, h10, h50, h13]
    refine condV_of (fun e7 => ?_) (fun e7 => ?_)
    · rw [if_pos e7] at hgo
      simp (disch := first | omega | decide | (simp only [List.length_cons, List.length_nil] <;> omega)) only [push_cast, ↓reduceIte, Nat.reduceLT, Nat.reduceEqDiff, reduceCtorEq, Nat.reduceAdd, if_true, if_false, true_and, and_true, kn, kd, kt, hn, hd, h48, h49, h10, h50, h13]
      rw [hsh]
      generalize shlE .i64 (j : Int) = S at hgo ⊢
      simp (disch := first | omega | decide | (simp only [List.length_cons, List.length_nil] <;> omega)) only [push_cast, ↓reduceIte, Nat.reduceLT, Nat.reduceEqDiff, reduceCtorEq, Nat.reduceAdd, if_true, if_false, true_and, and_true, kn, kd, kt, hn, hd, h48, h49, h10, h50, h13, hwj]
      exact ⟨q - 1, by omega, (by simp (disch := decide) only [Kp_put, put_none, hk]), rfl, j + 1, orE .i64 acc S, by simp (disch := first | omega | decide | (simp only [List.length_cons, List.length_nil] <;> omega)) only [push_cast, ↓reduceIte, Nat.reduceLT, Nat.reduceEqDiff, reduceCtorEq, Nat.reduceAdd, if_true, if_false, true_and, and_true], by omega, by simp (disch := first | omega | decide | (simp only [List.length_cons, List.length_nil] <;> omega)) only [push_cast, ↓reduceIte, Nat.reduceLT, Nat.reduceEqDiff, reduceCtorEq, Nat.reduceAdd, if_true, if_false, true_and, and_true, orE], hgo⟩
    · rw [if_neg (by rw [e7]; decide)] at hgo
      simp (disch := first | omega | decide | (simp only [List.length_cons, List.length_nil] <;> omega)) only [push_cast, ↓reduceIte, Nat.reduceLT, Nat.reduceEqDiff, reduceCtorEq, Nat.reduceAdd, if_true, if_false, true_and, and_true, kn, kd, kt, hn, hd, h48, h49, h10, h50, h13, hwj]
      exact ⟨q - 1, by omega, (by simp (disch := decide) only [Kp_put, put_none, hk]), rfl, j + 1, acc, by simp (disch := first | omega | decide | (simp only [List.length_cons, List.length_nil] <;> omega)) only [push_cast, ↓reduceIte, Nat.reduceLT, Nat.reduceEqDiff, reduceCtorEq, Nat.reduceAdd, if_true, if_false, true_and, and_true], by omega, by simp (disch := first | omega | decide | (simp only [List.length_cons, List.length_nil] <;> omega)) only [push_cast, ↓reduceIte, Nat.reduceLT, Nat.reduceEqDiff, reduceCtorEq, Nat.reduceAdd, if_true, if_false, true_and, and_true, h13], hgo⟩
  · have hj : ps.length ≤ j := by have := hge2; simp at this; omega
    rw [List.drop_of_length_le hj, kGo] at hgo
    subst hgo
    simp (disch := first | omega | decide | (simp only [List.length_cons, List.length_nil] <;> omega)) only [push_cast, ↓reduceIte, Nat.reduceLT, Nat.reduceEqDiff, reduceCtorEq, Nat.reduceAdd, if_true, if_false, true_and, and_true, kn, kd, kt, hn, hd, h48, h49, h10, h50, h13]
    exact fun i h1 h2 => by rw [if_neg (by omega)]; exact kt i h1 (by simpa using h2)

set_option maxHeartbeats 8000000 in
theorem valuesN {h : AH} {n : Net} {cv fv iv ov vo v2 v3 : Value} {O : List Int} {xs ys : List Bool} (r : NetR h n cv fv iv ov) (s : ShapeOK n) (ho : SlOf h vo (O.map (.int .i64))) (hO : ∀ i ∈ O, 0 ≤ i ∧ i < n.insts.length) (hOl : O.length ≤ 4294967296)
    (h2 : SlOf h v2 (xs.map .bool)) (h3 : SlOf h v3 (ys.map .bool)) :
    ACall Tryz.prog 73 [.agg (netC n cv fv iv ov).toArray, vo, v2, v3] h (fun r h' => Gr h h' ∧ ∃ vv, r = .tuple #[vv, .int .i64 (if (xs.length : Int) = n.inputs ∧ ys.length = n.flops.length then 0 else 12)] ∧
      ((xs.length : Int) = n.inputs ∧ ys.length = n.flops.length → SlOf h' vv ((valsE n O xs ys).map .bool))) := by
  refine ACall.wf ⟨_, Tryz.func73, rfl, by kernel_rfl⟩ fun hwf => ?_
  refine ACall.of_wp 84 [.tmp 8, .tmp 9] Tryz.func73 rfl (by kernel_rfl) rfl rfl fun a hn hd ha => ?_
  have hi0 := s.i0; have hi1 := s.i1; have hfl := s.fl; have hil := s.il
  have hbox := boxA 27 h _ r.one
  have hN := NetAt.new (h := h) (n := n) (cv := cv) (fv := fv) (iv := iv) (ov := ov)
  have g1 : Gr h (h.new (.row (netC n cv fv iv ov) 27 true)) := (Gr.refl hwf).new _
  simp (disch := first | omega | decide | (simp only [List.length_cons, List.length_nil] <;> omega)) only [push_cast, ↓reduceIte, Nat.reduceLT, Nat.reduceEqDiff, reduceCtorEq, Nat.reduceAdd, if_true, if_false, true_and, and_true, hn, hd, ha, hbox, faL foN0, faL foN1, faL foN2, faL foN3, faL foN4, hN.l0, hN.l1, hN.l2, hN.l3, hN.l4, hN.la, h2.lenA Tryz.underlying43, h3.lenA Tryz.underlying43, r.f.len Tryz.underlying23]
  generalize h.new (.row (netC n cv fv iv ov) 27 true) = h1 at hN g1 ⊢
  generalize h.next = B0 at hN ⊢
  by_cases c1 : (xs.length : Int) = n.inputs
  case neg =>
    simp (disch := first | omega | decide | (simp only [List.length_cons, List.length_nil] <;> omega)) only [push_cast, ↓reduceIte, Nat.reduceLT, Nat.reduceEqDiff, reduceCtorEq, Nat.reduceAdd, if_true, if_false, true_and, and_true, hn, hd, ha, c1, false_and]
    exact ⟨g1, .slice none 0 0, rfl, fun x => absurd x id⟩
  by_cases c2 : ys.length = n.flops.length
  case neg =>
    have c2' : ¬ ((ys.length : Int) = n.flops.length) := by omega
    simp (disch := first | omega | decide | (simp only [List.length_cons, List.length_nil] <;> omega)) only [push_cast, ↓reduceIte, Nat.reduceLT, Nat.reduceEqDiff, reduceCtorEq, Nat.reduceAdd, if_true, if_false, true_and, and_true, hn, hd, ha, c1, c2, c2', faL foN0, faL foN1, faL foN2, faL foN3, faL foN4, hN.l0, hN.l1, hN.l2, hN.l3, hN.l4, hN.la, h2.lenA Tryz.underlying43, h3.lenA Tryz.underlying43, r.f.len Tryz.underlying23, and_false]
    exact ⟨g1, .slice none 0 0, rfl, fun x => absurd x id⟩
  have c2' : ((ys.length : Int) = n.flops.length) := by omega
  have w1 := g1.wf
  have r1 := r.sub g1.sub
  have hm := fun hh => aMakeSlice_at t23 hh n.insts.length (by omega) (by omega)
  have hrep : List.replicate n.insts.length (Value.bool false) = (List.replicate n.insts.length false).map .bool := by simp
  have g2 := (Gr.refl w1).new (.row (List.replicate n.insts.length (.bool false)) 4 true)
  have hz : SlOf (h1.new (.row (List.replicate n.insts.length (.bool false)) 4 true)) (.slice (some ⟨h1.next, 0, none⟩) n.insts.length n.insts.length) ((List.replicate n.insts.length false).map .bool) :=
    SlOf.lit (by rw [AH.new_get, if_pos rfl]) (by rw [← hrep]; rfl) (by simp)
  have hb3 := fun hh => aBuild3 hh (SlOf.one2 h2) (SlOf.one2 h3) (SlOf.one2 hz)
  simp (disch := first | omega | decide | (simp only [List.length_cons, List.length_nil] <;> omega)) only [push_cast, ↓reduceIte, Nat.reduceLT, Nat.reduceEqDiff, reduceCtorEq, Nat.reduceAdd, if_true, if_false, true_and, and_true, hn, hd, ha, c1, c2', faL foN0, faL foN1, faL foN2, faL foN3, faL foN4, hN.l0, hN.l1, hN.l2, hN.l3, hN.l4, hN.la, h2.lenA Tryz.underlying43, h3.lenA Tryz.underlying43, r.f.len Tryz.underlying23, r.i.len Tryz.underlying24, hm, hb3]
  generalize hzv : Value.slice (some ⟨h1.next, 0, none⟩) n.insts.length n.insts.length = zv at hz ⊢
  generalize h1.new (.row (List.replicate n.insts.length (.bool false)) 4 true) = k2 at g2 hz ⊢
  have g3 := (Gr.refl g2.wf).new (.row [v2, v3, zv] 43 true)
  have hs3 : SlOf (k2.new (.row [v2, v3, zv] 43 true)) (.slice (some ⟨k2.next, 0, none⟩) 3 3) [v2, v3, zv] := SlOf.lit (by rw [AH.new_get, if_pos rfl]) rfl rfl
  have hflat : [xs, ys, List.replicate n.insts.length false].flatten = xs ++ (ys ++ List.replicate n.insts.length false) := by simp
  have g13 := g2.trans g3
  refine ACall.mono ?_ (concatB (bss := [xs, ys, List.replicate n.insts.length false]) hs3 rfl (fun i hi => ?_) (by rw [hflat]; simp; omega) (by simp))
  case refine_2 =>
    simp only [List.length_cons, List.length_nil] at hi
    rcases (show i = 0 ∨ i = 1 ∨ i = 2 by omega) with rfl | rfl | rfl
    · exact (h2.sub g1.sub).sub g13.sub
    · exact (h3.sub g1.sub).sub g13.sub
    · exact hz.sub g3.sub
  rintro rv k4 ⟨g4, ob0, A, hr0, hlo0⟩
  rw [hflat] at hr0
  have g14 := g13.trans g4
  have hlo1 : ∀ o, ob0 = some o → h1.next ≤ A := fun o e => Nat.le_trans g13.nx (hlo0 o e)
  clear hlo0 hs3 hz hm hb3 g2 g3 g4 g13 hzv
  have ho1 := ho.sub g1.sub
  simp (disch := first | omega | decide | (simp only [List.length_cons, List.length_nil] <;> omega)) only [push_cast, ↓reduceIte, Nat.reduceLT, Nat.reduceEqDiff, reduceCtorEq, Nat.reduceAdd, if_true, if_false, true_and, and_true, hn, hd, ha, ho.lenA Tryz.underlying25]
  have hL0 : (xs ++ (ys ++ List.replicate n.insts.length false)).length = n.inputs.toNat + n.flops.length + n.insts.length := by simp; omega
  have hF : firstE n = n.inputs + n.flops.length := rfl
  refine AW.loopN 39 [12, 13, 14, 15] (fun m a' h' => ∃ (i : Nat) (V : List Bool) (ob : Option AObj), a'.tm 39 = .int .i64 i ∧ i + m = O.length ∧ Gr h1 h' ∧ BoolsV h' rv ob A V ∧ (∀ o, ob = some o → h1.next ≤ A) ∧ V = (O.take i).foldl (valStep n) (xs ++ (ys ++ List.replicate n.insts.length false))) O.length ?_ ?_
  · exact ⟨0, _, ob0, by simp (disch := first | omega | decide | (simp only [List.length_cons, List.length_nil] <;> omega)) only [push_cast, ↓reduceIte, Nat.reduceLT, Nat.reduceEqDiff, reduceCtorEq, Nat.reduceAdd, if_true, if_false, true_and, and_true], by omega, g14, hr0, hlo1, rfl⟩
  clear hr0 hlo1 g14 ob0
  rintro a1 m a' h' hk kn kd kt ⟨i, V, ob, h39, him, hg, hr, hlo, hV⟩
  simp (disch := first | omega | decide | (simp only [List.length_cons, List.length_nil] <;> omega)) only [push_cast, ↓reduceIte, Nat.reduceLT, Nat.reduceEqDiff, reduceCtorEq, Nat.reduceAdd, if_true, if_false, true_and, and_true, kn, kd, kt, hn, hd, ha, h39]
  refine condV_of (fun hlt => ?_) (fun hge => ?_)
  · have hi : i < O.length := by have := hlt; simp at this; omega
    have hVl : V.length = n.inputs.toNat + n.flops.length + n.insts.length := by rw [hV, valGo_len]; exact hL0
    have hoi := ho1.sub hg.sub
    have hidx := hoi.idxI sl22 .i64 i (by omega) (by omega)
    have hld := hoi.ldI sl22 i (by omega)
    rw [Int.toNat_natCast] at hidx
    have hz := hO _ (getD_mem hi 0)
    have hfold : (O.take (i + 1)).foldl (valStep n) (xs ++ (ys ++ List.replicate n.insts.length false)) = valStep n V (O.getD i 0) := by rw [take_succ_getD hi 0, List.foldl_append, ← hV]; rfl
    generalize O.getD i 0 = z at *
    have hN4 := hN.sub hg.sub
    have r4 := r1.sub hg.sub
    have hzl : z.toNat < n.insts.length := by omega
    obtain ⟨cs, ⟨pv, rfl, hpv⟩, -, hcf, hca⟩ := r1.i.get (P := Tryz.prog) hzl default
    have hcf0 := hcf 0 _ fl3 (by decide)
    have hcf1 := aLoad_sub hg.sub (hcf 1 _ flI (by decide))
    replace hpv := hpv.sub hg.sub
    have hca0 := hca _ _ _ foI0
    have hca1 := hca _ _ _ foI1
    have hcell := s.cell _ (getD_mem hzl default)
    have hpe : (n.insts.getD z.toNat default).pins = pinsOf n z.toNat := rfl
    have hp4 := s.pinsOf4 hzl
    have hpr : ∀ p ∈ pinsOf n z.toNat, -2 ≤ p ∧ p < firstE n + n.insts.length := fun p hp => s.pinOf hzl hp
    rw [hpe] at hpv
    obtain ⟨cc, ⟨dv, rfl, hdv⟩, -, hccf, hcca⟩ := r1.c.get (P := Tryz.prog) (i := (n.insts.getD z.toNat default).cell.toNat) (by omega) default
    have hcc2 : aLoad Tryz.prog 37 (slF cellL.sz cv (n.insts.getD z.toNat default).cell.toNat 2) h1 = some (.int .u64 (instTable n z.toNat)) := hccf 2 _ flU (by decide)
    have hcca2 := hcca _ _ _ foC2
    have hidxI := r4.i.idx (P := Tryz.prog) Tryz.underlying24 infI .i64 z (by omega) (by omega)
    have hidxC := r4.c.idx (P := Tryz.prog) Tryz.underlying22 infC .i64 (n.insts.getD z.toNat default).cell (by omega) (by omega)
    have hcf0' : aLoad Tryz.prog 3 (slF instL.sz iv z.toNat 0) h1 = some (.int .i64 (n.insts.getD z.toNat default).cell) := hcf0
    have hcf1' : aLoad Tryz.prog 25 (slF instL.sz iv z.toNat 1) h' = some pv := hcf1
    generalize (n.insts.getD z.toNat default).cell = xc at *
    have hw : IntKind.i64.wrap ((i : Int) + 1) = i + 1 := wrapI (by omega) (by omega)
    simp (disch := first | omega | decide | (simp only [List.length_cons, List.length_nil] <;> omega)) only [push_cast, ↓reduceIte, Nat.reduceLT, Nat.reduceEqDiff, reduceCtorEq, Nat.reduceAdd, if_true, if_false, true_and, and_true, kn, kd, kt, hn, hd, ha, h39, hidx, hld, faL foN0, faL foN1, faL foN2, faL foN3, faL foN4, hN4.l0, hN4.l1, hN4.l2, hN4.l3, hN4.l4, hN4.la, hidxI, hca1, hcf1', hpv.lenA Tryz.underlying25]
    refine AW.keep 39 [12, 13, 14, 15] (a0 := a1) (by simp (disch := decide) only [Kp_put, put_none, hk]) (fun hkc => ?_)
    refine AW.mono ?_ (valPins (pv := pv) (rv := rv) (ps := pinsOf n z.toNat) (V := V) (by simp (disch := first | omega | decide | (simp only [List.length_cons, List.length_nil] <;> omega)) only [push_cast, ↓reduceIte, Nat.reduceLT, Nat.reduceEqDiff, reduceCtorEq, Nat.reduceAdd, if_true, if_false, true_and, and_true, kn, hn]) (by simp (disch := first | omega | decide | (simp only [List.length_cons, List.length_nil] <;> omega)) only [push_cast, ↓reduceIte, Nat.reduceLT, Nat.reduceEqDiff, reduceCtorEq, Nat.reduceAdd, if_true, if_false, true_and, and_true, kd, hd]) hpv hr.sl (fun p hp => by have := hpr p hp; omega) (by omega) (by simp (disch := first | omega | decide | (simp only [List.length_cons, List.length_nil] <;> omega)) only [push_cast, ↓reduceIte, Nat.reduceLT, Nat.reduceEqDiff, reduceCtorEq, Nat.reduceAdd, if_true, if_false, true_and, and_true]) (by simp (disch := first | omega | decide | (simp only [List.length_cons, List.length_nil] <;> omega)) only [push_cast, ↓reduceIte, Nat.reduceLT, Nat.reduceEqDiff, reduceCtorEq, Nat.reduceAdd, if_true, if_false, true_and, and_true]) (by simp (disch := first | omega | decide | (simp only [List.length_cons, List.length_nil] <;> omega)) only [push_cast, ↓reduceIte, Nat.reduceLT, Nat.reduceEqDiff, reduceCtorEq, Nat.reduceAdd, if_true, if_false, true_and, and_true]) (by simp (disch := first | omega | decide | (simp only [List.length_cons, List.length_nil] <;> omega)) only [push_cast, ↓reduceIte, Nat.reduceLT, Nat.reduceEqDiff, reduceCtorEq, Nat.reduceAdd, if_true, if_false, true_and, and_true, kt]) (by simp (disch := first | omega | decide | (simp only [List.length_cons, List.length_nil] <;> omega)) only [push_cast, ↓reduceIte, Nat.reduceLT, Nat.reduceEqDiff, reduceCtorEq, Nat.reduceAdd, if_true, if_false, true_and, and_true]))
    rintro _ c h' ⟨rfl, rfl, cn, cd, ct, c13⟩
    have hk : Kp 39 [12, 13, 14, 15] a1 c := Kp.trans hkc ⟨by rw [cn]; simp (disch := first | omega | decide | (simp only [List.length_cons, List.length_nil] <;> omega)) only [push_cast, ↓reduceIte, Nat.reduceLT, Nat.reduceEqDiff, reduceCtorEq, Nat.reduceAdd, if_true, if_false, true_and, and_true, kn, hn], by rw [cd]; simp (disch := first | omega | decide | (simp only [List.length_cons, List.length_nil] <;> omega)) only [push_cast, ↓reduceIte, Nat.reduceLT, Nat.reduceEqDiff, reduceCtorEq, Nat.reduceAdd, if_true, if_false, true_and, and_true, kd, hd], ct⟩ (by decide) (by decide)
    have c4 : c.tm 4 = .pointer (some ⟨B0, 0, none⟩) := by simp (disch := first | omega | decide | (simp only [List.length_cons, List.length_nil] <;> omega)) only [push_cast, ↓reduceIte, Nat.reduceLT, Nat.reduceEqDiff, reduceCtorEq, Nat.reduceAdd, if_true, if_false, true_and, and_true, ct, kt]
    have c10 : c.tm 10 = rv := by simp (disch := first | omega | decide | (simp only [List.length_cons, List.length_nil] <;> omega)) only [push_cast, ↓reduceIte, Nat.reduceLT, Nat.reduceEqDiff, reduceCtorEq, Nat.reduceAdd, if_true, if_false, true_and, and_true, ct, kt]
    have c12 : c.tm 12 = .int .i64 z := by simp (disch := first | omega | decide | (simp only [List.length_cons, List.length_nil] <;> omega)) only [push_cast, ↓reduceIte, Nat.reduceLT, Nat.reduceEqDiff, reduceCtorEq, Nat.reduceAdd, if_true, if_false, true_and, and_true, ct]
    have c39 : c.tm 39 = .int .i64 i := by simp (disch := first | omega | decide | (simp only [List.length_cons, List.length_nil] <;> omega)) only [push_cast, ↓reduceIte, Nat.reduceLT, Nat.reduceEqDiff, reduceCtorEq, Nat.reduceAdd, if_true, if_false, true_and, and_true, ct, h39]
    clear ct
    have hsm : Small n := ⟨by omega, by omega, by omega, by omega⟩
    have hfr := first (h := h') r4 hsm
    have hz1 : IntKind.i64.wrap (firstE n + z) = firstE n + z := wrapI (by omega) (by omega)
    have hidxV := hr.sl.idxB sl23 .i64 (firstE n + z) (by omega) (by omega)
    generalize hev : evalE (instTable n z.toNat) (kGo V 0 0 (pinsOf n z.toNat)) = bv
    have hvs : valStep n V z = V.set (firstE n + z).toNat bv := by rw [valStep, hev]
    obtain ⟨o', hst, hv', hob⟩ := _root_.Go.Ab.Vec.store (P := Tryz.prog) hr.1 hr.2 (i := (firstE n + z).toNat) t23.sl1.one (by simp; omega) (x := .bool bv) rfl rfl
    have hAlo : h1.next ≤ A := by
      cases hq : ob with
      | none => exact absurd hq hob
      | some o => exact hlo o hq
    have hAlt : A < h'.next := by
      cases hq : ob with
      | none => exact absurd hq hob
      | some o => exact AH.get_lt hg.wf (hr.2 o hq)
    have hg5 := hg.set w1 hAlo hAlt o'
    have hN5 := hN.sub hg5.sub
    have hcall := eval (h := h') (t := instTable n z.toNat) (i := kGo V 0 0 (pinsOf n z.toNat))
    rw [hev] at hcall
    simp (disch := first | omega | decide | (simp only [List.length_cons, List.length_nil] <;> omega)) only [push_cast, ↓reduceIte, Nat.reduceLT, Nat.reduceEqDiff, reduceCtorEq, Nat.reduceAdd, if_true, if_false, true_and, and_true, cn, cd, c4, c10, c12, c13, c39]
    refine AW.drawP (.take 0 [19, 18] (.take 1 [19, 18, 17, 4, 2] (.take 3 [19, 18, 4] (.take 5 [19, 18, 17, 15, 14, 13, 6] (.take 7 [19, 18, 17, 15, 14, 13, 12, 11, 10, 8] (.take 9 [19, 18, 17, 15, 14, 13, 12, 11, 10] (.take 16 [19, 18, 17] (.watch 6 [19, 18, 17, 15, 14, 13] (.watch 8 [19, 18, 17, 15, 14, 13, 12, 11, 10] (.take 10 [19, 18, 17, 15, 14, 13, 12, 11] (.take 11 [19, 18, 17, 15, 14, 13, 12] (.watch 12 [19, 18, 17, 15, 14, 13] (.take 13 [19, 18, 17, 15, 14] (.take 14 [19, 18, 17, 15] (.watch 15 [19, 18, 17] (.only 2 (.take 4 [19, 18] (.only 17 (.take 18 [19] (.only 19 .done)))))))))))))))))))) [(0, 0), (0, 1), (0, 3), (0, 5), (0, 7), (0, 9), (0, 16), (1, 6), (1, 8), (0, 10), (0, 11), (1, 12), (0, 13), (0, 14), (1, 15), (2, 2), (0, 4), (2, 17), (0, 18), (2, 19)] mixed (by kernel_rfl) (by kernel_rfl) ?_
    simp (disch := first | omega | decide | (simp only [List.length_cons, List.length_nil] <;> omega)) only [push_cast, ↓reduceIte, Nat.reduceLT, Nat.reduceEqDiff, reduceCtorEq, Nat.reduceAdd, if_true, if_false, true_and, and_true, cn, cd, c4, c10, c12, c13, c39, faL foN0, faL foN1, faL foN2, faL foN3, faL foN4, hN4.l0, hN4.l1, hN4.l2, hN4.l3, hN4.l4, hN4.la, hidxI, hca0, aLoad_sub hg.sub hcf0', hidxC, hcca2, aLoad_sub hg.sub hcc2]
    refine ACall.mono ?_ hfr
    rintro _ h' ⟨rfl, rfl⟩
    simp (disch := first | omega | decide | (simp only [List.length_cons, List.length_nil] <;> omega)) only [push_cast, ↓reduceIte, Nat.reduceLT, Nat.reduceEqDiff, reduceCtorEq, Nat.reduceAdd, if_true, if_false, true_and, and_true, cn, cd, c4, c10, c12, c13, c39, faL foN0, faL foN1, faL foN2, faL foN3, faL foN4, hN4.l0, hN4.l1, hN4.l2, hN4.l3, hN4.l4, hN4.la, hidxI, hca0, aLoad_sub hg.sub hcf0', hidxC, hcca2, aLoad_sub hg.sub hcc2, hz1]
    refine ACall.mono ?_ hcall
    rintro _ h' ⟨rfl, rfl⟩
    simp (disch := first | omega | decide | (simp only [List.length_cons, List.length_nil] <;> omega)) only [push_cast, ↓reduceIte, Nat.reduceLT, Nat.reduceEqDiff, reduceCtorEq, Nat.reduceAdd, if_true, if_false, true_and, and_true, cn, cd, c4, c10, c12, c13, c39, faL foN0, faL foN1, faL foN2, faL foN3, faL foN4, hN4.l0, hN4.l1, hN4.l2, hN4.l3, hN4.l4, hN4.la, hidxI, hca0, aLoad_sub hg.sub hcf0', hidxC, hcca2, aLoad_sub hg.sub hcc2, hidxV, hst, hN5.l0, hN5.l1, hN5.l2, hN5.l3, hN5.l4, hN5.la, aLoad_sub hg5.sub hcf0', aLoad_sub hg5.sub hcc2, hw]
    exact ⟨m - 1, by omega, (by simp (disch := decide) only [Kp_put, put_none, hk]), i + 1, _, some o', by simp (disch := first | omega | decide | (simp only [List.length_cons, List.length_nil] <;> omega)) only [push_cast, ↓reduceIte, Nat.reduceLT, Nat.reduceEqDiff, reduceCtorEq, Nat.reduceAdd, if_true, if_false, true_and, and_true], by omega, hg5, ⟨by rw [hvs, List.map_set]; exact hv', fun o e => by cases e; rw [AH.set_get, if_pos rfl]⟩, fun _ _ => hAlo, hfold.symm⟩
  · have hi : i = O.length := by have := hge; simp at this; omega
    subst hi
    rw [List.take_length] at hV
    simp (disch := first | omega | decide | (simp only [List.length_cons, List.length_nil] <;> omega)) only [push_cast, ↓reduceIte, Nat.reduceLT, Nat.reduceEqDiff, reduceCtorEq, Nat.reduceAdd, if_true, if_false, true_and, and_true, kn, kd, kt, hn, hd, ha, h39, c1, c2, and_self]
    refine ⟨g1.trans hg, rv, rfl, fun _ => ?_⟩
    rw [valsE, ← hV]; exact hr.sl


theorem orE_len {n : Net} {O : List Int} {xs ys : List Bool} (hx : (xs.length : Int) = n.inputs) (hy : ys.length = n.flops.length) : ((valsE n O xs ys).length : Int) = firstE n + n.insts.length := by
  rw [valsE, valGo_len]; simp; unfold firstE; omega

set_option maxHeartbeats 8000000 in
theorem evalNO {h : AH} {n : Net} {cv fv iv ov vo v2 v3 : Value} {O : List Int} {xs ys : List Bool} (r : NetR h n cv fv iv ov) (s : ShapeOK n) (ho : SlOf h vo (O.map (.int .i64))) (hO : ∀ i ∈ O, 0 ≤ i ∧ i < n.insts.length) (hOl : O.length ≤ 4294967296)
    (h2 : SlOf h v2 (xs.map .bool)) (h3 : SlOf h v3 (ys.map .bool)) :
    ACall Tryz.prog 51 [.agg (netC n cv fv iv ov).toArray, vo, v2, v3] h (fun r h' => Gr h h' ∧ ∃ o1 o2, r = .tuple #[o1, o2, .int .i64 (if (xs.length : Int) = n.inputs ∧ ys.length = n.flops.length then 0 else 12)] ∧
      ((xs.length : Int) = n.inputs ∧ ys.length = n.flops.length → (∃ B, OwnSl 4 h' o1 B ((n.outs.map (ofE (valsE n O xs ys))).map .bool)) ∧ ∃ B, OwnSl 4 h' o2 B ((n.flops.map fun f => ofE (valsE n O xs ys) f.next).map .bool))) := by
  refine ACall.wf ⟨_, Tryz.func51, rfl, by kernel_rfl⟩ fun hwf => ?_
  refine ACall.of_wp 58 [.tmp 8, .tmp 9, .tmp 10] Tryz.func51 rfl (by kernel_rfl) rfl rfl fun a hn hd ha => ?_
  have hfl := s.fl; have hol := s.ol
  have hbox := boxA 27 h _ r.one
  have hN := NetAt.new (h := h) (n := n) (cv := cv) (fv := fv) (iv := iv) (ov := ov)
  have g1 : Gr h (h.new (.row (netC n cv fv iv ov) 27 true)) := (Gr.refl hwf).new _
  simp (disch := first | omega | decide | (simp only [List.length_cons, List.length_nil] <;> omega)) only [push_cast, ↓reduceIte, Nat.reduceLT, Nat.reduceEqDiff, reduceCtorEq, Nat.reduceAdd, if_true, if_false, true_and, and_true, hn, hd, ha, hbox, hN.l0, hN.l1, hN.l2, hN.l3, hN.l4, hN.la]
  generalize h.new (.row (netC n cv fv iv ov) 27 true) = h1 at hN g1 ⊢
  generalize h.next = B0 at hN ⊢
  have r1 := r.sub g1.sub
  refine ACall.mono ?_ (valuesN r1 s (ho.sub g1.sub) hO hOl (h2.sub g1.sub) (h3.sub g1.sub))
  rintro _ k2 ⟨g2, vv, rfl, hvv⟩
  by_cases hc : (xs.length : Int) = n.inputs ∧ ys.length = n.flops.length
  case neg =>
    have h12 : ¬ ((12 : Int) = 0) := by decide
    rw [if_neg hc]
    simp (disch := first | omega | decide | (simp only [List.length_cons, List.length_nil] <;> omega)) only [push_cast, ↓reduceIte, Nat.reduceLT, Nat.reduceEqDiff, reduceCtorEq, Nat.reduceAdd, if_true, if_false, true_and, and_true, hn, hd, ha, h12]
    exact ⟨g1.trans g2, .slice none 0 0, .slice none 0 0, rfl, fun x => absurd x hc⟩
  replace hvv := hvv hc
  have hVl := orE_len (O := O) hc.1 hc.2
  generalize valsE n O xs ys = V at hvv hVl ⊢
  have hN2 := hN.sub g2.sub
  have r2 := r1.sub g2.sub
  have w2 := g2.wf
  rw [if_pos hc]
  simp (disch := first | omega | decide | (simp only [List.length_cons, List.length_nil] <;> omega)) only [push_cast, ↓reduceIte, Nat.reduceLT, Nat.reduceEqDiff, reduceCtorEq, Nat.reduceAdd, if_true, if_false, true_and, and_true, hn, hd, ha, faL foN0, faL foN1, faL foN2, faL foN3, faL foN4, hN2.l0, hN2.l1, hN2.l2, hN2.l3, hN2.l4, hN2.la, r2.o.lenA Tryz.underlying25]
  refine AW.mono (Q := fun e a' h' => e = .exit 0 ∧ a'.n = 58 ∧ a'.df = [] ∧ (∀ i, i < 30 → i ∉ [8, 13] → a'.tm i = if i = 4 then .pointer (some ⟨B0, 0, none⟩) else if i = 11 then vv else if i = 9 then .slice none 0 0 else a'.tm i) ∧ Gr k2 h' ∧ ∃ o1, a'.tm 8 = o1 ∧ FrSl 4 k2 h' o1 ((n.outs.map (ofE V)).map .bool)) ?_ ?_
  case refine_2 =>
    refine AW.loopN 30 [8, 13] (fun m a' h' => ∃ (i : Nat) (rv : Value), a'.tm 30 = .int .i64 i ∧ i + m = n.outs.length ∧ a'.tm 8 = rv ∧ Gr k2 h' ∧ FrSl 4 k2 h' rv (((n.outs.take i).map (ofE V)).map .bool)) n.outs.length ?_ ?_
    · exact ⟨0, _, by simp (disch := first | omega | decide | (simp only [List.length_cons, List.length_nil] <;> omega)) only [push_cast, ↓reduceIte, Nat.reduceLT, Nat.reduceEqDiff, reduceCtorEq, Nat.reduceAdd, if_true, if_false, true_and, and_true], by omega, by simp (disch := first | omega | decide | (simp only [List.length_cons, List.length_nil] <;> omega)) only [push_cast, ↓reduceIte, Nat.reduceLT, Nat.reduceEqDiff, reduceCtorEq, Nat.reduceAdd, if_true, if_false, true_and, and_true], Gr.refl w2, FrSl.nil _ _ _⟩
    rintro a1 m a' h' hk kn kd kt ⟨i, rv, h30, him, h8, hg, hf⟩
    simp (disch := first | omega | decide | (simp only [List.length_cons, List.length_nil] <;> omega)) only [push_cast, ↓reduceIte, Nat.reduceLT, Nat.reduceEqDiff, reduceCtorEq, Nat.reduceAdd, if_true, if_false, true_and, and_true, kn, kd, kt, hn, hd, ha, h30, h8]
    refine condV_of (fun hlt => ?_) (fun hge => ?_)
    · have hi : i < n.outs.length := by have := hlt; simp at this; omega
      have hoi := r2.o.sub hg.sub
      have hidx := hoi.idxI sl22 .i64 i (by omega) (by omega)
      have hld := hoi.ldI sl22 i (by omega)
      rw [Int.toNat_natCast] at hidx
      have hp := s.out _ (getD_mem hi 0)
      have htake : (n.outs.take (i + 1)).map (ofE V) = (n.outs.take i).map (ofE V) ++ [ofE V (n.outs.getD i 0)] := by rw [take_succ_getD hi 0, List.map_append]; rfl
      have hw : IntKind.i64.wrap ((i : Int) + 1) = i + 1 := wrapI (by omega) (by omega)
      generalize n.outs.getD i 0 = p at *
      simp (disch := first | omega | decide | (simp only [List.length_cons, List.length_nil] <;> omega)) only [push_cast, ↓reduceIte, Nat.reduceLT, Nat.reduceEqDiff, reduceCtorEq, Nat.reduceAdd, if_true, if_false, true_and, and_true, kn, kd, kt, hn, hd, ha, h30, h8, hidx, hld]
      refine ACall.mono ?_ (ofB (x := p) (hvv.sub hg.sub) (by omega))
      rintro _ k ⟨rfl, rfl⟩
      have happ := app1 t23 (t := 43) hg hf (by simp; omega) (by simp; omega) (.bool (ofE V p))
      simp (disch := first | omega | decide | (simp only [List.length_cons, List.length_nil] <;> omega)) only [push_cast, ↓reduceIte, Nat.reduceLT, Nat.reduceEqDiff, reduceCtorEq, Nat.reduceAdd, if_true, if_false, true_and, and_true, kn, kd, kt, hn, hd, ha, h30, h8, aBuild1 t23 k (x := .bool (ofE V p)) rfl rfl, happ, hw]
      refine ⟨m - 1, by omega, (by simp (disch := decide) only [Kp_put, put_none, hk]), i + 1, app1V k (n.outs.take i).length, by simp (disch := first | omega | decide | (simp only [List.length_cons, List.length_nil] <;> omega)) only [push_cast, ↓reduceIte, Nat.reduceLT, Nat.reduceEqDiff, reduceCtorEq, Nat.reduceAdd, if_true, if_false, true_and, and_true], by omega, by simp (disch := first | omega | decide | (simp only [List.length_cons, List.length_nil] <;> omega)) only [push_cast, ↓reduceIte, Nat.reduceLT, Nat.reduceEqDiff, reduceCtorEq, Nat.reduceAdd, if_true, if_false, true_and, and_true], app1_gr w2 hg hf, ?_⟩
      rw [htake, List.map_append]
      have := app1_fr (e := 4) (x := .bool (ofE V p)) (v := rv) hg (vs := ((n.outs.take i).map (ofE V)).map .bool)
      simpa using this
    · have hi : i = n.outs.length := by have := hge; simp at this; omega
      subst hi
      rw [List.take_length] at hf
      simp (disch := first | omega | decide | (simp only [List.length_cons, List.length_nil] <;> omega)) only [push_cast, ↓reduceIte, Nat.reduceLT, Nat.reduceEqDiff, reduceCtorEq, Nat.reduceAdd, if_true, if_false, true_and, and_true, kn, kd, kt, hn, hd, ha, h30, h8]
      refine ⟨fun j h1 h2 => ?_, hg, rv, rfl, hf⟩
      rw [if_neg (by omega)]
      have h2' : j ≠ 8 ∧ j ≠ 13 := by simpa using h2
      have hkt := kt j h1 (by simpa using h2)
      by_cases e4 : j = 4
      · subst e4; rw [hkt]; simp (disch := first | omega | decide | (simp only [List.length_cons, List.length_nil] <;> omega)) only [push_cast, ↓reduceIte, Nat.reduceLT, Nat.reduceEqDiff, reduceCtorEq, Nat.reduceAdd, if_true, if_false, true_and, and_true]
      · by_cases e11 : j = 11
        · subst e11; rw [hkt]; simp (disch := first | omega | decide | (simp only [List.length_cons, List.length_nil] <;> omega)) only [push_cast, ↓reduceIte, Nat.reduceLT, Nat.reduceEqDiff, reduceCtorEq, Nat.reduceAdd, if_true, if_false, true_and, and_true]
        · by_cases e9 : j = 9
          · subst e9; rw [hkt]; simp (disch := first | omega | decide | (simp only [List.length_cons, List.length_nil] <;> omega)) only [push_cast, ↓reduceIte, Nat.reduceLT, Nat.reduceEqDiff, reduceCtorEq, Nat.reduceAdd, if_true, if_false, true_and, and_true]
          · rw [if_neg e4, if_neg e11, if_neg e9]
  clear ha hn hd a
  rintro _ a k3 ⟨rfl, hn, hd, ht, g3, o1, h8, hf1⟩
  have h4 := ht 4 (by decide) (by decide)
  have h11 := ht 11 (by decide) (by decide)
  have h9 := ht 9 (by decide) (by decide)
  simp only [if_true, if_false, show ¬ (11 = 4) by omega, show ¬ (9 = 4) by omega, show ¬ (9 = 11) by omega] at h4 h11 h9
  clear ht
  have hN3 := hN2.sub g3.sub
  have r3 := r2.sub g3.sub
  have w3 := g3.wf
  simp (disch := first | omega | decide | (simp only [List.length_cons, List.length_nil] <;> omega)) only [push_cast, ↓reduceIte, Nat.reduceLT, Nat.reduceEqDiff, reduceCtorEq, Nat.reduceAdd, if_true, if_false, true_and, and_true, hn, hd, h4, h11, h9, h8, faL foN0, faL foN1, faL foN2, faL foN3, faL foN4, hN3.l0, hN3.l1, hN3.l2, hN3.l3, hN3.l4, hN3.la, r3.f.len Tryz.underlying23]
  refine AW.loopN 44 [9, 15] (fun m a' h' => ∃ (i : Nat) (rv : Value), a'.tm 44 = .int .i64 i ∧ i + m = n.flops.length ∧ a'.tm 9 = rv ∧ Gr k3 h' ∧ FrSl 4 k3 h' rv (((n.flops.take i).map fun f => ofE V f.next).map .bool)) n.flops.length ?_ ?_
  · exact ⟨0, _, by simp (disch := first | omega | decide | (simp only [List.length_cons, List.length_nil] <;> omega)) only [push_cast, ↓reduceIte, Nat.reduceLT, Nat.reduceEqDiff, reduceCtorEq, Nat.reduceAdd, if_true, if_false, true_and, and_true], by omega, by simp (disch := first | omega | decide | (simp only [List.length_cons, List.length_nil] <;> omega)) only [push_cast, ↓reduceIte, Nat.reduceLT, Nat.reduceEqDiff, reduceCtorEq, Nat.reduceAdd, if_true, if_false, true_and, and_true, h9], Gr.refl w3, FrSl.nil _ _ _⟩
  rintro a1 m a' h' hk kn kd kt ⟨i, rv, h44, him, h9', hg, hf⟩
  simp (disch := first | omega | decide | (simp only [List.length_cons, List.length_nil] <;> omega)) only [push_cast, ↓reduceIte, Nat.reduceLT, Nat.reduceEqDiff, reduceCtorEq, Nat.reduceAdd, if_true, if_false, true_and, and_true, kn, kd, kt, hn, hd, h4, h11, h8, h44, h9']
  refine condV_of (fun hlt => ?_) (fun hge => ?_)
  · have hi : i < n.flops.length := by have := hlt; simp at this; omega
    obtain ⟨cs, hcs, hld, -, -⟩ := r3.f.get hi default
    have hcs : cs = _ := hcs
    subst hcs
    replace hld := aLoad_sub hg.sub (hld _ agF)
    have hp := (s.flop _ (getD_mem hi default)).1
    have htake : (n.flops.take (i + 1)).map (fun f => ofE V f.next) = (n.flops.take i).map (fun f => ofE V f.next) ++ [ofE V (n.flops.getD i default).next] := by rw [take_succ_getD hi default, List.map_append]; rfl
    have hw : IntKind.i64.wrap ((i : Int) + 1) = i + 1 := wrapI (by omega) (by omega)
    generalize n.flops.getD i default = x at *
    have hst := fun (hh : AH) cs e hl => stN agF hh cs e [Value.int .i64 x.next, .int .u8 x.init] hl rfl rfl
    have gI := hg.new (.row [Value.int .i64 x.next, .int .u8 x.init] 65 true)
    have sI := Sub.new hg.wf (.row [Value.int .i64 x.next, .int .u8 x.init] 65 true)
    have hI := CsAt.new h' [Value.int .i64 x.next, .int .u8 x.init] 65 true
    have hfI : FrSl 4 k3 (h'.new (.row [Value.int .i64 x.next, .int .u8 x.init] 65 true)) rv (((n.flops.take i).map fun f => ofE V f.next).map .bool) := by
      obtain ⟨B, hB, hB2⟩ := hf
      refine ⟨B, ?_, hB2⟩
      rcases hB with hB | ⟨h1, h2, h3⟩
      · exact .inl hB
      · exact .inr ⟨h1, h2, sI _ _ h3⟩
    simp (disch := first | omega | decide | (simp only [List.length_cons, List.length_nil] <;> omega)) only [push_cast, ↓reduceIte, Nat.reduceLT, Nat.reduceEqDiff, reduceCtorEq, Nat.reduceAdd, if_true, if_false, true_and, and_true, kn, kd, kt, hn, hd, h4, h11, h8, h44, h9', r3.f.idx Tryz.underlying23 infF, hld, alL zrF, hst, faL foF0, faL foF1, hI.ld fl3]
    generalize h'.new (.row [Value.int .i64 x.next, .int .u8 x.init] 65 true) = h5 at gI hI hfI ⊢
    refine ACall.mono ?_ (ofB (x := x.next) ((hvv.sub g3.sub).sub gI.sub) (by omega))
    rintro _ k ⟨rfl, rfl⟩
    have happ := app1 t23 (t := 43) gI hfI (by simp; omega) (by simp; omega) (.bool (ofE V x.next))
    simp (disch := first | omega | decide | (simp only [List.length_cons, List.length_nil] <;> omega)) only [push_cast, ↓reduceIte, Nat.reduceLT, Nat.reduceEqDiff, reduceCtorEq, Nat.reduceAdd, if_true, if_false, true_and, and_true, kn, kd, kt, hn, hd, h4, h11, h8, h44, h9', aBuild1 t23 k (x := .bool (ofE V x.next)) rfl rfl, happ, hw]
    refine ⟨m - 1, by omega, (by simp (disch := decide) only [Kp_put, put_none, hk]), i + 1, app1V k (n.flops.take i).length, by simp (disch := first | omega | decide | (simp only [List.length_cons, List.length_nil] <;> omega)) only [push_cast, ↓reduceIte, Nat.reduceLT, Nat.reduceEqDiff, reduceCtorEq, Nat.reduceAdd, if_true, if_false, true_and, and_true], by omega, by simp (disch := first | omega | decide | (simp only [List.length_cons, List.length_nil] <;> omega)) only [push_cast, ↓reduceIte, Nat.reduceLT, Nat.reduceEqDiff, reduceCtorEq, Nat.reduceAdd, if_true, if_false, true_and, and_true], app1_gr w3 gI hfI, ?_⟩
    rw [htake, List.map_append]
    have := app1_fr (e := 4) (x := .bool (ofE V x.next)) (v := rv) gI (vs := ((n.flops.take i).map fun f => ofE V f.next).map .bool)
    simpa using this
  · have hi : i = n.flops.length := by have := hge; simp at this; omega
    subst hi
    rw [List.take_length] at hf
    simp (disch := first | omega | decide | (simp only [List.length_cons, List.length_nil] <;> omega)) only [push_cast, ↓reduceIte, Nat.reduceLT, Nat.reduceEqDiff, reduceCtorEq, Nat.reduceAdd, if_true, if_false, true_and, and_true, kn, kd, kt, hn, hd, h4, h11, h8, h44, h9']
    exact ⟨((g1.trans g2).trans g3).trans hg, o1, rv, rfl, fun _ => ⟨by
      obtain ⟨B, hB, _⟩ := hf1
      refine ⟨B, ?_⟩
      rcases hB with hB | ⟨b1, b2, b3⟩
      · exact .inl hB
      · exact .inr ⟨b1, b2, hg.sub _ _ b3⟩, let ⟨B, hB, _⟩ := hf; ⟨B, hB⟩⟩⟩

theorem evalN {h : AH} {n : Net} {cv fv iv ov vo v2 v3 : Value} {O : List Int} {xs ys : List Bool} (r : NetR h n cv fv iv ov) (s : ShapeOK n) (ho : SlOf h vo (O.map (.int .i64))) (hO : ∀ i ∈ O, 0 ≤ i ∧ i < n.insts.length) (hOl : O.length ≤ 4294967296)
    (h2 : SlOf h v2 (xs.map .bool)) (h3 : SlOf h v3 (ys.map .bool)) :
    ACall Tryz.prog 51 [.agg (netC n cv fv iv ov).toArray, vo, v2, v3] h (fun r h' => Gr h h' ∧ ∃ o1 o2, r = .tuple #[o1, o2, .int .i64 (if (xs.length : Int) = n.inputs ∧ ys.length = n.flops.length then 0 else 12)] ∧
      ((xs.length : Int) = n.inputs ∧ ys.length = n.flops.length → (∃ B, OwnSl 4 h' o1 B ((n.outs.map (ofE (valsE n O xs ys))).map .bool)) ∧ SlOf h' o2 ((n.flops.map fun f => ofE (valsE n O xs ys) f.next).map .bool))) :=
  ACall.mono (fun _ _ ⟨g, o1, o2, e, q⟩ => ⟨g, o1, o2, e, fun hc => let ⟨a, B, b⟩ := q hc; ⟨a, b.sl⟩⟩) (evalNO r s ho hO hOl h2 h3)


theorem kGo_congr {V W : List Bool} : ∀ (ps : List Int) (acc : Int) (j : Nat), (∀ p ∈ ps, ofE V p = ofE W p) → kGo V acc j ps = kGo W acc j ps := by
  intro ps
  induction ps with
  | nil => intro acc j _; rfl
  | cons p ps ih =>
    intro acc j h
    rw [kGo, kGo, h p (List.mem_cons_self ..), ih _ _ (fun q hq => h q (List.mem_cons_of_mem _ hq))]

/-- The value of a net: its row is F inputs and registers, then the instances. -/
structure IsVals (n : Net) (xs ys V : List Bool) : Prop where
  len : V.length = xs.length + ys.length + n.insts.length
  inp : ∀ i, i < xs.length + ys.length → V.getD i false = (xs ++ ys).getD i false
  inst : ∀ i, i < n.insts.length → V.getD ((firstE n).toNat + i) false = evalE (instTable n i) (kGo V 0 0 (pinsOf n i))

theorem ofE_low {n : Net} {xs ys V : List Bool} (h : IsVals n xs ys V) (hF : (firstE n).toNat = xs.length + ys.length) {p : Int} (hp : p < firstE n) : ofE V p = ofE (xs ++ ys) p := by
  unfold ofE
  by_cases h0 : 0 ≤ p
  · rw [h.inp p.toNat (by omega)]
  · simp [h0]

theorem ofE_high {V : List Bool} {F p : Int} (hF : 0 ≤ F) (hp : F ≤ p) : ofE V p = V.getD (F.toNat + (p - F).toNat) false := by
  have h1 : ¬ p = -2 := by omega
  have h2 : 0 ≤ p := by omega
  have h3 : F.toNat + (p - F).toNat = p.toNat := by omega
  simp [ofE, h1, h2, h3]

theorem IsVals.unique {n : Net} {xs ys V W : List Bool} (s : ShapeOK n) (hf : Full n) (hF : (firstE n).toNat = xs.length + ys.length) (hV : IsVals n xs ys V) (hW : IsVals n xs ys W) : V = W := by
  obtain ⟨O, t, hO⟩ := hf
  have hF0 : 0 ≤ firstE n := by have := s.i0; unfold firstE; omega
  have key : ∀ j : Nat, ∀ x : Int, O[j]? = some x → V.getD ((firstE n).toNat + x.toNat) false = W.getD ((firstE n).toNat + x.toNat) false := by
    intro j
    induction j using Nat.strongRecOn with
    | _ j ih =>
      intro x hx
      have hr := t.range x (List.mem_of_getElem? hx)
      rw [hV.inst x.toNat (by omega), hW.inst x.toNat (by omega)]
      congr 1
      refine kGo_congr _ _ _ fun p hp => ?_
      by_cases hpF : p < firstE n
      · rw [ofE_low hV hF hpF, ofE_low hW hF hpF]
      · have hb := t.before j x hx p hp (by omega)
        obtain ⟨k, hk, e⟩ := List.getElem_of_mem hb
        simp only [List.length_take] at hk
        rw [List.getElem_take] at e
        rw [ofE_high (V := V) hF0 (by omega), ofE_high (V := W) hF0 (by omega)]
        exact ih k (by omega) _ (by rw [List.getElem?_eq_getElem (by omega), e])
  have hall : ∀ i : Nat, i < n.insts.length → V.getD ((firstE n).toNat + i) false = W.getD ((firstE n).toNat + i) false := by
    intro i hi
    have hm := nodup_all t.nodup t.range hO hi
    obtain ⟨k, hk, e⟩ := List.getElem_of_mem hm
    have := key k (i : Int) (by rw [List.getElem?_eq_getElem hk, e])
    simpa using this
  apply List.ext_getElem (by rw [hV.len, hW.len])
  intro i h1 h2
  have e1 : V.getD i false = V[i] := by simp [List.getD_eq_getElem?_getD, h1]
  have e2 : W.getD i false = W[i] := by simp [List.getD_eq_getElem?_getD, h2]
  rw [← e1, ← e2]
  have hl := hV.len
  by_cases hi : i < xs.length + ys.length
  · rw [hV.inp i hi, hW.inp i hi]
  · have := hall (i - (firstE n).toNat) (by omega)
    rw [show (firstE n).toNat + (i - (firstE n).toNat) = i by omega] at this
    exact this

theorem getD_set_ne' {V : List Bool} {i j : Nat} {b : Bool} (h : i ≠ j) : (V.set i b).getD j false = V.getD j false := by
  simp [List.getD_eq_getElem?_getD, List.getElem?_set_ne h]

theorem ofE_set {V : List Bool} {i : Nat} {b : Bool} {p : Int} (h : p ≠ i) : ofE (V.set i b) p = ofE V p := by
  unfold ofE
  by_cases h0 : 0 ≤ p
  · rw [getD_set_ne' (by omega)]
  · simp [h0]

theorem valsE_is {n : Net} {O : List Int} {xs ys : List Bool} (s : ShapeOK n) (t : Topo n O) (hO : O.length = n.insts.length) (hx : (xs.length : Int) = n.inputs) (hy : ys.length = n.flops.length) : IsVals n xs ys (valsE n O xs ys) := by
  have hF0 : 0 ≤ firstE n := by have := s.i0; unfold firstE; omega
  have hF : (firstE n).toNat = xs.length + ys.length := by unfold firstE; omega
  have hlen : ∀ j, ((O.take j).foldl (valStep n) (xs ++ (ys ++ List.replicate n.insts.length false))).length = xs.length + ys.length + n.insts.length := by
    intro j; rw [valGo_len]; simp; omega
  have main : ∀ j, j ≤ O.length → (∀ i, i < xs.length + ys.length → ((O.take j).foldl (valStep n) (xs ++ (ys ++ List.replicate n.insts.length false))).getD i false = (xs ++ ys).getD i false) ∧
      ∀ k x, k < j → O[k]? = some x → ((O.take j).foldl (valStep n) (xs ++ (ys ++ List.replicate n.insts.length false))).getD ((firstE n).toNat + x.toNat) false = evalE (instTable n x.toNat) (kGo ((O.take j).foldl (valStep n) (xs ++ (ys ++ List.replicate n.insts.length false))) 0 0 (pinsOf n x.toNat)) := by
    intro j
    induction j with
    | zero =>
      intro _
      refine ⟨fun i hi => ?_, fun k x hk => by omega⟩
      simp only [List.take_zero, List.foldl_nil, ← List.append_assoc]
      rw [List.getD_eq_getElem?_getD, List.getElem?_append_left (by simpa using hi), List.getD_eq_getElem?_getD]
    | succ j ih =>
      intro hj
      obtain ⟨h1, h2⟩ := ih (by omega)
      have hl := hlen j
      have hstep : (O.take (j + 1)).foldl (valStep n) (xs ++ (ys ++ List.replicate n.insts.length false)) = valStep n ((O.take j).foldl (valStep n) (xs ++ (ys ++ List.replicate n.insts.length false))) (O.getD j 0) := by
        rw [take_succ_getD (by omega) 0, List.foldl_append]; rfl
      rw [hstep]
      generalize (O.take j).foldl (valStep n) (xs ++ (ys ++ List.replicate n.insts.length false)) = V at *
      have hz0 : O[j]? = some (O.getD j 0) := by simp [List.getD_eq_getElem?_getD, List.getElem?_eq_getElem (show j < O.length by omega)]
      have hzr := t.range _ (List.mem_of_getElem? hz0)
      have hnd := t.nodup
      have hat : ∀ (k : Nat) (x : Int), k < j + 1 → O[k]? = some x → ∀ p ∈ pinsOf n x.toNat, p ≠ (((firstE n + O.getD j 0).toNat : Nat) : Int) := by
        intro k x hk hx p hp e
        have hpF : firstE n ≤ p := by omega
        have hb := t.before k x hx p hp hpF
        have hpz : p - firstE n = O.getD j 0 := by omega
        rw [hpz] at hb
        obtain ⟨q, hq, e2⟩ := List.getElem_of_mem hb
        simp only [List.length_take] at hq
        rw [List.getElem_take] at e2
        have e3 : O[q]? = some (O.getD j 0) := by rw [List.getElem?_eq_getElem (by omega), e2]
        have hq' : q < O.length := by omega
        have := (List.getElem?_inj hq' hnd).1 (e3.trans hz0.symm)
        omega
      have hkg : ∀ (k : Nat) (x : Int), k < j + 1 → O[k]? = some x → kGo (valStep n V (O.getD j 0)) 0 0 (pinsOf n x.toNat) = kGo V 0 0 (pinsOf n x.toNat) :=
        fun k x hk hx => kGo_congr _ _ _ fun p hp => ofE_set (hat k x hk hx p hp)
      refine ⟨fun i hi => ?_, fun k x hk hx => ?_⟩
      · rw [← h1 i hi, valStep, getD_set_ne' (by omega)]
      · rw [hkg k x hk hx]
        by_cases hkj : k = j
        · subst hkj
          rw [hz0] at hx
          cases hx
          have hlt : (firstE n + O.getD k 0).toNat < V.length := by omega
          rw [show (firstE n).toNat + (O.getD k 0).toNat = (firstE n + O.getD k 0).toNat by omega, valStep, List.getD_eq_getElem?_getD, List.getElem?_set_self hlt]
          rfl
        · have hxr := t.range x (List.mem_of_getElem? hx)
          have hne : x ≠ O.getD j 0 := by
            intro e
            rw [e] at hx
            have hk' : k < O.length := (List.getElem?_eq_some_iff.1 hx).1
            exact hkj ((List.getElem?_inj hk' hnd).1 (hx.trans hz0.symm))
          rw [valStep, getD_set_ne' (by omega)]
          exact h2 k x (by omega) hx
  obtain ⟨h1, h2⟩ := main O.length (Nat.le_refl _)
  have hl := hlen O.length
  rw [List.take_length] at h1 h2 hl
  refine ⟨hl, h1, fun i hi => ?_⟩
  have hm := nodup_all t.nodup t.range hO hi
  obtain ⟨k, hk, e⟩ := List.getElem_of_mem hm
  have := h2 k (i : Int) hk (by rw [List.getElem?_eq_getElem hk, e])
  rw [Int.toNat_natCast] at this
  exact this

/-! ### netlist.Eval -/

theorem evalT {h : AH} {n : Net} {cv fv iv ov v2 v3 : Value} {xs ys : List Bool} (r : NetR h n cv fv iv ov) (ok : NetOK n) (e : netE n = 0) (h2 : SlOf h v2 (xs.map .bool)) (h3 : SlOf h v3 (ys.map .bool)) :
    ACall Tryz.prog 23 [.agg (netC n cv fv iv ov).toArray, v2, v3] h (fun r h' => Gr h h' ∧ ∃ o1 o2, r = .tuple #[o1, o2, .int .i64 (if (xs.length : Int) = n.inputs ∧ ys.length = n.flops.length then 0 else 12)] ∧
      ((xs.length : Int) = n.inputs ∧ ys.length = n.flops.length → ∃ V, IsVals n xs ys V ∧ (∃ B, OwnSl 4 h' o1 B ((n.outs.map (ofE V)).map .bool)) ∧ SlOf h' o2 ((n.flops.map fun f => ofE V f.next).map .bool))) := by
  refine ACall.wf ⟨_, Tryz.func23, rfl, by kernel_rfl⟩ fun hwf => ?_
  refine ACall.of_wp 26 [.tmp 6, .tmp 7, .tmp 8] Tryz.func23 rfl (by kernel_rfl) rfl rfl fun a hn hd ha => ?_
  have s := ShapeOK.of (netE_zero.1 e).1
  have hil := s.il
  have hbox := boxA 27 h _ r.one
  have hN := NetAt.new (h := h) (n := n) (cv := cv) (fv := fv) (iv := iv) (ov := ov)
  have g1 : Gr h (h.new (.row (netC n cv fv iv ov) 27 true)) := (Gr.refl hwf).new _
  simp (disch := first | omega | decide | (simp only [List.length_cons, List.length_nil] <;> omega)) only [push_cast, ↓reduceIte, Nat.reduceLT, Nat.reduceEqDiff, reduceCtorEq, Nat.reduceAdd, if_true, if_false, true_and, and_true, hn, hd, ha, hbox, hN.l0, hN.l1, hN.l2, hN.l3, hN.l4, hN.la]
  generalize h.new (.row (netC n cv fv iv ov) 27 true) = h1 at hN g1 ⊢
  generalize h.next = B0 at hN ⊢
  have r1 := r.sub g1.sub
  refine ACall.mono ?_ (orderN r1 ok)
  rintro _ k ⟨hg, ⟨hs, rfl⟩ | ⟨hs, O, ht, ⟨hl, hst, rfl⟩ | ⟨hl, v, rfl, hv⟩⟩⟩
  · exact absurd (netE_zero.1 e).1 hs
  · exact absurd (netE_zero.1 e).2 (stuck_not_full hst ht hl)
  · have hN2 := hN.sub hg.sub
    simp (disch := first | omega | decide | (simp only [List.length_cons, List.length_nil] <;> omega)) only [push_cast, ↓reduceIte, Nat.reduceLT, Nat.reduceEqDiff, reduceCtorEq, Nat.reduceAdd, if_true, if_false, true_and, and_true, hn, hd, ha, hN2.l0, hN2.l1, hN2.l2, hN2.l3, hN2.l4, hN2.la]
    refine ACall.mono ?_ (evalN (r1.sub hg.sub) s hv ht.range (by omega) ((h2.sub g1.sub).sub hg.sub) ((h3.sub g1.sub).sub hg.sub))
    rintro _ k2 ⟨g2, o1, o2, rfl, hpost⟩
    simp (disch := first | omega | decide | (simp only [List.length_cons, List.length_nil] <;> omega)) only [push_cast, ↓reduceIte, Nat.reduceLT, Nat.reduceEqDiff, reduceCtorEq, Nat.reduceAdd, if_true, if_false, true_and, and_true, hn, hd, ha]
    refine ⟨(g1.trans hg).trans g2, o1, o2, rfl, fun hc => ?_⟩
    obtain ⟨p1, p2⟩ := hpost hc
    exact ⟨_, valsE_is s ht hl hc.1 hc.2, p1, p2⟩

end Go.Ab.S1
