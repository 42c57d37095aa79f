/- Own layer 'Ab': reads and writes of cells, new rows: what they are on the abstract heap, and that the model's operations do just that. -/
import Derived.Test.YtnejoceplinjpaaAb0
namespace Go.Ab

/-- An operation of the model comes to a related value and heap. -/
def Snd (P : Program) (ρ : Ren) (h : AH) (w : World) (s : Sem Value) (v : Value) (h' : AH) : Prop :=
  ∃ ρ' v' w', s.run P w = .ok v' w' ∧ VR ρ' v v' ∧ HR ρ' h' w' ∧ Frm ρ h w ρ' h' w'
def SndU (P : Program) (ρ : Ren) (h : AH) (w : World) (s : Sem Unit) (h' : AH) : Prop :=
  ∃ ρ' w', s.run P w = .ok () w' ∧ HR ρ' h' w' ∧ Frm ρ h w ρ' h' w'

theorem Snd.pure {P : Program} {ρ : Ren} {h : AH} {w : World} {s : Sem Value} {v v' : Value} (hr : HR ρ h w) (hs : s.run P w = .ok v' w) (hv : VR ρ v v') : Snd P ρ h w s v h :=
  ⟨ρ, v', w, hs, hv, hr, Frm.refl _ _ _⟩

/-! ### The tables -/
section tables
variable {P : Program} (w : World)
theorem r_under {t : TypeId} {d : TypeDesc} (h : P.underlying t = some d) : (underlying t).run P w = .ok d w := run_underlying h w
theorem r_info {t : TypeId} {i : TypeInfo} (h : P.info? t = some i) : (typeInfo t).run P w = .ok i w := by
  simp [typeInfo, h]
theorem r_size {t : TypeId} {i : TypeInfo} (h : P.info? t = some i) : (sizeOf t).run P w = .ok i.size w := by
  simp [sizeOf, r_info w h]
theorem r_zero {t : TypeId} {i : TypeInfo} {z : Value} (h : P.info? t = some i) (hz : i.zero = some z) : (zeroValue t).run P w = .ok z w := by
  simp [zeroValue, r_info w h, hz]
end tables

def aggT : TypeDesc → Bool
  | .struct _ | .array _ _ => true
  | _ => false

theorem r_isAgg {P : Program} (w : World) {t : TypeId} {d : TypeDesc} (h : P.underlying t = some d) : (isAgg t).run P w = .ok (aggT d) w := by
  unfold isAgg
  simp only [Sem.run_bind, r_under w h, Result.andThen_ok]
  cases d <;> rfl

/-! ### Cells -/

def AObj.cells? : AObj → Option (List Value)
  | .row c _ _ => some c
  | .grow c _ => some c
  | _ => none

theorem OR.rowAt {ρ : Ren} {r : RE} {w : World} {o : AObj} {c : List Value} (h : OR ρ r w o) (hc : o.cells? = some c) :
    ∃ e wr cc fr, RowAt ρ r w c e wr cc fr := by
  cases o with
  | row c' e wr => simp only [AObj.cells?, Option.some.injEq] at hc; subst hc; obtain ⟨cc, fr, h⟩ := h; exact ⟨_, _, _, _, h⟩
  | grow c' e => simp only [AObj.cells?, Option.some.injEq] at hc; subst hc; obtain ⟨cc, fr, h, _⟩ := h; exact ⟨_, _, _, _, h⟩
  | _ => simp [AObj.cells?] at hc

theorem RowAt.cell? {ρ : Ren} {r : RE} {w : World} {c : List Value} {e : TypeId} {wr : Bool} {cc : Array Value} {fr : Nat × Nat} (h : RowAt ρ r w c e wr cc fr) {i : Nat} {v : Value}
    (hv : c[i]? = some v) : ∃ v', w.cell? ⟨r.blk, r.base + i, none⟩ = some v' ∧ VR ρ v v' := by
  obtain ⟨v', a, b⟩ := h.cell i v hv
  exact ⟨v', by simp [World.cell?, h.heap, a], b⟩

/-- The concrete cells behind n abstract ones. -/
theorem RowAt.many {ρ : Ren} {r : RE} {w : World} {c : List Value} {e : TypeId} {wr : Bool} {cc : Array Value} {fr : Nat × Nat} (h : RowAt ρ r w c e wr cc fr) (off n : Nat) (hn : off + n ≤ c.length) :
    ∃ cs : List Value, cs.length = n ∧ LR ρ ((c.drop off).take n) cs ∧ (∀ (P : Program) (w' : World), w'.heap[r.blk]? = w.heap[r.blk]? → (loadCells ⟨r.blk, r.base + off, none⟩ n).run P w' = .ok cs.toArray w') ∧
      (∀ j v, cs[j]? = some v → cc[r.base + off + j]? = some v) := by
  have hf := h.fits
  refine ⟨(cc.toList.drop (r.base + off)).take n, ?_, ⟨?_, ?_⟩, ?_, ?_⟩
  · simp; omega
  · simp; omega
  · intro i v v' a b
    rw [List.getElem?_take] at a b
    split at a
    · rename_i hi
      rw [if_pos hi] at b
      rw [List.getElem?_drop] at a b
      obtain ⟨u, hu, hvr⟩ := h.cell _ _ a
      rw [Array.getElem?_toList, show r.base + off + i = r.base + (off + i) by omega, hu] at b
      cases b; exact hvr
    · cases a
  · intro P w' hw'
    have hh := hw'.trans h.heap
    have hl : ((cc.toList.drop (r.base + off)).take n).length = n := by simp; omega
    have := run_loadCells_list (P := P) w' ⟨r.blk, r.base + off, none⟩ ((cc.toList.drop (r.base + off)).take n) ?_
    · rw [hl] at this; exact this
    · intro j v hj
      rw [List.getElem?_take] at hj
      split at hj
      · rw [List.getElem?_drop, Array.getElem?_toList] at hj
        unfold Addr.add
        split
        · rename_i h0; subst h0; simpa [World.cell?, hh] using hj
        · simpa [World.cell?, hh] using hj
      · cases hj
  · intro j v hj
    rw [List.getElem?_take] at hj
    split at hj
    · rw [List.getElem?_drop, Array.getElem?_toList] at hj; exact hj
    · cases hj

def aLoad (P : Program) (t : TypeId) (p : Value) (h : AH) : Option Value :=
  match p with
  | .pointer (some ⟨A, off, none⟩) =>
    match (h.get A).bind AObj.cells? with
    | none => none
    | some c =>
      match P.underlying t with
      | none => none
      | some d =>
        if aggT d then
          match P.info? t with
          | none => none
          | some i => if off + i.size ≤ c.length then some (.agg ((c.drop off).take i.size).toArray) else none
        else c[off]?
  | _ => none

theorem aLoad_rd {P : Program} {ρ : Ren} {h : AH} {w : World} {t : TypeId} {p p' v : Value} (hr : HR ρ h w) (hp : VR ρ p p') (hv : aLoad P t p h = some v) :
    ∃ v', (Instr.loadAt t p').run P w = .ok v' w ∧ VR ρ v v' := by
  unfold aLoad at hv
  split at hv
  case h_2 => cases hv
  case h_1 A off =>
    cases hp with
    | ptr hq =>
      rename_i r
      cases hc : (h.get A).bind AObj.cells? with
      | none => simp [hc] at hv
      | some c =>
        simp only [hc] at hv
        cases hd : P.underlying t with
        | none => simp [hd] at hv
        | some d =>
          simp only [hd] at hv
          obtain ⟨o, ho, hoc⟩ := Option.bind_eq_some_iff.1 hc
          obtain ⟨q, eq, hor⟩ := hr.obj A o ho
          rw [hq] at eq; cases eq
          obtain ⟨e, wr, cc, fr, hrow⟩ := hor.rowAt hoc
          by_cases hagg : aggT d = true
          · simp only [hagg, if_true] at hv
            cases hi : P.info? t with
            | none => simp [hi] at hv
            | some i =>
              simp only [hi] at hv
              split at hv
              · rename_i hle
                cases hv
                obtain ⟨cs, hl, hlr, hload, _⟩ := hrow.many off i.size hle
                refine ⟨.agg cs.toArray, ?_, hlr.toAgg⟩
                simp only [Instr.loadAt, Instr.sureAddr, loadVar, Sem.run_bind, Sem.run_pure, Result.andThen_ok, r_isAgg w hd, hagg, if_true, r_size w hi, hload P w rfl]
              · cases hv
          · simp only [hagg, if_false, Bool.false_eq_true] at hv
            obtain ⟨v', hv', hvr⟩ := hrow.cell? hv
            refine ⟨v', ?_, hvr⟩
            simp only [Instr.loadAt, Instr.sureAddr, loadVar, Sem.run_bind, Sem.run_pure, Result.andThen_ok, r_isAgg w hd, hagg, if_false, Bool.false_eq_true, run_load, hv']

theorem aLoad_snd {P : Program} {ρ : Ren} {h : AH} {w : World} {t : TypeId} {p p' v : Value} (hr : HR ρ h w) (hp : VR ρ p p') (hv : aLoad P t p h = some v) :
    Snd P ρ h w (Instr.loadAt t p') v h := let ⟨_, a, b⟩ := aLoad_rd hr hp hv; Snd.pure hr a b

/-- Cells laid from a place on. -/
def setL (c : List Value) (off : Nat) : List Value → List Value
  | [] => c
  | x :: xs => setL (c.set off x) (off + 1) xs

@[simp] theorem setL_length (c : List Value) (off : Nat) (xs : List Value) : (setL c off xs).length = c.length := by
  induction xs generalizing c off with
  | nil => rfl
  | cons x xs ih => simp [setL, ih]

theorem oneC_oneCell' (v : Value) : v.oneCell' = oneC v := by cases v <;> rfl

/-- One store. -/
theorem RowAt.store1 {ρ : Ren} {r : RE} {w : World} {c : List Value} {e : TypeId} {cc : Array Value} {fr : Nat × Nat} (h : RowAt ρ r w c e true cc fr) {i : Nat} {x x' : Value}
    (hx : VR ρ x x') (ho : oneC x = true) (hi : i < c.length) (P : Program) :
    ∃ w', (Go.store ⟨r.blk, r.base + i, none⟩ x').run P w = .ok () w' ∧ RowAt ρ r w' (c.set i x) e true (cc.setIfInBounds (r.base + i) x') fr ∧ w'.heap.size = w.heap.size ∧
      (∀ b, b ≠ r.blk → w'.heap[b]? = w.heap[b]?) ∧ Side w w' := by
  have hf := h.fits
  obtain ⟨v0, hv0, _⟩ := h.cell? (i := i) (v := c[i]) (List.getElem?_eq_getElem hi)
  have hfree := h.free rfl (r.base + i) (by omega)
  refine ⟨w.setCell ⟨r.blk, r.base + i, none⟩ x', ?_, ⟨?_, ?_, ?_, ?_, ?_⟩, by simp, ?_, ⟨rfl, rfl, rfl⟩⟩
  · rw [run_store P w _ x' _ (by rw [oneC_oneCell', hx.one]; exact ho), hv0]
    simp only []
    rw [if_neg]
    simp only [World.frozen?, h.heap]
    simpa using hfree
  · simp [World.setCell, Array.getElem?_modify, h.heap]
  · simpa using hf
  · intro j v hj
    rw [List.getElem?_set] at hj
    by_cases e : i = j
    · subst e
      rw [if_pos rfl, if_pos hi] at hj; cases hj
      exact ⟨x', by rw [Array.getElem?_setIfInBounds_self_of_lt (by omega)], hx⟩
    · rw [if_neg e] at hj
      obtain ⟨v', a, b⟩ := h.cell j v hj
      exact ⟨v', by rw [Array.getElem?_setIfInBounds_ne (by omega)]; exact a, b⟩
  · intro _ j hj; exact h.free rfl j (by simpa using hj)
  · intro v hv
    rcases List.mem_or_eq_of_mem_set hv with hv | rfl
    · exact h.one v hv
    · exact ho
  · intro b hb
    simp only [World.setCell, Array.getElem?_modify]
    rw [if_neg (fun x => hb x.symm)]

theorem add_add (b o i : Nat) : (Addr.add ⟨b, o, none⟩ i) = ⟨b, o + i, none⟩ := by
  unfold Addr.add; split <;> simp_all

theorem RowAt.stores {ρ : Ren} {r : RE} {e : TypeId} {fr : Nat × Nat} (P : Program) (b : Nat) : ∀ (xs xs' : List Value) (w : World) (c : List Value) (cc : Array Value) (i off : Nat),
    RowAt ρ r w c e true cc fr → LR ρ xs xs' → (∀ x ∈ xs, oneC x = true) → b + i = r.base + off → off + xs.length ≤ c.length →
    ∃ w' cc', (storeCells ⟨r.blk, b, none⟩ xs' i).run P w = .ok () w' ∧ RowAt ρ r w' (setL c off xs) e true cc' fr ∧ cc'.size = cc.size ∧ w'.heap.size = w.heap.size ∧
      (∀ b, b ≠ r.blk → w'.heap[b]? = w.heap[b]?) ∧ Side w w' := by
  intro xs
  induction xs with
  | nil =>
    intro xs' w c cc i off h hl _ _ _
    have : xs' = [] := List.eq_nil_of_length_eq_zero hl.1.symm
    subst this
    exact ⟨w, cc, by simp [storeCells], by simpa [setL] using h, rfl, rfl, fun _ _ => rfl, Side.refl _⟩
  | cons x xs ih =>
    intro xs' w c cc i off h hl ho hbi hlen
    cases xs' with
    | nil => have := hl.1; simp at this
    | cons x' xs' =>
      simp only [List.length_cons] at hlen
      have hx : VR ρ x x' := hl.2 0 x x' rfl rfl
      have ht : LR ρ xs xs' := ⟨by simpa using hl.1, fun j v v' a b => hl.2 (j + 1) v v' (by simpa using a) (by simpa using b)⟩
      obtain ⟨w1, hw1, hrow1, hs1, hb1, sd1⟩ := h.store1 hx (ho x (by simp)) (by omega : off < c.length) P
      obtain ⟨w2, cc2, hw2, hrow2, hcs2, hs2, hb2, sd2⟩ := ih xs' w1 (c.set off x) _ (i + 1) (off + 1) hrow1 ht (fun y hy => ho y (by simp [hy])) (by omega) (by simp; omega)
      refine ⟨w2, cc2, ?_, hrow2, by rw [hcs2]; simp, hs2.trans hs1, fun b' hb' => (hb2 b' hb').trans (hb1 b' hb'), sd1.trans sd2⟩
      have hadd : (Addr.add ⟨r.blk, b, none⟩ i) = ⟨r.blk, r.base + off, none⟩ := by rw [add_add, hbi]
      simp only [storeCells, Sem.run_bind, hadd, hw1, Result.andThen_ok]
      exact hw2

def AObj.setCells (o : AObj) (off : Nat) (xs : List Value) : Option AObj :=
  match o with
  | .row c e true => if off + xs.length ≤ c.length then some (.row (setL c off xs) e true) else none
  | .grow c e => if off + xs.length ≤ c.length then some (.grow (setL c off xs) e) else none
  | _ => none

/-- A run of stores into an abstract block. -/
theorem HR.stores {ρ : Ren} {h : AH} {w : World} (hr : HR ρ h w) {A off : Nat} {o o' : AObj} {r : RE} {xs xs' : List Value} (P : Program) (ha : h.get A = some o) (hq : ρ A = some r)
    (hl : LR ρ xs xs') (ho : ∀ x ∈ xs, oneC x = true) (hs : o.setCells off xs = some o') :
    ∃ w', (storeCells ⟨r.blk, r.base + off, none⟩ xs').run P w = .ok () w' ∧ HR ρ (h.set A o') w' ∧ Frm ρ h w ρ (h.set A o') w' := by
  obtain ⟨q, eq, hor⟩ := hr.obj A o ha
  rw [hq] at eq; cases eq
  unfold AObj.setCells at hs
  split at hs
  · rename_i c e
    split at hs
    · rename_i hle
      cases hs
      obtain ⟨cc, fr, hrow⟩ := hor
      obtain ⟨w', cc', hrun, hrow', _, hsz, hb, sd⟩ := RowAt.stores P (r.base + off) xs xs' w c cc 0 off hrow hl ho (by omega) hle
      exact ⟨w', hrun, hr.store ha rfl hq hsz hb ⟨cc', fr, hrow'⟩ sd⟩
    · cases hs
  · rename_i c e
    split at hs
    · rename_i hle
      cases hs
      obtain ⟨cc, fr, hrow, hlim⟩ := hor
      obtain ⟨w', cc', hrun, hrow', hcs, hsz, hb, sd⟩ := RowAt.stores P (r.base + off) xs xs' w c cc 0 off hrow hl ho (by omega) hle
      exact ⟨w', hrun, hr.store ha rfl hq hsz hb ⟨cc', fr, hrow', hcs.trans hlim⟩ sd⟩
    · cases hs
  · cases hs

def aStore (P : Program) (t : TypeId) (p x : Value) (h : AH) : Option AH :=
  match p with
  | .pointer (some ⟨A, off, none⟩) =>
    match P.info? t with
    | none => none
    | some i =>
      if x.cells.size = i.size ∧ x.cells.toList.all oneC = true then
        match h.get A with
        | none => none
        | some o => (o.setCells off x.cells.toList).map (h.set A)
      else none
  | _ => none

theorem aStore_snd {P : Program} {ρ : Ren} {h h' : AH} {w : World} {t : TypeId} {p p' x x' : Value} (hr : HR ρ h w) (hp : VR ρ p p') (hx : VR ρ x x') (hv : aStore P t p x h = some h') :
    SndU P ρ h w (Instr.storeAt t p' x') h' := by
  unfold aStore at hv
  split at hv
  case h_2 => cases hv
  case h_1 A off =>
    cases hp with
    | ptr hq =>
      rename_i r
      cases hi : P.info? t with
      | none => simp [hi] at hv
      | some i =>
        simp only [hi] at hv
        split at hv
        · rename_i hc
          obtain ⟨hsz, hone⟩ := hc
          cases ho : h.get A with
          | none => simp [ho] at hv
          | some o =>
            simp only [ho, Option.map_eq_some_iff] at hv
            obtain ⟨o', hs, rfl⟩ := hv
            have hl := hx.cells
            obtain ⟨w', hrun, hr', hf⟩ := hr.stores P ho hq hl (List.all_eq_true.1 hone) hs
            refine ⟨ρ, w', ?_, hr', hf⟩
            have hsz' : x'.cells.size = i.size := by have := hl.1; simp at this; omega
            simp only [Instr.storeAt, Instr.sureAddr, storeVar, Sem.run_bind, Sem.run_pure, Result.andThen_ok, r_size w hi, hsz', ne_eq, not_true_eq_false, if_false]
            exact hrun
        · cases hv

/-! ### New rows -/

theorem rowAt_new {ρ : Ren} {w w' : World} {c c' : List Value} {e : TypeId} (hw : w'.heap = w.heap.push (.cells c'.toArray e)) (hl : LR ρ c c') (ho : ∀ v ∈ c, oneC v = true) (lim : Nat) :
    RowAt ρ ⟨w.heap.size, 0, lim⟩ w' c e true c'.toArray (0, 0) := by
  refine ⟨by simp [hw], by simp [hl.1], fun i v hi => ?_, fun _ i _ h => by omega, ho⟩
  obtain ⟨v', a, b⟩ := hl.get hi
  exact ⟨v', by simpa using a, b⟩

/-- A new row of known cells. -/
theorem HR.newRow {ρ : Ren} {h : AH} {w : World} (hr : HR ρ h w) (P : Program) {c c' : List Value} {e : TypeId} (hl : LR ρ c c') (ho : ∀ v ∈ c, oneC v = true) :
    ∃ ρ' w', (Go.newRow e c'.toArray).run P w = .ok ⟨w.heap.size, 0, none⟩ w' ∧ ρ' h.next = some ⟨w.heap.size, 0, 0⟩ ∧ HR ρ' (h.new (.row c e true)) w' ∧ Frm ρ h w ρ' (h.new (.row c e true)) w' := by
  obtain ⟨a, b⟩ := hr.alloc (x := .cells c'.toArray e) (o := .row c e true) (w' := { w with heap := w.heap.push (.cells c'.toArray e) }) (base := 0) (lim := 0) rfl
    (fun ρ' hle _ => ⟨_, _, rowAt_new rfl (hl.mono hle) ho 0⟩)
  exact ⟨_, _, rfl, Ren.put_same _ _ _, a, b⟩

def aAlloc (P : Program) (t : TypeId) (h : AH) : Option (Value × AH) :=
  match P.info? t with
  | none => none
  | some i =>
    match i.zero with
    | none => none
    | some z => if z.cells.toList.all oneC = true ∧ plain 9 z = true then some (.pointer (some ⟨h.next, 0, none⟩), h.new (.row z.cells.toList t true)) else none

theorem aAlloc_snd {P : Program} {ρ : Ren} {h h' : AH} {w : World} {t : TypeId} {v : Value} (hr : HR ρ h w) (hv : aAlloc P t h = some (v, h')) :
    Snd P ρ h w (Instr.alloc t true (.tuple #[])) v h' := by
  unfold aAlloc at hv
  cases hi : P.info? t with
  | none => simp [hi] at hv
  | some i =>
    simp only [hi] at hv
    cases hz : i.zero with
    | none => simp [hz] at hv
    | some z =>
      simp only [hz] at hv
      split at hv
      · rename_i hc
        cases hv
        obtain ⟨ρ', w', hrun, hq, hr', hf⟩ := hr.newRow P (e := t) (plain_VR ρ _ z hc.2).cells (List.all_eq_true.1 hc.1)
        refine ⟨ρ', .pointer (some ⟨w.heap.size, 0, none⟩), w', ?_, ?_, hr', hf⟩
        · simp only [Instr.alloc, Sem.run_bind, r_zero w hi hz, Result.andThen_ok, newVar]
          rw [show (z.cells) = (z.cells.toList.toArray) by simp, hrun]; rfl
        · have := VR.ptr (ρ := ρ') (off := 0) hq; simpa using this
      · cases hv

def aBox (t : TypeId) (x : Value) (h : AH) : Option (Value × AH) :=
  if x.cells.toList.all oneC = true then some (.pointer (some ⟨h.next, 0, none⟩), h.new (.row x.cells.toList t true)) else none

theorem aBox_snd {P : Program} {ρ : Ren} {h h' : AH} {w : World} {t : TypeId} {x x' v : Value} (hr : HR ρ h w) (hx : VR ρ x x') (hv : aBox t x h = some (v, h')) :
    Snd P ρ h w (Instr.box t x') v h' := by
  unfold aBox at hv
  split at hv
  · rename_i hc
    cases hv
    obtain ⟨ρ', w', hrun, hq, hr', hf⟩ := hr.newRow P (e := t) hx.cells (List.all_eq_true.1 hc)
    refine ⟨ρ', .pointer (some ⟨w.heap.size, 0, none⟩), w', ?_, ?_, hr', hf⟩
    · simp only [Instr.box, Sem.run_bind, newVar]
      rw [show (x'.cells) = (x'.cells.toList.toArray) by simp, hrun]; rfl
    · have := VR.ptr (ρ := ρ') (off := 0) hq; simpa using this
  · cases hv

end Go.Ab
