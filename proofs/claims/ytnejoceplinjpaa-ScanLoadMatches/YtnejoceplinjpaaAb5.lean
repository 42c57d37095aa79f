/- Own layer 'Ab': values built of parts, new slices and maps. -/
import Derived.Test.YtnejoceplinjpaaAb4
namespace Go.Ab

theorem LR.setL {ρ : Ren} : ∀ (xs xs' c c' : List Value) (off : Nat), LR ρ c c' → LR ρ xs xs' → LR ρ (setL c off xs) (Ab.setL c' off xs') := by
  intro xs
  induction xs with
  | nil =>
    intro xs' c c' off h hl
    have : xs' = [] := List.eq_nil_of_length_eq_zero hl.1.symm
    subst this; exact h
  | cons x xs ih =>
    intro xs' c c' off h hl
    cases xs' with
    | nil => have := hl.1; simp at this
    | cons x' xs' =>
      exact ih xs' _ _ _ (h.set off (hl.2 0 x x' rfl rfl)) ⟨by simpa using hl.1, fun j v v' a b => hl.2 (j + 1) v v' (by simpa using a) (by simpa using b)⟩

/-- Parts laid into cells. -/
def fillL (place : Nat → Option (Nat × Nat)) (cells : List Value) : List (Nat × Value) → Option (List Value)
  | [] => some cells
  | (i, v) :: rest =>
    match place i with
    | none => none
    | some (off, size) => if v.cells.size ≠ size ∨ off + v.cells.size > cells.length then none else fillL place (setL cells off v.cells.toList) rest

theorem foldl_setL (off : Nat) : ∀ (xs : List Value) (k : Nat) (c : Array Value),
    ((xs.zipIdx k).foldl (fun cs (x : Value × Nat) => cs.setIfInBounds (off + x.2) x.1) c) = (setL c.toList (off + k) xs).toArray := by
  intro xs
  induction xs with
  | nil => intro k c; simp [setL]
  | cons x xs ih =>
    intro k c
    simp only [List.zipIdx_cons, List.foldl_cons, setL]
    rw [ih (k + 1)]
    simp [Nat.add_assoc]

theorem fill_eq (place : Nat → Option (Nat × Nat)) : ∀ (ps : List (Nat × Value)) (c : Array Value), Instr.fill place c ps = (fillL place c.toList ps).map List.toArray := by
  intro ps
  induction ps with
  | nil => intro c; simp [Instr.fill, fillL]
  | cons p ps ih =>
    intro c
    obtain ⟨i, v⟩ := p
    simp only [Instr.fill, fillL]
    cases hp : place i with
    | none => rfl
    | some q =>
      obtain ⟨off, size⟩ := q
      simp only []
      have e : v.cells.zipIdx.foldl (fun cs (x : Value × Nat) => cs.setIfInBounds (off + x.2) x.1) c = (setL c.toList off v.cells.toList).toArray := by
        have := foldl_setL off v.cells.toList 0 c
        rw [← Array.foldl_toList, Array.toList_zipIdx]
        simpa using this
      split
      · rename_i h
        rw [if_pos (by simpa using h)]; rfl
      · rename_i h
        rw [if_neg (by simpa using h)]
        have := ih (setL c.toList off v.cells.toList).toArray
        simp only at this
        rw [← this]
        congr 1

def PR (ρ : Ren) (ps ps' : List (Nat × Value)) : Prop := ps.length = ps'.length ∧ ∀ (i : Nat) (p p' : Nat × Value), ps[i]? = some p → ps'[i]? = some p' → p.1 = p'.1 ∧ VR ρ p.2 p'.2

theorem fillL_VR {ρ : Ren} (place : Nat → Option (Nat × Nat)) : ∀ (ps ps' : List (Nat × Value)) (c c' r : List Value), LR ρ c c' → PR ρ ps ps' → fillL place c ps = some r →
    ∃ r', fillL place c' ps' = some r' ∧ LR ρ r r' := by
  intro ps
  induction ps with
  | nil =>
    intro ps' c c' r h hp hf
    have : ps' = [] := List.eq_nil_of_length_eq_zero hp.1.symm
    subst this
    cases hf; exact ⟨_, rfl, h⟩
  | cons p ps ih =>
    intro ps' c c' r h hp hf
    cases ps' with
    | nil => have := hp.1; simp at this
    | cons p' ps' =>
      obtain ⟨i, v⟩ := p
      obtain ⟨i', v'⟩ := p'
      obtain ⟨hi, hv⟩ := hp.2 0 _ _ rfl rfl
      simp only at hi; subst hi
      have ht : PR ρ ps ps' := ⟨by simpa using hp.1, fun j q q' a b => hp.2 (j + 1) q q' (by simpa using a) (by simpa using b)⟩
      simp only [fillL] at hf ⊢
      cases hpl : place i with
      | none => simp [hpl] at hf
      | some q =>
        obtain ⟨off, size⟩ := q
        simp only [hpl] at hf ⊢
        have hc := hv.cells
        have hsz : v'.cells.size = v.cells.size := by have := hc.1; simp at this; omega
        split at hf
        · cases hf
        · rename_i hn
          rw [if_neg (by rw [hsz, ← h.1]; exact hn)]
          exact ih ps' _ _ _ (LR.setL _ _ _ _ _ h hc) ht hf

def sizesOf (P : Program) : List Field → Option (List (Nat × Nat))
  | [] => some []
  | f :: fs => match P.info? f.type, sizesOf P fs with
    | some i, some r => some ((f.offset, i.size) :: r)
    | _, _ => none

theorem sizesOf_run {P : Program} (w : World) : ∀ (fs : List Field) (r : List (Nat × Nat)), sizesOf P fs = some r →
    (fs.mapM (fun f => do pure (f.offset, ← sizeOf f.type)) : Sem (List (Nat × Nat))).run P w = .ok r w := by
  intro fs
  induction fs with
  | nil => intro r h; cases h; simp
  | cons f fs ih =>
    intro r h
    simp only [sizesOf] at h
    split at h
    · rename_i i r' hi hr
      cases h
      simp only [List.mapM_cons, Sem.run_bind, r_size w hi, Result.andThen_ok, Sem.run_pure, ih r' hr]
    · cases h

def aBuild (P : Program) (t : TypeId) (ps : List (Nat × Value)) : Option Value :=
  match P.info? t with
  | none => none
  | some i =>
    match i.zero with
    | none => none
    | some z =>
      if plain 9 z = false then none else
      match P.underlying t with
      | some (.struct fs) =>
        match sizesOf P fs.toList with
        | some pl => (fillL (fun (k : Nat) => pl[k]?) z.cells.toList ps).map fun c => .agg c.toArray
        | none => none
      | some (.array _ e) =>
        match P.info? e with
        | some ie => (fillL (fun k => some (k * ie.size, ie.size)) z.cells.toList ps).map fun c => .agg c.toArray
        | none => none
      | _ => none

theorem aBuild_run {P : Program} {ρ : Ren} {t : TypeId} {ps : List (Nat × Value)} {ps' : Array (Nat × Value)} {v : Value} (hp : PR ρ ps ps'.toList) (h : aBuild P t ps = some v) (w : World) : Rd P ρ w (Instr.build t ps') v := by
  unfold aBuild at h
  cases hi : P.info? t with
  | none => simp [hi] at h
  | some i =>
    simp only [hi] at h
    cases hz : i.zero with
    | none => simp [hz] at h
    | some z =>
      simp only [hz] at h
      split at h
      · cases h
      · rename_i hpl
        have hzr : LR ρ z.cells.toList z.cells.toList := (plain_VR ρ 9 z (by simpa using hpl)).cells
        cases hd : P.underlying t with
        | none => simp [hd] at h
        | some d =>
          simp only [hd] at h
          split at h
          · rename_i fs e
            cases e
            cases hs : sizesOf P fs.toList with
            | none => simp [hs] at h
            | some pl =>
              simp only [hs, Option.map_eq_some_iff] at h
              obtain ⟨c, hc, rfl⟩ := h
              obtain ⟨c', hc', hl⟩ := fillL_VR _ ps ps'.toList _ _ _ hzr hp hc
              refine ⟨.agg c'.toArray, ?_, hl.toAgg⟩
              have hm : (fs.mapM (fun f => do pure (f.offset, ← sizeOf f.type)) : Sem (Array (Nat × Nat))).run P w = .ok pl.toArray w := by
                rw [Array.mapM_eq_mapM_toList]
                simp only [Sem.run_map, sizesOf_run w _ _ hs, Result.andThen_ok]
              have hf : Instr.fill (fun (k : Nat) => pl.toArray[k]?) z.cells ps'.toList = some c'.toArray := by
                rw [fill_eq]
                have : (fun (k : Nat) => pl.toArray[k]?) = fun (k : Nat) => pl[k]? := by funext k; simp
                rw [this, hc']; rfl
              simp only [Instr.build, Sem.run_bind, r_zero w hi hz, Result.andThen_ok, r_under w hd, hm, hf, Sem.run_pure]
          · rename_i n e eq
            cases eq
            cases he : P.info? e with
            | none => simp [he] at h
            | some ie =>
              simp only [he, Option.map_eq_some_iff] at h
              obtain ⟨c, hc, rfl⟩ := h
              obtain ⟨c', hc', hl⟩ := fillL_VR _ ps ps'.toList _ _ _ hzr hp hc
              refine ⟨.agg c'.toArray, ?_, hl.toAgg⟩
              have hf : Instr.fill (fun k => some (k * ie.size, ie.size)) z.cells ps'.toList = some c'.toArray := by
                rw [fill_eq, hc']; rfl
              simp only [Instr.build, Sem.run_bind, r_zero w hi hz, Result.andThen_ok, r_under w hd, r_size w he, hf, Sem.run_pure]
          · cases h

/-- n times the cells of a zero. -/
def zeros (z : List Value) (n : Nat) : List Value := (List.range (n * z.length)).map fun k => z.getD (k % z.length) undef

theorem zeros_one (v : Value) (n : Nat) : zeros [v] n = List.replicate n v := by
  unfold zeros
  apply List.ext_getElem?
  intro i
  by_cases hi : i < n
  · simp [hi, Nat.mod_one]
  · simp [hi]

theorem zeros_VR {ρ : Ren} {z : Value} (hz : plain 9 z = true) (n : Nat) : LR ρ (zeros z.cells.toList n) (zeros z.cells.toList n) := by
  refine LR.of_refl fun v hv => ?_
  unfold zeros at hv
  obtain ⟨k, _, rfl⟩ := List.mem_map.1 hv
  have hl := (plain_VR ρ 9 z hz).cells
  by_cases h0 : k % z.cells.toList.length < z.cells.toList.length
  · rw [List.getD_eq_getElem?_getD, List.getElem?_eq_getElem h0]
    exact hl.2 _ _ _ (List.getElem?_eq_getElem h0) (List.getElem?_eq_getElem h0)
  · rw [List.getD_eq_getElem?_getD, List.getElem?_eq_none (Nat.le_of_not_lt h0)]
    exact VR.undef ρ

theorem zeros_get (z : Array Value) (n : Nat) : (Array.range (n * z.size)).map (fun k => z[k % z.size]!) = (zeros z.toList n).toArray := by
  apply Array.ext'
  simp only [Array.toList_map, Array.toList_range, zeros, Array.length_toList]
  apply List.map_congr_left
  intro k hk
  have hpos : 0 < z.size := by
    rcases Nat.eq_zero_or_pos z.size with h | h
    · rw [h] at hk; simp at hk
    · exact h
  have hlt : k % z.size < z.size := Nat.mod_lt _ hpos
  rw [List.getD_eq_getElem?_getD, Array.getElem?_toList, getElem!_pos z _ hlt, Array.getElem?_eq_getElem hlt]; rfl

def aBuildSlice (P : Program) (t : TypeId) (len : Nat) (ps : List (Nat × Value)) (h : AH) : Option (Value × AH) :=
  match P.underlying t with
  | some (.slice e) =>
    match P.info? e with
    | some ie =>
      match ie.zero with
      | some z =>
        if plain 9 z = true ∧ z.cells.size = ie.size ∧ len * ie.size ≤ 16777216 ∧ len < SL then
          match fillL (fun k => some (k * ie.size, ie.size)) (zeros z.cells.toList len) ps with
          | some c => if c.all oneC = true then some (.slice (some ⟨h.next, 0, none⟩) len len, h.new (.row c e true)) else none
          | none => none
        else none
      | none => none
    | none => none
  | _ => none

theorem aBuildSlice_snd {P : Program} {ρ : Ren} {h h' : AH} {w : World} {t : TypeId} {len : Nat} {ps : List (Nat × Value)} {ps' : Array (Nat × Value)} {v : Value} (hr : HR ρ h w) (hp : PR ρ ps ps'.toList)
    (hv : aBuildSlice P t len ps h = some (v, h')) : Snd P ρ h w (Instr.buildSlice t len ps') v h' := by
  unfold aBuildSlice at hv
  cases hd : P.underlying t with
  | none => simp [hd] at hv
  | some d =>
    simp only [hd] at hv
    split at hv
    case h_2 => cases hv
    rename_i e eq
    cases eq
    cases he : P.info? e with
    | none => simp [he] at hv
    | some ie =>
      simp only [he] at hv
      cases hz : ie.zero with
      | none => simp [hz] at hv
      | some z =>
        simp only [hz] at hv
        split at hv
        case isFalse => cases hv
        rename_i hc
        obtain ⟨hpl, hzs, hle, hlt⟩ := hc
        split at hv
        case h_2 => cases hv
        rename_i c hf
        split at hv
        case isFalse => cases hv
        rename_i hone
        cases hv
        obtain ⟨c', hc', hl⟩ := fillL_VR _ ps ps'.toList _ _ _ (zeros_VR hpl len) hp hf
        obtain ⟨ρ', w', hrun, hq, hr', hf'⟩ := hr.newRow P (e := e) hl (List.all_eq_true.1 hone)
        refine ⟨ρ', .slice (some ⟨w.heap.size, 0, none⟩) len len, w', ?_, ?_, hr', hf'⟩
        · have hnot : ¬ len * ie.size > 2 ^ 24 := by omega
          simp only [Instr.buildSlice, Sem.run_bind, r_under w hd, Result.andThen_ok, r_size w he, hnot, if_false]
          by_cases h0 : len * ie.size = 0
          · have hz0 : zeros z.cells.toList len = [] := by unfold zeros; rw [Array.length_toList, hzs, h0]; rfl
            rw [hz0] at hc'
            simp only [h0, if_true]
            have hfl : Instr.fill (fun i => some (i * ie.size, ie.size)) ((Array.range 0).map fun x => (#[] : Array Value)[x % (#[] : Array Value).size]!) ps'.toList = some c'.toArray := by
              rw [fill_eq]; simp [hc']
            simp only [hfl, Sem.run_bind, hrun, Result.andThen_ok, Sem.run_pure]
          · simp only [h0, if_false, r_zero w he hz, Result.andThen_ok, Sem.run_bind, Sem.run_pure]
            have hfl : Instr.fill (fun i => some (i * ie.size, ie.size)) ((Array.range (len * ie.size)).map fun x => z.cells[x % z.cells.size]!) ps'.toList = some c'.toArray := by
              rw [fill_eq, ← hzs, zeros_get, hzs, hc']; rfl
            simp only [hfl, Sem.run_bind, hrun, Result.andThen_ok, Sem.run_pure]
        · have := VR.slice (ρ := ρ') (off := 0) (l := len) hq hlt; simpa using this

def aMakeSlice (P : Program) (t : TypeId) (l c : Value) (h : AH) : Option (Value × AH) :=
  match P.underlying t, l, c with
  | some (.slice e), .int _ ln, .int _ cn =>
    match P.info? e with
    | some ie =>
      match ie.zero with
      | some z =>
        if 0 ≤ ln ∧ ln ≤ cn ∧ cn.toNat * ie.bytes ≤ 281474976710656 ∧ cn ≤ 9223372036854775807 ∧ plain 9 z = true ∧ z.cells.size = ie.size ∧ z.cells.toList.all oneC = true then
          some (.slice (some ⟨h.next, 0, none⟩) ln.toNat cn.toNat, h.new (.row (zeros z.cells.toList cn.toNat) e true))
        else none
      | none => none
    | none => none
  | _, _, _ => none

theorem zeros_oneC {z : List Value} (hz : z.all oneC = true) (n : Nat) : ∀ v ∈ zeros z n, oneC v = true := by
  intro v hv
  unfold zeros at hv
  obtain ⟨k, hk, rfl⟩ := List.mem_map.1 hv
  have hpos : 0 < z.length := by
    rcases Nat.eq_zero_or_pos z.length with h | h
    · rw [h] at hk; simp at hk
    · exact h
  have h0 : k % z.length < z.length := Nat.mod_lt _ hpos
  rw [List.getD_eq_getElem?_getD, List.getElem?_eq_getElem h0]
  exact List.all_eq_true.1 hz _ (List.getElem_mem h0)

theorem aMakeSlice_snd {P : Program} {ρ : Ren} {h h' : AH} {w : World} {t : TypeId} {l c l' c' v : Value} (hr : HR ρ h w) (hl : VR ρ l l') (hc : VR ρ c c') (hv : aMakeSlice P t l c h = some (v, h')) :
    Snd P ρ h w (Instr.makeSlice t l' c') v h' := by
  unfold aMakeSlice at hv
  split at hv
  case h_2 => cases hv
  rename_i e kl ln kc cn hd
  cases hl; cases hc
  cases he : P.info? e with
  | none => simp [he] at hv
  | some ie =>
    simp only [he] at hv
    cases hz : ie.zero with
    | none => simp [hz] at hv
    | some z =>
      simp only [hz] at hv
      split at hv
      case isFalse => cases hv
      rename_i hb
      obtain ⟨h0, hlc, hby, h63, hpl, hzs, hone⟩ := hb
      cases hv
      have hby' : (ie.bytes : Int) * cn ≤ 281474976710656 := by
        have hcn : ((cn.toNat : Nat) : Int) = cn := Int.toNat_of_nonneg (by omega)
        have : (((cn.toNat * ie.bytes : Nat)) : Int) ≤ 281474976710656 := by omega
        rw [Int.natCast_mul, hcn, Int.mul_comm] at this; exact this
      have hrun := run_make (P := P) w t e ie z hd he hz kl kc ln cn h0 hlc hby' h63
      obtain ⟨ρ', w', hnew, hq, hr', hf'⟩ := hr.newRow P (e := e) (zeros_VR hpl cn.toNat) (zeros_oneC hone cn.toNat)
      have hmade : madeCells z.cells (cn.toNat * ie.size) = (zeros z.cells.toList cn.toNat).toArray := by
        unfold madeCells; rw [← hzs]; exact zeros_get z.cells cn.toNat
      have hw' : w' = w.alloc (.cells (madeCells z.cells (cn.toNat * ie.size)) e) := by
        rw [hmade]
        simp only [newRow, Sem.run_bind, run_newObj, Result.andThen_ok, Sem.run_pure] at hnew
        injection hnew with _ h2
        exact h2.symm
      refine ⟨ρ', _, w', by rw [hw']; exact hrun, ?_, hr', hf'⟩
      have := VR.slice (ρ := ρ') (off := 0) (l := ln.toNat) (c := cn.toNat) hq (by unfold SL; omega)
      simpa using this

theorem aMakeMap_snd {P : Program} {ρ : Ren} {h : AH} {w : World} (t : TypeId) (hr : HR ρ h w) :
    Snd P ρ h w (Instr.makeMap t none) (.map (some h.next)) (h.new (.map [] 0)) := by
  obtain ⟨a, b⟩ := hr.alloc (x := .map #[] 0) (o := .map [] 0) (w' := { w with heap := w.heap.push (.map #[] 0) }) (base := 0) (lim := 0) rfl
    (fun ρ' _ _ => ⟨#[], by simp, rfl, fun i e e' x _ => by simp at x⟩)
  exact ⟨_, .map (some w.heap.size), _, by simp [Instr.makeMap], .map (Ren.put_same _ _ _), a, b⟩

theorem PR.of_map {ρ : Ren} {ps : Array (Nat × Operand)} {ev ev' : Operand → Value} (h : ∀ p ∈ ps.toList, VR ρ (ev p.2) (ev' p.2)) :
    PR ρ (ps.toList.map fun p => (p.1, ev p.2)) ((ps.map fun (i, x) => (i, ev' x)).toList) := by
  refine ⟨by simp, fun i p p' a b => ?_⟩
  simp only [Array.toList_map, List.getElem?_map, Option.map_eq_some_iff] at a b
  obtain ⟨x, hx, rfl⟩ := a
  obtain ⟨y, hy, rfl⟩ := b
  rw [hx] at hy; cases hy
  exact ⟨rfl, h x (List.mem_of_getElem? hx)⟩

end Go.Ab
