/- Own layer 'Ab': values built of parts, new slices and maps. Own layer 'Ab': maps, lengths, copies. Own layer 'Ab': entries, deletions, lengths, copies, walks over maps. Own layer 'Ab': every operation. Own layer 'Ab': one operation, its way on the abstract heap, and that the model goes it. Own layer 'Ab': a string's bytes, as a new row. Own layer 'Ab': the walk of an operation, of code, of a call. -/
import Derived.Test.YtnejoceplinjpaaGreatB0
set_option linter.unusedSimpArgs false
set_option linter.unusedVariables false
namespace Go.Ab

theorem LR.setL {ρ : Ren} : ∀ (xs xs' c c' : List Value) (off : Nat), LR ρ c c' → LR ρ xs xs' → LR ρ (setL c off xs) (Ab.setL c' off xs') := by
  intro xs
  induction xs with
  | nil =>
    intro xs' c c' off h hl
    have : xs' = [] := List.eq_nil_of_length_eq_zero hl.1.symm
    subst this; exact h
  | cons x xs ih =>
    intro xs' c c' off h hl
    cases xs' with
    | nil => have := hl.1; simp at this
    | cons x' xs' =>
      exact ih xs' _ _ _ (h.set off (hl.2 0 x x' rfl rfl)) ⟨by simpa using hl.1, fun j v v' a b => hl.2 (j + 1) v v' (by simpa using a) (by simpa using b)⟩

/-- Parts laid into cells. -/
def fillL (place : Nat → Option (Nat × Nat)) (cells : List Value) : List (Nat × Value) → Option (List Value)
  | [] => some cells
  | (i, v) :: rest =>
    match place i with
    | none => none
    | some (off, size) => if v.cells.size ≠ size ∨ off + v.cells.size > cells.length then none else fillL place (setL cells off v.cells.toList) rest

theorem foldl_setL (off : Nat) : ∀ (xs : List Value) (k : Nat) (c : Array Value),
    ((xs.zipIdx k).foldl (fun cs (x : Value × Nat) => cs.setIfInBounds (off + x.2) x.1) c) = (setL c.toList (off + k) xs).toArray := by
  intro xs
  induction xs with
  | nil => intro k c; simp [setL]
  | cons x xs ih =>
    intro k c
    simp only [List.zipIdx_cons, List.foldl_cons, setL]
    rw [ih (k + 1)]
    simp [Nat.add_assoc]

theorem fill_eq (place : Nat → Option (Nat × Nat)) : ∀ (ps : List (Nat × Value)) (c : Array Value), Instr.fill place c ps = (fillL place c.toList ps).map List.toArray := by
  intro ps
  induction ps with
  | nil => intro c; simp [Instr.fill, fillL]
  | cons p ps ih =>
    intro c
    obtain ⟨i, v⟩ := p
    simp only [Instr.fill, fillL]
    cases hp : place i with
    | none => rfl
    | some q =>
      obtain ⟨off, size⟩ := q
      simp only []
      have e : v.cells.zipIdx.foldl (fun cs (x : Value × Nat) => cs.setIfInBounds (off + x.2) x.1) c = (setL c.toList off v.cells.toList).toArray := by
        have := foldl_setL off v.cells.toList 0 c
        rw [← Array.foldl_toList, Array.toList_zipIdx]
        simpa using this
      split
      · rename_i h
        rw [if_pos (by simpa using h)]; rfl
      · rename_i h
        rw [if_neg (by simpa using h)]
        have := ih (setL c.toList off v.cells.toList).toArray
        simp only at this
        rw [← this]
        congr 1

def PR (ρ : Ren) (ps ps' : List (Nat × Value)) : Prop := ps.length = ps'.length ∧ ∀ (i : Nat) (p p' : Nat × Value), ps[i]? = some p → ps'[i]? = some p' → p.1 = p'.1 ∧ VR ρ p.2 p'.2

theorem fillL_VR {ρ : Ren} (place : Nat → Option (Nat × Nat)) : ∀ (ps ps' : List (Nat × Value)) (c c' r : List Value), LR ρ c c' → PR ρ ps ps' → fillL place c ps = some r →
    ∃ r', fillL place c' ps' = some r' ∧ LR ρ r r' := by
  intro ps
  induction ps with
  | nil =>
    intro ps' c c' r h hp hf
    have : ps' = [] := List.eq_nil_of_length_eq_zero hp.1.symm
    subst this
    cases hf; exact ⟨_, rfl, h⟩
  | cons p ps ih =>
    intro ps' c c' r h hp hf
    cases ps' with
    | nil => have := hp.1; simp at this
    | cons p' ps' =>
      obtain ⟨i, v⟩ := p
      obtain ⟨i', v'⟩ := p'
      obtain ⟨hi, hv⟩ := hp.2 0 _ _ rfl rfl
      simp only at hi; subst hi
      have ht : PR ρ ps ps' := ⟨by simpa using hp.1, fun j q q' a b => hp.2 (j + 1) q q' (by simpa using a) (by simpa using b)⟩
      simp only [fillL] at hf ⊢
      cases hpl : place i with
      | none => simp [hpl] at hf
      | some q =>
        obtain ⟨off, size⟩ := q
        simp only [hpl] at hf ⊢
        have hc := hv.cells
        have hsz : v'.cells.size = v.cells.size := by have := hc.1; simp at this; omega
        split at hf
        · cases hf
        · rename_i hn
          rw [if_neg (by rw [hsz, ← h.1]; exact hn)]
          exact ih ps' _ _ _ (LR.setL _ _ _ _ _ h hc) ht hf

def sizesOf (P : Program) : List Field → Option (List (Nat × Nat))
  | [] => some []
  | f :: fs => match P.info? f.type, sizesOf P fs with
    | some i, some r => some ((f.offset, i.size) :: r)
    | _, _ => none

theorem sizesOf_run {P : Program} (w : World) : ∀ (fs : List Field) (r : List (Nat × Nat)), sizesOf P fs = some r →
    (fs.mapM (fun f => do pure (f.offset, ← sizeOf f.type)) : Sem (List (Nat × Nat))).run P w = .ok r w := by
  intro fs
  induction fs with
  | nil => intro r h; cases h; simp
  | cons f fs ih =>
    intro r h
    simp only [sizesOf] at h
    split at h
    · rename_i i r' hi hr
      cases h
      simp only [List.mapM_cons, Sem.run_bind, r_size w hi, Result.andThen_ok, Sem.run_pure, ih r' hr]
    · cases h

def aBuild (P : Program) (t : TypeId) (ps : List (Nat × Value)) : Option Value :=
  match P.info? t with
  | none => none
  | some i =>
    match i.zero with
    | none => none
    | some z =>
      if plain 9 z = false then none else
      match P.underlying t with
      | some (.struct fs) =>
        match sizesOf P fs.toList with
        | some pl => (fillL (fun (k : Nat) => pl[k]?) z.cells.toList ps).map fun c => .agg c.toArray
        | none => none
      | some (.array _ e) =>
        match P.info? e with
        | some ie => (fillL (fun k => some (k * ie.size, ie.size)) z.cells.toList ps).map fun c => .agg c.toArray
        | none => none
      | _ => none

theorem aBuild_run {P : Program} {ρ : Ren} {t : TypeId} {ps : List (Nat × Value)} {ps' : Array (Nat × Value)} {v : Value} (hp : PR ρ ps ps'.toList) (h : aBuild P t ps = some v) (w : World) : Rd P ρ w (Instr.build t ps') v := by
  unfold aBuild at h
  cases hi : P.info? t with
  | none => simp [hi] at h
  | some i =>
    simp only [hi] at h
    cases hz : i.zero with
    | none => simp [hz] at h
    | some z =>
      simp only [hz] at h
      split at h
      · cases h
      · rename_i hpl
        have hzr : LR ρ z.cells.toList z.cells.toList := (plain_VR ρ 9 z (by simpa using hpl)).cells
        cases hd : P.underlying t with
        | none => simp [hd] at h
        | some d =>
          simp only [hd] at h
          split at h
          · rename_i fs e
            cases e
            cases hs : sizesOf P fs.toList with
            | none => simp [hs] at h
            | some pl =>
              simp only [hs, Option.map_eq_some_iff] at h
              obtain ⟨c, hc, rfl⟩ := h
              obtain ⟨c', hc', hl⟩ := fillL_VR _ ps ps'.toList _ _ _ hzr hp hc
              refine ⟨.agg c'.toArray, ?_, hl.toAgg⟩
              have hm : (fs.mapM (fun f => do pure (f.offset, ← sizeOf f.type)) : Sem (Array (Nat × Nat))).run P w = .ok pl.toArray w := by
                rw [Array.mapM_eq_mapM_toList]
                simp only [Sem.run_map, sizesOf_run w _ _ hs, Result.andThen_ok]
              have hf : Instr.fill (fun (k : Nat) => pl.toArray[k]?) z.cells ps'.toList = some c'.toArray := by
                rw [fill_eq]
                have : (fun (k : Nat) => pl.toArray[k]?) = fun (k : Nat) => pl[k]? := by funext k; simp
                rw [this, hc']; rfl
              simp only [Instr.build, Sem.run_bind, r_zero w hi hz, Result.andThen_ok, r_under w hd, hm, hf, Sem.run_pure]
          · rename_i n e eq
            cases eq
            cases he : P.info? e with
            | none => simp [he] at h
            | some ie =>
              simp only [he, Option.map_eq_some_iff] at h
              obtain ⟨c, hc, rfl⟩ := h
              obtain ⟨c', hc', hl⟩ := fillL_VR _ ps ps'.toList _ _ _ hzr hp hc
              refine ⟨.agg c'.toArray, ?_, hl.toAgg⟩
              have hf : Instr.fill (fun k => some (k * ie.size, ie.size)) z.cells ps'.toList = some c'.toArray := by
                rw [fill_eq, hc']; rfl
              simp only [Instr.build, Sem.run_bind, r_zero w hi hz, Result.andThen_ok, r_under w hd, r_size w he, hf, Sem.run_pure]
          · cases h

/-- n times the cells of a zero. -/
def zeros (z : List Value) (n : Nat) : List Value := (List.range (n * z.length)).map fun k => z.getD (k % z.length) undef

theorem zeros_one (v : Value) (n : Nat) : zeros [v] n = List.replicate n v := by
  unfold zeros
  apply List.ext_getElem?
  intro i
  by_cases hi : i < n
  · simp [hi, Nat.mod_one]
  · simp [hi]

theorem zeros_VR {ρ : Ren} {z : Value} (hz : plain 9 z = true) (n : Nat) : LR ρ (zeros z.cells.toList n) (zeros z.cells.toList n) := by
  refine LR.of_refl fun v hv => ?_
  unfold zeros at hv
  obtain ⟨k, _, rfl⟩ := List.mem_map.1 hv
  have hl := (plain_VR ρ 9 z hz).cells
  by_cases h0 : k % z.cells.toList.length < z.cells.toList.length
  · rw [List.getD_eq_getElem?_getD, List.getElem?_eq_getElem h0]
    exact hl.2 _ _ _ (List.getElem?_eq_getElem h0) (List.getElem?_eq_getElem h0)
  · rw [List.getD_eq_getElem?_getD, List.getElem?_eq_none (Nat.le_of_not_lt h0)]
    exact VR.undef ρ

theorem zeros_get (z : Array Value) (n : Nat) : (Array.range (n * z.size)).map (fun k => z[k % z.size]!) = (zeros z.toList n).toArray := by
  apply Array.ext'
  simp only [Array.toList_map, Array.toList_range, zeros, Array.length_toList]
  apply List.map_congr_left
  intro k hk
  have hpos : 0 < z.size := by
    rcases Nat.eq_zero_or_pos z.size with h | h
    · rw [h] at hk; simp at hk
    · exact h
  have hlt : k % z.size < z.size := Nat.mod_lt _ hpos
  rw [List.getD_eq_getElem?_getD, Array.getElem?_toList, getElem!_pos z _ hlt, Array.getElem?_eq_getElem hlt]; rfl

def aBuildSlice (P : Program) (t : TypeId) (len : Nat) (ps : List (Nat × Value)) (h : AH) : Option (Value × AH) :=
  match P.underlying t with
  | some (.slice e) =>
    match P.info? e with
    | some ie =>
      match ie.zero with
      | some z =>
        if plain 9 z = true ∧ z.cells.size = ie.size ∧ len * ie.size ≤ 16777216 ∧ len < SL then
          match fillL (fun k => some (k * ie.size, ie.size)) (zeros z.cells.toList len) ps with
          | some c => if c.all oneC = true then some (.slice (some ⟨h.next, 0, none⟩) len len, h.new (.row c e true)) else none
          | none => none
        else none
      | none => none
    | none => none
  | _ => none

theorem aBuildSlice_snd {P : Program} {ρ : Ren} {h h' : AH} {w : World} {t : TypeId} {len : Nat} {ps : List (Nat × Value)} {ps' : Array (Nat × Value)} {v : Value} (hr : HR ρ h w) (hp : PR ρ ps ps'.toList)
    (hv : aBuildSlice P t len ps h = some (v, h')) : Snd P ρ h w (Instr.buildSlice t len ps') v h' := by
  unfold aBuildSlice at hv
  cases hd : P.underlying t with
  | none => simp [hd] at hv
  | some d =>
    simp only [hd] at hv
    split at hv
    case h_2 => cases hv
    rename_i e eq
    cases eq
    cases he : P.info? e with
    | none => simp [he] at hv
    | some ie =>
      simp only [he] at hv
      cases hz : ie.zero with
      | none => simp [hz] at hv
      | some z =>
        simp only [hz] at hv
        split at hv
        case isFalse => cases hv
        rename_i hc
        obtain ⟨hpl, hzs, hle, hlt⟩ := hc
        split at hv
        case h_2 => cases hv
        rename_i c hf
        split at hv
        case isFalse => cases hv
        rename_i hone
        cases hv
        obtain ⟨c', hc', hl⟩ := fillL_VR _ ps ps'.toList _ _ _ (zeros_VR hpl len) hp hf
        obtain ⟨ρ', w', hrun, hq, hr', hf'⟩ := hr.newRow P (e := e) hl (List.all_eq_true.1 hone)
        refine ⟨ρ', .slice (some ⟨w.heap.size, 0, none⟩) len len, w', ?_, ?_, hr', hf'⟩
        · have hnot : ¬ len * ie.size > 2 ^ 24 := by omega
          simp only [Instr.buildSlice, Sem.run_bind, r_under w hd, Result.andThen_ok, r_size w he, hnot, if_false]
          by_cases h0 : len * ie.size = 0
          · have hz0 : zeros z.cells.toList len = [] := by unfold zeros; rw [Array.length_toList, hzs, h0]; rfl
            rw [hz0] at hc'
            simp only [h0, if_true]
            have hfl : Instr.fill (fun i => some (i * ie.size, ie.size)) ((Array.range 0).map fun x => (#[] : Array Value)[x % (#[] : Array Value).size]!) ps'.toList = some c'.toArray := by
              rw [fill_eq]; simp [hc']
            simp only [hfl, Sem.run_bind, hrun, Result.andThen_ok, Sem.run_pure]
          · simp only [h0, if_false, r_zero w he hz, Result.andThen_ok, Sem.run_bind, Sem.run_pure]
            have hfl : Instr.fill (fun i => some (i * ie.size, ie.size)) ((Array.range (len * ie.size)).map fun x => z.cells[x % z.cells.size]!) ps'.toList = some c'.toArray := by
              rw [fill_eq, ← hzs, zeros_get, hzs, hc']; rfl
            simp only [hfl, Sem.run_bind, hrun, Result.andThen_ok, Sem.run_pure]
        · have := VR.slice (ρ := ρ') (off := 0) (l := len) hq hlt; simpa using this

def aMakeSlice (P : Program) (t : TypeId) (l c : Value) (h : AH) : Option (Value × AH) :=
  match P.underlying t, l, c with
  | some (.slice e), .int _ ln, .int _ cn =>
    match P.info? e with
    | some ie =>
      match ie.zero with
      | some z =>
        if 0 ≤ ln ∧ ln ≤ cn ∧ cn.toNat * ie.bytes ≤ 281474976710656 ∧ cn ≤ 9223372036854775807 ∧ plain 9 z = true ∧ z.cells.size = ie.size ∧ z.cells.toList.all oneC = true then
          some (.slice (some ⟨h.next, 0, none⟩) ln.toNat cn.toNat, h.new (.row (zeros z.cells.toList cn.toNat) e true))
        else none
      | none => none
    | none => none
  | _, _, _ => none

theorem zeros_oneC {z : List Value} (hz : z.all oneC = true) (n : Nat) : ∀ v ∈ zeros z n, oneC v = true := by
  intro v hv
  unfold zeros at hv
  obtain ⟨k, hk, rfl⟩ := List.mem_map.1 hv
  have hpos : 0 < z.length := by
    rcases Nat.eq_zero_or_pos z.length with h | h
    · rw [h] at hk; simp at hk
    · exact h
  have h0 : k % z.length < z.length := Nat.mod_lt _ hpos
  rw [List.getD_eq_getElem?_getD, List.getElem?_eq_getElem h0]
  exact List.all_eq_true.1 hz _ (List.getElem_mem h0)

theorem aMakeSlice_snd {P : Program} {ρ : Ren} {h h' : AH} {w : World} {t : TypeId} {l c l' c' v : Value} (hr : HR ρ h w) (hl : VR ρ l l') (hc : VR ρ c c') (hv : aMakeSlice P t l c h = some (v, h')) :
    Snd P ρ h w (Instr.makeSlice t l' c') v h' := by
  unfold aMakeSlice at hv
  split at hv
  case h_2 => cases hv
  rename_i e kl ln kc cn hd
  cases hl; cases hc
  cases he : P.info? e with
  | none => simp [he] at hv
  | some ie =>
    simp only [he] at hv
    cases hz : ie.zero with
    | none => simp [hz] at hv
    | some z =>
      simp only [hz] at hv
      split at hv
      case isFalse => cases hv
      rename_i hb
      obtain ⟨h0, hlc, hby, h63, hpl, hzs, hone⟩ := hb
      cases hv
      have hby' : (ie.bytes : Int) * cn ≤ 281474976710656 := by
        have hcn : ((cn.toNat : Nat) : Int) = cn := Int.toNat_of_nonneg (by omega)
        have : (((cn.toNat * ie.bytes : Nat)) : Int) ≤ 281474976710656 := by omega
        rw [Int.natCast_mul, hcn, Int.mul_comm] at this; exact this
      have hrun := run_make (P := P) w t e ie z hd he hz kl kc ln cn h0 hlc hby' h63
      obtain ⟨ρ', w', hnew, hq, hr', hf'⟩ := hr.newRow P (e := e) (zeros_VR hpl cn.toNat) (zeros_oneC hone cn.toNat)
      have hmade : madeCells z.cells (cn.toNat * ie.size) = (zeros z.cells.toList cn.toNat).toArray := by
        unfold madeCells; rw [← hzs]; exact zeros_get z.cells cn.toNat
      have hw' : w' = w.alloc (.cells (madeCells z.cells (cn.toNat * ie.size)) e) := by
        rw [hmade]
        simp only [newRow, Sem.run_bind, run_newObj, Result.andThen_ok, Sem.run_pure] at hnew
        injection hnew with _ h2
        exact h2.symm
      refine ⟨ρ', _, w', by rw [hw']; exact hrun, ?_, hr', hf'⟩
      have := VR.slice (ρ := ρ') (off := 0) (l := ln.toNat) (c := cn.toNat) hq (by unfold SL; omega)
      simpa using this

theorem aMakeMap_snd {P : Program} {ρ : Ren} {h : AH} {w : World} (t : TypeId) (hr : HR ρ h w) :
    Snd P ρ h w (Instr.makeMap t none) (.map (some h.next)) (h.new (.map [] 0)) := by
  obtain ⟨a, b⟩ := hr.alloc (x := .map #[] 0) (o := .map [] 0) (w' := { w with heap := w.heap.push (.map #[] 0) }) (base := 0) (lim := 0) rfl
    (fun ρ' _ _ => ⟨#[], by simp, rfl, fun i e e' x _ => by simp at x⟩)
  exact ⟨_, .map (some w.heap.size), _, by simp [Instr.makeMap], .map (Ren.put_same _ _ _), a, b⟩

theorem PR.of_map {ρ : Ren} {ps : Array (Nat × Operand)} {ev ev' : Operand → Value} (h : ∀ p ∈ ps.toList, VR ρ (ev p.2) (ev' p.2)) :
    PR ρ (ps.toList.map fun p => (p.1, ev p.2)) ((ps.map fun (i, x) => (i, ev' x)).toList) := by
  refine ⟨by simp, fun i p p' a b => ?_⟩
  simp only [Array.toList_map, List.getElem?_map, Option.map_eq_some_iff] at a b
  obtain ⟨x, hx, rfl⟩ := a
  obtain ⟨y, hy, rfl⟩ := b
  rw [hx] at hy; cases hy
  exact ⟨rfl, h x (List.mem_of_getElem? hx)⟩

end Go.Ab

namespace Go.Ab

def isKeyT : TypeDesc → Bool
  | .int _ | .string | .bool => true
  | _ => false

theorem checkKey_run {P : Program} {b : Bool} {n : Nat} {t : TypeId} {d : TypeDesc} {v : Value} (hd : P.underlying t = some d) (hk : isKeyT d = true) (w : World) : (Instr.checkKey b (n + 1) t v).run P w = .ok () w := by
  unfold Instr.checkKey
  simp only [Sem.run_bind, r_under w hd, Result.andThen_ok]
  cases d <;> simp_all [isKeyT]

theorem sameNow_VR {ρ : Ren} {d : TypeDesc} {a b a' b' : Value} {r : Bool} (ha : VR ρ a a') (hb : VR ρ b b') (h : Instr.sameNow d a b = some r) : Instr.sameNow d a' b' = some r := by
  unfold Instr.sameNow at h
  split at h
  · cases ha; cases hb; exact h
  · cases ha; cases hb; exact h
  · cases ha; cases hb; exact h
  · cases h

theorem sameNow_true {ρ : Ren} {d : TypeDesc} {a b a' b' : Value} (ha : VR ρ a a') (hb : VR ρ b b') (h : Instr.sameNow d a b = some true) : Instr.sameBits 10000 b' a' = true := by
  unfold Instr.sameNow at h
  split at h
  · cases ha; cases hb
    split at h
    · rename_i e; subst e; simp at h; subst h; simp [Instr.sameBits]
    · cases h
  · cases ha; cases hb
    rename_i a b
    simp only [Option.some.injEq] at h
    show (b == a) = true
    rw [beq_toListBytes, beq_iff_eq] at h
    rw [beq_toListBytes, beq_iff_eq]; exact h.symm
  · cases ha; cases hb; simp only [Option.some.injEq] at h; rw [beq_iff_eq] at h; subst h; simp [Instr.sameBits]
  · cases h

theorem ER.nil (ρ : Ren) : ER ρ [] [] := ⟨rfl, fun i e e' x _ => by simp at x⟩
theorem ER.uncons {ρ : Ren} {e : MapEntry} {es es' : List MapEntry} (h : ER ρ (e :: es) es') :
    ∃ e' r, es' = e' :: r ∧ e.born = e'.born ∧ VR ρ e.key e'.key ∧ VR ρ e.val e'.val ∧ ER ρ es r := by
  cases es' with
  | nil => have := h.1; simp at this
  | cons e' r =>
    obtain ⟨a, b, c⟩ := h.2 0 e e' rfl rfl
    exact ⟨e', r, rfl, a, b, c, by simpa using h.1, fun i x x' p q => h.2 (i + 1) x x' (by simpa using p) (by simpa using q)⟩
theorem ER.cons {ρ : Ren} {e e' : MapEntry} {es es' : List MapEntry} (a : e.born = e'.born) (b : VR ρ e.key e'.key) (c : VR ρ e.val e'.val) (h : ER ρ es es') : ER ρ (e :: es) (e' :: es') := by
  refine ⟨by simp [h.1], fun i x x' p q => ?_⟩
  cases i with
  | zero => simp at p q; subst p; subst q; exact ⟨a, b, c⟩
  | succ i => simp at p q; exact h.2 i x x' p q
theorem ER.filter {ρ : Ren} (p : Nat → Bool) : ∀ {es es' : List MapEntry}, ER ρ es es' → ER ρ (es.filter fun e => p e.born) (es'.filter fun e => p e.born) := by
  intro es
  induction es with
  | nil => intro es' h; have : es' = [] := List.eq_nil_of_length_eq_zero h.1.symm; subst this; exact ER.nil _
  | cons e es ih =>
    intro es' h
    obtain ⟨e', r, rfl, a, b, c, hr⟩ := h.uncons
    simp only [List.filter_cons, ← a]
    split
    · exact ER.cons a b c (ih hr)
    · exact ih hr
theorem ER.append {ρ : Ren} : ∀ {es es' fs fs' : List MapEntry}, ER ρ es es' → ER ρ fs fs' → ER ρ (es ++ fs) (es' ++ fs') := by
  intro es
  induction es with
  | nil => intro es' fs fs' h g; have : es' = [] := List.eq_nil_of_length_eq_zero h.1.symm; subst this; exact g
  | cons e es ih =>
    intro es' fs fs' h g
    obtain ⟨e', r, rfl, a, b, c, hr⟩ := h.uncons
    exact ER.cons a b c (ih hr g)
theorem ER.modify {ρ : Ren} {f f' : MapEntry → MapEntry} (hf : ∀ e e', e.born = e'.born → VR ρ e.key e'.key → VR ρ e.val e'.val → (f e).born = (f' e').born ∧ VR ρ (f e).key (f' e').key ∧ VR ρ (f e).val (f' e').val)
    {es es' : List MapEntry} (h : ER ρ es es') (i : Nat) : ER ρ (es.modify i f) (es'.modify i f') := by
  refine ⟨by simp [h.1], fun j x x' p q => ?_⟩
  rw [List.getElem?_modify] at p q
  cases hx : es[j]? with
  | none => simp [hx] at p
  | some e =>
    cases hx' : es'[j]? with
    | none => simp [hx'] at q
    | some e' =>
      obtain ⟨a, b, c⟩ := h.2 j e e' hx hx'
      rw [hx] at p; rw [hx'] at q
      simp only [Option.map_eq_map, Option.map_some, Option.some.injEq] at p q
      by_cases e0 : i = j
      · rw [if_pos e0] at p q; subst p; subst q; exact hf e e' a b c
      · rw [if_neg e0] at p q; subst p; subst q; exact ⟨a, b, c⟩
theorem ER.eraseIdx {ρ : Ren} : ∀ {es es' : List MapEntry} (i : Nat), ER ρ es es' → ER ρ (es.eraseIdx i) (es'.eraseIdx i) := by
  intro es
  induction es with
  | nil => intro es' i h; have : es' = [] := List.eq_nil_of_length_eq_zero h.1.symm; subst this; simpa using ER.nil ρ
  | cons e es ih =>
    intro es' i h
    obtain ⟨e', r, rfl, a, b, c, hr⟩ := h.uncons
    cases i with
    | zero => simpa using hr
    | succ i => simpa using ER.cons a b c (ih i hr)

theorem findNow_VR {ρ : Ren} {d : TypeDesc} {k k' : Value} (hk : VR ρ k k') : ∀ (es es' : List MapEntry) (i : Nat) (r : Option (Nat × Value)), ER ρ es es' → Instr.findNow d k es i = some r →
    ∃ r', Instr.findNow d k' es' i = some r' ∧ (match r, r' with | none, none => True | some (a, v), some (b, v') => a = b ∧ VR ρ v v' | _, _ => False) := by
  intro es
  induction es with
  | nil =>
    intro es' i r h hf
    have : es' = [] := List.eq_nil_of_length_eq_zero h.1.symm
    subst this
    simp only [Instr.findNow, Option.some.injEq] at hf; subst hf
    exact ⟨none, rfl, trivial⟩
  | cons e es ih =>
    intro es' i r h hf
    obtain ⟨e', q, rfl, a, b, c, hr⟩ := h.uncons
    simp only [Instr.findNow] at hf ⊢
    cases hs : Instr.sameNow d k e.key with
    | none => simp [hs] at hf
    | some t =>
      rw [sameNow_VR hk b hs]
      cases t with
      | true => simp only [hs, Option.some.injEq] at hf; subst hf; exact ⟨_, rfl, rfl, c⟩
      | false => simp only [hs] at hf; exact ih q (i + 1) r hr hf

theorem findNow_at {d : TypeDesc} {k : Value} : ∀ (es : List MapEntry) (i j : Nat) (v : Value), Instr.findNow d k es i = some (some (j, v)) → i ≤ j ∧ ∃ e, es[j - i]? = some e ∧ e.val = v ∧ Instr.sameNow d k e.key = some true := by
  intro es
  induction es with
  | nil => intro i j v h; simp [Instr.findNow] at h
  | cons e es ih =>
    intro i j v h
    simp only [Instr.findNow] at h
    cases hs : Instr.sameNow d k e.key with
    | none => simp [hs] at h
    | some t =>
      cases t with
      | true =>
        simp only [hs, Option.some.injEq, Prod.mk.injEq] at h
        obtain ⟨rfl, rfl⟩ := h
        exact ⟨Nat.le_refl _, e, by simp, rfl, hs⟩
      | false =>
        simp only [hs] at h
        obtain ⟨hle, e', he', hv, hs'⟩ := ih (i + 1) j v h
        refine ⟨by omega, e', ?_, hv, hs'⟩
        rw [show j - i = (j - (i + 1)) + 1 by omega]; simpa using he'

theorem findKey_run {P : Program} {t : TypeId} {d : TypeDesc} {k : Value} {es : List MapEntry} {r : Option (Nat × Value)} (hd : P.underlying t = some d) (h : Instr.findNow d k es 0 = some r) (w : World) :
    (Instr.findKey t k es).run P w = .ok r w := by
  simp only [Instr.findKey, Sem.run_bind, r_under w hd, Result.andThen_ok, h, Sem.run_pure]

def mapAt (h : AH) : Value → Option (List MapEntry × Nat)
  | .map (some M) => match h.get M with
    | some (.map es clk) => some (es, clk)
    | _ => none
  | _ => none

theorem mapAt_run {ρ : Ren} {h : AH} {w : World} {m m' : Value} {es : List MapEntry} {clk : Nat} (hr : HR ρ h w) (hm : VR ρ m m') (ha : mapAt h m = some (es, clk)) :
    ∃ M r es', m = .map (some M) ∧ m' = .map (some r.blk) ∧ ρ M = some r ∧ h.get M = some (.map es clk) ∧ w.heap[r.blk]? = some (.map es' clk) ∧ ER ρ es es'.toList := by
  unfold mapAt at ha
  split at ha
  · rename_i M
    split at ha
    · rename_i es0 clk0 hg
      cases ha
      cases hm with
      | map hq =>
        rename_i r
        obtain ⟨q, eq, hor⟩ := hr.obj M _ hg
        rw [hq] at eq; cases eq
        obtain ⟨es', hh, he⟩ := hor
        exact ⟨M, r, es', rfl, rfl, hq, hg, hh, he⟩
    · cases ha
  · cases ha

theorem getObj_run {P : Program} {w : World} {b : Nat} {o : Obj} (h : w.heap[b]? = some o) (ho : ∀ c e f, o ≠ .cells c e f) : (getObj b).run P w = .ok o w := by
  cases o <;> first | (simp only [getObj, Sem.run, h]; done) | exact absurd rfl (ho _ _ _)
theorem setObj_run {P : Program} {w : World} {b : Nat} {o o' : Obj} (h : w.heap[b]? = some o) (ho : ∀ c e f, o ≠ .cells c e f) : (setObj b o').run P w = .ok () { w with heap := w.heap.setIfInBounds b o' } := by
  cases o <;> first | (simp only [setObj, Sem.run, h]; done) | exact absurd rfl (ho _ _ _)

/-- An object of one's own that is no row turned. -/
theorem HR.turn {ρ : Ren} {h : AH} {w : World} (hr : HR ρ h w) {A : Nat} {o o' : AObj} {r : RE} {x : Obj} (ha : h.get A = some o) (hown : o.own = true) (hq : ρ A = some r)
    (ho : OR ρ r { w with heap := w.heap.setIfInBounds r.blk x } o') :
    HR ρ (h.set A o') { w with heap := w.heap.setIfInBounds r.blk x } ∧ Frm ρ h w ρ (h.set A o') { w with heap := w.heap.setIfInBounds r.blk x } :=
  hr.store ha hown hq (by simp) (fun b hb => by simp [Array.getElem?_setIfInBounds_ne (fun e => hb e.symm)]) ho

def aLookup (P : Program) (t : TypeId) (m k : Value) (ok : Bool) (h : AH) : Option Value :=
  match P.underlying t with
  | some (.map kt e) =>
    match P.underlying kt, P.info? e with
    | some kd, some ie =>
      match ie.zero with
      | some z =>
        if isKeyT kd = false ∨ plain 9 z = false then none else
        match (match m with | .map none => some [] | m => (mapAt h m).map (·.1)) with
        | some es =>
          match Instr.findNow kd k es 0 with
          | some (some (_, v)) => some (if ok then .tuple #[v, .bool true] else v)
          | some none => some (if ok then .tuple #[z, .bool false] else z)
          | none => none
        | none => none
      | none => none
    | _, _ => none
  | _ => none

theorem VR.pair {ρ : Ren} {a b a' b' : Value} (h : VR ρ a a') (g : VR ρ b b') : VR ρ (.tuple #[a, b]) (.tuple #[a', b']) := (LR.cons h (LR.single g)).toTuple

theorem aLookup_run {P : Program} {ρ : Ren} {h : AH} {w : World} {t : TypeId} {m k m' k' v : Value} {ok : Bool} (hr : HR ρ h w) (hm : VR ρ m m') (hk : VR ρ k k') (hv : aLookup P t m k ok h = some v) :
    Rd P ρ w (Instr.lookup t m' k' ok) v := by
  unfold aLookup at hv
  split at hv
  case h_2 => cases hv
  rename_i kt e hd
  split at hv
  case h_2 => cases hv
  rename_i kd ie hkd hie
  split at hv
  case h_2 => cases hv
  rename_i z hz
  split at hv
  · cases hv
  rename_i hc
  have hkey : isKeyT kd = true := by cases hb : isKeyT kd <;> simp_all
  have hpl : plain 9 z = true := by cases hb : plain 9 z <;> simp_all
  have hzv := plain_VR ρ 9 z hpl
  have hck := fun b w => checkKey_run (P := P) (b := b) (n := 9999) (v := k') hkd hkey w
  have fin : ∀ (es : List MapEntry) (es' : Array MapEntry), ER ρ es es'.toList → ((m' = .map none ∧ es' = #[]) ∨ ∃ b clk, m' = .map (some b) ∧ w.heap[b]? = some (.map es' clk)) →
      (match Instr.findNow kd k es 0 with
          | some (some (_, v)) => some (if ok then .tuple #[v, .bool true] else v)
          | some none => some (if ok then .tuple #[z, .bool false] else z)
          | none => none) = some v → Rd P ρ w (Instr.lookup t m' k' ok) v := by
    intro es es' her hsh hv
    cases hf : Instr.findNow kd k es 0 with
    | none => simp [hf] at hv
    | some r =>
      obtain ⟨r', hf', hrr⟩ := findNow_VR hk es es'.toList 0 r her hf
      simp only [hf] at hv
      have hfk := findKey_run (P := P) hkd hf' w
      cases r with
      | none =>
        cases r' with
        | some _ => exact hrr.elim
        | none =>
          simp only [Option.some.injEq] at hv; subst hv
          refine ⟨if ok then .tuple #[z, .bool false] else z, ?_, ?_⟩
          · rcases hsh with ⟨rfl, rfl⟩ | ⟨b, clk, rfl, hb⟩
            · simp only [Instr.lookup, Sem.run_bind, r_under w hd, Result.andThen_ok, Sem.run_pure, hck, hfk, r_zero w hie hz]
            · simp only [Instr.lookup, Sem.run_bind, r_under w hd, Result.andThen_ok, Sem.run_pure, hck, hfk, r_zero w hie hz, getObj_run hb (fun _ _ _ e => by cases e)]
          · cases ok
            · exact hzv
            · exact VR.pair hzv (.bool _)
      | some p =>
        cases r' with
        | none => exact hrr.elim
        | some p' =>
          obtain ⟨i, u⟩ := p
          obtain ⟨i', u'⟩ := p'
          obtain ⟨rfl, hu⟩ := hrr
          simp only [Option.some.injEq] at hv; subst hv
          refine ⟨if ok then .tuple #[u', .bool true] else u', ?_, ?_⟩
          · rcases hsh with ⟨rfl, rfl⟩ | ⟨b, clk, rfl, hb⟩
            · simp only [Instr.lookup, Sem.run_bind, r_under w hd, Result.andThen_ok, Sem.run_pure, hck, hfk]
            · simp only [Instr.lookup, Sem.run_bind, r_under w hd, Result.andThen_ok, Sem.run_pure, hck, hfk, getObj_run hb (fun _ _ _ e => by cases e)]
          · cases ok
            · exact hu
            · exact VR.pair hu (.bool _)
  by_cases hnil : m = .map none
  · subst hnil
    cases hm
    exact fin [] #[] (ER.nil _) (.inl ⟨rfl, rfl⟩) (by simpa using hv)
  · have hv' : (match (mapAt h m).map (·.1) with
        | some es => (match Instr.findNow kd k es 0 with
          | some (some (_, v)) => some (if ok then .tuple #[v, .bool true] else v)
          | some none => some (if ok then .tuple #[z, .bool false] else z)
          | none => none)
        | none => none) = some v := by
      cases m with
      | map o => cases o with
        | none => exact absurd rfl hnil
        | some _ => exact hv
      | _ => exact hv
    cases ha : mapAt h m with
    | none => simp [ha] at hv'
    | some p =>
      obtain ⟨es, clk⟩ := p
      obtain ⟨M, r, es', rfl, rfl, hq, hg, hh, her⟩ := mapAt_run hr hm ha
      exact fin es es' her (.inr ⟨_, _, rfl, hh⟩) (by simpa [ha] using hv')

/-- What a store at a key makes of the entries. -/
def putE (kd : TypeDesc) (k v : Value) (es : List MapEntry) (clk : Nat) : Option (List MapEntry × Nat) :=
  match Instr.findNow kd k es 0 with
  | some (some (i, _)) => some (es.modify i fun e => { e with key := k, val := v }, clk)
  | some none => some (es ++ [{ key := k, val := v, born := clk }], clk + 1)
  | none => none

def aUpdate (P : Program) (t : TypeId) (m k v : Value) (h : AH) : Option AH :=
  match P.underlying t, m with
  | some (.map kt _), .map (some M) =>
    match P.underlying kt, mapAt h m with
    | some kd, some (es, clk) => if isKeyT kd = false then none else (putE kd k v es clk).map fun x => h.set M (.map x.1 x.2)
    | _, _ => none
  | _, _ => none

theorem keyStays_run {P : Program} {old new : Value} (h : Instr.sameBits 10000 old new = true) (w : World) : (Instr.keyThatStays old new).run P w = .ok new w := by
  simp [Instr.keyThatStays, h]

theorem findNow_stays {ρ : Ren} {kd : TypeDesc} {k k' : Value} {es : List MapEntry} {es' : Array MapEntry} {i : Nat} {u : Value} (hk : VR ρ k k') (her : ER ρ es es'.toList)
    (hf : Instr.findNow kd k es 0 = some (some (i, u))) (P : Program) (w : World) : (Instr.keyThatStays (((es'[i]?).map (·.key)).getD k') k').run P w = .ok k' w := by
  obtain ⟨_, e, he, _, hs⟩ := findNow_at es 0 i u hf
  simp only [Nat.sub_zero] at he
  have hlt : i < es'.toList.length := by rw [← her.1]; exact (List.getElem?_eq_some_iff.1 he).1
  have hx : es'.toList[i]? = some es'.toList[i] := List.getElem?_eq_getElem hlt
  obtain ⟨_, hkk, _⟩ := her.2 i e _ he hx
  rw [Array.getElem?_toList] at hx
  rw [hx]
  exact keyStays_run (sameNow_true hk hkk hs) w

theorem aUpdate_snd {P : Program} {ρ : Ren} {h h' : AH} {w : World} {t : TypeId} {m k v m' k' v' : Value} (hr : HR ρ h w) (hm : VR ρ m m') (hk : VR ρ k k') (hvv : VR ρ v v') (hv : aUpdate P t m k v h = some h') :
    SndU P ρ h w (Instr.mapUpdate t m' k' v') h' := by
  unfold aUpdate at hv
  split at hv
  case h_2 => cases hv
  rename_i kt et M hd
  split at hv
  case h_2 => cases hv
  rename_i kd es clk hkd ha
  split at hv
  · cases hv
  rename_i hc
  have hkey : isKeyT kd = true := by cases hb : isKeyT kd <;> simp_all
  simp only [Option.map_eq_some_iff] at hv
  obtain ⟨⟨fs, c2⟩, hp, rfl⟩ := hv
  obtain ⟨M', r, es', hM, rfl, hq, hg, hh, her⟩ := mapAt_run hr hm ha
  cases hM
  have hck := fun b w => checkKey_run (P := P) (b := b) (n := 9999) (v := k') hkd hkey w
  have hlt : r.blk < w.heap.size := (Array.getElem?_eq_some_iff.1 hh).1
  unfold putE at hp
  cases hf : Instr.findNow kd k es 0 with
  | none => simp [hf] at hp
  | some x =>
    obtain ⟨x', hf', hrr⟩ := findNow_VR hk es es'.toList 0 x her hf
    have hfk := findKey_run (P := P) hkd hf' w
    simp only [hf] at hp
    cases x with
    | none =>
      cases x' with
      | some _ => exact hrr.elim
      | none =>
        simp only [Option.some.injEq, Prod.mk.injEq] at hp
        obtain ⟨rfl, rfl⟩ := hp
        have her2 : ER ρ (es ++ [{ key := k, val := v, born := clk }]) (es'.push { key := k', val := v', born := clk }).toList := by
          rw [Array.toList_push]; exact her.append (ER.cons rfl hk hvv (ER.nil _))
        obtain ⟨a, b⟩ := hr.turn (r := r) (x := .map (es'.push { key := k', val := v', born := clk }) (clk + 1)) (o' := .map (es ++ [{ key := k, val := v, born := clk }]) (clk + 1)) hg rfl hq ⟨_, by simp [hlt], her2⟩
        refine ⟨ρ, _, ?_, a, b⟩
        simp only [Instr.mapUpdate, Sem.run_bind, r_under w hd, Result.andThen_ok, getObj_run hh (fun _ _ _ e => by cases e), hck, hfk, setObj_run hh (fun _ _ _ e => by cases e)]
    | some p =>
      cases x' with
      | none => exact hrr.elim
      | some p' =>
        obtain ⟨i, u⟩ := p
        obtain ⟨i', u'⟩ := p'
        obtain ⟨rfl, hu⟩ := hrr
        simp only [Option.some.injEq, Prod.mk.injEq] at hp
        obtain ⟨rfl, rfl⟩ := hp
        have her2 : ER ρ (es.modify i fun e => { e with key := k, val := v }) (es'.modify i fun e => { e with key := k', val := v' }).toList := by
          rw [Array.toList_modify]; exact her.modify (f := fun e => { e with key := k, val := v }) (f' := fun e => { e with key := k', val := v' }) (fun e e' a _ _ => ⟨a, hk, hvv⟩) i
        obtain ⟨a, b⟩ := hr.turn (r := r) (x := .map (es'.modify i fun e => { e with key := k', val := v' }) clk) (o' := .map (es.modify i fun e => { e with key := k, val := v }) clk) hg rfl hq ⟨_, by simp [hlt], her2⟩
        refine ⟨ρ, _, ?_, a, b⟩
        simp only [Instr.mapUpdate, Sem.run_bind, r_under w hd, Result.andThen_ok, getObj_run hh (fun _ _ _ e => by cases e), hck, hfk]
        have hst := findNow_stays hk her hf P w
        rw [hst, Result.andThen_ok]
        exact setObj_run hh (fun _ _ _ e => by cases e)

end Go.Ab

namespace Go.Ab

def aEntry (P : Program) (t : TypeId) (m k : Value) (h : AH) : Option (Value × AH) :=
  match P.underlying t, m with
  | some (.map kt et), .map (some M) =>
    match P.underlying kt, mapAt h m, P.info? et with
    | some kd, some (es, clk), some ie =>
      match ie.zero with
      | some z =>
        if isKeyT kd = false ∨ plain 9 z = false then none else
        match Instr.findNow kd k es 0 with
        | some (some (i, v)) => some (.tuple #[v, .int .i64 (((es[i]?).map (·.born)).getD 0)], h.set M (.map (es.modify i fun e => { e with key := k }) clk))
        | some none => some (.tuple #[z, .int .i64 clk], h.set M (.map (es ++ [{ key := k, val := z, born := clk }]) (clk + 1)))
        | none => none
      | none => none
    | _, _, _ => none
  | _, _ => none

theorem aEntry_snd {P : Program} {ρ : Ren} {h h' : AH} {w : World} {t : TypeId} {m k v m' k' : Value} (hr : HR ρ h w) (hm : VR ρ m m') (hk : VR ρ k k') (hv : aEntry P t m k h = some (v, h')) :
    Snd P ρ h w (Instr.mapEntry t m' k') v h' := by
  unfold aEntry at hv
  split at hv
  case h_2 => cases hv
  rename_i kt et M hd
  split at hv
  case h_2 => cases hv
  rename_i kd es clk ie hkd ha hie
  split at hv
  case h_2 => cases hv
  rename_i z hz
  split at hv
  · cases hv
  rename_i hc
  have hkey : isKeyT kd = true := by cases hb : isKeyT kd <;> simp_all
  have hpl : plain 9 z = true := by cases hb : plain 9 z <;> simp_all
  have hzv := plain_VR ρ 9 z hpl
  obtain ⟨M', r, es', hM, rfl, hq, hg, hh, her⟩ := mapAt_run hr hm ha
  cases hM
  have hck := fun b w => checkKey_run (P := P) (b := b) (n := 9999) (v := k') hkd hkey w
  have hlt : r.blk < w.heap.size := (Array.getElem?_eq_some_iff.1 hh).1
  cases hf : Instr.findNow kd k es 0 with
  | none => simp [hf] at hv
  | some x =>
    obtain ⟨x', hf', hrr⟩ := findNow_VR hk es es'.toList 0 x her hf
    have hfk := findKey_run (P := P) hkd hf' w
    simp only [hf] at hv
    cases x with
    | none =>
      cases x' with
      | some _ => exact hrr.elim
      | none =>
        cases hv
        have her2 : ER ρ (es ++ [{ key := k, val := z, born := clk }]) (es'.push { key := k', val := z, born := clk }).toList := by
          rw [Array.toList_push]; exact her.append (ER.cons rfl hk hzv (ER.nil _))
        obtain ⟨a, b⟩ := hr.turn (r := r) (x := .map (es'.push { key := k', val := z, born := clk }) (clk + 1)) (o' := .map (es ++ [{ key := k, val := z, born := clk }]) (clk + 1)) hg rfl hq ⟨_, by simp [hlt], her2⟩
        refine ⟨ρ, .tuple #[z, .int .i64 clk], _, ?_, VR.pair hzv (.int _ _), a, b⟩
        simp only [Instr.mapEntry, Sem.run_bind, r_under w hd, Result.andThen_ok, getObj_run hh (fun _ _ _ e => by cases e), hck, hfk, r_zero w hie hz, setObj_run hh (fun _ _ _ e => by cases e), Sem.run_pure, goInt]
    | some p =>
      cases x' with
      | none => exact hrr.elim
      | some p' =>
        obtain ⟨i, u⟩ := p
        obtain ⟨i', u'⟩ := p'
        obtain ⟨rfl, hu⟩ := hrr
        cases hv
        have her2 : ER ρ (es.modify i fun e => { e with key := k }) (es'.modify i fun e => { e with key := k' }).toList := by
          rw [Array.toList_modify]; exact her.modify (f := fun e => { e with key := k }) (f' := fun e => { e with key := k' }) (fun e e' a _ c => ⟨a, hk, c⟩) i
        obtain ⟨a, b⟩ := hr.turn (r := r) (x := .map (es'.modify i fun e => { e with key := k' }) clk) (o' := .map (es.modify i fun e => { e with key := k }) clk) hg rfl hq ⟨_, by simp [hlt], her2⟩
        have hborn : ((es'[i]?).map (fun e => (e.born : Int))).getD 0 = ((es[i]?).map (fun e => (e.born : Int))).getD 0 := by
          obtain ⟨_, e, he, _, _⟩ := findNow_at es 0 i u hf
          simp only [Nat.sub_zero] at he
          have hlt' : i < es'.toList.length := by rw [← her.1]; exact (List.getElem?_eq_some_iff.1 he).1
          have hx : es'.toList[i]? = some es'.toList[i] := List.getElem?_eq_getElem hlt'
          obtain ⟨hb, _, _⟩ := her.2 i e _ he hx
          rw [Array.getElem?_toList] at hx
          rw [hx, he]; simp only [Option.map_some, Option.getD_some]; omega
        refine ⟨ρ, .tuple #[u', .int .i64 (((es[i]?).map (·.born)).getD 0)], _, ?_, VR.pair hu (.int _ _), a, b⟩
        simp only [Instr.mapEntry, Sem.run_bind, r_under w hd, Result.andThen_ok, getObj_run hh (fun _ _ _ e => by cases e), hck, hfk]
        have hst := findNow_stays hk her hf P w
        rw [hst, Result.andThen_ok, setObj_run hh (fun _ _ _ e => by cases e), Result.andThen_ok, hborn]
        rfl

def aEntryStore (m s v : Value) (h : AH) : Option AH :=
  match m, s with
  | .map (some M), .int _ n =>
    match mapAt h m with
    | some (es, clk) =>
      match es.findIdx? (fun e => (e.born : Int) == n) with
      | some i => some (h.set M (.map (es.modify i fun e => { e with val := v }) clk))
      | none => none
    | none => none
  | _, _ => none

theorem ER.findIdx {ρ : Ren} (n : Int) : ∀ {es es' : List MapEntry}, ER ρ es es' → es'.findIdx? (fun e => (e.born : Int) == n) = es.findIdx? (fun e => (e.born : Int) == n) := by
  intro es
  induction es with
  | nil => intro es' h; have : es' = [] := List.eq_nil_of_length_eq_zero h.1.symm; subst this; rfl
  | cons e es ih =>
    intro es' h
    obtain ⟨e', r, rfl, a, b, c, hr⟩ := h.uncons
    simp only [List.findIdx?_cons, ← a, ih hr]

theorem aEntryStore_snd {P : Program} {ρ : Ren} {h h' : AH} {w : World} {t : TypeId} {m s v m' s' v' : Value} (hr : HR ρ h w) (hm : VR ρ m m') (hs : VR ρ s s') (hvv : VR ρ v v') (hv : aEntryStore m s v h = some h') :
    SndU P ρ h w (Instr.entryStore t m' s' v') h' := by
  unfold aEntryStore at hv
  split at hv
  case h_2 => cases hv
  rename_i M k n
  cases hs
  split at hv
  case h_2 => cases hv
  rename_i es clk ha
  split at hv
  case h_2 => cases hv
  rename_i i hi
  cases hv
  obtain ⟨M', r, es', hM, rfl, hq, hg, hh, her⟩ := mapAt_run hr hm ha
  cases hM
  have hlt : r.blk < w.heap.size := (Array.getElem?_eq_some_iff.1 hh).1
  have her2 : ER ρ (es.modify i fun e => { e with val := v }) (es'.modify i fun e => { e with val := v' }).toList := by
    rw [Array.toList_modify]; exact her.modify (f := fun e => { e with val := v }) (f' := fun e => { e with val := v' }) (fun e e' a b _ => ⟨a, b, hvv⟩) i
  obtain ⟨a, b⟩ := hr.turn (r := r) (x := .map (es'.modify i fun e => { e with val := v' }) clk) (o' := .map (es.modify i fun e => { e with val := v }) clk) hg rfl hq ⟨_, by simp [hlt], her2⟩
  refine ⟨ρ, _, ?_, a, b⟩
  have hidx : es'.findIdx? (fun e => (e.born : Int) == n) = some i := by
    have e0 : es' = es'.toList.toArray := by simp
    rw [e0, List.findIdx?_toArray, her.findIdx, hi]
  simp only [Instr.entryStore, Sem.run_bind, Sem.run_pure, Result.andThen_ok, getObj_run hh (fun _ _ _ e => by cases e), asInt, asIntOf, hidx, setObj_run hh (fun _ _ _ e => by cases e)]

def aDelete (P : Program) (t : TypeId) (m k : Value) (h : AH) : Option AH :=
  match P.underlying t, m with
  | some (.map kt _), .map (some M) =>
    match P.underlying kt, mapAt h m with
    | some kd, some (es, clk) =>
      if isKeyT kd = false then none else
      match Instr.findNow kd k es 0 with
      | some (some (i, _)) => some (h.set M (.map (es.eraseIdx i) clk))
      | some none => some (h.set M (.map es clk))
      | none => none
    | _, _ => none
  | some (.map kt _), .map none => match P.underlying kt with
    | some kd => if isKeyT kd = false then none else some h
    | none => none
  | _, _ => none

theorem aDelete_snd {P : Program} {ρ : Ren} {h h' : AH} {w : World} {ts : Array TypeId} {ty t : TypeId} {m k m' k' : Value} (ht : ts[0]? = some t) (hr : HR ρ h w) (hm : VR ρ m m') (hk : VR ρ k k')
    (hv : aDelete P t m k h = some h') : Snd P ρ h w (Builtin.delete_ ts ty #[m', k']) undef h' := by
  unfold aDelete at hv
  split at hv
  case h_3 => cases hv
  · rename_i kt et M hd
    split at hv
    case h_2 => cases hv
    rename_i kd es clk hkd ha
    split at hv
    · cases hv
    rename_i hc
    have hkey : isKeyT kd = true := by cases hb : isKeyT kd <;> simp_all
    obtain ⟨M', r, es', hM, rfl, hq, hg, hh, her⟩ := mapAt_run hr hm ha
    cases hM
    have hck := fun b w => checkKey_run (P := P) (b := b) (n := 9999) (v := k') hkd hkey w
    have hlt : r.blk < w.heap.size := (Array.getElem?_eq_some_iff.1 hh).1
    cases hf : Instr.findNow kd k es 0 with
    | none => simp [hf] at hv
    | some x =>
      obtain ⟨x', hf', hrr⟩ := findNow_VR hk es es'.toList 0 x her hf
      have hfk := findKey_run (P := P) hkd hf' w
      simp only [hf] at hv
      cases x with
      | none =>
        cases x' with
        | some _ => exact hrr.elim
        | none =>
          cases hv
          obtain ⟨a, b⟩ := hr.turn (r := r) (x := .map es' clk) (o' := .map es clk) hg rfl hq ⟨_, by simp [hlt], her⟩
          refine ⟨ρ, undef, _, ?_, VR.undef _, a, b⟩
          simp only [Builtin.delete_, ht, List.getElem?_toArray, List.getElem?_cons_zero, List.getElem?_cons_succ, Sem.run_bind, r_under w hd, Result.andThen_ok, getObj_run hh (fun _ _ _ e => by cases e), hck, hfk, setObj_run hh (fun _ _ _ e => by cases e), Sem.run_pure, undef]
      | some p =>
        cases x' with
        | none => exact hrr.elim
        | some p' =>
          obtain ⟨i, u⟩ := p
          obtain ⟨i', u'⟩ := p'
          obtain ⟨rfl, hu⟩ := hrr
          cases hv
          have her2 : ER ρ (es.eraseIdx i) (es'.eraseIdxIfInBounds i).toList := by
            have : (es'.eraseIdxIfInBounds i).toList = es'.toList.eraseIdx i := by
              unfold Array.eraseIdxIfInBounds
              split
              · simp
              · rename_i hge; rw [List.eraseIdx_of_length_le (by simpa using hge)]
            rw [this]; exact ER.eraseIdx i her
          obtain ⟨a, b⟩ := hr.turn (r := r) (x := .map (es'.eraseIdxIfInBounds i) clk) (o' := .map (es.eraseIdx i) clk) hg rfl hq ⟨_, by simp [hlt], her2⟩
          refine ⟨ρ, undef, _, ?_, VR.undef _, a, b⟩
          simp only [Builtin.delete_, ht, List.getElem?_toArray, List.getElem?_cons_zero, List.getElem?_cons_succ, Sem.run_bind, r_under w hd, Result.andThen_ok, getObj_run hh (fun _ _ _ e => by cases e), hck, hfk, setObj_run hh (fun _ _ _ e => by cases e), Sem.run_pure, undef]
  · rename_i kt et hd
    split at hv
    case h_2 => cases hv
    rename_i kd hkd
    split at hv
    · cases hv
    rename_i hc
    have hkey : isKeyT kd = true := by cases hb : isKeyT kd <;> simp_all
    cases hv
    cases hm
    have hck := fun b w => checkKey_run (P := P) (b := b) (n := 9999) (v := k') hkd hkey w
    refine Snd.pure (v' := undef) hr ?_ (VR.undef _)
    simp only [Builtin.delete_, ht, List.getElem?_toArray, List.getElem?_cons_zero, List.getElem?_cons_succ, Sem.run_bind, r_under w hd, Result.andThen_ok, hck, Sem.run_pure, undef]

def aLen (P : Program) (t : TypeId) (x : Value) (h : AH) : Option Value :=
  match P.underlying t, x with
  | some .string, .string s => some (.int .i64 s.size)
  | some (.array n _), _ => some (.int .i64 n)
  | some (.slice _), .slice _ n _ => some (.int .i64 n)
  | some (.map _ _), .map none => some (.int .i64 0)
  | some (.map _ _), .map (some M) => match h.get M with
    | some (.map es _) => some (.int .i64 es.length)
    | _ => none
  | _, _ => none

theorem aLen_run {P : Program} {ρ : Ren} {h : AH} {w : World} {ts : Array TypeId} {ty t : TypeId} {x x' v : Value} (ht : ts[0]? = some t) (hr : HR ρ h w) (hx : VR ρ x x') (hv : aLen P t x h = some v) :
    Rd P ρ w (Builtin.len_ ts ty #[x']) v := by
  unfold aLen at hv
  split at hv
  · rename_i s hd; cases hx; cases hv
    exact ⟨_, by simp only [Builtin.len_, ht, List.getElem?_toArray, List.getElem?_cons_zero, Sem.run_bind, r_under w hd, Result.andThen_ok, Sem.run_pure, goInt], .int _ _⟩
  · rename_i n e hd; cases hv
    exact ⟨_, by simp only [Builtin.len_, ht, List.getElem?_toArray, List.getElem?_cons_zero, Sem.run_bind, r_under w hd, Result.andThen_ok, Sem.run_pure, goInt], .int _ _⟩
  · rename_i e a n c hd; cases hv
    cases hx <;> exact ⟨_, by simp only [Builtin.len_, ht, List.getElem?_toArray, List.getElem?_cons_zero, Sem.run_bind, r_under w hd, Result.andThen_ok, Sem.run_pure, goInt], .int _ _⟩
  · rename_i a b hd; cases hx; cases hv
    exact ⟨_, by simp only [Builtin.len_, ht, List.getElem?_toArray, List.getElem?_cons_zero, Sem.run_bind, r_under w hd, Result.andThen_ok, Sem.run_pure, goInt], .int _ _⟩
  · rename_i a b M hd
    split at hv
    · rename_i es clk hg
      cases hv
      obtain ⟨M', r, es', hM, rfl, hq, hg', hh, her⟩ := mapAt_run (es := es) (clk := clk) hr hx (by simp [mapAt, hg])
      refine ⟨.int .i64 es.length, ?_, .int _ _⟩
      have hl : es'.size = es.length := by rw [her.1]; simp
      simp only [Builtin.len_, ht, List.getElem?_toArray, List.getElem?_cons_zero, Sem.run_bind, r_under w hd, Result.andThen_ok, getObj_run hh (fun _ _ _ e => by cases e), Sem.run_pure, goInt, hl]
    · cases hv
  · cases hv

def aMin2 : Value → Value → Option Value
  | .int k x, .int _ y => some (.int k (if y < x then y else x))
  | _, _ => none
def aMax2 : Value → Value → Option Value
  | .int k x, .int _ y => some (.int k (if y > x then y else x))
  | _, _ => none
def aFold (f : Value → Value → Option Value) : Value → List Value → Option Value
  | x, [] => some x
  | x, y :: ys => match f x y with
    | some z => aFold f z ys
    | none => none

theorem aFold_run {P : Program} {ρ : Ren} {f : Value → Value → Option Value} {g : Value → Value → Sem Value} (w : World) (hfg : ∀ x y x' y' z, VR ρ x x' → VR ρ y y' → f x y = some z → ∃ z', (g x' y').run P w = .ok z' w ∧ VR ρ z z') :
    ∀ (ys ys' : List Value) (x x' v : Value), VR ρ x x' → LR ρ ys ys' → aFold f x ys = some v → ∃ v', (ys'.foldlM g x').run P w = .ok v' w ∧ VR ρ v v' := by
  intro ys
  induction ys with
  | nil =>
    intro ys' x x' v hx hl h
    have : ys' = [] := List.eq_nil_of_length_eq_zero hl.1.symm
    subst this; cases h; exact ⟨x', by simp, hx⟩
  | cons y ys ih =>
    intro ys' x x' v hx hl h
    cases ys' with
    | nil => have := hl.1; simp at this
    | cons y' ys' =>
      simp only [aFold] at h
      cases hz : f x y with
      | none => simp [hz] at h
      | some z =>
        simp only [hz] at h
        obtain ⟨z', hz', hvr⟩ := hfg x y x' y' z hx (hl.2 0 y y' rfl rfl) hz
        obtain ⟨v', hv', hv⟩ := ih ys' z z' v hvr ⟨by simpa using hl.1, fun j a b p q => hl.2 (j + 1) a b (by simpa using p) (by simpa using q)⟩ h
        exact ⟨v', by simp only [List.foldlM_cons, Sem.run_bind, hz', Result.andThen_ok, hv'], hv⟩

theorem aMin_run {P : Program} {ρ : Ren} {w : World} {ts : Array TypeId} {ty : TypeId} {x v : Value} {ys xs' : List Value} (hl : LR ρ (x :: ys) xs') (h : aFold aMin2 x ys = some v) : Rd P ρ w (Builtin.min_ ts ty xs'.toArray) v := by
  cases xs' with
  | nil => have := hl.1; simp at this
  | cons x' ys' =>
    obtain ⟨v', hv, hvr⟩ := aFold_run (P := P) (g := Builtin.min2) w (fun a b a' b' z ha hb hz => by
      unfold aMin2 at hz
      split at hz
      · cases ha; cases hb; cases hz; exact ⟨_, rfl, .int _ _⟩
      · cases hz) ys ys' x x' v (hl.2 0 x x' rfl rfl) ⟨by simpa using hl.1, fun j a b p q => hl.2 (j + 1) a b (by simpa using p) (by simpa using q)⟩ h
    exact ⟨v', by simpa [Builtin.min_] using hv, hvr⟩
theorem aMax_run {P : Program} {ρ : Ren} {w : World} {ts : Array TypeId} {ty : TypeId} {x v : Value} {ys xs' : List Value} (hl : LR ρ (x :: ys) xs') (h : aFold aMax2 x ys = some v) : Rd P ρ w (Builtin.max_ ts ty xs'.toArray) v := by
  cases xs' with
  | nil => have := hl.1; simp at this
  | cons x' ys' =>
    obtain ⟨v', hv, hvr⟩ := aFold_run (P := P) (g := Builtin.max2) w (fun a b a' b' z ha hb hz => by
      unfold aMax2 at hz
      split at hz
      · cases ha; cases hb; cases hz; exact ⟨_, rfl, .int _ _⟩
      · cases hz) ys ys' x x' v (hl.2 0 x x' rfl rfl) ⟨by simpa using hl.1, fun j a b p q => hl.2 (j + 1) a b (by simpa using p) (by simpa using q)⟩ h
    exact ⟨v', by simpa [Builtin.max_] using hv, hvr⟩

def aCopy (P : Program) (t : TypeId) (d s : Value) (h : AH) : Option (Value × AH) :=
  match P.underlying t, d, s with
  | some (.slice e), .slice da dl _, .slice sa sl sc =>
    match P.info? e with
    | some ie =>
      if min sl dl = 0 then some (.int .i64 0, h)
      else
        match srcCells ie.size (.slice sa (min sl dl) sc) h, da with
        | some (_, ys), some ⟨A, off, none⟩ =>
          match h.get A with
          | some o => (o.setCells off ys).map fun o' => (.int .i64 (min sl dl : Nat), h.set A o')
          | none => none
        | _, _ => none
    | none => none
  | _, _, _ => none

theorem VR.shorter {ρ : Ren} {a : Option Addr} {l c n : Nat} {v : Value} (h : VR ρ (.slice a l c) v) (hn : n ≤ l) (h0 : n ≠ 0 ∨ a = none) : ∃ a' c', v = .slice a' l c' ∧ VR ρ (.slice a n c) (.slice a' n c') := by
  cases h with
  | nilSlice => exact ⟨_, _, rfl, .nilSlice _ _⟩
  | slice hq hc => exact ⟨_, _, rfl, .slice hq hc⟩
  | slack hq hl hlim hc => exact ⟨_, _, rfl, .slack hq (by omega) hlim hc⟩
  | slack0 hq =>
    rcases h0 with h0 | h0
    · omega
    · cases h0
  | slip =>
    rcases h0 with h0 | h0
    · omega
    · cases h0

theorem aCopy_snd {P : Program} {ρ : Ren} {h h' : AH} {w : World} {ts : Array TypeId} {ty t : TypeId} {d s d' s' v : Value} (ht : ts[0]? = some t) (hr : HR ρ h w) (hd : VR ρ d d') (hs : VR ρ s s')
    (hv : aCopy P t d s h = some (v, h')) : Snd P ρ h w (Builtin.copy_ ts ty #[d', s']) v h' := by
  unfold aCopy at hv
  split at hv
  case h_2 => cases hv
  rename_i e da dl dc sa sl sc hu
  split at hv
  case h_2 => cases hv
  rename_i ie hie
  have hlenS : ∀ w, (Builtin.lenOf s').run P w = .ok sl w := by intro w; cases hs <;> rfl
  have hdl : ∃ da' dc', d' = .slice da' dl dc' := by cases hd <;> exact ⟨_, _, rfl⟩
  obtain ⟨da', dc', rfl⟩ := hdl
  split at hv
  · rename_i h0
    cases hv
    refine Snd.pure (v' := .int .i64 0) hr ?_ (.int _ _)
    have hf : (Builtin.firstCells ie.size 0 s').run P w = .ok #[] w := by cases hs <;> simp [Builtin.firstCells, loadCells, loadCellsFrom]
    have h0' : Nat.min sl dl = 0 := h0
    simp only [Builtin.copy_, ht, List.getElem?_toArray, List.getElem?_cons_zero, List.getElem?_cons_succ, Sem.run_bind, r_under w hu, Result.andThen_ok, hlenS, r_size w hie, h0', hf, goInt]
    cases da' <;> simp [storeCells]
  · rename_i h0
    split at hv
    case h_2 => cases hv
    rename_i n ys A off hsrc
    split at hv
    case h_2 => cases hv
    rename_i o ho
    simp only [Option.map_eq_some_iff, Prod.mk.injEq] at hv
    obtain ⟨o', hset, rfl, rfl⟩ := hv
    have hmin : min sl dl ≤ sl := Nat.min_le_left _ _
    obtain ⟨sa', sc', rfl, hvs⟩ := hs.shorter hmin (.inl h0)
    obtain ⟨hyl, hlen, ys', hlr, hfirst⟩ := srcCells_run (P := P) hr hvs hsrc
    have hone := srcCells_one hr hsrc
    have hn : n = min sl dl := by
      have := hlen w
      simp only [Builtin.lenOf, Sem.run_pure] at this
      injection this with h1 _; exact h1.symm
    subst hn
    have hb : ∃ r, ρ A = some r ∧ da' = some ⟨r.blk, r.base + off, none⟩ := by
      cases hd with
      | slice hq hc => exact ⟨_, hq, rfl⟩
      | slack hq hl hlim hc => exact ⟨_, hq, rfl⟩
      | slack0 hq => exact absurd (by simp) h0
      | slip => exact absurd (by simp) h0
    obtain ⟨r, hq, rfl⟩ := hb
    obtain ⟨w', hrun, hr', hf'⟩ := hr.stores P (off := off) ho hq hlr hone hset
    refine ⟨ρ, .int .i64 (min sl dl : Nat), w', ?_, .int _ _, hr', hf'⟩
    have hff : (Builtin.firstCells ie.size (Nat.min sl dl) (.slice sa' sl sc')).run P w = .ok ys'.toArray w := by
      have := hfirst w rfl
      cases sa' with
      | none => exact this
      | some a => exact this
    simp only [Builtin.copy_, ht, List.getElem?_toArray, List.getElem?_cons_zero, List.getElem?_cons_succ, Sem.run_bind, r_under w hu, Result.andThen_ok, hlenS, r_size w hie, hff, hrun, Sem.run_pure, goInt]

/-! ### Walks over maps -/

def aRange (P : Program) (t : TypeId) (x : Value) (h : AH) : Option (Value × AH) :=
  match P.underlying t, x with
  | some (.map _ _), .map none => some (.pointer (some ⟨h.next, 0, none⟩), h.new (.iter none 0 [] 0))
  | some (.map _ _), .map (some M) =>
    match h.get M with
    | some (.map _ clk) => some (.pointer (some ⟨h.next, 0, none⟩), h.new (.iter (some M) clk [] clk))
    | _ => none
  | _, _ => none

theorem aRange_snd {P : Program} {ρ : Ren} {h h' : AH} {w : World} {t : TypeId} {x x' v : Value} (hr : HR ρ h w) (hx : VR ρ x x') (hv : aRange P t x h = some (v, h')) :
    Snd P ρ h w (Instr.range t x') v h' := by
  unfold aRange at hv
  split at hv
  · rename_i kt et hd
    cases hx; cases hv
    obtain ⟨a, b⟩ := hr.alloc (x := .mapIter none 0 #[] 0) (o := .iter none 0 [] 0) (w' := { w with heap := w.heap.push (.mapIter none 0 #[] 0) }) (base := 0) (lim := 0) rfl
      (fun ρ' _ _ => ⟨none, by simp, rfl, rfl⟩)
    refine ⟨_, .pointer (some ⟨w.heap.size, 0, none⟩), _, ?_, ?_, a, b⟩
    · simp only [Instr.range, Sem.run_bind, r_under w hd, Result.andThen_ok, Sem.run_pure, run_newObj]
    · have := VR.ptr (ρ := ρ.put h.next ⟨w.heap.size, 0, 0⟩) (off := 0) (Ren.put_same _ _ _); simpa using this
  · rename_i kt et M hd
    split at hv
    · rename_i es clk hg
      cases hv
      obtain ⟨M', r, es', hM, rfl, hq, hg', hh, her⟩ := mapAt_run (es := es) (clk := clk) hr hx (by simp [mapAt, hg])
      cases hM
      obtain ⟨a, b⟩ := hr.alloc (x := .mapIter (some r.blk) clk #[] clk) (o := .iter (some M) clk [] clk) (w' := { w with heap := w.heap.push (.mapIter (some r.blk) clk #[] clk) }) (base := 0) (lim := 0) rfl
        (fun ρ' hle _ => ⟨some r.blk, by simp, rfl, r, hle _ _ hq, rfl⟩)
      refine ⟨_, .pointer (some ⟨w.heap.size, 0, none⟩), _, ?_, ?_, a, b⟩
      · simp only [Instr.range, Sem.run_bind, r_under w hd, Result.andThen_ok, getObj_run hh (fun _ _ _ e => by cases e), Sem.run_pure, run_newObj]
      · have := VR.ptr (ρ := ρ.put h.next ⟨w.heap.size, 0, 0⟩) (off := 0) (Ren.put_same _ _ _); simpa using this
    · cases hv
  · cases hv

theorem iterAt {ρ : Ren} {h : AH} {w : World} {I since stepped : Nat} {m : Option Nat} {seen : List Nat} {p' : Value} (hr : HR ρ h w) (hp : VR ρ (.pointer (some ⟨I, 0, none⟩)) p') (hg : h.get I = some (.iter m since seen stepped)) :
    ∃ r m', p' = .pointer (some ⟨r.blk, 0, none⟩) ∧ ρ I = some r ∧ r.base = 0 ∧ w.heap[r.blk]? = some (.mapIter m' since seen.toArray stepped) ∧ MRel ρ m m' := by
  cases hp with
  | ptr hq =>
    rename_i r
    obtain ⟨q, eq, hor⟩ := hr.obj I _ hg
    rw [hq] at eq; cases eq
    obtain ⟨m', hh, h0, hm⟩ := hor
    exact ⟨r, m', by rw [h0], hq, h0, hh, hm⟩

def aIterEntry (p : Value) (h : AH) : Option Value :=
  match p with
  | .pointer (some ⟨I, 0, none⟩) =>
    match h.get I with
    | some (.iter (some M) _ seen stepped) =>
      match seen.getLast?, h.get M with
      | some stamp, some (.map es clk) =>
        if clk = stepped then (match es.find? (fun e => e.born == stamp) with | some e => some (.tuple #[e.key, e.val]) | none => none) else none
      | _, _ => none
    | _ => none
  | _ => none

theorem ER.find {ρ : Ren} (stamp : Nat) {e : MapEntry} : ∀ {es es' : List MapEntry}, ER ρ es es' → es.find? (fun e => e.born == stamp) = some e → ∃ e', es'.find? (fun e => e.born == stamp) = some e' ∧ VR ρ e.key e'.key ∧ VR ρ e.val e'.val := by
  intro es
  induction es with
  | nil => intro es' _ h; simp at h
  | cons x es ih =>
    intro es' h hf
    obtain ⟨e', r, rfl, a, b, c, hr⟩ := h.uncons
    simp only [List.find?_cons] at hf ⊢
    rw [← a]
    split at hf
    · cases hf; exact ⟨e', rfl, b, c⟩
    · exact ih hr hf

theorem aIterEntry_run {P : Program} {ρ : Ren} {h : AH} {w : World} {p p' v : Value} (hr : HR ρ h w) (hp : VR ρ p p') (hv : aIterEntry p h = some v) : Rd P ρ w (Instr.entry p') v := by
  unfold aIterEntry at hv
  split at hv
  case h_2 => cases hv
  rename_i I
  split at hv
  case h_2 => cases hv
  rename_i M since seen stepped hg
  split at hv
  case h_2 => cases hv
  rename_i stamp es clk hs hgm
  split at hv
  case isFalse => cases hv
  rename_i hclk
  split at hv
  case h_2 => cases hv
  rename_i e hf
  cases hv
  obtain ⟨r, m', rfl, hq, h0, hh, q, hqm, rfl⟩ := iterAt hr hp hg
  obtain ⟨q', eq, hor⟩ := hr.obj M _ hgm
  rw [hqm] at eq; cases eq
  obtain ⟨es', hh', her⟩ := hor
  obtain ⟨e', hf', hk, hvv⟩ := her.find stamp hf
  refine ⟨.tuple #[e'.key, e'.val], ?_, VR.pair hk hvv⟩
  subst hclk
  have hb : seen.toArray.back? = some stamp := by rw [List.back?_toArray]; exact hs
  have hfd : es'.find? (fun x => x.born == stamp) = some e' := by
    have e0 : es' = es'.toList.toArray := by simp
    rw [e0, List.find?_toArray]; exact hf'
  simp only [Instr.entry, Sem.run_bind, getObj_run hh (fun _ _ _ e => by cases e), getObj_run hh' (fun _ _ _ e => by cases e), Sem.run_pure, Result.andThen_ok, hb, bne_self_eq_false, Bool.false_eq_true, if_false, hfd]

/-- The entries that a step of a walk may bring. -/
def candsOf (es : List MapEntry) (since : Nat) (seen : List Nat) : List (Option MapEntry) :=
  let left := es.filter fun e => !seen.contains e.born
  let old := left.filter fun e => decide (e.born < since)
  let new := left.filter fun e => decide (e.born ≥ since)
  (if old.isEmpty then [none] else []) ++ (old ++ new).map some

def nextBad (es : List MapEntry) (seen : List Nat) (last : Nat) : Bool := !seen.isEmpty && !es.isEmpty && es.all (fun e => decide (e.born ≥ last))

/-- A step of a walk over a map: what holds of every way it may go. -/
def NextW (p : Value) (h : AH) (K : Value → AH → Prop) : Prop :=
  ∃ I, p = .pointer (some ⟨I, 0, none⟩) ∧
    ((∃ a b c, h.get I = some (.iter none a b c) ∧ K (.tuple #[.bool false]) h) ∨
     (∃ M since seen stepped es clk, h.get I = some (.iter (some M) since seen stepped) ∧ h.get M = some (.map es clk) ∧ nextBad es seen stepped = false ∧
       ∀ x ∈ candsOf es since seen, match x with
         | some e => K (.tuple #[.bool true, e.key, e.val]) (h.set I (.iter (some M) since (seen ++ [e.born]) clk))
         | none => K (.tuple #[.bool false]) h))

end Go.Ab

namespace Go.Ab

def CR (ρ : Ren) (a b : Option MapEntry) : Prop :=
  match a, b with
  | none, none => True
  | some e, some e' => e.born = e'.born ∧ VR ρ e.key e'.key ∧ VR ρ e.val e'.val
  | _, _ => False

theorem isEmpty_len {α β : Type} {a : List α} {b : List β} (h : a.length = b.length) : a.isEmpty = b.isEmpty := by
  cases a <;> cases b <;> simp_all

theorem candsOf_CR {ρ : Ren} {es es' : List MapEntry} (h : ER ρ es es') (since : Nat) (seen : List Nat) :
    (candsOf es since seen).length = (candsOf es' since seen).length ∧ ∀ (i : Nat) (a b : Option MapEntry), (candsOf es since seen)[i]? = some a → (candsOf es' since seen)[i]? = some b → CR ρ a b := by
  have hl : ER ρ (es.filter fun e => !seen.contains e.born) (es'.filter fun e => !seen.contains e.born) := h.filter (fun b => !seen.contains b)
  have ho := hl.filter (fun b => decide (b < since))
  have hn := hl.filter (fun b => decide (b ≥ since))
  have hon := ho.append hn
  have hemp := isEmpty_len ho.1
  have key : ∀ (p : List (Option MapEntry)), p = [] ∨ p = [none] → ∀ (xs ys : List MapEntry), ER ρ xs ys → (p ++ xs.map some).length = (p ++ ys.map some).length ∧
      ∀ (i : Nat) (a b : Option MapEntry), (p ++ xs.map some)[i]? = some a → (p ++ ys.map some)[i]? = some b → CR ρ a b := by
    intro p hp xs ys hxy
    refine ⟨by simp [hxy.1], fun i a b ha hb => ?_⟩
    by_cases hi : i < p.length
    · rw [List.getElem?_append_left hi] at ha hb
      rw [ha] at hb; cases hb
      rcases hp with rfl | rfl
      · simp at hi
      · have : i = 0 := by simpa using hi
        subst this; simp at ha; subst ha; trivial
    · rw [List.getElem?_append_right (Nat.le_of_not_lt hi), List.getElem?_map, Option.map_eq_some_iff] at ha hb
      obtain ⟨e, he, rfl⟩ := ha
      obtain ⟨e', he', rfl⟩ := hb
      exact hxy.2 _ e e' he he'
  unfold candsOf
  simp only [hemp]
  refine key _ ?_ _ _ hon
  split
  · exact .inr rfl
  · exact .inl rfl

theorem nextBad_ER {ρ : Ren} {es es' : List MapEntry} (h : ER ρ es es') (seen : List Nat) (last : Nat) : nextBad es' seen last = nextBad es seen last := by
  unfold nextBad
  rw [isEmpty_len h.1]
  congr 1
  clear seen
  induction es generalizing es' with
  | nil => have : es' = [] := List.eq_nil_of_length_eq_zero h.1.symm; subst this; rfl
  | cons e es ih =>
    obtain ⟨e', r, rfl, a, b, c, hr⟩ := h.uncons
    simp only [List.all_cons, a, ih hr]

theorem NextW.sound {P : Program} {ρ : Ren} {h : AH} {w : World} {p p' : Value} {K : Value → AH → Prop} {ty : TypeId} (hr : HR ρ h w) (hp : VR ρ p p') (hn : NextW p h K) :
    ∃ ρ' v v' h' w', (Instr.next p' false ty).run P w = .ok v' w' ∧ K v h' ∧ VR ρ' v v' ∧ HR ρ' h' w' ∧ Frm ρ h w ρ' h' w' := by
  obtain ⟨I, rfl, hn⟩ := hn
  rcases hn with ⟨a, b, c, hg, hk⟩ | ⟨M, since, seen, stepped, es, clk, hg, hgm, hbad, hall⟩
  · obtain ⟨r, m', rfl, hq, h0, hh, hm⟩ := iterAt hr hp hg
    have hm : m' = none := hm
    subst hm
    refine ⟨ρ, _, .tuple #[.bool false], h, w, ?_, hk, (LR.single (.bool false)).toTuple, hr, Frm.refl _ _ _⟩
    simp only [Instr.next, Sem.run_bind, getObj_run hh (fun _ _ _ e => by cases e), Result.andThen_ok, Sem.run_pure]
  · obtain ⟨r, m', rfl, hq, h0, hh, hm⟩ := iterAt hr hp hg
    obtain ⟨q, hqm, rfl⟩ := hm
    obtain ⟨q', eq, hor⟩ := hr.obj M _ hgm
    rw [hqm] at eq; cases eq
    obtain ⟨es', hh', her⟩ := hor
    have hlt : r.blk < w.heap.size := (Array.getElem?_eq_some_iff.1 hh).1
    have hbad' : (!seen.toArray.isEmpty && !es'.isEmpty && es'.all (·.born ≥ stepped)) = false := by
      have := nextBad_ER her seen stepped
      rw [hbad] at this
      unfold nextBad at this
      have e0 : es' = es'.toList.toArray := by simp
      rw [e0]; simpa using this
    obtain ⟨hlen, hrel⟩ := candsOf_CR her since seen
    let C : Array (Option MapEntry) := (candsOf es'.toList since seen).toArray
    have hCe : (if ((es'.filter fun e => !seen.toArray.contains e.born).filter (·.born < since)).isEmpty then #[none] else #[]) ++
        (((es'.filter fun e => !seen.toArray.contains e.born).filter (·.born < since)) ++ ((es'.filter fun e => !seen.toArray.contains e.born).filter (·.born ≥ since))).map some = C := by
      apply Array.ext'
      have e1 : ∀ (x : Array MapEntry), x.isEmpty = x.toList.isEmpty := fun x => by simp
      simp only [C, candsOf, Array.toList_append, Array.toList_map, Array.toList_filter, e1, List.contains_toArray]
      split <;> simp
    have hpos : 0 < C.size := by
      simp only [C, List.size_toArray, candsOf, List.length_append, List.length_map]
      split
      · simp only [List.length_cons]; omega
      · rename_i hne
        simp only [List.isEmpty_iff, ← List.length_eq_zero_iff] at hne
        omega
    -- the index that is drawn
    have hdraw : ∃ c w1, c < C.size ∧ (w1.heap = w.heap ∧ Side w w1) ∧ (choose (.mapNext C.size)).run P w = .ok c w1 := by
      rw [run_choose]
      by_cases hf : (Question.mapNext C.size).forced = true
      · rw [if_pos hf]; exact ⟨0, w, hpos, ⟨rfl, Side.refl _⟩, rfl⟩
      · rw [if_neg hf]; exact ⟨w.tape w.drawn (.mapNext C.size) % C.size, { w with drawn := w.drawn + 1 }, Nat.mod_lt _ hpos, ⟨rfl, ⟨rfl, rfl, rfl⟩⟩, rfl⟩
    obtain ⟨c, w1, hc, ⟨hw1, sd1⟩, hrun⟩ := hdraw
    have hcl : c < (candsOf es'.toList since seen).length := by simpa [C] using hc
    have hca : c < (candsOf es since seen).length := by rw [hlen]; exact hcl
    have hx := List.getElem?_eq_getElem hca
    have hx' := List.getElem?_eq_getElem hcl
    have hrr := hrel c _ _ hx hx'
    have hmem := hall _ (List.getElem_mem hca)
    generalize hA : (candsOf es since seen)[c] = A at hrr hmem hx
    generalize hB : (candsOf es'.toList since seen)[c] = B at hrr hx'
    have hCc : C[c]? = some B := by simp only [C, List.getElem?_toArray]; exact hx'
    have hh1 : w1.heap[r.blk]? = some (.mapIter (some q.blk) since seen.toArray stepped) := by rw [hw1]; exact hh
    have step : (Instr.next (.pointer (some ⟨r.blk, 0, none⟩)) false ty).run P w = (match B with
        | some e => (do setObj r.blk (.mapIter (some q.blk) since (seen.toArray.push e.born) clk); Pure.pure (.tuple #[.bool true, e.key, e.val]) : Sem Value).run P w1
        | none => .ok (.tuple #[.bool false]) w1) := by
      unfold Instr.next
      simp only [Sem.run_bind, getObj_run hh (fun _ _ _ e => by cases e), Result.andThen_ok, getObj_run hh' (fun _ _ _ e => by cases e), hbad', Bool.false_eq_true, if_false]
      simp only [hCe, hrun, Result.andThen_ok, hCc]
      cases B with
      | none => rfl
      | some e => simp only [Sem.run_bind]
    cases A with
    | none =>
      cases B with
      | some _ => exact hrr.elim
      | none => exact ⟨ρ, _, _, h, w1, step, hmem, (LR.single (.bool false)).toTuple, hr.same hw1, Frm.same hw1 sd1⟩
    | some e =>
      cases B with
      | none => exact hrr.elim
      | some e' =>
        obtain ⟨hb, hk, hv⟩ := hrr
        have hr1 := hr.same hw1
        obtain ⟨a, b⟩ := hr1.turn (A := I) (r := r) (x := .mapIter (some q.blk) since (seen.toArray.push e'.born) clk) (o' := .iter (some M) since (seen ++ [e.born]) clk) hg rfl hq
          ⟨some q.blk, by simp [hw1, hlt, hb], h0, q, hqm, rfl⟩
        refine ⟨ρ, _, .tuple #[.bool true, e'.key, e'.val], _, { w1 with heap := w1.heap.setIfInBounds r.blk (.mapIter (some q.blk) since (seen.toArray.push e'.born) clk) }, ?_, hmem, (LR.cons (.bool true) (LR.cons hk (LR.single hv))).toTuple, a, (Frm.same hw1 sd1).trans b⟩
        rw [step]
        simp only [Sem.run_bind, setObj_run hh1 (fun _ _ _ e => by cases e), Result.andThen_ok, Sem.run_pure]

end Go.Ab

namespace Go.Ab

def cOK : Operand → Bool
  | .const v => plain 9 v
  | .global _ => false
  | _ => true

structure AAct where
  n : Nat
  tm : Nat → Value
  df : List Nat

def AAct.ev (a : AAct) : Operand → Value
  | .tmp t => a.tm t
  | .const v => v
  | .global _ => undef
  | .func f => .func (.func f) #[] #[]

def AAct.put (a : AAct) (d : Option Tmp) (v : Value) : AAct :=
  match d with
  | some t => { a with tm := fun i => if i = t then v else a.tm i }
  | none => a

def DR (ρ : Ren) : List Nat → List Deferred → Prop
  | [], [] => True
  | A :: as, d :: ds => (∃ r, ρ A = some r ∧ d.target = .collected r.blk) ∧ DR ρ as ds
  | _, _ => False

theorem DR.mono {ρ ρ' : Ren} (hle : ρ.le ρ') : ∀ {as : List Nat} {ds : List Deferred}, DR ρ as ds → DR ρ' as ds := by
  intro as
  induction as with
  | nil => intro ds h; cases ds <;> exact h
  | cons A as ih =>
    intro ds h
    cases ds with
    | nil => exact h
    | cons d ds => obtain ⟨⟨r, a, b⟩, h⟩ := h; exact ⟨⟨r, hle _ _ a, b⟩, ih h⟩

structure AR (ρ : Ren) (a : AAct) (c : Act) : Prop where
  size : c.tmps.size = a.n
  tmp : ∀ i, VR ρ (a.tm i) (c.tmps.getD i undef)
  df : DR ρ a.df c.defers

theorem AR.mono {ρ ρ' : Ren} (hle : ρ.le ρ') {a : AAct} {c : Act} (h : AR ρ a c) : AR ρ' a c := ⟨h.size, fun i => (h.tmp i).mono hle, h.df.mono hle⟩

theorem AR.ev {ρ : Ren} {a : AAct} {c : Act} (h : AR ρ a c) {x : Operand} (hx : cOK x = true) : VR ρ (a.ev x) (c.eval x) := by
  cases x with
  | tmp t => exact h.tmp t
  | const v => exact plain_VR ρ 9 v hx
  | global g => cases hx
  | func f => exact .func (.func f) rfl (fun i v v' a _ => by simp at a) rfl (fun i v v' a _ => by simp at a)

def dstOK (a : AAct) : Option Tmp → Prop
  | some t => t < a.n
  | none => True

theorem AR.put {ρ : Ren} {a : AAct} {c : Act} (h : AR ρ a c) {d : Option Tmp} (hd : dstOK a d) {v v' : Value} (hv : VR ρ v v') : AR ρ (a.put d v) (c.put d v') := by
  cases d with
  | none => exact h
  | some t =>
    refine ⟨by simp [Act.put, AAct.put, h.size], fun i => ?_, h.df⟩
    simp only [AAct.put, Act.put]
    have hlt : t < c.tmps.size := by rw [h.size]; exact hd
    by_cases e : i = t
    · subst e
      rw [if_pos rfl]
      simpa [Array.getD_eq_getD_getElem?, hlt] using hv
    · rw [if_neg e]
      have := h.tmp i
      rw [Array.getD_eq_getD_getElem?] at this ⊢
      rw [Array.getElem?_setIfInBounds_ne (fun x => e x.symm)]; exact this

def fence (crd : Option Nat) : Fence := { Fence.wide with round := crd }

def RD (ρ : Ren) : Option Nat → Option Nat → Prop
  | none, none => True
  | some L, some b => ∃ r, ρ L = some r ∧ r.blk = b
  | _, _ => False

theorem RD.mono {ρ ρ' : Ren} (hle : ρ.le ρ') {a b : Option Nat} (h : RD ρ a b) : RD ρ' a b := by
  cases a <;> cases b <;> first | exact h | (obtain ⟨r, x, y⟩ := h; exact ⟨r, hle _ _ x, y⟩)

/-- Code, walked on the abstract heap. 'rd': the round of a range over a function in which the code stands. -/
def AW (P : Program) (rd : Option Nat) (c : Code) (Q : Exit → AAct → AH → Prop) (a : AAct) (h : AH) : Prop :=
  ∀ (n : Nat) (ρ : Ren) (crd : Option Nat) (ca : Act) (w : World), RD ρ rd crd → AR ρ a ca → HR ρ h w →
    c.wpIn (fence crd) n P (fun e ca' w' => ∃ ρ' a' h', Q e a' h' ∧ AR ρ' a' ca' ∧ HR ρ' h' w' ∧ Frm ρ h w ρ' h' w') ca w

def Enters (P : Program) (g : FuncId) : Prop := ∃ fn, P.funcs[g]? = some fn ∧ fn.body.isSome = true ∧ (fn.name == "runtime.NumGoroutine") = false

/-- A call, on the abstract heap. -/
def ACall (P : Program) (g : FuncId) (args : List Value) (h : AH) (K : Value → AH → Prop) : Prop :=
  Enters P g ∧ ∀ (ρ : Ren) (cargs : Array Value) (w : World), LR ρ args cargs.toList → HR ρ h w →
    Calls P g cargs w fun e w' => ∃ ρ' v v' h', e = .returned v' ∧ K v h' ∧ VR ρ' v v' ∧ HR ρ' h' w' ∧ Frm ρ h w ρ' h' w'

theorem ACall.mono {P : Program} {g : FuncId} {args : List Value} {h : AH} {K K' : Value → AH → Prop} (hk : ∀ v h, K v h → K' v h) (hc : ACall P g args h K) : ACall P g args h K' :=
  ⟨hc.1, fun ρ cargs w a b => (hc.2 ρ cargs w a b).mono fun _ _ ⟨ρ', v, v', h', he, hkk, r⟩ => ⟨ρ', v, v', h', he, hk _ _ hkk, r⟩⟩

theorem AW.mono {P : Program} {rd : Option Nat} {c : Code} {Q Q' : Exit → AAct → AH → Prop} {a : AAct} {h : AH} (hq : ∀ e a h, Q e a h → Q' e a h) (hw : AW P rd c Q a h) : AW P rd c Q' a h :=
  fun n ρ crd ca w r x y => wpIn_mono (hw n ρ crd ca w r x y) fun _ _ _ ⟨ρ', a', h', q, rest⟩ => ⟨ρ', a', h', hq _ _ _ q, rest⟩

/-! ### Rounds -/

def ALoop.act (l : ALoop) (args : List Value) : AAct :=
  { n := l.n, tm := (l.params.toList.zip args).foldl (fun tm (p : Tmp × Value) => fun i => if i = p.1 then p.2 else tm i) l.tm, df := [] }

/-- The end of a round. -/
def roundQ (L : Nat) (K : Value → AH → Prop) (e : Exit) (_ : AAct) (h : AH) : Prop :=
  ∃ l, h.get L = some (.loop l) ∧
    match e with
    | .normal => K (.bool true) (h.set L (.loop { l with state := .ready, pending := none }))
    | .ret => K (.bool false) (h.set L (.loop { l with state := .done, pending := some .ret }))
    | .exit id => K (.bool false) (h.set L (.loop { l with state := .done, pending := some (.exit id) }))
    | .goto t => K (.bool false) (h.set L (.loop { l with state := .done, pending := some (.goto t) }))
    | _ => False

/-- yield, called. -/
def AYield (P : Program) (L : Nat) (args : List Value) (h : AH) (K : Value → AH → Prop) : Prop :=
  ∃ l, h.get L = some (.loop l) ∧ args.length = l.params.size ∧ (∀ p ∈ l.params.toList, p < l.n) ∧
    AW P (some L) l.assign (fun e a1 h1 => e = .normal ∧ ∃ l1, h1.get L = some (.loop l1) ∧ l1.state = .ready ∧
      AW P (some L) l.body (roundQ L K) a1 (h1.set L (.loop { l1 with state := .busy }))) (l.act args) h

theorem loopAt {ρ : Ren} {h : AH} {w : World} (hr : HR ρ h w) {L : Nat} {l : ALoop} (hg : h.get L = some (.loop l)) :
    ∃ r l' q, ρ L = some r ∧ w.heap[r.blk]? = some (.loop l') ∧ r.blk < w.heap.size ∧ l'.state = l.state ∧ l'.pending = l.pending ∧ True ∧ l'.params = l.params ∧
      l'.assign = l.assign ∧ l'.body = l.body ∧ ρ l.defers = some q ∧ l'.defers = q.blk ∧ l'.tmps.size = l.n ∧ ∀ i, VR ρ (l.tm i) (l'.tmps.getD i undef) := by
  obtain ⟨r, hq, hor⟩ := hr.obj L _ hg
  have hlt := hor.lt
  obtain ⟨l', q, hh, rest⟩ := hor
  exact ⟨r, l', q, hq, hh, hlt, rest⟩

/-- The loop's record turned, but for its temporaries. -/
theorem HR.turnLoop {ρ : Ren} {h : AH} {w : World} (hr : HR ρ h w) {L : Nat} {l : ALoop} {r : RE} {l' : Loop} (hg : h.get L = some (.loop l)) (hq : ρ L = some r) (hh : w.heap[r.blk]? = some (.loop l')) (st : LoopState) (pd : Option Code) :
    HR ρ (h.set L (.loop { l with state := st, pending := pd })) { w with heap := w.heap.setIfInBounds r.blk (.loop { l' with state := st, pending := pd }) } ∧
    Frm ρ h w ρ (h.set L (.loop { l with state := st, pending := pd })) { w with heap := w.heap.setIfInBounds r.blk (.loop { l' with state := st, pending := pd }) } := by
  obtain ⟨r2, l2, q, hq2, hh2, hlt, h1, h2, h3, h4, h5, h6, h7, h8, h9, h10⟩ := loopAt hr hg
  rw [hq] at hq2; cases hq2
  rw [hh] at hh2; cases hh2
  exact hr.turn hg rfl hq ⟨{ l' with state := st, pending := pd }, q, by simp [hlt], rfl, rfl, h3, h4, h5, h6, h7, h8, h9, h10⟩

theorem put_all {ρ : Ren} : ∀ (ps : List Tmp) (args : List Value) (cargs : List Value) (tm : Nat → Value) (ct : Array Value), args.length = ps.length → LR ρ args cargs → (∀ p ∈ ps, p < ct.size) → (∀ i, VR ρ (tm i) (ct.getD i undef)) →
    ((ps.zip cargs).foldl (fun t (p : Tmp × Value) => t.setIfInBounds p.1 p.2) ct).size = ct.size ∧
    ∀ i, VR ρ ((ps.zip args).foldl (fun tm (p : Tmp × Value) => fun i => if i = p.1 then p.2 else tm i) tm i) (((ps.zip cargs).foldl (fun t (p : Tmp × Value) => t.setIfInBounds p.1 p.2) ct).getD i undef) := by
  intro ps
  induction ps with
  | nil => intro args cargs tm ct hl hlr hp h; exact ⟨rfl, h⟩
  | cons p ps ih =>
    intro args cargs tm ct hl hlr hp h
    cases args with
    | nil => simp at hl
    | cons x xs =>
      cases cargs with
      | nil => have := hlr.1; simp at this
      | cons y ys =>
        have hx : VR ρ x y := hlr.2 0 x y rfl rfl
        simp only [List.zip_cons_cons, List.foldl_cons]
        have hpl : p < ct.size := hp p (by simp)
        obtain ⟨a, b⟩ := ih xs ys (fun i => if i = p then x else tm i) (ct.setIfInBounds p y) (by simpa using hl) ⟨by simpa using hlr.1, fun j u v s t => hlr.2 (j + 1) u v (by simpa using s) (by simpa using t)⟩
          (fun q hq => by simpa using hp q (by simp [hq])) (fun i => by
            by_cases e : i = p
            · subst e; rw [if_pos rfl]; simpa [Array.getD_eq_getD_getElem?, hpl] using hx
            · rw [if_neg e]
              have := h i
              rw [Array.getD_eq_getD_getElem?] at this ⊢
              rw [Array.getElem?_setIfInBounds_ne (fun z => e z.symm)]; exact this)
        exact ⟨a.trans (by simp), b⟩

theorem AYield.sound {P : Program} {L : Nat} {args : List Value} {h : AH} {K : Value → AH → Prop} (hy : AYield P L args h K) {n : Nat} {crd : Option Nat} {ρ : Ren} {cargs : Array Value} {w : World} {b : Nat}
    (hl : LR ρ args cargs.toList) (hr : HR ρ h w) (hb : ∃ r, ρ L = some r ∧ r.blk = b) :
    ∃ f tmps assign body, (Instr.yield b cargs).run P w = .ok (.round b f tmps assign body) w ∧
      RoundIn (fence crd) n P b f tmps assign body w fun e w' => ∃ ρ' v v' h', e = .returned v' ∧ K v h' ∧ VR ρ' v v' ∧ HR ρ' h' w' ∧ Frm ρ h w ρ' h' w' := by
  obtain ⟨l, hg, hal, hpn, haw⟩ := hy
  obtain ⟨r, l', q, hq, hh, hlt, h1, h2, h3, h4, h5, h6, h7, h8, h9, h10⟩ := loopAt hr hg
  obtain ⟨r0, hq0, rfl⟩ := hb
  rw [hq] at hq0; cases hq0
  have hsz : cargs.size = l'.params.size := by have := hl.1; rw [h4]; simp at this; omega
  refine ⟨l'.fn, _, l'.assign, l'.body, by
    simp only [Instr.yield, Instr.getLoop, Sem.run_bind, getObj_run hh (fun _ _ _ e => by cases e), Result.andThen_ok, Sem.run_pure, hsz, ne_eq, not_true_eq_false, if_false]; rfl, ?_⟩
  refine roundIn_of_wpIn trivial ?_
  have hfold : (l'.params.zip cargs).foldl (fun tmps (x : Tmp × Value) => tmps.setIfInBounds x.1 x.2) l'.tmps = (l'.params.toList.zip cargs.toList).foldl (fun t (p : Tmp × Value) => t.setIfInBounds p.1 p.2) l'.tmps := by
    rw [← Array.foldl_toList, Array.toList_zip]
  obtain ⟨hs, hv⟩ := put_all (ρ := ρ) l.params.toList args cargs.toList l.tm l'.tmps (by simpa using hal) hl (fun p hp => by rw [h9]; exact hpn p hp) h10
  have har : AR ρ (l.act args) { tmps := (l'.params.zip cargs).foldl (fun tmps (x : Tmp × Value) => tmps.setIfInBounds x.1 x.2) l'.tmps, defers := [] } := by
    refine ⟨?_, fun i => ?_, trivial⟩
    · simp only [ALoop.act]; rw [hfold, h4, hs, h9]
    · simp only [ALoop.act]; rw [hfold, h4]; exact hv i
  have hrd : RD ρ (some L) (some r.blk) := ⟨r, hq, rfl⟩
  have hfe : (fence crd).inRound r.blk = fence (some r.blk) := rfl
  rw [hfe, h5, h6]
  refine wpIn_mono (haw n ρ (some r.blk) _ w hrd har hr) ?_
  rintro e a1 w1 ⟨ρ1, aa, h', ⟨rfl, l1, hg1, hst, hbody⟩, har1, hr1, hf1⟩
  simp only [Exit.then]
  obtain ⟨rr, l1', q1, hq1, hh1, hlt1, e1, e2, e3, e4, e5, e6, e7, e8, e9, e10⟩ := loopAt hr1 hg1
  have hrr : rr = r := by have := hf1.le _ _ hq; rw [hq1] at this; cases this; rfl
  subst hrr
  obtain ⟨hr2, hf2⟩ := hr1.turnLoop hg1 hq1 hh1 .busy l1.pending
  refine ⟨{ w1 with heap := w1.heap.setIfInBounds rr.blk (.loop { l1' with state := .busy, pending := l1.pending }) }, ?_, ?_⟩
  · have hl1 : ({ l1' with state := .busy, pending := l1.pending } : Loop) = { l1' with state := .busy } := by rw [← e2]
    rw [hl1]
    have hst' : l1'.state = .ready := e1.trans hst
    simp only [Instr.beginRound, Instr.getLoop, Sem.run_bind, getObj_run hh1 (fun _ _ _ e => by cases e), Result.andThen_ok, Sem.run_pure, setObj_run hh1 (fun _ _ _ e => by cases e), hst']
  · refine wpIn_mono (hbody n ρ1 (some rr.blk) a1 _ (hrd.mono hf1.le) har1 hr2) ?_
    rintro e a2 w2 ⟨ρ2, a2', h2, ⟨l2, hg2, hk⟩, har2, hr3, hf3⟩
    obtain ⟨r3, l2', q2, hq3, hh3, _, f1, f2, f3, f4, f5, f6, f7, f8, f9, f10⟩ := loopAt hr3 hg2
    have hr3e : r3 = rr := by
      have := hf3.le _ _ hq1
      rw [hq3] at this; cases this; rfl
    subst hr3e
    have fin : ∀ (jump : Option Code) (v : Bool), v = jump.isNone → K (.bool v) (h2.set L (.loop { l2 with state := if jump.isNone then .ready else .done, pending := jump })) →
        ∃ v' w', (Instr.endRound r3.blk jump).run P w2 = .ok v' w' ∧ ∃ ρ' v v'' h', Ending.returned v' = .returned v'' ∧ K v h' ∧ VR ρ' v v'' ∧ HR ρ' h' w' ∧ Frm ρ h w ρ' h' w' := by
      intro jump v hv hk
      obtain ⟨hr4, hf4⟩ := hr3.turnLoop hg2 hq3 hh3 (if jump.isNone then .ready else .done) jump
      refine ⟨.bool v, _, ?_, ρ2, .bool v, .bool v, _, rfl, hk, .bool _, hr4, ((hf1.trans hf2).trans hf3).trans hf4⟩
      simp only [Instr.endRound, Instr.getLoop, Sem.run_bind, getObj_run hh3 (fun _ _ _ e => by cases e), Result.andThen_ok, Sem.run_pure, setObj_run hh3 (fun _ _ _ e => by cases e), hv]
    cases e with
    | normal => exact fin none true rfl hk
    | ret => exact fin (some .ret) false rfl hk
    | exit id => exact fin (some (.exit id)) false rfl hk
    | goto t => exact fin (some (.goto t)) false rfl hk
    | panic c => exact hk.elim
    | outgrown => exact hk.elim

end Go.Ab

namespace Go.Ab

def aBytes (P : Program) (s d : TypeId) (x : Value) (h : AH) : Option (Value × AH) :=
  match P.underlying s, P.underlying d, x with
  | some .string, some (.slice e), .string b =>
    match P.underlying e with
    | some (.int .u8) => if b.size < ML then some (.slice (some ⟨h.next, 0, none⟩) b.size (SL + 1), h.new (.row (b.data.toList.map fun c => .int .u8 c.toNat) e false)) else none
    | _ => none
  | _, _, _ => none

theorem aBytes_snd {P : Program} {ρ : Ren} {h h' : AH} {w : World} {s d : TypeId} {x x' v : Value} (hr : HR ρ h w) (hx : VR ρ x x') (hv : aBytes P s d x h = some (v, h')) :
    Snd P ρ h w (convert s d x') v h' := by
  unfold aBytes at hv
  split at hv
  case h_2 => cases hv
  rename_i e b hs hd
  split at hv
  case h_2 => cases hv
  rename_i he
  split at hv
  case isFalse => cases hv
  rename_i hb
  cases hv; cases hx
  have hforced : (Question.appendCap b.size 0 e).forced = false := rfl
  let cap := (Question.appendCap b.size 0 e).cut (w.tape w.drawn (.appendCap b.size 0 e))
  have hcap : b.size ≤ cap := by show b.size ≤ b.size + _; omega
  have hcS : cap ≤ 9223372036854775807 := by
    show b.size + w.tape w.drawn (.appendCap b.size 0 e) % (2 ^ 63 - b.size) ≤ 9223372036854775807
    have hb' : b.size < 4611686018427387904 := hb
    have : w.tape w.drawn (.appendCap b.size 0 e) % (2 ^ 63 - b.size) < 2 ^ 63 - b.size := Nat.mod_lt _ (by omega)
    omega
  let cc : Array Value := b.data.map (fun c => Value.int .u8 c.toNat) ++ Array.replicate (cap - b.size) (.int .u8 0)
  have hcs : cc.size = cap := by simp only [cc, Array.size_append, Array.size_map, Array.size_replicate]; show b.size + _ = _; omega
  obtain ⟨h1, h2⟩ := hr.alloc (x := .cells cc e (cc.size, cc.size + 1)) (o := .row (b.data.toList.map fun c => .int .u8 c.toNat) e false) (w' := { w with drawn := w.drawn + 1, heap := w.heap.push (.cells cc e (cc.size, cc.size + 1)) }) (base := 0) (lim := cap) rfl
    (fun ρ' hle _ => ⟨cc, (cc.size, cc.size + 1), ⟨by simp, by simp [hcs]; exact hcap, fun i v hi => by
      rw [List.getElem?_map] at hi
      simp only [Option.map_eq_some_iff] at hi
      obtain ⟨c, hc, rfl⟩ := hi
      have hlt : i < b.data.size := by simpa using (List.getElem?_eq_some_iff.1 hc).1
      refine ⟨.int .u8 c.toNat, ?_, .int _ _⟩
      simp only [Nat.zero_add, cc]
      rw [Array.getElem?_append_left (by simpa using hlt), Array.getElem?_map]
      have : b.data[i]? = some c := by simpa using hc
      rw [this]; rfl, (fun hw => by cases hw), fun v hm => by
        obtain ⟨c, _, rfl⟩ := List.mem_map.1 hm
        rfl⟩⟩)
  refine ⟨_, .slice (some ⟨w.heap.size, 0, none⟩) b.size cap, { w with drawn := w.drawn + 1, heap := w.heap.push (.cells cc e (cc.size, cc.size + 1)) }, ?_, ?_, h1, h2⟩
  · simp only [convert, Sem.run_bind, r_under w hs, r_under w hd, Result.andThen_ok, r_under w he, Conv.stringToBytes, run_choose, hforced]
    have hn : ∀ (w1 : World), w1.heap = w.heap → (newRow e cc).run P w1 = .ok ⟨w.heap.size, 0, none⟩ { w1 with heap := w.heap.push (.cells cc e (0, 0)) } := by
      intro w1 e1; rw [← e1]; rfl
    have hm : ∀ (w1 : World), w1.heap = w.heap.push (.cells cc e (0, 0)) → (markStringish ⟨w.heap.size, 0, none⟩).run P w1 = .ok () { w1 with heap := w.heap.push (.cells cc e (cc.size, cc.size + 1)) } := by
      intro w1 e1
      have hs : w1.shape? w.heap.size = some (e, cc.size) := by simp [World.shape?, e1]
      have hf : w1.freeze { block := w.heap.size, off := cc.size } 1 = { w1 with heap := w.heap.push (.cells cc e (cc.size, cc.size + 1)) } := by
        simp only [World.freeze, e1]
        have : (1 : Nat) ≠ 0 := by decide
        rw [if_neg this]
        congr 1
        apply Array.ext_getElem?
        intro i
        rw [Array.getElem?_modify, Array.getElem?_push, Array.getElem?_push]
        by_cases hi : i = w.heap.size
        · subst hi; simp
        · simp [hi, Ne.symm hi]
      have hsh : (shape w.heap.size).run P w1 = .ok (some (e, cc.size)) w1 := by rw [← hs]; rfl
      have hfr : (freeze { block := w.heap.size, off := cc.size } 1).run P w1 = .ok () (w1.freeze { block := w.heap.size, off := cc.size } 1) := rfl
      unfold markStringish
      simp only [Sem.run_bind, hsh, Result.andThen_ok]
      rw [hfr, hf]
    rw [if_neg (by decide), Result.andThen_ok]
    refine (congrArg (fun (r : Result Addr) => r.andThen _) (hn { w with drawn := w.drawn + 1 } rfl)).trans ?_
    rw [Result.andThen_ok]
    refine (congrArg (fun (r : Result Unit) => r.andThen _) (hm _ rfl)).trans ?_
    rfl
  · have := VR.slack (ρ := ρ.put h.next ⟨w.heap.size, 0, cap⟩) (A := h.next) (off := 0) (l := b.size) (c := cap) (s := 1) (Ren.put_same _ _ _) hcap (by simp) hcS
    simpa using this
end Go.Ab

namespace Go.Ab

def aBuiltin (P : Program) (b : Builtin) (ts : Array TypeId) (args : List Value) (h : AH) : Option (Value × AH) :=
  match b, args with
  | .len, [x] => match ts[0]? with
    | some t => (aLen P t x h).map fun v => (v, h)
    | none => none
  | .append, [s, x] => aAppend P ts s x h
  | .delete, [m, k] => match ts[0]? with
    | some t => (aDelete P t m k h).map fun h' => (undef, h')
    | none => none
  | .copy, [d, s] => match ts[0]? with
    | some t => aCopy P t d s h
    | none => none
  | .min, x :: xs => (aFold aMin2 x xs).map fun v => (v, h)
  | .max, x :: xs => (aFold aMax2 x xs).map fun v => (v, h)
  | _, _ => none

theorem aBuiltin_snd {P : Program} {ρ : Ren} {h h' : AH} {w : World} {b : Builtin} {ts : Array TypeId} {ty : TypeId} {cs : Array Bool} {args : List Value} {cargs : Array Value} {v : Value} (hr : HR ρ h w) (hl : LR ρ args cargs.toList)
    (hv : aBuiltin P b ts args h = some (v, h')) : ∃ ρ' v' w', (builtin b ts ty cs cargs).run P w = .ok (.value v') w' ∧ VR ρ' v v' ∧ HR ρ' h' w' ∧ Frm ρ h w ρ' h' w' := by
  have lift : ∀ {s : Sem Value}, Snd P ρ h w s v h' → ∃ ρ' v' w', (do pure (.value (← s)) : Sem Next).run P w = .ok (.value v') w' ∧ VR ρ' v v' ∧ HR ρ' h' w' ∧ Frm ρ h w ρ' h' w' := by
    rintro s ⟨ρ', v', w', a, b⟩
    exact ⟨ρ', v', w', by simp only [Sem.run_bind, a, Result.andThen_ok, Sem.run_pure], b⟩
  have two : ∀ x y, args = [x, y] → ∃ x' y', cargs = #[x', y'] ∧ VR ρ x x' ∧ VR ρ y y' := by
    rintro x y rfl
    obtain ⟨l⟩ := cargs
    match l, hl with
    | [x', y'], hl => exact ⟨x', y', rfl, hl.2 0 x x' rfl rfl, hl.2 1 y y' rfl rfl⟩
    | [], hl => have := hl.1; simp at this
    | [_], hl => have := hl.1; simp at this
    | _ :: _ :: _ :: _, hl => have := hl.1; simp at this
  have one : ∀ x, args = [x] → ∃ x', cargs = #[x'] ∧ VR ρ x x' := by
    rintro x rfl
    obtain ⟨l⟩ := cargs
    match l, hl with
    | [x'], hl => exact ⟨x', rfl, hl.2 0 x x' rfl rfl⟩
    | [], hl => have := hl.1; simp at this
    | _ :: _ :: _, hl => have := hl.1; simp at this
  unfold aBuiltin at hv
  split at hv
  · rename_i x
    obtain ⟨x', rfl, hx⟩ := one x rfl
    split at hv
    · rename_i t ht
      simp only [Option.map_eq_some_iff, Prod.mk.injEq] at hv
      obtain ⟨_, hlen, rfl, rfl⟩ := hv
      exact lift ((aLen_run (ty := ty) ht hr hx hlen).snd hr)
    · cases hv
  · rename_i s x
    obtain ⟨s', x', rfl, hs, hx⟩ := two s x rfl
    exact lift (aAppend_snd (ty := ty) hr hs hx hv)
  · rename_i m k
    obtain ⟨m', k', rfl, hm, hk⟩ := two m k rfl
    split at hv
    · rename_i t ht
      simp only [Option.map_eq_some_iff, Prod.mk.injEq] at hv
      obtain ⟨_, hdel, rfl, rfl⟩ := hv
      exact lift (aDelete_snd (ty := ty) ht hr hm hk hdel)
    · cases hv
  · rename_i d s
    obtain ⟨d', s', rfl, hd, hs⟩ := two d s rfl
    split at hv
    · rename_i t ht
      exact lift (aCopy_snd (ty := ty) ht hr hd hs hv)
    · cases hv
  · rename_i x xs
    simp only [Option.map_eq_some_iff, Prod.mk.injEq] at hv
    obtain ⟨_, hf, rfl, rfl⟩ := hv
    have := aMin_run (P := P) (w := w) (ts := ts) (ty := ty) hl hf
    exact lift (this.snd hr)
  · rename_i x xs
    simp only [Option.map_eq_some_iff, Prod.mk.injEq] at hv
    obtain ⟨_, hf, rfl, rfl⟩ := hv
    have := aMax_run (P := P) (w := w) (ts := ts) (ty := ty) hl hf
    exact lift (this.snd hr)
  · cases hv

def oev (ev : Operand → Value) : Option Operand → Option Value
  | none => none
  | some x => some (ev x)

def isConcrete (P : Program) (t : TypeId) : Bool :=
  match P.underlying t with
  | some (.interface _) | none => false
  | _ => true

/-- An operation that has one outcome. -/
def dop (P : Program) (ev : Operand → Value) (op : Op) (h : AH) : Option (Value × AH) :=
  match op with
  | .move x | .assign x => some (ev x, h)
  | .pick c x y => match ev c with
    | .bool t => some (if t then ev x else ev y, h)
    | _ => none
  | .alloc t => aAlloc P t h
  | .box t x => aBox t (ev x) h
  | .build t ps => (aBuild P t (ps.toList.map fun p => (p.1, ev p.2))).map fun v => (v, h)
  | .buildSlice t n ps => aBuildSlice P t n (ps.toList.map fun p => (p.1, ev p.2)) h
  | .load t x => (aLoad P t (ev x) h).map fun v => (v, h)
  | .store t x y => (aStore P t (ev x) (ev y) h).map fun h' => (undef, h')
  | .nilCheck x => (aNil (ev x)).map fun v => (v, h)
  | .binOp op t x y _ => (aBin P op t (ev x) (ev y)).map fun v => (v, h)
  | .unOp op _ x => (aUn op (ev x)).map fun v => (v, h)
  | .convert s d x => match aBytes P s d (ev x) h with
    | some r => some r
    | none => (aConv P s d (ev x)).map fun v => (v, h)
  | .makeInterface t x => if isConcrete P t then some (.iface t (ev x), h) else none
  | .makeFunc (.func f) a b => some (.func (.func f) (a.map ev) (b.map ev), h)
  | .makeMap _ none => some (.map (some h.next), h.new (.map [] 0))
  | .makeSlice t l c => aMakeSlice P t (ev l) (ev c) h
  | .slice t x lo hi none => (aSlice P t (ev x) (oev ev lo) (oev ev hi)).map fun v => (v, h)
  | .fieldAddr t x f => (aFieldAddr P t f (ev x)).map fun v => (v, h)
  | .field t x f => (aField P t (ev x) f).map fun v => (v, h)
  | .indexAddr t x i => (aIndexAddr P t (ev x) (ev i)).map fun v => (v, h)
  | .index t x i => (aIndex P t (ev x) (ev i)).map fun v => (v, h)
  | .lookup t x i ok => (aLookup P t (ev x) (ev i) ok h).map fun v => (v, h)
  | .mapUpdate t m k v => (aUpdate P t (ev m) (ev k) (ev v) h).map fun h' => (undef, h')
  | .insert t m k v => (aUpdate P t (ev m) (ev k) (ev v) h).map fun h' => (undef, h')
  | .mapEntry t m k => aEntry P t (ev m) (ev k) h
  | .entryStore _ m s v => (aEntryStore (ev m) (ev s) (ev v) h).map fun h' => (undef, h')
  | .range t x => aRange P t (ev x) h
  | .entry x => (aIterEntry (ev x) h).map fun v => (v, h)
  | .extract x i => (aExtract (ev x) i).map fun v => (v, h)
  | .call { callee := .builtin b, args, argTypes } => aBuiltin P b argTypes (args.toList.map ev) h
  | _ => none

def NextOK (v' : Value) (nx : Next) : Prop := nx = .value v' ∨ (nx = .skip ∧ v' = undef)

theorem dop_snd {P : Program} {ρ : Ren} {h h' : AH} {w : World} {ev ev' : Operand → Value} {o : Oper} {v : Value} (hc : o.op.operands.toList.all cOK = true) (hev : ∀ x, cOK x = true → VR ρ (ev x) (ev' x)) (hr : HR ρ h w)
    (hv : dop P ev o.op h = some (v, h')) : ∃ ρ' v' nx w', (execOp ev' o).run P w = .ok nx w' ∧ NextOK v' nx ∧ VR ρ' v v' ∧ HR ρ' h' w' ∧ Frm ρ h w ρ' h' w' := by
  obtain ⟨dst, op, type, pos, after, guard⟩ := o
  simp only at hc hv ⊢
  have lift : ∀ {s : Sem Value}, Snd P ρ h w s v h' → ∃ ρ' v' nx w', (do pure (.value (← s)) : Sem Next).run P w = .ok nx w' ∧ NextOK v' nx ∧ VR ρ' v v' ∧ HR ρ' h' w' ∧ Frm ρ h w ρ' h' w' := by
    rintro s ⟨ρ', v', w', a, b⟩
    exact ⟨ρ', v', _, w', by simp only [Sem.run_bind, a, Result.andThen_ok, Sem.run_pure], .inl rfl, b⟩
  have liftU : ∀ {s : Sem Unit}, v = undef → SndU P ρ h w s h' → ∃ ρ' v' nx w', (do s; pure .skip : Sem Next).run P w = .ok nx w' ∧ NextOK v' nx ∧ VR ρ' v v' ∧ HR ρ' h' w' ∧ Frm ρ h w ρ' h' w' := by
    rintro s rfl ⟨ρ', w', a, b⟩
    exact ⟨ρ', undef, _, w', by simp only [Sem.run_bind, a, Result.andThen_ok, Sem.run_pure], .inr ⟨rfl, rfl⟩, VR.undef _, b⟩
  have arr : ∀ (xs : Array Operand), (∀ x ∈ xs.toList, cOK x = true) → LR ρ (xs.toList.map ev) (xs.map ev').toList := by
    intro xs hx
    rw [Array.toList_map]
    exact LR.map fun x hm => hev x (hx x hm)
  cases op <;> simp only [dop] at hv <;> (try cases hv) <;> simp only [Op.operands, List.all_cons, List.all_nil, Bool.and_true, Bool.and_eq_true, List.all_eq_true] at hc
  case move x => exact ⟨ρ, _, _, w, rfl, .inl rfl, hev x hc, hr, Frm.refl _ _ _⟩
  case assign x => exact ⟨ρ, _, _, w, rfl, .inl rfl, hev x hc, hr, Frm.refl _ _ _⟩
  case pick c x y =>
    have h1 := hev c hc.1
    split at hv
    · rename_i t ht
      cases hv
      rw [ht] at h1
      generalize hcc : ev' c = cc at h1
      cases h1
      refine ⟨ρ, if t then ev' x else ev' y, _, w, ?_, .inl rfl, ?_, hr, Frm.refl _ _ _⟩
      · simp only [execOp, hcc, asBool, Sem.run_bind, Sem.run_pure, Result.andThen_ok]
      · cases t
        · exact hev y hc.2.2
        · exact hev x hc.2.1
    · cases hv
  case alloc t => exact lift (aAlloc_snd hr hv)
  case box t x => exact lift (aBox_snd hr (hev x hc) hv)
  case build t ps =>
    simp only [Option.map_eq_some_iff, Prod.mk.injEq] at hv
    obtain ⟨_, hb, rfl, rfl⟩ := hv
    exact lift ((aBuild_run (PR.of_map (ev := ev) (ev' := ev') fun p hp => hev _ (hc _ (List.mem_map.2 ⟨p, hp, rfl⟩))) hb w).snd hr)
  case buildSlice t n ps => exact lift (aBuildSlice_snd hr (PR.of_map (ev := ev) (ev' := ev') fun p hp => hev _ (hc _ (List.mem_map.2 ⟨p, hp, rfl⟩))) hv)
  case insert t m k x =>
    simp only [Option.map_eq_some_iff, Prod.mk.injEq] at hv
    obtain ⟨_, hb, rfl, rfl⟩ := hv
    exact liftU rfl (aUpdate_snd hr (hev m hc.1) (hev k hc.2.1) (hev x hc.2.2) hb)
  case load t x =>
    simp only [Option.map_eq_some_iff, Prod.mk.injEq] at hv
    obtain ⟨_, hb, rfl, rfl⟩ := hv
    exact lift (aLoad_snd hr (hev x hc) hb)
  case store t x y =>
    simp only [Option.map_eq_some_iff, Prod.mk.injEq] at hv
    obtain ⟨_, hb, rfl, rfl⟩ := hv
    exact liftU rfl (aStore_snd hr (hev x hc.1) (hev y hc.2) hb)
  case nilCheck x =>
    simp only [Option.map_eq_some_iff, Prod.mk.injEq] at hv
    obtain ⟨u, hb, rfl, rfl⟩ := hv
    have hx := hev x hc
    have : u = ev x ∧ (∀ w, (execOp ev' { dst, op := .nilCheck x, type, pos, after, guard }).run P w = .ok (.value (ev' x)) w) := by
      unfold aNil at hb
      split at hb <;> first | (cases hb; done) | skip
      all_goals (rename_i e; injection hb with hb; subst hb)
      · rw [e] at hx
        refine ⟨e.symm, fun w => ?_⟩
        generalize hcc : ev' x = y at hx ⊢
        cases hx with
        | func hf => cases hf; simp only [execOp, hcc, Sem.run_pure]
      · rw [e] at hx
        refine ⟨e.symm, fun w => ?_⟩
        generalize hcc : ev' x = y at hx ⊢
        cases hx with
        | func hf => cases hf; simp only [execOp, hcc, Sem.run_pure]
      · refine ⟨rfl, fun w => ?_⟩
        clear lift liftU arr
        generalize ev x = z at *
        generalize hcc : ev' x = y at hx ⊢
        cases hx <;> first | (simp only [execOp, hcc, Sem.run_pure]; done) | simp_all
    obtain ⟨rfl, hrun⟩ := this
    exact ⟨ρ, ev' x, _, w, hrun w, .inl rfl, hx, hr, Frm.refl _ _ _⟩
  case binOp op t x y e =>
    simp only [Option.map_eq_some_iff, Prod.mk.injEq] at hv
    obtain ⟨_, hb, rfl, rfl⟩ := hv
    obtain ⟨v', hrun, hvr⟩ := aBin_run (P := P) (x := x) (y := y) (hev x hc.1) (hev y hc.2) hb w
    exact lift (Snd.pure hr hrun hvr)
  case unOp op t x =>
    simp only [Option.map_eq_some_iff, Prod.mk.injEq] at hv
    obtain ⟨_, hb, rfl, rfl⟩ := hv
    exact lift ((aUn_run (hev x hc) hb w).snd hr)
  case convert s d x =>
    split at hv
    · rename_i r hb
      cases hv
      exact lift (aBytes_snd hr (hev x hc) hb)
    · simp only [Option.map_eq_some_iff, Prod.mk.injEq] at hv
      obtain ⟨_, hb, rfl, rfl⟩ := hv
      exact lift ((aConv_run (hev x hc) hb w).snd hr)
  case makeInterface t x =>
    split at hv
    · rename_i hi
      injection hv with hv; injection hv with h1 h2; subst h1; subst h2
      refine lift (Snd.pure (v' := .iface t (ev' x)) hr ?_ (.iface (hev x hc)))
      unfold isConcrete at hi
      cases hu : P.underlying t with
      | none => rw [hu] at hi; cases hi
      | some d =>
        rw [hu] at hi
        simp only [Instr.makeInterface, Sem.run_bind, r_under w hu, Result.andThen_ok]
        cases d <;> first | rfl | cases hi
    · cases hv
  case makeFunc f a b =>
    cases f <;> simp only at hv <;> first | cases hv; done | skip
    injection hv with hv; injection hv with h1 h2; subst h1; subst h2
    refine lift (Snd.pure (v' := .func (.func _) (a.map ev') (b.map ev')) hr rfl ?_)
    have ha := arr a (fun x hx => hc x (by simp [hx]))
    have hb := arr b (fun x hx => hc x (by simp [hx]))
    refine .func (.func _) (by simp) (fun i v v' h1 h2 => ?_) (by simp) (fun i v v' h1 h2 => ?_)
    · exact ha.2 i v v' (by simpa [← Array.getElem?_toList] using h1) (by simpa [← Array.getElem?_toList] using h2)
    · exact hb.2 i v v' (by simpa [← Array.getElem?_toList] using h1) (by simpa [← Array.getElem?_toList] using h2)
  case makeMap t r =>
    cases r with
    | some _ => cases hv
    | none =>
      injection hv with hv; injection hv with h1 h2; subst h1; subst h2
      exact lift (aMakeMap_snd t hr)
  case makeSlice t l c => exact lift (aMakeSlice_snd hr (hev l hc.1) (hev c hc.2) hv)
  case slice t x lo hi mx =>
    cases mx with
    | some _ => cases hv
    | none =>
      simp only [Option.map_eq_some_iff, Prod.mk.injEq] at hv
      obtain ⟨_, hb, rfl, rfl⟩ := hv
      refine lift ((aSlice_run (hev x (hc _ (by simp))) ?_ ?_ hb w).snd hr)
      · cases lo with
        | none => trivial
        | some a => exact hev a (hc _ (by simp))
      · cases hi with
        | none => trivial
        | some a => exact hev a (hc _ (by simp))
  case fieldAddr t x f =>
    simp only [Option.map_eq_some_iff, Prod.mk.injEq] at hv
    obtain ⟨_, hb, rfl, rfl⟩ := hv
    exact lift ((aFieldAddr_run (hev x hc) hb w).snd hr)
  case field t x f =>
    simp only [Option.map_eq_some_iff, Prod.mk.injEq] at hv
    obtain ⟨_, hb, rfl, rfl⟩ := hv
    exact lift ((aField_run (hev x hc) hb w).snd hr)
  case indexAddr t x i =>
    simp only [Option.map_eq_some_iff, Prod.mk.injEq] at hv
    obtain ⟨_, hb, rfl, rfl⟩ := hv
    exact lift ((aIndexAddr_run (hev x hc.1) (hev i hc.2) hb w).snd hr)
  case index t x i =>
    simp only [Option.map_eq_some_iff, Prod.mk.injEq] at hv
    obtain ⟨_, hb, rfl, rfl⟩ := hv
    exact lift ((aIndex_run (hev x hc.1) (hev i hc.2) hb w).snd hr)
  case lookup t x i ok =>
    simp only [Option.map_eq_some_iff, Prod.mk.injEq] at hv
    obtain ⟨_, hb, rfl, rfl⟩ := hv
    exact lift ((aLookup_run hr (hev x hc.1) (hev i hc.2) hb).snd hr)
  case mapUpdate t m k x =>
    simp only [Option.map_eq_some_iff, Prod.mk.injEq] at hv
    obtain ⟨_, hb, rfl, rfl⟩ := hv
    exact liftU rfl (aUpdate_snd hr (hev m hc.1) (hev k hc.2.1) (hev x hc.2.2) hb)
  case mapEntry t m k => exact lift (aEntry_snd hr (hev m hc.1) (hev k hc.2) hv)
  case entryStore t m s x =>
    simp only [Option.map_eq_some_iff, Prod.mk.injEq] at hv
    obtain ⟨_, hb, rfl, rfl⟩ := hv
    exact liftU rfl (aEntryStore_snd hr (hev m hc.1) (hev s hc.2.1) (hev x hc.2.2) hb)
  case range t x => exact lift (aRange_snd hr (hev x hc) hv)
  case entry x =>
    simp only [Option.map_eq_some_iff, Prod.mk.injEq] at hv
    obtain ⟨_, hb, rfl, rfl⟩ := hv
    exact lift ((aIterEntry_run hr (hev x hc) hb).snd hr)
  case extract x i =>
    simp only [Option.map_eq_some_iff, Prod.mk.injEq] at hv
    obtain ⟨_, hb, rfl, rfl⟩ := hv
    exact lift ((aExtract_run (hev x hc) hb w).snd hr)
  case call c =>
    obtain ⟨callee, args, argTypes⟩ := c
    cases callee <;> simp only at hv <;> first | cases hv; done | skip
    rename_i b
    obtain ⟨ρ', v', w', a, b⟩ := aBuiltin_snd (ty := type) (cs := args.map fun | .const _ => true | _ => false) hr (arr args fun x hx => hc x (by simpa [Call.operands] using hx)) hv
    refine ⟨ρ', v', _, w', ?_, .inl rfl, b⟩
    simp only [execOp, resolve, Sem.run_bind, Sem.run_pure, Result.andThen_ok, invoke]
    exact a

end Go.Ab
