/- Own layer 'Ab': the library's sort of a slice of integers. -/
import Derived.Test.YtnejoceplinjpaaAb21
import Derived.Sort.Row
import Derived.Sort.Grow
namespace Go.Ab
open Go.Sort

theorem HR.grown {ρ : Ren} {h : AH} {w : World} (hr : HR ρ h w) (os : Array Obj) : HR ρ h (grow w os) ∧ Frm ρ h w ρ h (grow w os) := by
  have hb : ∀ b, b < w.heap.size → (grow w os).heap[b]? = w.heap[b]? := fun b hb => by simp [grow, Array.getElem?_append, hb]
  refine ⟨⟨fun A o ha => let ⟨r, q, hor⟩ := hr.obj A o ha; ⟨r, q, hor.move (Ren.le_refl _) (hb _ hor.lt)⟩, hr.inj, hr.dom⟩, Ren.le_refl _, by simp [grow], fun b hlt _ => hb b hlt, fun b hb => .inl hb, ⟨rfl, rfl, rfl⟩⟩

/-- A sort of integers, as the library's: of a row that may be written, and of none. -/
structure SortsInts (P : Program) (g : FuncId) : Prop where
  enters : Enters P g
  some : ∀ (blk off cap : Nat) (zs : List Int) (w : World), Holds (Value.int .i64) w blk off zs.toArray → blk < w.heap.size → zs.length < 4611686018427387904 →
    Calls P g #[.slice (some ⟨blk, off, none⟩) zs.length cap] w fun e w' =>
      e = .returned (.tuple #[]) ∧ ∃ n os, w' = grow (putRow (Value.int .i64) (Sort.ahead w n) blk off (zs.mergeSort fun x y => decide (x ≤ y)).toArray) os
  none : ∀ (p : Option Addr) (cap : Nat) (w : World), Calls P g #[.slice p 0 cap] w fun e w' => e = .returned (.tuple #[]) ∧ w' = w

theorem sortInts {P : Program} {g : FuncId} (hs : SortsInts P g) {h : AH} {A cap : Nat} {e : TypeId} {zs : List Int} (hg : h.get A = some (.grow (zs.map (Value.int .i64)) e)) (hz : zs ≠ []) (hbig : zs.length < 4611686018427387904) :
    ACall P g [.slice (some ⟨A, 0, none⟩) zs.length cap] h (fun v h' => v = .tuple #[] ∧ h' = h.set A (.grow ((zs.mergeSort fun x y => decide (x ≤ y)).map (Value.int .i64)) e)) := by
  refine ⟨hs.enters, fun ρ cargs w hl hr => ?_⟩
  obtain ⟨r, hq, cc, fr, hrow, hlim⟩ := hr.obj A _ hg
  have hcarg : ∃ c, cargs = #[.slice (some ⟨r.blk, r.base, none⟩) zs.length c] := by
    obtain ⟨l⟩ := cargs
    match l, hl with
    | [x], hl =>
      have hx := hl.2 0 _ x rfl rfl
      have hlen : zs.length ≠ 0 := by simpa using hz
      generalize zs.length = m at hx hlen ⊢
      generalize hv : Value.slice (some ⟨A, 0, none⟩) m cap = v at hx
      cases hx <;> cases hv
      · rename_i r' hq' hc; rw [hq] at hq'; cases hq'; exact ⟨_, rfl⟩
      · rename_i s' r' hq' h1' h2' h3'; rw [hq] at hq'; cases hq'; exact ⟨_, rfl⟩
      · exact absurd rfl hlen
    | [], hl => have := hl.1; simp at this
    | _ :: _ :: _, hl => have := hl.1; simp at this
  obtain ⟨c, rfl⟩ := hcarg
  have hcell : ∀ j, j < zs.length → cc[r.base + j]? = some (.int .i64 (zs[j]!)) := by
    intro j hj
    obtain ⟨v', h1, h2⟩ := hrow.cell j (.int .i64 zs[j]) (by simp [hj])
    cases h2
    rw [h1]; simp [hj]
  have hfit : r.base + zs.length ≤ cc.size := by simpa using hrow.fits
  have hlt : r.blk < w.heap.size := (Array.getElem?_eq_some_iff.1 hrow.heap).1
  have hH : Holds (Value.int .i64) w r.blk r.base zs.toArray := by
    intro j hj
    have hj' : j < zs.length := by simpa using hj
    refine ⟨?_, ?_⟩
    · simp only [World.cell?, hrow.heap, Option.isSome_none, Bool.false_eq_true, if_false, hcell j hj']
      simp [hj']
    · have := hrow.free rfl (r.base + j) (by omega)
      obtain ⟨lo, hi⟩ := fr
      simp only [World.frozen?, hrow.heap]
      simp only [Bool.and_eq_false_iff, decide_eq_false_iff_not]
      by_cases hlo : lo ≤ r.base + j
      · right; intro hh; exact this ⟨hlo, hh⟩
      · left; exact hlo
  refine (hs.some r.blk r.base c zs w hH hlt hbig).mono ?_
  rintro e' w' ⟨rfl, n, os, rfl⟩
  generalize hd : (zs.mergeSort fun x y => decide (x ≤ y)) = d
  have hdl : d.length = zs.length := by rw [← hd]; exact List.length_mergeSort _
  have hr1 : HR ρ h (Sort.ahead w n) := HR.same (w := w) rfl hr
  have hf1 : Frm ρ h w ρ h (Sort.ahead w n) := Frm.same rfl
  have hheap : (putRow (Value.int .i64) (Sort.ahead w n) r.blk r.base d.toArray).heap[r.blk]? = some (.cells (putCells (Value.int .i64) r.base d.toArray cc) e fr) := by
    show (w.heap.modify r.blk (onCells _))[r.blk]? = _
    rw [Array.getElem?_modify, if_pos rfl, hrow.heap]; rfl
  obtain ⟨hr2, hf2⟩ := hr1.store (o' := .grow (d.map (Value.int .i64)) e) (w' := putRow (Value.int .i64) (Sort.ahead w n) r.blk r.base d.toArray) hg rfl hq
    (by show (w.heap.modify _ _).size = w.heap.size; simp) (fun b hb => by show (w.heap.modify _ _)[b]? = w.heap[b]?; rw [Array.getElem?_modify, if_neg (Ne.symm hb)])
    ⟨_, fr, ⟨hheap, by simp [putCells, hdl]; exact hfit, fun i v hi => by
      rw [List.getElem?_map] at hi
      simp only [Option.map_eq_some_iff] at hi
      obtain ⟨z, hz', rfl⟩ := hi
      have hi' : i < d.length := (List.getElem?_eq_some_iff.1 hz').1
      refine ⟨.int .i64 z, ?_, .int _ _⟩
      simp only [putCells, Array.getElem?_mapIdx]
      rw [hcell i (by omega)]
      simp only [Option.map_some]
      rw [if_pos ⟨by omega, by simp; omega⟩]
      have : r.base + i - r.base = i := by omega
      rw [this]
      have : d.toArray[i]! = z := by
        rw [getElem!_pos _ i (by simpa using hi')]
        simpa using (List.getElem?_eq_some_iff.1 hz').2
      rw [this], fun hw i hi => hrow.free rfl i (by simpa [putCells] using hi), fun v hm => by
        obtain ⟨z, _, rfl⟩ := List.mem_map.1 hm; rfl⟩, by simp [putCells, hlim]⟩
  obtain ⟨hr3, hf3⟩ := hr2.grown os
  exact ⟨ρ, _, _, _, rfl, ⟨rfl, rfl⟩, VR.undef ρ, hr3, (hf1.trans hf2).trans hf3⟩

theorem sortNone {P : Program} {g : FuncId} (hs : SortsInts P g) {h : AH} {p : Option Addr} {cap : Nat} :
    ACall P g [.slice p 0 cap] h (fun v h' => v = .tuple #[] ∧ h' = h) := by
  refine ⟨hs.enters, fun ρ cargs w hl hr => ?_⟩
  have hcarg : ∃ p' c, cargs = #[.slice p' 0 c] := by
    obtain ⟨l⟩ := cargs
    match l, hl with
    | [x], hl =>
      have hx := hl.2 0 _ x rfl rfl
      generalize hv : Value.slice p 0 cap = v at hx
      cases hx <;> cases hv <;> exact ⟨_, _, rfl⟩
    | [], hl => have := hl.1; simp at this
    | _ :: _ :: _, hl => have := hl.1; simp at this
  obtain ⟨p', c, rfl⟩ := hcarg
  refine (hs.none p' c w).mono ?_
  rintro e w' ⟨rfl, rfl⟩
  exact ⟨ρ, _, _, h, rfl, ⟨rfl, rfl⟩, VR.undef ρ, hr, Frm.refl _ _ _⟩

end Go.Ab
