/- Own layer 'Ab': a row's arguments, as the abstract heap holds them. -/
import Derived.Test.YtnejoceplinjpaaAb23
import Derived.ProofKit
import Derived.Carry
namespace Go.Ab
open Go.ChangeShapes Go.WideShapes Go.ChangeAt Go.RowKit

/-- A slice of one-cell elements, as it lies in a world. -/
def InW (W : World) (v : Value) (xs : List Value) : Prop :=
  (v = .slice none 0 0 ∧ xs = []) ∨ ∃ blk off cap, v = .slice (some ⟨blk, off, none⟩) xs.length cap ∧ cap < SL ∧ ∀ (i : Nat) (x : Value), xs[i]? = some x → W.cell? ⟨blk, off + i, none⟩ = some x

theorem add_eq (b o i : Nat) : (Addr.add ⟨b, o, none⟩ i) = ⟨b, o + i, none⟩ := add_add b o i

theorem openSl {H : Type} {enc : TypeId × Value → H} {P : Program} {W : World} {r : Reach} {b0 base : Nat} {spare : Nat → Bool} {held : Bool} {t e : TypeId} {v : Value} {d : DataW H} {ps : List MemPlace} (ht : P.underlying t = some (.slice e)) (hc : P.cellsOf e = 1)
    (hval : Value.okWide P W r b0 t v) (hd : DataW.Trod enc P W base spare held t v d ps) {α : Type} (f : α → Value)
    (hf : ∀ (n : Nat) (cs : List Value) (y : DataW H × List MemPlace), DataW.trod enc P W base spare held n e cs = some y → ∃ x, cs = [f x]) :
    ∃ xs : List α, InW W v (xs.map f) := by
  obtain ⟨n, hn⟩ := hd
  rcases DataW.trod_slice ht hn with ⟨h0, _⟩ | ⟨a, len, cap, elems, rest, m, _, hcs, _, _, hl, hm, hlen, hel, _, _⟩
  · refine ⟨[], .inl ⟨?_, rfl⟩⟩
    unfold Value.okWide at hval
    rw [ht] at hval
    simp only at hval
    unfold Cell.okWide at hval
    rw [ht] at hval
    simp only [Cell.ok, ht] at hval
    cases v <;> simp_all [Value.cells]
  · have hv : v = .slice (some a) len cap ∧ a.spot = none := by
      unfold Value.okWide at hval
      rw [ht] at hval
      simp only at hval
      unfold Cell.okWide at hval
      rw [ht] at hval
      simp only [Cell.ok, ht] at hval
      cases v <;> simp_all [Value.cells, World.has]
    obtain ⟨rfl, hsp⟩ := hv
    obtain ⟨blk, off, sp⟩ := a
    simp only at hsp; subst hsp
    have each : ∀ i, i < len → ∃ x, W.cell? ⟨blk, off + i, none⟩ = some (f x) := by
      intro i hi
      have h1 := hel i hi
      have hi' : i < elems.length := by omega
      rw [List.getElem?_eq_getElem hi', hc, Nat.mul_one, Option.bind_eq_some_iff] at h1
      obtain ⟨cs', hcs', hy⟩ := h1
      obtain ⟨x, rfl⟩ := hf _ _ _ hy
      exact ⟨x, by rw [← add_eq]; exact cell_of_cells?_one hcs'⟩
    have all : ∀ k, k ≤ len → ∃ xs : List α, xs.length = k ∧ ∀ i x, xs[i]? = some x → W.cell? ⟨blk, off + i, none⟩ = some (f x) := by
      intro k
      induction k with
      | zero => intro _; exact ⟨[], rfl, fun i x h => by simp at h⟩
      | succ k ih =>
        intro hk
        obtain ⟨xs, hx, hall⟩ := ih (by omega)
        obtain ⟨x, hx1⟩ := each k (by omega)
        refine ⟨xs ++ [x], by simp [hx], fun i y hy => ?_⟩
        by_cases hi : i < xs.length
        · rw [List.getElem?_append_left hi] at hy; exact hall i y hy
        · rw [List.getElem?_append_right (by omega)] at hy
          have : i - xs.length = 0 := by
            have := (List.getElem?_eq_some_iff.1 hy).1
            simp at this; omega
          rw [this] at hy
          have hik : i = k := by omega
          subst hik
          cases hy; exact hx1
    obtain ⟨xs, hx, hall⟩ := all len (Nat.le_refl _)
    refine ⟨xs, .inr ⟨blk, off, cap, by rw [List.length_map, hx], ?_, fun i x hi => ?_⟩⟩
    · have : maxLen = 9223372036854775807 := rfl
      unfold SL; omega
    · rw [List.getElem?_map] at hi
      simp only [Option.map_eq_some_iff] at hi
      obtain ⟨y, hy, rfl⟩ := hi
      exact hall i y hy

def AllRO (h : AH) : Prop := ∀ A o, h.get A = some o → o.own = false

theorem addArg {ρ : Ren} {h : AH} {W : World} (hr : HR ρ h W) (hro : AllRO h) {v : Value} {xs : List Value} (hv : InW W v xs) (hx : ∀ x ∈ xs, oneC x = true ∧ plain 9 x = true) :
    ∃ ρ' h' u, ρ.le ρ' ∧ HR ρ' h' W ∧ AllRO h' ∧ Sub h h' ∧ VR ρ' u v ∧ SlOf h' u xs := by
  rcases hv with ⟨rfl, rfl⟩ | ⟨blk, off, cap, rfl, hcap, hcell⟩
  · exact ⟨ρ, h, .slice none 0 0, Ren.le_refl _, hr, hro, fun _ _ x => x, .nilSlice _ _, none, 0, 0, rfl, rfl, (fun q e => by cases e), .inl rfl⟩
  · have hle : ρ.le (ρ.put h.next ⟨blk, off, 0⟩) := Ren.le_put hr.fresh
    have hvr : VR (ρ.put h.next ⟨blk, off, 0⟩) (.slice (some ⟨h.next, 0, none⟩) xs.length cap) (.slice (some ⟨blk, off, none⟩) xs.length cap) := by
      have := VR.slice (ρ := ρ.put h.next ⟨blk, off, 0⟩) (A := h.next) (off := 0) (l := xs.length) (c := cap) (Ren.put_same _ _ _) hcap
      simpa using this
    by_cases hz : xs = []
    · subst hz
      refine ⟨ρ.put h.next ⟨blk, off, 0⟩, { next := h.next + 1, get := h.get }, _, hle, ⟨fun A o ha => ?_, fun A B o p r q h1 h2 _ _ _ how => ?_, fun A r hA => ?_⟩, hro, fun _ _ x => x, hvr, some ⟨h.next, 0, none⟩, _, cap, rfl, rfl, (fun q e => by cases e; rfl), .inl rfl⟩
      · obtain ⟨r, hq, hor⟩ := hr.obj A o ha
        exact ⟨r, hle _ _ hq, hor.move hle rfl⟩
      · rw [hro A o h1, hro B p h2] at how; simp at how
      · by_cases e : A = h.next
        · subst e; exact Nat.lt_succ_self _
        · rw [Ren.put_ne _ _ e] at hA; exact Nat.lt_succ_of_lt (hr.dom A r hA)
    · have hlast : xs.length - 1 < xs.length := by
        have : xs.length ≠ 0 := by simpa using hz
        omega
      have hblk : ∃ cc e fr, W.heap[blk]? = some (.cells cc e fr) ∧ ∀ (i : Nat) (x : Value), xs[i]? = some x → cc[off + i]? = some x := by
        have h1 := hcell _ _ (List.getElem?_eq_getElem hlast)
        unfold World.cell? at h1
        split at h1
        · rename_i cc e fr hh
          refine ⟨cc, e, fr, hh, fun i x hi => ?_⟩
          have h2 := hcell i x hi
          unfold World.cell? at h2
          rw [hh] at h2
          simpa using h2
        · cases h1
      obtain ⟨cc, e, fr, hh, hcc⟩ := hblk
      have hro' : AllRO (h.new (.row xs e false)) := by
        intro A o ha
        rw [AH.new_get] at ha
        split at ha
        · cases ha; rfl
        · exact hro A o ha
      refine ⟨ρ.put h.next ⟨blk, off, 0⟩, h.new (.row xs e false), _, hle, ⟨fun A o ha => ?_, fun A B o p r q h1 h2 _ _ _ how => ?_, fun A r hA => ?_⟩, hro', Sub.new hr.wf _, hvr, some ⟨h.next, 0, none⟩, _, cap, rfl, rfl, (fun q e => by cases e; rfl), .inr ⟨h.next, 0, .row xs e false, xs, rfl, by simp [AH.new_get], rfl, fun i x hi => by rw [Nat.zero_add]; exact hi⟩⟩
      · rw [AH.new_get] at ha
        split at ha
        · rename_i e'; cases ha; subst e'
          refine ⟨_, Ren.put_same _ _ _, cc, fr, hh, ?_, fun i x hi => ⟨x, hcc i x hi, ?_⟩, (fun hw => by cases hw), fun x hm => (hx x hm).1⟩
          · have := (Array.getElem?_eq_some_iff.1 (hcc _ _ (List.getElem?_eq_getElem hlast))).1
            simp only; omega
          · exact plain_VR _ 9 x (hx x (List.mem_of_getElem? hi)).2
        · obtain ⟨r, hq, hor⟩ := hr.obj A o ha
          exact ⟨r, hle _ _ hq, hor.move hle rfl⟩
      · rw [hro' A o h1, hro' B p h2] at how; simp at how
      · by_cases e : A = h.next
        · subst e; simp
        · rw [Ren.put_ne _ _ e] at hA; have := hr.dom A r hA; simp; omega

/-- A law of two slices: from the abstract heap to the world. -/
theorem law2 {P : Program} {g : FuncId} {W : World} {v1 v2 : Value} {xs ys : List Value} (h1 : InW W v1 xs) (h2 : InW W v2 ys) (hx : ∀ x ∈ xs, oneC x = true ∧ plain 9 x = true) (hy : ∀ x ∈ ys, oneC x = true ∧ plain 9 x = true)
    (hc : ∀ h u1 u2, SlOf h u1 xs → SlOf h u2 ys → ACall P g [u1, u2] h (fun r _ => r = .bool true)) :
    Calls P g #[v1, v2] W fun e W' => e = .returned (.bool true) ∧ Below W.heap.size W W' := by
  obtain ⟨ρ1, k1, u1, le1, hr1, ro1, _, vr1, s1⟩ := addArg (HR.empty W) (fun A o h => by cases h) h1 hx
  obtain ⟨ρ2, k2, u2, le2, hr2, ro2, sub2, vr2, s2⟩ := addArg hr1 ro1 h2 hy
  have hcall := (hc k2 u1 u2 (s1.sub sub2) s2).2 ρ2 #[v1, v2] W ((LR.single vr2).cons (vr1.mono le2)) hr2
  refine hcall.mono ?_
  rintro e W' ⟨ρ', v, v', h', rfl, rfl, hv, _, hf⟩
  have : v' = .bool true := plain_only 9 _ _ rfl hv
  subst this
  refine ⟨rfl, hf.side.os, hf.side.tape, hf.side.output, hf.size, fun b hb => hf.rest b hb ?_⟩
  rintro ⟨A, o, r, ha, hown, _⟩
  rw [ro2 A o ha] at hown; cases hown

end Go.Ab
