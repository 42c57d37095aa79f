/- Own layer 'Ab': every operation. -/
import Derived.Test.YtnejoceplinjpaaAb7
namespace Go.Ab

def CR (ρ : Ren) (a b : Option MapEntry) : Prop :=
  match a, b with
  | none, none => True
  | some e, some e' => e.born = e'.born ∧ VR ρ e.key e'.key ∧ VR ρ e.val e'.val
  | _, _ => False

theorem isEmpty_len {α β : Type} {a : List α} {b : List β} (h : a.length = b.length) : a.isEmpty = b.isEmpty := by
  cases a <;> cases b <;> simp_all

theorem candsOf_CR {ρ : Ren} {es es' : List MapEntry} (h : ER ρ es es') (since : Nat) (seen : List Nat) :
    (candsOf es since seen).length = (candsOf es' since seen).length ∧ ∀ (i : Nat) (a b : Option MapEntry), (candsOf es since seen)[i]? = some a → (candsOf es' since seen)[i]? = some b → CR ρ a b := by
  have hl : ER ρ (es.filter fun e => !seen.contains e.born) (es'.filter fun e => !seen.contains e.born) := h.filter (fun b => !seen.contains b)
  have ho := hl.filter (fun b => decide (b < since))
  have hn := hl.filter (fun b => decide (b ≥ since))
  have hon := ho.append hn
  have hemp := isEmpty_len ho.1
  have key : ∀ (p : List (Option MapEntry)), p = [] ∨ p = [none] → ∀ (xs ys : List MapEntry), ER ρ xs ys → (p ++ xs.map some).length = (p ++ ys.map some).length ∧
      ∀ (i : Nat) (a b : Option MapEntry), (p ++ xs.map some)[i]? = some a → (p ++ ys.map some)[i]? = some b → CR ρ a b := by
    intro p hp xs ys hxy
    refine ⟨by simp [hxy.1], fun i a b ha hb => ?_⟩
    by_cases hi : i < p.length
    · rw [List.getElem?_append_left hi] at ha hb
      rw [ha] at hb; cases hb
      rcases hp with rfl | rfl
      · simp at hi
      · have : i = 0 := by simpa using hi
        subst this; simp at ha; subst ha; trivial
    · rw [List.getElem?_append_right (Nat.le_of_not_lt hi), List.getElem?_map, Option.map_eq_some_iff] at ha hb
      obtain ⟨e, he, rfl⟩ := ha
      obtain ⟨e', he', rfl⟩ := hb
      exact hxy.2 _ e e' he he'
  unfold candsOf
  simp only [hemp]
  refine key _ ?_ _ _ hon
  split
  · exact .inr rfl
  · exact .inl rfl

theorem nextBad_ER {ρ : Ren} {es es' : List MapEntry} (h : ER ρ es es') (seen : List Nat) (last : Nat) : nextBad es' seen last = nextBad es seen last := by
  unfold nextBad
  rw [isEmpty_len h.1]
  congr 1
  clear seen
  induction es generalizing es' with
  | nil => have : es' = [] := List.eq_nil_of_length_eq_zero h.1.symm; subst this; rfl
  | cons e es ih =>
    obtain ⟨e', r, rfl, a, b, c, hr⟩ := h.uncons
    simp only [List.all_cons, a, ih hr]

theorem NextW.sound {P : Program} {ρ : Ren} {h : AH} {w : World} {p p' : Value} {K : Value → AH → Prop} {ty : TypeId} (hr : HR ρ h w) (hp : VR ρ p p') (hn : NextW p h K) :
    ∃ ρ' v v' h' w', (Instr.next p' false ty).run P w = .ok v' w' ∧ K v h' ∧ VR ρ' v v' ∧ HR ρ' h' w' ∧ Frm ρ h w ρ' h' w' := by
  obtain ⟨I, rfl, hn⟩ := hn
  rcases hn with ⟨a, b, c, hg, hk⟩ | ⟨M, since, seen, stepped, es, clk, hg, hgm, hbad, hall⟩
  · obtain ⟨r, m', rfl, hq, h0, hh, hm⟩ := iterAt hr hp hg
    have hm : m' = none := hm
    subst hm
    refine ⟨ρ, _, .tuple #[.bool false], h, w, ?_, hk, (LR.single (.bool false)).toTuple, hr, Frm.refl _ _ _⟩
    simp only [Instr.next, Sem.run_bind, getObj_run hh (fun _ _ _ e => by cases e), Result.andThen_ok, Sem.run_pure]
  · obtain ⟨r, m', rfl, hq, h0, hh, hm⟩ := iterAt hr hp hg
    obtain ⟨q, hqm, rfl⟩ := hm
    obtain ⟨q', eq, hor⟩ := hr.obj M _ hgm
    rw [hqm] at eq; cases eq
    obtain ⟨es', hh', her⟩ := hor
    have hlt : r.blk < w.heap.size := (Array.getElem?_eq_some_iff.1 hh).1
    have hbad' : (!seen.toArray.isEmpty && !es'.isEmpty && es'.all (·.born ≥ stepped)) = false := by
      have := nextBad_ER her seen stepped
      rw [hbad] at this
      unfold nextBad at this
      have e0 : es' = es'.toList.toArray := by simp
      rw [e0]; simpa using this
    obtain ⟨hlen, hrel⟩ := candsOf_CR her since seen
    let C : Array (Option MapEntry) := (candsOf es'.toList since seen).toArray
    have hCe : (if ((es'.filter fun e => !seen.toArray.contains e.born).filter (·.born < since)).isEmpty then #[none] else #[]) ++
        (((es'.filter fun e => !seen.toArray.contains e.born).filter (·.born < since)) ++ ((es'.filter fun e => !seen.toArray.contains e.born).filter (·.born ≥ since))).map some = C := by
      apply Array.ext'
      have e1 : ∀ (x : Array MapEntry), x.isEmpty = x.toList.isEmpty := fun x => by simp
      simp only [C, candsOf, Array.toList_append, Array.toList_map, Array.toList_filter, e1, List.contains_toArray]
      split <;> simp
    have hpos : 0 < C.size := by
      simp only [C, List.size_toArray, candsOf, List.length_append, List.length_map]
      split
      · simp only [List.length_cons]; omega
      · rename_i hne
        simp only [List.isEmpty_iff, ← List.length_eq_zero_iff] at hne
        omega
    -- the index that is drawn
    have hdraw : ∃ c w1, c < C.size ∧ (w1.heap = w.heap ∧ Side w w1) ∧ (choose (.mapNext C.size)).run P w = .ok c w1 := by
      rw [run_choose]
      by_cases hf : (Question.mapNext C.size).forced = true
      · rw [if_pos hf]; exact ⟨0, w, hpos, ⟨rfl, Side.refl _⟩, rfl⟩
      · rw [if_neg hf]; exact ⟨w.tape w.drawn (.mapNext C.size) % C.size, { w with drawn := w.drawn + 1 }, Nat.mod_lt _ hpos, ⟨rfl, ⟨rfl, rfl, rfl⟩⟩, rfl⟩
    obtain ⟨c, w1, hc, ⟨hw1, sd1⟩, hrun⟩ := hdraw
    have hcl : c < (candsOf es'.toList since seen).length := by simpa [C] using hc
    have hca : c < (candsOf es since seen).length := by rw [hlen]; exact hcl
    have hx := List.getElem?_eq_getElem hca
    have hx' := List.getElem?_eq_getElem hcl
    have hrr := hrel c _ _ hx hx'
    have hmem := hall _ (List.getElem_mem hca)
    generalize hA : (candsOf es since seen)[c] = A at hrr hmem hx
    generalize hB : (candsOf es'.toList since seen)[c] = B at hrr hx'
    have hCc : C[c]? = some B := by simp only [C, List.getElem?_toArray]; exact hx'
    have hh1 : w1.heap[r.blk]? = some (.mapIter (some q.blk) since seen.toArray stepped) := by rw [hw1]; exact hh
    have step : (Instr.next (.pointer (some ⟨r.blk, 0, none⟩)) false ty).run P w = (match B with
        | some e => (do setObj r.blk (.mapIter (some q.blk) since (seen.toArray.push e.born) clk); Pure.pure (.tuple #[.bool true, e.key, e.val]) : Sem Value).run P w1
        | none => .ok (.tuple #[.bool false]) w1) := by
      unfold Instr.next
      simp only [Sem.run_bind, getObj_run hh (fun _ _ _ e => by cases e), Result.andThen_ok, getObj_run hh' (fun _ _ _ e => by cases e), hbad', Bool.false_eq_true, if_false]
      simp only [hCe, hrun, Result.andThen_ok, hCc]
      cases B with
      | none => rfl
      | some e => simp only [Sem.run_bind]
    cases A with
    | none =>
      cases B with
      | some _ => exact hrr.elim
      | none => exact ⟨ρ, _, _, h, w1, step, hmem, (LR.single (.bool false)).toTuple, hr.same hw1, Frm.same hw1 sd1⟩
    | some e =>
      cases B with
      | none => exact hrr.elim
      | some e' =>
        obtain ⟨hb, hk, hv⟩ := hrr
        have hr1 := hr.same hw1
        obtain ⟨a, b⟩ := hr1.turn (A := I) (r := r) (x := .mapIter (some q.blk) since (seen.toArray.push e'.born) clk) (o' := .iter (some M) since (seen ++ [e.born]) clk) hg rfl hq
          ⟨some q.blk, by simp [hw1, hlt, hb], h0, q, hqm, rfl⟩
        refine ⟨ρ, _, .tuple #[.bool true, e'.key, e'.val], _, { w1 with heap := w1.heap.setIfInBounds r.blk (.mapIter (some q.blk) since (seen.toArray.push e'.born) clk) }, ?_, hmem, (LR.cons (.bool true) (LR.cons hk (LR.single hv))).toTuple, a, (Frm.same hw1 sd1).trans b⟩
        rw [step]
        simp only [Sem.run_bind, setObj_run hh1 (fun _ _ _ e => by cases e), Result.andThen_ok, Sem.run_pure]

end Go.Ab
