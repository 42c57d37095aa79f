/- Own layer 'Ab': a string's bytes, as a new row. -/
import Derived.Test.YtnejoceplinjpaaAb4
namespace Go.Ab

def aBytes (P : Program) (s d : TypeId) (x : Value) (h : AH) : Option (Value × AH) :=
  match P.underlying s, P.underlying d, x with
  | some .string, some (.slice e), .string b =>
    match P.underlying e with
    | some (.int .u8) => if b.size < ML then some (.slice (some ⟨h.next, 0, none⟩) b.size (SL + 1), h.new (.grow (b.data.toList.map fun c => .int .u8 c.toNat) e)) else none
    | _ => none
  | _, _, _ => none

theorem aBytes_snd {P : Program} {ρ : Ren} {h h' : AH} {w : World} {s d : TypeId} {x x' v : Value} (hr : HR ρ h w) (hx : VR ρ x x') (hv : aBytes P s d x h = some (v, h')) :
    Snd P ρ h w (convert s d x') v h' := by
  unfold aBytes at hv
  split at hv
  case h_2 => cases hv
  rename_i e b hs hd
  split at hv
  case h_2 => cases hv
  rename_i he
  split at hv
  case isFalse => cases hv
  rename_i hb
  cases hv; cases hx
  have hforced : (Question.appendCap b.size 0 e).forced = false := rfl
  let cap := (Question.appendCap b.size 0 e).cut (w.tape w.drawn (.appendCap b.size 0 e))
  have hcap : b.size ≤ cap := by show b.size ≤ b.size + _; omega
  let cc : Array Value := b.data.map (fun c => Value.int .u8 c.toNat) ++ Array.replicate (cap - b.size) (.int .u8 0)
  have hcs : cc.size = cap := by simp only [cc, Array.size_append, Array.size_map, Array.size_replicate]; show b.size + _ = _; omega
  obtain ⟨h1, h2⟩ := hr.alloc (x := .cells cc e (cc.size, cc.size + 1)) (o := .grow (b.data.toList.map fun c => .int .u8 c.toNat) e) (w' := { w with drawn := w.drawn + 1, heap := w.heap.push (.cells cc e (cc.size, cc.size + 1)) }) (base := 0) (lim := cap) rfl
    (fun ρ' hle _ => ⟨cc, (cc.size, cc.size + 1), ⟨by simp, by simp [hcs]; exact hcap, fun i v hi => by
      rw [List.getElem?_map] at hi
      simp only [Option.map_eq_some_iff] at hi
      obtain ⟨c, hc, rfl⟩ := hi
      have hlt : i < b.data.size := by simpa using (List.getElem?_eq_some_iff.1 hc).1
      refine ⟨.int .u8 c.toNat, ?_, .int _ _⟩
      simp only [Nat.zero_add, cc]
      rw [Array.getElem?_append_left (by simpa using hlt), Array.getElem?_map]
      have : b.data[i]? = some c := by simpa using hc
      rw [this]; rfl, fun _ i hi hc => by omega, fun v hm => by
        obtain ⟨c, _, rfl⟩ := List.mem_map.1 hm
        rfl⟩, hcs⟩)
  refine ⟨_, .slice (some ⟨w.heap.size, 0, none⟩) b.size cap, { w with drawn := w.drawn + 1, heap := w.heap.push (.cells cc e (cc.size, cc.size + 1)) }, ?_, ?_, h1, h2⟩
  · simp only [convert, Sem.run_bind, r_under w hs, r_under w hd, Result.andThen_ok, r_under w he, Conv.stringToBytes, run_choose, hforced]
    have hn : ∀ (w1 : World), w1.heap = w.heap → (newRow e cc).run P w1 = .ok ⟨w.heap.size, 0, none⟩ { w1 with heap := w.heap.push (.cells cc e (0, 0)) } := by
      intro w1 e1; rw [← e1]; rfl
    have hm : ∀ (w1 : World), w1.heap = w.heap.push (.cells cc e (0, 0)) → (markStringish ⟨w.heap.size, 0, none⟩).run P w1 = .ok () { w1 with heap := w.heap.push (.cells cc e (cc.size, cc.size + 1)) } := by
      intro w1 e1
      have hs : w1.shape? w.heap.size = some (e, cc.size) := by simp [World.shape?, e1]
      have hf : w1.freeze { block := w.heap.size, off := cc.size } 1 = { w1 with heap := w.heap.push (.cells cc e (cc.size, cc.size + 1)) } := by
        simp only [World.freeze, e1]
        have : (1 : Nat) ≠ 0 := by decide
        rw [if_neg this]
        congr 1
        apply Array.ext_getElem?
        intro i
        rw [Array.getElem?_modify, Array.getElem?_push, Array.getElem?_push]
        by_cases hi : i = w.heap.size
        · subst hi; simp
        · simp [hi, Ne.symm hi]
      have hsh : (shape w.heap.size).run P w1 = .ok (some (e, cc.size)) w1 := by rw [← hs]; rfl
      have hfr : (freeze { block := w.heap.size, off := cc.size } 1).run P w1 = .ok () (w1.freeze { block := w.heap.size, off := cc.size } 1) := rfl
      unfold markStringish
      simp only [Sem.run_bind, hsh, Result.andThen_ok]
      rw [hfr, hf]
    rw [if_neg (by decide), Result.andThen_ok]
    refine (congrArg (fun (r : Result Addr) => r.andThen _) (hn { w with drawn := w.drawn + 1 } rfl)).trans ?_
    rw [Result.andThen_ok]
    refine (congrArg (fun (r : Result Unit) => r.andThen _) (hm _ rfl)).trans ?_
    rfl
  · have := VR.slack (ρ := ρ.put h.next ⟨w.heap.size, 0, cap⟩) (A := h.next) (off := 0) (l := b.size) (c := cap) (s := 1) (Ren.put_same _ _ _) hcap (by simp)
    simpa using this
end Go.Ab
