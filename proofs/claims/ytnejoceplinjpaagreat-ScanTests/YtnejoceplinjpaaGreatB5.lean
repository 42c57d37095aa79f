/- Own layer 'Ab': a row's arguments, as the abstract heap holds them. Own layer 'Ab': rules for a walk whose side conditions are reckoned: guards, loops, slices read, numbers in range, appends. Own layer 'Ab': rows of elements of several cells, local variables of struct types, bytes of strings, read. Own layer 'Ab': operations shown by what the model does; capacities; a row that may grow, laid open. Own layer 'Ab': slices that are inserted into; blocks that are one's own, by their roles. Own layer 'Ab': parts of slices and copies of one-cell elements; an append of zeros. Own layer 'Ab': a drawn region with two ways at one place. -/
import Derived.Test.YtnejoceplinjpaaGreatB4
import Derived.ProofKit
import Derived.Carry
import Derived.Lib.Overlaps
set_option linter.unusedSimpArgs false
set_option linter.unusedVariables false
namespace Go.Ab
open Go.ChangeShapes Go.WideShapes Go.ChangeAt Go.RowKit

/-- A slice of one-cell elements, as it lies in a world. -/
def InW (W : World) (v : Value) (xs : List Value) : Prop :=
  (v = .slice none 0 0 ∧ xs = []) ∨ ∃ blk off cap, v = .slice (some ⟨blk, off, none⟩) xs.length cap ∧ cap < SL ∧ ∀ (i : Nat) (x : Value), xs[i]? = some x → W.cell? ⟨blk, off + i, none⟩ = some x

theorem add_eq (b o i : Nat) : (Addr.add ⟨b, o, none⟩ i) = ⟨b, o + i, none⟩ := add_add b o i

theorem openSl {H : Type} {enc : TypeId × Value → H} {P : Program} {W : World} {r : Reach} {b0 base : Nat} {spare : Nat → Bool} {held : Bool} {t e : TypeId} {v : Value} {d : DataW H} {ps : List MemPlace} (ht : P.underlying t = some (.slice e)) (hc : P.cellsOf e = 1)
    (hval : Value.okWide P W r b0 t v) (hd : DataW.Trod enc P W base spare held t v d ps) {α : Type} (f : α → Value)
    (hf : ∀ (n : Nat) (cs : List Value) (y : DataW H × List MemPlace), DataW.trod enc P W base spare held n e cs = some y → ∃ x, cs = [f x]) :
    ∃ xs : List α, InW W v (xs.map f) := by
  obtain ⟨n, hn⟩ := hd
  rcases DataW.trod_slice ht hn with ⟨h0, _⟩ | ⟨a, len, cap, elems, rest, m, _, hcs, _, _, hl, hm, hlen, hel, _, _⟩
  · refine ⟨[], .inl ⟨?_, rfl⟩⟩
    unfold Value.okWide at hval
    rw [ht] at hval
    simp only at hval
    unfold Cell.okWide at hval
    rw [ht] at hval
    simp only [Cell.ok, ht] at hval
    cases v <;> simp_all [Value.cells]
  · have hv : v = .slice (some a) len cap ∧ a.spot = none := by
      unfold Value.okWide at hval
      rw [ht] at hval
      simp only at hval
      unfold Cell.okWide at hval
      rw [ht] at hval
      simp only [Cell.ok, ht] at hval
      cases v <;> simp_all [Value.cells, World.has]
    obtain ⟨rfl, hsp⟩ := hv
    obtain ⟨blk, off, sp⟩ := a
    simp only at hsp; subst hsp
    have each : ∀ i, i < len → ∃ x, W.cell? ⟨blk, off + i, none⟩ = some (f x) := by
      intro i hi
      have h1 := hel i hi
      have hi' : i < elems.length := by omega
      rw [List.getElem?_eq_getElem hi', hc, Nat.mul_one, Option.bind_eq_some_iff] at h1
      obtain ⟨cs', hcs', hy⟩ := h1
      obtain ⟨x, rfl⟩ := hf _ _ _ hy
      exact ⟨x, by rw [← add_eq]; exact cell_of_cells?_one hcs'⟩
    have all : ∀ k, k ≤ len → ∃ xs : List α, xs.length = k ∧ ∀ i x, xs[i]? = some x → W.cell? ⟨blk, off + i, none⟩ = some (f x) := by
      intro k
      induction k with
      | zero => intro _; exact ⟨[], rfl, fun i x h => by simp at h⟩
      | succ k ih =>
        intro hk
        obtain ⟨xs, hx, hall⟩ := ih (by omega)
        obtain ⟨x, hx1⟩ := each k (by omega)
        refine ⟨xs ++ [x], by simp [hx], fun i y hy => ?_⟩
        by_cases hi : i < xs.length
        · rw [List.getElem?_append_left hi] at hy; exact hall i y hy
        · rw [List.getElem?_append_right (by omega)] at hy
          have : i - xs.length = 0 := by
            have := (List.getElem?_eq_some_iff.1 hy).1
            simp at this; omega
          rw [this] at hy
          have hik : i = k := by omega
          subst hik
          cases hy; exact hx1
    obtain ⟨xs, hx, hall⟩ := all len (Nat.le_refl _)
    refine ⟨xs, .inr ⟨blk, off, cap, by rw [List.length_map, hx], ?_, fun i x hi => ?_⟩⟩
    · have : maxLen = 9223372036854775807 := rfl
      unfold SL; omega
    · rw [List.getElem?_map] at hi
      simp only [Option.map_eq_some_iff] at hi
      obtain ⟨y, hy, rfl⟩ := hi
      exact hall i y hy

def AllRO (h : AH) : Prop := ∀ A o, h.get A = some o → o.own = false

theorem addArg {ρ : Ren} {h : AH} {W : World} (hr : HR ρ h W) (hro : AllRO h) {v : Value} {xs : List Value} (hv : InW W v xs) (hx : ∀ x ∈ xs, oneC x = true ∧ plain 9 x = true) :
    ∃ ρ' h' u, ρ.le ρ' ∧ HR ρ' h' W ∧ AllRO h' ∧ Sub h h' ∧ VR ρ' u v ∧ SlOf h' u xs := by
  rcases hv with ⟨rfl, rfl⟩ | ⟨blk, off, cap, rfl, hcap, hcell⟩
  · exact ⟨ρ, h, .slice none 0 0, Ren.le_refl _, hr, hro, fun _ _ x => x, .nilSlice _ _, none, 0, 0, rfl, rfl, (fun q e => by cases e), .inl rfl⟩
  · have hle : ρ.le (ρ.put h.next ⟨blk, off, 0⟩) := Ren.le_put hr.fresh
    have hvr : VR (ρ.put h.next ⟨blk, off, 0⟩) (.slice (some ⟨h.next, 0, none⟩) xs.length cap) (.slice (some ⟨blk, off, none⟩) xs.length cap) := by
      have := VR.slice (ρ := ρ.put h.next ⟨blk, off, 0⟩) (A := h.next) (off := 0) (l := xs.length) (c := cap) (Ren.put_same _ _ _) hcap
      simpa using this
    by_cases hz : xs = []
    · subst hz
      refine ⟨ρ.put h.next ⟨blk, off, 0⟩, { next := h.next + 1, get := h.get }, _, hle, ⟨fun A o ha => ?_, fun A B o p r q h1 h2 _ _ _ how => ?_, fun A r hA => ?_⟩, hro, fun _ _ x => x, hvr, some ⟨h.next, 0, none⟩, _, cap, rfl, rfl, (fun q e => by cases e; rfl), .inl rfl⟩
      · obtain ⟨r, hq, hor⟩ := hr.obj A o ha
        exact ⟨r, hle _ _ hq, hor.move hle rfl⟩
      · rw [hro A o h1, hro B p h2] at how; simp at how
      · by_cases e : A = h.next
        · subst e; exact Nat.lt_succ_self _
        · rw [Ren.put_ne _ _ e] at hA; exact Nat.lt_succ_of_lt (hr.dom A r hA)
    · have hlast : xs.length - 1 < xs.length := by
        have : xs.length ≠ 0 := by simpa using hz
        omega
      have hblk : ∃ cc e fr, W.heap[blk]? = some (.cells cc e fr) ∧ ∀ (i : Nat) (x : Value), xs[i]? = some x → cc[off + i]? = some x := by
        have h1 := hcell _ _ (List.getElem?_eq_getElem hlast)
        unfold World.cell? at h1
        split at h1
        · rename_i cc e fr hh
          refine ⟨cc, e, fr, hh, fun i x hi => ?_⟩
          have h2 := hcell i x hi
          unfold World.cell? at h2
          rw [hh] at h2
          simpa using h2
        · cases h1
      obtain ⟨cc, e, fr, hh, hcc⟩ := hblk
      have hro' : AllRO (h.new (.row xs e false)) := by
        intro A o ha
        rw [AH.new_get] at ha
        split at ha
        · cases ha; rfl
        · exact hro A o ha
      refine ⟨ρ.put h.next ⟨blk, off, 0⟩, h.new (.row xs e false), _, hle, ⟨fun A o ha => ?_, fun A B o p r q h1 h2 _ _ _ how => ?_, fun A r hA => ?_⟩, hro', Sub.new hr.wf _, hvr, some ⟨h.next, 0, none⟩, _, cap, rfl, rfl, (fun q e => by cases e; rfl), .inr ⟨h.next, 0, .row xs e false, xs, rfl, by simp [AH.new_get], rfl, fun i x hi => by rw [Nat.zero_add]; exact hi⟩⟩
      · rw [AH.new_get] at ha
        split at ha
        · rename_i e'; cases ha; subst e'
          refine ⟨_, Ren.put_same _ _ _, cc, fr, hh, ?_, fun i x hi => ⟨x, hcc i x hi, ?_⟩, (fun hw => by cases hw), fun x hm => (hx x hm).1⟩
          · have := (Array.getElem?_eq_some_iff.1 (hcc _ _ (List.getElem?_eq_getElem hlast))).1
            simp only; omega
          · exact plain_VR _ 9 x (hx x (List.mem_of_getElem? hi)).2
        · obtain ⟨r, hq, hor⟩ := hr.obj A o ha
          exact ⟨r, hle _ _ hq, hor.move hle rfl⟩
      · rw [hro' A o h1, hro' B p h2] at how; simp at how
      · by_cases e : A = h.next
        · subst e; simp
        · rw [Ren.put_ne _ _ e] at hA; have := hr.dom A r hA; simp; omega

/-- A law of two slices: from the abstract heap to the world. -/
theorem law2 {P : Program} {g : FuncId} {W : World} {v1 v2 : Value} {xs ys : List Value} (h1 : InW W v1 xs) (h2 : InW W v2 ys) (hx : ∀ x ∈ xs, oneC x = true ∧ plain 9 x = true) (hy : ∀ x ∈ ys, oneC x = true ∧ plain 9 x = true)
    (hc : ∀ h u1 u2, SlOf h u1 xs → SlOf h u2 ys → ACall P g [u1, u2] h (fun r _ => r = .bool true)) :
    Calls P g #[v1, v2] W fun e W' => e = .returned (.bool true) ∧ Below W.heap.size W W' := by
  obtain ⟨ρ1, k1, u1, le1, hr1, ro1, _, vr1, s1⟩ := addArg (HR.empty W) (fun A o h => by cases h) h1 hx
  obtain ⟨ρ2, k2, u2, le2, hr2, ro2, sub2, vr2, s2⟩ := addArg hr1 ro1 h2 hy
  have hcall := (hc k2 u1 u2 (s1.sub sub2) s2).2 ρ2 #[v1, v2] W ((LR.single vr2).cons (vr1.mono le2)) hr2
  refine hcall.mono ?_
  rintro e W' ⟨ρ', v, v', h', rfl, rfl, hv, _, hf⟩
  have : v' = .bool true := plain_only 9 _ _ rfl hv
  subst this
  refine ⟨rfl, hf.side.os, hf.side.tape, hf.side.output, hf.size, fun b hb => hf.rest b hb ?_⟩
  rintro ⟨A, o, r, ha, hown, _⟩
  rw [ro2 A o ha] at hown; cases hown

end Go.Ab

namespace Go.Ab

section
variable {P : Program}

theorem g1 (b : Bool) : ((some b : Option Bool) == some false) = !b := by cases b <;> rfl
theorem g2 (b : Bool) : ((some b : Option Bool) == some true) = b := by cases b <;> rfl

theorem g3 (b : Bool) : ((none : Option Bool) == some b) = false := rfl

/-- The truth that a guard looks at. -/
def isB (v : Value) : Option Bool := match v with
  | .bool b => some b
  | _ => none
theorem isB_bool (b : Bool) : isB (.bool b) = some b := rfl
theorem isB_undef : isB undef = none := rfl
theorem yieldedA2 (ops : Array Oper) (a : AAct) (j : Nat) : yieldedA ops a j = match (ops[j]?).bind (·.dst) with
    | some t => if t < a.n then isB (a.tm t) else none
    | none => none := rfl

/-- One operation, behind its guard. -/
def stepM (P : Program) (ops : Array Oper) (N : AAct → AH → Prop) (o : Oper) (l : List Oper) (a : AAct) (h : AH) : Prop :=
  match o.op with
  | .call { callee := .value f, args, .. } => callR P (a.ev f) (args.toList.map a.ev) h (contK (opsM P ops N l) o.dst a)
  | .next it false => NextW (a.ev it) h (contK (opsM P ops N l) o.dst a)
  | op => match dop P a.ev op h with
    | some (v, h') => opsM P ops N l (a.put o.dst v) h'
    | none => False

def wantM (w : Bool) (P : Program) (ops : Array Oper) (N : AAct → AH → Prop) (o : Oper) (l : List Oper) (a : AAct) (h : AH) : Prop :=
  match w with
  | false => opsM P ops N l (a.put o.dst undef) h
  | true => stepM P ops N o l a h

def okM (k : Bool) (P : Program) (ops : Array Oper) (N : AAct → AH → Prop) (o : Oper) (l : List Oper) (a : AAct) (h : AH) : Prop :=
  match k with
  | false => False
  | true => wantM (Region.wanted o (yieldedA ops a)) P ops N o l a h

theorem okM_true {ops : Array Oper} {N : AAct → AH → Prop} {o : Oper} {l : List Oper} {a : AAct} {h : AH} : okM true P ops N o l a h = wantM (Region.wanted o (yieldedA ops a)) P ops N o l a h := rfl

theorem opsM_cons2 {ops : Array Oper} {N : AAct → AH → Prop} {o : Oper} {l : List Oper} {a : AAct} {h : AH} : opsM P ops N (o :: l) a h = okM (okB o a) P ops N o l a h := by
  rw [opsM_cons]
  cases okB o a
  · rfl
  · simp only [okM_true, wantM]
    cases Region.wanted o (yieldedA ops a)
    · rfl
    · simp only [stepM]
      obtain ⟨dst, op, ty, pos, after, guard⟩ := o
      cases op with
      | call c => obtain ⟨f, args, at'⟩ := c; cases f <;> rfl
      | next it b => cases b <;> rfl
      | _ => rfl

theorem wantM_true {ops : Array Oper} {N : AAct → AH → Prop} {o : Oper} {l : List Oper} {a : AAct} {h : AH} : wantM true P ops N o l a h = stepM P ops N o l a h := rfl
theorem wantM_false {ops : Array Oper} {N : AAct → AH → Prop} {o : Oper} {l : List Oper} {a : AAct} {h : AH} : wantM false P ops N o l a h = opsM P ops N l (a.put o.dst undef) h := rfl
theorem wantM_of {b : Bool} {ops : Array Oper} {N : AAct → AH → Prop} {o : Oper} {l : List Oper} {a : AAct} {h : AH} (ht : b = true → stepM P ops N o l a h) (hf : b = false → opsM P ops N l (a.put o.dst undef) h) : wantM b P ops N o l a h := by
  cases b
  · exact hf rfl
  · exact ht rfl
theorem wantM_not {b : Bool} {ops : Array Oper} {N : AAct → AH → Prop} {o : Oper} {l : List Oper} {a : AAct} {h : AH} (ht : b = true → opsM P ops N l (a.put o.dst undef) h) (hf : b = false → stepM P ops N o l a h) : wantM (!b) P ops N o l a h := by
  cases b
  · exact hf rfl
  · exact ht rfl

theorem ex_some0 {α : Type} {x : α} : (∃ v, some x = some v) = True := by simp
/-- Both; the second unapplied, so that it is looked at once. -/
def andK (A : Prop) (F : AAct → AH → Prop) (a : AAct) (h : AH) : Prop := A ∧ F a h
theorem andK_true {F : AAct → AH → Prop} {a : AAct} {h : AH} : andK True F a h = F a h := by simp [andK]

theorem wpA_cond2 {rd : Option Nat} {Q : Exit → AAct → AH → Prop} {a : AAct} {h : AH} {c : Operand} {x y : Code} : wpA P rd (.cond c x y) Q a h = andK (cOK c = true) (condV (a.ev c) (wpA P rd x Q) (wpA P rd y Q)) a h := rfl

theorem condV_not {b : Bool} {F G : AAct → AH → Prop} {a : AAct} {h : AH} (hf : b = false → F a h) (ht : b = true → G a h) : condV (.bool (!b)) F G a h := by
  cases b
  · exact hf rfl
  · exact ht rfl
theorem closeMarks_nil (h : AH) : closeMarks [] h = some h := rfl
theorem bodyR_ret2 {rs : List ResultVar} {K : Value → AH → Prop} {a : AAct} {h : AH} : bodyR P rs K .ret a h = ∃ h', closeMarks a.df h = some h' ∧ ∃ vs, resL P a.tm h' rs = some vs ∧ K (resV vs) h' := by
  apply propext
  constructor
  · rintro ⟨_, h', vs, e, x, y⟩; exact ⟨h', e, vs, x, y⟩
  · rintro ⟨h', e, vs, x, y⟩; exact ⟨.inr rfl, h', vs, e, x, y⟩
theorem bodyR_normal2 {rs : List ResultVar} {K : Value → AH → Prop} {a : AAct} {h : AH} : bodyR P rs K .normal a h = ∃ h', closeMarks a.df h = some h' ∧ ∃ vs, resL P a.tm h' rs = some vs ∧ K (resV vs) h' := by
  apply propext
  constructor
  · rintro ⟨_, h', vs, e, x, y⟩; exact ⟨h', e, vs, x, y⟩
  · rintro ⟨h', e, vs, x, y⟩; exact ⟨.inl rfl, h', vs, e, x, y⟩

/-! ### Drawn regions -/

def stepS (P : Program) (ops : Array Oper) (N : AAct → AH → Prop) (k : Nat) (o : Oper) (l : List (Nat × Oper)) (R : List (Oper × Value)) (a : AAct) (h : AH) : Prop :=
  match k with
  | 0 => (match dop P a.ev o.op h with
    | some (v, h') => andK (h' = h) (seqM P ops N l R) (a.put o.dst v) h
    | none => False)
  | 1 => (match dop P a.ev o.op h with
    | some (v, h') => andK (h' = h) (seqM P ops N l ((o, v) :: R)) (a.put o.dst v) h
    | none => False)
  | _ => match o.op with
    | .call { callee := .value f, args, .. } => callR P (a.ev f) (args.toList.map a.ev) h (contK (fun a h => andK (Keeps P ops R a h) (seqM P ops N l R) a h) o.dst a)
    | .next it false => NextW (a.ev it) h (contK (fun a h => andK (Keeps P ops R a h) (seqM P ops N l R) a h) o.dst a)
    | op => match dop P a.ev op h with
      | some (v, h') => andK (Keeps P ops R (a.put o.dst v) h') (seqM P ops N l R) (a.put o.dst v) h'
      | none => False

def skipS (P : Program) (ops : Array Oper) (N : AAct → AH → Prop) (k : Nat) (o : Oper) (l : List (Nat × Oper)) (R : List (Oper × Value)) (a : AAct) (h : AH) : Prop :=
  match k with
  | 0 => seqM P ops N l R (a.put o.dst undef) h
  | 1 => seqM P ops N l ((o, undef) :: R) (a.put o.dst undef) h
  | _ => andK (Keeps P ops R (a.put o.dst undef) h) (seqM P ops N l R) (a.put o.dst undef) h

def wantS (w : Bool) (P : Program) (ops : Array Oper) (N : AAct → AH → Prop) (k : Nat) (o : Oper) (l : List (Nat × Oper)) (R : List (Oper × Value)) (a : AAct) (h : AH) : Prop :=
  match w with
  | false => skipS P ops N k o l R a h
  | true => stepS P ops N k o l R a h

def okS (b : Bool) (P : Program) (ops : Array Oper) (N : AAct → AH → Prop) (k : Nat) (o : Oper) (l : List (Nat × Oper)) (R : List (Oper × Value)) (a : AAct) (h : AH) : Prop :=
  match b with
  | false => False
  | true => wantS (Region.wanted o (yieldedA ops a)) P ops N k o l R a h

theorem okS_true {ops : Array Oper} {N : AAct → AH → Prop} {k : Nat} {o : Oper} {l : List (Nat × Oper)} {R : List (Oper × Value)} {a : AAct} {h : AH} : okS true P ops N k o l R a h = wantS (Region.wanted o (yieldedA ops a)) P ops N k o l R a h := rfl
theorem seqM_nil2 {ops : Array Oper} {N : AAct → AH → Prop} {R : List (Oper × Value)} {a : AAct} {h : AH} : seqM P ops N [] R a h = N a h := rfl
theorem seqM_cons2 {ops : Array Oper} {N : AAct → AH → Prop} {k : Nat} {o : Oper} {l : List (Nat × Oper)} {R : List (Oper × Value)} {a : AAct} {h : AH} :
    seqM P ops N ((k, o) :: l) R a h = okS (okB o a) P ops N k o l R a h := by
  cases hk : okB o a
  · simp [seqM, hk, okS]
  · simp only [seqM, hk, okS_true, wantS]
    rcases k with _ | _ | k
    · cases Region.wanted o (yieldedA ops a) <;> rfl
    · cases Region.wanted o (yieldedA ops a) <;> rfl
    · cases Region.wanted o (yieldedA ops a)
      · rfl
      · simp only [stepS]
        obtain ⟨dst, op, ty, pos, after, guard⟩ := o
        cases op with
        | call c => obtain ⟨f, args, at'⟩ := c; cases f <;> rfl
        | next it b => cases b <;> rfl
        | _ => rfl

theorem wantS_true {ops : Array Oper} {N : AAct → AH → Prop} {k : Nat} {o : Oper} {l : List (Nat × Oper)} {R : List (Oper × Value)} {a : AAct} {h : AH} : wantS true P ops N k o l R a h = stepS P ops N k o l R a h := rfl
theorem wantS_false {ops : Array Oper} {N : AAct → AH → Prop} {k : Nat} {o : Oper} {l : List (Nat × Oper)} {R : List (Oper × Value)} {a : AAct} {h : AH} : wantS false P ops N k o l R a h = skipS P ops N k o l R a h := rfl
theorem wantS_of {b : Bool} {ops : Array Oper} {N : AAct → AH → Prop} {k : Nat} {o : Oper} {l : List (Nat × Oper)} {R : List (Oper × Value)} {a : AAct} {h : AH} (ht : b = true → stepS P ops N k o l R a h) (hf : b = false → skipS P ops N k o l R a h) : wantS b P ops N k o l R a h := by
  cases b
  · exact hf rfl
  · exact ht rfl
theorem wantS_not {b : Bool} {ops : Array Oper} {N : AAct → AH → Prop} {k : Nat} {o : Oper} {l : List (Nat × Oper)} {R : List (Oper × Value)} {a : AAct} {h : AH} (ht : b = true → skipS P ops N k o l R a h) (hf : b = false → stepS P ops N k o l R a h) : wantS (!b) P ops N k o l R a h := by
  cases b
  · exact hf rfl
  · exact ht rfl

theorem Keeps_cons {ops : Array Oper} {o : Oper} {v : Value} {R : List (Oper × Value)} {a : AAct} {h : AH} : Keeps P ops ((o, v) :: R) a h = (Still P ops o v a h ∧ Keeps P ops R a h) := by
  apply propext
  constructor
  · intro k; exact ⟨k (o, v) (by simp), fun p hp => k p (by simp [hp])⟩
  · rintro ⟨k1, k2⟩ p hp
    rcases List.mem_cons.1 hp with rfl | hp
    · exact k1
    · exact k2 p hp
theorem Still_eq {ops : Array Oper} {o : Oper} {v : Value} {a : AAct} {h : AH} : Still P ops o v a h = (okB o a = true ∧ if Region.wanted o (yieldedA ops a) = true then dop P a.ev o.op h = some (v, h) else v = undef) := by
  apply propext
  constructor
  · rintro ⟨h1, h2, h3⟩
    refine ⟨?_, h3⟩
    simp only [okB, h1, Bool.true_and]
    cases hd : o.dst with
    | none => rfl
    | some t => rw [hd] at h2; exact decide_eq_true h2
  · rintro ⟨h1, h3⟩
    exact ⟨(okB_spec h1).1, (okB_spec h1).2, h3⟩

/-- Some of the operations, by their places, with the way each is taken. -/
def op0 : Oper := { dst := none, op := .move (.const (.bool false)), type := 0, pos := "", after := #[], guard := none }
def selL (ops : List Oper) : List (Nat × Nat) → List (Nat × Oper)
  | [] => []
  | (k, i) :: r => (k, ops.getD i op0) :: selL ops r

/-- A drawn region, by a plan of any order. -/
theorem AW.drawP {rd : Option Nat} {id : Nat} {ops : Array Oper} {Q : Exit → AAct → AH → Prop} {a : AAct} {h : AH} (p : Plan) (ix : List (Nat × Nat)) (hm : P.follows .mixedOrders = true)
    (hp : (planOK ops (Array.replicate ops.size false) [] p && decide (p.len ≤ ops.size)) = true) (hk : planK ops p = some (selL ops.toList ix))
    (hx : seqM P ops (Q .normal) (selL ops.toList ix) [] a h) : AW P rd (.region id ops true) Q a h := by
  rw [Bool.and_eq_true] at hp
  exact AW.plan p hm hp.1 (of_decide_eq_true hp.2) (seqM_sound p _ [] a h hk hx)

/-! ### Loops -/

/-- The temporaries that a loop leaves: those below 'lo', but for X. -/
def Kp (lo : Nat) (X : List Nat) (a0 a : AAct) : Prop := a.n = a0.n ∧ a.df = a0.df ∧ ∀ i, i < lo → i ∉ X → a.tm i = a0.tm i

theorem Kp.refl (lo : Nat) (X : List Nat) (a : AAct) : Kp lo X a a := ⟨rfl, rfl, fun _ _ _ => rfl⟩
theorem Kp.put {lo : Nat} {X : List Nat} {a0 a : AAct} (h : Kp lo X a0 a) {t : Tmp} {v : Value} (ht : (decide (lo ≤ t) || X.contains t) = true) : Kp lo X a0 (a.put (some t) v) := by
  refine ⟨h.1, h.2.1, fun i hi hx => ?_⟩
  rw [put_tm, if_neg]
  · exact h.2.2 i hi hx
  · rintro rfl
    simp at ht
    rcases ht with ht | ht
    · omega
    · exact hx ht
theorem Kp_put {lo : Nat} {X : List Nat} {a0 a : AAct} {t : Tmp} {v : Value} (ht : (decide (lo ≤ t) || X.contains t) = true) : Kp lo X a0 (a.put (some t) v) = Kp lo X a0 a := by
  apply propext
  constructor
  · intro h
    refine ⟨h.1, (put_df a (some t) v).symm.trans h.2.1, fun i hi hx => ?_⟩
    have := h.2.2 i hi hx
    rw [put_tm, if_neg] at this
    · exact this
    · rintro rfl
      simp at ht
      rcases ht with ht | ht
      · omega
      · exact hx ht
  · exact fun h => h.put ht
theorem Kp.none {lo : Nat} {X : List Nat} {a0 a : AAct} (h : Kp lo X a0 a) {v : Value} : Kp lo X a0 (a.put none v) := h
theorem Kp.trans {lo lo' : Nat} {X X' : List Nat} {a0 a1 a : AAct} (h : Kp lo X a0 a1) (g : Kp lo' X' a1 a) (hl : lo ≤ lo') (hX : ∀ i ∈ X', i < lo → i ∈ X) : Kp lo X a0 a :=
  ⟨g.1.trans h.1, g.2.1.trans h.2.1, fun i hi hx => (g.2.2 i (by omega) (fun hm => hx (hX i hm hi))).trans (h.2.2 i hi hx)⟩
theorem Kp.n {lo : Nat} {X : List Nat} {a0 a : AAct} (h : Kp lo X a0 a) : a.n = a0.n := h.1
theorem Kp.df {lo : Nat} {X : List Nat} {a0 a : AAct} (h : Kp lo X a0 a) : a.df = a0.df := h.2.1
theorem Kp.tm {lo : Nat} {X : List Nat} {a0 a : AAct} (h : Kp lo X a0 a) : ∀ i, i < lo → i ∉ X → a.tm i = a0.tm i := h.2.2

/-- Behind a round. -/
def loopQ (lo : Nat) (X : List Nat) (a0 : AAct) (I : Nat → AAct → AH → Prop) (m : Nat) (a : AAct) (h : AH) : Prop := ∃ m', m' < m ∧ Kp lo X a0 a ∧ I m' a h

theorem AW.loopK {rd : Option Nat} {c : Code} {Q : Exit → AAct → AH → Prop} {a0 : AAct} {h : AH} (lo : Nat) (X : List Nat) (I : Nat → AAct → AH → Prop) (m : Nat) (h0 : I m a0 h)
    (round : ∀ m a h, Kp lo X a0 a → I m a h → wpA P rd c (thenQ (loopQ lo X a0 I m) Q) a h) : AW P rd (.loop c) Q a0 h := by
  refine AW.loop (fun m a h => Kp lo X a0 a ∧ I m a h) m ⟨Kp.refl _ _ _, h0⟩ ?_
  rintro m a h ⟨hk, hI⟩
  refine AW.mono ?_ (wpA_sound _ _ _ _ (round m a h hk hI))
  intro e a h hq
  cases e with
  | normal => obtain ⟨m', h1, h2, h3⟩ := hq; exact ⟨m', h1, h2, h3⟩
  | _ => exact hq

/-- The same; the state at the loop's head stays a name. -/
theorem AW.loopN {rd : Option Nat} {c : Code} {Q : Exit → AAct → AH → Prop} {a0 : AAct} {h : AH} (lo : Nat) (X : List Nat) (I : Nat → AAct → AH → Prop) (m : Nat) (h0 : I m a0 h)
    (round : ∀ a1 m a h, Kp lo X a1 a → a.n = a0.n → a.df = a0.df → (∀ i, i < lo → i ∉ X → a.tm i = a0.tm i) → I m a h → wpA P rd c (thenQ (loopQ lo X a1 I m) Q) a h) : AW P rd (.loop c) Q a0 h :=
  AW.loopK lo X I m h0 fun m a h hk hI => round a0 m a h hk hk.1 hk.2.1 hk.2.2 hI

/-! ### Numbers -/

theorem ieq (a b : Int) : (a == b) = decide (a = b) := by
  by_cases h : a = b <;> simp [h]
theorem ine (a b : Int) : (a != b) = !decide (a = b) := by
  by_cases h : a = b <;> simp [h]

theorem wrapI {x : Int} (h0 : -9223372036854775808 ≤ x) (h1 : x < 9223372036854775808) : IntKind.i64.wrap x = x := Go.IntWalk.i64_in _ (by omega)

/-! ### Slices, read -/

/-- The address of a slice's element. -/
def slAt (sz : Nat) (v : Value) (i : Nat) : Value :=
  match v with
  | .slice (some ⟨A, off, none⟩) _ _ => .pointer (some ⟨A, off + i * sz, none⟩)
  | _ => undef

theorem SlOf.idx {h : AH} {v : Value} {vs : List Value} (hs : SlOf h v vs) {t e : TypeId} (ht : Sl1 P t e) : ∀ (k : IntKind) (n : Int), 0 ≤ n → n < vs.length → aIndexAddr P t v (.int k n) = some (slAt 1 v n.toNat) := by
  intro k n h0 hn
  obtain ⟨p, l, c, rfl, rfl, hsp, hcs⟩ := hs
  rcases hcs with rfl | ⟨A, off, o, cs, rfl, hg, hc, hall⟩
  · simp at hn; omega
  · obtain ⟨ie, hi, h1⟩ := ht.one
    simp only [aIndexAddr, ht.sl, hi]
    rw [if_pos ⟨by omega, by omega⟩, h1]; rfl

theorem SlOf.ld {h : AH} {v : Value} {vs : List Value} (hs : SlOf h v vs) {t e : TypeId} (ht : Sl1 P t e) : ∀ (n : Nat), n < vs.length → aLoad P e (slAt 1 v n) h = some (vs.getD n undef) := by
  intro n hn
  obtain ⟨p, l, c, rfl, rfl, hsp, hcs⟩ := hs
  rcases hcs with rfl | ⟨A, off, o, cs, rfl, hg, hc, hall⟩
  · simp at hn
  · obtain ⟨d, hd, hagg⟩ := ht.flat
    simp only [slAt, aLoad, hg, Option.bind_some, hc, hd, hagg, Bool.false_eq_true, if_false, Nat.mul_one]
    rw [hall n vs[n] (List.getElem?_eq_getElem hn)]
    simp [List.getD_eq_getElem?_getD, hn]

/-- Slices of integers. -/
theorem SlOf.idxI {h : AH} {v : Value} {zs : List Int} {k0 : IntKind} (hs : SlOf h v (zs.map (.int k0))) {t e : TypeId} (ht : Sl1 P t e) : ∀ (k : IntKind) (n : Int), 0 ≤ n → n < zs.length → aIndexAddr P t v (.int k n) = some (slAt 1 v n.toNat) :=
  fun k n h0 hn => hs.idx ht k n h0 (by simpa using hn)
theorem SlOf.ldI {h : AH} {v : Value} {zs : List Int} {k0 : IntKind} (hs : SlOf h v (zs.map (.int k0))) {t e : TypeId} (ht : Sl1 P t e) : ∀ (n : Nat), n < zs.length → aLoad P e (slAt 1 v n) h = some (.int k0 (zs.getD n 0)) := by
  intro n hn
  rw [hs.ld ht n (by simpa using hn)]
  simp [List.getD_eq_getElem?_getD, hn]
theorem SlOf.idxB {h : AH} {v : Value} {bs : List Bool} (hs : SlOf h v (bs.map .bool)) {t e : TypeId} (ht : Sl1 P t e) : ∀ (k : IntKind) (n : Int), 0 ≤ n → n < bs.length → aIndexAddr P t v (.int k n) = some (slAt 1 v n.toNat) :=
  fun k n h0 hn => hs.idx ht k n h0 (by simpa using hn)
theorem SlOf.ldB {h : AH} {v : Value} {bs : List Bool} (hs : SlOf h v (bs.map .bool)) {t e : TypeId} (ht : Sl1 P t e) : ∀ (n : Nat), n < bs.length → aLoad P e (slAt 1 v n) h = some (.bool (bs.getD n false)) := by
  intro n hn
  rw [hs.ld ht n (by simpa using hn)]
  simp [List.getD_eq_getElem?_getD, hn]
theorem SlOf.lenM {h : AH} {v : Value} {α : Type} {f : α → Value} {xs : List α} (hs : SlOf h v (xs.map f)) {t e : TypeId} (ht : P.underlying t = some (.slice e)) : aLen P t v h = some (.int .i64 xs.length) := by
  rw [hs.len ht]; simp

/-! ### Rows of one's own -/

theorem lenS {t e : TypeId} (ht : P.underlying t = some (.slice e)) : ∀ (p : Option Addr) (n c : Nat) (h : AH), aLen P t (.slice p n c) h = some (.int .i64 n) := by
  intro p n c h
  simp only [aLen, ht]
theorem SlOf.lit {h : AH} {A cap n : Nat} {o : AObj} {vs : List Value} (hg : h.get A = some o) (ho : o.cells? = some vs) (hn : n = vs.length) : SlOf h (.slice (some ⟨A, 0, none⟩) n cap) vs :=
  ⟨_, _, _, rfl, hn, (fun q x => by cases x; rfl), .inr ⟨A, 0, o, vs, rfl, hg, ho, fun i x hx => by rw [Nat.zero_add]; exact hx⟩⟩

theorem idxL {t e : TypeId} (ht : Sl1 P t e) : ∀ (A off len cap : Nat) (k : IntKind) (n : Int), 0 ≤ n → n < len → aIndexAddr P t (.slice (some ⟨A, off, none⟩) len cap) (.int k n) = some (.pointer (some ⟨A, off + n.toNat, none⟩)) := by
  intro A off len cap k n h0 hn
  obtain ⟨ie, hi, h1⟩ := ht.one
  simp only [aIndexAddr, ht.sl, hi]
  rw [if_pos ⟨h0, hn⟩, h1, Nat.mul_one]

theorem ldRow {t e : TypeId} (ht : Sl1 P t e) {h : AH} {A : Nat} {o : AObj} {α : Type} {f : α → Value} {xs : List α} (d : α) (hg : h.get A = some o) (ho : o.cells? = some (xs.map f)) : ∀ (i : Nat), i < xs.length → aLoad P e (.pointer (some ⟨A, i, none⟩)) h = some (f (xs.getD i d)) := by
  intro i hi
  obtain ⟨D, hd, hagg⟩ := ht.flat
  simp only [aLoad, hg, Option.bind_some, ho, hd, hagg, Bool.false_eq_true, if_false]
  simp [List.getD_eq_getElem?_getD, hi]

theorem stRow {t e : TypeId} (ht : Sl1 P t e) {h : AH} {A : Nat} {α : Type} {f : α → Value} {xs : List α} (hg : h.get A = some (.row (xs.map f) e true)) (hf : ∀ x, (f x).cells.toList = [f x] ∧ oneC (f x) = true) : ∀ (i : Nat) (x : α), i < xs.length →
    aStore P e (.pointer (some ⟨A, i, none⟩)) (f x) h = some (h.set A (.row ((xs.set i x).map f) e true)) := by
  intro i x hi
  obtain ⟨ie, hie, h1⟩ := ht.one
  obtain ⟨hx, ho1⟩ := hf x
  have hc : (f x).cells.size = 1 := by
    have := congrArg List.length hx
    simpa using this
  have hle : i + 1 ≤ xs.length := hi
  simp only [aStore, hie, hc, h1, hx, List.all_cons, List.all_nil, ho1, Bool.and_self, and_self, if_true, hg, AObj.setCells]
  simp [setL, hle, List.map_set]

theorem one_bool : ∀ b : Bool, (Value.bool b).cells.toList = [Value.bool b] ∧ oneC (Value.bool b) = true := fun _ => ⟨rfl, rfl⟩
theorem one_int (k : IntKind) : ∀ b : Int, (Value.int k b).cells.toList = [Value.int k b] ∧ oneC (Value.int k b) = true := fun _ => ⟨rfl, rfl⟩

/-! ### The heap's view, and what grows -/

theorem SlOf.view {h : AH} {v : Value} {vs : List Value} (hs : SlOf h v vs) : SlOf (AH.view h) v vs := by
  obtain ⟨p, l, c, rfl, rfl, hsp, hcs⟩ := hs
  refine ⟨p, _, c, rfl, rfl, hsp, ?_⟩
  rcases hcs with e | ⟨A, off, o, cs, rfl, hg, hc, hall⟩
  · exact .inl e
  · cases o with
    | row c e wr => exact .inr ⟨A, off, .row c e false, cs, rfl, by simp [AH.view, hg, AObj.view], hc, hall⟩
    | grow c e => exact .inr ⟨A, off, .row c e false, cs, rfl, by simp [AH.view, hg, AObj.view], hc, hall⟩
    | _ => simp [AObj.cells?] at hc

/-- Nothing but the blocks of X changes. -/
def FrX (X : List Nat) (h h' : AH) : Prop := ∀ A o, h.get A = some o → A ∉ X → h'.get A = some o

theorem Sub.frx {h0 h h' : AH} {X : List Nat} (hs : Sub h0 h) (hf : FrX X h h') (hX : ∀ B ∈ X, h0.get B = none) : Sub h0 h' :=
  fun A o ha => hf A o (hs A o ha) (fun hm => by rw [hX A hm] at ha; cases ha)
theorem Sub.set {h0 h : AH} (hs : Sub h0 h) {A : Nat} (hA : h0.get A = none) (o : AObj) : Sub h0 (h.set A o) := by
  intro B p hB
  rw [AH.set_get, if_neg]
  · exact hs B p hB
  · rintro rfl; rw [hA] at hB; cases hB
theorem Sub.trans {h0 h h' : AH} (a : Sub h0 h) (b : Sub h h') : Sub h0 h' := fun A o x => b A o (a A o x)
theorem Sub.refl (h : AH) : Sub h h := fun _ _ x => x

theorem AH.get_lt {h : AH} (hw : WFH h) {A : Nat} {o : AObj} (hg : h.get A = some o) : A < h.next := by
  apply Classical.byContradiction
  intro hn
  rw [hw A (by omega)] at hg; cases hg

theorem WFH.new {h : AH} (hw : WFH h) (o : AObj) : WFH (h.new o) := by
  intro A hA
  simp only [AH.new_next] at hA
  rw [AH.new_get, if_neg (by omega)]
  exact hw A (by omega)
theorem WFH.set {h : AH} (hw : WFH h) {A : Nat} (hA : A < h.next) (o : AObj) : WFH (h.set A o) := by
  intro B hB
  simp only [AH.set_next] at hB
  rw [AH.set_get, if_neg (by omega)]
  exact hw B hB
theorem WFH.del {h : AH} (hw : WFH h) (A : Nat) : WFH (h.del A) := by
  intro B hB
  simp only [AH.del_next] at hB
  rw [AH.del_get]; split
  · rfl
  · exact hw B hB

/-- A slice of one's own that is appended to: nil, or the whole of a growing row. 'B' is its row. -/
def OwnSl (e : TypeId) (h : AH) (v : Value) (B : Nat) (vs : List Value) : Prop :=
  (vs = [] ∧ v = .slice none 0 0) ∨ (vs ≠ [] ∧ v = .slice (some ⟨B, 0, none⟩) vs.length (SL + 1) ∧ h.get B = some (.grow vs e))

theorem OwnSl.sl {e : TypeId} {h : AH} {v : Value} {B : Nat} {vs : List Value} (ho : OwnSl e h v B vs) : SlOf h v vs := by
  rcases ho with ⟨rfl, rfl⟩ | ⟨_, rfl, hg⟩
  · exact ⟨none, 0, 0, rfl, rfl, (fun q x => by cases x), .inl rfl⟩
  · exact ⟨_, _, _, rfl, rfl, (fun q x => by cases x; rfl), .inr ⟨B, 0, _, _, rfl, hg, rfl, fun i x hx => by rw [Nat.zero_add]; exact hx⟩⟩

theorem OwnSl.keep {e : TypeId} {h h' : AH} {v : Value} {B : Nat} {vs : List Value} (ho : OwnSl e h v B vs) (hg : vs ≠ [] → h'.get B = h.get B) : OwnSl e h' v B vs := by
  rcases ho with ⟨rfl, rfl⟩ | ⟨hn, rfl, h1⟩
  · exact .inl ⟨rfl, rfl⟩
  · exact .inr ⟨hn, rfl, (hg hn).trans h1⟩

theorem OwnSl.nil (e : TypeId) (h : AH) (B : Nat) : OwnSl e h (.slice none 0 0) B [] := .inl ⟨rfl, rfl⟩

/-- The slice of one element that append is handed. -/
theorem aBuild1 {t e : TypeId} {B : Nat} {z : Value} (ht : SlT P t e B z) (h : AH) {x : Value} (hx : x.cells.toList = [x]) (ho : oneC x = true) :
    aBuildSlice P t 1 [(0, x)] h = some (.slice (some ⟨h.next, 0, none⟩) 1 1, h.new (.row [x] e true)) := by
  obtain ⟨i, hi, h1, hb, hz⟩ := ht.info
  have hc : z.cells.size = 1 := by
    have := congrArg List.length ht.zc
    simpa using this
  have hx1 : x.cells.size = 1 := by
    have := congrArg List.length hx
    simpa using this
  simp only [aBuildSlice, ht.sl, hi, hz, h1, ht.zp, hc, fillL, ht.zc, zeros_one]
  simp [SL, hx, hx1, setL, ho, List.replicate]

/-- What an append of one element makes of the heap. -/
def app1H (e : TypeId) (h : AH) (v x : Value) (vs : List Value) : AH :=
  match v with
  | .slice (some ⟨B, _, _⟩) _ _ => ((h.new (.row [x] e true)).del B).new (.grow (vs ++ [x]) e)
  | _ => (h.new (.row [x] e true)).new (.grow (vs ++ [x]) e)

theorem aAppend1 {t e : TypeId} {B : Nat} {z : Value} (ht : SlT P t e B z) {h : AH} (hw : WFH h) {v x : Value} {A : Nat} {vs : List Value} (ho : OwnSl e h v A vs) (hb : (2 * vs.length + 194) * B ≤ 281474976710656) (hm : vs.length < 4611686018427387903) :
    aAppend P #[t, t] v (.slice (some ⟨h.next, 0, none⟩) 1 1) (h.new (.row [x] e true)) = some (.slice (some ⟨h.next + 1, 0, none⟩) (vs.length + 1) (SL + 1), app1H e h v x vs) := by
  obtain ⟨i, hi, h1, hbb, hzz⟩ := ht.info
  have hc : z.cells.size = 1 := by
    have := congrArg List.length ht.zc
    simpa using this
  have hsrc : srcCells 1 (.slice (some ⟨h.next, 0, none⟩) 1 1) (h.new (.row [x] e true)) = some (1, [x]) := by
    simp [srcCells, AH.new_get, AObj.cells?]
  rcases ho with ⟨rfl, rfl⟩ | ⟨hn, rfl, hg⟩
  · simp only [List.length_nil] at hb
    have hb' : (2 * 1 + 192) * B ≤ 281474976710656 := by omega
    simp [aAppend, ht.sl, hi, hzz, h1, hc, isIntT, hsrc, hbb, hb', ML, app1H, ht.zk]
  · have hA : A < h.next := AH.get_lt hw hg
    have hb' : (2 * (vs.length + 1) + 192) * B ≤ 281474976710656 := by
      have : 2 * (vs.length + 1) + 192 = 2 * vs.length + 194 := by omega
      rw [this]; exact hb
    have hm' : vs.length + 1 < 4611686018427387904 := by omega
    have hne : A ≠ h.next := by omega
    have hcap : ¬ (SL + 1 < SL) := by omega
    simp only [aAppend, ht.sl, hi, hzz, h1, hc, isIntT, hsrc, hbb, AH.new_get, if_neg hne, hg, ML, app1H, List.getElem?_toArray, List.getElem?_cons_zero, List.getElem?_cons_succ, if_neg hcap, Nat.mul_one, Nat.zero_add, Nat.le_refl, hb', hm', List.drop_zero, List.take_length, AH.new_next, ht.zk]
    simp

theorem app1_next {e : TypeId} {h : AH} {v x : Value} {vs : List Value} : (app1H e h v x vs).next = h.next + 2 := by
  unfold app1H; split <;> simp
theorem app1_wf {e : TypeId} {h : AH} {v x : Value} {vs : List Value} (hw : WFH h) : WFH (app1H e h v x vs) := by
  unfold app1H; split
  · exact (((hw.new _).del _).new _)
  · exact ((hw.new _).new _)
theorem app1_own {e : TypeId} {h : AH} {v x : Value} {vs : List Value} : OwnSl e (app1H e h v x vs) (.slice (some ⟨h.next + 1, 0, none⟩) (vs.length + 1) (SL + 1)) (h.next + 1) (vs ++ [x]) := by
  refine .inr ⟨by simp, by simp, ?_⟩
  unfold app1H; split <;> simp [AH.new_get]
theorem app1_frx {e : TypeId} {h : AH} {v x : Value} {A : Nat} {vs : List Value} (hw : WFH h) (ho : OwnSl e h v A vs) : FrX (if vs = [] then [] else [A]) h (app1H e h v x vs) := by
  intro C o hC hX
  have hlt := AH.get_lt hw hC
  rcases ho with ⟨rfl, rfl⟩ | ⟨hn, rfl, hg⟩
  · show ((h.new (.row [x] e true)).new _).get C = _
    rw [AH.new_get, if_neg (by simp; omega), AH.new_get, if_neg (by omega)]; exact hC
  · rw [if_neg hn] at hX
    have hne : C ≠ A := fun x => hX (by simp [x])
    show (((h.new (.row [x] e true)).del A).new _).get C = _
    rw [AH.new_get, if_neg (by simp; omega), AH.del_get, if_neg hne, AH.new_get, if_neg (by omega)]; exact hC

/-- A heap that has grown out of another one. -/
structure Gr (h0 h : AH) : Prop where
  wf : WFH h
  sub : Sub h0 h
  nx : h0.next ≤ h.next

theorem Gr.refl {h : AH} (hw : WFH h) : Gr h h := ⟨hw, Sub.refl h, Nat.le_refl _⟩
theorem Gr.trans {a b c : AH} (x : Gr a b) (y : Gr b c) : Gr a c := ⟨y.wf, x.sub.trans y.sub, Nat.le_trans x.nx y.nx⟩
theorem Gr.new {h0 h : AH} (g : Gr h0 h) (o : AObj) : Gr h0 (h.new o) := ⟨g.wf.new o, g.sub.trans (Sub.new g.wf o), Nat.le_succ_of_le g.nx⟩
theorem Gr.set {h0 h : AH} (g : Gr h0 h) (w0 : WFH h0) {A : Nat} (hA : h0.next ≤ A) (hlt : A < h.next) (o : AObj) : Gr h0 (h.set A o) := ⟨g.wf.set hlt o, g.sub.set (w0 A hA) o, g.nx⟩
theorem Gr.fresh {h0 h : AH} (g : Gr h0 h) (w0 : WFH h0) : h0.get h.next = none := w0 _ g.nx

/-- A slice of one's own, laid since h0. -/
def FrSl (e : TypeId) (h0 h : AH) (v : Value) (vs : List Value) : Prop := ∃ B, OwnSl e h v B vs ∧ (vs ≠ [] → h0.next ≤ B)

theorem FrSl.nil (e : TypeId) (h0 h : AH) : FrSl e h0 h (.slice none 0 0) [] := ⟨0, OwnSl.nil e h 0, fun h => absurd rfl h⟩
theorem FrSl.sl {e : TypeId} {h0 h : AH} {v : Value} {vs : List Value} (ho : FrSl e h0 h v vs) : SlOf h v vs := let ⟨_, h, _⟩ := ho; h.sl

def app1V (h : AH) (n : Nat) : Value := .slice (some ⟨h.next + 1, 0, none⟩) (n + 1) (SL + 1)

theorem app1 {t e : TypeId} {B : Nat} {z : Value} (ht : SlT P t e B z) {h0 h : AH} (g : Gr h0 h) {v : Value} {vs : List Value} (ho : FrSl e h0 h v vs) (hb : (2 * vs.length + 194) * B ≤ 281474976710656) (hm : vs.length < 4611686018427387903) (x : Value) :
    aAppend P #[t, t] v (.slice (some ⟨h.next, 0, none⟩) 1 1) (h.new (.row [x] e true)) = some (app1V h vs.length, app1H e h v x vs) := by
  obtain ⟨A, ho, _⟩ := ho
  exact aAppend1 ht g.wf ho hb hm
theorem app1_gr {e : TypeId} {h0 h : AH} (w0 : WFH h0) (g : Gr h0 h) {v x : Value} {vs : List Value} (ho : FrSl e h0 h v vs) : Gr h0 (app1H e h v x vs) := by
  obtain ⟨A, ho, hf⟩ := ho
  refine ⟨app1_wf g.wf, g.sub.frx (app1_frx g.wf ho) ?_, by rw [app1_next]; have := g.nx; omega⟩
  intro B hB
  split at hB
  · simp at hB
  · rename_i hn
    simp at hB; subst hB
    exact w0 _ (hf hn)
theorem app1_fr {e : TypeId} {h0 h : AH} (g : Gr h0 h) {v x : Value} {vs : List Value} : FrSl e h0 (app1H e h v x vs) (app1V h vs.length) (vs ++ [x]) :=
  ⟨_, app1_own, fun _ => by have := g.nx; omega⟩

end
end Go.Ab

namespace Go.Ab

section
variable {P : Program}

/-- A kind of elements: their cells, and what these tell. -/
structure Lay (α : Type) where
  sz : Nat
  pos : 0 < sz
  rel : AH → List Value → α → Prop
  mono : ∀ {h h' : AH} {cs : List Value} {x : α}, Sub h h' → rel h cs x → rel h' cs x
  view : ∀ {h : AH} {cs : List Value} {x : α}, rel h cs x → rel (AH.view h) cs x
  len : ∀ {h : AH} {cs : List Value} {x : α}, rel h cs x → cs.length = sz
  one : ∀ {h : AH} {cs : List Value} {x : α}, rel h cs x → ∀ v ∈ cs, oneC v = true

/-- A slice whose elements are of a kind. -/
def RowOf {α : Type} (L : Lay α) (h : AH) (v : Value) (xs : List α) : Prop :=
  ∃ p l c, v = .slice p l c ∧ l = xs.length ∧ ((∀ q, p = some q → q.spot = none) ∧ l ≤ c ∧ (c < SL ∨ c = SL + L.sz)) ∧ (xs = [] ∨ ∃ A off o cs, p = some ⟨A, off, none⟩ ∧ h.get A = some o ∧ o.cells? = some cs ∧
    ∀ (i : Nat) (x : α), xs[i]? = some x → L.rel h ((cs.drop (off + i * L.sz)).take L.sz) x)

theorem RowOf.sub {α : Type} {L : Lay α} {h h' : AH} {v : Value} {xs : List α} (hs : RowOf L h v xs) (hh : Sub h h') : RowOf L h' v xs := by
  obtain ⟨p, l, c, rfl, rfl, hsp, hcs⟩ := hs
  refine ⟨p, _, c, rfl, rfl, hsp, ?_⟩
  rcases hcs with e | ⟨A, off, o, cs, rfl, hg, hc, hall⟩
  · exact .inl e
  · exact .inr ⟨A, off, o, cs, rfl, hh _ _ hg, hc, fun i x hx => L.mono hh (hall i x hx)⟩

theorem RowOf.view {α : Type} {L : Lay α} {h : AH} {v : Value} {xs : List α} (hs : RowOf L h v xs) : RowOf L (AH.view h) v xs := by
  obtain ⟨p, l, c, rfl, rfl, hsp, hcs⟩ := hs
  refine ⟨p, _, c, rfl, rfl, hsp, ?_⟩
  rcases hcs with e | ⟨A, off, o, cs, rfl, hg, hc, hall⟩
  · exact .inl e
  · have : ∃ o', (AH.view h).get A = some o' ∧ o'.cells? = some cs := by
      cases o with
      | row c e wr => exact ⟨.row c e false, by simp [AH.view, hg, AObj.view], hc⟩
      | grow c e => exact ⟨.row c e false, by simp [AH.view, hg, AObj.view], hc⟩
      | _ => simp [AObj.cells?] at hc
    obtain ⟨o', h1, h2⟩ := this
    exact .inr ⟨A, off, o', cs, rfl, h1, h2, fun i x hx => L.view (hall i x hx)⟩

theorem RowOf.one {α : Type} {L : Lay α} {h : AH} {v : Value} {xs : List α} (hs : RowOf L h v xs) : oneC v = true := by
  obtain ⟨p, l, c, rfl, _⟩ := hs; rfl
theorem SlOf.one {h : AH} {v : Value} {vs : List Value} (hs : SlOf h v vs) : oneC v = true := by
  obtain ⟨p, l, c, rfl, _⟩ := hs; rfl

theorem RowOf.len {α : Type} {L : Lay α} {h : AH} {v : Value} {xs : List α} (hs : RowOf L h v xs) {t e : TypeId} (ht : P.underlying t = some (.slice e)) : ∀ h', aLen P t v h' = some (.int .i64 xs.length) := by
  intro h'
  obtain ⟨p, l, c, rfl, rfl, _, _⟩ := hs
  simp only [aLen, ht]
theorem SlOf.lenA {h : AH} {v : Value} {α : Type} {f : α → Value} {xs : List α} (hs : SlOf h v (xs.map f)) {t e : TypeId} (ht : P.underlying t = some (.slice e)) : ∀ h', aLen P t v h' = some (.int .i64 xs.length) := by
  intro h'
  obtain ⟨p, l, c, rfl, rfl, _, _⟩ := hs
  simp only [aLen, ht, List.length_map]

/-- The address of a field of a slice's element. -/
def slF (sz : Nat) (v : Value) (i f : Nat) : Value :=
  match v with
  | .slice (some ⟨A, off, none⟩) _ _ => .pointer (some ⟨A, off + i * sz + f, none⟩)
  | _ => undef

/-- Types of one cell; struct types. -/
def Fl (P : Program) (e : TypeId) : Prop := ∃ d, P.underlying e = some d ∧ aggT d = false
structure Ag (P : Program) (e : TypeId) (n : Nat) : Prop where
  agg : ∃ d, P.underlying e = some d ∧ aggT d = true
  size : ∃ i, P.info? e = some i ∧ i.size = n

theorem RowOf.idx {α : Type} {L : Lay α} {h : AH} {v : Value} {xs : List α} (hs : RowOf L h v xs) {t e : TypeId} (ht : P.underlying t = some (.slice e)) (he : ∃ i, P.info? e = some i ∧ i.size = L.sz) :
    ∀ (k : IntKind) (n : Int), 0 ≤ n → n < xs.length → aIndexAddr P t v (.int k n) = some (slF L.sz v n.toNat 0) := by
  intro k n h0 hn
  obtain ⟨p, l, c, rfl, rfl, hsp, hcs⟩ := hs
  rcases hcs with rfl | ⟨A, off, o, cs, rfl, hg, hc, hall⟩
  · simp at hn; omega
  · obtain ⟨ie, hi, h1⟩ := he
    simp only [aIndexAddr, ht, hi]
    rw [if_pos ⟨by omega, by omega⟩, h1]; rfl

theorem RowOf.get {α : Type} {L : Lay α} {h : AH} {v : Value} {xs : List α} (hs : RowOf L h v xs) {i : Nat} (hi : i < xs.length) (d : α) :
    ∃ cs, L.rel h cs (xs.getD i d) ∧
      (∀ (e : TypeId), Ag P e L.sz → aLoad P e (slF L.sz v i 0) h = some (.agg cs.toArray)) ∧
      (∀ (f : Nat) (e : TypeId), Fl P e → f < L.sz → aLoad P e (slF L.sz v i f) h = some (cs.getD f undef)) ∧
      (∀ (T f fo : Nat), fOff P T f = some fo → aFieldAddr P T f (slF L.sz v i 0) = some (slF L.sz v i fo)) := by
  obtain ⟨p, l, c, rfl, rfl, hsp, hcs⟩ := hs
  rcases hcs with rfl | ⟨A, off, o, cs, rfl, hg, hc, hall⟩
  · simp at hi
  · have hx : xs[i]? = some (xs.getD i d) := by simp [List.getD_eq_getElem?_getD, hi]
    have hr := hall i _ hx
    have hl := L.len hr
    have hpos := L.pos
    have hle : off + i * L.sz + L.sz ≤ cs.length := by
      simp only [List.length_take, List.length_drop] at hl
      omega
    refine ⟨_, hr, fun e ha => ?_, fun f e hf hlt => ?_, fun T f fo ho => ?_⟩
    · obtain ⟨D, hD, hagg⟩ := ha.agg
      obtain ⟨ie, hie, hsz⟩ := ha.size
      simp only [slF, aLoad, hg, Option.bind_some, hc, hD, hagg, if_true, hie, hsz, Nat.add_zero]
      rw [if_pos hle]
    · obtain ⟨D, hD, hagg⟩ := hf
      simp only [slF, aLoad, hg, Option.bind_some, hc, hD, hagg, Bool.false_eq_true, if_false]
      have : off + i * L.sz + f < cs.length := by omega
      rw [List.getElem?_eq_getElem this]
      simp [List.getD_eq_getElem?_getD, List.getElem?_take, hlt, List.getElem?_drop, List.getElem?_eq_getElem this]
    · simp only [slF, aFieldAddr, ho, Nat.add_zero]

theorem RowOf.pre {α : Type} {L : Lay α} {h : AH} {v : Value} {xs : List α} (hs : RowOf L h v xs) {t e : TypeId} (ht : P.underlying t = some (.slice e)) (he : ∃ i, P.info? e = some i ∧ i.size = L.sz) {k : IntKind} {n : Nat} (hn : n ≤ xs.length) :
    ∃ v', aSlice P t v none (some (.int k n)) = some v' ∧ RowOf L h v' (xs.take n) := by
  obtain ⟨p, l, c, rfl, rfl, ⟨hsp, hle, hcap⟩, hcs⟩ := hs
  obtain ⟨ie, hi, h1⟩ := he
  have hb : bnd (some (.int k (n : Int))) xs.length = some n := by simp [bnd]
  have hb0 : bnd none 0 = some 0 := rfl
  have hpos := L.pos
  cases p with
  | none =>
    have hx : xs = [] := by
      rcases hcs with e | ⟨A, off, o, cs, e, _⟩
      · exact e
      · cases e
    subst hx
    have hn0 : n = 0 := by simpa using hn
    subst hn0
    have hb' : bnd (some (.int k ((0 : Nat) : Int))) ([] : List α).length = some 0 := hb
    refine ⟨.slice none 0 c, ?_, none, 0, c, rfl, by simp, ⟨(fun q e => by cases e), by omega, hcap⟩, .inl (by simp)⟩
    simp only [aSlice, ht, hb', hb0, hi]
    simp
  | some q =>
    obtain ⟨A, off, sp⟩ := q
    have : sp = none := hsp _ rfl
    subst this
    refine ⟨.slice (some ⟨A, off, none⟩) n c, ?_, some ⟨A, off, none⟩, n, c, rfl, by simp; omega, ⟨hsp, by omega, hcap⟩, ?_⟩
    · simp only [aSlice, ht, hb, hb0, hi]
      rcases hcap with hc | hc
      · rw [if_pos hc, if_pos ⟨by omega, by omega⟩]
        simp
      · have hnc : ¬ c < SL := by omega
        rw [if_neg hnc, if_pos ⟨by rw [h1]; exact hc, by omega, hn⟩]
        simp
    · rcases hcs with e | ⟨A', off', o, cs, e, hg, hc, hall⟩
      · left; simp [e]
      · cases e
        right
        refine ⟨A, off, o, cs, rfl, hg, hc, fun i x hx => hall i x ?_⟩
        rw [List.getElem?_take] at hx
        split at hx
        · exact hx
        · cases hx

theorem viewCells {h : AH} {B : Nat} {o : AObj} {cs : List Value} (hg : h.get B = some o) (hc : o.cells? = some cs) : ∃ o', (AH.view h).get B = some o' ∧ o'.cells? = some cs := by
  cases o with
  | row c e wr => exact ⟨.row c e false, by simp [AH.view, hg, AObj.view], hc⟩
  | grow c e => exact ⟨.row c e false, by simp [AH.view, hg, AObj.view], hc⟩
  | _ => simp [AObj.cells?] at hc

/-! ### Local variables of struct types -/

theorem faL {T f fo : Nat} (ho : fOff P T f = some fo) : ∀ (A off : Nat), aFieldAddr P T f (.pointer (some ⟨A, off, none⟩)) = some (.pointer (some ⟨A, off + fo, none⟩)) := by
  intro A off; simp only [aFieldAddr, ho]

theorem ldL {h : AH} {A : Nat} {o : AObj} {cs : List Value} (hg : h.get A = some o) (hc : o.cells? = some cs) {e : TypeId} (he : Fl P e) : ∀ k, k < cs.length → aLoad P e (.pointer (some ⟨A, k, none⟩)) h = some (cs.getD k undef) := by
  intro k hk
  obtain ⟨D, hD, hagg⟩ := he
  simp only [aLoad, hg, Option.bind_some, hc, hD, hagg, Bool.false_eq_true, if_false]
  rw [List.getElem?_eq_getElem hk]
  simp [List.getD_eq_getElem?_getD, hk]

theorem ldLA {h : AH} {A n : Nat} {o : AObj} {cs : List Value} (hg : h.get A = some o) (hc : o.cells? = some cs) {T : TypeId} (hT : Ag P T n) (hn : cs.length = n) : aLoad P T (.pointer (some ⟨A, 0, none⟩)) h = some (.agg cs.toArray) := by
  obtain ⟨D, hD, hagg⟩ := hT.agg
  obtain ⟨ie, hie, hsz⟩ := hT.size
  subst hn
  simp only [aLoad, hg, Option.bind_some, hc, hD, hagg, if_true, hie, hsz, Nat.zero_add, Nat.le_refl, List.drop_zero, List.take_length]

/-- What lies in a block that is just laid. -/
theorem ldN {e : TypeId} (he : Fl P e) : ∀ (h : AH) (cs : List Value) (e' : TypeId) (w : Bool) (k : Nat), k < cs.length → aLoad P e (.pointer (some ⟨h.next, k, none⟩)) (h.new (.row cs e' w)) = some (cs.getD k undef) :=
  fun h cs e' w k hk => ldL (o := .row cs e' w) (by simp [AH.new_get]) rfl he k hk
theorem ldNA {T : TypeId} {n : Nat} (hT : Ag P T n) : ∀ (h : AH) (cs : List Value) (e' : TypeId) (w : Bool), cs.length = n → aLoad P T (.pointer (some ⟨h.next, 0, none⟩)) (h.new (.row cs e' w)) = some (.agg cs.toArray) :=
  fun h cs e' w hn => ldLA (o := .row cs e' w) (by simp [AH.new_get]) rfl hT hn

/-- Cells in a block. -/
def CsAt (h : AH) (B : Nat) (cs : List Value) : Prop := ∃ o, h.get B = some o ∧ o.cells? = some cs
theorem CsAt.sub {h h' : AH} {B : Nat} {cs : List Value} (r : CsAt h B cs) (s : Sub h h') : CsAt h' B cs := let ⟨o, x, y⟩ := r; ⟨o, s _ _ x, y⟩
theorem CsAt.view {h : AH} {B : Nat} {cs : List Value} (r : CsAt h B cs) : CsAt (AH.view h) B cs := let ⟨_, x, y⟩ := r; viewCells x y
theorem CsAt.new (h : AH) (cs : List Value) (T : TypeId) (w : Bool) : CsAt (h.new (.row cs T w)) h.next cs := ⟨_, by rw [AH.new_get, if_pos rfl], rfl⟩
theorem CsAt.ld {h : AH} {B : Nat} {cs : List Value} (r : CsAt h B cs) {e : TypeId} (he : Fl P e) : ∀ k, k < cs.length → aLoad P e (.pointer (some ⟨B, k, none⟩)) h = some (cs.getD k undef) := let ⟨_, x, y⟩ := r; ldL x y he
theorem CsAt.la {h : AH} {B n : Nat} {cs : List Value} (r : CsAt h B cs) {T : TypeId} (hT : Ag P T n) (hn : cs.length = n) : aLoad P T (.pointer (some ⟨B, 0, none⟩)) h = some (.agg cs.toArray) := let ⟨_, x, y⟩ := r; ldLA x y hT hn

theorem boxA (t : TypeId) : ∀ (h : AH) (xs : List Value), xs.all oneC = true → aBox t (.agg xs.toArray) h = some (.pointer (some ⟨h.next, 0, none⟩), h.new (.row xs t true)) := by
  intro h xs hx
  simp [aBox, Value.cells, hx]

/-- The zero of a type, as cells. -/
def Zr (P : Program) (T : TypeId) (zs : List Value) : Prop := ∃ i z, P.info? T = some i ∧ i.zero = some z ∧ z.cells.toList = zs ∧ zs.all oneC = true ∧ plain 9 z = true

theorem alL {T : TypeId} {zs : List Value} (hz : Zr P T zs) : ∀ h, aAlloc P T h = some (.pointer (some ⟨h.next, 0, none⟩), h.new (.row zs T true)) := by
  intro h
  obtain ⟨i, z, hi, hiz, rfl, h1, h2⟩ := hz
  simp only [aAlloc, hi, hiz, h1, h2, and_self, if_true]

theorem AH.set_new (h : AH) (o o' : AObj) : (h.new o).set h.next o' = h.new o' := by
  unfold AH.set AH.new
  simp only [AH.mk.injEq, true_and]
  funext i
  by_cases e : i = h.next <;> simp [e]

theorem setL_all : ∀ (xs cs pre : List Value), cs.length = xs.length → setL (pre ++ cs) pre.length xs = pre ++ xs := by
  intro xs
  induction xs with
  | nil => intro cs pre h; have : cs = [] := List.eq_nil_of_length_eq_zero h; simp [setL, this]
  | cons x xs ih =>
    intro cs pre h
    cases cs with
    | nil => simp at h
    | cons c cs =>
      simp only [setL]
      have e : (pre ++ c :: cs).set pre.length x = (pre ++ [x]) ++ cs := by simp
      rw [e]
      have := ih cs (pre ++ [x]) (by simpa using h)
      simp only [List.length_append, List.length_cons, List.length_nil] at this
      rw [this]; simp

/-- The whole of a row written over. -/
theorem stA {T : TypeId} {n : Nat} (hT : Ag P T n) {h : AH} {A : Nat} {cs : List Value} {e : TypeId} (hg : h.get A = some (.row cs e true)) (hn : cs.length = n) : ∀ xs : List Value, xs.length = n → xs.all oneC = true →
    aStore P T (.pointer (some ⟨A, 0, none⟩)) (.agg xs.toArray) h = some (h.set A (.row xs e true)) := by
  intro xs hx ho
  obtain ⟨ie, hie, hsz⟩ := hT.size
  have := setL_all xs cs [] (by omega)
  simp only [List.nil_append, List.length_nil] at this
  simp [aStore, hie, hsz, Value.cells, hx, ho, hg, AObj.setCells, hn, this]

theorem stN {T : TypeId} {n : Nat} (hT : Ag P T n) : ∀ (h : AH) (cs : List Value) (e : TypeId) (xs : List Value), cs.length = n → xs.length = n → xs.all oneC = true →
    aStore P T (.pointer (some ⟨h.next, 0, none⟩)) (.agg xs.toArray) (h.new (.row cs e true)) = some (h.new (.row xs e true)) := by
  intro h cs e xs hc hx ho
  rw [stA hT (e := e) (cs := cs) (by simp [AH.new_get]) hc xs hx ho, AH.set_new]

/-- One cell of a row written over. -/
theorem stC {e : TypeId} (he : ∃ i, P.info? e = some i ∧ i.size = 1) {h : AH} {A : Nat} {cs : List Value} {e' : TypeId} (hg : h.get A = some (.row cs e' true)) : ∀ (k : Nat) (x : Value), k < cs.length → x.cells.toList = [x] → oneC x = true →
    aStore P e (.pointer (some ⟨A, k, none⟩)) x h = some (h.set A (.row (cs.set k x) e' true)) := by
  intro k x hk hx ho
  obtain ⟨ie, hie, hsz⟩ := he
  have hc : x.cells.size = 1 := by
    have := congrArg List.length hx
    simpa using this
  have hle : k + 1 ≤ cs.length := hk
  simp [aStore, hie, hsz, hc, hx, ho, hg, AObj.setCells, hle, setL]

theorem aMax2R (k k' : IntKind) (x y : Int) : aMax2 (.int k x) (.int k' y) = some (.int k (max x y)) := by
  simp only [aMax2]; congr 2; omega
theorem aMin2R (k k' : IntKind) (x y : Int) : aMin2 (.int k x) (.int k' y) = some (.int k (min x y)) := by
  simp only [aMin2]; congr 2; omega
theorem shlR (k : IntKind) (a b : Int) (hb : 0 ≤ b) : shBin .shl k a b = some (.int k (k.wrap (a * 2 ^ min b.toNat k.bits))) := by
  simp only [shBin]; rw [if_neg (by omega)]
theorem shrR (k : IntKind) (a b : Int) (hb : 0 ≤ b) : shBin .shr k a b = some (.int k (a.fdiv (2 ^ min b.toNat k.bits))) := by
  simp only [shBin]; rw [if_neg (by omega)]

/-! ### Bytes of a string -/

def bytesI (s : ByteArray) : List Int := s.data.toList.map fun c => (c.toNat : Int)

theorem bytesI_len (s : ByteArray) : (bytesI s).length = s.size := by
  unfold bytesI; rw [List.length_map, Array.length_toList]; rfl

theorem aBytesAt {s d e : TypeId} (hs : P.underlying s = some .string) (hd : P.underlying d = some (.slice e)) (he : P.underlying e = some (.int .u8)) : ∀ (b : ByteArray) (h : AH), b.size < 4611686018427387904 →
    aBytes P s d (.string b) h = some (.slice (some ⟨h.next, 0, none⟩) b.size (SL + 1), h.new (.row ((bytesI b).map (.int .u8)) e false)) := by
  intro b h hb
  have hm : b.size < ML := hb
  simp only [aBytes, hs, hd, he]
  rw [if_pos hm]
  simp only [bytesI, List.map_map]
  rfl

theorem aBytes_skip {s d : TypeId} (hs : ∃ k, P.underlying s = some (.int k)) : ∀ (x : Value) (h : AH), aBytes P s d x h = none := by
  intro x h
  obtain ⟨k, hk⟩ := hs
  simp only [aBytes, hk]

theorem aConvI {s d : TypeId} {D : TypeDesc} {k : IntKind} (hs : P.underlying s = some D) (hd : P.underlying d = some (.int k)) : ∀ (k' : IntKind) (n : Int), aConv P s d (.int k' n) = some (.int k (k.wrap n)) := by
  intro k' n
  simp only [aConv, hs, hd]

end
end Go.Ab

namespace Go.Ab

section
variable {P : Program}

/-- An operation, by what the model does. -/
def SemOp (P : Program) (ops : Array Oper) (o : Oper) (a : AAct) (h : AH) (K : AAct → AH → Prop) : Prop :=
  ∀ (n : Nat) (ρ : Ren) (crd : Option Nat) (ca : Act) (w : World), AR ρ a ca → HR ρ h w → ∀ (Q : Exit → Act → World → Prop) (N : Act → World → Prop), (∀ ca' w', Post ρ h w K ca' w' → N ca' w') →
    if Region.wanted o (yielded ops ca.tmps) then o.wpIn (fence crd) n P ca w N Q
    else (∀ f, o.about P w ca.eval = some f → (fence crd).fn f) ∧ N (ca.put o.dst undef) w

theorem SemOp.of {ops : Array Oper} {o : Oper} {a : AAct} {h : AH} {K : AAct → AH → Prop} (hw : opW P ops o a h K) : SemOp P ops o a h K :=
  fun _ _ _ _ _ ha hr _ _ hN => hw.sound ha hr hN

def semL (P : Program) (ops : Array Oper) (N : AAct → AH → Prop) : List Oper → AAct → AH → Prop
  | [], a, h => N a h
  | o :: l, a, h => SemOp P ops o a h (semL P ops N l)

theorem semL_of {ops : Array Oper} {N : AAct → AH → Prop} : ∀ (l : List Oper) (a : AAct) (h : AH), opsL P ops N l a h → semL P ops N l a h := by
  intro l
  induction l with
  | nil => intro a h hk; exact hk
  | cons o l ih => intro a h hk; exact SemOp.of (opW.mono (fun a h hk => ih a h hk) hk)

theorem semL_append {ops : Array Oper} {N : AAct → AH → Prop} (l2 : List Oper) : ∀ (l1 : List Oper) (a : AAct) (h : AH), opsL P ops (semL P ops N l2) l1 a h → semL P ops N (l1 ++ l2) a h := by
  intro l1
  induction l1 with
  | nil => intro a h hk; exact hk
  | cons o l ih => intro a h hk; exact SemOp.of (opW.mono (fun a h hk => ih a h hk) hk)

theorem semL.sound {ops : Array Oper} {Q : Exit → AAct → AH → Prop} {n : Nat} {crd : Option Nat} : ∀ (l : List Nat) (os : List Oper) (a : AAct) (h : AH), l.map (ops[·]?) = os.map some → semL P ops (Q .normal) os a h → ∀ (ρ : Ren) (ca : Act) (w : World), AR ρ a ca → HR ρ h w →
    wpOpsIn (fence crd) n P ops (PostE ρ h w Q) l ca w := by
  intro l
  induction l with
  | nil =>
    intro os a h hl hq ρ ca w ha hr
    cases os with
    | nil => exact ⟨ρ, a, h, hq, ha, hr, Frm.refl _ _ _⟩
    | cons => cases hl
  | cons i l ih =>
    intro os a h hl hq ρ ca w ha hr
    cases os with
    | nil => cases hl
    | cons o os =>
      simp only [List.map_cons, List.cons.injEq] at hl
      rw [wpOpsIn_cons]
      unfold wpOpIn
      simp only [hl.1]
      refine hq n ρ crd ca w ha hr _ (wpOpsIn (fence crd) n P ops (PostE ρ h w Q) l) ?_
      rintro ca1 w1 ⟨ρ1, a1, h1, hk, ha1, hr1, hf1⟩
      exact wpOpsIn_mono (fun e ca w' hp => hp.trans hf1) l ca1 w1 (ih os a1 h1 hl.2 hk ρ1 ca1 w1 ha1 hr1)

theorem opsL_mono {ops : Array Oper} {N N' : AAct → AH → Prop} (hm : ∀ a h, N a h → N' a h) : ∀ (l : List Oper) (a : AAct) (h : AH), opsL P ops N l a h → opsL P ops N' l a h := by
  intro l
  induction l with
  | nil => intro a h hk; exact hm a h hk
  | cons o l ih => intro a h hk; exact opW.mono (fun a h hk => ih a h hk) hk

/-- A region, one of whose operations is shown by what the model does. -/
theorem AW.regionX {rd : Option Nat} {id : Nat} {ops : Array Oper} {Q : Exit → AAct → AH → Prop} {a : AAct} {h : AH} (l1 : List Oper) (o : Oper) (l2 : List Oper) (hl : ops.toList = l1 ++ o :: l2)
    (hx : opsM P ops (fun a h => SemOp P ops o a h (opsM P ops (Q .normal) l2)) l1 a h) : AW P rd (.region id ops false) Q a h := by
  intro n ρ crd ca w hrd ha hr
  refine wpIn_region (semL.sound _ ops.toList a h ?_ ?_ ρ ca w ha hr)
  · apply List.ext_getElem?
    intro i
    simp only [List.getElem?_map]
    by_cases hi : i < ops.size
    · rw [List.getElem?_range hi]
      simp [Array.getElem?_eq_getElem hi]
    · rw [List.getElem?_eq_none (by simpa using hi), List.getElem?_eq_none (by simpa using hi)]; rfl
  · rw [hl]
    refine semL_append _ _ _ _ ?_
    refine opsL_mono ?_ _ _ _ (opsM_sound _ _ _ hx)
    intro a h hk n ρ crd ca w ha hr Q' N hN
    exact hk n ρ crd ca w ha hr Q' N fun ca' w' ⟨ρ', a', h', x, y⟩ => hN ca' w' ⟨ρ', a', h', semL_of _ _ _ (opsM_sound _ _ _ x), y⟩

/-- An operation that hands back a value and leaves the world. -/
theorem SemOp.value {ops : Array Oper} {o : Oper} {a : AAct} {h : AH} {K : AAct → AH → Prop} {V : Value} (hg : o.guard = none) (hd : dstOK a o.dst) (hnd : ∀ c, o.op ≠ .defer c) (hV : plain 9 V = true)
    (hrun : ∀ (ρ : Ren) (ca : Act) (w : World), AR ρ a ca → HR ρ h w → (execOp ca.eval o).run P w = .ok (.value V) w) (hk : K (a.put o.dst V) h) : SemOp P ops o a h K := by
  intro n ρ crd ca w ha hr Q N hN
  have hw : Region.wanted o (yielded ops ca.tmps) = true := by
    obtain ⟨dst, op, type, pos, after, guard⟩ := o
    simp only at hg; subst hg; rfl
  rw [if_pos hw]
  refine ⟨fun _ _ => trivial, ?_⟩
  rw [Oper.semAt_eq _ _ _ hnd, hrun ρ ca w ha hr, Oper.uponIn_value]
  exact hN _ _ ⟨ρ, _, h, hk, ha.put hd (plain_VR ρ 9 V hV), hr, Frm.refl _ _ _⟩

theorem SemOp.cap {ops : Array Oper} {o : Oper} {a : AAct} {h : AH} {K : AAct → AH → Prop} {x : Operand} {T e : TypeId} (hop : o.op = .call { callee := .builtin .cap, args := #[x], argTypes := #[T] }) (hg : o.guard = none) (hx : cOK x = true) (hd : dstOK a o.dst)
    (ht : P.underlying T = some (.slice e)) {p : Option Addr} {l c : Nat} (hv : a.ev x = .slice p l c) (hc : c < SL) (hk : K (a.put o.dst (.int .i64 c)) h) : SemOp P ops o a h K := by
  refine SemOp.value hg hd (fun c e => by rw [hop] at e; cases e) rfl (fun ρ ca w ha hr => ?_) hk
  have hvr := ha.ev hx
  rw [hv] at hvr
  have hsh : ∃ p' : Option Addr, ca.eval x = .slice p' l c := by
    generalize ca.eval x = y at hvr
    cases hvr with
    | nilSlice => exact ⟨_, rfl⟩
    | slice _ _ => exact ⟨_, rfl⟩
    | slack _ _ _ => omega
    | slack0 => omega
    | slip => exact ⟨_, rfl⟩
  obtain ⟨p', hp'⟩ := hsh
  obtain ⟨dst, op, type, pos, after, guard⟩ := o
  simp only at hop; subst hop
  simp only [execOp, resolve, Sem.run_bind, Sem.run_pure, Result.andThen_ok, invoke, builtin, List.map_toArray, List.map_cons, List.map_nil, hp']
  simp [Builtin.cap_, r_under w ht, goInt]

theorem RowAt.unfrozen {ρ : Ren} {r : RE} {w : World} {c : List Value} {e : TypeId} {cc : Array Value} {fr : Nat × Nat} (h : RowAt ρ r w c e true cc fr) {i : Nat} (hi : i ≤ cc.size) : w.frozen? ⟨r.blk, i, none⟩ = false := by
  have := h.free rfl i hi
  obtain ⟨lo, up⟩ := fr
  simp only [World.frozen?, h.heap]
  simpa using this

theorem SemOp.overlaps {ops : Array Oper} {o : Oper} {a : AAct} {h : AH} {K : AAct → AH → Prop} {x y : Operand} {g : FuncId} {ats : Array TypeId} (hop : o.op = .call { callee := .value (.func g), args := #[x, y], argTypes := ats }) (hg : o.guard = none)
    (hx : cOK x = true) (hy : cOK y = true) (hd : dstOK a o.dst) {fn : Func} {T TB e : TypeId} (hf : P.funcs[g]? = some fn) (hname : (fn.name == "runtime.NumGoroutine") = false) (hb : fn.body.isNone = true) (hn : Extern.findNext fn = none)
    (he : Extern.find fn = some (Extern.SlicesOverlaps.overlaps #[T, T] #[TB])) (ht : P.underlying T = some (.slice e)) (hz : ∃ i, P.info? e = some i ∧ i.size = 1)
    {A B oa ob la lb ca' cb : Nat} {csB csA : List Value} {eB : TypeId} {oA : AObj} (hvx : a.ev x = .slice (some ⟨B, ob, none⟩) lb cb) (hcb : cb < SL) (hvy : a.ev y = .slice (some ⟨A, oa, none⟩) la ca') (hca : ca' < SL) (hnz : lb ≠ 0 ∧ la ≠ 0) (hne : A ≠ B)
    (hB : h.get B = some (.row csB eB true)) (hob : ob < csB.length) (hA : h.get A = some oA) (hAo : oA.own = true) (hAc : oA.cells? = some csA) (hAp : 0 < csA.length)
    (hk : K (a.put o.dst (.bool false)) h) : SemOp P ops o a h K := by
  refine SemOp.value hg hd (fun c e => by rw [hop] at e; cases e) rfl (fun ρ ca w ha hr => ?_) hk
  have h1 := ha.ev hx
  have h2 := ha.ev hy
  rw [hvx] at h1
  rw [hvy] at h2
  obtain ⟨rB, hqB, ccB, frB, hrB⟩ := hr.obj B _ hB
  obtain ⟨rA, hqA, hoA⟩ := hr.obj A _ hA
  obtain ⟨eA, _, ccA, frA, hrA⟩ := hoA.rowAt hAc
  have hxe : ca.eval x = .slice (some ⟨rB.blk, rB.base + ob, none⟩) lb cb := by
    generalize ca.eval x = z at h1
    cases h1 with
    | slice h' _ => rw [hqB] at h'; cases h'; rfl
    | slack _ _ _ => omega
    | slack0 => omega
    | slip => exact absurd rfl hnz.1
  have hye : ca.eval y = .slice (some ⟨rA.blk, rA.base + oa, none⟩) la ca' := by
    generalize ca.eval y = z at h2
    cases h2 with
    | slice h' _ => rw [hqA] at h'; cases h'; rfl
    | slack _ _ _ => omega
    | slack0 => omega
    | slip => exact absurd rfl hnz.2
  have hblk : rB.blk ≠ rA.blk := hr.inj B A _ _ rB rA hB hA hqB hqA (fun e => hne e.symm) (.inl rfl)
  obtain ⟨ie, hie, hs1⟩ := hz
  have hfB := hrB.fits
  have hfA := hrA.fits
  have hrun : (callFunc g #[.slice (some ⟨rB.blk, rB.base + ob, none⟩) lb cb, .slice (some ⟨rA.blk, rA.base + oa, none⟩) la ca']).run P w = .ok (.value (.bool false)) w := by
    rw [run_callFunc_extern hf hname hb hn he]
    rw [Lib.run_overlaps_apart w T TB e ht 1 (fun w => by rw [r_size w hie, hs1]) ⟨rB.blk, rB.base + ob, none⟩ ⟨rA.blk, rA.base + oa, none⟩ lb cb la ca' hblk eB eA ccB.size ccA.size
      (by simp only [World.shape?, hrB.heap]) (by simp only [World.shape?, hrA.heap]) (by omega) (hrB.unfrozen (by omega)) (hrB.unfrozen (Nat.le_refl _))]
    rfl
  have hfun : ca.eval (.func g) = .func (.func g) #[] #[] := rfl
  obtain ⟨dst, op, type, pos, after, guard⟩ := o
  simp only at hop; subst hop
  simp only [execOp, resolve, hfun, Deferred.ofValue, Sem.run_bind, Sem.run_pure, Result.andThen_ok, invoke, List.map_toArray, List.map_cons, List.map_nil, hxe, hye]
  simp only [Array.empty_append, Array.append_empty, hrun]

/-! ### A row that may grow, laid open -/

theorem Own.of_set {ρ : Ren} {h : AH} {A : Nat} {o o' : AObj} (ha : h.get A = some o) (ho : o.own = true) (ho' : o'.own = true) (b : Nat) : Own ρ (h.set A o') b ↔ Own ρ h b := by
  constructor
  · rintro ⟨B, p, r, hB, hown, hq, rfl⟩
    rw [AH.set_get] at hB
    split at hB
    · rename_i e; subst e; cases hB; exact ⟨B, o, r, ha, ho, hq, rfl⟩
    · exact ⟨B, p, r, hB, hown, hq, rfl⟩
  · rintro ⟨B, p, r, hB, hown, hq, rfl⟩
    by_cases e : B = A
    · subst e; exact ⟨B, o', r, by rw [AH.set_get, if_pos rfl], ho', hq, rfl⟩
    · exact ⟨B, p, r, by rw [AH.set_get, if_neg e]; exact hB, hown, hq, rfl⟩

/-- A call that is handed a slice of a growing row: its capacity and the cells behind its end are some, and the call may look at them. -/
theorem ACall.reveal {g : FuncId} {h : AH} {A n : Nat} {c rest : List Value} {e : TypeId} {K : Value → AH → Prop} (hg : h.get A = some (.grow c e)) (hn : 0 < n) (hE : Enters P g)
    (hc : ∀ (C : Nat) (junk : List Value), n ≤ C → C ≤ 9223372036854775807 → C ≤ (c ++ junk).length → ACall P g (.slice (some ⟨A, 0, none⟩) n C :: rest) (h.set A (.row (c ++ junk) e true)) K) :
    ACall P g (.slice (some ⟨A, 0, none⟩) n (SL + 1) :: rest) h K := by
  refine ⟨hE, fun ρ cargs w hl hr => ?_⟩
  obtain ⟨r, hq, cc, fr, hrow, hlim, hall⟩ := hr.obj A _ hg
  obtain ⟨ls⟩ := cargs
  cases ls with
  | nil => have := hl.1; simp at this
  | cons v' rs =>
    have hv : VR ρ (.slice (some ⟨A, 0, none⟩) n (SL + 1)) v' := hl.2 0 _ _ rfl rfl
    have htl : LR ρ rest rs := ⟨by have := hl.1; simpa using this, fun j u u' x y => hl.2 (j + 1) u u' (by simpa using x) (by simpa using y)⟩
    generalize hse : SL + 1 = cap at hv
    have hfit := hrow.fits
    obtain ⟨C, hve, hnC, hCm, hCl⟩ : ∃ C, v' = .slice (some ⟨r.blk, r.base + 0, none⟩) n C ∧ n ≤ C ∧ C ≤ 9223372036854775807 ∧ r.base + C ≤ cc.size := by
      cases hv with
      | slice _ hc' => omega
      | slack hq' hl' hlim' hc' =>
        rw [hq] at hq'; cases hq'
        rename_i s
        have hs : s = 1 := by omega
        subst hs
        exact ⟨_, rfl, hl', hc', by omega⟩
      | slack0 => omega
      | slip => omega
    subst hve
    have hj : ∃ junk : List Value, junk.length = cc.size - (r.base + c.length) ∧ ∀ i v, junk[i]? = some v → ∃ u', cc[r.base + c.length + i]? = some u' ∧ VR ρ v u' ∧ oneC v = true := by
      have : ∀ k, k ≤ cc.size - (r.base + c.length) → ∃ junk : List Value, junk.length = k ∧ ∀ i v, junk[i]? = some v → ∃ u', cc[r.base + c.length + i]? = some u' ∧ VR ρ v u' ∧ oneC v = true := by
        intro k
        induction k with
        | zero => intro _; exact ⟨[], rfl, fun i v x => by simp at x⟩
        | succ k ih =>
          intro hk
          obtain ⟨js, hjl, hj⟩ := ih (by omega)
          have hlt : r.base + c.length + k < cc.size := by omega
          obtain ⟨h1, v, h2⟩ := hall _ _ (Array.getElem?_eq_getElem hlt)
          refine ⟨js ++ [v], by simp [hjl], fun i u hu => ?_⟩
          by_cases hi : i < js.length
          · rw [List.getElem?_append_left hi] at hu; exact hj i u hu
          · rw [List.getElem?_append_right (by omega)] at hu
            have : i = k := by
              have := (List.getElem?_eq_some_iff.1 hu).1
              simp at this; omega
            subst this
            rw [hjl, Nat.sub_self] at hu
            cases hu
            exact ⟨_, Array.getElem?_eq_getElem hlt, h2, by rw [← h2.one]; exact h1⟩
      exact this _ (Nat.le_refl _)
    obtain ⟨junk, hjl, hjunk⟩ := hj
    have hrow' : RowAt ρ r w (c ++ junk) e true cc fr := by
      refine ⟨hrow.heap, by rw [List.length_append, hjl]; omega, fun i v hi => ?_, hrow.free, fun v hv => ?_⟩
      · by_cases hlt : i < c.length
        · rw [List.getElem?_append_left hlt] at hi; exact hrow.cell i v hi
        · rw [List.getElem?_append_right (by omega)] at hi
          obtain ⟨u', h1, h2, _⟩ := hjunk _ _ hi
          exact ⟨u', by rw [show r.base + i = r.base + c.length + (i - c.length) by omega]; exact h1, h2⟩
      · rcases List.mem_append.1 hv with hv | hv
        · exact hrow.one v hv
        · obtain ⟨i, hi⟩ := List.getElem?_of_mem hv
          obtain ⟨_, _, _, h3⟩ := hjunk i v hi
          exact h3
    have hr' : HR ρ (h.set A (.row (c ++ junk) e true)) w := by
      refine ⟨fun B p hp => ?_, fun B D ob od rb rd h1 h2 h3 h4 hne how => ?_, fun B q h1 => hr.dom B q h1⟩
      · rw [AH.set_get] at hp
        split at hp
        · rename_i eB; subst eB; cases hp; exact ⟨r, hq, cc, fr, hrow'⟩
        · exact hr.obj B p hp
      · rw [AH.set_get] at h1 h2
        have key : ∀ X ox, (if X = A then some (AObj.row (c ++ junk) e true) else h.get X) = some ox → ∃ px, h.get X = some px ∧ px.own = ox.own := by
          intro X ox hx
          split at hx
          · rename_i eX; subst eX; cases hx; exact ⟨_, hg, rfl⟩
          · exact ⟨ox, hx, rfl⟩
        obtain ⟨pb, hpb, hib⟩ := key B ob h1
        obtain ⟨pd, hpd, hid⟩ := key D od h2
        exact hr.inj B D pb pd rb rd hpb hpd h3 h4 hne (by rw [hib, hid]; exact how)
    have hcall := (hc C junk hnC hCm (by rw [List.length_append, hjl]; omega)).2 ρ #[.slice (some ⟨r.blk, r.base + 0, none⟩) n C] w
    have hlr : LR ρ (.slice (some ⟨A, 0, none⟩) n C :: rest) ((⟨.slice (some ⟨r.blk, r.base + 0, none⟩) n C :: rs⟩ : Array Value).toList) := htl.cons (.slice hq (by unfold SL; omega))
    have hcall := (hc C junk hnC hCm (by rw [List.length_append, hjl]; omega)).2 ρ _ w hlr hr'
    refine hcall.mono ?_
    rintro e' w' ⟨ρ', v, v', h', rfl, hk, hv, hr2, hf⟩
    refine ⟨ρ', v, v', h', rfl, hk, hv, hr2, hf.le, hf.size, fun b hb hno => hf.rest b hb (fun ho => hno ((Own.of_set hg rfl rfl b).1 ho)), fun b hb => (hf.own b hb).imp (fun ho => (Own.of_set hg rfl rfl b).1 ho) id, hf.side⟩

end
end Go.Ab

namespace Go.Ab

section
variable {P : Program}

/-- A slice of one's own, from a block's begin: nil, or of a growing row, or of a row of known capacity. -/
def Vec (e : TypeId) (v : Value) (ob : Option AObj) (A : Nat) (zs : List Value) : Prop :=
  (zs = [] ∧ v = .slice none 0 0 ∧ ob = none) ∨
  (∃ cs, v = .slice (some ⟨A, 0, none⟩) zs.length (SL + 1) ∧ ob = some (.grow cs e) ∧ zs.length ≤ cs.length ∧ cs.take zs.length = zs) ∨
  (∃ cs C, v = .slice (some ⟨A, 0, none⟩) zs.length C ∧ C ≤ 9223372036854775807 ∧ zs.length ≤ C ∧ C ≤ cs.length ∧ ob = some (.row cs e true) ∧ cs.take zs.length = zs)

theorem take_get {α : Type} {cs zs : List α} (h : cs.take zs.length = zs) (i : Nat) (x : α) (hx : zs[i]? = some x) : cs[i]? = some x := by
  have hi : i < zs.length := (List.getElem?_eq_some_iff.1 hx).1
  rw [← h, List.getElem?_take, if_pos hi] at hx; exact hx

theorem Vec.sl {e : TypeId} {h : AH} {v : Value} {ob : Option AObj} {A : Nat} {zs : List Value} (hv : Vec e v ob A zs) (hg : ∀ o, ob = some o → h.get A = some o) : SlOf h v zs := by
  rcases hv with ⟨rfl, rfl, _⟩ | ⟨cs, rfl, rfl, _, ht⟩ | ⟨cs, C, rfl, _, _, _, rfl, ht⟩
  · exact ⟨none, 0, 0, rfl, rfl, (fun q x => by cases x), .inl rfl⟩
  · exact ⟨_, _, _, rfl, rfl, (fun q x => by cases x; rfl), .inr ⟨A, 0, _, cs, rfl, hg _ rfl, rfl, fun i x hx => by rw [Nat.zero_add]; exact take_get ht i x hx⟩⟩
  · exact ⟨_, _, _, rfl, rfl, (fun q x => by cases x; rfl), .inr ⟨A, 0, _, cs, rfl, hg _ rfl, rfl, fun i x hx => by rw [Nat.zero_add]; exact take_get ht i x hx⟩⟩

/-- What became of a slice that was appended to, or inserted into. -/
structure VecUp (e : TypeId) (h : AH) (ob : Option AObj) (A : Nat) (r : Value) (zs : List Value) (h' : AH) : Prop where
  up : ∃ A' o', Vec e r (some o') A' zs ∧ h'.get A' = some o' ∧ ((A' = A ∧ ob ≠ none) ∨ h.next ≤ A')
  frx : ∀ B o, h.get B = some o → (B = A → ob = none) → h'.get B = some o
  wf : WFH h'
  nx : h.next ≤ h'.next

theorem setL_one (cs : List Value) (i : Nat) (x : Value) : setL cs i [x] = cs.set i x := rfl

theorem appendV {t t2 e : TypeId} {B : Nat} {z : Value} (ht : SlT P t e B z) (ht2 : ∃ e2, P.underlying t2 = some (.slice e2)) {h : AH} (hw : WFH h) {v : Value} {ob : Option AObj} {A : Nat} {zs : List Value} (hv : Vec e v ob A zs) (hg : ∀ o, ob = some o → h.get A = some o)
    {D : Nat} {x : Value} {oD : AObj} (hD : h.get D = some oD) (hDc : oD.cells? = some [x]) (hx : oneC x = true) (hb : (2 * zs.length + 194) * B ≤ 281474976710656) (hm : zs.length < 4611686018427387903) :
    ∃ r h', aAppend P #[t, t2] v (.slice (some ⟨D, 0, none⟩) 1 1) h = some (r, h') ∧ VecUp e h ob A r (zs ++ [x]) h' := by
  obtain ⟨i, hi, h1, hbb, hzz⟩ := ht.info
  have hc : z.cells.size = 1 := by
    have := congrArg List.length ht.zc
    simpa using this
  have hsrc : srcCells 1 (.slice (some ⟨D, 0, none⟩) 1 1) h = some (1, [x]) := by
    simp [srcCells, hD, hDc]
  obtain ⟨e2, ht2⟩ := ht2
  have hb' : (2 * (zs.length + 1) + 192) * B ≤ 281474976710656 := by
    have : 2 * (zs.length + 1) + 192 = 2 * zs.length + 194 := by omega
    rw [this]; exact hb
  have hm' : zs.length + 1 < ML := by unfold ML; omega
  rcases hv with ⟨rfl, rfl, rfl⟩ | ⟨cs, rfl, rfl, hle, htk⟩ | ⟨cs, C, rfl, hCm, hnC, hCl, rfl, htk⟩
  · simp only [List.length_nil] at hb hb' hm'
    refine ⟨.slice (some ⟨h.next, 0, none⟩) 1 (SL + 1), h.new (.grow [x] e), ?_, ⟨⟨h.next, _, .inr (.inl ⟨[x], rfl, rfl, by simp, rfl⟩), by simp [AH.new_get], .inr (Nat.le_refl _)⟩, fun B o hB _ => ?_, hw.new _, by simp⟩⟩
    · have hb1 : (2 * 1 + 192) * B ≤ 281474976710656 := by omega
      have hm1 : 1 < ML := by unfold ML; omega
      simp [aAppend, ht.sl, ht2, hi, hzz, h1, hc, isIntT, hsrc, hbb, hb1, hm1, ht.zk]
    · exact Sub.new hw _ B o hB
  · have hA := hg _ rfl
    have hAn : A < h.next := AH.get_lt hw hA
    refine ⟨.slice (some ⟨h.next, 0, none⟩) (zs.length + 1) (SL + 1), (h.del A).new (.grow (zs ++ [x]) e), ?_, ⟨⟨h.next, _, .inr (.inl ⟨zs ++ [x], by simp, rfl, by simp, List.take_length⟩), by simp [AH.new_get], .inr (Nat.le_refl _)⟩, fun B o hB hBA => ?_, (hw.del A).new _, by simp⟩⟩
    · have hcap : ¬ (SL + 1 < SL) := by omega
      simp [aAppend, ht.sl, ht2, hi, hzz, h1, hc, isIntT, hsrc, hbb, hA, hcap, hle, hb', hm', htk, ht.zk]
    · have hne : B ≠ A := fun x => by have := hBA x; simp at this
      have hBn := AH.get_lt hw hB
      rw [AH.new_get, AH.del_next, if_neg (by omega), AH.del_get, if_neg hne]; exact hB
  · have hA := hg _ rfl
    have hAn : A < h.next := AH.get_lt hw hA
    have hcap : C < SL := by unfold SL; omega
    by_cases hfit : zs.length + 1 ≤ C
    · have hset : zs.length + 1 ≤ cs.length := by omega
      refine ⟨.slice (some ⟨A, 0, none⟩) (zs.length + 1) C, h.set A (.row (cs.set zs.length x) e true), ?_, ⟨⟨A, _, .inr (.inr ⟨cs.set zs.length x, C, by simp, hCm, by simpa using hfit, by simpa using hCl, rfl, ?_⟩), by simp [AH.set_get], .inl ⟨rfl, by simp⟩⟩, fun B o hB hBA => ?_, hw.set hAn _, by simp⟩⟩
      · simp [aAppend, ht.sl, ht2, hi, hzz, h1, hc, isIntT, hsrc, hcap, hA, hfit, AObj.setCells, hset, setL_one, ht.zk]
      · apply List.ext_getElem?
        intro j
        simp only [List.length_append, List.length_cons, List.length_nil]
        rw [List.getElem?_take]
        by_cases h1 : j < zs.length
        · rw [if_pos (by omega), List.getElem?_set_ne (by omega), List.getElem?_append_left h1]
          rw [take_get htk j zs[j] (List.getElem?_eq_getElem h1), List.getElem?_eq_getElem h1]
        · by_cases h2 : j = zs.length
          · subst h2
            rw [if_pos (by omega), List.getElem?_set_self (by omega)]; simp
          · rw [if_neg (by omega), List.getElem?_eq_none (by simp; omega)]
      · have hne : B ≠ A := fun x => by have := hBA x; simp at this
        rw [AH.set_get, if_neg hne]; exact hB
    · refine ⟨.slice (some ⟨h.next, 0, none⟩) (zs.length + 1) (SL + 1), h.new (.grow (zs ++ [x]) e), ?_, ⟨⟨h.next, _, .inr (.inl ⟨zs ++ [x], by simp, rfl, by simp, List.take_length⟩), by simp [AH.new_get], .inr (Nat.le_refl _)⟩, fun B o hB _ => Sub.new hw _ B o hB, hw.new _, by simp⟩⟩
      have hle : zs.length ≤ cs.length := by omega
      simp [aAppend, ht.sl, ht2, hi, hzz, h1, hc, isIntT, hsrc, hbb, hcap, hA, hfit, AObj.cells?, hle, hb', hm', htk, ht.zk]

/-! ### Blocks of one's own, by their roles -/

structure Owns (b h : AH) (nm : Nat → Nat) (ob : Nat → Option AObj) : Prop where
  get : ∀ r o, ob r = some o → h.get (nm r) = some o
  dis : ∀ r s o p, ob r = some o → ob s = some p → r ≠ s → nm r ≠ nm s
  lo : ∀ r o, ob r = some o → b.next ≤ nm r
  gr : Gr b h

def upd {α : Type} (f : Nat → α) (r : Nat) (x : α) : Nat → α := fun i => if i = r then x else f i
theorem upd_same {α : Type} (f : Nat → α) (r : Nat) (x : α) : upd f r x r = x := by simp [upd]
theorem upd_ne {α : Type} (f : Nat → α) {r i : Nat} (x : α) (h : i ≠ r) : upd f r x i = f i := by simp [upd, h]

/-- A block turned, or laid anew, for one role; the others stay. -/
theorem Owns.up {b h h' : AH} {nm : Nat → Nat} {ob : Nat → Option AObj} (w0 : WFH b) (ho : Owns b h nm ob) {r A' : Nat} {o' : AObj} (hg : h'.get A' = some o') (hA : (A' = nm r ∧ ob r ≠ none) ∨ h.next ≤ A')
    (frx : ∀ B o, h.get B = some o → (B = nm r → ob r = none) → h'.get B = some o) (wf : WFH h') (nx : h.next ≤ h'.next) : Owns b h' (upd nm r A') (upd ob r (some o')) := by
  have hlt : ∀ s o, ob s = some o → nm s < h.next := fun s o hs => AH.get_lt ho.gr.wf (ho.get s o hs)
  have keep : ∀ s o, ob s = some o → s ≠ r → h'.get (nm s) = some o := fun s o hs hne => frx _ _ (ho.get s o hs) (fun e => by
    cases hr : ob r with
    | none => rfl
    | some p => exact absurd e (ho.dis s r o p hs hr hne))
  refine ⟨fun s o hs => ?_, fun s u o p hs hu hne => ?_, fun s o hs => ?_, wf, ?_, Nat.le_trans ho.gr.nx nx⟩
  · by_cases e : s = r
    · subst e; rw [upd_same] at hs ⊢; cases hs; exact hg
    · rw [upd_ne _ _ e] at hs ⊢; exact keep s o hs e
  · have far : ∀ s o, ob s = some o → s ≠ r → nm s ≠ A' := fun s o hs hne => by
      rcases hA with ⟨rfl, hr⟩ | hA
      · cases hr' : ob r with
        | none => exact absurd hr' hr
        | some p => exact ho.dis s r o p hs hr' hne
      · have := hlt s o hs; omega
    by_cases e : s = r
    · subst e
      have e2 : u ≠ s := fun x => hne x.symm
      rw [upd_ne _ _ e2] at hu ⊢; rw [upd_same]
      exact fun x => far u p hu e2 x.symm
    · rw [upd_ne _ _ e] at hs ⊢
      by_cases e2 : u = r
      · subst e2; rw [upd_same]; exact far s o hs e
      · rw [upd_ne _ _ e2] at hu ⊢; exact ho.dis s u o p hs hu hne
  · by_cases e : s = r
    · subst e; rw [upd_same]
      rcases hA with ⟨rfl, hr⟩ | hA
      · cases hr' : ob s with
        | none => exact absurd hr' hr
        | some p => exact ho.lo s p hr'
      · exact Nat.le_trans ho.gr.nx hA
    · rw [upd_ne _ _ e] at hs ⊢; exact ho.lo s o hs
  · intro B o hB
    refine frx B o (ho.gr.sub B o hB) (fun e => ?_)
    cases hr : ob r with
    | none => rfl
    | some p =>
      have := ho.lo r p hr
      have := AH.get_lt w0 hB
      omega

theorem Owns.grown {b h h' : AH} {nm : Nat → Nat} {ob : Nat → Option AObj} (ho : Owns b h nm ob) (g : Gr h h') : Owns b h' nm ob :=
  ⟨fun r o hr => g.sub _ _ (ho.get r o hr), ho.dis, ho.lo, ho.gr.trans g⟩

theorem Owns.set {b h : AH} {nm : Nat → Nat} {ob : Nat → Option AObj} (w0 : WFH b) (ho : Owns b h nm ob) {r : Nat} {o o' : AObj} (hr : ob r = some o) : Owns b (h.set (nm r) o') nm (upd ob r (some o')) := by
  have := ho.up (r := r) (A' := nm r) (o' := o') (h' := h.set (nm r) o') w0 (by simp [AH.set_get]) (.inl ⟨rfl, by rw [hr]; simp⟩) (fun B p hB hn => by
    rw [AH.set_get, if_neg]
    · exact hB
    · intro e; have := hn e; rw [hr] at this; cases this) (ho.gr.wf.set (AH.get_lt ho.gr.wf (ho.get r o hr)) _) (Nat.le_refl _)
  have e : upd nm r (nm r) = nm := by
    funext i; unfold upd; split
    · rename_i h; rw [h]
    · rfl
  rwa [e] at this

theorem Owns.vec {b h h' : AH} {nm : Nat → Nat} {ob : Nat → Option AObj} (w0 : WFH b) (ho : Owns b h nm ob) {r : Nat} {e : TypeId} {v : Value} {zs : List Value} (hu : VecUp e h (ob r) (nm r) v zs h') :
    ∃ A' o', Vec e v (some o') A' zs ∧ Owns b h' (upd nm r A') (upd ob r (some o')) := by
  obtain ⟨⟨A', o', h1, h2, h3⟩, frx, wf, nx⟩ := hu
  exact ⟨A', o', h1, ho.up w0 h2 h3 frx wf nx⟩

end
end Go.Ab

namespace Go.Ab

section
variable {P : Program}

theorem sliceLoX {t e : TypeId} (ht : Sl1 P t e) : ∀ (A off len cap : Nat) (k : IntKind) (lo : Int), cap < SL → 0 ≤ lo → lo < cap → lo ≤ len → len ≤ cap →
    aSlice P t (.slice (some ⟨A, off, none⟩) len cap) (some (.int k lo)) none = some (.slice (some ⟨A, off + lo.toNat, none⟩) (len - lo.toNat) (cap - lo.toNat)) := by
  intro A off len cap k lo hc h0 h1 h2 h3
  obtain ⟨ie, hi, hs⟩ := ht.one
  have hb : bnd (some (.int k lo)) 0 = some lo.toNat := by simp [bnd, h0]
  have hb2 : bnd none len = some len := rfl
  simp only [aSlice, ht.sl, hb, hb2, hi]
  rw [if_pos hc, if_pos ⟨by omega, by omega⟩, if_neg (by omega), hs, Nat.mul_one]

theorem sliceHiX {t e : TypeId} (ht : Sl1 P t e) : ∀ (A off len cap : Nat) (k : IntKind) (hi : Int), cap < SL → 0 ≤ hi → hi ≤ cap →
    aSlice P t (.slice (some ⟨A, off, none⟩) len cap) none (some (.int k hi)) = some (.slice (some ⟨A, off, none⟩) hi.toNat cap) := by
  intro A off len cap k hi hc h0 h1
  obtain ⟨ie, hie, hs⟩ := ht.one
  have hb : bnd (some (.int k hi)) len = some hi.toNat := by simp [bnd, h0]
  have hb2 : bnd none 0 = some 0 := rfl
  simp only [aSlice, ht.sl, hb, hb2, hie]
  rw [if_pos hc, if_pos ⟨by omega, by omega⟩]
  simp

theorem sliceLoS {t e : TypeId} (ht : Sl1 P t e) : ∀ (A off len : Nat) (k : IntKind) (lo : Int), 0 ≤ lo → lo ≤ len →
    aSlice P t (.slice (some ⟨A, off, none⟩) len (SL + 1)) (some (.int k lo)) none = some (.slice (some ⟨A, off + lo.toNat, none⟩) (len - lo.toNat) (SL + 1)) := by
  intro A off len k lo h0 h1
  obtain ⟨ie, hi, hs⟩ := ht.one
  have hb : bnd (some (.int k lo)) 0 = some lo.toNat := by simp [bnd, h0]
  have hb2 : bnd none len = some len := rfl
  have hn : ¬ (SL + 1 < SL) := by omega
  simp only [aSlice, ht.sl, hb, hb2, hi]
  rw [if_neg hn, if_pos ⟨by rw [hs], by omega, by omega⟩, hs, Nat.mul_one]

theorem sliceHiS {t e : TypeId} (ht : Sl1 P t e) : ∀ (A off len : Nat) (k : IntKind) (hi : Int), 0 ≤ hi → hi ≤ len →
    aSlice P t (.slice (some ⟨A, off, none⟩) len (SL + 1)) none (some (.int k hi)) = some (.slice (some ⟨A, off, none⟩) hi.toNat (SL + 1)) := by
  intro A off len k hi h0 h1
  obtain ⟨ie, hie, hs⟩ := ht.one
  have hb : bnd (some (.int k hi)) len = some hi.toNat := by simp [bnd, h0]
  have hb2 : bnd none 0 = some 0 := rfl
  have hn : ¬ (SL + 1 < SL) := by omega
  simp only [aSlice, ht.sl, hb, hb2, hie]
  rw [if_neg hn, if_pos ⟨by rw [hs], by omega, by omega⟩]
  simp

/-- A copy, of whole one-cell elements. -/
theorem aCopyL {t e : TypeId} (ht : Sl1 P t e) {h : AH} {A B oa ob la lb ca cb n : Nat} {oA oB o' : AObj} {csB : List Value} (hn : n = min lb la) (h0 : n ≠ 0) (hB : h.get B = some oB) (hBc : oB.cells? = some csB) (hob : ob + n ≤ csB.length)
    (hA : h.get A = some oA) (hs : oA.setCells oa ((csB.drop ob).take n) = some o') :
    aCopy P t (.slice (some ⟨A, oa, none⟩) la ca) (.slice (some ⟨B, ob, none⟩) lb cb) h = some (.int .i64 n, h.set A o') := by
  obtain ⟨ie, hie, h1⟩ := ht.one
  subst hn
  simp only [aCopy, ht.sl, hie, if_neg h0, h1, srcCells, hB, Option.bind_some, hBc, Nat.mul_one, if_pos hob, hA, hs, Option.map_some]

/-- An append of zeros that finds no room. -/
theorem appendZ_run {T TI e : TypeId} {B : Nat} {z : Value} (ht : SlT P T e B z) (hI : P.underlying TI = some (.int .i64)) (w : World) (ty : TypeId) (base : Option Addr) (i C k : Nat) (old : Array Value) (hC : C < i + k) (hk : 0 < k) (hm : i + k < ML) (hb : (2 * (i + k) + 192) * B ≤ 281474976710656)
    (hold : ∀ w', w'.heap = w.heap → (Builtin.firstCells 1 i (.slice base i C)).run P w' = .ok old w') :
    ∃ newCap w1, i + k ≤ newCap ∧ newCap ≤ 9223372036854775807 ∧ (w1.heap = w.heap ∧ Side w w1) ∧ (Builtin.append_ #[T, TI] ty #[.slice base i C, .int .i64 k]).run P w =
      ((Go.newRow e (old ++ Builtin.zeroCells z.cells k ++ Builtin.zeroCells z.cells (newCap - (i + k)))).run P w1).andThen fun a w' => .ok (.slice (some a) (i + k) newCap) w' := by
  obtain ⟨ie, hi, h1, hbb, hzz⟩ := ht.info
  have hforced : (Question.appendCap (i + k) C e).forced = false := rfl
  have hml : ML = 4611686018427387904 := rfl
  refine ⟨i + k + (w.tape w.drawn (.appendCap (i + k) C e)) % (2 ^ 63 - (i + k)), { w with drawn := w.drawn + 1 }, by omega, ?_, ⟨rfl, ⟨rfl, rfl, rfl⟩⟩, ?_⟩
  · have hm' : (w.tape w.drawn (.appendCap (i + k) C e)) % (2 ^ 63 - (i + k)) < 2 ^ 63 - (i + k) := Nat.mod_lt _ (by omega)
    omega
  · have hnc : ¬ Builtin.nextslicecap (i + k) C * ie.bytes > 2 ^ 48 := by
      have h1 := nextcap_le hC
      have h2 : Builtin.nextslicecap (i + k) C * ie.bytes ≤ (2 * (i + k) + 192) * ie.bytes := Nat.mul_le_mul_right _ h1
      rw [hbb] at h2 ⊢
      omega
    have hmax : ¬ (((i + k : Nat) : Int) > IntKind.i64.max) := by
      have : IntKind.i64.max = 9223372036854775807 := by decide
      omega
    have hwr : IntKind.i64.wrap (k : Int) = k := wrapI (by omega) (by omega)
    have hneg : ¬ ((k : Int) < 0) := by omega
    have hby : ¬ ((k : Int) * (ie.bytes : Int) > 2 ^ 48) := by
      have : k * ie.bytes ≤ (2 * (i + k) + 192) * ie.bytes := Nat.mul_le_mul_right _ (by omega)
      rw [hbb] at this ⊢
      have h3 : ((k * B : Nat) : Int) ≤ 281474976710656 := by omega
      rw [Int.natCast_mul] at h3
      omega
    have hnle : ¬ (i + k ≤ C) := by omega
    have hz0 : ¬ (k * 1 = 0) := by omega
    have has : (asInt (Value.int IntKind.i64 (k : Int))).run P w = .ok (k : Int) w := rfl
    unfold Builtin.append_
    simp only [List.getElem?_toArray, List.getElem?_cons_zero, List.getElem?_cons_succ, Sem.run_bind, r_under w ht.sl, r_under w hI, Result.andThen_ok, r_size w hi, Sem.run_pure, has, hwr, if_neg hneg, r_info w hi, if_neg hby, Int.toNat_natCast, if_neg hnle, if_true]
    simp only [true_or, and_true, if_neg hmax, Sem.run_bind, Sem.run_pure, Result.andThen_ok, r_info w hi, if_neg hnc, run_choose, hforced, Question.cut, run_askRoom]
    rw [if_neg (by decide), Result.andThen_ok, r_info _ hi, Result.andThen_ok]
    simp only [h1]
    rw [hold { w with drawn := w.drawn + 1 } rfl, Result.andThen_ok]
    simp only [Bool.not_true, Bool.false_eq_true, if_false, if_neg hz0, Sem.run_bind, Sem.run_pure, r_zero _ hi hzz, Result.andThen_ok]

theorem zeroCells_one {z : Value} (hz : z.cells.toList = [z]) (n : Nat) : (Builtin.zeroCells z.cells n).toList = List.replicate n z := by
  have hc : z.cells.size = 1 := by
    have := congrArg List.length hz
    simpa using this
  apply List.ext_getElem?
  intro i
  simp only [Builtin.zeroCells, hc, Nat.mul_one, Array.toList_map, List.getElem?_map]
  by_cases hi : i < n
  · have h0 : z.cells[0]! = z := by
      have e : z.cells[0]! = z.cells[0] := getElem!_pos z.cells 0 (by omega)
      rw [e]
      have := congrArg (·[0]?) hz
      simpa [hc] using this
    rw [Array.toList_range, List.getElem?_range hi]
    simp [hi, Nat.mod_one, h0]
  · rw [Array.toList_range, List.getElem?_eq_none (by simpa using hi), List.getElem?_eq_none (by simpa using hi)]; rfl

theorem SemOp.appendZ {ops : Array Oper} {o : Oper} {a : AAct} {h : AH} {K : AAct → AH → Prop} {s x : Operand} {T TI e : TypeId} {B : Nat} {z : Value} (hop : o.op = .call { callee := .builtin .append, args := #[s, x], argTypes := #[T, TI] }) (hg : o.guard = none)
    (hs : cOK s = true) (hx : cOK x = true) (hd : dstOK a o.dst) (ht : SlT P T e B z) (hI : P.underlying TI = some (.int .i64)) {A i C k : Nat} {oA : AObj} {cs : List Value} (hvs : a.ev s = .slice (some ⟨A, 0, none⟩) i C) (hCS : C < SL) (hC0 : C ≠ 0) (hvx : a.ev x = .int .i64 k)
    (hA : h.get A = some oA) (hAc : oA.cells? = some cs) (hi : i ≤ cs.length) (hC : C < i + k) (hk0 : 0 < k) (hm : i + k < 4611686018427387904) (hb : (2 * (i + k) + 192) * B ≤ 281474976710656)
    (hk : K (a.put o.dst (.slice (some ⟨h.next, 0, none⟩) (i + k) (SL + 1))) (h.new (.grow (cs.take i ++ List.replicate k z) e))) : SemOp P ops o a h K := by
  intro n ρ crd ca w ha hr Q N hN
  have hw : Region.wanted o (yielded ops ca.tmps) = true := by
    obtain ⟨dst, op, type, pos, after, guard⟩ := o
    simp only at hg; subst hg; rfl
  have hnd : ∀ c, o.op ≠ .defer c := fun c e => by rw [hop] at e; cases e
  rw [if_pos hw]
  refine ⟨fun _ _ => trivial, ?_⟩
  have h1 := ha.ev hs
  have h2 := ha.ev hx
  rw [hvs] at h1
  rw [hvx] at h2
  obtain ⟨r, hq, hor⟩ := hr.obj A _ hA
  obtain ⟨eA, wrA, cc, fr, hrow⟩ := hor.rowAt hAc
  have hse : ca.eval s = .slice (some ⟨r.blk, r.base + 0, none⟩) i C := by
    generalize ca.eval s = y at h1
    cases h1 with
    | slice h' _ => rw [hq] at h'; cases h'; rfl
    | slack _ _ _ => omega
    | slack0 => omega
    | slip => exact absurd rfl hC0
  have hxe : ca.eval x = .int .i64 k := by
    generalize ca.eval x = y at h2
    cases h2; rfl
  obtain ⟨old, hol, hlr, hload, _⟩ := hrow.many 0 i (by omega)
  have hold : ∀ w', w'.heap = w.heap → (Builtin.firstCells 1 i (.slice (some ⟨r.blk, r.base + 0, none⟩) i C)).run P w' = .ok old.toArray w' := by
    intro w' hw'
    have := hload P w' (by rw [hw'])
    simpa [Builtin.firstCells] using this
  obtain ⟨newCap, w1, hnc, hncS, ⟨hw1, sd1⟩, hrun⟩ := appendZ_run ht hI w o.type (some ⟨r.blk, r.base + 0, none⟩) i C k old.toArray hC hk0 (by unfold ML; omega) hb hold
  have hzl := zeroCells_one ht.zc
  have hlr2 : LR ρ (cs.take i ++ List.replicate k z) (old ++ List.replicate k z) := by
    refine LR.append (by simpa using hlr) (LR.of_refl fun v hv => ?_)
    rw [List.eq_of_mem_replicate hv]
    exact plain_VR ρ 9 z ht.zp
  obtain ⟨ρ', w', hnew, hvr, hr', hf'⟩ := (hr.same hw1).newGrow P (e := e) (need := i + k) (cap := newCap) (sz := 1) (rest := List.replicate (newCap - (i + k)) z) hlr2 (fun v hv => by
    rcases List.mem_append.1 hv with hv | hv
    · exact hrow.one v (List.mem_of_mem_take hv)
    · rw [List.eq_of_mem_replicate hv]; exact ht.zo) (by simp; omega) (by simp) hnc hncS (fun v hv => by rw [List.eq_of_mem_replicate hv]; exact ⟨ht.zp, ht.zo⟩)
  have e1 : (old.toArray ++ Builtin.zeroCells z.cells k ++ Builtin.zeroCells z.cells (newCap - (i + k))) = ((old ++ List.replicate k z) ++ List.replicate (newCap - (i + k)) z).toArray := by
    apply Array.ext'
    simp [hzl]
  rw [e1, hnew] at hrun
  have hrun2 : (execOp ca.eval o).run P w = .ok (.value (.slice (some ⟨w1.heap.size, 0, none⟩) (i + k) newCap)) w' := by
    obtain ⟨dst, op, type, pos, after, guard⟩ := o
    simp only at hop; subst hop
    simp only [execOp, resolve, Sem.run_bind, Sem.run_pure, Result.andThen_ok, invoke, builtin, List.map_toArray, List.map_cons, List.map_nil, hse, hxe]
    simp only at hrun
    rw [hrun]; rfl
  rw [Oper.semAt_eq _ _ _ hnd, hrun2, Oper.uponIn_value]
  exact hN _ _ ⟨ρ', _, _, hk, (ha.mono hf'.le).put hd hvr, hr', (Frm.same hw1 sd1).trans hf'⟩

/-! ### A walk that leaves some regions to be shown apart -/

def wpX (P : Program) (ids : List Nat) (rd : Option Nat) : Code → (Exit → AAct → AH → Prop) → AAct → AH → Prop
  | .skip, Q, a, h => Q .normal a h
  | .ret, Q, a, h => Q .ret a h
  | .exit id, Q, a, h => Q (.exit id) a h
  | .seq x y, Q, a, h => wpX P ids rd x (thenQ (wpX P ids rd y Q) Q) a h
  | .block id c, Q, a, h => wpX P ids rd c (blockQ id Q) a h
  | .cond c x y, Q, a, h => andK (cOK c = true) (condV (a.ev c) (wpX P ids rd x Q) (wpX P ids rd y Q)) a h
  | .region id ops false, Q, a, h => if id ∈ ids then AW P rd (.region id ops false) Q a h else opsM P ops (Q .normal) ops.toList a h
  | c, Q, a, h => AW P rd c Q a h

theorem wpX_sound {ids : List Nat} {rd : Option Nat} : ∀ (c : Code) (Q : Exit → AAct → AH → Prop) (a : AAct) (h : AH), wpX P ids rd c Q a h → AW P rd c Q a h := by
  intro c
  induction c with
  | skip => intro Q a h hq; exact AW.skip hq
  | ret => intro Q a h hq; exact AW.ret hq
  | exit id => intro Q a h hq; exact AW.exit hq
  | seq x y ihx ihy =>
    intro Q a h hq
    refine AW.seq ((ihx _ _ _ hq).mono ?_)
    intro e a h hk
    cases e <;> first | exact ihy _ _ _ hk | exact hk
  | block id c ih => intro Q a h hq; exact AW.block (ih _ _ _ hq)
  | cond c x y ihx ihy =>
    intro Q a h hq
    obtain ⟨hc, hk⟩ := hq
    generalize hv : a.ev c = v at hk
    unfold condV at hk
    split at hk
    · exact AW.cond (t := true) hc hv (ihx _ _ _ hk)
    · exact AW.cond (t := false) hc hv (ihy _ _ _ hk)
    · exact hk.elim
  | region id ops draw =>
    intro Q a h hq
    cases draw with
    | false =>
      simp only [wpX] at hq
      split at hq
      · exact hq
      · exact AW.regionL (opsM_sound _ _ _ hq)
    | true => exact hq
  | _ => intro Q a h hq; exact hq

section eqs
variable {ids : List Nat} {rd : Option Nat} {Q : Exit → AAct → AH → Prop} {a : AAct} {h : AH}
theorem wpX_skip : wpX P ids rd .skip Q a h = Q .normal a h := rfl
theorem wpX_ret : wpX P ids rd .ret Q a h = Q .ret a h := rfl
theorem wpX_exit {i : Nat} : wpX P ids rd (.exit i) Q a h = Q (.exit i) a h := rfl
theorem wpX_seq {x y : Code} : wpX P ids rd (.seq x y) Q a h = wpX P ids rd x (thenQ (wpX P ids rd y Q) Q) a h := rfl
theorem wpX_block {i : Nat} {c : Code} : wpX P ids rd (.block i c) Q a h = wpX P ids rd c (blockQ i Q) a h := rfl
theorem wpX_cond {c : Operand} {x y : Code} : wpX P ids rd (.cond c x y) Q a h = andK (cOK c = true) (condV (a.ev c) (wpX P ids rd x Q) (wpX P ids rd y Q)) a h := rfl
theorem wpX_region {i : Nat} {ops : Array Oper} : wpX P ids rd (.region i ops false) Q a h = if i ∈ ids then AW P rd (.region i ops false) Q a h else opsM P ops (Q .normal) ops.toList a h := rfl
theorem wpX_draw {i : Nat} {ops : Array Oper} : wpX P ids rd (.region i ops true) Q a h = AW P rd (.region i ops true) Q a h := rfl
theorem wpX_loop {c : Code} : wpX P ids rd (.loop c) Q a h = AW P rd (.loop c) Q a h := rfl
end eqs

theorem ACall.of_wpX {g : FuncId} {fn : Func} {c : Code} {args : List Value} {h : AH} {K : Value → AH → Prop} (ids : List Nat) (N : Nat) (rs : List ResultVar) (hf : P.funcs[g]? = some fn) (hb : fn.body = some c) (hn : (fn.name == "runtime.NumGoroutine") = false)
    (hN : args.length + (fn.ntmps - args.length) = N) (hrs : fn.results.toList = rs)
    (hw : ∀ a : AAct, a.n = N → a.df = [] → (∀ i, a.tm i = args.getD i undef) → wpX P ids none c (bodyR P rs K) a h) : ACall P g args h K := by
  refine ACall.of_body hf hb hn (wpX_sound (ids := ids) _ _ _ _ ?_)
  have := hw (enterA fn args) hN rfl (fun _ => rfl)
  subst hrs
  exact this

/-- A region, its i-th operation shown by what the model does. -/
theorem AW.regionN {rd : Option Nat} {id : Nat} {ops : Array Oper} {Q : Exit → AAct → AH → Prop} {a : AAct} {h : AH} (i : Nat) (hi : i < ops.toList.length)
    (hx : opsM P ops (fun a h => SemOp P ops (ops.toList.getD i op0) a h (opsM P ops (Q .normal) (ops.toList.drop (i + 1)))) (ops.toList.take i) a h) : AW P rd (.region id ops false) Q a h := by
  refine AW.regionX (ops.toList.take i) (ops.toList.getD i op0) (ops.toList.drop (i + 1)) ?_ hx
  rw [List.getD_eq_getElem?_getD, List.getElem?_eq_getElem hi]
  simp only [Option.getD_some]
  exact (List.take_append_drop i ops.toList).symm.trans (by rw [List.drop_eq_getElem_cons hi])

end
end Go.Ab

namespace Go.Ab

section
variable {P : Program}

def planK2 (ops : Array Oper) : Plan → Option (List (Nat × Oper) × List (Nat × Oper) × List (Nat × Oper))
  | .take i _ k => match ops[i]?, planK2 ops k with
    | some o, some (l, x) => some ((0, o) :: l, x)
    | _, _ => none
  | .only i k => match ops[i]?, planK2 ops k with
    | some o, some (l, x) => some ((2, o) :: l, x)
    | _, _ => none
  | .two i k j l => match ops[i]?, planK ops k, ops[j]?, planK ops l with
    | some o, some r, some q, some s => some ([], (2, o) :: r, (2, q) :: s)
    | _, _, _, _ => none
  | _ => none

theorem seqM_sound2 {ops : Array Oper} {Q : Exit → AAct → AH → Prop} : ∀ (p : Plan) (l l1 l2 : List (Nat × Oper)) (a : AAct) (h : AH), planK2 ops p = some (l, l1, l2) →
    seqM P ops (fun a h => seqM P ops (Q .normal) l1 [] a h ∧ seqM P ops (Q .normal) l2 [] a h) l [] a h → planW P ops Q p [] a h := by
  intro p
  induction p with
  | take i D k ih =>
    intro l l1 l2 a h hp hk
    simp only [planK2] at hp
    split at hp
    · rename_i o l' x ho hl
      cases hp
      simp only [seqM] at hk
      split at hk
      · exact hk.elim
      · rename_i hok
        obtain ⟨h1, h2⟩ := okB_spec hok
        split at hk
        · rename_i hw
          exact ⟨o, undef, ho, ⟨h1, h2, by rw [hw]; simp⟩, ih _ _ _ _ _ hl hk⟩
        · rename_i hw
          split at hk
          · rename_i v h' hd
            obtain ⟨rfl, hk⟩ := hk
            exact ⟨o, v, ho, ⟨h1, h2, by rw [hw]; exact hd⟩, ih _ _ _ _ _ hl hk⟩
          · exact hk.elim
    · cases hp
  | only i k ih =>
    intro l l1 l2 a h hp hk
    simp only [planK2] at hp
    split at hp
    · rename_i o l' x ho hl
      cases hp
      simp only [seqM] at hk
      split at hk
      · exact hk.elim
      · rename_i hok
        obtain ⟨h1, h2⟩ := okB_spec hok
        show opI P ops i a h _
        unfold opI
        rw [ho]
        refine ⟨h1, h2, ?_⟩
        split at hk
        · rename_i hw; rw [hw]; exact ⟨hk.1, ih _ _ _ _ _ hl hk.2⟩
        · rename_i hw
          rw [hw, if_pos rfl]
          split at hk
          · rename_i f args _ hop
            rw [hop]
            exact callR.mono (fun v h (hk : _ ∧ _) => ⟨hk.1, ih _ _ _ _ _ hl hk.2⟩) hk
          · rename_i it hop
            rw [hop]
            exact opR.mono (op := .next it false) (K := contK (fun a h => Keeps P ops [] a h ∧ seqM P ops (fun a h => seqM P ops (Q .normal) l1 [] a h ∧ seqM P ops (Q .normal) l2 [] a h) l' [] a h) o.dst a) (fun v h hk => ⟨hk.1, ih _ _ _ _ _ hl hk.2⟩) hk
          · split at hk
            · rename_i v h' hd
              exact opR_of_dop hd ⟨hk.1, ih _ _ _ _ _ hl hk.2⟩
            · exact hk.elim
    · cases hp
  | two i k j l2' ih1 ih2 =>
    intro l l1 l2 a h hp hk
    simp only [planK2] at hp
    split at hp
    · rename_i o r q s ho hr hq hs
      cases hp
      obtain ⟨hk1, hk2⟩ := hk
      have e1 : planK ops (.only i k) = some ((2, o) :: r) := by simp only [planK, ho, hr]
      have e2 : planK ops (.only j l2') = some ((2, q) :: s) := by simp only [planK, hq, hs]
      exact ⟨seqM_sound (.only i k) _ [] a h e1 hk1, seqM_sound (.only j l2') _ [] a h e2 hk2⟩
    · cases hp
  | done => intro l l1 l2 a h hp; cases hp
  | watch => intro l l1 l2 a h hp; cases hp
  | three => intro l l1 l2 a h hp; cases hp

theorem AW.draw2 {rd : Option Nat} {id : Nat} {ops : Array Oper} {Q : Exit → AAct → AH → Prop} {a : AAct} {h : AH} (p : Plan) (ix ix1 ix2 : List (Nat × Nat)) (hm : P.follows .mixedOrders = true)
    (hp : (planOK ops (Array.replicate ops.size false) [] p && decide (p.len ≤ ops.size)) = true) (hk : planK2 ops p = some (selL ops.toList ix, selL ops.toList ix1, selL ops.toList ix2))
    (hx : seqM P ops (fun a h => seqM P ops (Q .normal) (selL ops.toList ix1) [] a h ∧ seqM P ops (Q .normal) (selL ops.toList ix2) [] a h) (selL ops.toList ix) [] a h) : AW P rd (.region id ops true) Q a h := by
  rw [Bool.and_eq_true] at hp
  exact AW.plan p hm hp.1 (of_decide_eq_true hp.2) (seqM_sound2 p _ _ _ a h hk hx)

end
end Go.Ab
