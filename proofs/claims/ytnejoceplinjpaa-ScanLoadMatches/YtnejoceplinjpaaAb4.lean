/- Own layer 'Ab': append. -/
import Derived.Test.YtnejoceplinjpaaAb3
namespace Go.Ab

/-- Stores into a block of cells, whatever is known of what they held. -/
theorem storesRaw (P : Program) (b : Nat) (e : TypeId) (fr : Nat × Nat) : ∀ (xs : List Value) (w : World) (cc : Array Value) (a i : Nat), w.heap[b]? = some (.cells cc e fr) → (∀ j, j < cc.size → ¬ (fr.1 ≤ j ∧ j < fr.2)) →
    (∀ x ∈ xs, oneC x = true) → a + i + xs.length ≤ cc.size →
    ∃ w' cc', (storeCells ⟨b, a, none⟩ xs i).run P w = .ok () w' ∧ w'.heap[b]? = some (.cells cc' e fr) ∧ cc'.size = cc.size ∧ w'.heap.size = w.heap.size ∧
      (∀ k, k ≠ b → w'.heap[k]? = w.heap[k]?) ∧ (∀ j v, xs[j]? = some v → cc'[a + i + j]? = some v) ∧ (∀ j, j < a + i → cc'[j]? = cc[j]?) ∧ Side w w' := by
  intro xs
  induction xs with
  | nil => intro w cc a i h _ _ _; exact ⟨w, cc, by simp [storeCells], h, rfl, rfl, fun _ _ => rfl, (fun j v hj => by simp at hj), fun _ _ => rfl, Side.refl _⟩
  | cons x xs ih =>
    intro w cc a i h hfr hone hle
    simp only [List.length_cons] at hle
    have hlt : a + i < cc.size := by omega
    have hcell : w.cell? ⟨b, a + i, none⟩ = some cc[a + i] := by simp [World.cell?, h, hlt]
    have hfro : w.frozen? ⟨b, a + i, none⟩ = false := by simp only [World.frozen?, h]; simpa using hfr (a + i) hlt
    have h1 : (Go.store ⟨b, a + i, none⟩ x).run P w = .ok () (w.setCell ⟨b, a + i, none⟩ x) := by
      rw [run_store P w _ x _ (by rw [oneC_oneCell']; exact hone x (by simp)), hcell]
      simp [hfro]
    have hb1 : (w.setCell ⟨b, a + i, none⟩ x).heap[b]? = some (.cells (cc.setIfInBounds (a + i) x) e fr) := by simp [World.setCell, Array.getElem?_modify, h]
    obtain ⟨w', cc', hrun, hb', hsz, hws, hoth, hin, hout, sd⟩ := ih (w.setCell ⟨b, a + i, none⟩ x) (cc.setIfInBounds (a + i) x) a (i + 1) hb1 (fun j hj => hfr j (by simpa using hj)) (fun y hy => hone y (by simp [hy])) (by simp; omega)
    refine ⟨w', cc', ?_, hb', by rw [hsz]; simp, by rw [hws]; simp, fun k hk => ?_, fun j v hj => ?_, fun j hj => ?_, Side.trans (⟨rfl, rfl, rfl⟩ : Side w (w.setCell ⟨b, a + i, none⟩ x)) sd⟩
    · simp only [storeCells, Sem.run_bind, add_add, h1, Result.andThen_ok]; exact hrun
    · rw [hoth k hk]; simp only [World.setCell, Array.getElem?_modify]; rw [if_neg (fun x => hk x.symm)]
    · cases j with
      | zero =>
        simp at hj; subst hj
        rw [Nat.add_zero, hout (a + i) (by omega), Array.getElem?_setIfInBounds_self_of_lt hlt]
      | succ j =>
        have := hin j v (by simpa using hj)
        rw [show a + i + (j + 1) = a + (i + 1) + j by omega]; exact this
    · rw [hout j (by omega), Array.getElem?_setIfInBounds_ne (by omega)]

theorem growBy_le (need : Nat) : ∀ (k c : Nat), c < need ∨ c ≤ 2 * need + 192 → Builtin.growBy need k c ≤ 2 * need + 192 := by
  intro k
  induction k with
  | zero => intro c h; simp only [Builtin.growBy]; omega
  | succ k ih =>
    intro c h
    simp only [Builtin.growBy]
    split
    · omega
    · exact ih _ (by omega)

theorem nextcap_le {need c : Nat} (h : c < need) : Builtin.nextslicecap need c ≤ 2 * need + 192 := by
  unfold Builtin.nextslicecap
  split
  · omega
  · split
    · omega
    · exact growBy_le need 4 c (.inl h)

/-- The elements that a source hands over. -/
def srcCells (sz : Nat) (x : Value) (h : AH) : Option (Nat × List Value) :=
  match x with
  | .slice none n _ => if n = 0 then some (0, []) else none
  | .slice (some ⟨B, o, none⟩) n _ =>
    if n = 0 then some (0, []) else
    match (h.get B).bind AObj.cells? with
    | some c => if o + n * sz ≤ c.length then some (n, (c.drop o).take (n * sz)) else none
    | none => none
  | _ => none

theorem srcCells_one {ρ : Ren} {h : AH} {w : World} {sz n : Nat} {x : Value} {ys : List Value} (hr : HR ρ h w) (hs : srcCells sz x h = some (n, ys)) : ∀ y ∈ ys, oneC y = true := by
  unfold srcCells at hs
  split at hs
  · split at hs
    · cases hs; simp
    · cases hs
  · split at hs
    · cases hs; simp
    · split at hs
      · rename_i c hc
        split at hs
        · cases hs
          obtain ⟨o, ho, hoc⟩ := Option.bind_eq_some_iff.1 hc
          obtain ⟨r, _, hor⟩ := hr.obj _ o ho
          obtain ⟨_, _, _, _, hrow⟩ := hor.rowAt hoc
          intro y hy
          exact hrow.one y (List.mem_of_mem_drop (List.mem_of_mem_take hy))
        · cases hs
      · cases hs
  · cases hs

theorem srcCells_run {P : Program} {ρ : Ren} {h : AH} {w : World} {sz n : Nat} {x x' : Value} {ys : List Value} (hr : HR ρ h w) (hx : VR ρ x x') (hs : srcCells sz x h = some (n, ys)) :
    ys.length = n * sz ∧ (∀ w, (Builtin.lenOf x').run P w = .ok n w) ∧ ∃ ys' : List Value, LR ρ ys ys' ∧ ∀ w', w'.heap = w.heap → (Builtin.firstCells sz n x').run P w' = .ok ys'.toArray w' := by
  unfold srcCells at hs
  split at hs
  · split at hs
    · rename_i e; cases hs; subst e; cases hx
      exact ⟨by simp, fun _ => rfl, [], LR.nil _, fun _ _ => rfl⟩
    · cases hs
  · rename_i B o n' cap
    have hlen : ∀ w, (Builtin.lenOf x').run P w = .ok n' w := by intro w; cases hx <;> rfl
    split at hs
    · rename_i e; cases hs; subst e
      refine ⟨by simp, hlen, [], LR.nil _, fun w' _ => ?_⟩
      cases hx <;> simp [Builtin.firstCells, loadCells, loadCellsFrom]
    · rename_i hn0
      split at hs
      · rename_i c hc
        split at hs
        · rename_i hle
          simp only [Option.some.injEq, Prod.mk.injEq] at hs
          obtain ⟨e1, e2⟩ := hs
          subst e2; subst e1
          obtain ⟨ob, hob, hoc⟩ := Option.bind_eq_some_iff.1 hc
          obtain ⟨r, hq, hor⟩ := hr.obj _ ob hob
          obtain ⟨_, _, cc, fr, hrow⟩ := hor.rowAt hoc
          obtain ⟨cs, hl, hlr, hload, _⟩ := hrow.many o (n' * sz) hle
          refine ⟨by simp; omega, hlen, cs, hlr, fun w' hw' => ?_⟩
          cases hx with
          | slice hq' hcap => rw [hq] at hq'; cases hq'; simpa [Builtin.firstCells] using hload P w' (by rw [hw'])
          | slack hq' hl' hlim => rw [hq] at hq'; cases hq'; simpa [Builtin.firstCells] using hload P w' (by rw [hw'])
          | slack0 hq' => exact absurd rfl hn0
        · cases hs
      · cases hs
  · cases hs

/-- A new row that may grow: known cells, and whatever room behind them. -/
theorem HR.newGrow {ρ : Ren} {h : AH} {w : World} (hr : HR ρ h w) (P : Program) {c c' rest : List Value} {e : TypeId} {need cap sz : Nat} (hl : LR ρ c c') (ho : ∀ v ∈ c, oneC v = true) (hc : c.length = need * sz)
    (hrest : rest.length = (cap - need) * sz) (hcap : need ≤ cap) :
    ∃ ρ' w', (Go.newRow e (c' ++ rest).toArray).run P w = .ok ⟨w.heap.size, 0, none⟩ w' ∧ VR ρ' (.slice (some ⟨h.next, 0, none⟩) need (SL + sz)) (.slice (some ⟨w.heap.size, 0, none⟩) need cap) ∧
      HR ρ' (h.new (.grow c e)) w' ∧ Frm ρ h w ρ' (h.new (.grow c e)) w' := by
  have hlen : (c' ++ rest).length = cap * sz := by
    rw [List.length_append, ← hl.1, hc, hrest, ← Nat.add_mul]; congr 1; omega
  obtain ⟨a, b⟩ := hr.alloc (x := .cells (c' ++ rest).toArray e) (o := .grow c e) (w' := { w with heap := w.heap.push (.cells (c' ++ rest).toArray e) }) (base := 0) (lim := cap * sz) rfl
    (fun ρ' hle _ => ⟨(c' ++ rest).toArray, (0, 0), ⟨by simp, by simp [hl.1], fun i v hi => by
      obtain ⟨v', x, y⟩ := hl.get hi
      refine ⟨v', ?_, y.mono hle⟩
      have hlt : i < c'.length := by rw [← hl.1]; exact (List.getElem?_eq_some_iff.1 hi).1
      simp only [Nat.zero_add, List.getElem?_toArray]
      rw [List.getElem?_append_left hlt]; exact x, fun _ i _ hi => by omega, ho⟩, by simpa using hlen⟩)
  refine ⟨_, _, rfl, ?_, a, b⟩
  have := VR.slack (ρ := ρ.put h.next ⟨w.heap.size, 0, cap * sz⟩) (A := h.next) (off := 0) (l := need) (c := cap) (s := sz) (Ren.put_same _ _ _) hcap (by simp)
  simpa using this

def isIntT : TypeDesc → Bool
  | .int _ => true
  | _ => false

/-- The greatest length that is followed. -/
def ML : Nat := 4611686018427387904

def aAppend (P : Program) (ts : Array TypeId) (s x : Value) (h : AH) : Option (Value × AH) :=
  match ts[0]?, ts[1]? with
  | some t0, some t1 =>
    match P.underlying t0, P.underlying t1 with
    | some (.slice e), some d1 =>
      match P.info? e with
      | some ie =>
        match ie.zero with
        | some z =>
          if isIntT d1 = true ∨ z.cells.size ≠ ie.size then none else
          match srcCells ie.size x h with
          | none => none
          | some (n, ys) =>
            match s with
            | .slice none len cap =>
              if len = 0 ∧ cap = 0 then
                if n = 0 then some (.slice none 0 0, h)
                else if (2 * n + 192) * ie.bytes ≤ 281474976710656 ∧ n < ML then some (.slice (some ⟨h.next, 0, none⟩) n (SL + ie.size), h.new (.grow ys e)) else none
              else none
            | .slice (some ⟨A, off, none⟩) len cap =>
              if n = 0 then (if len ≤ cap then some (s, h) else none)
              else if cap < SL then
                match h.get A with
                | none => none
                | some o =>
                  if len + n ≤ cap then (o.setCells (off + len * ie.size) ys).map fun o' => (.slice (some ⟨A, off, none⟩) (len + n) cap, h.set A o')
                  else
                    match o.cells? with
                    | none => none
                    | some c =>
                      if off + len * ie.size ≤ c.length ∧ (2 * (len + n) + 192) * ie.bytes ≤ 281474976710656 ∧ len + n < ML then
                        some (.slice (some ⟨h.next, 0, none⟩) (len + n) (SL + ie.size), h.new (.grow ((c.drop off).take (len * ie.size) ++ ys) e))
                      else none
              else
                match h.get A with
                | some (.grow c e') =>
                  if e' = e ∧ cap = SL + ie.size ∧ off + len * ie.size ≤ c.length ∧ (2 * (len + n) + 192) * ie.bytes ≤ 281474976710656 ∧ len + n < ML then
                    some (.slice (some ⟨h.next, 0, none⟩) (len + n) (SL + ie.size), (h.del A).new (.grow ((c.drop off).take (len * ie.size) ++ ys) e'))
                  else none
                | _ => none
            | _ => none
        | none => none
      | none => none
    | _, _ => none
  | _, _ => none

/-- What append does, by its two ways. -/
theorem append_run {P : Program} {w : World} {ts : Array TypeId} {ty t0 t1 e : TypeId} {d1 : TypeDesc} {ie : TypeInfo} {z : Value} {base : Option Addr} {len cap n : Nat} {x : Value} {ys : Array Value}
    (h0 : ts[0]? = some t0) (h1 : ts[1]? = some t1) (u0 : P.underlying t0 = some (.slice e)) (u1 : P.underlying t1 = some d1) (hd : isIntT d1 = false)
    (hi : P.info? e = some ie) (hz : ie.zero = some z) (hlen : ∀ w, (Builtin.lenOf x).run P w = .ok n w) (hys : (Builtin.firstCells ie.size n x).run P w = .ok ys w) :
    (len + n ≤ cap → (Builtin.append_ ts ty #[.slice base len cap, x]).run P w =
      ((match base with | some a => storeCells (a.add (len * ie.size)) ys.toList | none => Pure.pure ()).run P w).andThen fun _ w' => .ok (.slice base (len + n) cap) w') ∧
    (cap < len + n → len + n < ML → (2 * (len + n) + 192) * ie.bytes ≤ 281474976710656 → 0 < len + n → ∀ old : Array Value, (∀ w', w'.heap = w.heap → (Builtin.firstCells ie.size len (.slice base len cap)).run P w' = .ok old w') →
      (∀ w', w'.heap = w.heap → (Builtin.firstCells ie.size n x).run P w' = .ok ys w') →
      ∃ newCap w1, len + n ≤ newCap ∧ (w1.heap = w.heap ∧ Side w w1) ∧ (Builtin.append_ ts ty #[.slice base len cap, x]).run P w =
        ((Go.newRow e (old ++ ys ++ Builtin.zeroCells z.cells (newCap - (len + n)))).run P w1).andThen fun a w' => .ok (.slice (some a) (len + n) newCap) w') := by
  constructor
  · intro hle
    unfold Builtin.append_
    simp only [h0, h1, List.getElem?_toArray, List.getElem?_cons_zero, List.getElem?_cons_succ, Sem.run_bind, r_under w u0, r_under w u1, Result.andThen_ok, r_size w hi, Sem.run_pure]
    cases d1 <;> simp only [isIntT, Bool.true_eq_false] at hd <;>
      (simp only [Bool.false_eq_true, if_false, hlen, Result.andThen_ok, Bool.not_false, if_true, hle, Sem.run_bind, hys]
       cases base <;> simp)
  · intro hgt hsl hby hpos old hold hys'
    have hforced : (Question.appendCap (len + n) cap e).forced = false := rfl
    refine ⟨len + n + (w.tape w.drawn (.appendCap (len + n) cap e)) % (2 ^ 63 - (len + n)), { w with drawn := w.drawn + 1 }, by omega, ⟨rfl, ⟨rfl, rfl, rfl⟩⟩, ?_⟩
    have hnc : ¬ Builtin.nextslicecap (len + n) cap * ie.bytes > 2 ^ 48 := by
      have h1 := nextcap_le hgt
      have h2 : Builtin.nextslicecap (len + n) cap * ie.bytes ≤ (2 * (len + n) + 192) * ie.bytes := Nat.mul_le_mul_right _ h1
      omega
    have hmax : ¬ (((len + n : Nat) : Int) > IntKind.i64.max ∧ ie.bytes = 0) := by
      have : IntKind.i64.max = 9223372036854775807 := by decide
      unfold ML at hsl
      omega
    unfold Builtin.append_
    simp only [h0, h1, List.getElem?_toArray, List.getElem?_cons_zero, List.getElem?_cons_succ, Sem.run_bind, r_under w u0, r_under w u1, Result.andThen_ok, r_size w hi, Sem.run_pure]
    have hnle : ¬ (len + n ≤ cap) := by omega
    cases d1 <;> simp only [isIntT, Bool.true_eq_false] at hd <;>
      (simp only [Bool.false_eq_true, if_false, hlen, Result.andThen_ok, Bool.not_false, if_true, hnle, Sem.run_bind, r_info w hi, false_or, hmax, hnc, run_choose, hforced, Question.cut, run_askRoom]
       rw [r_info _ hi, Result.andThen_ok, hold { w with drawn := w.drawn + 1 } rfl, Result.andThen_ok, hys' { w with drawn := w.drawn + 1 } rfl, Result.andThen_ok, r_zero _ hi hz, Result.andThen_ok]
       rfl)

theorem zeroCells_length (z : Array Value) (n : Nat) : (Builtin.zeroCells z n).toList.length = n * z.size := by simp [Builtin.zeroCells]

theorem aAppend_snd {P : Program} {ρ : Ren} {h h' : AH} {w : World} {ts : Array TypeId} {ty : TypeId} {s x s' x' v : Value} (hr : HR ρ h w) (hs : VR ρ s s') (hx : VR ρ x x')
    (hv : aAppend P ts s x h = some (v, h')) : Snd P ρ h w (Builtin.append_ ts ty #[s', x']) v h' := by
  unfold aAppend at hv
  split at hv
  case h_2 => cases hv
  rename_i t0 t1 h0 h1
  split at hv
  case h_2 => cases hv
  rename_i e d1 u0 u1
  split at hv
  case h_2 => cases hv
  rename_i ie hi
  split at hv
  case h_2 => cases hv
  rename_i z hz
  split at hv
  · cases hv
  rename_i hcond
  have hd : isIntT d1 = false := by cases hb : isIntT d1 <;> simp_all
  have hzs : z.cells.size = ie.size := by
    apply Classical.byContradiction; intro hn; exact hcond (.inr hn)
  cases hsrc : srcCells ie.size x h with
  | none => simp [hsrc] at hv
  | some p =>
    obtain ⟨n, ys⟩ := p
    simp only [hsrc] at hv
    obtain ⟨hyl, hlen, ys', hlr, hfirst⟩ := srcCells_run (P := P) hr hx hsrc
    have hone := srcCells_one hr hsrc
    have ways := fun base len cap => append_run (P := P) (w := w) (ty := ty) (base := base) (len := len) (cap := cap) h0 h1 u0 u1 hd hi hz hlen (hfirst w rfl)
    have mk : ∀ (ρ₁ : Ren) (h₁ : AH) (base : Option Addr) (len cap : Nat) (old old' : List Value) (e₂ : TypeId), HR ρ₁ h₁ w → Frm ρ h w ρ₁ h₁ w → cap < len + n → len + n < ML → (2 * (len + n) + 192) * ie.bytes ≤ 281474976710656 → 0 < len + n →
        old.length = len * ie.size → LR ρ₁ old old' → (∀ v ∈ old, oneC v = true) → LR ρ₁ ys ys' →
        (∀ w', w'.heap = w.heap → (Builtin.firstCells ie.size len (.slice base len cap)).run P w' = .ok old'.toArray w') → e₂ = e →
        Snd P ρ h w (Builtin.append_ ts ty #[.slice base len cap, x']) (.slice (some ⟨h₁.next, 0, none⟩) (len + n) (SL + ie.size)) (h₁.new (.grow (old ++ ys) e₂)) := by
      intro ρ₁ h₁ base len cap old old' e₂ hr₁ hf₁ hgt hml hby hpos hol hlro hoo hlry hold he
      subst he
      obtain ⟨nc, w1, hnc, ⟨hw1, sd1⟩, hrun⟩ := (ways base len cap).2 hgt hml hby hpos old'.toArray hold hfirst
      have hrest : (Builtin.zeroCells z.cells (nc - (len + n))).toList.length = (nc - (len + n)) * ie.size := by rw [zeroCells_length, hzs]
      obtain ⟨ρ', w', hnew, hvr, hr', hf'⟩ := (hr₁.same hw1).newGrow P (e := e₂) (need := len + n) (cap := nc) (sz := ie.size) (hlro.append hlry) (fun v hv => by
        rcases List.mem_append.1 hv with hv | hv
        · exact hoo v hv
        · exact hone v hv) (by rw [List.length_append, hol, hyl, ← Nat.add_mul]) hrest hnc
      refine ⟨ρ', _, w', ?_, hvr, hr', (hf₁.trans (Frm.same hw1 sd1)).trans hf'⟩
      rw [hrun]
      have e1 : (old'.toArray ++ ys'.toArray ++ Builtin.zeroCells z.cells (nc - (len + n))) = ((old' ++ ys') ++ (Builtin.zeroCells z.cells (nc - (len + n))).toList).toArray := by
        apply Array.ext'; simp
      rw [e1, hnew]; rfl
    split at hv
    · -- a nil slice
      rename_i len cap
      split at hv
      case isFalse => cases hv
      rename_i hlc
      obtain ⟨rfl, rfl⟩ := hlc
      cases hs
      split at hv
      · rename_i hn
        cases hv; subst hn
        refine Snd.pure (v' := .slice none 0 0) hr ?_ (.nilSlice _ _)
        rw [(ways none 0 0).1 (by omega)]; rfl
      · rename_i hn
        split at hv
        · rename_i hb
          cases hv
          have := mk ρ h none 0 0 [] [] e hr (Frm.refl _ _ _) (by omega) (by omega) (by simpa using hb.1) (by omega) (by simp) (LR.nil _) (by simp) hlr (fun w' _ => rfl) rfl
          simpa using this
        · cases hv
    · rename_i A off len cap
      split at hv
      · -- nothing to append
        rename_i hn
        split at hv
        · rename_i hle
          cases hv; subst hn
          have hys0 : ys' = [] := List.eq_nil_of_length_eq_zero (by rw [← hlr.1, hyl]; simp)
          subst hys0
          have key : ∀ a c, len ≤ c → (Builtin.append_ ts ty #[.slice (some a) len c, x']).run P w = .ok (.slice (some a) len c) w := by
            intro a c hc
            rw [(ways (some a) len c).1 (by omega)]
            simp [storeCells]
          cases hs with
          | slice hq hc => exact Snd.pure hr (key _ _ hle) (.slice hq hc)
          | slack hq hl hlim => exact Snd.pure hr (key _ _ hl) (.slack hq hl hlim)
          | slack0 hq => exact Snd.pure hr (key _ _ (Nat.le_refl _)) (.slack0 hq)
        · cases hv
      · rename_i hn
        split at hv
        · -- the room is known
          rename_i hcap
          cases ho : h.get A with
          | none => simp [ho] at hv
          | some o =>
            simp only [ho] at hv
            cases hs with
            | slack hq hl hlim => omega
            | slack0 hq => omega
            | slice hq hc =>
              rename_i r
              split at hv
              · rename_i hle
                simp only [Option.map_eq_some_iff, Prod.mk.injEq] at hv
                obtain ⟨o', hset, rfl, rfl⟩ := hv
                obtain ⟨w', hrun, hr', hf'⟩ := hr.stores P (off := off + len * ie.size) ho hq hlr hone hset
                refine ⟨ρ, _, w', ?_, .slice hq hc, hr', hf'⟩
                rw [(ways (some _) len cap).1 hle]
                simp only [add_add]
                rw [Nat.add_assoc, hrun]; rfl
              · rename_i hnle
                cases hcs : o.cells? with
                | none => simp [hcs] at hv
                | some c =>
                  simp only [hcs] at hv
                  split at hv
                  · rename_i hb
                    cases hv
                    obtain ⟨q, eq, hor⟩ := hr.obj A o ho
                    rw [hq] at eq; cases eq
                    obtain ⟨_, _, cc, fr, hrow⟩ := hor.rowAt hcs
                    obtain ⟨cs, hl, hlr2, hload, _⟩ := hrow.many off (len * ie.size) hb.1
                    exact mk ρ h (some _) len cap _ cs e hr (Frm.refl _ _ _) (by omega) hb.2.2 hb.2.1 (by omega) (by simp; omega) hlr2 (fun v hv => hrow.one v (List.mem_of_mem_drop (List.mem_of_mem_take hv))) hlr
                      (fun w' hw' => by simpa [Builtin.firstCells] using hload P w' (by rw [hw'])) rfl
                  · cases hv
        · -- a row that may grow
          rename_i hcap
          split at hv
          case h_2 => cases hv
          rename_i c e' ho
          split at hv
          case isFalse => cases hv
          rename_i hb
          cases hv
          obtain ⟨rfl, hce, hle, hby, hml⟩ := hb
          cases hs with
          | slice hq hc => exact absurd hc hcap
          | slack hq hl hlim =>
            rename_i cc0 s r
            have hse : s = ie.size := by omega
            subst hse
            obtain ⟨q, eq, hor⟩ := hr.obj A _ ho
            rw [hq] at eq; cases eq
            obtain ⟨cc, fr, hrow, hsz⟩ := hor
            obtain ⟨cs, hcl, hlr2, hload, hcs⟩ := hrow.many off (len * ie.size) hle
            by_cases hfit : len + n ≤ cc0
            · -- in place
              have hmul : (len + n) * ie.size ≤ cc0 * ie.size := Nat.mul_le_mul_right _ hfit
              have hdist : (len + n) * ie.size = len * ie.size + n * ie.size := Nat.add_mul _ _ _
              have hyl' : ys'.length = n * ie.size := by rw [← hlr.1, hyl]
              have hone' : ∀ x ∈ ys', oneC x = true := by
                intro x hx'
                obtain ⟨i, hi'⟩ := List.getElem?_of_mem hx'
                have hlt : i < ys.length := by rw [hlr.1]; exact (List.getElem?_eq_some_iff.1 hi').1
                rw [(hlr.2 i _ _ (List.getElem?_eq_getElem hlt) hi').one]
                exact hone _ (List.getElem_mem hlt)
              obtain ⟨w', cc', hrun, hb', hcsz, hwsz, hoth, hin, hout, sd⟩ := storesRaw P r.blk e' fr ys' w cc (r.base + off + len * ie.size) 0 hrow.heap (hrow.free rfl) hone' (by omega)
              obtain ⟨hr', hf'⟩ := hr.moved (r' := ⟨r.blk, r.base + off, r.lim⟩) (o' := .grow ((c.drop off).take (len * ie.size) ++ ys) e') ho rfl hq rfl hwsz hoth (fun ρ' hle' => by
                refine ⟨cc', fr, ⟨hb', ?_, fun i u hu => ?_, fun _ j hj => hrow.free rfl j (by omega), fun u hu => ?_⟩, by rw [hcsz, hsz]⟩
                · simp only [List.length_append, List.length_take, List.length_drop, hyl]; omega
                · by_cases hi' : i < len * ie.size
                  · rw [List.getElem?_append_left (by simp; omega), List.getElem?_take, if_pos hi', List.getElem?_drop] at hu
                    obtain ⟨u', hu1, hu2⟩ := hrow.cell _ _ hu
                    refine ⟨u', ?_, hu2.mono hle'⟩
                    show cc'[r.base + off + i]? = some u'
                    rw [hout _ (by omega), Nat.add_assoc]; exact hu1
                  · rw [List.getElem?_append_right (by simp; omega)] at hu
                    have hl' : ((c.drop off).take (len * ie.size)).length = len * ie.size := by simp; omega
                    rw [hl'] at hu
                    obtain ⟨u', hu1, hu2⟩ := hlr.get hu
                    refine ⟨u', ?_, hu2.mono hle'⟩
                    have := hin _ _ hu1
                    show cc'[r.base + off + i]? = some u'
                    rw [show r.base + off + i = r.base + off + len * ie.size + 0 + (i - len * ie.size) by omega]; exact this
                · rcases List.mem_append.1 hu with hu | hu
                  · exact hrow.one u (List.mem_of_mem_drop (List.mem_of_mem_take hu))
                  · exact hone u hu) sd
              refine ⟨_, .slice (some ⟨r.blk, r.base + off, none⟩) (len + n) cc0, w', ?_, ?_, hr', hf'⟩
              · rw [(ways (some _) len cc0).1 hfit]
                simp only [add_add]
                rw [hrun]; rfl
              · have := VR.slack (ρ := ρ.put h.next ⟨r.blk, r.base + off, r.lim⟩) (A := h.next) (off := 0) (l := len + n) (c := cc0) (s := ie.size) (Ren.put_same _ _ _) hfit hlim
                simpa using this
            · obtain ⟨hr₁, hf₁⟩ := hr.forget A
              exact mk ρ (h.del A) (some _) len cc0 _ cs e' hr₁ hf₁ (by omega) hml hby (by omega) (by simp; omega) hlr2 (fun v hv => hrow.one v (List.mem_of_mem_drop (List.mem_of_mem_take hv))) hlr
                (fun w' hw' => by simpa [Builtin.firstCells] using hload P w' (by rw [hw'])) rfl
          | slack0 hq =>
            rename_i off' s r
            obtain ⟨hr₁, hf₁⟩ := hr.forget A
            have := mk ρ (h.del A) (some ⟨r.blk, off', none⟩) 0 0 [] [] e' hr₁ hf₁ (by omega) hml hby (by omega) (by simp) (LR.nil _) (by simp) hlr
              (fun w' _ => by simp [Builtin.firstCells, loadCells, loadCellsFrom]) rfl
            simpa using this
    · cases hv

end Go.Ab
