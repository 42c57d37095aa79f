/- Own layer 'Ab': maps, lengths, copies. -/
import Derived.Test.YtnejoceplinjpaaAb5
namespace Go.Ab

def isKeyT : TypeDesc → Bool
  | .int _ | .string | .bool => true
  | _ => false

theorem checkKey_run {P : Program} {b : Bool} {n : Nat} {t : TypeId} {d : TypeDesc} {v : Value} (hd : P.underlying t = some d) (hk : isKeyT d = true) (w : World) : (Instr.checkKey b (n + 1) t v).run P w = .ok () w := by
  unfold Instr.checkKey
  simp only [Sem.run_bind, r_under w hd, Result.andThen_ok]
  cases d <;> simp_all [isKeyT]

theorem sameNow_VR {ρ : Ren} {d : TypeDesc} {a b a' b' : Value} {r : Bool} (ha : VR ρ a a') (hb : VR ρ b b') (h : Instr.sameNow d a b = some r) : Instr.sameNow d a' b' = some r := by
  unfold Instr.sameNow at h
  split at h
  · cases ha; cases hb; exact h
  · cases ha; cases hb; exact h
  · cases ha; cases hb; exact h
  · cases h

theorem sameNow_true {ρ : Ren} {d : TypeDesc} {a b a' b' : Value} (ha : VR ρ a a') (hb : VR ρ b b') (h : Instr.sameNow d a b = some true) : Instr.sameBits 10000 b' a' = true := by
  unfold Instr.sameNow at h
  split at h
  · cases ha; cases hb
    split at h
    · rename_i e; subst e; simp at h; subst h; simp [Instr.sameBits]
    · cases h
  · cases ha; cases hb
    rename_i a b
    simp only [Option.some.injEq] at h
    show (b == a) = true
    rw [beq_toListBytes, beq_iff_eq] at h
    rw [beq_toListBytes, beq_iff_eq]; exact h.symm
  · cases ha; cases hb; simp only [Option.some.injEq] at h; rw [beq_iff_eq] at h; subst h; simp [Instr.sameBits]
  · cases h

theorem ER.nil (ρ : Ren) : ER ρ [] [] := ⟨rfl, fun i e e' x _ => by simp at x⟩
theorem ER.uncons {ρ : Ren} {e : MapEntry} {es es' : List MapEntry} (h : ER ρ (e :: es) es') :
    ∃ e' r, es' = e' :: r ∧ e.born = e'.born ∧ VR ρ e.key e'.key ∧ VR ρ e.val e'.val ∧ ER ρ es r := by
  cases es' with
  | nil => have := h.1; simp at this
  | cons e' r =>
    obtain ⟨a, b, c⟩ := h.2 0 e e' rfl rfl
    exact ⟨e', r, rfl, a, b, c, by simpa using h.1, fun i x x' p q => h.2 (i + 1) x x' (by simpa using p) (by simpa using q)⟩
theorem ER.cons {ρ : Ren} {e e' : MapEntry} {es es' : List MapEntry} (a : e.born = e'.born) (b : VR ρ e.key e'.key) (c : VR ρ e.val e'.val) (h : ER ρ es es') : ER ρ (e :: es) (e' :: es') := by
  refine ⟨by simp [h.1], fun i x x' p q => ?_⟩
  cases i with
  | zero => simp at p q; subst p; subst q; exact ⟨a, b, c⟩
  | succ i => simp at p q; exact h.2 i x x' p q
theorem ER.filter {ρ : Ren} (p : Nat → Bool) : ∀ {es es' : List MapEntry}, ER ρ es es' → ER ρ (es.filter fun e => p e.born) (es'.filter fun e => p e.born) := by
  intro es
  induction es with
  | nil => intro es' h; have : es' = [] := List.eq_nil_of_length_eq_zero h.1.symm; subst this; exact ER.nil _
  | cons e es ih =>
    intro es' h
    obtain ⟨e', r, rfl, a, b, c, hr⟩ := h.uncons
    simp only [List.filter_cons, ← a]
    split
    · exact ER.cons a b c (ih hr)
    · exact ih hr
theorem ER.append {ρ : Ren} : ∀ {es es' fs fs' : List MapEntry}, ER ρ es es' → ER ρ fs fs' → ER ρ (es ++ fs) (es' ++ fs') := by
  intro es
  induction es with
  | nil => intro es' fs fs' h g; have : es' = [] := List.eq_nil_of_length_eq_zero h.1.symm; subst this; exact g
  | cons e es ih =>
    intro es' fs fs' h g
    obtain ⟨e', r, rfl, a, b, c, hr⟩ := h.uncons
    exact ER.cons a b c (ih hr g)
theorem ER.modify {ρ : Ren} {f f' : MapEntry → MapEntry} (hf : ∀ e e', e.born = e'.born → VR ρ e.key e'.key → VR ρ e.val e'.val → (f e).born = (f' e').born ∧ VR ρ (f e).key (f' e').key ∧ VR ρ (f e).val (f' e').val)
    {es es' : List MapEntry} (h : ER ρ es es') (i : Nat) : ER ρ (es.modify i f) (es'.modify i f') := by
  refine ⟨by simp [h.1], fun j x x' p q => ?_⟩
  rw [List.getElem?_modify] at p q
  cases hx : es[j]? with
  | none => simp [hx] at p
  | some e =>
    cases hx' : es'[j]? with
    | none => simp [hx'] at q
    | some e' =>
      obtain ⟨a, b, c⟩ := h.2 j e e' hx hx'
      rw [hx] at p; rw [hx'] at q
      simp only [Option.map_eq_map, Option.map_some, Option.some.injEq] at p q
      by_cases e0 : i = j
      · rw [if_pos e0] at p q; subst p; subst q; exact hf e e' a b c
      · rw [if_neg e0] at p q; subst p; subst q; exact ⟨a, b, c⟩
theorem ER.eraseIdx {ρ : Ren} : ∀ {es es' : List MapEntry} (i : Nat), ER ρ es es' → ER ρ (es.eraseIdx i) (es'.eraseIdx i) := by
  intro es
  induction es with
  | nil => intro es' i h; have : es' = [] := List.eq_nil_of_length_eq_zero h.1.symm; subst this; simpa using ER.nil ρ
  | cons e es ih =>
    intro es' i h
    obtain ⟨e', r, rfl, a, b, c, hr⟩ := h.uncons
    cases i with
    | zero => simpa using hr
    | succ i => simpa using ER.cons a b c (ih i hr)

theorem findNow_VR {ρ : Ren} {d : TypeDesc} {k k' : Value} (hk : VR ρ k k') : ∀ (es es' : List MapEntry) (i : Nat) (r : Option (Nat × Value)), ER ρ es es' → Instr.findNow d k es i = some r →
    ∃ r', Instr.findNow d k' es' i = some r' ∧ (match r, r' with | none, none => True | some (a, v), some (b, v') => a = b ∧ VR ρ v v' | _, _ => False) := by
  intro es
  induction es with
  | nil =>
    intro es' i r h hf
    have : es' = [] := List.eq_nil_of_length_eq_zero h.1.symm
    subst this
    simp only [Instr.findNow, Option.some.injEq] at hf; subst hf
    exact ⟨none, rfl, trivial⟩
  | cons e es ih =>
    intro es' i r h hf
    obtain ⟨e', q, rfl, a, b, c, hr⟩ := h.uncons
    simp only [Instr.findNow] at hf ⊢
    cases hs : Instr.sameNow d k e.key with
    | none => simp [hs] at hf
    | some t =>
      rw [sameNow_VR hk b hs]
      cases t with
      | true => simp only [hs, Option.some.injEq] at hf; subst hf; exact ⟨_, rfl, rfl, c⟩
      | false => simp only [hs] at hf; exact ih q (i + 1) r hr hf

theorem findNow_at {d : TypeDesc} {k : Value} : ∀ (es : List MapEntry) (i j : Nat) (v : Value), Instr.findNow d k es i = some (some (j, v)) → i ≤ j ∧ ∃ e, es[j - i]? = some e ∧ e.val = v ∧ Instr.sameNow d k e.key = some true := by
  intro es
  induction es with
  | nil => intro i j v h; simp [Instr.findNow] at h
  | cons e es ih =>
    intro i j v h
    simp only [Instr.findNow] at h
    cases hs : Instr.sameNow d k e.key with
    | none => simp [hs] at h
    | some t =>
      cases t with
      | true =>
        simp only [hs, Option.some.injEq, Prod.mk.injEq] at h
        obtain ⟨rfl, rfl⟩ := h
        exact ⟨Nat.le_refl _, e, by simp, rfl, hs⟩
      | false =>
        simp only [hs] at h
        obtain ⟨hle, e', he', hv, hs'⟩ := ih (i + 1) j v h
        refine ⟨by omega, e', ?_, hv, hs'⟩
        rw [show j - i = (j - (i + 1)) + 1 by omega]; simpa using he'

theorem findKey_run {P : Program} {t : TypeId} {d : TypeDesc} {k : Value} {es : List MapEntry} {r : Option (Nat × Value)} (hd : P.underlying t = some d) (h : Instr.findNow d k es 0 = some r) (w : World) :
    (Instr.findKey t k es).run P w = .ok r w := by
  simp only [Instr.findKey, Sem.run_bind, r_under w hd, Result.andThen_ok, h, Sem.run_pure]

def mapAt (h : AH) : Value → Option (List MapEntry × Nat)
  | .map (some M) => match h.get M with
    | some (.map es clk) => some (es, clk)
    | _ => none
  | _ => none

theorem mapAt_run {ρ : Ren} {h : AH} {w : World} {m m' : Value} {es : List MapEntry} {clk : Nat} (hr : HR ρ h w) (hm : VR ρ m m') (ha : mapAt h m = some (es, clk)) :
    ∃ M r es', m = .map (some M) ∧ m' = .map (some r.blk) ∧ ρ M = some r ∧ h.get M = some (.map es clk) ∧ w.heap[r.blk]? = some (.map es' clk) ∧ ER ρ es es'.toList := by
  unfold mapAt at ha
  split at ha
  · rename_i M
    split at ha
    · rename_i es0 clk0 hg
      cases ha
      cases hm with
      | map hq =>
        rename_i r
        obtain ⟨q, eq, hor⟩ := hr.obj M _ hg
        rw [hq] at eq; cases eq
        obtain ⟨es', hh, he⟩ := hor
        exact ⟨M, r, es', rfl, rfl, hq, hg, hh, he⟩
    · cases ha
  · cases ha

theorem getObj_run {P : Program} {w : World} {b : Nat} {o : Obj} (h : w.heap[b]? = some o) (ho : ∀ c e f, o ≠ .cells c e f) : (getObj b).run P w = .ok o w := by
  cases o <;> first | (simp only [getObj, Sem.run, h]; done) | exact absurd rfl (ho _ _ _)
theorem setObj_run {P : Program} {w : World} {b : Nat} {o o' : Obj} (h : w.heap[b]? = some o) (ho : ∀ c e f, o ≠ .cells c e f) : (setObj b o').run P w = .ok () { w with heap := w.heap.setIfInBounds b o' } := by
  cases o <;> first | (simp only [setObj, Sem.run, h]; done) | exact absurd rfl (ho _ _ _)

/-- An object of one's own that is no row turned. -/
theorem HR.turn {ρ : Ren} {h : AH} {w : World} (hr : HR ρ h w) {A : Nat} {o o' : AObj} {r : RE} {x : Obj} (ha : h.get A = some o) (hown : o.own = true) (hq : ρ A = some r)
    (ho : OR ρ r { w with heap := w.heap.setIfInBounds r.blk x } o') :
    HR ρ (h.set A o') { w with heap := w.heap.setIfInBounds r.blk x } ∧ Frm ρ h w ρ (h.set A o') { w with heap := w.heap.setIfInBounds r.blk x } :=
  hr.store ha hown hq (by simp) (fun b hb => by simp [Array.getElem?_setIfInBounds_ne (fun e => hb e.symm)]) ho

def aLookup (P : Program) (t : TypeId) (m k : Value) (ok : Bool) (h : AH) : Option Value :=
  match P.underlying t with
  | some (.map kt e) =>
    match P.underlying kt, P.info? e with
    | some kd, some ie =>
      match ie.zero with
      | some z =>
        if isKeyT kd = false ∨ plain 9 z = false then none else
        match (match m with | .map none => some [] | m => (mapAt h m).map (·.1)) with
        | some es =>
          match Instr.findNow kd k es 0 with
          | some (some (_, v)) => some (if ok then .tuple #[v, .bool true] else v)
          | some none => some (if ok then .tuple #[z, .bool false] else z)
          | none => none
        | none => none
      | none => none
    | _, _ => none
  | _ => none

theorem VR.pair {ρ : Ren} {a b a' b' : Value} (h : VR ρ a a') (g : VR ρ b b') : VR ρ (.tuple #[a, b]) (.tuple #[a', b']) := (LR.cons h (LR.single g)).toTuple

theorem aLookup_run {P : Program} {ρ : Ren} {h : AH} {w : World} {t : TypeId} {m k m' k' v : Value} {ok : Bool} (hr : HR ρ h w) (hm : VR ρ m m') (hk : VR ρ k k') (hv : aLookup P t m k ok h = some v) :
    Rd P ρ w (Instr.lookup t m' k' ok) v := by
  unfold aLookup at hv
  split at hv
  case h_2 => cases hv
  rename_i kt e hd
  split at hv
  case h_2 => cases hv
  rename_i kd ie hkd hie
  split at hv
  case h_2 => cases hv
  rename_i z hz
  split at hv
  · cases hv
  rename_i hc
  have hkey : isKeyT kd = true := by cases hb : isKeyT kd <;> simp_all
  have hpl : plain 9 z = true := by cases hb : plain 9 z <;> simp_all
  have hzv := plain_VR ρ 9 z hpl
  have hck := fun b w => checkKey_run (P := P) (b := b) (n := 9999) (v := k') hkd hkey w
  have fin : ∀ (es : List MapEntry) (es' : Array MapEntry), ER ρ es es'.toList → ((m' = .map none ∧ es' = #[]) ∨ ∃ b clk, m' = .map (some b) ∧ w.heap[b]? = some (.map es' clk)) →
      (match Instr.findNow kd k es 0 with
          | some (some (_, v)) => some (if ok then .tuple #[v, .bool true] else v)
          | some none => some (if ok then .tuple #[z, .bool false] else z)
          | none => none) = some v → Rd P ρ w (Instr.lookup t m' k' ok) v := by
    intro es es' her hsh hv
    cases hf : Instr.findNow kd k es 0 with
    | none => simp [hf] at hv
    | some r =>
      obtain ⟨r', hf', hrr⟩ := findNow_VR hk es es'.toList 0 r her hf
      simp only [hf] at hv
      have hfk := findKey_run (P := P) hkd hf' w
      cases r with
      | none =>
        cases r' with
        | some _ => exact hrr.elim
        | none =>
          simp only [Option.some.injEq] at hv; subst hv
          refine ⟨if ok then .tuple #[z, .bool false] else z, ?_, ?_⟩
          · rcases hsh with ⟨rfl, rfl⟩ | ⟨b, clk, rfl, hb⟩
            · simp only [Instr.lookup, Sem.run_bind, r_under w hd, Result.andThen_ok, Sem.run_pure, hck, hfk, r_zero w hie hz]
            · simp only [Instr.lookup, Sem.run_bind, r_under w hd, Result.andThen_ok, Sem.run_pure, hck, hfk, r_zero w hie hz, getObj_run hb (fun _ _ _ e => by cases e)]
          · cases ok
            · exact hzv
            · exact VR.pair hzv (.bool _)
      | some p =>
        cases r' with
        | none => exact hrr.elim
        | some p' =>
          obtain ⟨i, u⟩ := p
          obtain ⟨i', u'⟩ := p'
          obtain ⟨rfl, hu⟩ := hrr
          simp only [Option.some.injEq] at hv; subst hv
          refine ⟨if ok then .tuple #[u', .bool true] else u', ?_, ?_⟩
          · rcases hsh with ⟨rfl, rfl⟩ | ⟨b, clk, rfl, hb⟩
            · simp only [Instr.lookup, Sem.run_bind, r_under w hd, Result.andThen_ok, Sem.run_pure, hck, hfk]
            · simp only [Instr.lookup, Sem.run_bind, r_under w hd, Result.andThen_ok, Sem.run_pure, hck, hfk, getObj_run hb (fun _ _ _ e => by cases e)]
          · cases ok
            · exact hu
            · exact VR.pair hu (.bool _)
  by_cases hnil : m = .map none
  · subst hnil
    cases hm
    exact fin [] #[] (ER.nil _) (.inl ⟨rfl, rfl⟩) (by simpa using hv)
  · have hv' : (match (mapAt h m).map (·.1) with
        | some es => (match Instr.findNow kd k es 0 with
          | some (some (_, v)) => some (if ok then .tuple #[v, .bool true] else v)
          | some none => some (if ok then .tuple #[z, .bool false] else z)
          | none => none)
        | none => none) = some v := by
      cases m with
      | map o => cases o with
        | none => exact absurd rfl hnil
        | some _ => exact hv
      | _ => exact hv
    cases ha : mapAt h m with
    | none => simp [ha] at hv'
    | some p =>
      obtain ⟨es, clk⟩ := p
      obtain ⟨M, r, es', rfl, rfl, hq, hg, hh, her⟩ := mapAt_run hr hm ha
      exact fin es es' her (.inr ⟨_, _, rfl, hh⟩) (by simpa [ha] using hv')

/-- What a store at a key makes of the entries. -/
def putE (kd : TypeDesc) (k v : Value) (es : List MapEntry) (clk : Nat) : Option (List MapEntry × Nat) :=
  match Instr.findNow kd k es 0 with
  | some (some (i, _)) => some (es.modify i fun e => { e with key := k, val := v }, clk)
  | some none => some (es ++ [{ key := k, val := v, born := clk }], clk + 1)
  | none => none

def aUpdate (P : Program) (t : TypeId) (m k v : Value) (h : AH) : Option AH :=
  match P.underlying t, m with
  | some (.map kt _), .map (some M) =>
    match P.underlying kt, mapAt h m with
    | some kd, some (es, clk) => if isKeyT kd = false then none else (putE kd k v es clk).map fun x => h.set M (.map x.1 x.2)
    | _, _ => none
  | _, _ => none

theorem keyStays_run {P : Program} {old new : Value} (h : Instr.sameBits 10000 old new = true) (w : World) : (Instr.keyThatStays old new).run P w = .ok new w := by
  simp [Instr.keyThatStays, h]

theorem findNow_stays {ρ : Ren} {kd : TypeDesc} {k k' : Value} {es : List MapEntry} {es' : Array MapEntry} {i : Nat} {u : Value} (hk : VR ρ k k') (her : ER ρ es es'.toList)
    (hf : Instr.findNow kd k es 0 = some (some (i, u))) (P : Program) (w : World) : (Instr.keyThatStays (((es'[i]?).map (·.key)).getD k') k').run P w = .ok k' w := by
  obtain ⟨_, e, he, _, hs⟩ := findNow_at es 0 i u hf
  simp only [Nat.sub_zero] at he
  have hlt : i < es'.toList.length := by rw [← her.1]; exact (List.getElem?_eq_some_iff.1 he).1
  have hx : es'.toList[i]? = some es'.toList[i] := List.getElem?_eq_getElem hlt
  obtain ⟨_, hkk, _⟩ := her.2 i e _ he hx
  rw [Array.getElem?_toList] at hx
  rw [hx]
  exact keyStays_run (sameNow_true hk hkk hs) w

theorem aUpdate_snd {P : Program} {ρ : Ren} {h h' : AH} {w : World} {t : TypeId} {m k v m' k' v' : Value} (hr : HR ρ h w) (hm : VR ρ m m') (hk : VR ρ k k') (hvv : VR ρ v v') (hv : aUpdate P t m k v h = some h') :
    SndU P ρ h w (Instr.mapUpdate t m' k' v') h' := by
  unfold aUpdate at hv
  split at hv
  case h_2 => cases hv
  rename_i kt et M hd
  split at hv
  case h_2 => cases hv
  rename_i kd es clk hkd ha
  split at hv
  · cases hv
  rename_i hc
  have hkey : isKeyT kd = true := by cases hb : isKeyT kd <;> simp_all
  simp only [Option.map_eq_some_iff] at hv
  obtain ⟨⟨fs, c2⟩, hp, rfl⟩ := hv
  obtain ⟨M', r, es', hM, rfl, hq, hg, hh, her⟩ := mapAt_run hr hm ha
  cases hM
  have hck := fun b w => checkKey_run (P := P) (b := b) (n := 9999) (v := k') hkd hkey w
  have hlt : r.blk < w.heap.size := (Array.getElem?_eq_some_iff.1 hh).1
  unfold putE at hp
  cases hf : Instr.findNow kd k es 0 with
  | none => simp [hf] at hp
  | some x =>
    obtain ⟨x', hf', hrr⟩ := findNow_VR hk es es'.toList 0 x her hf
    have hfk := findKey_run (P := P) hkd hf' w
    simp only [hf] at hp
    cases x with
    | none =>
      cases x' with
      | some _ => exact hrr.elim
      | none =>
        simp only [Option.some.injEq, Prod.mk.injEq] at hp
        obtain ⟨rfl, rfl⟩ := hp
        have her2 : ER ρ (es ++ [{ key := k, val := v, born := clk }]) (es'.push { key := k', val := v', born := clk }).toList := by
          rw [Array.toList_push]; exact her.append (ER.cons rfl hk hvv (ER.nil _))
        obtain ⟨a, b⟩ := hr.turn (r := r) (x := .map (es'.push { key := k', val := v', born := clk }) (clk + 1)) (o' := .map (es ++ [{ key := k, val := v, born := clk }]) (clk + 1)) hg rfl hq ⟨_, by simp [hlt], her2⟩
        refine ⟨ρ, _, ?_, a, b⟩
        simp only [Instr.mapUpdate, Sem.run_bind, r_under w hd, Result.andThen_ok, getObj_run hh (fun _ _ _ e => by cases e), hck, hfk, setObj_run hh (fun _ _ _ e => by cases e)]
    | some p =>
      cases x' with
      | none => exact hrr.elim
      | some p' =>
        obtain ⟨i, u⟩ := p
        obtain ⟨i', u'⟩ := p'
        obtain ⟨rfl, hu⟩ := hrr
        simp only [Option.some.injEq, Prod.mk.injEq] at hp
        obtain ⟨rfl, rfl⟩ := hp
        have her2 : ER ρ (es.modify i fun e => { e with key := k, val := v }) (es'.modify i fun e => { e with key := k', val := v' }).toList := by
          rw [Array.toList_modify]; exact her.modify (f := fun e => { e with key := k, val := v }) (f' := fun e => { e with key := k', val := v' }) (fun e e' a _ _ => ⟨a, hk, hvv⟩) i
        obtain ⟨a, b⟩ := hr.turn (r := r) (x := .map (es'.modify i fun e => { e with key := k', val := v' }) clk) (o' := .map (es.modify i fun e => { e with key := k, val := v }) clk) hg rfl hq ⟨_, by simp [hlt], her2⟩
        refine ⟨ρ, _, ?_, a, b⟩
        simp only [Instr.mapUpdate, Sem.run_bind, r_under w hd, Result.andThen_ok, getObj_run hh (fun _ _ _ e => by cases e), hck, hfk]
        have hst := findNow_stays hk her hf P w
        rw [hst, Result.andThen_ok]
        exact setObj_run hh (fun _ _ _ e => by cases e)

end Go.Ab
