/- Own layer 'Ab': entries, deletions, lengths, copies, walks over maps. -/
import Derived.Test.YtnejoceplinjpaaAb6
namespace Go.Ab

def aEntry (P : Program) (t : TypeId) (m k : Value) (h : AH) : Option (Value × AH) :=
  match P.underlying t, m with
  | some (.map kt et), .map (some M) =>
    match P.underlying kt, mapAt h m, P.info? et with
    | some kd, some (es, clk), some ie =>
      match ie.zero with
      | some z =>
        if isKeyT kd = false ∨ plain 9 z = false then none else
        match Instr.findNow kd k es 0 with
        | some (some (i, v)) => some (.tuple #[v, .int .i64 (((es[i]?).map (·.born)).getD 0)], h.set M (.map (es.modify i fun e => { e with key := k }) clk))
        | some none => some (.tuple #[z, .int .i64 clk], h.set M (.map (es ++ [{ key := k, val := z, born := clk }]) (clk + 1)))
        | none => none
      | none => none
    | _, _, _ => none
  | _, _ => none

theorem aEntry_snd {P : Program} {ρ : Ren} {h h' : AH} {w : World} {t : TypeId} {m k v m' k' : Value} (hr : HR ρ h w) (hm : VR ρ m m') (hk : VR ρ k k') (hv : aEntry P t m k h = some (v, h')) :
    Snd P ρ h w (Instr.mapEntry t m' k') v h' := by
  unfold aEntry at hv
  split at hv
  case h_2 => cases hv
  rename_i kt et M hd
  split at hv
  case h_2 => cases hv
  rename_i kd es clk ie hkd ha hie
  split at hv
  case h_2 => cases hv
  rename_i z hz
  split at hv
  · cases hv
  rename_i hc
  have hkey : isKeyT kd = true := by cases hb : isKeyT kd <;> simp_all
  have hpl : plain 9 z = true := by cases hb : plain 9 z <;> simp_all
  have hzv := plain_VR ρ 9 z hpl
  obtain ⟨M', r, es', hM, rfl, hq, hg, hh, her⟩ := mapAt_run hr hm ha
  cases hM
  have hck := fun b w => checkKey_run (P := P) (b := b) (n := 9999) (v := k') hkd hkey w
  have hlt : r.blk < w.heap.size := (Array.getElem?_eq_some_iff.1 hh).1
  cases hf : Instr.findNow kd k es 0 with
  | none => simp [hf] at hv
  | some x =>
    obtain ⟨x', hf', hrr⟩ := findNow_VR hk es es'.toList 0 x her hf
    have hfk := findKey_run (P := P) hkd hf' w
    simp only [hf] at hv
    cases x with
    | none =>
      cases x' with
      | some _ => exact hrr.elim
      | none =>
        cases hv
        have her2 : ER ρ (es ++ [{ key := k, val := z, born := clk }]) (es'.push { key := k', val := z, born := clk }).toList := by
          rw [Array.toList_push]; exact her.append (ER.cons rfl hk hzv (ER.nil _))
        obtain ⟨a, b⟩ := hr.turn (r := r) (x := .map (es'.push { key := k', val := z, born := clk }) (clk + 1)) (o' := .map (es ++ [{ key := k, val := z, born := clk }]) (clk + 1)) hg rfl hq ⟨_, by simp [hlt], her2⟩
        refine ⟨ρ, .tuple #[z, .int .i64 clk], _, ?_, VR.pair hzv (.int _ _), a, b⟩
        simp only [Instr.mapEntry, Sem.run_bind, r_under w hd, Result.andThen_ok, getObj_run hh (fun _ _ _ e => by cases e), hck, hfk, r_zero w hie hz, setObj_run hh (fun _ _ _ e => by cases e), Sem.run_pure, goInt]
    | some p =>
      cases x' with
      | none => exact hrr.elim
      | some p' =>
        obtain ⟨i, u⟩ := p
        obtain ⟨i', u'⟩ := p'
        obtain ⟨rfl, hu⟩ := hrr
        cases hv
        have her2 : ER ρ (es.modify i fun e => { e with key := k }) (es'.modify i fun e => { e with key := k' }).toList := by
          rw [Array.toList_modify]; exact her.modify (f := fun e => { e with key := k }) (f' := fun e => { e with key := k' }) (fun e e' a _ c => ⟨a, hk, c⟩) i
        obtain ⟨a, b⟩ := hr.turn (r := r) (x := .map (es'.modify i fun e => { e with key := k' }) clk) (o' := .map (es.modify i fun e => { e with key := k }) clk) hg rfl hq ⟨_, by simp [hlt], her2⟩
        have hborn : ((es'[i]?).map (fun e => (e.born : Int))).getD 0 = ((es[i]?).map (fun e => (e.born : Int))).getD 0 := by
          obtain ⟨_, e, he, _, _⟩ := findNow_at es 0 i u hf
          simp only [Nat.sub_zero] at he
          have hlt' : i < es'.toList.length := by rw [← her.1]; exact (List.getElem?_eq_some_iff.1 he).1
          have hx : es'.toList[i]? = some es'.toList[i] := List.getElem?_eq_getElem hlt'
          obtain ⟨hb, _, _⟩ := her.2 i e _ he hx
          rw [Array.getElem?_toList] at hx
          rw [hx, he]; simp only [Option.map_some, Option.getD_some]; omega
        refine ⟨ρ, .tuple #[u', .int .i64 (((es[i]?).map (·.born)).getD 0)], _, ?_, VR.pair hu (.int _ _), a, b⟩
        simp only [Instr.mapEntry, Sem.run_bind, r_under w hd, Result.andThen_ok, getObj_run hh (fun _ _ _ e => by cases e), hck, hfk]
        have hst := findNow_stays hk her hf P w
        rw [hst, Result.andThen_ok, setObj_run hh (fun _ _ _ e => by cases e), Result.andThen_ok, hborn]
        rfl

def aEntryStore (m s v : Value) (h : AH) : Option AH :=
  match m, s with
  | .map (some M), .int _ n =>
    match mapAt h m with
    | some (es, clk) =>
      match es.findIdx? (fun e => (e.born : Int) == n) with
      | some i => some (h.set M (.map (es.modify i fun e => { e with val := v }) clk))
      | none => none
    | none => none
  | _, _ => none

theorem ER.findIdx {ρ : Ren} (n : Int) : ∀ {es es' : List MapEntry}, ER ρ es es' → es'.findIdx? (fun e => (e.born : Int) == n) = es.findIdx? (fun e => (e.born : Int) == n) := by
  intro es
  induction es with
  | nil => intro es' h; have : es' = [] := List.eq_nil_of_length_eq_zero h.1.symm; subst this; rfl
  | cons e es ih =>
    intro es' h
    obtain ⟨e', r, rfl, a, b, c, hr⟩ := h.uncons
    simp only [List.findIdx?_cons, ← a, ih hr]

theorem aEntryStore_snd {P : Program} {ρ : Ren} {h h' : AH} {w : World} {t : TypeId} {m s v m' s' v' : Value} (hr : HR ρ h w) (hm : VR ρ m m') (hs : VR ρ s s') (hvv : VR ρ v v') (hv : aEntryStore m s v h = some h') :
    SndU P ρ h w (Instr.entryStore t m' s' v') h' := by
  unfold aEntryStore at hv
  split at hv
  case h_2 => cases hv
  rename_i M k n
  cases hs
  split at hv
  case h_2 => cases hv
  rename_i es clk ha
  split at hv
  case h_2 => cases hv
  rename_i i hi
  cases hv
  obtain ⟨M', r, es', hM, rfl, hq, hg, hh, her⟩ := mapAt_run hr hm ha
  cases hM
  have hlt : r.blk < w.heap.size := (Array.getElem?_eq_some_iff.1 hh).1
  have her2 : ER ρ (es.modify i fun e => { e with val := v }) (es'.modify i fun e => { e with val := v' }).toList := by
    rw [Array.toList_modify]; exact her.modify (f := fun e => { e with val := v }) (f' := fun e => { e with val := v' }) (fun e e' a b _ => ⟨a, b, hvv⟩) i
  obtain ⟨a, b⟩ := hr.turn (r := r) (x := .map (es'.modify i fun e => { e with val := v' }) clk) (o' := .map (es.modify i fun e => { e with val := v }) clk) hg rfl hq ⟨_, by simp [hlt], her2⟩
  refine ⟨ρ, _, ?_, a, b⟩
  have hidx : es'.findIdx? (fun e => (e.born : Int) == n) = some i := by
    have e0 : es' = es'.toList.toArray := by simp
    rw [e0, List.findIdx?_toArray, her.findIdx, hi]
  simp only [Instr.entryStore, Sem.run_bind, Sem.run_pure, Result.andThen_ok, getObj_run hh (fun _ _ _ e => by cases e), asInt, asIntOf, hidx, setObj_run hh (fun _ _ _ e => by cases e)]

def aDelete (P : Program) (t : TypeId) (m k : Value) (h : AH) : Option AH :=
  match P.underlying t, m with
  | some (.map kt _), .map (some M) =>
    match P.underlying kt, mapAt h m with
    | some kd, some (es, clk) =>
      if isKeyT kd = false then none else
      match Instr.findNow kd k es 0 with
      | some (some (i, _)) => some (h.set M (.map (es.eraseIdx i) clk))
      | some none => some (h.set M (.map es clk))
      | none => none
    | _, _ => none
  | some (.map kt _), .map none => match P.underlying kt with
    | some kd => if isKeyT kd = false then none else some h
    | none => none
  | _, _ => none

theorem aDelete_snd {P : Program} {ρ : Ren} {h h' : AH} {w : World} {ts : Array TypeId} {ty t : TypeId} {m k m' k' : Value} (ht : ts[0]? = some t) (hr : HR ρ h w) (hm : VR ρ m m') (hk : VR ρ k k')
    (hv : aDelete P t m k h = some h') : Snd P ρ h w (Builtin.delete_ ts ty #[m', k']) undef h' := by
  unfold aDelete at hv
  split at hv
  case h_3 => cases hv
  · rename_i kt et M hd
    split at hv
    case h_2 => cases hv
    rename_i kd es clk hkd ha
    split at hv
    · cases hv
    rename_i hc
    have hkey : isKeyT kd = true := by cases hb : isKeyT kd <;> simp_all
    obtain ⟨M', r, es', hM, rfl, hq, hg, hh, her⟩ := mapAt_run hr hm ha
    cases hM
    have hck := fun b w => checkKey_run (P := P) (b := b) (n := 9999) (v := k') hkd hkey w
    have hlt : r.blk < w.heap.size := (Array.getElem?_eq_some_iff.1 hh).1
    cases hf : Instr.findNow kd k es 0 with
    | none => simp [hf] at hv
    | some x =>
      obtain ⟨x', hf', hrr⟩ := findNow_VR hk es es'.toList 0 x her hf
      have hfk := findKey_run (P := P) hkd hf' w
      simp only [hf] at hv
      cases x with
      | none =>
        cases x' with
        | some _ => exact hrr.elim
        | none =>
          cases hv
          obtain ⟨a, b⟩ := hr.turn (r := r) (x := .map es' clk) (o' := .map es clk) hg rfl hq ⟨_, by simp [hlt], her⟩
          refine ⟨ρ, undef, _, ?_, VR.undef _, a, b⟩
          simp only [Builtin.delete_, ht, List.getElem?_toArray, List.getElem?_cons_zero, List.getElem?_cons_succ, Sem.run_bind, r_under w hd, Result.andThen_ok, getObj_run hh (fun _ _ _ e => by cases e), hck, hfk, setObj_run hh (fun _ _ _ e => by cases e), Sem.run_pure, undef]
      | some p =>
        cases x' with
        | none => exact hrr.elim
        | some p' =>
          obtain ⟨i, u⟩ := p
          obtain ⟨i', u'⟩ := p'
          obtain ⟨rfl, hu⟩ := hrr
          cases hv
          have her2 : ER ρ (es.eraseIdx i) (es'.eraseIdxIfInBounds i).toList := by
            have : (es'.eraseIdxIfInBounds i).toList = es'.toList.eraseIdx i := by
              unfold Array.eraseIdxIfInBounds
              split
              · simp
              · rename_i hge; rw [List.eraseIdx_of_length_le (by simpa using hge)]
            rw [this]; exact ER.eraseIdx i her
          obtain ⟨a, b⟩ := hr.turn (r := r) (x := .map (es'.eraseIdxIfInBounds i) clk) (o' := .map (es.eraseIdx i) clk) hg rfl hq ⟨_, by simp [hlt], her2⟩
          refine ⟨ρ, undef, _, ?_, VR.undef _, a, b⟩
          simp only [Builtin.delete_, ht, List.getElem?_toArray, List.getElem?_cons_zero, List.getElem?_cons_succ, Sem.run_bind, r_under w hd, Result.andThen_ok, getObj_run hh (fun _ _ _ e => by cases e), hck, hfk, setObj_run hh (fun _ _ _ e => by cases e), Sem.run_pure, undef]
  · rename_i kt et hd
    split at hv
    case h_2 => cases hv
    rename_i kd hkd
    split at hv
    · cases hv
    rename_i hc
    have hkey : isKeyT kd = true := by cases hb : isKeyT kd <;> simp_all
    cases hv
    cases hm
    have hck := fun b w => checkKey_run (P := P) (b := b) (n := 9999) (v := k') hkd hkey w
    refine Snd.pure (v' := undef) hr ?_ (VR.undef _)
    simp only [Builtin.delete_, ht, List.getElem?_toArray, List.getElem?_cons_zero, List.getElem?_cons_succ, Sem.run_bind, r_under w hd, Result.andThen_ok, hck, Sem.run_pure, undef]

def aLen (P : Program) (t : TypeId) (x : Value) (h : AH) : Option Value :=
  match P.underlying t, x with
  | some .string, .string s => some (.int .i64 s.size)
  | some (.array n _), _ => some (.int .i64 n)
  | some (.slice _), .slice _ n _ => some (.int .i64 n)
  | some (.map _ _), .map none => some (.int .i64 0)
  | some (.map _ _), .map (some M) => match h.get M with
    | some (.map es _) => some (.int .i64 es.length)
    | _ => none
  | _, _ => none

theorem aLen_run {P : Program} {ρ : Ren} {h : AH} {w : World} {ts : Array TypeId} {ty t : TypeId} {x x' v : Value} (ht : ts[0]? = some t) (hr : HR ρ h w) (hx : VR ρ x x') (hv : aLen P t x h = some v) :
    Rd P ρ w (Builtin.len_ ts ty #[x']) v := by
  unfold aLen at hv
  split at hv
  · rename_i s hd; cases hx; cases hv
    exact ⟨_, by simp only [Builtin.len_, ht, List.getElem?_toArray, List.getElem?_cons_zero, Sem.run_bind, r_under w hd, Result.andThen_ok, Sem.run_pure, goInt], .int _ _⟩
  · rename_i n e hd; cases hv
    exact ⟨_, by simp only [Builtin.len_, ht, List.getElem?_toArray, List.getElem?_cons_zero, Sem.run_bind, r_under w hd, Result.andThen_ok, Sem.run_pure, goInt], .int _ _⟩
  · rename_i e a n c hd; cases hv
    cases hx <;> exact ⟨_, by simp only [Builtin.len_, ht, List.getElem?_toArray, List.getElem?_cons_zero, Sem.run_bind, r_under w hd, Result.andThen_ok, Sem.run_pure, goInt], .int _ _⟩
  · rename_i a b hd; cases hx; cases hv
    exact ⟨_, by simp only [Builtin.len_, ht, List.getElem?_toArray, List.getElem?_cons_zero, Sem.run_bind, r_under w hd, Result.andThen_ok, Sem.run_pure, goInt], .int _ _⟩
  · rename_i a b M hd
    split at hv
    · rename_i es clk hg
      cases hv
      obtain ⟨M', r, es', hM, rfl, hq, hg', hh, her⟩ := mapAt_run (es := es) (clk := clk) hr hx (by simp [mapAt, hg])
      refine ⟨.int .i64 es.length, ?_, .int _ _⟩
      have hl : es'.size = es.length := by rw [her.1]; simp
      simp only [Builtin.len_, ht, List.getElem?_toArray, List.getElem?_cons_zero, Sem.run_bind, r_under w hd, Result.andThen_ok, getObj_run hh (fun _ _ _ e => by cases e), Sem.run_pure, goInt, hl]
    · cases hv
  · cases hv

def aMin2 : Value → Value → Option Value
  | .int k x, .int _ y => some (.int k (if y < x then y else x))
  | _, _ => none
def aMax2 : Value → Value → Option Value
  | .int k x, .int _ y => some (.int k (if y > x then y else x))
  | _, _ => none
def aFold (f : Value → Value → Option Value) : Value → List Value → Option Value
  | x, [] => some x
  | x, y :: ys => match f x y with
    | some z => aFold f z ys
    | none => none

theorem aFold_run {P : Program} {ρ : Ren} {f : Value → Value → Option Value} {g : Value → Value → Sem Value} (w : World) (hfg : ∀ x y x' y' z, VR ρ x x' → VR ρ y y' → f x y = some z → ∃ z', (g x' y').run P w = .ok z' w ∧ VR ρ z z') :
    ∀ (ys ys' : List Value) (x x' v : Value), VR ρ x x' → LR ρ ys ys' → aFold f x ys = some v → ∃ v', (ys'.foldlM g x').run P w = .ok v' w ∧ VR ρ v v' := by
  intro ys
  induction ys with
  | nil =>
    intro ys' x x' v hx hl h
    have : ys' = [] := List.eq_nil_of_length_eq_zero hl.1.symm
    subst this; cases h; exact ⟨x', by simp, hx⟩
  | cons y ys ih =>
    intro ys' x x' v hx hl h
    cases ys' with
    | nil => have := hl.1; simp at this
    | cons y' ys' =>
      simp only [aFold] at h
      cases hz : f x y with
      | none => simp [hz] at h
      | some z =>
        simp only [hz] at h
        obtain ⟨z', hz', hvr⟩ := hfg x y x' y' z hx (hl.2 0 y y' rfl rfl) hz
        obtain ⟨v', hv', hv⟩ := ih ys' z z' v hvr ⟨by simpa using hl.1, fun j a b p q => hl.2 (j + 1) a b (by simpa using p) (by simpa using q)⟩ h
        exact ⟨v', by simp only [List.foldlM_cons, Sem.run_bind, hz', Result.andThen_ok, hv'], hv⟩

theorem aMin_run {P : Program} {ρ : Ren} {w : World} {ts : Array TypeId} {ty : TypeId} {x v : Value} {ys xs' : List Value} (hl : LR ρ (x :: ys) xs') (h : aFold aMin2 x ys = some v) : Rd P ρ w (Builtin.min_ ts ty xs'.toArray) v := by
  cases xs' with
  | nil => have := hl.1; simp at this
  | cons x' ys' =>
    obtain ⟨v', hv, hvr⟩ := aFold_run (P := P) (g := Builtin.min2) w (fun a b a' b' z ha hb hz => by
      unfold aMin2 at hz
      split at hz
      · cases ha; cases hb; cases hz; exact ⟨_, rfl, .int _ _⟩
      · cases hz) ys ys' x x' v (hl.2 0 x x' rfl rfl) ⟨by simpa using hl.1, fun j a b p q => hl.2 (j + 1) a b (by simpa using p) (by simpa using q)⟩ h
    exact ⟨v', by simpa [Builtin.min_] using hv, hvr⟩
theorem aMax_run {P : Program} {ρ : Ren} {w : World} {ts : Array TypeId} {ty : TypeId} {x v : Value} {ys xs' : List Value} (hl : LR ρ (x :: ys) xs') (h : aFold aMax2 x ys = some v) : Rd P ρ w (Builtin.max_ ts ty xs'.toArray) v := by
  cases xs' with
  | nil => have := hl.1; simp at this
  | cons x' ys' =>
    obtain ⟨v', hv, hvr⟩ := aFold_run (P := P) (g := Builtin.max2) w (fun a b a' b' z ha hb hz => by
      unfold aMax2 at hz
      split at hz
      · cases ha; cases hb; cases hz; exact ⟨_, rfl, .int _ _⟩
      · cases hz) ys ys' x x' v (hl.2 0 x x' rfl rfl) ⟨by simpa using hl.1, fun j a b p q => hl.2 (j + 1) a b (by simpa using p) (by simpa using q)⟩ h
    exact ⟨v', by simpa [Builtin.max_] using hv, hvr⟩

def aCopy (P : Program) (t : TypeId) (d s : Value) (h : AH) : Option (Value × AH) :=
  match P.underlying t, d, s with
  | some (.slice e), .slice da dl _, .slice sa sl sc =>
    match P.info? e with
    | some ie =>
      if min sl dl = 0 then some (.int .i64 0, h)
      else
        match srcCells ie.size (.slice sa (min sl dl) sc) h, da with
        | some (_, ys), some ⟨A, off, none⟩ =>
          match h.get A with
          | some o => (o.setCells off ys).map fun o' => (.int .i64 (min sl dl : Nat), h.set A o')
          | none => none
        | _, _ => none
    | none => none
  | _, _, _ => none

theorem VR.shorter {ρ : Ren} {a : Option Addr} {l c n : Nat} {v : Value} (h : VR ρ (.slice a l c) v) (hn : n ≤ l) (h0 : n ≠ 0 ∨ a = none) : ∃ a' c', v = .slice a' l c' ∧ VR ρ (.slice a n c) (.slice a' n c') := by
  cases h with
  | nilSlice => exact ⟨_, _, rfl, .nilSlice _ _⟩
  | slice hq hc => exact ⟨_, _, rfl, .slice hq hc⟩
  | slack hq hl hlim => exact ⟨_, _, rfl, .slack hq (by omega) hlim⟩
  | slack0 hq =>
    rcases h0 with h0 | h0
    · omega
    · cases h0

theorem aCopy_snd {P : Program} {ρ : Ren} {h h' : AH} {w : World} {ts : Array TypeId} {ty t : TypeId} {d s d' s' v : Value} (ht : ts[0]? = some t) (hr : HR ρ h w) (hd : VR ρ d d') (hs : VR ρ s s')
    (hv : aCopy P t d s h = some (v, h')) : Snd P ρ h w (Builtin.copy_ ts ty #[d', s']) v h' := by
  unfold aCopy at hv
  split at hv
  case h_2 => cases hv
  rename_i e da dl dc sa sl sc hu
  split at hv
  case h_2 => cases hv
  rename_i ie hie
  have hlenS : ∀ w, (Builtin.lenOf s').run P w = .ok sl w := by intro w; cases hs <;> rfl
  have hdl : ∃ da' dc', d' = .slice da' dl dc' := by cases hd <;> exact ⟨_, _, rfl⟩
  obtain ⟨da', dc', rfl⟩ := hdl
  split at hv
  · rename_i h0
    cases hv
    refine Snd.pure (v' := .int .i64 0) hr ?_ (.int _ _)
    have hf : (Builtin.firstCells ie.size 0 s').run P w = .ok #[] w := by cases hs <;> simp [Builtin.firstCells, loadCells, loadCellsFrom]
    have h0' : Nat.min sl dl = 0 := h0
    simp only [Builtin.copy_, ht, List.getElem?_toArray, List.getElem?_cons_zero, List.getElem?_cons_succ, Sem.run_bind, r_under w hu, Result.andThen_ok, hlenS, r_size w hie, h0', hf, goInt]
    cases da' <;> simp [storeCells]
  · rename_i h0
    split at hv
    case h_2 => cases hv
    rename_i n ys A off hsrc
    split at hv
    case h_2 => cases hv
    rename_i o ho
    simp only [Option.map_eq_some_iff, Prod.mk.injEq] at hv
    obtain ⟨o', hset, rfl, rfl⟩ := hv
    have hmin : min sl dl ≤ sl := Nat.min_le_left _ _
    obtain ⟨sa', sc', rfl, hvs⟩ := hs.shorter hmin (.inl h0)
    obtain ⟨hyl, hlen, ys', hlr, hfirst⟩ := srcCells_run (P := P) hr hvs hsrc
    have hone := srcCells_one hr hsrc
    have hn : n = min sl dl := by
      have := hlen w
      simp only [Builtin.lenOf, Sem.run_pure] at this
      injection this with h1 _; exact h1.symm
    subst hn
    have hb : ∃ r, ρ A = some r ∧ da' = some ⟨r.blk, r.base + off, none⟩ := by
      cases hd with
      | slice hq hc => exact ⟨_, hq, rfl⟩
      | slack hq hl hlim => exact ⟨_, hq, rfl⟩
      | slack0 hq => exact absurd (by simp) h0
    obtain ⟨r, hq, rfl⟩ := hb
    obtain ⟨w', hrun, hr', hf'⟩ := hr.stores P (off := off) ho hq hlr hone hset
    refine ⟨ρ, .int .i64 (min sl dl : Nat), w', ?_, .int _ _, hr', hf'⟩
    have hff : (Builtin.firstCells ie.size (Nat.min sl dl) (.slice sa' sl sc')).run P w = .ok ys'.toArray w := by
      have := hfirst w rfl
      cases sa' with
      | none => exact this
      | some a => exact this
    simp only [Builtin.copy_, ht, List.getElem?_toArray, List.getElem?_cons_zero, List.getElem?_cons_succ, Sem.run_bind, r_under w hu, Result.andThen_ok, hlenS, r_size w hie, hff, hrun, Sem.run_pure, goInt]

/-! ### Walks over maps -/

def aRange (P : Program) (t : TypeId) (x : Value) (h : AH) : Option (Value × AH) :=
  match P.underlying t, x with
  | some (.map _ _), .map none => some (.pointer (some ⟨h.next, 0, none⟩), h.new (.iter none 0 [] 0))
  | some (.map _ _), .map (some M) =>
    match h.get M with
    | some (.map _ clk) => some (.pointer (some ⟨h.next, 0, none⟩), h.new (.iter (some M) clk [] clk))
    | _ => none
  | _, _ => none

theorem aRange_snd {P : Program} {ρ : Ren} {h h' : AH} {w : World} {t : TypeId} {x x' v : Value} (hr : HR ρ h w) (hx : VR ρ x x') (hv : aRange P t x h = some (v, h')) :
    Snd P ρ h w (Instr.range t x') v h' := by
  unfold aRange at hv
  split at hv
  · rename_i kt et hd
    cases hx; cases hv
    obtain ⟨a, b⟩ := hr.alloc (x := .mapIter none 0 #[] 0) (o := .iter none 0 [] 0) (w' := { w with heap := w.heap.push (.mapIter none 0 #[] 0) }) (base := 0) (lim := 0) rfl
      (fun ρ' _ _ => ⟨none, by simp, rfl, rfl⟩)
    refine ⟨_, .pointer (some ⟨w.heap.size, 0, none⟩), _, ?_, ?_, a, b⟩
    · simp only [Instr.range, Sem.run_bind, r_under w hd, Result.andThen_ok, Sem.run_pure, run_newObj]
    · have := VR.ptr (ρ := ρ.put h.next ⟨w.heap.size, 0, 0⟩) (off := 0) (Ren.put_same _ _ _); simpa using this
  · rename_i kt et M hd
    split at hv
    · rename_i es clk hg
      cases hv
      obtain ⟨M', r, es', hM, rfl, hq, hg', hh, her⟩ := mapAt_run (es := es) (clk := clk) hr hx (by simp [mapAt, hg])
      cases hM
      obtain ⟨a, b⟩ := hr.alloc (x := .mapIter (some r.blk) clk #[] clk) (o := .iter (some M) clk [] clk) (w' := { w with heap := w.heap.push (.mapIter (some r.blk) clk #[] clk) }) (base := 0) (lim := 0) rfl
        (fun ρ' hle _ => ⟨some r.blk, by simp, rfl, r, hle _ _ hq, rfl⟩)
      refine ⟨_, .pointer (some ⟨w.heap.size, 0, none⟩), _, ?_, ?_, a, b⟩
      · simp only [Instr.range, Sem.run_bind, r_under w hd, Result.andThen_ok, getObj_run hh (fun _ _ _ e => by cases e), Sem.run_pure, run_newObj]
      · have := VR.ptr (ρ := ρ.put h.next ⟨w.heap.size, 0, 0⟩) (off := 0) (Ren.put_same _ _ _); simpa using this
    · cases hv
  · cases hv

theorem iterAt {ρ : Ren} {h : AH} {w : World} {I since stepped : Nat} {m : Option Nat} {seen : List Nat} {p' : Value} (hr : HR ρ h w) (hp : VR ρ (.pointer (some ⟨I, 0, none⟩)) p') (hg : h.get I = some (.iter m since seen stepped)) :
    ∃ r m', p' = .pointer (some ⟨r.blk, 0, none⟩) ∧ ρ I = some r ∧ r.base = 0 ∧ w.heap[r.blk]? = some (.mapIter m' since seen.toArray stepped) ∧ MRel ρ m m' := by
  cases hp with
  | ptr hq =>
    rename_i r
    obtain ⟨q, eq, hor⟩ := hr.obj I _ hg
    rw [hq] at eq; cases eq
    obtain ⟨m', hh, h0, hm⟩ := hor
    exact ⟨r, m', by rw [h0], hq, h0, hh, hm⟩

def aIterEntry (p : Value) (h : AH) : Option Value :=
  match p with
  | .pointer (some ⟨I, 0, none⟩) =>
    match h.get I with
    | some (.iter (some M) _ seen stepped) =>
      match seen.getLast?, h.get M with
      | some stamp, some (.map es clk) =>
        if clk = stepped then (match es.find? (fun e => e.born == stamp) with | some e => some (.tuple #[e.key, e.val]) | none => none) else none
      | _, _ => none
    | _ => none
  | _ => none

theorem ER.find {ρ : Ren} (stamp : Nat) {e : MapEntry} : ∀ {es es' : List MapEntry}, ER ρ es es' → es.find? (fun e => e.born == stamp) = some e → ∃ e', es'.find? (fun e => e.born == stamp) = some e' ∧ VR ρ e.key e'.key ∧ VR ρ e.val e'.val := by
  intro es
  induction es with
  | nil => intro es' _ h; simp at h
  | cons x es ih =>
    intro es' h hf
    obtain ⟨e', r, rfl, a, b, c, hr⟩ := h.uncons
    simp only [List.find?_cons] at hf ⊢
    rw [← a]
    split at hf
    · cases hf; exact ⟨e', rfl, b, c⟩
    · exact ih hr hf

theorem aIterEntry_run {P : Program} {ρ : Ren} {h : AH} {w : World} {p p' v : Value} (hr : HR ρ h w) (hp : VR ρ p p') (hv : aIterEntry p h = some v) : Rd P ρ w (Instr.entry p') v := by
  unfold aIterEntry at hv
  split at hv
  case h_2 => cases hv
  rename_i I
  split at hv
  case h_2 => cases hv
  rename_i M since seen stepped hg
  split at hv
  case h_2 => cases hv
  rename_i stamp es clk hs hgm
  split at hv
  case isFalse => cases hv
  rename_i hclk
  split at hv
  case h_2 => cases hv
  rename_i e hf
  cases hv
  obtain ⟨r, m', rfl, hq, h0, hh, q, hqm, rfl⟩ := iterAt hr hp hg
  obtain ⟨q', eq, hor⟩ := hr.obj M _ hgm
  rw [hqm] at eq; cases eq
  obtain ⟨es', hh', her⟩ := hor
  obtain ⟨e', hf', hk, hvv⟩ := her.find stamp hf
  refine ⟨.tuple #[e'.key, e'.val], ?_, VR.pair hk hvv⟩
  subst hclk
  have hb : seen.toArray.back? = some stamp := by rw [List.back?_toArray]; exact hs
  have hfd : es'.find? (fun x => x.born == stamp) = some e' := by
    have e0 : es' = es'.toList.toArray := by simp
    rw [e0, List.find?_toArray]; exact hf'
  simp only [Instr.entry, Sem.run_bind, getObj_run hh (fun _ _ _ e => by cases e), getObj_run hh' (fun _ _ _ e => by cases e), Sem.run_pure, Result.andThen_ok, hb, bne_self_eq_false, Bool.false_eq_true, if_false, hfd]

/-- The entries that a step of a walk may bring. -/
def candsOf (es : List MapEntry) (since : Nat) (seen : List Nat) : List (Option MapEntry) :=
  let left := es.filter fun e => !seen.contains e.born
  let old := left.filter fun e => decide (e.born < since)
  let new := left.filter fun e => decide (e.born ≥ since)
  (if old.isEmpty then [none] else []) ++ (old ++ new).map some

def nextBad (es : List MapEntry) (seen : List Nat) (last : Nat) : Bool := !seen.isEmpty && !es.isEmpty && es.all (fun e => decide (e.born ≥ last))

/-- A step of a walk over a map: what holds of every way it may go. -/
def NextW (p : Value) (h : AH) (K : Value → AH → Prop) : Prop :=
  ∃ I, p = .pointer (some ⟨I, 0, none⟩) ∧
    ((∃ a b c, h.get I = some (.iter none a b c) ∧ K (.tuple #[.bool false]) h) ∨
     (∃ M since seen stepped es clk, h.get I = some (.iter (some M) since seen stepped) ∧ h.get M = some (.map es clk) ∧ nextBad es seen stepped = false ∧
       ∀ x ∈ candsOf es since seen, match x with
         | some e => K (.tuple #[.bool true, e.key, e.val]) (h.set I (.iter (some M) since (seen ++ [e.born]) clk))
         | none => K (.tuple #[.bool false]) h))

end Go.Ab
