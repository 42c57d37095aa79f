/- Own layer 'Ab': the walk of an operation, of code, of a call. -/
import Derived.Test.YtnejoceplinjpaaAb9
import Derived.Test.YtnejoceplinjpaaAb3b
namespace Go.Ab

def aBuiltin (P : Program) (b : Builtin) (ts : Array TypeId) (args : List Value) (h : AH) : Option (Value × AH) :=
  match b, args with
  | .len, [x] => match ts[0]? with
    | some t => (aLen P t x h).map fun v => (v, h)
    | none => none
  | .append, [s, x] => aAppend P ts s x h
  | .delete, [m, k] => match ts[0]? with
    | some t => (aDelete P t m k h).map fun h' => (undef, h')
    | none => none
  | .copy, [d, s] => match ts[0]? with
    | some t => aCopy P t d s h
    | none => none
  | .min, x :: xs => (aFold aMin2 x xs).map fun v => (v, h)
  | .max, x :: xs => (aFold aMax2 x xs).map fun v => (v, h)
  | _, _ => none

theorem aBuiltin_snd {P : Program} {ρ : Ren} {h h' : AH} {w : World} {b : Builtin} {ts : Array TypeId} {ty : TypeId} {cs : Array Bool} {args : List Value} {cargs : Array Value} {v : Value} (hr : HR ρ h w) (hl : LR ρ args cargs.toList)
    (hv : aBuiltin P b ts args h = some (v, h')) : ∃ ρ' v' w', (builtin b ts ty cs cargs).run P w = .ok (.value v') w' ∧ VR ρ' v v' ∧ HR ρ' h' w' ∧ Frm ρ h w ρ' h' w' := by
  have lift : ∀ {s : Sem Value}, Snd P ρ h w s v h' → ∃ ρ' v' w', (do pure (.value (← s)) : Sem Next).run P w = .ok (.value v') w' ∧ VR ρ' v v' ∧ HR ρ' h' w' ∧ Frm ρ h w ρ' h' w' := by
    rintro s ⟨ρ', v', w', a, b⟩
    exact ⟨ρ', v', w', by simp only [Sem.run_bind, a, Result.andThen_ok, Sem.run_pure], b⟩
  have two : ∀ x y, args = [x, y] → ∃ x' y', cargs = #[x', y'] ∧ VR ρ x x' ∧ VR ρ y y' := by
    rintro x y rfl
    obtain ⟨l⟩ := cargs
    match l, hl with
    | [x', y'], hl => exact ⟨x', y', rfl, hl.2 0 x x' rfl rfl, hl.2 1 y y' rfl rfl⟩
    | [], hl => have := hl.1; simp at this
    | [_], hl => have := hl.1; simp at this
    | _ :: _ :: _ :: _, hl => have := hl.1; simp at this
  have one : ∀ x, args = [x] → ∃ x', cargs = #[x'] ∧ VR ρ x x' := by
    rintro x rfl
    obtain ⟨l⟩ := cargs
    match l, hl with
    | [x'], hl => exact ⟨x', rfl, hl.2 0 x x' rfl rfl⟩
    | [], hl => have := hl.1; simp at this
    | _ :: _ :: _, hl => have := hl.1; simp at this
  unfold aBuiltin at hv
  split at hv
  · rename_i x
    obtain ⟨x', rfl, hx⟩ := one x rfl
    split at hv
    · rename_i t ht
      simp only [Option.map_eq_some_iff, Prod.mk.injEq] at hv
      obtain ⟨_, hlen, rfl, rfl⟩ := hv
      exact lift ((aLen_run (ty := ty) ht hr hx hlen).snd hr)
    · cases hv
  · rename_i s x
    obtain ⟨s', x', rfl, hs, hx⟩ := two s x rfl
    exact lift (aAppend_snd (ty := ty) hr hs hx hv)
  · rename_i m k
    obtain ⟨m', k', rfl, hm, hk⟩ := two m k rfl
    split at hv
    · rename_i t ht
      simp only [Option.map_eq_some_iff, Prod.mk.injEq] at hv
      obtain ⟨_, hdel, rfl, rfl⟩ := hv
      exact lift (aDelete_snd (ty := ty) ht hr hm hk hdel)
    · cases hv
  · rename_i d s
    obtain ⟨d', s', rfl, hd, hs⟩ := two d s rfl
    split at hv
    · rename_i t ht
      exact lift (aCopy_snd (ty := ty) ht hr hd hs hv)
    · cases hv
  · rename_i x xs
    simp only [Option.map_eq_some_iff, Prod.mk.injEq] at hv
    obtain ⟨_, hf, rfl, rfl⟩ := hv
    have := aMin_run (P := P) (w := w) (ts := ts) (ty := ty) hl hf
    exact lift (this.snd hr)
  · rename_i x xs
    simp only [Option.map_eq_some_iff, Prod.mk.injEq] at hv
    obtain ⟨_, hf, rfl, rfl⟩ := hv
    have := aMax_run (P := P) (w := w) (ts := ts) (ty := ty) hl hf
    exact lift (this.snd hr)
  · cases hv

def oev (ev : Operand → Value) : Option Operand → Option Value
  | none => none
  | some x => some (ev x)

def isConcrete (P : Program) (t : TypeId) : Bool :=
  match P.underlying t with
  | some (.interface _) | none => false
  | _ => true

/-- An operation that has one outcome. -/
def dop (P : Program) (ev : Operand → Value) (op : Op) (h : AH) : Option (Value × AH) :=
  match op with
  | .move x | .assign x => some (ev x, h)
  | .pick c x y => match ev c with
    | .bool t => some (if t then ev x else ev y, h)
    | _ => none
  | .alloc t => aAlloc P t h
  | .box t x => aBox t (ev x) h
  | .build t ps => (aBuild P t (ps.toList.map fun p => (p.1, ev p.2))).map fun v => (v, h)
  | .buildSlice t n ps => aBuildSlice P t n (ps.toList.map fun p => (p.1, ev p.2)) h
  | .load t x => (aLoad P t (ev x) h).map fun v => (v, h)
  | .store t x y => (aStore P t (ev x) (ev y) h).map fun h' => (undef, h')
  | .nilCheck x => (aNil (ev x)).map fun v => (v, h)
  | .binOp op t x y _ => (aBin P op t (ev x) (ev y)).map fun v => (v, h)
  | .unOp op _ x => (aUn op (ev x)).map fun v => (v, h)
  | .convert s d x => match aBytes P s d (ev x) h with
    | some r => some r
    | none => (aConv P s d (ev x)).map fun v => (v, h)
  | .makeInterface t x => if isConcrete P t then some (.iface t (ev x), h) else none
  | .makeFunc (.func f) a b => some (.func (.func f) (a.map ev) (b.map ev), h)
  | .makeMap _ none => some (.map (some h.next), h.new (.map [] 0))
  | .makeSlice t l c => aMakeSlice P t (ev l) (ev c) h
  | .slice t x lo hi none => (aSlice P t (ev x) (oev ev lo) (oev ev hi)).map fun v => (v, h)
  | .fieldAddr t x f => (aFieldAddr P t f (ev x)).map fun v => (v, h)
  | .field t x f => (aField P t (ev x) f).map fun v => (v, h)
  | .indexAddr t x i => (aIndexAddr P t (ev x) (ev i)).map fun v => (v, h)
  | .index t x i => (aIndex P t (ev x) (ev i)).map fun v => (v, h)
  | .lookup t x i ok => (aLookup P t (ev x) (ev i) ok h).map fun v => (v, h)
  | .mapUpdate t m k v => (aUpdate P t (ev m) (ev k) (ev v) h).map fun h' => (undef, h')
  | .insert t m k v => (aUpdate P t (ev m) (ev k) (ev v) h).map fun h' => (undef, h')
  | .mapEntry t m k => aEntry P t (ev m) (ev k) h
  | .entryStore _ m s v => (aEntryStore (ev m) (ev s) (ev v) h).map fun h' => (undef, h')
  | .range t x => aRange P t (ev x) h
  | .entry x => (aIterEntry (ev x) h).map fun v => (v, h)
  | .extract x i => (aExtract (ev x) i).map fun v => (v, h)
  | .call { callee := .builtin b, args, argTypes } => aBuiltin P b argTypes (args.toList.map ev) h
  | _ => none

def NextOK (v' : Value) (nx : Next) : Prop := nx = .value v' ∨ (nx = .skip ∧ v' = undef)

theorem dop_snd {P : Program} {ρ : Ren} {h h' : AH} {w : World} {ev ev' : Operand → Value} {o : Oper} {v : Value} (hc : o.op.operands.toList.all cOK = true) (hev : ∀ x, cOK x = true → VR ρ (ev x) (ev' x)) (hr : HR ρ h w)
    (hv : dop P ev o.op h = some (v, h')) : ∃ ρ' v' nx w', (execOp ev' o).run P w = .ok nx w' ∧ NextOK v' nx ∧ VR ρ' v v' ∧ HR ρ' h' w' ∧ Frm ρ h w ρ' h' w' := by
  obtain ⟨dst, op, type, pos, after, guard⟩ := o
  simp only at hc hv ⊢
  have lift : ∀ {s : Sem Value}, Snd P ρ h w s v h' → ∃ ρ' v' nx w', (do pure (.value (← s)) : Sem Next).run P w = .ok nx w' ∧ NextOK v' nx ∧ VR ρ' v v' ∧ HR ρ' h' w' ∧ Frm ρ h w ρ' h' w' := by
    rintro s ⟨ρ', v', w', a, b⟩
    exact ⟨ρ', v', _, w', by simp only [Sem.run_bind, a, Result.andThen_ok, Sem.run_pure], .inl rfl, b⟩
  have liftU : ∀ {s : Sem Unit}, v = undef → SndU P ρ h w s h' → ∃ ρ' v' nx w', (do s; pure .skip : Sem Next).run P w = .ok nx w' ∧ NextOK v' nx ∧ VR ρ' v v' ∧ HR ρ' h' w' ∧ Frm ρ h w ρ' h' w' := by
    rintro s rfl ⟨ρ', w', a, b⟩
    exact ⟨ρ', undef, _, w', by simp only [Sem.run_bind, a, Result.andThen_ok, Sem.run_pure], .inr ⟨rfl, rfl⟩, VR.undef _, b⟩
  have arr : ∀ (xs : Array Operand), (∀ x ∈ xs.toList, cOK x = true) → LR ρ (xs.toList.map ev) (xs.map ev').toList := by
    intro xs hx
    rw [Array.toList_map]
    exact LR.map fun x hm => hev x (hx x hm)
  cases op <;> simp only [dop] at hv <;> (try cases hv) <;> simp only [Op.operands, List.all_cons, List.all_nil, Bool.and_true, Bool.and_eq_true, List.all_eq_true] at hc
  case move x => exact ⟨ρ, _, _, w, rfl, .inl rfl, hev x hc, hr, Frm.refl _ _ _⟩
  case assign x => exact ⟨ρ, _, _, w, rfl, .inl rfl, hev x hc, hr, Frm.refl _ _ _⟩
  case pick c x y =>
    have h1 := hev c hc.1
    split at hv
    · rename_i t ht
      cases hv
      rw [ht] at h1
      generalize hcc : ev' c = cc at h1
      cases h1
      refine ⟨ρ, if t then ev' x else ev' y, _, w, ?_, .inl rfl, ?_, hr, Frm.refl _ _ _⟩
      · simp only [execOp, hcc, asBool, Sem.run_bind, Sem.run_pure, Result.andThen_ok]
      · cases t
        · exact hev y hc.2.2
        · exact hev x hc.2.1
    · cases hv
  case alloc t => exact lift (aAlloc_snd hr hv)
  case box t x => exact lift (aBox_snd hr (hev x hc) hv)
  case build t ps =>
    simp only [Option.map_eq_some_iff, Prod.mk.injEq] at hv
    obtain ⟨_, hb, rfl, rfl⟩ := hv
    exact lift ((aBuild_run (PR.of_map (ev := ev) (ev' := ev') fun p hp => hev _ (hc _ (List.mem_map.2 ⟨p, hp, rfl⟩))) hb w).snd hr)
  case buildSlice t n ps => exact lift (aBuildSlice_snd hr (PR.of_map (ev := ev) (ev' := ev') fun p hp => hev _ (hc _ (List.mem_map.2 ⟨p, hp, rfl⟩))) hv)
  case insert t m k x =>
    simp only [Option.map_eq_some_iff, Prod.mk.injEq] at hv
    obtain ⟨_, hb, rfl, rfl⟩ := hv
    exact liftU rfl (aUpdate_snd hr (hev m hc.1) (hev k hc.2.1) (hev x hc.2.2) hb)
  case load t x =>
    simp only [Option.map_eq_some_iff, Prod.mk.injEq] at hv
    obtain ⟨_, hb, rfl, rfl⟩ := hv
    exact lift (aLoad_snd hr (hev x hc) hb)
  case store t x y =>
    simp only [Option.map_eq_some_iff, Prod.mk.injEq] at hv
    obtain ⟨_, hb, rfl, rfl⟩ := hv
    exact liftU rfl (aStore_snd hr (hev x hc.1) (hev y hc.2) hb)
  case nilCheck x =>
    simp only [Option.map_eq_some_iff, Prod.mk.injEq] at hv
    obtain ⟨u, hb, rfl, rfl⟩ := hv
    have hx := hev x hc
    have : u = ev x ∧ (∀ w, (execOp ev' { dst, op := .nilCheck x, type, pos, after, guard }).run P w = .ok (.value (ev' x)) w) := by
      unfold aNil at hb
      split at hb <;> first | (cases hb; done) | skip
      all_goals (rename_i e; injection hb with hb; subst hb)
      · rw [e] at hx
        refine ⟨e.symm, fun w => ?_⟩
        generalize hcc : ev' x = y at hx ⊢
        cases hx with
        | func hf => cases hf; simp only [execOp, hcc, Sem.run_pure]
      · rw [e] at hx
        refine ⟨e.symm, fun w => ?_⟩
        generalize hcc : ev' x = y at hx ⊢
        cases hx with
        | func hf => cases hf; simp only [execOp, hcc, Sem.run_pure]
      · refine ⟨rfl, fun w => ?_⟩
        clear lift liftU arr
        generalize ev x = z at *
        generalize hcc : ev' x = y at hx ⊢
        cases hx <;> first | (simp only [execOp, hcc, Sem.run_pure]; done) | simp_all
    obtain ⟨rfl, hrun⟩ := this
    exact ⟨ρ, ev' x, _, w, hrun w, .inl rfl, hx, hr, Frm.refl _ _ _⟩
  case binOp op t x y e =>
    simp only [Option.map_eq_some_iff, Prod.mk.injEq] at hv
    obtain ⟨_, hb, rfl, rfl⟩ := hv
    obtain ⟨v', hrun, hvr⟩ := aBin_run (P := P) (x := x) (y := y) (hev x hc.1) (hev y hc.2) hb w
    exact lift (Snd.pure hr hrun hvr)
  case unOp op t x =>
    simp only [Option.map_eq_some_iff, Prod.mk.injEq] at hv
    obtain ⟨_, hb, rfl, rfl⟩ := hv
    exact lift ((aUn_run (hev x hc) hb w).snd hr)
  case convert s d x =>
    split at hv
    · rename_i r hb
      cases hv
      exact lift (aBytes_snd hr (hev x hc) hb)
    · simp only [Option.map_eq_some_iff, Prod.mk.injEq] at hv
      obtain ⟨_, hb, rfl, rfl⟩ := hv
      exact lift ((aConv_run (hev x hc) hb w).snd hr)
  case makeInterface t x =>
    split at hv
    · rename_i hi
      injection hv with hv; injection hv with h1 h2; subst h1; subst h2
      refine lift (Snd.pure (v' := .iface t (ev' x)) hr ?_ (.iface (hev x hc)))
      unfold isConcrete at hi
      cases hu : P.underlying t with
      | none => rw [hu] at hi; cases hi
      | some d =>
        rw [hu] at hi
        simp only [Instr.makeInterface, Sem.run_bind, r_under w hu, Result.andThen_ok]
        cases d <;> first | rfl | cases hi
    · cases hv
  case makeFunc f a b =>
    cases f <;> simp only at hv <;> first | cases hv; done | skip
    injection hv with hv; injection hv with h1 h2; subst h1; subst h2
    refine lift (Snd.pure (v' := .func (.func _) (a.map ev') (b.map ev')) hr rfl ?_)
    have ha := arr a (fun x hx => hc x (by simp [hx]))
    have hb := arr b (fun x hx => hc x (by simp [hx]))
    refine .func (.func _) (by simp) (fun i v v' h1 h2 => ?_) (by simp) (fun i v v' h1 h2 => ?_)
    · exact ha.2 i v v' (by simpa [← Array.getElem?_toList] using h1) (by simpa [← Array.getElem?_toList] using h2)
    · exact hb.2 i v v' (by simpa [← Array.getElem?_toList] using h1) (by simpa [← Array.getElem?_toList] using h2)
  case makeMap t r =>
    cases r with
    | some _ => cases hv
    | none =>
      injection hv with hv; injection hv with h1 h2; subst h1; subst h2
      exact lift (aMakeMap_snd t hr)
  case makeSlice t l c => exact lift (aMakeSlice_snd hr (hev l hc.1) (hev c hc.2) hv)
  case slice t x lo hi mx =>
    cases mx with
    | some _ => cases hv
    | none =>
      simp only [Option.map_eq_some_iff, Prod.mk.injEq] at hv
      obtain ⟨_, hb, rfl, rfl⟩ := hv
      refine lift ((aSlice_run (hev x (hc _ (by simp))) ?_ ?_ hb w).snd hr)
      · cases lo with
        | none => trivial
        | some a => exact hev a (hc _ (by simp))
      · cases hi with
        | none => trivial
        | some a => exact hev a (hc _ (by simp))
  case fieldAddr t x f =>
    simp only [Option.map_eq_some_iff, Prod.mk.injEq] at hv
    obtain ⟨_, hb, rfl, rfl⟩ := hv
    exact lift ((aFieldAddr_run (hev x hc) hb w).snd hr)
  case field t x f =>
    simp only [Option.map_eq_some_iff, Prod.mk.injEq] at hv
    obtain ⟨_, hb, rfl, rfl⟩ := hv
    exact lift ((aField_run (hev x hc) hb w).snd hr)
  case indexAddr t x i =>
    simp only [Option.map_eq_some_iff, Prod.mk.injEq] at hv
    obtain ⟨_, hb, rfl, rfl⟩ := hv
    exact lift ((aIndexAddr_run (hev x hc.1) (hev i hc.2) hb w).snd hr)
  case index t x i =>
    simp only [Option.map_eq_some_iff, Prod.mk.injEq] at hv
    obtain ⟨_, hb, rfl, rfl⟩ := hv
    exact lift ((aIndex_run (hev x hc.1) (hev i hc.2) hb w).snd hr)
  case lookup t x i ok =>
    simp only [Option.map_eq_some_iff, Prod.mk.injEq] at hv
    obtain ⟨_, hb, rfl, rfl⟩ := hv
    exact lift ((aLookup_run hr (hev x hc.1) (hev i hc.2) hb).snd hr)
  case mapUpdate t m k x =>
    simp only [Option.map_eq_some_iff, Prod.mk.injEq] at hv
    obtain ⟨_, hb, rfl, rfl⟩ := hv
    exact liftU rfl (aUpdate_snd hr (hev m hc.1) (hev k hc.2.1) (hev x hc.2.2) hb)
  case mapEntry t m k => exact lift (aEntry_snd hr (hev m hc.1) (hev k hc.2) hv)
  case entryStore t m s x =>
    simp only [Option.map_eq_some_iff, Prod.mk.injEq] at hv
    obtain ⟨_, hb, rfl, rfl⟩ := hv
    exact liftU rfl (aEntryStore_snd hr (hev m hc.1) (hev s hc.2.1) (hev x hc.2.2) hb)
  case range t x => exact lift (aRange_snd hr (hev x hc) hv)
  case entry x =>
    simp only [Option.map_eq_some_iff, Prod.mk.injEq] at hv
    obtain ⟨_, hb, rfl, rfl⟩ := hv
    exact lift ((aIterEntry_run hr (hev x hc) hb).snd hr)
  case extract x i =>
    simp only [Option.map_eq_some_iff, Prod.mk.injEq] at hv
    obtain ⟨_, hb, rfl, rfl⟩ := hv
    exact lift ((aExtract_run (hev x hc) hb w).snd hr)
  case call c =>
    obtain ⟨callee, args, argTypes⟩ := c
    cases callee <;> simp only at hv <;> first | cases hv; done | skip
    rename_i b
    obtain ⟨ρ', v', w', a, b⟩ := aBuiltin_snd (ty := type) (cs := args.map fun | .const _ => true | _ => false) hr (arr args fun x hx => hc x (by simpa [Call.operands] using hx)) hv
    refine ⟨ρ', v', _, w', ?_, .inl rfl, b⟩
    simp only [execOp, resolve, Sem.run_bind, Sem.run_pure, Result.andThen_ok, invoke]
    exact a

end Go.Ab
