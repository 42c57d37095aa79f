/- Own layer 'Ab': the walk of code and of a call. -/
import Derived.Test.YtnejoceplinjpaaAb11
import Derived.LoopNIn
import Derived.OrdersIn
import Derived.RangeFuncLeaves
import Derived.RangeFuncRecord
namespace Go.Ab

def thenQ (N : AAct → AH → Prop) (Q : Exit → AAct → AH → Prop) : Exit → AAct → AH → Prop
  | .normal, a, h => N a h
  | e, a, h => Q e a h

def blockQ (id : Nat) (Q : Exit → AAct → AH → Prop) : Exit → AAct → AH → Prop
  | .exit id', a, h => if id' = id then Q .normal a h else Q (.exit id') a h
  | e, a, h => Q e a h

section
variable {P : Program} {rd : Option Nat} {Q : Exit → AAct → AH → Prop} {a : AAct} {h : AH}

theorem AW.skip (hq : Q .normal a h) : AW P rd .skip Q a h := fun _ ρ _ _ _w _ ha hr => wpIn_skip ⟨ρ, a, h, hq, ha, hr, Frm.refl _ _ _⟩
theorem AW.ret (hq : Q .ret a h) : AW P rd .ret Q a h := fun _ ρ _ _ _w _ ha hr => wpIn_ret ⟨ρ, a, h, hq, ha, hr, Frm.refl _ _ _⟩
theorem AW.exit {id : Nat} (hq : Q (.exit id) a h) : AW P rd (.exit id) Q a h := fun _ ρ _ _ _w _ ha hr => wpIn_exit ⟨ρ, a, h, hq, ha, hr, Frm.refl _ _ _⟩
theorem AW.goto {id : Nat} (hq : Q (.goto id) a h) : AW P rd (.goto id) Q a h := fun _ ρ _ _ _w _ ha hr => wpIn_goto ⟨ρ, a, h, hq, ha, hr, Frm.refl _ _ _⟩
theorem AW.label {id : Nat} (hq : Q .normal a h) : AW P rd (.label id) Q a h := fun _ ρ _ _ _w _ ha hr => wpIn_label ⟨ρ, a, h, hq, ha, hr, Frm.refl _ _ _⟩

theorem AW.seq {x y : Code} (hx : AW P rd x (thenQ (AW P rd y Q) Q) a h) : AW P rd (.seq x y) Q a h := by
  intro n ρ crd ca w hrd ha hr
  refine wpIn_seq (wpIn_mono (hx n ρ crd ca w hrd ha hr) ?_)
  rintro e ca1 w1 ⟨ρ1, a1, h1, hq, ha1, hr1, hf1⟩
  cases e with
  | normal =>
    refine wpIn_mono (hq n ρ1 crd ca1 w1 (hrd.mono hf1.le) ha1 hr1) ?_
    rintro e ca2 w2 ⟨ρ2, a2, h2, hq2, ha2, hr2, hf2⟩
    exact ⟨ρ2, a2, h2, hq2, ha2, hr2, hf1.trans hf2⟩
  | _ => exact ⟨ρ1, a1, h1, hq, ha1, hr1, hf1⟩

theorem AW.cond {c : Operand} {x y : Code} {t : Bool} (hk : cOK c = true) (hc : a.ev c = .bool t) (hx : AW P rd (if t then x else y) Q a h) : AW P rd (.cond c x y) Q a h := by
  intro n ρ crd ca w hrd ha hr
  have hv := ha.ev hk
  rw [hc] at hv
  refine wpIn_cond (t := t) ?_ (hx n ρ crd ca w hrd ha hr)
  generalize ca.eval c = z at hv ⊢
  cases hv; rfl

theorem AW.block {id : Nat} {c : Code} (hx : AW P rd c (blockQ id Q) a h) : AW P rd (.block id c) Q a h := by
  intro n ρ crd ca w hrd ha hr
  refine wpIn_block (wpIn_mono (hx n ρ crd ca w hrd ha hr) ?_)
  rintro e ca1 w1 ⟨ρ1, a1, h1, hq, ha1, hr1, hf1⟩
  cases e with
  | exit id' =>
    simp only [blockQ] at hq
    simp only [Exit.inBlock]
    split
    · rename_i e; rw [if_pos e] at hq; exact ⟨ρ1, a1, h1, hq, ha1, hr1, hf1⟩
    · rename_i e; rw [if_neg e] at hq; exact ⟨ρ1, a1, h1, hq, ha1, hr1, hf1⟩
  | _ => exact ⟨ρ1, a1, h1, hq, ha1, hr1, hf1⟩

theorem wpIn_loop_ix {F : Fence} {n : Nat} {Q : Exit → Act → World → Prop} {c : Code} (I : Nat → Act → World → Prop) (m : Nat) {a : Act} {w : World} (h0 : I m a w)
    (round : ∀ m a w, I m a w → c.wpIn F n P (Exit.then (fun a' w' => ∃ m', m' < m ∧ I m' a' w') Q) a w) : (Code.loop c).wpIn F n P Q a w := by
  intro b k cs hro hb hr
  have key : ∀ m a w, I m a w →
      ∃ e a' w', Q e a' w' ∧ ArrivesIn (Machine.fenced P F) P (lone (b.atR a (.code c :: .inLoop c :: k)) cs w) b k cs e a' w' := by
    intro m
    induction m using Nat.strongRecOn with
    | _ m ih =>
      intro a w hI
      obtain ⟨e, a₁, w₁, hq, harr⟩ := round m a w hI b (.inLoop c :: k) cs hro hb hr
      cases e with
      | normal =>
        obtain ⟨m', hlt, hI₁⟩ := hq
        obtain ⟨e₂, a₂, w₂, hq₂, harr₂⟩ := ih m' hlt a₁ w₁ hI₁
        exact ⟨e₂, a₂, w₂, hq₂, .of_steps (StepsIn.trans harr (.one (fenced_calm hb hr rfl) stepR_inLoop)) harr₂⟩
      | exit id => exact ⟨_, a₁, w₁, hq, .pass (x := .inLoop c) rfl (fun _ _ => .inl (by simp)) harr⟩
      | goto l => exact ⟨_, a₁, w₁, hq, .pass (x := .inLoop c) rfl (fun _ _ => .inl (by simp)) harr⟩
      | ret => exact ⟨_, a₁, w₁, hq, .pass (x := .inLoop c) rfl (fun _ _ => .inl (by simp)) harr⟩
      | panic ch => exact ⟨_, a₁, w₁, hq, .pass (x := .inLoop c) rfl (fun _ _ => .inl (by simp)) harr⟩
      | outgrown => exact ⟨_, a₁, w₁, hq, .pass (x := .inLoop c) rfl (fun _ _ => .inl (by simp)) harr⟩
  obtain ⟨e, a', w', hq, harr⟩ := key m a w h0
  exact ⟨e, a', w', hq, .of_steps (.one (fenced_calm hb hr rfl) stepR_loop) harr⟩

theorem AW.loop {c : Code} (I : Nat → AAct → AH → Prop) (m : Nat) (h0 : I m a h)
    (round : ∀ m a h, I m a h → AW P rd c (thenQ (fun a' h' => ∃ m', m' < m ∧ I m' a' h') Q) a h) : AW P rd (.loop c) Q a h := by
  intro n ρ crd ca w hrd ha hr
  refine wpIn_loop_ix (fun m ca' w' => ∃ ρ' a' h', I m a' h' ∧ AR ρ' a' ca' ∧ HR ρ' h' w' ∧ Frm ρ h w ρ' h' w') m ⟨ρ, a, h, h0, ha, hr, Frm.refl _ _ _⟩ ?_
  rintro m ca1 w1 ⟨ρ1, a1, h1, hI, ha1, hr1, hf1⟩
  refine wpIn_mono (round m a1 h1 hI n ρ1 crd ca1 w1 (hrd.mono hf1.le) ha1 hr1) ?_
  rintro e ca2 w2 ⟨ρ2, a2, h2, hq2, ha2, hr2, hf2⟩
  cases e with
  | normal => obtain ⟨m', hlt, hI'⟩ := hq2; exact ⟨m', hlt, ρ2, a2, h2, hI', ha2, hr2, hf1.trans hf2⟩
  | _ => exact ⟨ρ2, a2, h2, hq2, ha2, hr2, hf1.trans hf2⟩

def opsW (P : Program) (ops : Array Oper) (Q : Exit → AAct → AH → Prop) : List Nat → AAct → AH → Prop
  | [], a, h => Q .normal a h
  | i :: l, a, h => match ops[i]? with
    | none => opsW P ops Q l a h
    | some o => opW P ops o a h (opsW P ops Q l)

def PostE (ρ : Ren) (h : AH) (w : World) (Q : Exit → AAct → AH → Prop) (e : Exit) (ca' : Act) (w' : World) : Prop :=
  ∃ ρ' a' h', Q e a' h' ∧ AR ρ' a' ca' ∧ HR ρ' h' w' ∧ Frm ρ h w ρ' h' w'

theorem PostE.trans {ρ ρ1 : Ren} {h h1 : AH} {w w1 : World} {e : Exit} {ca : Act} {w' : World} (hf : Frm ρ h w ρ1 h1 w1) (hp : PostE ρ1 h1 w1 Q e ca w') : PostE ρ h w Q e ca w' :=
  let ⟨ρ', a', h', x, y, z, t⟩ := hp; ⟨ρ', a', h', x, y, z, hf.trans t⟩

theorem wpOpsIn_mono {F : Fence} {n : Nat} {ops : Array Oper} {Q Q' : Exit → Act → World → Prop} (hq : ∀ e a w, Q e a w → Q' e a w) : ∀ (l : List Nat) (a : Act) (w : World), wpOpsIn F n P ops Q l a w → wpOpsIn F n P ops Q' l a w := by
  intro l
  induction l with
  | nil => intro a w h; exact hq _ _ _ h
  | cons i l ih =>
    intro a w h
    rw [wpOpsIn_cons] at h ⊢
    have h := wpOpIn_mono (fun a w => ih a w) h
    unfold wpOpIn at h ⊢
    split
    · rename_i ho; rw [ho] at h; exact h
    · rename_i o ho
      rw [ho] at h
      simp only at h
      split
      · rename_i hw
        rw [if_pos hw] at h
        refine ⟨h.1, ?_⟩
        have h := h.2
        generalize (o.semAt F.round a.eval).run P w = r at h ⊢
        cases r with
        | ok x w' =>
          cases x <;> simp only [Oper.uponIn] at h ⊢ <;>
            first
              | exact h
              | exact ⟨h.1, CallsIn.mono h.2 (fun e w'' he => by cases e <;> first | exact he | exact hq _ _ _ he | exact (let ⟨a, w, x⟩ := he; ⟨a, w, hq _ _ _ x⟩))⟩
              | exact ⟨h.1, RoundIn.mono h.2 (fun e w'' he => by cases e <;> first | exact he | exact hq _ _ _ he | exact (let ⟨a, w, x⟩ := he; ⟨a, w, hq _ _ _ x⟩))⟩
        | halt x w' => cases x <;> simp only [Oper.uponIn] at h ⊢ <;> first | exact h | exact hq _ _ _ h
      · rename_i hw; rw [if_neg hw] at h; exact h

theorem opsW.sound {ops : Array Oper} {n : Nat} {crd : Option Nat} : ∀ (l : List Nat) (a : AAct) (h : AH), opsW P ops Q l a h → ∀ (ρ : Ren) (ca : Act) (w : World), AR ρ a ca → HR ρ h w →
    wpOpsIn (fence crd) n P ops (PostE ρ h w Q) l ca w := by
  intro l
  induction l with
  | nil => intro a h hq ρ ca w ha hr; exact ⟨ρ, a, h, hq, ha, hr, Frm.refl _ _ _⟩
  | cons i l ih =>
    intro a h hq ρ ca w ha hr
    rw [wpOpsIn_cons]
    unfold wpOpIn
    simp only [opsW] at hq
    cases ho : ops[i]? with
    | none => simp only [ho] at hq ⊢; exact ih a h hq ρ ca w ha hr
    | some o =>
      simp only [ho] at hq ⊢
      refine hq.sound ha hr (N := wpOpsIn (fence crd) n P ops (PostE ρ h w Q) l) ?_
      rintro ca1 w1 ⟨ρ1, a1, h1, hk, ha1, hr1, hf1⟩
      exact wpOpsIn_mono (fun e ca w' hp => hp.trans hf1) l ca1 w1 (ih a1 h1 hk ρ1 ca1 w1 ha1 hr1)

theorem AW.region {id : Nat} {ops : Array Oper} (hx : opsW P ops Q (List.range ops.size) a h) : AW P rd (.region id ops false) Q a h :=
  fun _n ρ _crd ca w _hrd ha hr => wpIn_region (opsW.sound _ a h hx ρ ca w ha hr)

end

/-! ### A function's call, from its body -/

def closeMarks : List Nat → AH → Option AH
  | [], h => some h
  | A :: as, h => match h.get A with
    | some (.dfr true) => closeMarks as (h.set A (.dfr false))
    | _ => none

def resL (P : Program) (tm : Nat → Value) (h : AH) : List ResultVar → Option (List Value)
  | [] => some []
  | .tmp t :: rs => (resL P tm h rs).map (tm t :: ·)
  | .cell a t :: rs => match aLoad P t (tm a) h, resL P tm h rs with
    | some v, some vs => some (v :: vs)
    | _, _ => none

def resV : List Value → Value
  | [v] => v
  | vs => .tuple vs.toArray

def bodyQ (P : Program) (fn : Func) (K : Value → AH → Prop) (e : Exit) (a : AAct) (h : AH) : Prop :=
  (e = .normal ∨ e = .ret) ∧ ∃ h' vs, closeMarks a.df h = some h' ∧ resL P a.tm h' fn.results.toList = some vs ∧ K (resV vs) h'

def enterA (fn : Func) (args : List Value) : AAct := { n := args.length + (fn.ntmps - args.length), tm := fun i => args.getD i undef, df := [] }

theorem resL_run {P : Program} {ρ : Ren} {a : AAct} {h : AH} {ca : Act} {w : World} (ha : AR ρ a ca) (hr : HR ρ h w) : ∀ (rs : List ResultVar) (vs : List Value), resL P a.tm h rs = some vs →
    ∃ vs', (rs.mapM (m := Sem) fun | .tmp t => pure (ca.tmps.getD t undef) | .cell a t => do loadVar t (← asAddr (ca.tmps.getD a undef))).run P w = .ok vs' w ∧ LR ρ vs vs' := by
  intro rs
  induction rs with
  | nil => intro vs hv; cases hv; exact ⟨[], by simp, LR.nil _⟩
  | cons r rs ih =>
    intro vs hv
    cases r with
    | tmp t =>
      simp only [resL, Option.map_eq_some_iff] at hv
      obtain ⟨vs1, h1, rfl⟩ := hv
      obtain ⟨vs', hrun, hl⟩ := ih vs1 h1
      exact ⟨_ :: vs', by simp only [List.mapM_cons, Sem.run_bind, Sem.run_pure, Result.andThen_ok, hrun], hl.cons (ha.tmp t)⟩
    | cell x t =>
      simp only [resL] at hv
      split at hv
      · rename_i v vs1 hlo h1
        cases hv
        obtain ⟨vs', hrun, hl⟩ := ih vs1 h1
        obtain ⟨v', hv', hvr⟩ := aLoad_rd hr (ha.tmp x) hlo
        have hx := ha.tmp x
        have : (do loadVar t (← asAddr (ca.tmps.getD x undef)) : Sem Value).run P w = .ok v' w := by
          unfold aLoad at hlo
          split at hlo
          · rename_i A off hp
            rw [hp] at hx
            generalize ca.tmps.getD x undef = y at hx hv' ⊢
            cases hx with
            | ptr hq => simpa [Instr.loadAt, Instr.sureAddr, asAddr] using hv'
          · cases hlo
        exact ⟨v' :: vs', by simp only [List.mapM_cons, Sem.run_bind, this, Sem.run_pure, Result.andThen_ok, hrun], hl.cons hvr⟩
      · cases hv

theorem resV_run {P : Program} {ρ : Ren} {fn : Func} {a : AAct} {h : AH} {ca : Act} {w : World} (ha : AR ρ a ca) (hr : HR ρ h w) {vs : List Value} (hv : resL P a.tm h fn.results.toList = some vs) :
    ∃ v', (results fn ca.tmps).run P w = .ok v' w ∧ VR ρ (resV vs) v' := by
  obtain ⟨vs', hrun, hl⟩ := resL_run ha hr _ _ hv
  refine ⟨resV vs', ?_, ?_⟩
  · unfold results
    rw [Array.mapM_eq_mapM_toList]
    simp only [Sem.run_bind, Sem.run_pure, map_eq_pure_bind, bind_assoc]
    refine (congrArg (fun (r : Result (List Value)) => r.andThen _) hrun).trans ?_
    simp only [Result.andThen_ok]
    clear hrun hl
    match vs' with
    | [] => rfl
    | [_] => rfl
    | _ :: _ :: _ => simp [resV]
  · unfold resV
    split
    · rename_i v
      match vs', hl with
      | [x], hl => exact hl.2 0 _ _ rfl rfl
      | [], hl => have := hl.1; simp at this
      | _ :: _ :: _, hl => have := hl.1; simp at this
    · rename_i hne
      split
      · rename_i v
        have := hl.1
        match vs, hne, this with
        | [x], hne, _ => exact absurd rfl (hne x)
        | [], _, this => simp at this
        | _ :: _ :: _, _, this => simp at this
      · exact hl.toTuple

theorem marks_leave {P : Program} {fn : Func} {n : Nat} {R : Ending → World → Prop} {ρ : Ren} {a : AAct} {ca : Act} : ∀ (as : List Nat) (ds : List Deferred) (h h' : AH) (w : World) (vs : List Value), DR ρ as ds → AR ρ a ca → HR ρ h w →
    closeMarks as h = some h' → resL P a.tm h' fn.results.toList = some vs →
    (∀ v' w', VR ρ (resV vs) v' → HR ρ h' w' → Frm ρ h w ρ h' w' → R (.returned v') w') → LeavesInM Fence.wide n P fn ca.tmps R ds .returning w := by
  intro as
  induction as with
  | nil =>
    intro ds h h' w vs hd ha hr hc hv hR
    cases ds with
    | cons => exact hd.elim
    | nil =>
      cases hc
      obtain ⟨v', hrun, hvr⟩ := resV_run ha hr hv
      exact ⟨v', hrun, hR v' w hvr hr (Frm.refl _ _ _)⟩
  | cons A as ih =>
    intro ds h h' w vs hd ha hr hc hv hR
    cases ds with
    | nil => exact hd.elim
    | cons d ds =>
      obtain ⟨⟨r, hq, htg⟩, hd⟩ := hd
      simp only [closeMarks] at hc
      split at hc
      · rename_i hg
        obtain ⟨r', hq', hor⟩ := hr.obj A _ hg
        rw [hq] at hq'; cases hq'
        have hor : w.heap[r.blk]? = some (.deferred (some [])) := hor
        have hlt : r.blk < w.heap.size := (Array.getElem?_eq_some_iff.1 hor).1
        obtain ⟨hr1, hf1⟩ := hr.turn (o' := .dfr false) (x := .deferred none) hg rfl hq (by show (w.heap.setIfInBounds _ _)[_]? = _; simp [hlt])
        refine ⟨(fun e => by cases e), .inl ⟨r.blk, _, htg, run_takeDeferred hor, ?_⟩⟩
        exact ih ds _ h' _ vs hd ha hr1 hc hv fun v' w' x y z => hR v' w' x y (hf1.trans z)
      · cases hc

theorem ACall.of_body {P : Program} {g : FuncId} {fn : Func} {c : Code} {args : List Value} {h : AH} {K : Value → AH → Prop} (hf : P.funcs[g]? = some fn) (hb : fn.body = some c) (hn : (fn.name == "runtime.NumGoroutine") = false)
    (hw : AW P none c (bodyQ P fn K) (enterA fn args) h) : ACall P g args h K := by
  refine ⟨⟨fn, hf, by rw [hb]; rfl, hn⟩, fun ρ cargs w hl hr => callsIn_wide (n := 0).1 ?_⟩
  refine callsIn_of_wp_marks hf hb trivial ?_
  have ha : AR ρ (enterA fn args) { tmps := cargs ++ Array.replicate (fn.ntmps - cargs.size) undef, defers := [] } := by
    have hs : args.length = cargs.size := by simpa using hl.1
    refine ⟨by simp [enterA, hs], fun i => ?_, trivial⟩
    simp only [enterA]
    rw [Array.getD_eq_getD_getElem?, List.getD_eq_getElem?_getD]
    by_cases hi : i < cargs.size
    · rw [Array.getElem?_append_left hi]
      have h1 : args[i]? = some args[i] := List.getElem?_eq_getElem (by omega)
      have h2 : cargs[i]? = some cargs[i] := Array.getElem?_eq_getElem hi
      rw [h1, h2]
      exact hl.2 i _ _ h1 (by simp)
    · rw [List.getElem?_eq_none (by omega), Array.getElem?_append_right (by omega), Array.getElem?_replicate]
      split <;> exact .undef _
  refine wpIn_mono (hw 0 ρ none _ w trivial ha hr) ?_
  rintro e ca w1 ⟨ρ1, a1, h1, ⟨he, h', vs, hc, hv, hk⟩, ha1, hr1, hf1⟩
  have := marks_leave (n := 0) (R := fun e w' => ∃ ρ' v v' h', e = .returned v' ∧ K v h' ∧ VR ρ' v v' ∧ HR ρ' h' w' ∧ Frm ρ h w ρ' h' w') a1.df ca.defers h1 h' w1 vs ha1.df ha1 hr1 hc hv
    (fun v' w' x y z => ⟨ρ1, _, v', h', rfl, hk, x, y, hf1.trans z⟩)
  rcases he with rfl | rfl <;> exact this

end Go.Ab
