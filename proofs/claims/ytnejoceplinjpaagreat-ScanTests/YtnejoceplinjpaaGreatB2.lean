/- Own layer 'Ab': an operation of any kind, its way on the abstract heap, and that the model goes it. Own layer 'Ab': the walk of code and of a call. Own layer 'Ab': a range over a function. Own layer 'Ab': a region that draws its order. Own layer 'Ab': a region that draws its order: by a plan. Own layer 'Ab': code, walked with values that are not known. Own layer 'Ab': slices of one-cell elements, read. -/
import Derived.Test.YtnejoceplinjpaaGreatB1
import Derived.LoopNIn
import Derived.OrdersIn
import Derived.RangeFuncLeaves
import Derived.RangeFuncRecord
set_option linter.unusedSimpArgs false
set_option linter.unusedVariables false
namespace Go.Ab

/-- A call of a function's value. -/
def callR (P : Program) (f : Value) (args : List Value) (h : AH) (K : Value → AH → Prop) : Prop :=
  match f with
  | .func (.func g) first cap => ACall P g (first.toList ++ args ++ cap.toList) h K
  | .func (.yield L) first _ => AYield P L (first.toList ++ args) h K
  | _ => False

theorem callR.mono {P : Program} {f : Value} {args : List Value} {h : AH} {K K' : Value → AH → Prop} (hk : ∀ v h, K v h → K' v h) (hw : callR P f args h K) : callR P f args h K' := by
  unfold callR at hw ⊢
  split
  · exact ACall.mono hk hw
  · obtain ⟨l, hg, h1, h2, h3⟩ := hw
    refine ⟨l, hg, h1, h2, h3.mono ?_⟩
    rintro e a h ⟨rfl, l1, g1, g2, g3⟩
    refine ⟨rfl, l1, g1, g2, g3.mono ?_⟩
    rintro e a h ⟨l2, x, y⟩
    refine ⟨l2, x, ?_⟩
    cases e <;> first | exact hk _ _ y | exact y
  · rename_i h1 h2
    split at hw
    · exact absurd rfl (h1 _ _ _)
    · exact absurd rfl (h2 _ _ _)
    · exact hw

/-- An operation, from its operands' values on. -/
def opR (P : Program) (ev : Operand → Value) (op : Op) (h : AH) (K : Value → AH → Prop) : Prop :=
  match op with
  | .call { callee := .value f, args, .. } => callR P (ev f) (args.toList.map ev) h K
  | .next it false => NextW (ev it) h K
  | op => ∃ v h', dop P ev op h = some (v, h') ∧ K v h'

def yieldedA (ops : Array Oper) (a : AAct) (j : Nat) : Option Bool :=
  match (ops[j]?).bind (·.dst) with
  | some t => if t < a.n then (match a.tm t with | .bool b => some b | _ => none) else none
  | none => none

def opW (P : Program) (ops : Array Oper) (o : Oper) (a : AAct) (h : AH) (K : AAct → AH → Prop) : Prop :=
  o.op.operands.toList.all cOK = true ∧ dstOK a o.dst ∧
    if Region.wanted o (yieldedA ops a) then opR P a.ev o.op h (fun v h' => K (a.put o.dst v) h') else K (a.put o.dst undef) h

theorem opR.mono {P : Program} {ev : Operand → Value} {op : Op} {h : AH} {K K' : Value → AH → Prop} (hk : ∀ v h, K v h → K' v h) (hw : opR P ev op h K) : opR P ev op h K' := by
  unfold opR at hw ⊢
  split
  · exact callR.mono hk hw
  · obtain ⟨I, hI, hn⟩ := hw
    refine ⟨I, hI, ?_⟩
    rcases hn with ⟨a, b, c, hg, hkk⟩ | ⟨M, since, seen, stepped, es, clk, hg, hgm, hbad, hall⟩
    · exact .inl ⟨a, b, c, hg, hk _ _ hkk⟩
    · refine .inr ⟨M, since, seen, stepped, es, clk, hg, hgm, hbad, fun x hx => ?_⟩
      have := hall x hx
      cases x <;> exact hk _ _ this
  · rename_i h1 h2
    split at hw
    · exact absurd rfl (h1 _ _ _)
    · exact absurd rfl (h2 _)
    · obtain ⟨v, h', hd, hkk⟩ := hw
      exact ⟨v, h', hd, hk _ _ hkk⟩

theorem opW.mono {P : Program} {ops : Array Oper} {o : Oper} {a : AAct} {h : AH} {K K' : AAct → AH → Prop} (hk : ∀ a h, K a h → K' a h) (hw : opW P ops o a h K) : opW P ops o a h K' := by
  obtain ⟨h1, h2, h3⟩ := hw
  refine ⟨h1, h2, ?_⟩
  split
  · rename_i hw; rw [if_pos hw] at h3; exact h3.mono fun _ _ => hk _ _
  · rename_i hw; rw [if_neg hw] at h3; exact hk _ _ h3

theorem yielded_eq {ρ : Ren} {a : AAct} {c : Act} (h : AR ρ a c) (ops : Array Oper) : yielded ops c.tmps = yieldedA ops a := by
  funext j
  unfold yielded yieldedA
  cases hd : (ops[j]?).bind (·.dst) with
  | none => rfl
  | some t =>
    simp only [Option.bind_some]
    have hv := h.tmp t
    rw [Array.getD_eq_getD_getElem?] at hv
    by_cases hlt : t < c.tmps.size
    · have hlt' : t < a.n := by rw [← h.size]; exact hlt
      rw [if_pos hlt']
      rw [Array.getElem?_eq_getElem hlt] at hv ⊢
      simp only [Option.getD_some] at hv
      generalize c.tmps[t] = y at hv ⊢
      generalize a.tm t = x at hv ⊢
      cases hv <;> rfl
    · have hlt' : ¬ t < a.n := by rw [← h.size]; exact hlt
      rw [if_neg hlt', Array.getElem?_eq_none (Nat.le_of_not_lt hlt)]

def Post (ρ : Ren) (h : AH) (w : World) (K : AAct → AH → Prop) (ca' : Act) (w' : World) : Prop :=
  ∃ ρ' a' h', K a' h' ∧ AR ρ' a' ca' ∧ HR ρ' h' w' ∧ Frm ρ h w ρ' h' w'

theorem opW.sound {P : Program} {ops : Array Oper} {o : Oper} {a : AAct} {h : AH} {K : AAct → AH → Prop} (hw : opW P ops o a h K) {n : Nat} {ρ : Ren} {crd : Option Nat} {ca : Act} {w : World} (har : AR ρ a ca) (hr : HR ρ h w)
    {Q : Exit → Act → World → Prop} {N : Act → World → Prop} (hN : ∀ ca' w', Post ρ h w K ca' w' → N ca' w') :
    if Region.wanted o (yielded ops ca.tmps) then o.wpIn (fence crd) n P ca w N Q
    else (∀ f, o.about P w ca.eval = some f → (fence crd).fn f) ∧ N (ca.put o.dst undef) w := by
  obtain ⟨hc, hd, hk⟩ := hw
  rw [yielded_eq har]
  by_cases hwant : Region.wanted o (yieldedA ops a) = true
  · rw [if_pos hwant] at hk ⊢
    refine ⟨fun _ _ => trivial, ?_⟩
    have hev : ∀ x, cOK x = true → VR ρ (a.ev x) (ca.eval x) := fun x hx => har.ev hx
    have fin : ∀ ρ' v v' h' w', K (a.put o.dst v) h' → VR ρ' v v' → HR ρ' h' w' → Frm ρ h w ρ' h' w' → N (ca.put o.dst v') w' :=
      fun ρ' v v' h' w' k vr r f => hN _ _ ⟨ρ', _, h', k, (har.mono f.le).put (by exact hd) vr, r, f⟩
    unfold opR at hk
    split at hk
    · rename_i op f args at' hop
      have hnd : ∀ c, o.op ≠ .defer c := fun c e => by rw [hop] at e; cases e
      rw [Oper.semAt_eq _ _ _ hnd]
      have hcf : cOK f = true := List.all_eq_true.1 hc f (by rw [hop]; simp [Op.operands, Call.operands])
      have hca : ∀ x ∈ args.toList, cOK x = true := fun x hx => List.all_eq_true.1 hc x (by rw [hop]; simp [Op.operands, Call.operands]; exact .inr (by simpa using hx))
      have hl : LR ρ (args.toList.map a.ev) (args.map ca.eval).toList := by
        rw [Array.toList_map]; exact LR.map fun x hm => hev x (hca x hm)
      have hf := hev f hcf
      unfold callR at hk
      split at hk
      · rename_i g first cap hfe
        rw [hfe] at hf
        generalize hcc : ca.eval f = y at hf
        cases hf with
        | @func _ _ _ first' _ cap' hfn h1 h2 h3 h4 =>
          cases hfn
          obtain ⟨⟨fn, hfn, hbody, hname⟩, hcall⟩ := hk
          have hnone : fn.body.isNone = false := by cases hb : fn.body <;> simp_all
          have hrun : (execOp ca.eval o).run P w = .ok (.enter g (first' ++ args.map ca.eval ++ cap')) w := by
            obtain ⟨dst, op', type, pos, after, guard⟩ := o
            simp only at hop; subst hop
            simp only [execOp, resolve, hcc, Deferred.ofValue, Sem.run_bind, Sem.run_pure, Result.andThen_ok, invoke, callFunc, run_program, hfn, hname, Bool.false_eq_true, if_false, hnone]
          rw [hrun, Oper.uponIn_enter]
          refine ⟨fun h => by simp [fence, Fence.wide] at h, ?_⟩
          have hla : LR ρ (first.toList ++ args.toList.map a.ev ++ cap.toList) (first' ++ args.map ca.eval ++ cap').toList := by
            rw [Array.toList_append, Array.toList_append]
            exact (LR.append (LR.append ⟨by simpa using h1, fun i v v' x y => h2 i v v' (by simpa using x) (by simpa using y)⟩ hl) ⟨by simpa using h3, fun i v v' x y => h4 i v v' (by simpa using x) (by simpa using y)⟩)
          have hcc2 := callsIn_wide (n := n - 1).2 (hcall ρ _ w hla hr)
          have hcc3 : CallsIn (fence crd) (n - 1) P g (first' ++ args.map ca.eval ++ cap') w _ := hcc2
          refine hcc3.mono ?_
          rintro e w' ⟨ρ', v, v', h', rfl, hkk, hv, hr', hf'⟩
          exact fin ρ' v v' h' w' hkk hv hr' hf'
      · rename_i L first cap hfe
        rw [hfe] at hf
        generalize hcc : ca.eval f = y at hf
        cases hf with
        | @func _ _ _ first' _ cap' hfn h1 h2 h3 h4 =>
          cases hfn with
          | @yield _ r hL =>
            have hla : LR ρ (first.toList ++ args.toList.map a.ev) (first' ++ args.map ca.eval).toList := by
              rw [Array.toList_append]
              exact (LR.append ⟨by simpa using h1, fun i v v' x y => h2 i v v' (by simpa using x) (by simpa using y)⟩ hl)
            obtain ⟨f', tmps, assign, body, hy, hround⟩ := hk.sound (n := n - 1) (crd := crd) hla hr ⟨_, hL, rfl⟩
            have hrun : (execOp ca.eval o).run P w = .ok (.round r.blk f' tmps assign body) w := by
              obtain ⟨dst, op', type, pos, after, guard⟩ := o
              simp only at hop; subst hop
              simp only [execOp, resolve, hcc, Deferred.ofValue, Sem.run_bind, Sem.run_pure, Result.andThen_ok, invoke]
              exact hy
            rw [hrun, Oper.uponIn_round]
            refine ⟨fun h => by simp [fence, Fence.wide] at h, hround.mono ?_⟩
            rintro e w' ⟨ρ', v, v', h', rfl, hkk, hv, hr', hf'⟩
            exact fin ρ' v v' h' w' hkk hv hr' hf'
      · exact hk.elim
    · rename_i op it hop
      have hnd : ∀ c, o.op ≠ .defer c := fun c e => by rw [hop] at e; cases e
      rw [Oper.semAt_eq _ _ _ hnd]
      have hci : cOK it = true := List.all_eq_true.1 hc it (by rw [hop]; simp [Op.operands])
      obtain ⟨ρ', v, v', h', w', hrun, hkk, hv, hr', hf'⟩ := NextW.sound (P := P) (ty := o.type) hr (hev it hci) hk
      have hrun2 : (execOp ca.eval o).run P w = .ok (.value v') w' := by
        obtain ⟨dst, op', type, pos, after, guard⟩ := o
        simp only at hop; subst hop
        simp only [execOp, Sem.run_bind, hrun, Result.andThen_ok, Sem.run_pure]
      rw [hrun2, Oper.uponIn_value]
      exact fin ρ' v v' h' w' hkk hv hr' hf'
    · rename_i op _ _
      obtain ⟨v, h', hdo, hkk⟩ := hk
      have hnd : ∀ c, o.op ≠ .defer c := fun c e => by rw [e] at hdo; cases hdo
      rw [Oper.semAt_eq _ _ _ hnd]
      obtain ⟨ρ', v', nx, w', hrun, hnx, hv, hr', hf'⟩ := dop_snd (o := o) hc hev hr hdo
      rw [hrun]
      rcases hnx with rfl | ⟨rfl, rfl⟩
      · exact fin ρ' v v' h' w' hkk hv hr' hf'
      · exact fin ρ' v undef h' w' hkk hv hr' hf'
  · rw [if_neg hwant] at hk ⊢
    exact ⟨fun _ _ => trivial, hN _ _ ⟨ρ, _, h, hk, har.put hd (.undef _), hr, Frm.refl _ _ _⟩⟩

end Go.Ab

namespace Go.Ab

def thenQ (N : AAct → AH → Prop) (Q : Exit → AAct → AH → Prop) : Exit → AAct → AH → Prop
  | .normal, a, h => N a h
  | e, a, h => Q e a h

def blockQ (id : Nat) (Q : Exit → AAct → AH → Prop) : Exit → AAct → AH → Prop
  | .exit id', a, h => if id' = id then Q .normal a h else Q (.exit id') a h
  | e, a, h => Q e a h

section
variable {P : Program} {rd : Option Nat} {Q : Exit → AAct → AH → Prop} {a : AAct} {h : AH}

theorem AW.skip (hq : Q .normal a h) : AW P rd .skip Q a h := fun _ ρ _ _ _w _ ha hr => wpIn_skip ⟨ρ, a, h, hq, ha, hr, Frm.refl _ _ _⟩
theorem AW.ret (hq : Q .ret a h) : AW P rd .ret Q a h := fun _ ρ _ _ _w _ ha hr => wpIn_ret ⟨ρ, a, h, hq, ha, hr, Frm.refl _ _ _⟩
theorem AW.exit {id : Nat} (hq : Q (.exit id) a h) : AW P rd (.exit id) Q a h := fun _ ρ _ _ _w _ ha hr => wpIn_exit ⟨ρ, a, h, hq, ha, hr, Frm.refl _ _ _⟩
theorem AW.goto {id : Nat} (hq : Q (.goto id) a h) : AW P rd (.goto id) Q a h := fun _ ρ _ _ _w _ ha hr => wpIn_goto ⟨ρ, a, h, hq, ha, hr, Frm.refl _ _ _⟩
theorem AW.label {id : Nat} (hq : Q .normal a h) : AW P rd (.label id) Q a h := fun _ ρ _ _ _w _ ha hr => wpIn_label ⟨ρ, a, h, hq, ha, hr, Frm.refl _ _ _⟩

theorem AW.seq {x y : Code} (hx : AW P rd x (thenQ (AW P rd y Q) Q) a h) : AW P rd (.seq x y) Q a h := by
  intro n ρ crd ca w hrd ha hr
  refine wpIn_seq (wpIn_mono (hx n ρ crd ca w hrd ha hr) ?_)
  rintro e ca1 w1 ⟨ρ1, a1, h1, hq, ha1, hr1, hf1⟩
  cases e with
  | normal =>
    refine wpIn_mono (hq n ρ1 crd ca1 w1 (hrd.mono hf1.le) ha1 hr1) ?_
    rintro e ca2 w2 ⟨ρ2, a2, h2, hq2, ha2, hr2, hf2⟩
    exact ⟨ρ2, a2, h2, hq2, ha2, hr2, hf1.trans hf2⟩
  | _ => exact ⟨ρ1, a1, h1, hq, ha1, hr1, hf1⟩

theorem AW.cond {c : Operand} {x y : Code} {t : Bool} (hk : cOK c = true) (hc : a.ev c = .bool t) (hx : AW P rd (if t then x else y) Q a h) : AW P rd (.cond c x y) Q a h := by
  intro n ρ crd ca w hrd ha hr
  have hv := ha.ev hk
  rw [hc] at hv
  refine wpIn_cond (t := t) ?_ (hx n ρ crd ca w hrd ha hr)
  generalize ca.eval c = z at hv ⊢
  cases hv; rfl

theorem AW.block {id : Nat} {c : Code} (hx : AW P rd c (blockQ id Q) a h) : AW P rd (.block id c) Q a h := by
  intro n ρ crd ca w hrd ha hr
  refine wpIn_block (wpIn_mono (hx n ρ crd ca w hrd ha hr) ?_)
  rintro e ca1 w1 ⟨ρ1, a1, h1, hq, ha1, hr1, hf1⟩
  cases e with
  | exit id' =>
    simp only [blockQ] at hq
    simp only [Exit.inBlock]
    split
    · rename_i e; rw [if_pos e] at hq; exact ⟨ρ1, a1, h1, hq, ha1, hr1, hf1⟩
    · rename_i e; rw [if_neg e] at hq; exact ⟨ρ1, a1, h1, hq, ha1, hr1, hf1⟩
  | _ => exact ⟨ρ1, a1, h1, hq, ha1, hr1, hf1⟩

theorem wpIn_loop_ix {F : Fence} {n : Nat} {Q : Exit → Act → World → Prop} {c : Code} (I : Nat → Act → World → Prop) (m : Nat) {a : Act} {w : World} (h0 : I m a w)
    (round : ∀ m a w, I m a w → c.wpIn F n P (Exit.then (fun a' w' => ∃ m', m' < m ∧ I m' a' w') Q) a w) : (Code.loop c).wpIn F n P Q a w := by
  intro b k cs hro hb hr
  have key : ∀ m a w, I m a w →
      ∃ e a' w', Q e a' w' ∧ ArrivesIn (Machine.fenced P F) P (lone (b.atR a (.code c :: .inLoop c :: k)) cs w) b k cs e a' w' := by
    intro m
    induction m using Nat.strongRecOn with
    | _ m ih =>
      intro a w hI
      obtain ⟨e, a₁, w₁, hq, harr⟩ := round m a w hI b (.inLoop c :: k) cs hro hb hr
      cases e with
      | normal =>
        obtain ⟨m', hlt, hI₁⟩ := hq
        obtain ⟨e₂, a₂, w₂, hq₂, harr₂⟩ := ih m' hlt a₁ w₁ hI₁
        exact ⟨e₂, a₂, w₂, hq₂, .of_steps (StepsIn.trans harr (.one (fenced_calm hb hr rfl) stepR_inLoop)) harr₂⟩
      | exit id => exact ⟨_, a₁, w₁, hq, .pass (x := .inLoop c) rfl (fun _ _ => .inl (by simp)) harr⟩
      | goto l => exact ⟨_, a₁, w₁, hq, .pass (x := .inLoop c) rfl (fun _ _ => .inl (by simp)) harr⟩
      | ret => exact ⟨_, a₁, w₁, hq, .pass (x := .inLoop c) rfl (fun _ _ => .inl (by simp)) harr⟩
      | panic ch => exact ⟨_, a₁, w₁, hq, .pass (x := .inLoop c) rfl (fun _ _ => .inl (by simp)) harr⟩
      | outgrown => exact ⟨_, a₁, w₁, hq, .pass (x := .inLoop c) rfl (fun _ _ => .inl (by simp)) harr⟩
  obtain ⟨e, a', w', hq, harr⟩ := key m a w h0
  exact ⟨e, a', w', hq, .of_steps (.one (fenced_calm hb hr rfl) stepR_loop) harr⟩

theorem AW.loop {c : Code} (I : Nat → AAct → AH → Prop) (m : Nat) (h0 : I m a h)
    (round : ∀ m a h, I m a h → AW P rd c (thenQ (fun a' h' => ∃ m', m' < m ∧ I m' a' h') Q) a h) : AW P rd (.loop c) Q a h := by
  intro n ρ crd ca w hrd ha hr
  refine wpIn_loop_ix (fun m ca' w' => ∃ ρ' a' h', I m a' h' ∧ AR ρ' a' ca' ∧ HR ρ' h' w' ∧ Frm ρ h w ρ' h' w') m ⟨ρ, a, h, h0, ha, hr, Frm.refl _ _ _⟩ ?_
  rintro m ca1 w1 ⟨ρ1, a1, h1, hI, ha1, hr1, hf1⟩
  refine wpIn_mono (round m a1 h1 hI n ρ1 crd ca1 w1 (hrd.mono hf1.le) ha1 hr1) ?_
  rintro e ca2 w2 ⟨ρ2, a2, h2, hq2, ha2, hr2, hf2⟩
  cases e with
  | normal => obtain ⟨m', hlt, hI'⟩ := hq2; exact ⟨m', hlt, ρ2, a2, h2, hI', ha2, hr2, hf1.trans hf2⟩
  | _ => exact ⟨ρ2, a2, h2, hq2, ha2, hr2, hf1.trans hf2⟩

def opsW (P : Program) (ops : Array Oper) (Q : Exit → AAct → AH → Prop) : List Nat → AAct → AH → Prop
  | [], a, h => Q .normal a h
  | i :: l, a, h => match ops[i]? with
    | none => opsW P ops Q l a h
    | some o => opW P ops o a h (opsW P ops Q l)

def PostE (ρ : Ren) (h : AH) (w : World) (Q : Exit → AAct → AH → Prop) (e : Exit) (ca' : Act) (w' : World) : Prop :=
  ∃ ρ' a' h', Q e a' h' ∧ AR ρ' a' ca' ∧ HR ρ' h' w' ∧ Frm ρ h w ρ' h' w'

theorem PostE.trans {ρ ρ1 : Ren} {h h1 : AH} {w w1 : World} {e : Exit} {ca : Act} {w' : World} (hf : Frm ρ h w ρ1 h1 w1) (hp : PostE ρ1 h1 w1 Q e ca w') : PostE ρ h w Q e ca w' :=
  let ⟨ρ', a', h', x, y, z, t⟩ := hp; ⟨ρ', a', h', x, y, z, hf.trans t⟩

theorem wpOpsIn_mono {F : Fence} {n : Nat} {ops : Array Oper} {Q Q' : Exit → Act → World → Prop} (hq : ∀ e a w, Q e a w → Q' e a w) : ∀ (l : List Nat) (a : Act) (w : World), wpOpsIn F n P ops Q l a w → wpOpsIn F n P ops Q' l a w := by
  intro l
  induction l with
  | nil => intro a w h; exact hq _ _ _ h
  | cons i l ih =>
    intro a w h
    rw [wpOpsIn_cons] at h ⊢
    have h := wpOpIn_mono (fun a w => ih a w) h
    unfold wpOpIn at h ⊢
    split
    · rename_i ho; rw [ho] at h; exact h
    · rename_i o ho
      rw [ho] at h
      simp only at h
      split
      · rename_i hw
        rw [if_pos hw] at h
        refine ⟨h.1, ?_⟩
        have h := h.2
        generalize (o.semAt F.round a.eval).run P w = r at h ⊢
        cases r with
        | ok x w' =>
          cases x <;> simp only [Oper.uponIn] at h ⊢ <;>
            first
              | exact h
              | exact ⟨h.1, CallsIn.mono h.2 (fun e w'' he => by cases e <;> first | exact he | exact hq _ _ _ he | exact (let ⟨a, w, x⟩ := he; ⟨a, w, hq _ _ _ x⟩))⟩
              | exact ⟨h.1, RoundIn.mono h.2 (fun e w'' he => by cases e <;> first | exact he | exact hq _ _ _ he | exact (let ⟨a, w, x⟩ := he; ⟨a, w, hq _ _ _ x⟩))⟩
        | halt x w' => cases x <;> simp only [Oper.uponIn] at h ⊢ <;> first | exact h | exact hq _ _ _ h
      · rename_i hw; rw [if_neg hw] at h; exact h

theorem opsW.sound {ops : Array Oper} {n : Nat} {crd : Option Nat} : ∀ (l : List Nat) (a : AAct) (h : AH), opsW P ops Q l a h → ∀ (ρ : Ren) (ca : Act) (w : World), AR ρ a ca → HR ρ h w →
    wpOpsIn (fence crd) n P ops (PostE ρ h w Q) l ca w := by
  intro l
  induction l with
  | nil => intro a h hq ρ ca w ha hr; exact ⟨ρ, a, h, hq, ha, hr, Frm.refl _ _ _⟩
  | cons i l ih =>
    intro a h hq ρ ca w ha hr
    rw [wpOpsIn_cons]
    unfold wpOpIn
    simp only [opsW] at hq
    cases ho : ops[i]? with
    | none => simp only [ho] at hq ⊢; exact ih a h hq ρ ca w ha hr
    | some o =>
      simp only [ho] at hq ⊢
      refine hq.sound ha hr (N := wpOpsIn (fence crd) n P ops (PostE ρ h w Q) l) ?_
      rintro ca1 w1 ⟨ρ1, a1, h1, hk, ha1, hr1, hf1⟩
      exact wpOpsIn_mono (fun e ca w' hp => hp.trans hf1) l ca1 w1 (ih a1 h1 hk ρ1 ca1 w1 ha1 hr1)

theorem AW.region {id : Nat} {ops : Array Oper} (hx : opsW P ops Q (List.range ops.size) a h) : AW P rd (.region id ops false) Q a h :=
  fun _n ρ _crd ca w _hrd ha hr => wpIn_region (opsW.sound _ a h hx ρ ca w ha hr)

end

/-! ### A function's call, from its body -/

def closeMarks : List Nat → AH → Option AH
  | [], h => some h
  | A :: as, h => match h.get A with
    | some (.dfr true) => closeMarks as (h.set A (.dfr false))
    | _ => none

def resL (P : Program) (tm : Nat → Value) (h : AH) : List ResultVar → Option (List Value)
  | [] => some []
  | .tmp t :: rs => (resL P tm h rs).map (tm t :: ·)
  | .cell a t :: rs => match aLoad P t (tm a) h, resL P tm h rs with
    | some v, some vs => some (v :: vs)
    | _, _ => none

def resV : List Value → Value
  | [v] => v
  | vs => .tuple vs.toArray

def bodyQ (P : Program) (fn : Func) (K : Value → AH → Prop) (e : Exit) (a : AAct) (h : AH) : Prop :=
  (e = .normal ∨ e = .ret) ∧ ∃ h' vs, closeMarks a.df h = some h' ∧ resL P a.tm h' fn.results.toList = some vs ∧ K (resV vs) h'

def enterA (fn : Func) (args : List Value) : AAct := { n := args.length + (fn.ntmps - args.length), tm := fun i => args.getD i undef, df := [] }

theorem resL_run {P : Program} {ρ : Ren} {a : AAct} {h : AH} {ca : Act} {w : World} (ha : AR ρ a ca) (hr : HR ρ h w) : ∀ (rs : List ResultVar) (vs : List Value), resL P a.tm h rs = some vs →
    ∃ vs', (rs.mapM (m := Sem) fun | .tmp t => pure (ca.tmps.getD t undef) | .cell a t => do loadVar t (← asAddr (ca.tmps.getD a undef))).run P w = .ok vs' w ∧ LR ρ vs vs' := by
  intro rs
  induction rs with
  | nil => intro vs hv; cases hv; exact ⟨[], by simp, LR.nil _⟩
  | cons r rs ih =>
    intro vs hv
    cases r with
    | tmp t =>
      simp only [resL, Option.map_eq_some_iff] at hv
      obtain ⟨vs1, h1, rfl⟩ := hv
      obtain ⟨vs', hrun, hl⟩ := ih vs1 h1
      exact ⟨_ :: vs', by simp only [List.mapM_cons, Sem.run_bind, Sem.run_pure, Result.andThen_ok, hrun], hl.cons (ha.tmp t)⟩
    | cell x t =>
      simp only [resL] at hv
      split at hv
      · rename_i v vs1 hlo h1
        cases hv
        obtain ⟨vs', hrun, hl⟩ := ih vs1 h1
        obtain ⟨v', hv', hvr⟩ := aLoad_rd hr (ha.tmp x) hlo
        have hx := ha.tmp x
        have : (do loadVar t (← asAddr (ca.tmps.getD x undef)) : Sem Value).run P w = .ok v' w := by
          unfold aLoad at hlo
          split at hlo
          · rename_i A off hp
            rw [hp] at hx
            generalize ca.tmps.getD x undef = y at hx hv' ⊢
            cases hx with
            | ptr hq => simpa [Instr.loadAt, Instr.sureAddr, asAddr] using hv'
          · cases hlo
        exact ⟨v' :: vs', by simp only [List.mapM_cons, Sem.run_bind, this, Sem.run_pure, Result.andThen_ok, hrun], hl.cons hvr⟩
      · cases hv

theorem resV_run {P : Program} {ρ : Ren} {fn : Func} {a : AAct} {h : AH} {ca : Act} {w : World} (ha : AR ρ a ca) (hr : HR ρ h w) {vs : List Value} (hv : resL P a.tm h fn.results.toList = some vs) :
    ∃ v', (results fn ca.tmps).run P w = .ok v' w ∧ VR ρ (resV vs) v' := by
  obtain ⟨vs', hrun, hl⟩ := resL_run ha hr _ _ hv
  refine ⟨resV vs', ?_, ?_⟩
  · unfold results
    rw [Array.mapM_eq_mapM_toList]
    simp only [Sem.run_bind, Sem.run_pure, map_eq_pure_bind, bind_assoc]
    refine (congrArg (fun (r : Result (List Value)) => r.andThen _) hrun).trans ?_
    simp only [Result.andThen_ok]
    clear hrun hl
    match vs' with
    | [] => rfl
    | [_] => rfl
    | _ :: _ :: _ => simp [resV]
  · unfold resV
    split
    · rename_i v
      match vs', hl with
      | [x], hl => exact hl.2 0 _ _ rfl rfl
      | [], hl => have := hl.1; simp at this
      | _ :: _ :: _, hl => have := hl.1; simp at this
    · rename_i hne
      split
      · rename_i v
        have := hl.1
        match vs, hne, this with
        | [x], hne, _ => exact absurd rfl (hne x)
        | [], _, this => simp at this
        | _ :: _ :: _, _, this => simp at this
      · exact hl.toTuple

theorem marks_leave {P : Program} {fn : Func} {n : Nat} {R : Ending → World → Prop} {ρ : Ren} {a : AAct} {ca : Act} : ∀ (as : List Nat) (ds : List Deferred) (h h' : AH) (w : World) (vs : List Value), DR ρ as ds → AR ρ a ca → HR ρ h w →
    closeMarks as h = some h' → resL P a.tm h' fn.results.toList = some vs →
    (∀ v' w', VR ρ (resV vs) v' → HR ρ h' w' → Frm ρ h w ρ h' w' → R (.returned v') w') → LeavesInM Fence.wide n P fn ca.tmps R ds .returning w := by
  intro as
  induction as with
  | nil =>
    intro ds h h' w vs hd ha hr hc hv hR
    cases ds with
    | cons => exact hd.elim
    | nil =>
      cases hc
      obtain ⟨v', hrun, hvr⟩ := resV_run ha hr hv
      exact ⟨v', hrun, hR v' w hvr hr (Frm.refl _ _ _)⟩
  | cons A as ih =>
    intro ds h h' w vs hd ha hr hc hv hR
    cases ds with
    | nil => exact hd.elim
    | cons d ds =>
      obtain ⟨⟨r, hq, htg⟩, hd⟩ := hd
      simp only [closeMarks] at hc
      split at hc
      · rename_i hg
        obtain ⟨r', hq', hor⟩ := hr.obj A _ hg
        rw [hq] at hq'; cases hq'
        have hor : w.heap[r.blk]? = some (.deferred (some [])) := hor
        have hlt : r.blk < w.heap.size := (Array.getElem?_eq_some_iff.1 hor).1
        obtain ⟨hr1, hf1⟩ := hr.turn (o' := .dfr false) (x := .deferred none) hg rfl hq (by show (w.heap.setIfInBounds _ _)[_]? = _; simp [hlt])
        refine ⟨(fun e => by cases e), .inl ⟨r.blk, _, htg, run_takeDeferred hor, ?_⟩⟩
        exact ih ds _ h' _ vs hd ha hr1 hc hv fun v' w' x y z => hR v' w' x y (hf1.trans z)
      · cases hc

theorem ACall.of_body {P : Program} {g : FuncId} {fn : Func} {c : Code} {args : List Value} {h : AH} {K : Value → AH → Prop} (hf : P.funcs[g]? = some fn) (hb : fn.body = some c) (hn : (fn.name == "runtime.NumGoroutine") = false)
    (hw : AW P none c (bodyQ P fn K) (enterA fn args) h) : ACall P g args h K := by
  refine ⟨⟨fn, hf, by rw [hb]; rfl, hn⟩, fun ρ cargs w hl hr => callsIn_wide (n := 0).1 ?_⟩
  refine callsIn_of_wp_marks hf hb trivial ?_
  have ha : AR ρ (enterA fn args) { tmps := cargs ++ Array.replicate (fn.ntmps - cargs.size) undef, defers := [] } := by
    have hs : args.length = cargs.size := by simpa using hl.1
    refine ⟨by simp [enterA, hs], fun i => ?_, trivial⟩
    simp only [enterA]
    rw [Array.getD_eq_getD_getElem?, List.getD_eq_getElem?_getD]
    by_cases hi : i < cargs.size
    · rw [Array.getElem?_append_left hi]
      have h1 : args[i]? = some args[i] := List.getElem?_eq_getElem (by omega)
      have h2 : cargs[i]? = some cargs[i] := Array.getElem?_eq_getElem hi
      rw [h1, h2]
      exact hl.2 i _ _ h1 (by simp)
    · rw [List.getElem?_eq_none (by omega), Array.getElem?_append_right (by omega), Array.getElem?_replicate]
      split <;> exact .undef _
  refine wpIn_mono (hw 0 ρ none _ w trivial ha hr) ?_
  rintro e ca w1 ⟨ρ1, a1, h1, ⟨he, h', vs, hc, hv, hk⟩, ha1, hr1, hf1⟩
  have := marks_leave (n := 0) (R := fun e w' => ∃ ρ' v v' h', e = .returned v' ∧ K v h' ∧ VR ρ' v v' ∧ HR ρ' h' w' ∧ Frm ρ h w ρ' h' w') a1.df ca.defers h1 h' w1 vs ha1.df ha1 hr1 hc hv
    (fun v' w' x y z => ⟨ρ1, _, v', h', rfl, hk, x, y, hf1.trans z⟩)
  rcases he with rfl | rfl <;> exact this

end Go.Ab

namespace Go.Ab

/-- Behind the function that was ranged over. -/
def rangeQ (P : Program) (rd : Option Nat) (L : Nat) (a : AAct) (Q : Exit → AAct → AH → Prop) (_ : Value) (h : AH) : Prop :=
  ∃ l, h.get L = some (.loop l) ∧ l.state ≠ .busy ∧
    match l.pending with
    | none => Q .normal a (h.set L (.loop { l with state := .exhausted }))
    | some c => AW P rd c Q a (h.set L (.loop { l with state := .exhausted }))

/-- A range over a function, entered. -/
def rangeW (P : Program) (rd : Option Nat) (g : Operand) (ps : Array Tmp) (assign body : Code) (Q : Exit → AAct → AH → Prop) (a : AAct) (h : AH) : Prop :=
  ∃ gf first cap, cOK g = true ∧ a.ev g = .func (.func gf) first cap ∧
    match rd with
    | none =>
      ACall P gf (first.toList ++ [.func (.yield (h.next + 1)) #[] #[]] ++ cap.toList)
        ((h.new (.dfr true)).new (.loop { state := .ready, pending := none, fn := 0, n := a.n, tm := a.tm, params := ps, assign := assign, body := body, defers := h.next }))
        (rangeQ P rd (h.next + 1) { a with df := h.next :: a.df } Q)
    | some L0 => ∃ l0, h.get L0 = some (.loop l0) ∧
      ACall P gf (first.toList ++ [.func (.yield h.next) #[] #[]] ++ cap.toList)
        (h.new (.loop { state := .ready, pending := none, fn := 0, n := a.n, tm := a.tm, params := ps, assign := assign, body := body, defers := l0.defers }))
        (rangeQ P rd h.next a Q)

theorem rangeQ.sound {P : Program} {rd : Option Nat} {L : Nat} {a : AAct} {Q : Exit → AAct → AH → Prop} {n : Nat} {ρ ρ0 : Ren} {h h0 : AH} {w w0 : World} {crd : Option Nat} {ca : Act} {v : Value} {r : RE}
    (hq : rangeQ P rd L a Q v h) (hL : ρ L = some r) (hrd : RD ρ rd crd) (ha : AR ρ a ca) (hr : HR ρ h w) (hf : Frm ρ0 h0 w0 ρ h w) (v' : Value) :
    rangePost (fence crd) n P r.blk (PostE ρ0 h0 w0 Q) ca (.returned v') w := by
  obtain ⟨l, hg, hst, hk⟩ := hq
  obtain ⟨r2, l', q, hq2, hh, hlt, h1, h2, h3, h4, h5, h6, h7, h8, h9, h10⟩ := loopAt hr hg
  rw [hL] at hq2; cases hq2
  obtain ⟨hr1, hf1⟩ := hr.turnLoop hg hL hh .exhausted l.pending
  refine ⟨l'.pending, { w with heap := w.heap.setIfInBounds r.blk (.loop { l' with state := .exhausted, pending := l.pending }) }, ?_, ?_⟩
  · rw [run_endLoop hh (by rw [h1]; exact hst)]
    have : ({ l' with state := .exhausted, pending := l.pending } : Loop) = { l' with state := .exhausted } := by rw [← h2]
    rw [this]; rfl
  · rw [h2]
    clear h2
    generalize l.pending = pd at hk hr1 hf1 ⊢
    cases pd with
    | none =>
      exact ⟨ρ, a, _, hk, ha, hr1, hf.trans hf1⟩
    | some c =>
      refine wpIn_mono (hk n ρ crd ca _ hrd ha hr1) ?_
      rintro e ca2 w2 ⟨ρ2, a2, h2, hq2, ha2, hr2, hf2⟩
      exact ⟨ρ2, a2, h2, hq2, ha2, hr2, (hf.trans hf1).trans hf2⟩

theorem AW.rangeFunc {P : Program} {rd : Option Nat} {g : Operand} {ps : Array Tmp} {assign body : Code} {Q : Exit → AAct → AH → Prop} {a : AAct} {h : AH} (hw : rangeW P rd g ps assign body Q a h) :
    AW P rd (.rangeFunc g ps assign body) Q a h := by
  intro n ρ crd ca w hrd ha hr
  refine wpIn_rangeFunc fun fn _ => ?_
  obtain ⟨gf, first, cap, hck, hev, hk⟩ := hw
  have hg := ha.ev hck
  rw [hev] at hg
  generalize hcc : ca.eval g = y at hg
  cases hg with
  | @func _ _ _ first' _ cap' hfn h1 h2 h3 h4 =>
  cases hfn
  have hres : ∀ (l : Nat) (w : World), (resolve ca.eval (rangeCall g l) 0).run P w = .ok { target := .fn (.func gf) cap', args := first' ++ #[.func (.yield l) #[] #[]] } w := by
    intro l w
    simp only [resolve, hcc, Deferred.ofValue, Sem.run_pure]; simp [Act.eval]
  have hla : ∀ {ρ' : Ren} (L : Nat) (r : RE), ρ.le ρ' → ρ' L = some r → LR ρ' (first.toList ++ [Value.func (.yield L) #[] #[]] ++ cap.toList) (first' ++ #[Value.func (.yield r.blk) #[] #[]] ++ cap').toList := by
    intro ρ' L r hle hL
    rw [Array.toList_append, Array.toList_append]
    refine LR.append (LR.append ⟨by simpa using h1, fun i v v' x y => (h2 i v v' (by simpa using x) (by simpa using y)).mono hle⟩ (LR.single (VR.func (.yield hL) rfl (fun i v v' x _ => by simp at x) rfl (fun i v v' x _ => by simp at x))))
      ⟨by simpa using h3, fun i v v' x y => (h4 i v v' (by simpa using x) (by simpa using y)).mono hle⟩
  have hinv : ∀ (hE : Enters P gf) (l : Nat) (w : World), (invoke (.fn (.func gf) cap') (first' ++ #[.func (.yield l) #[] #[]])).run P w = .ok (.enter gf (first' ++ #[.func (.yield l) #[] #[]] ++ cap')) w := by
    rintro ⟨f, hf, hb, hn⟩ l w
    have hnone : f.body.isNone = false := by cases hb' : f.body <;> simp_all
    simp only [invoke, callFunc, run_program, Sem.run_bind, Result.andThen_ok, hf, hn, Bool.false_eq_true, if_false, hnone, Sem.run_pure]
  cases rd with
  | none =>
    cases crd with
    | some _ => exact hrd.elim
    | none =>
    simp only at hk
    obtain ⟨hr1, hf1⟩ := hr.alloc (x := .deferred (some [])) (o := .dfr true) (w' := w.alloc (.deferred (some []))) (base := 0) (lim := 0) rfl (fun ρ' _ _ => by show (w.heap.push _)[_]? = _; simp)
    obtain ⟨hr2, hf2⟩ := hr1.alloc (x := .loop { state := .ready, pending := none, fn, tmps := ca.tmps, params := ps, assign, body, defers := w.heap.size })
      (o := .loop { state := .ready, pending := none, fn := 0, n := a.n, tm := a.tm, params := ps, assign := assign, body := body, defers := h.next })
      (w' := (w.alloc (.deferred (some []))).alloc (.loop { state := .ready, pending := none, fn, tmps := ca.tmps, params := ps, assign, body, defers := w.heap.size })) (base := 0) (lim := 0) rfl
      (fun ρ' hle hL => ⟨{ state := .ready, pending := none, fn, tmps := ca.tmps, params := ps, assign, body, defers := w.heap.size }, ⟨w.heap.size, 0, 0⟩, by show ((w.heap.push _).push _)[(w.heap.push _).size]? = _; exact Array.getElem?_push_size, rfl, rfl, trivial, rfl, rfl, rfl, hle _ _ (Ren.put_same _ _ _), rfl, ha.size, fun i => (ha.tmp i).mono (Ren.le_trans hf1.le hle)⟩)
    have hle := Ren.le_trans hf1.le hf2.le
    have hL := Ren.put_same (ρ.put h.next ⟨w.heap.size, 0, 0⟩) (h.next + 1) ⟨(w.alloc (.deferred (some []))).heap.size, 0, 0⟩
    have hsz : (w.alloc (.deferred (some []))).heap.size = w.heap.size + 1 := by show (w.heap.push _).size = _; simp
    refine ⟨w.heap.size + 1, [{ target := .collected w.heap.size, args := #[] }], _, _, _, gf, _, _, run_enterLoop_outer fn ca.tmps ps assign body, hres _ _, fun _ _ => trivial, hinv hk.1 _ _, fun h => by simp [fence, Fence.wide] at h, ?_⟩
    have hcall := callsIn_wide (n := n - 1).2 (hk.2 _ _ _ (hla (h.next + 1) _ hle hL) hr2)
    rw [hsz] at hcall hL
    rw [hsz] at hf2 hle
    refine (show CallsIn (fence none) (n - 1) P gf _ _ _ from hcall).mono ?_
    rintro e w' ⟨ρ', v, v', h', rfl, hq, hv, hr', hf'⟩
    have hle' := Ren.le_trans hle hf'.le
    have hrd' : RD ρ' none none := trivial
    refine hq.sound (r := ⟨w.heap.size + 1, 0, 0⟩) (hf'.le _ _ hL) hrd' ?_ hr' ((hf1.trans hf2).trans hf') v'
    refine ⟨ha.size, fun i => (ha.tmp i).mono hle', ⟨⟨_, hf'.le _ _ (hf2.le _ _ (Ren.put_same _ _ _)), rfl⟩, ha.df.mono hle'⟩⟩
  | some L0 =>
    cases crd with
    | none => exact hrd.elim
    | some cL0 =>
    simp only at hk
    obtain ⟨l0, hg0, hk⟩ := hk
    obtain ⟨r0, hq0, rfl⟩ := hrd
    obtain ⟨r0', l0', q0, hq0', hh0, hlt0, g1, g2, g3, g4, g5, g6, g7, g8, g9, g10⟩ := loopAt hr hg0
    rw [hq0] at hq0'; cases hq0'
    obtain ⟨hr2, hf2⟩ := hr.alloc (x := .loop { state := .ready, pending := none, fn, tmps := ca.tmps, params := ps, assign, body, defers := l0'.defers })
      (o := .loop { state := .ready, pending := none, fn := 0, n := a.n, tm := a.tm, params := ps, assign := assign, body := body, defers := l0.defers })
      (w' := w.alloc (.loop { state := .ready, pending := none, fn, tmps := ca.tmps, params := ps, assign, body, defers := l0'.defers })) (base := 0) (lim := 0) rfl
      (fun ρ' hle hL => ⟨{ state := .ready, pending := none, fn, tmps := ca.tmps, params := ps, assign, body, defers := l0'.defers }, q0, by show (w.heap.push _)[_]? = _; simp, rfl, rfl, trivial, rfl, rfl, rfl, hle _ _ g7, g8, ha.size, fun i => (ha.tmp i).mono hle⟩)
    have hL := Ren.put_same ρ h.next ⟨w.heap.size, 0, 0⟩
    have hent : (Instr.enterLoop fn ca.tmps ps assign body (some r0.blk)).run P w = .ok (w.heap.size, []) (w.alloc (.loop { state := .ready, pending := none, fn, tmps := ca.tmps, params := ps, assign, body, defers := l0'.defers })) := by
      unfold Instr.enterLoop
      simp only [Sem.run_bind, run_getLoop hh0, run_newObj_alloc, Result.andThen, Sem.run_pure]
    refine ⟨w.heap.size, [], _, _, _, gf, _, _, hent, hres _ _, fun _ _ => trivial, hinv hk.1 _ _, fun h => by simp [fence, Fence.wide] at h, ?_⟩
    have hcall := callsIn_wide (n := n - 1).2 (hk.2 _ _ _ (hla h.next _ hf2.le hL) hr2)
    refine (show CallsIn (fence (some r0.blk)) (n - 1) P gf _ _ _ from hcall).mono ?_
    rintro e w' ⟨ρ', v, v', h', rfl, hq, hv, hr', hf'⟩
    have hle' := Ren.le_trans hf2.le hf'.le
    have hrd' : RD ρ' (some L0) (some r0.blk) := ⟨r0, hle' _ _ hq0, rfl⟩
    exact hq.sound (r := ⟨w.heap.size, 0, 0⟩) (hf'.le _ _ hL) hrd' (ha.mono hle') hr' (hf2.trans hf') v'

end Go.Ab

namespace Go.Ab

def WFH (h : AH) : Prop := ∀ A, h.next ≤ A → h.get A = none

theorem HR.wf {ρ : Ren} {h : AH} {w : World} (hr : HR ρ h w) : WFH h := by
  intro A hA
  cases e : h.get A with
  | none => rfl
  | some o =>
    obtain ⟨r, hq, _⟩ := hr.obj A o e
    have := hr.dom A r hq
    omega

def pureK : Op → Bool
  | .move _ | .assign _ | .pick .. | .build .. | .nilCheck _ | .binOp .. | .unOp .. | .convert .. | .makeInterface .. | .makeFunc .. | .slice .. | .fieldAddr .. | .field .. | .indexAddr .. | .index .. | .extract .. => true
  | .call { callee := .builtin .min, .. } | .call { callee := .builtin .max, .. } => true
  | _ => false

def readK : Op → Bool
  | .load .. | .lookup .. | .entry _ => true
  | .call { callee := .builtin .len, .. } => true
  | _ => false

def allocK : Op → Bool
  | .alloc _ | .box .. | .buildSlice .. | .makeMap .. | .makeSlice .. => true
  | _ => false

section
variable {P : Program} {ev ev' : Operand → Value}

theorem mapH {x : Option Value} {v : Value} {h h1 : AH} (hd : (x.map fun v => (v, h)) = some (v, h1)) : h1 = h ∧ ∀ h' : AH, (x.map fun v => (v, h')) = some (v, h') := by
  cases x with
  | none => cases hd
  | some u => cases hd; exact ⟨rfl, fun _ => rfl⟩

theorem aBytes_next {s d : TypeId} {x : Value} {h h1 : AH} {v : Value} (hb : aBytes P s d x h = some (v, h1)) : ∃ ob, h1 = h.new ob := by
  unfold aBytes at hb
  repeat' split at hb
  all_goals first | (cases hb; done) | (cases hb; exact ⟨_, rfl⟩)

theorem aBytes_any {s d : TypeId} {x : Value} {h : AH} (h' : AH) (hb : aBytes P s d x h = none) : aBytes P s d x h' = none := by
  unfold aBytes at hb ⊢
  repeat' split at hb
  all_goals first | (cases hb; done) | rfl | simp_all

theorem new_ne {h : AH} {ob : AObj} : h ≠ h.new ob := by
  intro e
  have := congrArg AH.next e
  simp at this

theorem dop_pure' {op : Op} {h h1 : AH} {v : Value} (hk : pureK op = true) (hd : dop P ev op h = some (v, h1)) : (h1 = h ∧ ∀ h', dop P ev op h' = some (v, h')) ∨ ∃ ob, h1 = h.new ob := by
  unfold pureK at hk
  split at hk <;> (try cases hk; done) <;> simp only [dop] at hd ⊢ <;> try exact .inl (mapH hd)
  case h_1 x => cases hd; exact .inl ⟨rfl, fun _ => rfl⟩
  case h_2 x => cases hd; exact .inl ⟨rfl, fun _ => rfl⟩
  case h_3 c x y =>
    split at hd
    · rename_i e; cases hd; exact .inl ⟨rfl, fun _ => rfl⟩
    · cases hd
  case h_8 s d x =>
    split at hd
    · rename_i r hb; cases hd; exact .inr (aBytes_next hb)
    · rename_i hb
      obtain ⟨e, g⟩ := mapH hd
      exact .inl ⟨e, fun h' => by rw [aBytes_any h' hb]; exact g h'⟩
  case h_9 t x =>
    split at hd
    · rename_i e; cases hd; exact .inl ⟨rfl, fun _ => by rw [if_pos e]⟩
    · cases hd
  case h_10 f a b =>
    cases f <;> simp only at hd ⊢ <;> first | (cases hd; exact .inl ⟨rfl, fun _ => rfl⟩) | cases hd
  case h_11 t x lo hi mx =>
    cases mx with
    | some _ => simp only at hd; cases hd
    | none => simp only at hd ⊢; exact .inl (mapH hd)
  all_goals
    unfold aBuiltin at hd ⊢
    rename_i args at'
    cases hm : args.toList.map ev with
    | nil => rw [hm] at hd; cases hd
    | cons x xs => rw [hm] at hd; exact .inl (mapH hd)

theorem dop_pure {op : Op} {h : AH} {v : Value} (hk : pureK op = true) (hd : dop P ev op h = some (v, h)) : ∀ h', dop P ev op h' = some (v, h') := by
  rcases dop_pure' hk hd with ⟨_, g⟩ | ⟨ob, e⟩
  · exact g
  · exact absurd e new_ne

def Sub (h h' : AH) : Prop := ∀ A o, h.get A = some o → h'.get A = some o

theorem Sub.new {h : AH} (hw : WFH h) (ob : AObj) : Sub h (h.new ob) := by
  intro A o ha
  rw [AH.new_get]
  split
  · rename_i e; subst e; rw [hw _ (Nat.le_refl _)] at ha; cases ha
  · exact ha

theorem aLoad_sub {h h' : AH} (hs : Sub h h') {t : TypeId} {x v : Value} (hv : aLoad P t x h = some v) : aLoad P t x h' = some v := by
  unfold aLoad at hv ⊢
  split at hv
  · rename_i A off
    cases hg : h.get A with
    | none => rw [hg] at hv; cases hv
    | some o => rw [hg] at hv; rw [hs _ _ hg]; exact hv
  · cases hv

theorem mapAt_sub {h h' : AH} (hs : Sub h h') {m : Value} {r : List MapEntry × Nat} (hv : mapAt h m = some r) : mapAt h' m = some r := by
  unfold mapAt at hv ⊢
  split at hv
  · rename_i M
    cases hg : h.get M with
    | none => rw [hg] at hv; cases hv
    | some o => rw [hg] at hv; rw [hs _ _ hg]; exact hv
  · cases hv

theorem aLookup_sub {h h' : AH} (hs : Sub h h') {t : TypeId} {m k v : Value} {ok : Bool} (hv : aLookup P t m k ok h = some v) : aLookup P t m k ok h' = some v := by
  cases m <;> try exact hv
  rename_i r
  cases r with
  | none => exact hv
  | some M =>
    cases hm : mapAt h (.map (some M)) with
    | none =>
      exfalso
      unfold aLookup at hv
      simp only [hm, Option.map_none] at hv
      repeat' split at hv
      all_goals cases hv
    | some r =>
      unfold aLookup at hv ⊢
      simp only [hm] at hv
      simp only [mapAt_sub hs hm]
      exact hv

theorem aLen_sub {h h' : AH} (hs : Sub h h') {t : TypeId} {x v : Value} (hv : aLen P t x h = some v) : aLen P t x h' = some v := by
  unfold aLen at hv ⊢
  split at hv <;> try exact hv
  · rename_i M _
    split at hv
    · rename_i es clk hg
      rw [hs _ _ hg]; exact hv
    · cases hv

theorem aIterEntry_sub {h h' : AH} (hs : Sub h h') {x v : Value} (hv : aIterEntry x h = some v) : aIterEntry x h' = some v := by
  unfold aIterEntry at hv ⊢
  split at hv
  · split at hv
    · rename_i M a seen stepped hg
      rw [hs _ _ hg]
      split at hv
      · rename_i stamp es clk h1 h2
        simp only [h1, hs _ _ h2]; exact hv
      · cases hv
    · cases hv
  · cases hv

theorem mapS {x : Option Value} {v : Value} {h h1 : AH} (hd : (x.map fun v => (v, h)) = some (v, h1)) : h1 = h ∧ x = some v := by
  cases x with
  | none => cases hd
  | some u => cases hd; exact ⟨rfl, rfl⟩

theorem dop_read {op : Op} {h h1 : AH} {v : Value} (hk : readK op = true) (hd : dop P ev op h = some (v, h1)) : h1 = h ∧ ∀ h', Sub h h' → dop P ev op h' = some (v, h') := by
  unfold readK at hk
  split at hk <;> (try cases hk; done) <;> simp only [dop] at hd ⊢
  · obtain ⟨rfl, e⟩ := mapS hd; exact ⟨rfl, fun h' hs => by rw [aLoad_sub hs e]; rfl⟩
  · obtain ⟨rfl, e⟩ := mapS hd; exact ⟨rfl, fun h' hs => by rw [aLookup_sub hs e]; rfl⟩
  · obtain ⟨rfl, e⟩ := mapS hd; exact ⟨rfl, fun h' hs => by rw [aIterEntry_sub hs e]; rfl⟩
  · rename_i args at'
    unfold aBuiltin at hd ⊢
    match hm : args.toList.map ev with
    | [] => rw [hm] at hd; cases hd
    | [x] =>
      rw [hm] at hd
      simp only at hd ⊢
      cases ht : at'[0]? with
      | none => rw [ht] at hd; cases hd
      | some t => rw [ht] at hd; obtain ⟨rfl, e⟩ := mapS hd; exact ⟨rfl, fun h' hs => by simp only; rw [aLen_sub hs e]; rfl⟩
    | _ :: _ :: _ => rw [hm] at hd; cases hd

theorem dop_alloc {op : Op} {h h1 : AH} {v : Value} (hk : allocK op = true) (hd : dop P ev op h = some (v, h1)) : h1 = h ∨ ∃ ob, h1 = h.new ob := by
  unfold allocK at hk
  split at hk <;> (try cases hk; done) <;> simp only [dop] at hd
  · unfold aAlloc at hd
    repeat' split at hd
    all_goals first | (cases hd; done) | (cases hd; exact .inr ⟨_, rfl⟩)
  · unfold aBox at hd
    repeat' split at hd
    all_goals first | (cases hd; done) | (cases hd; exact .inr ⟨_, rfl⟩)
  · unfold aBuildSlice at hd
    repeat' split at hd
    all_goals first | (cases hd; done) | (cases hd; exact .inr ⟨_, rfl⟩)
  · rename_i t r
    cases r <;> simp only at hd <;> cases hd
    exact .inr ⟨_, rfl⟩
  · unfold aMakeSlice at hd
    repeat' split at hd
    all_goals first | (cases hd; done) | (cases hd; exact .inr ⟨_, rfl⟩)

theorem dop_congr {op : Op} {h : AH} (he : ∀ x ∈ op.operands.toList, ev x = ev' x) : dop P ev op h = dop P ev' op h := by
  have lst : ∀ xs : Array Operand, (∀ x ∈ xs.toList, ev x = ev' x) → xs.toList.map ev = xs.toList.map ev' := fun xs hx => List.map_congr_left hx
  have prs : ∀ ps : Array (Nat × Operand), (∀ x ∈ ps.toList.map (·.2), ev x = ev' x) → (ps.toList.map fun p => (p.1, ev p.2)) = ps.toList.map fun p => (p.1, ev' p.2) := fun ps hp =>
    List.map_congr_left fun p hm => by rw [hp p.2 (List.mem_map.2 ⟨p, hm, rfl⟩)]
  cases op <;> simp only [Op.operands] at he <;> simp only [dop] <;> (try rfl)
  case build t ps => rw [prs ps (by simpa using he)]
  case buildSlice t n ps => rw [prs ps (by simpa using he)]
  case makeFunc f a b =>
    cases f <;> simp only
    rw [Array.map_congr_left (xs := a) fun x hx => he x (by simp [hx]), Array.map_congr_left (xs := b) fun x hx => he x (by simp [hx])]
  case makeMap t r => cases r <;> simp only
  case slice t x lo hi mx =>
    cases mx <;> simp only
    cases lo <;> cases hi <;> simp_all [oev]
  case call c =>
    obtain ⟨callee, args, at'⟩ := c
    cases callee <;> simp only
    rw [lst args fun x hx => he x (by simpa [Call.operands] using hx)]
  all_goals simp_all

theorem opR_congr {op : Op} {h : AH} {K : Value → AH → Prop} (he : ∀ x ∈ op.operands.toList, ev x = ev' x) (hk : opR P ev op h K) : opR P ev' op h K := by
  unfold opR at hk ⊢
  split
  · rename_i f args at'
    simp only at hk
    rw [he f (by simp [Op.operands, Call.operands]), List.map_congr_left (g := ev') (l := args.toList) fun x hx => he x (by simp [Op.operands, Call.operands]; exact .inr (by simpa using hx))] at hk
    exact hk
  · rename_i it
    simp only at hk
    rw [he it (by simp [Op.operands])] at hk; exact hk
  · rename_i h1 h2
    split at hk
    · exact absurd rfl (h1 _ _ _)
    · exact absurd rfl (h2 _)
    · obtain ⟨v, h', hd, hkk⟩ := hk
      exact ⟨v, h', (dop_congr he).symm.trans hd, hkk⟩

theorem opR_of_dop {op : Op} {h h' : AH} {v : Value} {K : Value → AH → Prop} (hd : dop P ev op h = some (v, h')) (hk : K v h') : opR P ev op h K := by
  unfold opR
  split
  · cases hd
  · cases hd
  · exact ⟨v, h', hd, hk⟩

end
end Go.Ab

namespace Go.Ab

section
variable {P : Program} {ops : Array Oper} {Q : Exit → AAct → AH → Prop}

theorem AAct.ev_put {a : AAct} {d : Option Tmp} {v : Value} {x : Operand} (h : ∀ t, d = some t → x ≠ .tmp t) : (a.put d v).ev x = a.ev x := by
  cases d with
  | none => rfl
  | some t =>
    cases x with
    | tmp u =>
      have : u ≠ t := fun e => h t rfl (by rw [e])
      simp [AAct.put, AAct.ev, this]
    | _ => rfl

theorem AAct.put_comm (a : AAct) {x y : Option Tmp} (v u : Value) (h : ∀ d, x = some d → y ≠ some d) : (a.put x v).put y u = (a.put y u).put x v := by
  cases x with
  | none => rfl
  | some d =>
    cases y with
    | none => rfl
    | some e =>
      have hne : e ≠ d := fun he => h d rfl (by rw [he])
      simp only [AAct.put]
      congr 1
      funext i
      by_cases h1 : i = e
      · subst h1; simp [hne]
      · simp [h1]

theorem ev_put_looks {o : Oper} {a : AAct} {d : Option Tmp} {v : Value} (h : ∀ t, d = some t → t ∉ o.looksAt ops) : ∀ x ∈ o.op.operands.toList, (a.put d v).ev x = a.ev x := by
  intro x hx
  refine AAct.ev_put fun t ht e => h t ht ?_
  subst e
  exact List.mem_append_left _ (List.mem_filterMap.2 ⟨.tmp t, hx, rfl⟩)

theorem put_n (a : AAct) (d : Option Tmp) (v : Value) : (a.put d v).n = a.n := by cases d <;> rfl

theorem wanted_put_looks {o : Oper} {a : AAct} {d : Option Tmp} {v : Value} (h : ∀ t, d = some t → t ∉ o.looksAt ops) : Region.wanted o (yieldedA ops (a.put d v)) = Region.wanted o (yieldedA ops a) := by
  unfold Region.wanted
  cases hg : o.guard with
  | none => rfl
  | some gw =>
    obtain ⟨g, want⟩ := gw
    have : yieldedA ops (a.put d v) g = yieldedA ops a g := by
      unfold yieldedA
      cases ht : (ops[g]?).bind (·.dst) with
      | none => rfl
      | some t =>
        simp only [put_n]
        cases d with
        | none => rfl
        | some e =>
          have hne : t ≠ e := fun x => h e rfl (by subst x; simp [Oper.looksAt, hg, ht])
          simp only [AAct.put, if_neg hne]
    simp only [this]

def Still (P : Program) (ops : Array Oper) (o : Oper) (v : Value) (a : AAct) (h : AH) : Prop :=
  o.op.operands.toList.all cOK = true ∧ dstOK a o.dst ∧ if Region.wanted o (yieldedA ops a) then dop P a.ev o.op h = some (v, h) else v = undef

theorem dstOK_put {a : AAct} {d e : Option Tmp} {v : Value} (h : dstOK a d) : dstOK (a.put e v) d := by
  cases d with
  | none => trivial
  | some t => simpa [dstOK, put_n] using h

theorem Still.opW {o : Oper} {v : Value} {a : AAct} {h : AH} {K : AAct → AH → Prop} (hs : Still P ops o v a h) (hk : K (a.put o.dst v) h) : opW P ops o a h K := by
  obtain ⟨h1, h2, h3⟩ := hs
  refine ⟨h1, h2, ?_⟩
  split
  · rename_i hw; rw [if_pos hw] at h3; exact opR_of_dop h3 hk
  · rename_i hw; rw [if_neg hw] at h3; subst h3; exact hk

def quietK (op : Op) : Bool := pureK op || readK op || allocK op

theorem quiet_heap {op : Op} {ev : Operand → Value} {h h' : AH} {v : Value} (hw : WFH h) (hq : quietK op = true) (hd : dop P ev op h = some (v, h')) : Sub h h' := by
  unfold quietK at hq
  rw [Bool.or_eq_true, Bool.or_eq_true] at hq
  rcases hq with (hp | hr) | ha
  · rcases dop_pure' hp hd with ⟨e, _⟩ | ⟨ob, e⟩ <;> subst e
    · exact fun _ _ x => x
    · exact Sub.new hw ob
  · rw [(dop_read hr hd).1]; exact fun _ _ x => x
  · rcases dop_alloc ha hd with e | ⟨ob, e⟩ <;> subst e
    · exact fun _ _ x => x
    · exact Sub.new hw ob

theorem Still.move {o oj : Oper} {v u : Value} {a : AAct} {h h' : AH} (hs : Still P ops o v a h) (hl : ∀ t, oj.dst = some t → t ∉ o.looksAt ops) (hh : pureK o.op = true ∨ (readK o.op = true ∧ Sub h h')) : Still P ops o v (a.put oj.dst u) h' := by
  obtain ⟨h1, h2, h3⟩ := hs
  refine ⟨h1, dstOK_put h2, ?_⟩
  rw [wanted_put_looks hl]
  split
  · rename_i hw
    rw [if_pos hw] at h3
    rw [dop_congr (ev_put_looks hl)]
    rcases hh with hp | ⟨hr, hsub⟩
    · exact dop_pure hp h3 h'
    · exact (dop_read hr h3).2 h' hsub
  · rename_i hw; rw [if_neg hw] at h3; exact h3

theorem Still.put {o : Oper} {v u : Value} {a : AAct} {d : Option Tmp} {h : AH} (hs : Still P ops o v a h) (hl : ∀ t, d = some t → t ∉ o.looksAt ops) : Still P ops o v (a.put d u) h := by
  obtain ⟨h1, h2, h3⟩ := hs
  refine ⟨h1, dstOK_put h2, ?_⟩
  rw [wanted_put_looks hl]
  split
  · rename_i hw; rw [if_pos hw] at h3; rw [dop_congr (ev_put_looks hl)]; exact h3
  · rename_i hw; rw [if_neg hw] at h3; exact h3

theorem Still.unput {o : Oper} {v u : Value} {a : AAct} {d : Option Tmp} {h : AH} (hs : Still P ops o v (a.put d u) h) (hl : ∀ t, d = some t → t ∉ o.looksAt ops) : Still P ops o v a h := by
  obtain ⟨h1, h2, h3⟩ := hs
  rw [wanted_put_looks hl] at h3
  refine ⟨h1, ?_, ?_⟩
  · cases hd : o.dst with
    | none => trivial
    | some t => rw [hd] at h2; simpa [dstOK, put_n] using h2
  · split
    · rename_i hw; rw [if_pos hw] at h3; rw [dop_congr (ev_put_looks hl)] at h3; exact h3
    · rename_i hw; rw [if_neg hw] at h3; exact h3

theorem opW_put {o oj : Oper} {v : Value} {a : AAct} {h : AH} {K : AAct → AH → Prop} (hwf : WFH h) (hap : o.apart ops oj = true)
    (hkd : pureK o.op = true ∨ (readK o.op = true ∧ quietK oj.op = true) ∨ ((∀ t, o.dst = some t → t ∉ o.looksAt ops) ∧ ∀ a h, K a h → Still P ops o v a h))
    (hs : Still P ops o v a h) (hj : opW P ops oj (a.put o.dst v) h K) : opW P ops oj a h (fun a' h' => Still P ops o v a' h' ∧ K (a'.put o.dst v) h') := by
  obtain ⟨s1, s2, s3⟩ := Oper.apart_spec hap
  obtain ⟨h1, h2, h3⟩ := hj
  have h2' : dstOK a oj.dst := by
    cases hd : oj.dst with
    | none => trivial
    | some t => rw [hd] at h2; simpa [dstOK, put_n] using h2
  refine ⟨h1, h2', ?_⟩
  rw [wanted_put_looks s1] at h3
  have comm : ∀ u h', K ((a.put o.dst v).put oj.dst u) h' → K ((a.put oj.dst u).put o.dst v) h' := fun u h' hk => by rw [← AAct.put_comm a v u s2]; exact hk
  split
  · rename_i hw
    rw [if_pos hw] at h3
    have h3 := opR_congr (ev_put_looks s1) h3
    rcases hkd with hp | ⟨hr, hq⟩ | ⟨hself, hst⟩
    · exact h3.mono fun u h' hk => ⟨hs.move s3 (.inl hp), comm u h' hk⟩
    · unfold opR at h3
      split at h3
      · rename_i e; rw [e] at hq; simp [quietK, pureK, readK, allocK] at hq
      · rename_i e; rw [e] at hq; simp [quietK, pureK, readK, allocK] at hq
      · obtain ⟨u, h', hd, hk⟩ := h3
        exact opR_of_dop hd ⟨hs.move s3 (.inr ⟨hr, quiet_heap hwf hq hd⟩), comm u h' hk⟩
    · exact h3.mono fun u h' hk => ⟨(hst _ _ (comm u h' hk)).unput hself, comm u h' hk⟩
  · rename_i hw
    rw [if_neg hw] at h3
    refine ⟨?_, comm _ _ h3⟩
    rcases hkd with hp | ⟨hr, _⟩ | ⟨hself, hst⟩
    · exact hs.move s3 (.inl hp)
    · exact hs.move s3 (.inr ⟨hr, fun _ _ x => x⟩)
    · exact (hst _ _ (comm _ _ h3)).unput hself

def Keeps (P : Program) (ops : Array Oper) (R : List (Oper × Value)) (a : AAct) (h : AH) : Prop := ∀ p ∈ R, Still P ops p.1 p.2 a h

def anyW (P : Program) (ops : Array Oper) (Q : Exit → AAct → AH → Prop) : Nat → Array Bool → List (Oper × Value) → AAct → AH → Prop
  | 0, listed, R, a, h => WFH h → Keeps P ops R a h → Region.ready .any ops listed = [] ∧ Q .normal a h
  | fuel + 1, listed, R, a, h => WFH h → Keeps P ops R a h → (Region.ready .any ops listed = [] → Q .normal a h) ∧
    ∀ i ∈ Region.ready .any ops listed, ∀ o, ops[i]? = some o → opW P ops o a h (fun a' h' => Keeps P ops R a' h' ∧ anyW P ops Q fuel (listed.setIfInBounds i true) R a' h')

theorem wpAnyIn_mono {F : Fence} {n : Nat} {Q Q' : Exit → Act → World → Prop} (hq : ∀ e a w, Q e a w → Q' e a w) : ∀ (fuel : Nat) (listed : Array Bool) (a : Act) (w : World), wpAnyIn F n P .any ops Q fuel listed a w → wpAnyIn F n P .any ops Q' fuel listed a w := by
  intro fuel
  induction fuel with
  | zero => intro listed a w h; exact ⟨h.1, hq _ _ _ h.2⟩
  | succ fuel ih =>
    intro listed a w h
    refine ⟨fun e => hq _ _ _ (h.1 e), fun i hi => ?_⟩
    have h := wpOpIn_mono (fun a w => ih (listed.setIfInBounds i true) a w) (h.2 i hi)
    unfold wpOpIn at h ⊢
    split
    · rename_i ho; rw [ho] at h; exact h
    · rename_i o ho
      rw [ho] at h
      simp only at h
      split
      · rename_i hw
        rw [if_pos hw] at h
        refine ⟨h.1, ?_⟩
        have h := h.2
        generalize (o.semAt F.round a.eval).run P w = r at h ⊢
        cases r with
        | ok x w' =>
          cases x <;> simp only [Oper.uponIn] at h ⊢ <;>
            first
              | exact h
              | exact ⟨h.1, CallsIn.mono h.2 (fun e w'' he => by cases e <;> first | exact he | exact hq _ _ _ he | exact (let ⟨a, w, x⟩ := he; ⟨a, w, hq _ _ _ x⟩))⟩
              | exact ⟨h.1, RoundIn.mono h.2 (fun e w'' he => by cases e <;> first | exact he | exact hq _ _ _ he | exact (let ⟨a, w, x⟩ := he; ⟨a, w, hq _ _ _ x⟩))⟩
        | halt x w' => cases x <;> simp only [Oper.uponIn] at h ⊢ <;> first | exact h | exact hq _ _ _ h
      · rename_i hw; rw [if_neg hw] at h; exact h

theorem anyW.sound {n : Nat} {crd : Option Nat} {R : List (Oper × Value)} : ∀ (fuel : Nat) (listed : Array Bool) (a : AAct) (h : AH), Keeps P ops R a h → anyW P ops Q fuel listed R a h → ∀ (ρ : Ren) (ca : Act) (w : World), AR ρ a ca → HR ρ h w →
    wpAnyIn (fence crd) n P .any ops (PostE ρ h w Q) fuel listed ca w := by
  intro fuel
  induction fuel with
  | zero => intro listed a h hK hq ρ ca w ha hr; exact ⟨(hq hr.wf hK).1, ρ, a, h, (hq hr.wf hK).2, ha, hr, Frm.refl _ _ _⟩
  | succ fuel ih =>
    intro listed a h hK hq ρ ca w ha hr
    obtain ⟨h0, h1⟩ := hq hr.wf hK
    refine ⟨fun e => ⟨ρ, a, h, h0 e, ha, hr, Frm.refl _ _ _⟩, fun i hi => ?_⟩
    unfold wpOpIn
    cases ho : ops[i]? with
    | none => obtain ⟨_, o, e, _⟩ := mem_ready.1 hi; rw [ho] at e; cases e
    | some o =>
      refine (h1 i hi o ho).sound ha hr (N := wpAnyIn (fence crd) n P .any ops (PostE ρ h w Q) fuel (listed.setIfInBounds i true)) ?_
      rintro ca1 w1 ⟨ρ1, a1, h1, ⟨hK1, hk⟩, ha1, hr1, hf1⟩
      exact wpAnyIn_mono (fun e ca w' hp => hp.trans hf1) _ _ ca1 w1 (ih _ a1 h1 hK1 hk ρ1 ca1 w1 ha1 hr1)

theorem AW.draw {rd : Option Nat} {id : Nat} {a : AAct} {h : AH} (hm : P.follows .mixedOrders = true) (hx : anyW P ops Q ops.size (Array.replicate ops.size false) [] a h) : AW P rd (.region id ops true) Q a h := by
  intro n ρ crd ca w hrd ha hr
  refine wpIn_region_any hm ?_
  have hr' : HR ρ h { w with drawn := w.drawn + 1 } := HR.same (w := w) rfl hr
  have hf' : Frm ρ h w ρ h { w with drawn := w.drawn + 1 } := Frm.same rfl
  exact wpAnyIn_mono (fun e ca w' hp => hp.trans hf') _ _ _ _ (anyW.sound _ _ a h (fun _ hp => by cases hp) hx ρ ca _ ha hr')

theorem anyW.less {R R' : List (Oper × Value)} (sub : ∀ a h, Keeps P ops R' a h → Keeps P ops R a h) : ∀ {fuel : Nat} {listed : Array Bool} {a : AAct} {h : AH}, (Keeps P ops R a h → Keeps P ops R' a h) → anyW P ops Q fuel listed R' a h → anyW P ops Q fuel listed R a h := by
  intro fuel
  induction fuel with
  | zero => intro listed a h hkk hq hwf hK; exact hq hwf (hkk hK)
  | succ fuel ih =>
    intro listed a h hkk hq hwf hK
    obtain ⟨h0, h1⟩ := hq hwf (hkk hK)
    exact ⟨h0, fun i hi o ho => (h1 i hi o ho).mono fun a' h' ⟨x, y⟩ => ⟨sub _ _ x, ih (fun _ => x) y⟩⟩

/-- Members of D wait for i, or for one another. -/
def waits (ops : Array Oper) (listed : Array Bool) (i : Nat) (D : List Nat) : Bool :=
  D.all fun j => !(listed.getD j true) && (match ops[j]? with
    | none => false
    | some oj => oj.after.any fun e => Region.binds .any e && (e.on == i || D.contains e.on))

def loose (ops : Array Oper) (listed : Array Bool) (i : Nat) (o : Oper) (D : List Nat) : Bool :=
  (List.range ops.size).all fun j => j == i || D.contains j || listed.getD j true || (match ops[j]? with
    | none => true
    | some oj => o.apart ops oj && (pureK o.op || (readK o.op && quietK oj.op)))

def looseW (ops : Array Oper) (listed : Array Bool) (i : Nat) (o : Oper) (D : List Nat) : Bool :=
  (List.range ops.size).all fun j => j == i || D.contains j || listed.getD j true || (match ops[j]? with
    | none => true
    | some oj => o.apart ops oj)

/-- An operation's own target is none of what it looks at. -/
def selfOK (ops : Array Oper) (o : Oper) : Bool := match o.dst with
  | some d => !(o.looksAt ops).contains d
  | none => true

/-- An operation's target is none of what a watched one looks at. -/
def offW (ops : Array Oper) (o : Oper) (ws : List Nat) : Bool := ws.all fun w => match ops[w]? with
  | some r => (match o.dst with
    | some d => !(r.looksAt ops).contains d
    | none => true)
  | none => false

theorem anyW.take {i : Nat} {o : Oper} {v : Value} {D : List Nat} {R R' : List (Oper × Value)} (ho : ops[i]? = some o)
    (hR' : (R' = R ∧ (pureK o.op = true ∨ readK o.op = true)) ∨ (R' = (o, v) :: R ∧ ∀ t, o.dst = some t → t ∉ o.looksAt ops)) (hoff : ∀ p ∈ R, ∀ t, o.dst = some t → t ∉ p.1.looksAt ops) :
    ∀ (fuel : Nat) (listed : Array Bool) (a : AAct) (h : AH), i ∈ Region.ready .any ops listed →
      (∀ j ∈ D, listed.getD j true = false ∧ ∃ oj, ops[j]? = some oj ∧ ∃ e ∈ oj.after, Region.binds .any e = true ∧ (e.on = i ∨ e.on ∈ D)) →
      (∀ j oj, ops[j]? = some oj → j ≠ i → j ∉ D → listed.getD j true = false → o.apart ops oj = true ∧ (R' = (o, v) :: R ∨ pureK o.op = true ∨ (readK o.op = true ∧ quietK oj.op = true))) →
      Still P ops o v a h → anyW P ops Q fuel (listed.setIfInBounds i true) R' (a.put o.dst v) h → anyW P ops Q (fuel + 1) listed R a h := by
  have notD : ∀ (listed : Array Bool) (j : Nat), i ∈ Region.ready .any ops listed → (∀ j ∈ D, listed.getD j true = false ∧ ∃ oj, ops[j]? = some oj ∧ ∃ e ∈ oj.after, Region.binds .any e = true ∧ (e.on = i ∨ e.on ∈ D)) →
      j ∈ Region.ready .any ops listed → j ∉ D := by
    intro listed j hi hD hj hmem
    obtain ⟨_, oj, hoj, e, he, hb, hon⟩ := hD j hmem
    obtain ⟨_, oj', hoj', hall⟩ := mem_ready.1 hj
    rw [hoj] at hoj'; cases hoj'
    have h1 := hall e he hb
    have h0 : listed.getD e.on true = false := by
      rcases hon with hon | hon
      · rw [hon]; exact (mem_ready.1 hi).1
      · exact (hD _ hon).1
    rcases Nat.lt_or_ge e.on listed.size with h' | h'
    · simp [h'] at h0 h1; rw [h0] at h1; cases h1
    · simp [Array.getElem?_eq_none h'] at h1
  have keep : ∀ (a : AAct) (h : AH), Keeps P ops R a h → Keeps P ops R (a.put o.dst v) h := fun a h hK p hp => (hK p hp).put (hoff p hp)
  have unkeep : ∀ (a : AAct) (h : AH), Keeps P ops R (a.put o.dst v) h → Keeps P ops R a h := fun a h hK p hp => (hK p hp).unput (hoff p hp)
  have keep' : ∀ (a : AAct) (h : AH), Keeps P ops R a h → Still P ops o v a h → Keeps P ops R' (a.put o.dst v) h := by
    intro a h hK hs
    rcases hR' with ⟨rfl, _⟩ | ⟨rfl, hself⟩
    · exact keep a h hK
    · intro p hp
      rcases List.mem_cons.1 hp with rfl | hp
      · exact hs.put hself
      · exact keep a h hK p hp
  have sub : ∀ (a : AAct) (h : AH), Keeps P ops R' a h → Keeps P ops R a h := by
    intro a h hK
    rcases hR' with ⟨rfl, _⟩ | ⟨rfl, _⟩
    · exact hK
    · exact fun p hp => hK p (List.mem_cons_of_mem _ hp)
  intro fuel
  induction fuel with
  | zero =>
    intro listed a h hr hD hfree hs H hwf hK
    refine ⟨(fun e => by rw [e] at hr; cases hr), fun j hj oj hoj => ?_⟩
    have H' := H hwf (keep' a h hK hs)
    by_cases hji : j = i
    · subst hji; rw [ho] at hoj; cases hoj
      exact hs.opW ⟨keep a h hK, fun _ _ => H'⟩
    · have := ready_mono hj hji
      rw [H'.1] at this; cases this
  | succ fuel ih =>
    intro listed a h hr hD hfree hs H hwf hK
    refine ⟨(fun e => by rw [e] at hr; cases hr), fun j hj oj hoj => ?_⟩
    by_cases hji : j = i
    · subst hji; rw [ho] at hoj; cases hoj
      refine hs.opW ⟨keep a h hK, ?_⟩
      -- the watched ones are more: fewer are asked for
      exact anyW.less sub (fun hK => keep' a h (unkeep a h hK) hs) H
    · have hjD := notD listed j hr hD hj
      obtain ⟨hjun, _⟩ := mem_ready.1 hj
      obtain ⟨hap, hkd⟩ := hfree j oj hoj hji hjD hjun
      have h1 := (H hwf (keep' a h hK hs)).2 j (ready_mono hj hji) oj hoj
      have hkd' : pureK o.op = true ∨ (readK o.op = true ∧ quietK oj.op = true) ∨ ((∀ t, o.dst = some t → t ∉ o.looksAt ops) ∧ ∀ a' h', (Keeps P ops R' a' h' ∧ anyW P ops Q fuel ((listed.setIfInBounds i true).setIfInBounds j true) R' a' h') → Still P ops o v a' h') := by
        rcases hR' with ⟨hRR, _⟩ | ⟨hRR, hself⟩
        · rcases hkd with e | e | e
          · rw [e] at hRR; exact absurd (congrArg List.length hRR) (by simp)
          · exact .inl e
          · exact .inr (.inl e)
        · exact .inr (.inr ⟨hself, fun a' h' hk => hk.1 (o, v) (by rw [hRR]; exact List.mem_cons_self ..)⟩)
      refine (opW_put hwf hap hkd' hs h1).mono ?_
      rintro a' h' ⟨hs', hK', hk⟩
      refine ⟨unkeep a' h' (sub _ _ hK'), ?_⟩
      refine ih (listed.setIfInBounds j true) a' h' (ready_mono hr (Ne.symm hji)) ?_ ?_ hs' ?_
      · intro k hk
        obtain ⟨x, y⟩ := hD k hk
        refine ⟨?_, y⟩
        rw [getD_set_ne true (fun (e : j = k) => hjD (by rw [e]; exact hk))]; exact x
      · intro k ok hok hki hkD hun
        refine hfree k ok hok hki hkD ?_
        by_cases hjk : j = k
        · subst hjk; exact hjun
        · rw [getD_set_ne true hjk] at hun; exact hun
      · rw [Array.setIfInBounds_comm _ _ hji]; exact hk


/-! ### Plans -/

inductive Plan where
  | done
  | take (i : Nat) (D : List Nat) (k : Plan)
  | watch (i : Nat) (D : List Nat) (k : Plan)
  | only (i : Nat) (k : Plan)
  | two (i : Nat) (k : Plan) (j : Nat) (l : Plan)
  | three (i : Nat) (k : Plan) (j : Nat) (l : Plan) (x : Nat) (m : Plan)

def planOK (ops : Array Oper) : Array Bool → List Nat → Plan → Bool
  | listed, _, .done => (Region.ready .any ops listed).isEmpty
  | listed, ws, .take i D k => (Region.ready .any ops listed).contains i && waits ops listed i D && (match ops[i]? with | some o => (pureK o.op || readK o.op) && loose ops listed i o D && offW ops o ws | none => false) && planOK ops (listed.setIfInBounds i true) ws k
  | listed, ws, .watch i D k => (Region.ready .any ops listed).contains i && waits ops listed i D && (match ops[i]? with | some o => selfOK ops o && looseW ops listed i o D && offW ops o ws | none => false) && planOK ops (listed.setIfInBounds i true) (i :: ws) k
  | listed, ws, .only i k => Region.ready .any ops listed == [i] && planOK ops (listed.setIfInBounds i true) ws k
  | listed, ws, .two i k j l => Region.ready .any ops listed == [i, j] && planOK ops (listed.setIfInBounds i true) ws k && planOK ops (listed.setIfInBounds j true) ws l
  | listed, ws, .three i k j l x m => Region.ready .any ops listed == [i, j, x] && planOK ops (listed.setIfInBounds i true) ws k && planOK ops (listed.setIfInBounds j true) ws l && planOK ops (listed.setIfInBounds x true) ws m

def Plan.len : Plan → Nat
  | .done => 0
  | .take _ _ k => k.len + 1
  | .watch _ _ k => k.len + 1
  | .only _ k => k.len + 1
  | .two _ k _ l => max k.len l.len + 1
  | .three _ k _ l _ m => max (max k.len l.len) m.len + 1

/-- An operation, or the region's i-th. -/
def opI (P : Program) (ops : Array Oper) (i : Nat) (a : AAct) (h : AH) (K : AAct → AH → Prop) : Prop :=
  match ops[i]? with
  | none => False
  | some o => opW P ops o a h K

def planW (P : Program) (ops : Array Oper) (Q : Exit → AAct → AH → Prop) : Plan → List (Oper × Value) → AAct → AH → Prop
  | .done, _, a, h => Q .normal a h
  | .take i _ k, R, a, h => ∃ o v, ops[i]? = some o ∧ Still P ops o v a h ∧ planW P ops Q k R (a.put o.dst v) h
  | .watch i _ k, R, a, h => ∃ o v, ops[i]? = some o ∧ Still P ops o v a h ∧ planW P ops Q k ((o, v) :: R) (a.put o.dst v) h
  | .only i k, R, a, h => opI P ops i a h (fun a h => Keeps P ops R a h ∧ planW P ops Q k R a h)
  | .two i k j l, R, a, h => opI P ops i a h (fun a h => Keeps P ops R a h ∧ planW P ops Q k R a h) ∧ opI P ops j a h (fun a h => Keeps P ops R a h ∧ planW P ops Q l R a h)
  | .three i k j l x m, R, a, h => opI P ops i a h (fun a h => Keeps P ops R a h ∧ planW P ops Q k R a h) ∧ opI P ops j a h (fun a h => Keeps P ops R a h ∧ planW P ops Q l R a h) ∧ opI P ops x a h (fun a h => Keeps P ops R a h ∧ planW P ops Q m R a h)

theorem opI.use {i : Nat} {a : AAct} {h : AH} {K K' : AAct → AH → Prop} (hk : opI P ops i a h K) (hm : ∀ a h, K a h → K' a h) {o : Oper} (ho : ops[i]? = some o) : opW P ops o a h K' := by
  unfold opI at hk
  rw [ho] at hk
  exact opW.mono hm hk

theorem waits_spec {listed : Array Bool} {i : Nat} {D : List Nat} (h2 : waits ops listed i D = true) : ∀ j ∈ D, listed.getD j true = false ∧ ∃ oj, ops[j]? = some oj ∧ ∃ e ∈ oj.after, Region.binds .any e = true ∧ (e.on = i ∨ e.on ∈ D) := by
  intro j hj
  have := List.all_eq_true.1 h2 j hj
  simp only [Bool.and_eq_true, Bool.not_eq_true'] at this
  refine ⟨this.1, ?_⟩
  have t2 := this.2
  split at t2
  · cases t2
  · rename_i oj hoj
    obtain ⟨e, he, hb⟩ := Array.any_eq_true'.1 t2
    refine ⟨oj, hoj, e, he, ?_⟩
    simpa using hb

theorem offW_spec {o : Oper} {ws : List Nat} {R : List (Oper × Value)} (hR : ∀ p ∈ R, ∃ w ∈ ws, ops[w]? = some p.1) (ho : offW ops o ws = true) : ∀ p ∈ R, ∀ t, o.dst = some t → t ∉ p.1.looksAt ops := by
  intro p hp t ht
  obtain ⟨w, hw, hpw⟩ := hR p hp
  have := List.all_eq_true.1 ho w hw
  simp only [hpw, ht] at this
  simpa using this

theorem planW.any : ∀ (p : Plan) (fuel : Nat) (listed : Array Bool) (ws : List Nat) (R : List (Oper × Value)) (a : AAct) (h : AH), (∀ p ∈ R, ∃ w ∈ ws, ops[w]? = some p.1) → planOK ops listed ws p = true → p.len ≤ fuel → planW P ops Q p R a h → anyW P ops Q fuel listed R a h := by
  intro p
  induction p with
  | done =>
    intro fuel listed ws R a h _ hok _ hw
    have hr : Region.ready .any ops listed = [] := by simpa [planOK] using hok
    cases fuel with
    | zero => exact fun _ _ => ⟨hr, hw⟩
    | succ fuel => exact fun _ _ => ⟨fun _ => hw, by rw [hr]; intro i hi; cases hi⟩
  | take i D k ih =>
    intro fuel listed ws R a h hR hok hf hw
    obtain ⟨o, v, ho, hs, hw⟩ := hw
    simp only [planOK, Bool.and_eq_true, ho] at hok
    obtain ⟨⟨⟨h1, h2⟩, ⟨h3, h5⟩, h6⟩, h4⟩ := hok
    cases fuel with
    | zero => simp [Plan.len] at hf
    | succ fuel =>
      refine anyW.take (D := D) (R' := R) ho (.inl ⟨rfl, by simpa using h3⟩) (offW_spec hR h6) fuel listed a h (by simpa using h1) (waits_spec h2) ?_ hs (ih fuel _ ws R _ _ hR h4 (by simp only [Plan.len] at hf; omega) hw)
      intro j oj hoj hji hjD hun
      have hlt : j < ops.size := (Array.getElem?_eq_some_iff.1 hoj).1
      have := List.all_eq_true.1 h5 j (List.mem_range.2 hlt)
      simp only [hoj, hun, Bool.or_false, Bool.or_eq_true, beq_iff_eq, hji, false_or, List.contains_iff_mem, hjD, Bool.and_eq_true] at this
      exact ⟨this.1, .inr this.2⟩
  | watch i D k ih =>
    intro fuel listed ws R a h hR hok hf hw
    obtain ⟨o, v, ho, hs, hw⟩ := hw
    simp only [planOK, Bool.and_eq_true, ho] at hok
    obtain ⟨⟨⟨h1, h2⟩, ⟨h3, h5⟩, h6⟩, h4⟩ := hok
    cases fuel with
    | zero => simp [Plan.len] at hf
    | succ fuel =>
      have hself : ∀ t, o.dst = some t → t ∉ o.looksAt ops := fun t ht => by simpa [selfOK, ht] using h3
      have hR2 : ∀ p ∈ (o, v) :: R, ∃ w ∈ i :: ws, ops[w]? = some p.1 := by
        intro p hp
        rcases List.mem_cons.1 hp with rfl | hp
        · exact ⟨i, List.mem_cons_self .., ho⟩
        · obtain ⟨w, hw, e⟩ := hR p hp; exact ⟨w, List.mem_cons_of_mem _ hw, e⟩
      refine anyW.take (D := D) (R' := (o, v) :: R) ho (.inr ⟨rfl, hself⟩) (offW_spec hR h6) fuel listed a h (by simpa using h1) (waits_spec h2) ?_ hs (ih fuel _ (i :: ws) _ _ _ hR2 h4 (by simp only [Plan.len] at hf; omega) hw)
      intro j oj hoj hji hjD hun
      have hlt : j < ops.size := (Array.getElem?_eq_some_iff.1 hoj).1
      have := List.all_eq_true.1 h5 j (List.mem_range.2 hlt)
      simp only [hoj, hun, Bool.or_false, Bool.or_eq_true, beq_iff_eq, hji, false_or, List.contains_iff_mem, hjD] at this
      exact ⟨this, .inl rfl⟩
  | only i k ih =>
    intro fuel listed ws R a h hR hok hf hw
    simp only [planOK, Bool.and_eq_true, beq_iff_eq] at hok
    obtain ⟨h1, h2⟩ := hok
    cases fuel with
    | zero => simp [Plan.len] at hf
    | succ fuel =>
      simp only [Plan.len] at hf
      refine fun _ _ => ⟨(fun e => by rw [h1] at e; cases e), ?_⟩
      rw [h1]
      intro j hj o ho
      simp only [List.mem_singleton] at hj; subst hj
      exact hw.use (fun a h hk => ⟨hk.1, ih fuel _ ws R a h hR h2 (by omega) hk.2⟩) ho
  | two i k j l ih1 ih2 =>
    intro fuel listed ws R a h hR hok hf hw
    simp only [planOK, Bool.and_eq_true, beq_iff_eq] at hok
    obtain ⟨⟨h1, h2⟩, h3⟩ := hok
    cases fuel with
    | zero => simp [Plan.len] at hf
    | succ fuel =>
      simp only [Plan.len] at hf
      refine fun _ _ => ⟨(fun e => by rw [h1] at e; cases e), ?_⟩
      rw [h1]
      intro x hx o ho
      simp only [List.mem_cons, List.not_mem_nil, or_false] at hx
      rcases hx with rfl | rfl
      · exact hw.1.use (fun a h hk => ⟨hk.1, ih1 fuel _ ws R a h hR h2 (by omega) hk.2⟩) ho
      · exact hw.2.use (fun a h hk => ⟨hk.1, ih2 fuel _ ws R a h hR h3 (by omega) hk.2⟩) ho
  | three i k j l x m ih1 ih2 ih3 =>
    intro fuel listed ws R a h hR hok hf hw
    simp only [planOK, Bool.and_eq_true, beq_iff_eq] at hok
    obtain ⟨⟨⟨h1, h2⟩, h3⟩, h4⟩ := hok
    cases fuel with
    | zero => simp [Plan.len] at hf
    | succ fuel =>
      simp only [Plan.len] at hf
      refine fun _ _ => ⟨(fun e => by rw [h1] at e; cases e), ?_⟩
      rw [h1]
      intro y hy o ho
      simp only [List.mem_cons, List.not_mem_nil, or_false] at hy
      rcases hy with rfl | rfl | rfl
      · exact hw.1.use (fun a h hk => ⟨hk.1, ih1 fuel _ ws R a h hR h2 (by omega) hk.2⟩) ho
      · exact hw.2.1.use (fun a h hk => ⟨hk.1, ih2 fuel _ ws R a h hR h3 (by omega) hk.2⟩) ho
      · exact hw.2.2.use (fun a h hk => ⟨hk.1, ih3 fuel _ ws R a h hR h4 (by omega) hk.2⟩) ho

theorem AW.plan {rd : Option Nat} {id : Nat} {a : AAct} {h : AH} (p : Plan) (hm : P.follows .mixedOrders = true) (hp : planOK ops (Array.replicate ops.size false) [] p = true) (hl : p.len ≤ ops.size)
    (hx : planW P ops Q p [] a h) : AW P rd (.region id ops true) Q a h := AW.draw hm (planW.any p _ _ [] [] a h (fun _ h => by cases h) hp hl hx)

end
end Go.Ab

namespace Go.Ab

section
variable {P : Program}

/-- An operation whose outcome leaves the heap. -/
def stillW (P : Program) (ops : Array Oper) (o : Oper) (a : AAct) (h : AH) (K : Value → Prop) : Prop :=
  o.op.operands.toList.all cOK = true ∧ dstOK a o.dst ∧ if Region.wanted o (yieldedA ops a) then ∃ v, dop P a.ev o.op h = some (v, h) ∧ K v else K undef

def opsL (P : Program) (ops : Array Oper) (N : AAct → AH → Prop) : List Oper → AAct → AH → Prop
  | [], a, h => N a h
  | o :: l, a, h => opW P ops o a h (opsL P ops N l)

theorem opsL_sound {ops : Array Oper} {Q : Exit → AAct → AH → Prop} : ∀ (l : List Nat) (os : List Oper) (a : AAct) (h : AH), l.map (ops[·]?) = os.map some → opsL P ops (Q .normal) os a h → opsW P ops Q l a h := by
  intro l
  induction l with
  | nil =>
    intro os a h hl he
    cases os with
    | nil => exact he
    | cons => cases hl
  | cons i l ih =>
    intro os a h hl he
    cases os with
    | nil => cases hl
    | cons o os =>
      simp only [List.map_cons, List.cons.injEq] at hl
      simp only [opsW, hl.1]
      exact opW.mono (fun a h hk => ih os a h hl.2 hk) he

theorem AW.regionL {rd : Option Nat} {id : Nat} {ops : Array Oper} {Q : Exit → AAct → AH → Prop} {a : AAct} {h : AH} (hx : opsL P ops (Q .normal) ops.toList a h) : AW P rd (.region id ops false) Q a h := by
  refine AW.region (opsL_sound _ ops.toList a h ?_ hx)
  apply List.ext_getElem?
  intro i
  simp only [List.getElem?_map]
  by_cases hi : i < ops.size
  · rw [List.getElem?_range hi]
    simp [Array.getElem?_eq_getElem hi]
  · rw [List.getElem?_eq_none (by simpa using hi), List.getElem?_eq_none (by simpa using hi)]; rfl

/-- A plan, as operations. -/
def planL (P : Program) (ops : Array Oper) (N : AAct → AH → Prop) : Plan → List (Oper × Value) → AAct → AH → Prop
  | .done, _, a, h => N a h
  | .take i _ k, R, a, h => ∃ o, ops[i]? = some o ∧ stillW P ops o a h (fun v => planL P ops N k R (a.put o.dst v) h)
  | .watch i _ k, R, a, h => ∃ o, ops[i]? = some o ∧ stillW P ops o a h (fun v => planL P ops N k ((o, v) :: R) (a.put o.dst v) h)
  | .only i k, R, a, h => ∃ o, ops[i]? = some o ∧ opW P ops o a h (fun a h => Keeps P ops R a h ∧ planL P ops N k R a h)
  | .two i k j l, R, a, h => (∃ o, ops[i]? = some o ∧ opW P ops o a h (fun a h => Keeps P ops R a h ∧ planL P ops N k R a h)) ∧ (∃ o, ops[j]? = some o ∧ opW P ops o a h (fun a h => Keeps P ops R a h ∧ planL P ops N l R a h))
  | .three i k j l x m, R, a, h => (∃ o, ops[i]? = some o ∧ opW P ops o a h (fun a h => Keeps P ops R a h ∧ planL P ops N k R a h)) ∧ (∃ o, ops[j]? = some o ∧ opW P ops o a h (fun a h => Keeps P ops R a h ∧ planL P ops N l R a h)) ∧
      (∃ o, ops[x]? = some o ∧ opW P ops o a h (fun a h => Keeps P ops R a h ∧ planL P ops N m R a h))

theorem stillW_use {ops : Array Oper} {o : Oper} {a : AAct} {h : AH} {K : Value → Prop} (hs : stillW P ops o a h K) : ∃ v, Still P ops o v a h ∧ K v := by
  obtain ⟨h1, h2, h3⟩ := hs
  by_cases hw : Region.wanted o (yieldedA ops a) = true
  · rw [if_pos hw] at h3
    obtain ⟨v, hd, hk⟩ := h3
    exact ⟨v, ⟨h1, h2, by rw [if_pos hw]; exact hd⟩, hk⟩
  · rw [if_neg hw] at h3
    exact ⟨undef, ⟨h1, h2, by rw [if_neg hw]⟩, h3⟩

theorem planL_sound {ops : Array Oper} {Q : Exit → AAct → AH → Prop} : ∀ (p : Plan) (R : List (Oper × Value)) (a : AAct) (h : AH), planL P ops (Q .normal) p R a h → planW P ops Q p R a h := by
  intro p
  have opi : ∀ {i : Nat} {a : AAct} {h : AH} {K K' : AAct → AH → Prop}, (∃ o, ops[i]? = some o ∧ opW P ops o a h K) → (∀ a h, K a h → K' a h) → opI P ops i a h K' := by
    rintro i a h K K' ⟨o, ho, hk⟩ hm
    unfold opI; rw [ho]; exact opW.mono hm hk
  induction p with
  | done => intro R a h hp; exact hp
  | take i D k ih =>
    rintro R a h ⟨o, ho, hs⟩
    obtain ⟨v, hs, hk⟩ := stillW_use hs
    exact ⟨o, v, ho, hs, ih _ _ _ hk⟩
  | watch i D k ih =>
    rintro R a h ⟨o, ho, hs⟩
    obtain ⟨v, hs, hk⟩ := stillW_use hs
    exact ⟨o, v, ho, hs, ih _ _ _ hk⟩
  | only i k ih => intro R a h hp; exact opi hp fun a h hk => ⟨hk.1, ih _ _ _ hk.2⟩
  | two i k j l ih1 ih2 => intro R a h hp; exact ⟨opi hp.1 fun a h hk => ⟨hk.1, ih1 _ _ _ hk.2⟩, opi hp.2 fun a h hk => ⟨hk.1, ih2 _ _ _ hk.2⟩⟩
  | three i k j l x m ih1 ih2 ih3 => intro R a h hp; exact ⟨opi hp.1 fun a h hk => ⟨hk.1, ih1 _ _ _ hk.2⟩, opi hp.2.1 fun a h hk => ⟨hk.1, ih2 _ _ _ hk.2⟩, opi hp.2.2 fun a h hk => ⟨hk.1, ih3 _ _ _ hk.2⟩⟩

theorem AW.planL {rd : Option Nat} {id : Nat} {ops : Array Oper} {Q : Exit → AAct → AH → Prop} {a : AAct} {h : AH} (p : Plan) (hm : P.follows .mixedOrders = true) (hp : planOK ops (Array.replicate ops.size false) [] p = true) (hl : p.len ≤ ops.size)
    (hx : planL P ops (Q .normal) p [] a h) : AW P rd (.region id ops true) Q a h := AW.plan p hm hp hl (planL_sound p [] a h hx)

theorem AW.cond' {rd : Option Nat} {Q : Exit → AAct → AH → Prop} {a : AAct} {h : AH} {c : Operand} {x y : Code} (hk : cOK c = true) (t : Bool) (hc : a.ev c = .bool t) (hx : t = true → AW P rd x Q a h) (hy : t = false → AW P rd y Q a h) : AW P rd (.cond c x y) Q a h := by
  refine AW.cond (t := t) hk hc ?_
  cases t
  · exact hy rfl
  · exact hx rfl

def okB (o : Oper) (a : AAct) : Bool := o.op.operands.toList.all cOK && (match o.dst with
  | some t => decide (t < a.n)
  | none => true)

theorem okB_spec {o : Oper} {a : AAct} (h : okB o a = true) : o.op.operands.toList.all cOK = true ∧ dstOK a o.dst := by
  simp only [okB, Bool.and_eq_true] at h
  refine ⟨h.1, ?_⟩
  cases hd : o.dst with
  | none => trivial
  | some t => rw [hd] at h; exact (of_decide_eq_true h.2 : t < a.n)

def contK (F : AAct → AH → Prop) (d : Option Tmp) (a : AAct) (v : Value) (h : AH) : Prop := F (a.put d v) h

/-- Operations, one behind the other. -/
def opsM (P : Program) (ops : Array Oper) (N : AAct → AH → Prop) : List Oper → AAct → AH → Prop
  | [], a, h => N a h
  | o :: l, a, h => match okB o a with
    | false => False
    | true => match Region.wanted o (yieldedA ops a) with
      | false => opsM P ops N l (a.put o.dst undef) h
      | true => match o.op with
        | .call { callee := .value f, args, .. } => callR P (a.ev f) (args.toList.map a.ev) h (contK (opsM P ops N l) o.dst a)
        | .next it false => NextW (a.ev it) h (contK (opsM P ops N l) o.dst a)
        | op => match dop P a.ev op h with
          | some (v, h') => opsM P ops N l (a.put o.dst v) h'
          | none => False

theorem opsM_sound {ops : Array Oper} {N : AAct → AH → Prop} : ∀ (l : List Oper) (a : AAct) (h : AH), opsM P ops N l a h → opsL P ops N l a h := by
  intro l
  induction l with
  | nil => intro a h hk; exact hk
  | cons o l ih =>
    intro a h hk
    simp only [opsM] at hk
    split at hk
    · exact hk.elim
    · rename_i hok
      obtain ⟨h1, h2⟩ := okB_spec hok
      refine ⟨h1, h2, ?_⟩
      split at hk
      · rename_i hw; rw [hw]; exact ih _ _ hk
      · rename_i hw
        rw [hw]
        split at hk
        · rename_i f args _ hop
          rw [if_pos rfl, hop]
          exact callR.mono (fun v h hk => ih _ _ hk) hk
        · rename_i it hop
          rw [if_pos rfl, hop]
          exact opR.mono (op := .next it false) (K := contK (opsM P ops N l) o.dst a) (fun v h hk => ih _ _ hk) hk
        · split at hk
          · rename_i v h' hd
            rw [if_pos rfl]
            exact opR_of_dop hd (ih _ _ hk)
          · exact hk.elim

/-- The operations of a drawn region, as a plan lays them: 0 taken, 1 taken and watched, 2 alone. -/
def seqM (P : Program) (ops : Array Oper) (N : AAct → AH → Prop) : List (Nat × Oper) → List (Oper × Value) → AAct → AH → Prop
  | [], _, a, h => N a h
  | (k, o) :: l, R, a, h => match okB o a with
    | false => False
    | true => match k with
      | 0 => (match Region.wanted o (yieldedA ops a) with
        | false => seqM P ops N l R (a.put o.dst undef) h
        | true => match dop P a.ev o.op h with
          | some (v, h') => h' = h ∧ seqM P ops N l R (a.put o.dst v) h
          | none => False)
      | 1 => (match Region.wanted o (yieldedA ops a) with
        | false => seqM P ops N l ((o, undef) :: R) (a.put o.dst undef) h
        | true => match dop P a.ev o.op h with
          | some (v, h') => h' = h ∧ seqM P ops N l ((o, v) :: R) (a.put o.dst v) h
          | none => False)
      | _ => match Region.wanted o (yieldedA ops a) with
        | false => Keeps P ops R (a.put o.dst undef) h ∧ seqM P ops N l R (a.put o.dst undef) h
        | true => match o.op with
          | .call { callee := .value f, args, .. } => callR P (a.ev f) (args.toList.map a.ev) h (contK (fun a h => Keeps P ops R a h ∧ seqM P ops N l R a h) o.dst a)
          | .next it false => NextW (a.ev it) h (contK (fun a h => Keeps P ops R a h ∧ seqM P ops N l R a h) o.dst a)
          | op => match dop P a.ev op h with
            | some (v, h') => Keeps P ops R (a.put o.dst v) h' ∧ seqM P ops N l R (a.put o.dst v) h'
            | none => False

def planK (ops : Array Oper) : Plan → Option (List (Nat × Oper))
  | .done => some []
  | .take i _ k => match ops[i]?, planK ops k with
    | some o, some l => some ((0, o) :: l)
    | _, _ => none
  | .watch i _ k => match ops[i]?, planK ops k with
    | some o, some l => some ((1, o) :: l)
    | _, _ => none
  | .only i k => match ops[i]?, planK ops k with
    | some o, some l => some ((2, o) :: l)
    | _, _ => none
  | _ => none

theorem seqM_sound {ops : Array Oper} {Q : Exit → AAct → AH → Prop} : ∀ (p : Plan) (l : List (Nat × Oper)) (R : List (Oper × Value)) (a : AAct) (h : AH), planK ops p = some l → seqM P ops (Q .normal) l R a h → planW P ops Q p R a h := by
  intro p
  induction p with
  | done => intro l R a h hp hk; cases hp; exact hk
  | take i D k ih =>
    intro l R a h hp hk
    simp only [planK] at hp
    split at hp
    · rename_i o l' ho hl
      cases hp
      simp only [seqM] at hk
      split at hk
      · exact hk.elim
      · rename_i hok
        obtain ⟨h1, h2⟩ := okB_spec hok
        split at hk
        · rename_i hw
          exact ⟨o, undef, ho, ⟨h1, h2, by rw [hw]; simp⟩, ih _ _ _ _ hl hk⟩
        · rename_i hw
          split at hk
          · rename_i v h' hd
            obtain ⟨rfl, hk⟩ := hk
            exact ⟨o, v, ho, ⟨h1, h2, by rw [hw]; exact hd⟩, ih _ _ _ _ hl hk⟩
          · exact hk.elim
    · cases hp
  | watch i D k ih =>
    intro l R a h hp hk
    simp only [planK] at hp
    split at hp
    · rename_i o l' ho hl
      cases hp
      simp only [seqM] at hk
      split at hk
      · exact hk.elim
      · rename_i hok
        obtain ⟨h1, h2⟩ := okB_spec hok
        split at hk
        · rename_i hw
          exact ⟨o, undef, ho, ⟨h1, h2, by rw [hw]; simp⟩, ih _ _ _ _ hl hk⟩
        · rename_i hw
          split at hk
          · rename_i v h' hd
            obtain ⟨rfl, hk⟩ := hk
            exact ⟨o, v, ho, ⟨h1, h2, by rw [hw]; exact hd⟩, ih _ _ _ _ hl hk⟩
          · exact hk.elim
    · cases hp
  | only i k ih =>
    intro l R a h hp hk
    simp only [planK] at hp
    split at hp
    · rename_i o l' ho hl
      cases hp
      simp only [seqM] at hk
      split at hk
      · exact hk.elim
      · rename_i hok
        obtain ⟨h1, h2⟩ := okB_spec hok
        show opI P ops i a h _
        unfold opI
        rw [ho]
        refine ⟨h1, h2, ?_⟩
        split at hk
        · rename_i hw; rw [hw]; exact ⟨hk.1, ih _ _ _ _ hl hk.2⟩
        · rename_i hw
          rw [hw, if_pos rfl]
          split at hk
          · rename_i f args _ hop
            rw [hop]
            exact callR.mono (fun v h (hk : _ ∧ _) => ⟨hk.1, ih _ _ _ _ hl hk.2⟩) hk
          · rename_i it hop
            rw [hop]
            exact opR.mono (op := .next it false) (K := contK (fun a h => Keeps P ops R a h ∧ seqM P ops (Q .normal) l' R a h) o.dst a) (fun v h hk => ⟨hk.1, ih _ _ _ _ hl hk.2⟩) hk
          · split at hk
            · rename_i v h' hd
              exact opR_of_dop hd ⟨hk.1, ih _ _ _ _ hl hk.2⟩
            · exact hk.elim
    · cases hp
  | two => intro l R a h hp; cases hp
  | three => intro l R a h hp; cases hp

/-- A drawn region, whose plan takes the operations in the order of the text. -/
theorem AW.drawT {rd : Option Nat} {id : Nat} {ops : Array Oper} {Q : Exit → AAct → AH → Prop} {a : AAct} {h : AH} (p : Plan) (fl : List Nat) (hm : P.follows .mixedOrders = true)
    (hp : (planOK ops (Array.replicate ops.size false) [] p && decide (p.len ≤ ops.size)) = true) (hk : planK ops p = some (fl.zip ops.toList))
    (hx : seqM P ops (Q .normal) (fl.zip ops.toList) [] a h) : AW P rd (.region id ops true) Q a h := by
  rw [Bool.and_eq_true] at hp
  exact AW.plan p hm hp.1 (of_decide_eq_true hp.2) (seqM_sound p _ [] a h hk hx)

/-- A condition, at a value. -/
def condV (v : Value) (F G : AAct → AH → Prop) (a : AAct) (h : AH) : Prop :=
  match v with
  | .bool true => F a h
  | .bool false => G a h
  | _ => False

theorem condV_true {F G : AAct → AH → Prop} {a : AAct} {h : AH} : condV (.bool true) F G a h = F a h := rfl
theorem condV_false {F G : AAct → AH → Prop} {a : AAct} {h : AH} : condV (.bool false) F G a h = G a h := rfl

theorem condV_of {b : Bool} {F G : AAct → AH → Prop} {a : AAct} {h : AH} (ht : b = true → F a h) (hf : b = false → G a h) : condV (.bool b) F G a h := by
  cases b
  · exact hf rfl
  · exact ht rfl

/-- AW, straight on: loops, drawn regions, and ranges over functions, stand as they are. -/
def wpA (P : Program) (rd : Option Nat) : Code → (Exit → AAct → AH → Prop) → AAct → AH → Prop
  | .skip, Q, a, h => Q .normal a h
  | .ret, Q, a, h => Q .ret a h
  | .exit id, Q, a, h => Q (.exit id) a h
  | .goto l, Q, a, h => Q (.goto l) a h
  | .label _, Q, a, h => Q .normal a h
  | .seq x y, Q, a, h => wpA P rd x (thenQ (wpA P rd y Q) Q) a h
  | .block id c, Q, a, h => wpA P rd c (blockQ id Q) a h
  | .cond c x y, Q, a, h => cOK c = true ∧ condV (a.ev c) (wpA P rd x Q) (wpA P rd y Q) a h
  | .region _ ops false, Q, a, h => opsM P ops (Q .normal) ops.toList a h
  | c, Q, a, h => AW P rd c Q a h

theorem wpA_sound {rd : Option Nat} : ∀ (c : Code) (Q : Exit → AAct → AH → Prop) (a : AAct) (h : AH), wpA P rd c Q a h → AW P rd c Q a h := by
  intro c
  induction c with
  | skip => intro Q a h hq; exact AW.skip hq
  | ret => intro Q a h hq; exact AW.ret hq
  | exit id => intro Q a h hq; exact AW.exit hq
  | goto l => intro Q a h hq; exact AW.goto hq
  | label l => intro Q a h hq; exact AW.label hq
  | seq x y ihx ihy =>
    intro Q a h hq
    refine AW.seq ((ihx _ _ _ hq).mono ?_)
    intro e a h hk
    cases e <;> first | exact ihy _ _ _ hk | exact hk
  | block id c ih => intro Q a h hq; exact AW.block (ih _ _ _ hq)
  | cond c x y ihx ihy =>
    intro Q a h hq
    obtain ⟨hc, hk⟩ := hq
    generalize hv : a.ev c = v at hk
    unfold condV at hk
    split at hk
    · exact AW.cond (t := true) hc hv (ihx _ _ _ hk)
    · exact AW.cond (t := false) hc hv (ihy _ _ _ hk)
    · exact hk.elim
  | region id ops draw =>
    intro Q a h hq
    cases draw with
    | false => exact AW.regionL (opsM_sound _ _ _ hq)
    | true => exact hq
  | _ => intro Q a h hq; exact hq

theorem contK_app (F : AAct → AH → Prop) (d : Option Tmp) (a : AAct) (v : Value) (h : AH) : contK F d a v h = F (a.put d v) h := rfl
theorem Keeps_nil (ops : Array Oper) (a : AAct) (h : AH) : Keeps P ops [] a h = True := by
  apply propext; simp [Keeps]
theorem thenQ_normal (N : AAct → AH → Prop) (Q : Exit → AAct → AH → Prop) (a : AAct) (h : AH) : thenQ N Q .normal a h = N a h := rfl
theorem thenQ_ret (N : AAct → AH → Prop) (Q : Exit → AAct → AH → Prop) (a : AAct) (h : AH) : thenQ N Q .ret a h = Q .ret a h := rfl
theorem thenQ_exit (N : AAct → AH → Prop) (Q : Exit → AAct → AH → Prop) (i : Nat) (a : AAct) (h : AH) : thenQ N Q (.exit i) a h = Q (.exit i) a h := rfl
theorem thenQ_goto (N : AAct → AH → Prop) (Q : Exit → AAct → AH → Prop) (i : Nat) (a : AAct) (h : AH) : thenQ N Q (.goto i) a h = Q (.goto i) a h := rfl
theorem blockQ_normal (i : Nat) (Q : Exit → AAct → AH → Prop) (a : AAct) (h : AH) : blockQ i Q .normal a h = Q .normal a h := rfl
theorem blockQ_ret (i : Nat) (Q : Exit → AAct → AH → Prop) (a : AAct) (h : AH) : blockQ i Q .ret a h = Q .ret a h := rfl
theorem blockQ_goto (i j : Nat) (Q : Exit → AAct → AH → Prop) (a : AAct) (h : AH) : blockQ i Q (.goto j) a h = Q (.goto j) a h := rfl
theorem blockQ_exit (i j : Nat) (Q : Exit → AAct → AH → Prop) (a : AAct) (h : AH) : blockQ i Q (.exit j) a h = if j = i then Q .normal a h else Q (.exit j) a h := rfl
theorem ex_some {x : Value} {y : AH} {K : Value → AH → Prop} : (∃ v h, some (x, y) = some (v, h) ∧ K v h) = K x y := by
  apply propext
  constructor
  · rintro ⟨v, h, e, k⟩; cases e; exact k
  · exact fun k => ⟨x, y, rfl, k⟩
theorem ex_still {x : Value} {y : AH} {K : Value → Prop} : (∃ v, some (x, y) = some (v, y) ∧ K v) = K x := by
  apply propext
  constructor
  · rintro ⟨v, e, k⟩; cases e; exact k
  · exact fun k => ⟨x, rfl, k⟩
theorem ex_bool {b : Bool} {K : Bool → Prop} : (∃ t, Value.bool b = .bool t ∧ K t) = K b := by
  apply propext
  constructor
  · rintro ⟨v, e, k⟩; cases e; exact k
  · exact fun k => ⟨b, rfl, k⟩
theorem ev_func (a : AAct) (f : FuncId) : a.ev (.func f) = .func (.func f) #[] #[] := rfl
theorem wanted_none (dst : Option Tmp) (op : Op) (ty : TypeId) (pos : String) (after : Array Edge) (y : Nat → Option Bool) : Region.wanted { dst := dst, op := op, type := ty, pos := pos, after := after, guard := none } y = true := rfl
theorem wanted_some (dst : Option Tmp) (op : Op) (ty : TypeId) (pos : String) (after : Array Edge) (j : Nat) (b : Bool) (y : Nat → Option Bool) : Region.wanted { dst := dst, op := op, type := ty, pos := pos, after := after, guard := some (j, b) } y = (y j == some b) := rfl
theorem callR_func (P : Program) (g : FuncId) (xs ys : Array Value) (args : List Value) (h : AH) (K : Value → AH → Prop) : callR P (.func (.func g) xs ys) args h K = ACall P g (xs.toList ++ args ++ ys.toList) h K := rfl
theorem put_tm (a : AAct) (t : Tmp) (v : Value) (i : Nat) : (a.put (some t) v).tm i = if i = t then v else a.tm i := rfl
theorem put_none (a : AAct) (v : Value) : a.put none v = a := rfl
theorem put_df (a : AAct) (d : Option Tmp) (v : Value) : (a.put d v).df = a.df := by cases d <;> rfl
theorem ev_tmp (a : AAct) (t : Nat) : a.ev (.tmp t) = a.tm t := rfl
theorem ev_const (a : AAct) (v : Value) : a.ev (.const v) = v := rfl
theorem dst_some (a : AAct) (t : Nat) : dstOK a (some t) = (t < a.n) := rfl
theorem dst_none (a : AAct) : dstOK a none = True := rfl


def bodyR (P : Program) (rs : List ResultVar) (K : Value → AH → Prop) (e : Exit) (a : AAct) (h : AH) : Prop :=
  (e = .normal ∨ e = .ret) ∧ ∃ h' vs, closeMarks a.df h = some h' ∧ resL P a.tm h' rs = some vs ∧ K (resV vs) h'

theorem bodyR_ret {rs : List ResultVar} {K : Value → AH → Prop} {a : AAct} {h : AH} (hd : a.df = []) : bodyR P rs K .ret a h = ∃ vs, resL P a.tm h rs = some vs ∧ K (resV vs) h := by
  apply propext
  unfold bodyR
  rw [hd]
  constructor
  · rintro ⟨_, h', vs, e, x, y⟩; cases e; exact ⟨vs, x, y⟩
  · rintro ⟨vs, x, y⟩; exact ⟨.inr rfl, h, vs, rfl, x, y⟩

theorem bodyR_normal {rs : List ResultVar} {K : Value → AH → Prop} {a : AAct} {h : AH} (hd : a.df = []) : bodyR P rs K .normal a h = ∃ vs, resL P a.tm h rs = some vs ∧ K (resV vs) h := by
  apply propext
  unfold bodyR
  rw [hd]
  constructor
  · rintro ⟨_, h', vs, e, x, y⟩; cases e; exact ⟨vs, x, y⟩
  · rintro ⟨vs, x, y⟩; exact ⟨.inl rfl, h, vs, rfl, x, y⟩

theorem ex_some1 {α : Type} {x : α} {K : α → Prop} : (∃ v, some x = some v ∧ K v) = K x := by
  apply propext
  constructor
  · rintro ⟨v, e, k⟩; cases e; exact k
  · exact fun k => ⟨x, rfl, k⟩

theorem ACall.of_wp {g : FuncId} {fn : Func} {c : Code} {args : List Value} {h : AH} {K : Value → AH → Prop} (N : Nat) (rs : List ResultVar) (hf : P.funcs[g]? = some fn) (hb : fn.body = some c) (hn : (fn.name == "runtime.NumGoroutine") = false)
    (hN : args.length + (fn.ntmps - args.length) = N) (hrs : fn.results.toList = rs)
    (hw : ∀ a : AAct, a.n = N → a.df = [] → (∀ i, a.tm i = args.getD i undef) → wpA P none c (bodyR P rs K) a h) : ACall P g args h K := by
  refine ACall.of_body hf hb hn (wpA_sound _ _ _ _ ?_)
  have := hw (enterA fn args) hN rfl (fun _ => rfl)
  subst hrs
  exact this

theorem aEq_bool {t : TypeId} (ht : P.underlying t = some .bool) (x y : Bool) (n : Nat) : aEq P (n + 1) t (.bool x) (.bool y) = some (x == y) := by
  unfold aEq; rw [ht]

theorem eqBin_bool_neq {t : TypeId} (ht : P.underlying t = some .bool) (x y : Bool) : eqBin P .neq t (.bool x) (.bool y) = some (.bool (!(x == y))) := by
  unfold eqBin; rw [aEq_bool ht]; simp [guardOn]
theorem eqBin_bool_eql {t : TypeId} (ht : P.underlying t = some .bool) (x y : Bool) : eqBin P .eql t (.bool x) (.bool y) = some (.bool (x == y)) := by
  unfold eqBin; rw [aEq_bool ht]; simp [guardOn]


section eqs
variable {rd : Option Nat} {Q : Exit → AAct → AH → Prop} {a : AAct} {h : AH}
theorem wpA_skip : wpA P rd .skip Q a h = Q .normal a h := rfl
theorem wpA_ret : wpA P rd .ret Q a h = Q .ret a h := rfl
theorem wpA_exit {i : Nat} : wpA P rd (.exit i) Q a h = Q (.exit i) a h := rfl
theorem wpA_seq {x y : Code} : wpA P rd (.seq x y) Q a h = wpA P rd x (thenQ (wpA P rd y Q) Q) a h := rfl
theorem wpA_block {i : Nat} {c : Code} : wpA P rd (.block i c) Q a h = wpA P rd c (blockQ i Q) a h := rfl
theorem wpA_cond {c : Operand} {x y : Code} : wpA P rd (.cond c x y) Q a h = (cOK c = true ∧ condV (a.ev c) (wpA P rd x Q) (wpA P rd y Q) a h) := rfl
theorem wpA_region {i : Nat} {ops : Array Oper} : wpA P rd (.region i ops false) Q a h = opsM P ops (Q .normal) ops.toList a h := rfl
theorem wpA_draw {i : Nat} {ops : Array Oper} : wpA P rd (.region i ops true) Q a h = AW P rd (.region i ops true) Q a h := rfl
theorem wpA_loop {c : Code} : wpA P rd (.loop c) Q a h = AW P rd (.loop c) Q a h := rfl
theorem opsM_nil {ops : Array Oper} {N : AAct → AH → Prop} : opsM P ops N [] a h = N a h := rfl
theorem opsM_cons {ops : Array Oper} {N : AAct → AH → Prop} {o : Oper} {l : List Oper} : opsM P ops N (o :: l) a h = (match okB o a with
    | false => False
    | true => match Region.wanted o (yieldedA ops a) with
      | false => opsM P ops N l (a.put o.dst undef) h
      | true => match o.op with
        | .call { callee := .value f, args, .. } => callR P (a.ev f) (args.toList.map a.ev) h (contK (opsM P ops N l) o.dst a)
        | .next it false => NextW (a.ev it) h (contK (opsM P ops N l) o.dst a)
        | op => match dop P a.ev op h with
          | some (v, h') => opsM P ops N l (a.put o.dst v) h'
          | none => False) := rfl
end eqs

end
end Go.Ab

namespace Go.Ab

def SlOf (h : AH) (v : Value) (vs : List Value) : Prop :=
  ∃ p l c, v = .slice p l c ∧ l = vs.length ∧ (∀ q, p = some q → q.spot = none) ∧ (vs = [] ∨ ∃ A off o cs, p = some ⟨A, off, none⟩ ∧ h.get A = some o ∧ o.cells? = some cs ∧ ∀ (i : Nat) (x : Value), vs[i]? = some x → cs[off + i]? = some x)

theorem SlOf.len {P : Program} {h : AH} {v : Value} {vs : List Value} (hs : SlOf h v vs) {t e : TypeId} (ht : P.underlying t = some (.slice e)) : aLen P t v h = some (.int .i64 vs.length) := by
  obtain ⟨p, l, c, rfl, rfl, _, _⟩ := hs
  simp only [aLen, ht]

/-- Types: a slice of elements of one cell each. -/
structure Sl1 (P : Program) (t e : TypeId) : Prop where
  sl : P.underlying t = some (.slice e)
  one : ∃ i, P.info? e = some i ∧ i.size = 1
  flat : ∃ d, P.underlying e = some d ∧ aggT d = false

theorem SlOf.at {P : Program} {h : AH} {v : Value} {vs : List Value} (hs : SlOf h v vs) {t e : TypeId} (ht : Sl1 P t e) {i : Nat} {x : Value} {k : IntKind} (hx : vs[i]? = some x) :
    ∃ q, aIndexAddr P t v (.int k i) = some q ∧ aLoad P e q h = some x := by
  obtain ⟨p, l, c, rfl, rfl, hsp, hcs⟩ := hs
  have hlt : i < vs.length := (List.getElem?_eq_some_iff.1 hx).1
  rcases hcs with rfl | ⟨A, off, o, cs, rfl, hg, hc, hall⟩
  · simp at hx
  · obtain ⟨ie, hi, h1⟩ := ht.one
    obtain ⟨d, hd, hagg⟩ := ht.flat
    refine ⟨.pointer (some ⟨A, off + i, none⟩), ?_, ?_⟩
    · simp only [aIndexAddr, ht.sl, hi]
      rw [if_pos ⟨by omega, by omega⟩, h1]; simp
    · simp only [aLoad, hg, Option.bind_some, hc, hd, hagg, Bool.false_eq_true, if_false]
      exact hall i x hx

theorem SlOf.sub {h h' : AH} {v : Value} {vs : List Value} (hs : SlOf h v vs) (hh : Sub h h') : SlOf h' v vs := by
  obtain ⟨p, l, c, rfl, rfl, hsp, hcs⟩ := hs
  refine ⟨p, _, c, rfl, rfl, hsp, ?_⟩
  rcases hcs with e | ⟨A, off, o, cs, rfl, hg, hc, hall⟩
  · exact .inl e
  · exact .inr ⟨A, off, o, cs, rfl, hh _ _ hg, hc, hall⟩

end Go.Ab
