/- Own layer 'Ab': an operation of any kind, its way on the abstract heap, and that the model goes it. -/
import Derived.Test.YtnejoceplinjpaaAb10
namespace Go.Ab

/-- A call of a function's value. -/
def callR (P : Program) (f : Value) (args : List Value) (h : AH) (K : Value → AH → Prop) : Prop :=
  match f with
  | .func (.func g) first cap => ACall P g (first.toList ++ args ++ cap.toList) h K
  | .func (.yield L) first _ => AYield P L (first.toList ++ args) h K
  | _ => False

theorem callR.mono {P : Program} {f : Value} {args : List Value} {h : AH} {K K' : Value → AH → Prop} (hk : ∀ v h, K v h → K' v h) (hw : callR P f args h K) : callR P f args h K' := by
  unfold callR at hw ⊢
  split
  · exact ACall.mono hk hw
  · obtain ⟨l, hg, h1, h2, h3⟩ := hw
    refine ⟨l, hg, h1, h2, h3.mono ?_⟩
    rintro e a h ⟨rfl, l1, g1, g2, g3⟩
    refine ⟨rfl, l1, g1, g2, g3.mono ?_⟩
    rintro e a h ⟨l2, x, y⟩
    refine ⟨l2, x, ?_⟩
    cases e <;> first | exact hk _ _ y | exact y
  · rename_i h1 h2
    split at hw
    · exact absurd rfl (h1 _ _ _)
    · exact absurd rfl (h2 _ _ _)
    · exact hw

/-- An operation, from its operands' values on. -/
def opR (P : Program) (ev : Operand → Value) (op : Op) (h : AH) (K : Value → AH → Prop) : Prop :=
  match op with
  | .call { callee := .value f, args, .. } => callR P (ev f) (args.toList.map ev) h K
  | .next it false => NextW (ev it) h K
  | op => ∃ v h', dop P ev op h = some (v, h') ∧ K v h'

def yieldedA (ops : Array Oper) (a : AAct) (j : Nat) : Option Bool :=
  match (ops[j]?).bind (·.dst) with
  | some t => if t < a.n then (match a.tm t with | .bool b => some b | _ => none) else none
  | none => none

def opW (P : Program) (ops : Array Oper) (o : Oper) (a : AAct) (h : AH) (K : AAct → AH → Prop) : Prop :=
  o.op.operands.toList.all cOK = true ∧ dstOK a o.dst ∧
    if Region.wanted o (yieldedA ops a) then opR P a.ev o.op h (fun v h' => K (a.put o.dst v) h') else K (a.put o.dst undef) h

theorem opR.mono {P : Program} {ev : Operand → Value} {op : Op} {h : AH} {K K' : Value → AH → Prop} (hk : ∀ v h, K v h → K' v h) (hw : opR P ev op h K) : opR P ev op h K' := by
  unfold opR at hw ⊢
  split
  · exact callR.mono hk hw
  · obtain ⟨I, hI, hn⟩ := hw
    refine ⟨I, hI, ?_⟩
    rcases hn with ⟨a, b, c, hg, hkk⟩ | ⟨M, since, seen, stepped, es, clk, hg, hgm, hbad, hall⟩
    · exact .inl ⟨a, b, c, hg, hk _ _ hkk⟩
    · refine .inr ⟨M, since, seen, stepped, es, clk, hg, hgm, hbad, fun x hx => ?_⟩
      have := hall x hx
      cases x <;> exact hk _ _ this
  · rename_i h1 h2
    split at hw
    · exact absurd rfl (h1 _ _ _)
    · exact absurd rfl (h2 _)
    · obtain ⟨v, h', hd, hkk⟩ := hw
      exact ⟨v, h', hd, hk _ _ hkk⟩

theorem opW.mono {P : Program} {ops : Array Oper} {o : Oper} {a : AAct} {h : AH} {K K' : AAct → AH → Prop} (hk : ∀ a h, K a h → K' a h) (hw : opW P ops o a h K) : opW P ops o a h K' := by
  obtain ⟨h1, h2, h3⟩ := hw
  refine ⟨h1, h2, ?_⟩
  split
  · rename_i hw; rw [if_pos hw] at h3; exact h3.mono fun _ _ => hk _ _
  · rename_i hw; rw [if_neg hw] at h3; exact hk _ _ h3

theorem yielded_eq {ρ : Ren} {a : AAct} {c : Act} (h : AR ρ a c) (ops : Array Oper) : yielded ops c.tmps = yieldedA ops a := by
  funext j
  unfold yielded yieldedA
  cases hd : (ops[j]?).bind (·.dst) with
  | none => rfl
  | some t =>
    simp only [Option.bind_some]
    have hv := h.tmp t
    rw [Array.getD_eq_getD_getElem?] at hv
    by_cases hlt : t < c.tmps.size
    · have hlt' : t < a.n := by rw [← h.size]; exact hlt
      rw [if_pos hlt']
      rw [Array.getElem?_eq_getElem hlt] at hv ⊢
      simp only [Option.getD_some] at hv
      generalize c.tmps[t] = y at hv ⊢
      generalize a.tm t = x at hv ⊢
      cases hv <;> rfl
    · have hlt' : ¬ t < a.n := by rw [← h.size]; exact hlt
      rw [if_neg hlt', Array.getElem?_eq_none (Nat.le_of_not_lt hlt)]

def Post (ρ : Ren) (h : AH) (w : World) (K : AAct → AH → Prop) (ca' : Act) (w' : World) : Prop :=
  ∃ ρ' a' h', K a' h' ∧ AR ρ' a' ca' ∧ HR ρ' h' w' ∧ Frm ρ h w ρ' h' w'

theorem opW.sound {P : Program} {ops : Array Oper} {o : Oper} {a : AAct} {h : AH} {K : AAct → AH → Prop} (hw : opW P ops o a h K) {n : Nat} {ρ : Ren} {crd : Option Nat} {ca : Act} {w : World} (har : AR ρ a ca) (hr : HR ρ h w)
    {Q : Exit → Act → World → Prop} {N : Act → World → Prop} (hN : ∀ ca' w', Post ρ h w K ca' w' → N ca' w') :
    if Region.wanted o (yielded ops ca.tmps) then o.wpIn (fence crd) n P ca w N Q
    else (∀ f, o.about P w ca.eval = some f → (fence crd).fn f) ∧ N (ca.put o.dst undef) w := by
  obtain ⟨hc, hd, hk⟩ := hw
  rw [yielded_eq har]
  by_cases hwant : Region.wanted o (yieldedA ops a) = true
  · rw [if_pos hwant] at hk ⊢
    refine ⟨fun _ _ => trivial, ?_⟩
    have hev : ∀ x, cOK x = true → VR ρ (a.ev x) (ca.eval x) := fun x hx => har.ev hx
    have fin : ∀ ρ' v v' h' w', K (a.put o.dst v) h' → VR ρ' v v' → HR ρ' h' w' → Frm ρ h w ρ' h' w' → N (ca.put o.dst v') w' :=
      fun ρ' v v' h' w' k vr r f => hN _ _ ⟨ρ', _, h', k, (har.mono f.le).put (by exact hd) vr, r, f⟩
    unfold opR at hk
    split at hk
    · rename_i op f args at' hop
      have hnd : ∀ c, o.op ≠ .defer c := fun c e => by rw [hop] at e; cases e
      rw [Oper.semAt_eq _ _ _ hnd]
      have hcf : cOK f = true := List.all_eq_true.1 hc f (by rw [hop]; simp [Op.operands, Call.operands])
      have hca : ∀ x ∈ args.toList, cOK x = true := fun x hx => List.all_eq_true.1 hc x (by rw [hop]; simp [Op.operands, Call.operands]; exact .inr (by simpa using hx))
      have hl : LR ρ (args.toList.map a.ev) (args.map ca.eval).toList := by
        rw [Array.toList_map]; exact LR.map fun x hm => hev x (hca x hm)
      have hf := hev f hcf
      unfold callR at hk
      split at hk
      · rename_i g first cap hfe
        rw [hfe] at hf
        generalize hcc : ca.eval f = y at hf
        cases hf with
        | @func _ _ _ first' _ cap' hfn h1 h2 h3 h4 =>
          cases hfn
          obtain ⟨⟨fn, hfn, hbody, hname⟩, hcall⟩ := hk
          have hnone : fn.body.isNone = false := by cases hb : fn.body <;> simp_all
          have hrun : (execOp ca.eval o).run P w = .ok (.enter g (first' ++ args.map ca.eval ++ cap')) w := by
            obtain ⟨dst, op', type, pos, after, guard⟩ := o
            simp only at hop; subst hop
            simp only [execOp, resolve, hcc, Deferred.ofValue, Sem.run_bind, Sem.run_pure, Result.andThen_ok, invoke, callFunc, run_program, hfn, hname, Bool.false_eq_true, if_false, hnone]
          rw [hrun, Oper.uponIn_enter]
          refine ⟨fun h => by simp [fence, Fence.wide] at h, ?_⟩
          have hla : LR ρ (first.toList ++ args.toList.map a.ev ++ cap.toList) (first' ++ args.map ca.eval ++ cap').toList := by
            rw [Array.toList_append, Array.toList_append]
            exact (LR.append (LR.append ⟨by simpa using h1, fun i v v' x y => h2 i v v' (by simpa using x) (by simpa using y)⟩ hl) ⟨by simpa using h3, fun i v v' x y => h4 i v v' (by simpa using x) (by simpa using y)⟩)
          have hcc2 := callsIn_wide (n := n - 1).2 (hcall ρ _ w hla hr)
          have hcc3 : CallsIn (fence crd) (n - 1) P g (first' ++ args.map ca.eval ++ cap') w _ := hcc2
          refine hcc3.mono ?_
          rintro e w' ⟨ρ', v, v', h', rfl, hkk, hv, hr', hf'⟩
          exact fin ρ' v v' h' w' hkk hv hr' hf'
      · rename_i L first cap hfe
        rw [hfe] at hf
        generalize hcc : ca.eval f = y at hf
        cases hf with
        | @func _ _ _ first' _ cap' hfn h1 h2 h3 h4 =>
          cases hfn with
          | @yield _ r hL =>
            have hla : LR ρ (first.toList ++ args.toList.map a.ev) (first' ++ args.map ca.eval).toList := by
              rw [Array.toList_append]
              exact (LR.append ⟨by simpa using h1, fun i v v' x y => h2 i v v' (by simpa using x) (by simpa using y)⟩ hl)
            obtain ⟨f', tmps, assign, body, hy, hround⟩ := hk.sound (n := n - 1) (crd := crd) hla hr ⟨_, hL, rfl⟩
            have hrun : (execOp ca.eval o).run P w = .ok (.round r.blk f' tmps assign body) w := by
              obtain ⟨dst, op', type, pos, after, guard⟩ := o
              simp only at hop; subst hop
              simp only [execOp, resolve, hcc, Deferred.ofValue, Sem.run_bind, Sem.run_pure, Result.andThen_ok, invoke]
              exact hy
            rw [hrun, Oper.uponIn_round]
            refine ⟨fun h => by simp [fence, Fence.wide] at h, hround.mono ?_⟩
            rintro e w' ⟨ρ', v, v', h', rfl, hkk, hv, hr', hf'⟩
            exact fin ρ' v v' h' w' hkk hv hr' hf'
      · exact hk.elim
    · rename_i op it hop
      have hnd : ∀ c, o.op ≠ .defer c := fun c e => by rw [hop] at e; cases e
      rw [Oper.semAt_eq _ _ _ hnd]
      have hci : cOK it = true := List.all_eq_true.1 hc it (by rw [hop]; simp [Op.operands])
      obtain ⟨ρ', v, v', h', w', hrun, hkk, hv, hr', hf'⟩ := NextW.sound (P := P) (ty := o.type) hr (hev it hci) hk
      have hrun2 : (execOp ca.eval o).run P w = .ok (.value v') w' := by
        obtain ⟨dst, op', type, pos, after, guard⟩ := o
        simp only at hop; subst hop
        simp only [execOp, Sem.run_bind, hrun, Result.andThen_ok, Sem.run_pure]
      rw [hrun2, Oper.uponIn_value]
      exact fin ρ' v v' h' w' hkk hv hr' hf'
    · rename_i op _ _
      obtain ⟨v, h', hdo, hkk⟩ := hk
      have hnd : ∀ c, o.op ≠ .defer c := fun c e => by rw [e] at hdo; cases hdo
      rw [Oper.semAt_eq _ _ _ hnd]
      obtain ⟨ρ', v', nx, w', hrun, hnx, hv, hr', hf'⟩ := dop_snd (o := o) hc hev hr hdo
      rw [hrun]
      rcases hnx with rfl | ⟨rfl, rfl⟩
      · exact fin ρ' v v' h' w' hkk hv hr' hf'
      · exact fin ρ' v undef h' w' hkk hv hr' hf'
  · rw [if_neg hwant] at hk ⊢
    exact ⟨fun _ _ => trivial, hN _ _ ⟨ρ, _, h, hk, har.put hd (.undef _), hr, Frm.refl _ _ _⟩⟩

end Go.Ab
