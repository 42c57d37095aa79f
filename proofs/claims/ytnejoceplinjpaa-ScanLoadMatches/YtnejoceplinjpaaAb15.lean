/- Own layer 'Ab': a region that draws its order: by a plan. -/
import Derived.Test.YtnejoceplinjpaaAb14
namespace Go.Ab

section
variable {P : Program} {ops : Array Oper} {Q : Exit → AAct → AH → Prop}

theorem AAct.ev_put {a : AAct} {d : Option Tmp} {v : Value} {x : Operand} (h : ∀ t, d = some t → x ≠ .tmp t) : (a.put d v).ev x = a.ev x := by
  cases d with
  | none => rfl
  | some t =>
    cases x with
    | tmp u =>
      have : u ≠ t := fun e => h t rfl (by rw [e])
      simp [AAct.put, AAct.ev, this]
    | _ => rfl

theorem AAct.put_comm (a : AAct) {x y : Option Tmp} (v u : Value) (h : ∀ d, x = some d → y ≠ some d) : (a.put x v).put y u = (a.put y u).put x v := by
  cases x with
  | none => rfl
  | some d =>
    cases y with
    | none => rfl
    | some e =>
      have hne : e ≠ d := fun he => h d rfl (by rw [he])
      simp only [AAct.put]
      congr 1
      funext i
      by_cases h1 : i = e
      · subst h1; simp [hne]
      · simp [h1]

theorem ev_put_looks {o : Oper} {a : AAct} {d : Option Tmp} {v : Value} (h : ∀ t, d = some t → t ∉ o.looksAt ops) : ∀ x ∈ o.op.operands.toList, (a.put d v).ev x = a.ev x := by
  intro x hx
  refine AAct.ev_put fun t ht e => h t ht ?_
  subst e
  exact List.mem_append_left _ (List.mem_filterMap.2 ⟨.tmp t, hx, rfl⟩)

theorem put_n (a : AAct) (d : Option Tmp) (v : Value) : (a.put d v).n = a.n := by cases d <;> rfl

theorem wanted_put_looks {o : Oper} {a : AAct} {d : Option Tmp} {v : Value} (h : ∀ t, d = some t → t ∉ o.looksAt ops) : Region.wanted o (yieldedA ops (a.put d v)) = Region.wanted o (yieldedA ops a) := by
  unfold Region.wanted
  cases hg : o.guard with
  | none => rfl
  | some gw =>
    obtain ⟨g, want⟩ := gw
    have : yieldedA ops (a.put d v) g = yieldedA ops a g := by
      unfold yieldedA
      cases ht : (ops[g]?).bind (·.dst) with
      | none => rfl
      | some t =>
        simp only [put_n]
        cases d with
        | none => rfl
        | some e =>
          have hne : t ≠ e := fun x => h e rfl (by subst x; simp [Oper.looksAt, hg, ht])
          simp only [AAct.put, if_neg hne]
    simp only [this]

def Still (P : Program) (ops : Array Oper) (o : Oper) (v : Value) (a : AAct) (h : AH) : Prop :=
  o.op.operands.toList.all cOK = true ∧ dstOK a o.dst ∧ if Region.wanted o (yieldedA ops a) then dop P a.ev o.op h = some (v, h) else v = undef

theorem dstOK_put {a : AAct} {d e : Option Tmp} {v : Value} (h : dstOK a d) : dstOK (a.put e v) d := by
  cases d with
  | none => trivial
  | some t => simpa [dstOK, put_n] using h

theorem Still.opW {o : Oper} {v : Value} {a : AAct} {h : AH} {K : AAct → AH → Prop} (hs : Still P ops o v a h) (hk : K (a.put o.dst v) h) : opW P ops o a h K := by
  obtain ⟨h1, h2, h3⟩ := hs
  refine ⟨h1, h2, ?_⟩
  split
  · rename_i hw; rw [if_pos hw] at h3; exact opR_of_dop h3 hk
  · rename_i hw; rw [if_neg hw] at h3; subst h3; exact hk

def quietK (op : Op) : Bool := pureK op || readK op || allocK op

theorem quiet_heap {op : Op} {ev : Operand → Value} {h h' : AH} {v : Value} (hw : WFH h) (hq : quietK op = true) (hd : dop P ev op h = some (v, h')) : Sub h h' := by
  unfold quietK at hq
  rw [Bool.or_eq_true, Bool.or_eq_true] at hq
  rcases hq with (hp | hr) | ha
  · rcases dop_pure' hp hd with ⟨e, _⟩ | ⟨ob, e⟩ <;> subst e
    · exact fun _ _ x => x
    · exact Sub.new hw ob
  · rw [(dop_read hr hd).1]; exact fun _ _ x => x
  · rcases dop_alloc ha hd with e | ⟨ob, e⟩ <;> subst e
    · exact fun _ _ x => x
    · exact Sub.new hw ob

theorem Still.move {o oj : Oper} {v u : Value} {a : AAct} {h h' : AH} (hs : Still P ops o v a h) (hl : ∀ t, oj.dst = some t → t ∉ o.looksAt ops) (hh : pureK o.op = true ∨ (readK o.op = true ∧ Sub h h')) : Still P ops o v (a.put oj.dst u) h' := by
  obtain ⟨h1, h2, h3⟩ := hs
  refine ⟨h1, dstOK_put h2, ?_⟩
  rw [wanted_put_looks hl]
  split
  · rename_i hw
    rw [if_pos hw] at h3
    rw [dop_congr (ev_put_looks hl)]
    rcases hh with hp | ⟨hr, hsub⟩
    · exact dop_pure hp h3 h'
    · exact (dop_read hr h3).2 h' hsub
  · rename_i hw; rw [if_neg hw] at h3; exact h3

theorem Still.put {o : Oper} {v u : Value} {a : AAct} {d : Option Tmp} {h : AH} (hs : Still P ops o v a h) (hl : ∀ t, d = some t → t ∉ o.looksAt ops) : Still P ops o v (a.put d u) h := by
  obtain ⟨h1, h2, h3⟩ := hs
  refine ⟨h1, dstOK_put h2, ?_⟩
  rw [wanted_put_looks hl]
  split
  · rename_i hw; rw [if_pos hw] at h3; rw [dop_congr (ev_put_looks hl)]; exact h3
  · rename_i hw; rw [if_neg hw] at h3; exact h3

theorem Still.unput {o : Oper} {v u : Value} {a : AAct} {d : Option Tmp} {h : AH} (hs : Still P ops o v (a.put d u) h) (hl : ∀ t, d = some t → t ∉ o.looksAt ops) : Still P ops o v a h := by
  obtain ⟨h1, h2, h3⟩ := hs
  rw [wanted_put_looks hl] at h3
  refine ⟨h1, ?_, ?_⟩
  · cases hd : o.dst with
    | none => trivial
    | some t => rw [hd] at h2; simpa [dstOK, put_n] using h2
  · split
    · rename_i hw; rw [if_pos hw] at h3; rw [dop_congr (ev_put_looks hl)] at h3; exact h3
    · rename_i hw; rw [if_neg hw] at h3; exact h3

theorem opW_put {o oj : Oper} {v : Value} {a : AAct} {h : AH} {K : AAct → AH → Prop} (hwf : WFH h) (hap : o.apart ops oj = true)
    (hkd : pureK o.op = true ∨ (readK o.op = true ∧ quietK oj.op = true) ∨ ((∀ t, o.dst = some t → t ∉ o.looksAt ops) ∧ ∀ a h, K a h → Still P ops o v a h))
    (hs : Still P ops o v a h) (hj : opW P ops oj (a.put o.dst v) h K) : opW P ops oj a h (fun a' h' => Still P ops o v a' h' ∧ K (a'.put o.dst v) h') := by
  obtain ⟨s1, s2, s3⟩ := Oper.apart_spec hap
  obtain ⟨h1, h2, h3⟩ := hj
  have h2' : dstOK a oj.dst := by
    cases hd : oj.dst with
    | none => trivial
    | some t => rw [hd] at h2; simpa [dstOK, put_n] using h2
  refine ⟨h1, h2', ?_⟩
  rw [wanted_put_looks s1] at h3
  have comm : ∀ u h', K ((a.put o.dst v).put oj.dst u) h' → K ((a.put oj.dst u).put o.dst v) h' := fun u h' hk => by rw [← AAct.put_comm a v u s2]; exact hk
  split
  · rename_i hw
    rw [if_pos hw] at h3
    have h3 := opR_congr (ev_put_looks s1) h3
    rcases hkd with hp | ⟨hr, hq⟩ | ⟨hself, hst⟩
    · exact h3.mono fun u h' hk => ⟨hs.move s3 (.inl hp), comm u h' hk⟩
    · unfold opR at h3
      split at h3
      · rename_i e; rw [e] at hq; simp [quietK, pureK, readK, allocK] at hq
      · rename_i e; rw [e] at hq; simp [quietK, pureK, readK, allocK] at hq
      · obtain ⟨u, h', hd, hk⟩ := h3
        exact opR_of_dop hd ⟨hs.move s3 (.inr ⟨hr, quiet_heap hwf hq hd⟩), comm u h' hk⟩
    · exact h3.mono fun u h' hk => ⟨(hst _ _ (comm u h' hk)).unput hself, comm u h' hk⟩
  · rename_i hw
    rw [if_neg hw] at h3
    refine ⟨?_, comm _ _ h3⟩
    rcases hkd with hp | ⟨hr, _⟩ | ⟨hself, hst⟩
    · exact hs.move s3 (.inl hp)
    · exact hs.move s3 (.inr ⟨hr, fun _ _ x => x⟩)
    · exact (hst _ _ (comm _ _ h3)).unput hself

def Keeps (P : Program) (ops : Array Oper) (R : List (Oper × Value)) (a : AAct) (h : AH) : Prop := ∀ p ∈ R, Still P ops p.1 p.2 a h

def anyW (P : Program) (ops : Array Oper) (Q : Exit → AAct → AH → Prop) : Nat → Array Bool → List (Oper × Value) → AAct → AH → Prop
  | 0, listed, R, a, h => WFH h → Keeps P ops R a h → Region.ready .any ops listed = [] ∧ Q .normal a h
  | fuel + 1, listed, R, a, h => WFH h → Keeps P ops R a h → (Region.ready .any ops listed = [] → Q .normal a h) ∧
    ∀ i ∈ Region.ready .any ops listed, ∀ o, ops[i]? = some o → opW P ops o a h (fun a' h' => Keeps P ops R a' h' ∧ anyW P ops Q fuel (listed.setIfInBounds i true) R a' h')

theorem wpAnyIn_mono {F : Fence} {n : Nat} {Q Q' : Exit → Act → World → Prop} (hq : ∀ e a w, Q e a w → Q' e a w) : ∀ (fuel : Nat) (listed : Array Bool) (a : Act) (w : World), wpAnyIn F n P .any ops Q fuel listed a w → wpAnyIn F n P .any ops Q' fuel listed a w := by
  intro fuel
  induction fuel with
  | zero => intro listed a w h; exact ⟨h.1, hq _ _ _ h.2⟩
  | succ fuel ih =>
    intro listed a w h
    refine ⟨fun e => hq _ _ _ (h.1 e), fun i hi => ?_⟩
    have h := wpOpIn_mono (fun a w => ih (listed.setIfInBounds i true) a w) (h.2 i hi)
    unfold wpOpIn at h ⊢
    split
    · rename_i ho; rw [ho] at h; exact h
    · rename_i o ho
      rw [ho] at h
      simp only at h
      split
      · rename_i hw
        rw [if_pos hw] at h
        refine ⟨h.1, ?_⟩
        have h := h.2
        generalize (o.semAt F.round a.eval).run P w = r at h ⊢
        cases r with
        | ok x w' =>
          cases x <;> simp only [Oper.uponIn] at h ⊢ <;>
            first
              | exact h
              | exact ⟨h.1, CallsIn.mono h.2 (fun e w'' he => by cases e <;> first | exact he | exact hq _ _ _ he | exact (let ⟨a, w, x⟩ := he; ⟨a, w, hq _ _ _ x⟩))⟩
              | exact ⟨h.1, RoundIn.mono h.2 (fun e w'' he => by cases e <;> first | exact he | exact hq _ _ _ he | exact (let ⟨a, w, x⟩ := he; ⟨a, w, hq _ _ _ x⟩))⟩
        | halt x w' => cases x <;> simp only [Oper.uponIn] at h ⊢ <;> first | exact h | exact hq _ _ _ h
      · rename_i hw; rw [if_neg hw] at h; exact h

theorem anyW.sound {n : Nat} {crd : Option Nat} {R : List (Oper × Value)} : ∀ (fuel : Nat) (listed : Array Bool) (a : AAct) (h : AH), Keeps P ops R a h → anyW P ops Q fuel listed R a h → ∀ (ρ : Ren) (ca : Act) (w : World), AR ρ a ca → HR ρ h w →
    wpAnyIn (fence crd) n P .any ops (PostE ρ h w Q) fuel listed ca w := by
  intro fuel
  induction fuel with
  | zero => intro listed a h hK hq ρ ca w ha hr; exact ⟨(hq hr.wf hK).1, ρ, a, h, (hq hr.wf hK).2, ha, hr, Frm.refl _ _ _⟩
  | succ fuel ih =>
    intro listed a h hK hq ρ ca w ha hr
    obtain ⟨h0, h1⟩ := hq hr.wf hK
    refine ⟨fun e => ⟨ρ, a, h, h0 e, ha, hr, Frm.refl _ _ _⟩, fun i hi => ?_⟩
    unfold wpOpIn
    cases ho : ops[i]? with
    | none => obtain ⟨_, o, e, _⟩ := mem_ready.1 hi; rw [ho] at e; cases e
    | some o =>
      refine (h1 i hi o ho).sound ha hr (N := wpAnyIn (fence crd) n P .any ops (PostE ρ h w Q) fuel (listed.setIfInBounds i true)) ?_
      rintro ca1 w1 ⟨ρ1, a1, h1, ⟨hK1, hk⟩, ha1, hr1, hf1⟩
      exact wpAnyIn_mono (fun e ca w' hp => hp.trans hf1) _ _ ca1 w1 (ih _ a1 h1 hK1 hk ρ1 ca1 w1 ha1 hr1)

theorem AW.draw {rd : Option Nat} {id : Nat} {a : AAct} {h : AH} (hm : P.follows .mixedOrders = true) (hx : anyW P ops Q ops.size (Array.replicate ops.size false) [] a h) : AW P rd (.region id ops true) Q a h := by
  intro n ρ crd ca w hrd ha hr
  refine wpIn_region_any hm ?_
  have hr' : HR ρ h { w with drawn := w.drawn + 1 } := HR.same (w := w) rfl hr
  have hf' : Frm ρ h w ρ h { w with drawn := w.drawn + 1 } := Frm.same rfl
  exact wpAnyIn_mono (fun e ca w' hp => hp.trans hf') _ _ _ _ (anyW.sound _ _ a h (fun _ hp => by cases hp) hx ρ ca _ ha hr')

theorem anyW.less {R R' : List (Oper × Value)} (sub : ∀ a h, Keeps P ops R' a h → Keeps P ops R a h) : ∀ {fuel : Nat} {listed : Array Bool} {a : AAct} {h : AH}, (Keeps P ops R a h → Keeps P ops R' a h) → anyW P ops Q fuel listed R' a h → anyW P ops Q fuel listed R a h := by
  intro fuel
  induction fuel with
  | zero => intro listed a h hkk hq hwf hK; exact hq hwf (hkk hK)
  | succ fuel ih =>
    intro listed a h hkk hq hwf hK
    obtain ⟨h0, h1⟩ := hq hwf (hkk hK)
    exact ⟨h0, fun i hi o ho => (h1 i hi o ho).mono fun a' h' ⟨x, y⟩ => ⟨sub _ _ x, ih (fun _ => x) y⟩⟩

/-- Members of D wait for i, or for one another. -/
def waits (ops : Array Oper) (listed : Array Bool) (i : Nat) (D : List Nat) : Bool :=
  D.all fun j => !(listed.getD j true) && (match ops[j]? with
    | none => false
    | some oj => oj.after.any fun e => Region.binds .any e && (e.on == i || D.contains e.on))

def loose (ops : Array Oper) (listed : Array Bool) (i : Nat) (o : Oper) (D : List Nat) : Bool :=
  (List.range ops.size).all fun j => j == i || D.contains j || listed.getD j true || (match ops[j]? with
    | none => true
    | some oj => o.apart ops oj && (pureK o.op || (readK o.op && quietK oj.op)))

def looseW (ops : Array Oper) (listed : Array Bool) (i : Nat) (o : Oper) (D : List Nat) : Bool :=
  (List.range ops.size).all fun j => j == i || D.contains j || listed.getD j true || (match ops[j]? with
    | none => true
    | some oj => o.apart ops oj)

/-- An operation's own target is none of what it looks at. -/
def selfOK (ops : Array Oper) (o : Oper) : Bool := match o.dst with
  | some d => !(o.looksAt ops).contains d
  | none => true

/-- An operation's target is none of what a watched one looks at. -/
def offW (ops : Array Oper) (o : Oper) (ws : List Nat) : Bool := ws.all fun w => match ops[w]? with
  | some r => (match o.dst with
    | some d => !(r.looksAt ops).contains d
    | none => true)
  | none => false

theorem anyW.take {i : Nat} {o : Oper} {v : Value} {D : List Nat} {R R' : List (Oper × Value)} (ho : ops[i]? = some o)
    (hR' : (R' = R ∧ (pureK o.op = true ∨ readK o.op = true)) ∨ (R' = (o, v) :: R ∧ ∀ t, o.dst = some t → t ∉ o.looksAt ops)) (hoff : ∀ p ∈ R, ∀ t, o.dst = some t → t ∉ p.1.looksAt ops) :
    ∀ (fuel : Nat) (listed : Array Bool) (a : AAct) (h : AH), i ∈ Region.ready .any ops listed →
      (∀ j ∈ D, listed.getD j true = false ∧ ∃ oj, ops[j]? = some oj ∧ ∃ e ∈ oj.after, Region.binds .any e = true ∧ (e.on = i ∨ e.on ∈ D)) →
      (∀ j oj, ops[j]? = some oj → j ≠ i → j ∉ D → listed.getD j true = false → o.apart ops oj = true ∧ (R' = (o, v) :: R ∨ pureK o.op = true ∨ (readK o.op = true ∧ quietK oj.op = true))) →
      Still P ops o v a h → anyW P ops Q fuel (listed.setIfInBounds i true) R' (a.put o.dst v) h → anyW P ops Q (fuel + 1) listed R a h := by
  have notD : ∀ (listed : Array Bool) (j : Nat), i ∈ Region.ready .any ops listed → (∀ j ∈ D, listed.getD j true = false ∧ ∃ oj, ops[j]? = some oj ∧ ∃ e ∈ oj.after, Region.binds .any e = true ∧ (e.on = i ∨ e.on ∈ D)) →
      j ∈ Region.ready .any ops listed → j ∉ D := by
    intro listed j hi hD hj hmem
    obtain ⟨_, oj, hoj, e, he, hb, hon⟩ := hD j hmem
    obtain ⟨_, oj', hoj', hall⟩ := mem_ready.1 hj
    rw [hoj] at hoj'; cases hoj'
    have h1 := hall e he hb
    have h0 : listed.getD e.on true = false := by
      rcases hon with hon | hon
      · rw [hon]; exact (mem_ready.1 hi).1
      · exact (hD _ hon).1
    rcases Nat.lt_or_ge e.on listed.size with h' | h'
    · simp [h'] at h0 h1; rw [h0] at h1; cases h1
    · simp [Array.getElem?_eq_none h'] at h1
  have keep : ∀ (a : AAct) (h : AH), Keeps P ops R a h → Keeps P ops R (a.put o.dst v) h := fun a h hK p hp => (hK p hp).put (hoff p hp)
  have unkeep : ∀ (a : AAct) (h : AH), Keeps P ops R (a.put o.dst v) h → Keeps P ops R a h := fun a h hK p hp => (hK p hp).unput (hoff p hp)
  have keep' : ∀ (a : AAct) (h : AH), Keeps P ops R a h → Still P ops o v a h → Keeps P ops R' (a.put o.dst v) h := by
    intro a h hK hs
    rcases hR' with ⟨rfl, _⟩ | ⟨rfl, hself⟩
    · exact keep a h hK
    · intro p hp
      rcases List.mem_cons.1 hp with rfl | hp
      · exact hs.put hself
      · exact keep a h hK p hp
  have sub : ∀ (a : AAct) (h : AH), Keeps P ops R' a h → Keeps P ops R a h := by
    intro a h hK
    rcases hR' with ⟨rfl, _⟩ | ⟨rfl, _⟩
    · exact hK
    · exact fun p hp => hK p (List.mem_cons_of_mem _ hp)
  intro fuel
  induction fuel with
  | zero =>
    intro listed a h hr hD hfree hs H hwf hK
    refine ⟨(fun e => by rw [e] at hr; cases hr), fun j hj oj hoj => ?_⟩
    have H' := H hwf (keep' a h hK hs)
    by_cases hji : j = i
    · subst hji; rw [ho] at hoj; cases hoj
      exact hs.opW ⟨keep a h hK, fun _ _ => H'⟩
    · have := ready_mono hj hji
      rw [H'.1] at this; cases this
  | succ fuel ih =>
    intro listed a h hr hD hfree hs H hwf hK
    refine ⟨(fun e => by rw [e] at hr; cases hr), fun j hj oj hoj => ?_⟩
    by_cases hji : j = i
    · subst hji; rw [ho] at hoj; cases hoj
      refine hs.opW ⟨keep a h hK, ?_⟩
      -- the watched ones are more: fewer are asked for
      exact anyW.less sub (fun hK => keep' a h (unkeep a h hK) hs) H
    · have hjD := notD listed j hr hD hj
      obtain ⟨hjun, _⟩ := mem_ready.1 hj
      obtain ⟨hap, hkd⟩ := hfree j oj hoj hji hjD hjun
      have h1 := (H hwf (keep' a h hK hs)).2 j (ready_mono hj hji) oj hoj
      have hkd' : pureK o.op = true ∨ (readK o.op = true ∧ quietK oj.op = true) ∨ ((∀ t, o.dst = some t → t ∉ o.looksAt ops) ∧ ∀ a' h', (Keeps P ops R' a' h' ∧ anyW P ops Q fuel ((listed.setIfInBounds i true).setIfInBounds j true) R' a' h') → Still P ops o v a' h') := by
        rcases hR' with ⟨hRR, _⟩ | ⟨hRR, hself⟩
        · rcases hkd with e | e | e
          · rw [e] at hRR; exact absurd (congrArg List.length hRR) (by simp)
          · exact .inl e
          · exact .inr (.inl e)
        · exact .inr (.inr ⟨hself, fun a' h' hk => hk.1 (o, v) (by rw [hRR]; exact List.mem_cons_self ..)⟩)
      refine (opW_put hwf hap hkd' hs h1).mono ?_
      rintro a' h' ⟨hs', hK', hk⟩
      refine ⟨unkeep a' h' (sub _ _ hK'), ?_⟩
      refine ih (listed.setIfInBounds j true) a' h' (ready_mono hr (Ne.symm hji)) ?_ ?_ hs' ?_
      · intro k hk
        obtain ⟨x, y⟩ := hD k hk
        refine ⟨?_, y⟩
        rw [getD_set_ne true (fun (e : j = k) => hjD (by rw [e]; exact hk))]; exact x
      · intro k ok hok hki hkD hun
        refine hfree k ok hok hki hkD ?_
        by_cases hjk : j = k
        · subst hjk; exact hjun
        · rw [getD_set_ne true hjk] at hun; exact hun
      · rw [Array.setIfInBounds_comm _ _ hji]; exact hk


/-! ### Plans -/

inductive Plan where
  | done
  | take (i : Nat) (D : List Nat) (k : Plan)
  | watch (i : Nat) (D : List Nat) (k : Plan)
  | only (i : Nat) (k : Plan)
  | two (i : Nat) (k : Plan) (j : Nat) (l : Plan)
  | three (i : Nat) (k : Plan) (j : Nat) (l : Plan) (x : Nat) (m : Plan)

def planOK (ops : Array Oper) : Array Bool → List Nat → Plan → Bool
  | listed, _, .done => (Region.ready .any ops listed).isEmpty
  | listed, ws, .take i D k => (Region.ready .any ops listed).contains i && waits ops listed i D && (match ops[i]? with | some o => (pureK o.op || readK o.op) && loose ops listed i o D && offW ops o ws | none => false) && planOK ops (listed.setIfInBounds i true) ws k
  | listed, ws, .watch i D k => (Region.ready .any ops listed).contains i && waits ops listed i D && (match ops[i]? with | some o => selfOK ops o && looseW ops listed i o D && offW ops o ws | none => false) && planOK ops (listed.setIfInBounds i true) (i :: ws) k
  | listed, ws, .only i k => Region.ready .any ops listed == [i] && planOK ops (listed.setIfInBounds i true) ws k
  | listed, ws, .two i k j l => Region.ready .any ops listed == [i, j] && planOK ops (listed.setIfInBounds i true) ws k && planOK ops (listed.setIfInBounds j true) ws l
  | listed, ws, .three i k j l x m => Region.ready .any ops listed == [i, j, x] && planOK ops (listed.setIfInBounds i true) ws k && planOK ops (listed.setIfInBounds j true) ws l && planOK ops (listed.setIfInBounds x true) ws m

def Plan.len : Plan → Nat
  | .done => 0
  | .take _ _ k => k.len + 1
  | .watch _ _ k => k.len + 1
  | .only _ k => k.len + 1
  | .two _ k _ l => max k.len l.len + 1
  | .three _ k _ l _ m => max (max k.len l.len) m.len + 1

/-- An operation, or the region's i-th. -/
def opI (P : Program) (ops : Array Oper) (i : Nat) (a : AAct) (h : AH) (K : AAct → AH → Prop) : Prop :=
  match ops[i]? with
  | none => False
  | some o => opW P ops o a h K

def planW (P : Program) (ops : Array Oper) (Q : Exit → AAct → AH → Prop) : Plan → List (Oper × Value) → AAct → AH → Prop
  | .done, _, a, h => Q .normal a h
  | .take i _ k, R, a, h => ∃ o v, ops[i]? = some o ∧ Still P ops o v a h ∧ planW P ops Q k R (a.put o.dst v) h
  | .watch i _ k, R, a, h => ∃ o v, ops[i]? = some o ∧ Still P ops o v a h ∧ planW P ops Q k ((o, v) :: R) (a.put o.dst v) h
  | .only i k, R, a, h => opI P ops i a h (fun a h => Keeps P ops R a h ∧ planW P ops Q k R a h)
  | .two i k j l, R, a, h => opI P ops i a h (fun a h => Keeps P ops R a h ∧ planW P ops Q k R a h) ∧ opI P ops j a h (fun a h => Keeps P ops R a h ∧ planW P ops Q l R a h)
  | .three i k j l x m, R, a, h => opI P ops i a h (fun a h => Keeps P ops R a h ∧ planW P ops Q k R a h) ∧ opI P ops j a h (fun a h => Keeps P ops R a h ∧ planW P ops Q l R a h) ∧ opI P ops x a h (fun a h => Keeps P ops R a h ∧ planW P ops Q m R a h)

theorem opI.use {i : Nat} {a : AAct} {h : AH} {K K' : AAct → AH → Prop} (hk : opI P ops i a h K) (hm : ∀ a h, K a h → K' a h) {o : Oper} (ho : ops[i]? = some o) : opW P ops o a h K' := by
  unfold opI at hk
  rw [ho] at hk
  exact opW.mono hm hk

theorem waits_spec {listed : Array Bool} {i : Nat} {D : List Nat} (h2 : waits ops listed i D = true) : ∀ j ∈ D, listed.getD j true = false ∧ ∃ oj, ops[j]? = some oj ∧ ∃ e ∈ oj.after, Region.binds .any e = true ∧ (e.on = i ∨ e.on ∈ D) := by
  intro j hj
  have := List.all_eq_true.1 h2 j hj
  simp only [Bool.and_eq_true, Bool.not_eq_true'] at this
  refine ⟨this.1, ?_⟩
  have t2 := this.2
  split at t2
  · cases t2
  · rename_i oj hoj
    obtain ⟨e, he, hb⟩ := Array.any_eq_true'.1 t2
    refine ⟨oj, hoj, e, he, ?_⟩
    simpa using hb

theorem offW_spec {o : Oper} {ws : List Nat} {R : List (Oper × Value)} (hR : ∀ p ∈ R, ∃ w ∈ ws, ops[w]? = some p.1) (ho : offW ops o ws = true) : ∀ p ∈ R, ∀ t, o.dst = some t → t ∉ p.1.looksAt ops := by
  intro p hp t ht
  obtain ⟨w, hw, hpw⟩ := hR p hp
  have := List.all_eq_true.1 ho w hw
  simp only [hpw, ht] at this
  simpa using this

theorem planW.any : ∀ (p : Plan) (fuel : Nat) (listed : Array Bool) (ws : List Nat) (R : List (Oper × Value)) (a : AAct) (h : AH), (∀ p ∈ R, ∃ w ∈ ws, ops[w]? = some p.1) → planOK ops listed ws p = true → p.len ≤ fuel → planW P ops Q p R a h → anyW P ops Q fuel listed R a h := by
  intro p
  induction p with
  | done =>
    intro fuel listed ws R a h _ hok _ hw
    have hr : Region.ready .any ops listed = [] := by simpa [planOK] using hok
    cases fuel with
    | zero => exact fun _ _ => ⟨hr, hw⟩
    | succ fuel => exact fun _ _ => ⟨fun _ => hw, by rw [hr]; intro i hi; cases hi⟩
  | take i D k ih =>
    intro fuel listed ws R a h hR hok hf hw
    obtain ⟨o, v, ho, hs, hw⟩ := hw
    simp only [planOK, Bool.and_eq_true, ho] at hok
    obtain ⟨⟨⟨h1, h2⟩, ⟨h3, h5⟩, h6⟩, h4⟩ := hok
    cases fuel with
    | zero => simp [Plan.len] at hf
    | succ fuel =>
      refine anyW.take (D := D) (R' := R) ho (.inl ⟨rfl, by simpa using h3⟩) (offW_spec hR h6) fuel listed a h (by simpa using h1) (waits_spec h2) ?_ hs (ih fuel _ ws R _ _ hR h4 (by simp only [Plan.len] at hf; omega) hw)
      intro j oj hoj hji hjD hun
      have hlt : j < ops.size := (Array.getElem?_eq_some_iff.1 hoj).1
      have := List.all_eq_true.1 h5 j (List.mem_range.2 hlt)
      simp only [hoj, hun, Bool.or_false, Bool.or_eq_true, beq_iff_eq, hji, false_or, List.contains_iff_mem, hjD, Bool.and_eq_true] at this
      exact ⟨this.1, .inr this.2⟩
  | watch i D k ih =>
    intro fuel listed ws R a h hR hok hf hw
    obtain ⟨o, v, ho, hs, hw⟩ := hw
    simp only [planOK, Bool.and_eq_true, ho] at hok
    obtain ⟨⟨⟨h1, h2⟩, ⟨h3, h5⟩, h6⟩, h4⟩ := hok
    cases fuel with
    | zero => simp [Plan.len] at hf
    | succ fuel =>
      have hself : ∀ t, o.dst = some t → t ∉ o.looksAt ops := fun t ht => by simpa [selfOK, ht] using h3
      have hR2 : ∀ p ∈ (o, v) :: R, ∃ w ∈ i :: ws, ops[w]? = some p.1 := by
        intro p hp
        rcases List.mem_cons.1 hp with rfl | hp
        · exact ⟨i, List.mem_cons_self .., ho⟩
        · obtain ⟨w, hw, e⟩ := hR p hp; exact ⟨w, List.mem_cons_of_mem _ hw, e⟩
      refine anyW.take (D := D) (R' := (o, v) :: R) ho (.inr ⟨rfl, hself⟩) (offW_spec hR h6) fuel listed a h (by simpa using h1) (waits_spec h2) ?_ hs (ih fuel _ (i :: ws) _ _ _ hR2 h4 (by simp only [Plan.len] at hf; omega) hw)
      intro j oj hoj hji hjD hun
      have hlt : j < ops.size := (Array.getElem?_eq_some_iff.1 hoj).1
      have := List.all_eq_true.1 h5 j (List.mem_range.2 hlt)
      simp only [hoj, hun, Bool.or_false, Bool.or_eq_true, beq_iff_eq, hji, false_or, List.contains_iff_mem, hjD] at this
      exact ⟨this, .inl rfl⟩
  | only i k ih =>
    intro fuel listed ws R a h hR hok hf hw
    simp only [planOK, Bool.and_eq_true, beq_iff_eq] at hok
    obtain ⟨h1, h2⟩ := hok
    cases fuel with
    | zero => simp [Plan.len] at hf
    | succ fuel =>
      simp only [Plan.len] at hf
      refine fun _ _ => ⟨(fun e => by rw [h1] at e; cases e), ?_⟩
      rw [h1]
      intro j hj o ho
      simp only [List.mem_singleton] at hj; subst hj
      exact hw.use (fun a h hk => ⟨hk.1, ih fuel _ ws R a h hR h2 (by omega) hk.2⟩) ho
  | two i k j l ih1 ih2 =>
    intro fuel listed ws R a h hR hok hf hw
    simp only [planOK, Bool.and_eq_true, beq_iff_eq] at hok
    obtain ⟨⟨h1, h2⟩, h3⟩ := hok
    cases fuel with
    | zero => simp [Plan.len] at hf
    | succ fuel =>
      simp only [Plan.len] at hf
      refine fun _ _ => ⟨(fun e => by rw [h1] at e; cases e), ?_⟩
      rw [h1]
      intro x hx o ho
      simp only [List.mem_cons, List.not_mem_nil, or_false] at hx
      rcases hx with rfl | rfl
      · exact hw.1.use (fun a h hk => ⟨hk.1, ih1 fuel _ ws R a h hR h2 (by omega) hk.2⟩) ho
      · exact hw.2.use (fun a h hk => ⟨hk.1, ih2 fuel _ ws R a h hR h3 (by omega) hk.2⟩) ho
  | three i k j l x m ih1 ih2 ih3 =>
    intro fuel listed ws R a h hR hok hf hw
    simp only [planOK, Bool.and_eq_true, beq_iff_eq] at hok
    obtain ⟨⟨⟨h1, h2⟩, h3⟩, h4⟩ := hok
    cases fuel with
    | zero => simp [Plan.len] at hf
    | succ fuel =>
      simp only [Plan.len] at hf
      refine fun _ _ => ⟨(fun e => by rw [h1] at e; cases e), ?_⟩
      rw [h1]
      intro y hy o ho
      simp only [List.mem_cons, List.not_mem_nil, or_false] at hy
      rcases hy with rfl | rfl | rfl
      · exact hw.1.use (fun a h hk => ⟨hk.1, ih1 fuel _ ws R a h hR h2 (by omega) hk.2⟩) ho
      · exact hw.2.1.use (fun a h hk => ⟨hk.1, ih2 fuel _ ws R a h hR h3 (by omega) hk.2⟩) ho
      · exact hw.2.2.use (fun a h hk => ⟨hk.1, ih3 fuel _ ws R a h hR h4 (by omega) hk.2⟩) ho

theorem AW.plan {rd : Option Nat} {id : Nat} {a : AAct} {h : AH} (p : Plan) (hm : P.follows .mixedOrders = true) (hp : planOK ops (Array.replicate ops.size false) [] p = true) (hl : p.len ≤ ops.size)
    (hx : planW P ops Q p [] a h) : AW P rd (.region id ops true) Q a h := AW.draw hm (planW.any p _ _ [] [] a h (fun _ h => by cases h) hp hl hx)

end
end Go.Ab
