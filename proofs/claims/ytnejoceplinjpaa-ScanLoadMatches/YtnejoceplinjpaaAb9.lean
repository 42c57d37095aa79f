/- Own layer 'Ab': one operation, its way on the abstract heap, and that the model goes it. -/
import Derived.Test.YtnejoceplinjpaaAb8
namespace Go.Ab

def cOK : Operand → Bool
  | .const v => plain 9 v
  | .global _ => false
  | _ => true

structure AAct where
  n : Nat
  tm : Nat → Value
  df : List Nat

def AAct.ev (a : AAct) : Operand → Value
  | .tmp t => a.tm t
  | .const v => v
  | .global _ => undef
  | .func f => .func (.func f) #[] #[]

def AAct.put (a : AAct) (d : Option Tmp) (v : Value) : AAct :=
  match d with
  | some t => { a with tm := fun i => if i = t then v else a.tm i }
  | none => a

def DR (ρ : Ren) : List Nat → List Deferred → Prop
  | [], [] => True
  | A :: as, d :: ds => (∃ r, ρ A = some r ∧ d.target = .collected r.blk) ∧ DR ρ as ds
  | _, _ => False

theorem DR.mono {ρ ρ' : Ren} (hle : ρ.le ρ') : ∀ {as : List Nat} {ds : List Deferred}, DR ρ as ds → DR ρ' as ds := by
  intro as
  induction as with
  | nil => intro ds h; cases ds <;> exact h
  | cons A as ih =>
    intro ds h
    cases ds with
    | nil => exact h
    | cons d ds => obtain ⟨⟨r, a, b⟩, h⟩ := h; exact ⟨⟨r, hle _ _ a, b⟩, ih h⟩

structure AR (ρ : Ren) (a : AAct) (c : Act) : Prop where
  size : c.tmps.size = a.n
  tmp : ∀ i, VR ρ (a.tm i) (c.tmps.getD i undef)
  df : DR ρ a.df c.defers

theorem AR.mono {ρ ρ' : Ren} (hle : ρ.le ρ') {a : AAct} {c : Act} (h : AR ρ a c) : AR ρ' a c := ⟨h.size, fun i => (h.tmp i).mono hle, h.df.mono hle⟩

theorem AR.ev {ρ : Ren} {a : AAct} {c : Act} (h : AR ρ a c) {x : Operand} (hx : cOK x = true) : VR ρ (a.ev x) (c.eval x) := by
  cases x with
  | tmp t => exact h.tmp t
  | const v => exact plain_VR ρ 9 v hx
  | global g => cases hx
  | func f => exact .func (.func f) rfl (fun i v v' a _ => by simp at a) rfl (fun i v v' a _ => by simp at a)

def dstOK (a : AAct) : Option Tmp → Prop
  | some t => t < a.n
  | none => True

theorem AR.put {ρ : Ren} {a : AAct} {c : Act} (h : AR ρ a c) {d : Option Tmp} (hd : dstOK a d) {v v' : Value} (hv : VR ρ v v') : AR ρ (a.put d v) (c.put d v') := by
  cases d with
  | none => exact h
  | some t =>
    refine ⟨by simp [Act.put, AAct.put, h.size], fun i => ?_, h.df⟩
    simp only [AAct.put, Act.put]
    have hlt : t < c.tmps.size := by rw [h.size]; exact hd
    by_cases e : i = t
    · subst e
      rw [if_pos rfl]
      simpa [Array.getD_eq_getD_getElem?, hlt] using hv
    · rw [if_neg e]
      have := h.tmp i
      rw [Array.getD_eq_getD_getElem?] at this ⊢
      rw [Array.getElem?_setIfInBounds_ne (fun x => e x.symm)]; exact this

def fence (crd : Option Nat) : Fence := { Fence.wide with round := crd }

def RD (ρ : Ren) : Option Nat → Option Nat → Prop
  | none, none => True
  | some L, some b => ∃ r, ρ L = some r ∧ r.blk = b
  | _, _ => False

theorem RD.mono {ρ ρ' : Ren} (hle : ρ.le ρ') {a b : Option Nat} (h : RD ρ a b) : RD ρ' a b := by
  cases a <;> cases b <;> first | exact h | (obtain ⟨r, x, y⟩ := h; exact ⟨r, hle _ _ x, y⟩)

/-- Code, walked on the abstract heap. 'rd': the round of a range over a function in which the code stands. -/
def AW (P : Program) (rd : Option Nat) (c : Code) (Q : Exit → AAct → AH → Prop) (a : AAct) (h : AH) : Prop :=
  ∀ (n : Nat) (ρ : Ren) (crd : Option Nat) (ca : Act) (w : World), RD ρ rd crd → AR ρ a ca → HR ρ h w →
    c.wpIn (fence crd) n P (fun e ca' w' => ∃ ρ' a' h', Q e a' h' ∧ AR ρ' a' ca' ∧ HR ρ' h' w' ∧ Frm ρ h w ρ' h' w') ca w

def Enters (P : Program) (g : FuncId) : Prop := ∃ fn, P.funcs[g]? = some fn ∧ fn.body.isSome = true ∧ (fn.name == "runtime.NumGoroutine") = false

/-- A call, on the abstract heap. -/
def ACall (P : Program) (g : FuncId) (args : List Value) (h : AH) (K : Value → AH → Prop) : Prop :=
  Enters P g ∧ ∀ (ρ : Ren) (cargs : Array Value) (w : World), LR ρ args cargs.toList → HR ρ h w →
    Calls P g cargs w fun e w' => ∃ ρ' v v' h', e = .returned v' ∧ K v h' ∧ VR ρ' v v' ∧ HR ρ' h' w' ∧ Frm ρ h w ρ' h' w'

theorem ACall.mono {P : Program} {g : FuncId} {args : List Value} {h : AH} {K K' : Value → AH → Prop} (hk : ∀ v h, K v h → K' v h) (hc : ACall P g args h K) : ACall P g args h K' :=
  ⟨hc.1, fun ρ cargs w a b => (hc.2 ρ cargs w a b).mono fun _ _ ⟨ρ', v, v', h', he, hkk, r⟩ => ⟨ρ', v, v', h', he, hk _ _ hkk, r⟩⟩

theorem AW.mono {P : Program} {rd : Option Nat} {c : Code} {Q Q' : Exit → AAct → AH → Prop} {a : AAct} {h : AH} (hq : ∀ e a h, Q e a h → Q' e a h) (hw : AW P rd c Q a h) : AW P rd c Q' a h :=
  fun n ρ crd ca w r x y => wpIn_mono (hw n ρ crd ca w r x y) fun _ _ _ ⟨ρ', a', h', q, rest⟩ => ⟨ρ', a', h', hq _ _ _ q, rest⟩

/-! ### Rounds -/

def ALoop.act (l : ALoop) (args : List Value) : AAct :=
  { n := l.n, tm := (l.params.toList.zip args).foldl (fun tm (p : Tmp × Value) => fun i => if i = p.1 then p.2 else tm i) l.tm, df := [] }

/-- The end of a round. -/
def roundQ (L : Nat) (K : Value → AH → Prop) (e : Exit) (_ : AAct) (h : AH) : Prop :=
  ∃ l, h.get L = some (.loop l) ∧
    match e with
    | .normal => K (.bool true) (h.set L (.loop { l with state := .ready, pending := none }))
    | .ret => K (.bool false) (h.set L (.loop { l with state := .done, pending := some .ret }))
    | .exit id => K (.bool false) (h.set L (.loop { l with state := .done, pending := some (.exit id) }))
    | .goto t => K (.bool false) (h.set L (.loop { l with state := .done, pending := some (.goto t) }))
    | _ => False

/-- yield, called. -/
def AYield (P : Program) (L : Nat) (args : List Value) (h : AH) (K : Value → AH → Prop) : Prop :=
  ∃ l, h.get L = some (.loop l) ∧ args.length = l.params.size ∧ (∀ p ∈ l.params.toList, p < l.n) ∧
    AW P (some L) l.assign (fun e a1 h1 => e = .normal ∧ ∃ l1, h1.get L = some (.loop l1) ∧ l1.state = .ready ∧
      AW P (some L) l.body (roundQ L K) a1 (h1.set L (.loop { l1 with state := .busy }))) (l.act args) h

theorem loopAt {ρ : Ren} {h : AH} {w : World} (hr : HR ρ h w) {L : Nat} {l : ALoop} (hg : h.get L = some (.loop l)) :
    ∃ r l' q, ρ L = some r ∧ w.heap[r.blk]? = some (.loop l') ∧ r.blk < w.heap.size ∧ l'.state = l.state ∧ l'.pending = l.pending ∧ True ∧ l'.params = l.params ∧
      l'.assign = l.assign ∧ l'.body = l.body ∧ ρ l.defers = some q ∧ l'.defers = q.blk ∧ l'.tmps.size = l.n ∧ ∀ i, VR ρ (l.tm i) (l'.tmps.getD i undef) := by
  obtain ⟨r, hq, hor⟩ := hr.obj L _ hg
  have hlt := hor.lt
  obtain ⟨l', q, hh, rest⟩ := hor
  exact ⟨r, l', q, hq, hh, hlt, rest⟩

/-- The loop's record turned, but for its temporaries. -/
theorem HR.turnLoop {ρ : Ren} {h : AH} {w : World} (hr : HR ρ h w) {L : Nat} {l : ALoop} {r : RE} {l' : Loop} (hg : h.get L = some (.loop l)) (hq : ρ L = some r) (hh : w.heap[r.blk]? = some (.loop l')) (st : LoopState) (pd : Option Code) :
    HR ρ (h.set L (.loop { l with state := st, pending := pd })) { w with heap := w.heap.setIfInBounds r.blk (.loop { l' with state := st, pending := pd }) } ∧
    Frm ρ h w ρ (h.set L (.loop { l with state := st, pending := pd })) { w with heap := w.heap.setIfInBounds r.blk (.loop { l' with state := st, pending := pd }) } := by
  obtain ⟨r2, l2, q, hq2, hh2, hlt, h1, h2, h3, h4, h5, h6, h7, h8, h9, h10⟩ := loopAt hr hg
  rw [hq] at hq2; cases hq2
  rw [hh] at hh2; cases hh2
  exact hr.turn hg rfl hq ⟨{ l' with state := st, pending := pd }, q, by simp [hlt], rfl, rfl, h3, h4, h5, h6, h7, h8, h9, h10⟩

theorem put_all {ρ : Ren} : ∀ (ps : List Tmp) (args : List Value) (cargs : List Value) (tm : Nat → Value) (ct : Array Value), args.length = ps.length → LR ρ args cargs → (∀ p ∈ ps, p < ct.size) → (∀ i, VR ρ (tm i) (ct.getD i undef)) →
    ((ps.zip cargs).foldl (fun t (p : Tmp × Value) => t.setIfInBounds p.1 p.2) ct).size = ct.size ∧
    ∀ i, VR ρ ((ps.zip args).foldl (fun tm (p : Tmp × Value) => fun i => if i = p.1 then p.2 else tm i) tm i) (((ps.zip cargs).foldl (fun t (p : Tmp × Value) => t.setIfInBounds p.1 p.2) ct).getD i undef) := by
  intro ps
  induction ps with
  | nil => intro args cargs tm ct hl hlr hp h; exact ⟨rfl, h⟩
  | cons p ps ih =>
    intro args cargs tm ct hl hlr hp h
    cases args with
    | nil => simp at hl
    | cons x xs =>
      cases cargs with
      | nil => have := hlr.1; simp at this
      | cons y ys =>
        have hx : VR ρ x y := hlr.2 0 x y rfl rfl
        simp only [List.zip_cons_cons, List.foldl_cons]
        have hpl : p < ct.size := hp p (by simp)
        obtain ⟨a, b⟩ := ih xs ys (fun i => if i = p then x else tm i) (ct.setIfInBounds p y) (by simpa using hl) ⟨by simpa using hlr.1, fun j u v s t => hlr.2 (j + 1) u v (by simpa using s) (by simpa using t)⟩
          (fun q hq => by simpa using hp q (by simp [hq])) (fun i => by
            by_cases e : i = p
            · subst e; rw [if_pos rfl]; simpa [Array.getD_eq_getD_getElem?, hpl] using hx
            · rw [if_neg e]
              have := h i
              rw [Array.getD_eq_getD_getElem?] at this ⊢
              rw [Array.getElem?_setIfInBounds_ne (fun z => e z.symm)]; exact this)
        exact ⟨a.trans (by simp), b⟩

theorem AYield.sound {P : Program} {L : Nat} {args : List Value} {h : AH} {K : Value → AH → Prop} (hy : AYield P L args h K) {n : Nat} {crd : Option Nat} {ρ : Ren} {cargs : Array Value} {w : World} {b : Nat}
    (hl : LR ρ args cargs.toList) (hr : HR ρ h w) (hb : ∃ r, ρ L = some r ∧ r.blk = b) :
    ∃ f tmps assign body, (Instr.yield b cargs).run P w = .ok (.round b f tmps assign body) w ∧
      RoundIn (fence crd) n P b f tmps assign body w fun e w' => ∃ ρ' v v' h', e = .returned v' ∧ K v h' ∧ VR ρ' v v' ∧ HR ρ' h' w' ∧ Frm ρ h w ρ' h' w' := by
  obtain ⟨l, hg, hal, hpn, haw⟩ := hy
  obtain ⟨r, l', q, hq, hh, hlt, h1, h2, h3, h4, h5, h6, h7, h8, h9, h10⟩ := loopAt hr hg
  obtain ⟨r0, hq0, rfl⟩ := hb
  rw [hq] at hq0; cases hq0
  have hsz : cargs.size = l'.params.size := by have := hl.1; rw [h4]; simp at this; omega
  refine ⟨l'.fn, _, l'.assign, l'.body, by
    simp only [Instr.yield, Instr.getLoop, Sem.run_bind, getObj_run hh (fun _ _ _ e => by cases e), Result.andThen_ok, Sem.run_pure, hsz, ne_eq, not_true_eq_false, if_false]; rfl, ?_⟩
  refine roundIn_of_wpIn trivial ?_
  have hfold : (l'.params.zip cargs).foldl (fun tmps (x : Tmp × Value) => tmps.setIfInBounds x.1 x.2) l'.tmps = (l'.params.toList.zip cargs.toList).foldl (fun t (p : Tmp × Value) => t.setIfInBounds p.1 p.2) l'.tmps := by
    rw [← Array.foldl_toList, Array.toList_zip]
  obtain ⟨hs, hv⟩ := put_all (ρ := ρ) l.params.toList args cargs.toList l.tm l'.tmps (by simpa using hal) hl (fun p hp => by rw [h9]; exact hpn p hp) h10
  have har : AR ρ (l.act args) { tmps := (l'.params.zip cargs).foldl (fun tmps (x : Tmp × Value) => tmps.setIfInBounds x.1 x.2) l'.tmps, defers := [] } := by
    refine ⟨?_, fun i => ?_, trivial⟩
    · simp only [ALoop.act]; rw [hfold, h4, hs, h9]
    · simp only [ALoop.act]; rw [hfold, h4]; exact hv i
  have hrd : RD ρ (some L) (some r.blk) := ⟨r, hq, rfl⟩
  have hfe : (fence crd).inRound r.blk = fence (some r.blk) := rfl
  rw [hfe, h5, h6]
  refine wpIn_mono (haw n ρ (some r.blk) _ w hrd har hr) ?_
  rintro e a1 w1 ⟨ρ1, aa, h', ⟨rfl, l1, hg1, hst, hbody⟩, har1, hr1, hf1⟩
  simp only [Exit.then]
  obtain ⟨rr, l1', q1, hq1, hh1, hlt1, e1, e2, e3, e4, e5, e6, e7, e8, e9, e10⟩ := loopAt hr1 hg1
  have hrr : rr = r := by have := hf1.le _ _ hq; rw [hq1] at this; cases this; rfl
  subst hrr
  obtain ⟨hr2, hf2⟩ := hr1.turnLoop hg1 hq1 hh1 .busy l1.pending
  refine ⟨{ w1 with heap := w1.heap.setIfInBounds rr.blk (.loop { l1' with state := .busy, pending := l1.pending }) }, ?_, ?_⟩
  · have hl1 : ({ l1' with state := .busy, pending := l1.pending } : Loop) = { l1' with state := .busy } := by rw [← e2]
    rw [hl1]
    have hst' : l1'.state = .ready := e1.trans hst
    simp only [Instr.beginRound, Instr.getLoop, Sem.run_bind, getObj_run hh1 (fun _ _ _ e => by cases e), Result.andThen_ok, Sem.run_pure, setObj_run hh1 (fun _ _ _ e => by cases e), hst']
  · refine wpIn_mono (hbody n ρ1 (some rr.blk) a1 _ (hrd.mono hf1.le) har1 hr2) ?_
    rintro e a2 w2 ⟨ρ2, a2', h2, ⟨l2, hg2, hk⟩, har2, hr3, hf3⟩
    obtain ⟨r3, l2', q2, hq3, hh3, _, f1, f2, f3, f4, f5, f6, f7, f8, f9, f10⟩ := loopAt hr3 hg2
    have hr3e : r3 = rr := by
      have := hf3.le _ _ hq1
      rw [hq3] at this; cases this; rfl
    subst hr3e
    have fin : ∀ (jump : Option Code) (v : Bool), v = jump.isNone → K (.bool v) (h2.set L (.loop { l2 with state := if jump.isNone then .ready else .done, pending := jump })) →
        ∃ v' w', (Instr.endRound r3.blk jump).run P w2 = .ok v' w' ∧ ∃ ρ' v v'' h', Ending.returned v' = .returned v'' ∧ K v h' ∧ VR ρ' v v'' ∧ HR ρ' h' w' ∧ Frm ρ h w ρ' h' w' := by
      intro jump v hv hk
      obtain ⟨hr4, hf4⟩ := hr3.turnLoop hg2 hq3 hh3 (if jump.isNone then .ready else .done) jump
      refine ⟨.bool v, _, ?_, ρ2, .bool v, .bool v, _, rfl, hk, .bool _, hr4, ((hf1.trans hf2).trans hf3).trans hf4⟩
      simp only [Instr.endRound, Instr.getLoop, Sem.run_bind, getObj_run hh3 (fun _ _ _ e => by cases e), Result.andThen_ok, Sem.run_pure, setObj_run hh3 (fun _ _ _ e => by cases e), hv]
    cases e with
    | normal => exact fin none true rfl hk
    | ret => exact fin (some .ret) false rfl hk
    | exit id => exact fin (some (.exit id)) false rfl hk
    | goto t => exact fin (some (.goto t)) false rfl hk
    | panic c => exact hk.elim
    | outgrown => exact hk.elim

end Go.Ab
