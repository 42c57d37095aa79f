/- Own layer 'Ab': code, walked with values that are not known. Own layer 'Ab': slices of one-cell elements, read. Own layer 'Ab': a closed run, by a function that the kernel evaluates. Own layer 'Ab': the evaluated run is a run. Own layer 'Ab': the evaluated run is a run: the theorem. Own layer 'Ab': calls: what a contract may be weakened to, closed runs, the sort of a slice of integers. Own layer 'Ab': slices of one-cell elements, made, appended to, written. -/
import Derived.Test.YtnejoceplinjpaaB0
set_option linter.unusedSimpArgs false
set_option linter.unusedVariables false
namespace Go.Ab

section
variable {P : Program}

def opsL (P : Program) (ops : Array Oper) (N : AAct → AH → Prop) : List Oper → AAct → AH → Prop
  | [], a, h => N a h
  | o :: l, a, h => opW P ops o a h (opsL P ops N l)

theorem opsL_sound {ops : Array Oper} {Q : Exit → AAct → AH → Prop} : ∀ (l : List Nat) (os : List Oper) (a : AAct) (h : AH), l.map (ops[·]?) = os.map some → opsL P ops (Q .normal) os a h → opsW P ops Q l a h := by
  intro l
  induction l with
  | nil =>
    intro os a h hl he
    cases os with
    | nil => exact he
    | cons => cases hl
  | cons i l ih =>
    intro os a h hl he
    cases os with
    | nil => cases hl
    | cons o os =>
      simp only [List.map_cons, List.cons.injEq] at hl
      simp only [opsW, hl.1]
      exact opW.mono (fun a h hk => ih os a h hl.2 hk) he

theorem AW.regionL {rd : Option Nat} {id : Nat} {ops : Array Oper} {Q : Exit → AAct → AH → Prop} {a : AAct} {h : AH} (hx : opsL P ops (Q .normal) ops.toList a h) : AW P rd (.region id ops false) Q a h := by
  refine AW.region (opsL_sound _ ops.toList a h ?_ hx)
  apply List.ext_getElem?
  intro i
  simp only [List.getElem?_map]
  by_cases hi : i < ops.size
  · rw [List.getElem?_range hi]
    simp [Array.getElem?_eq_getElem hi]
  · rw [List.getElem?_eq_none (by simpa using hi), List.getElem?_eq_none (by simpa using hi)]; rfl

def okB (o : Oper) (a : AAct) : Bool := o.op.operands.toList.all cOK && (match o.dst with
  | some t => decide (t < a.n)
  | none => true)

theorem okB_spec {o : Oper} {a : AAct} (h : okB o a = true) : o.op.operands.toList.all cOK = true ∧ dstOK a o.dst := by
  simp only [okB, Bool.and_eq_true] at h
  refine ⟨h.1, ?_⟩
  cases hd : o.dst with
  | none => trivial
  | some t => rw [hd] at h; exact (of_decide_eq_true h.2 : t < a.n)

def contK (F : AAct → AH → Prop) (d : Option Tmp) (a : AAct) (v : Value) (h : AH) : Prop := F (a.put d v) h

/-- Operations, one behind the other. -/
def opsM (P : Program) (ops : Array Oper) (N : AAct → AH → Prop) : List Oper → AAct → AH → Prop
  | [], a, h => N a h
  | o :: l, a, h => match okB o a with
    | false => False
    | true => match Region.wanted o (yieldedA ops a) with
      | false => opsM P ops N l (a.put o.dst undef) h
      | true => match o.op with
        | .call { callee := .value f, args, .. } => callR P (a.ev f) (args.toList.map a.ev) h (contK (opsM P ops N l) o.dst a)
        | .next it false => NextW (a.ev it) h (contK (opsM P ops N l) o.dst a)
        | op => match dop P a.ev op h with
          | some (v, h') => opsM P ops N l (a.put o.dst v) h'
          | none => False

theorem opsM_sound {ops : Array Oper} {N : AAct → AH → Prop} : ∀ (l : List Oper) (a : AAct) (h : AH), opsM P ops N l a h → opsL P ops N l a h := by
  intro l
  induction l with
  | nil => intro a h hk; exact hk
  | cons o l ih =>
    intro a h hk
    simp only [opsM] at hk
    split at hk
    · exact hk.elim
    · rename_i hok
      obtain ⟨h1, h2⟩ := okB_spec hok
      refine ⟨h1, h2, ?_⟩
      split at hk
      · rename_i hw; rw [hw]; exact ih _ _ hk
      · rename_i hw
        rw [hw]
        split at hk
        · rename_i f args _ hop
          rw [if_pos rfl, hop]
          exact callR.mono (fun v h hk => ih _ _ hk) hk
        · rename_i it hop
          rw [if_pos rfl, hop]
          exact opR.mono (op := .next it false) (K := contK (opsM P ops N l) o.dst a) (fun v h hk => ih _ _ hk) hk
        · split at hk
          · rename_i v h' hd
            rw [if_pos rfl]
            exact opR_of_dop hd (ih _ _ hk)
          · exact hk.elim

/-- The operations of a drawn region, as a plan lays them: 0 taken, 1 taken and watched, 2 alone. -/
def seqM (P : Program) (ops : Array Oper) (N : AAct → AH → Prop) : List (Nat × Oper) → List (Oper × Value) → AAct → AH → Prop
  | [], _, a, h => N a h
  | (k, o) :: l, R, a, h => match okB o a with
    | false => False
    | true => match k with
      | 0 => (match Region.wanted o (yieldedA ops a) with
        | false => seqM P ops N l R (a.put o.dst undef) h
        | true => match dop P a.ev o.op h with
          | some (v, h') => h' = h ∧ seqM P ops N l R (a.put o.dst v) h
          | none => False)
      | 1 => (match Region.wanted o (yieldedA ops a) with
        | false => seqM P ops N l ((o, undef) :: R) (a.put o.dst undef) h
        | true => match dop P a.ev o.op h with
          | some (v, h') => h' = h ∧ seqM P ops N l ((o, v) :: R) (a.put o.dst v) h
          | none => False)
      | _ => match Region.wanted o (yieldedA ops a) with
        | false => Keeps P ops R (a.put o.dst undef) h ∧ seqM P ops N l R (a.put o.dst undef) h
        | true => match o.op with
          | .call { callee := .value f, args, .. } => callR P (a.ev f) (args.toList.map a.ev) h (contK (fun a h => Keeps P ops R a h ∧ seqM P ops N l R a h) o.dst a)
          | .next it false => NextW (a.ev it) h (contK (fun a h => Keeps P ops R a h ∧ seqM P ops N l R a h) o.dst a)
          | op => match dop P a.ev op h with
            | some (v, h') => Keeps P ops R (a.put o.dst v) h' ∧ seqM P ops N l R (a.put o.dst v) h'
            | none => False

def planK (ops : Array Oper) : Plan → Option (List (Nat × Oper))
  | .done => some []
  | .take i _ k => match ops[i]?, planK ops k with
    | some o, some l => some ((0, o) :: l)
    | _, _ => none
  | .watch i _ k => match ops[i]?, planK ops k with
    | some o, some l => some ((1, o) :: l)
    | _, _ => none
  | .only i k => match ops[i]?, planK ops k with
    | some o, some l => some ((2, o) :: l)
    | _, _ => none
  | _ => none

theorem seqM_sound {ops : Array Oper} {Q : Exit → AAct → AH → Prop} : ∀ (p : Plan) (l : List (Nat × Oper)) (R : List (Oper × Value)) (a : AAct) (h : AH), planK ops p = some l → seqM P ops (Q .normal) l R a h → planW P ops Q p R a h := by
  intro p
  induction p with
  | done => intro l R a h hp hk; cases hp; exact hk
  | take i D k ih =>
    intro l R a h hp hk
    simp only [planK] at hp
    split at hp
    · rename_i o l' ho hl
      cases hp
      simp only [seqM] at hk
      split at hk
      · exact hk.elim
      · rename_i hok
        obtain ⟨h1, h2⟩ := okB_spec hok
        split at hk
        · rename_i hw
          exact ⟨o, undef, ho, ⟨h1, h2, by rw [hw]; simp⟩, ih _ _ _ _ hl hk⟩
        · rename_i hw
          split at hk
          · rename_i v h' hd
            obtain ⟨rfl, hk⟩ := hk
            exact ⟨o, v, ho, ⟨h1, h2, by rw [hw]; exact hd⟩, ih _ _ _ _ hl hk⟩
          · exact hk.elim
    · cases hp
  | watch i D k ih =>
    intro l R a h hp hk
    simp only [planK] at hp
    split at hp
    · rename_i o l' ho hl
      cases hp
      simp only [seqM] at hk
      split at hk
      · exact hk.elim
      · rename_i hok
        obtain ⟨h1, h2⟩ := okB_spec hok
        split at hk
        · rename_i hw
          exact ⟨o, undef, ho, ⟨h1, h2, by rw [hw]; simp⟩, ih _ _ _ _ hl hk⟩
        · rename_i hw
          split at hk
          · rename_i v h' hd
            obtain ⟨rfl, hk⟩ := hk
            exact ⟨o, v, ho, ⟨h1, h2, by rw [hw]; exact hd⟩, ih _ _ _ _ hl hk⟩
          · exact hk.elim
    · cases hp
  | only i k ih =>
    intro l R a h hp hk
    simp only [planK] at hp
    split at hp
    · rename_i o l' ho hl
      cases hp
      simp only [seqM] at hk
      split at hk
      · exact hk.elim
      · rename_i hok
        obtain ⟨h1, h2⟩ := okB_spec hok
        show opI P ops i a h _
        unfold opI
        rw [ho]
        refine ⟨h1, h2, ?_⟩
        split at hk
        · rename_i hw; rw [hw]; exact ⟨hk.1, ih _ _ _ _ hl hk.2⟩
        · rename_i hw
          rw [hw, if_pos rfl]
          split at hk
          · rename_i f args _ hop
            rw [hop]
            exact callR.mono (fun v h (hk : _ ∧ _) => ⟨hk.1, ih _ _ _ _ hl hk.2⟩) hk
          · rename_i it hop
            rw [hop]
            exact opR.mono (op := .next it false) (K := contK (fun a h => Keeps P ops R a h ∧ seqM P ops (Q .normal) l' R a h) o.dst a) (fun v h hk => ⟨hk.1, ih _ _ _ _ hl hk.2⟩) hk
          · split at hk
            · rename_i v h' hd
              exact opR_of_dop hd ⟨hk.1, ih _ _ _ _ hl hk.2⟩
            · exact hk.elim
    · cases hp
  | two => intro l R a h hp; cases hp
  | three => intro l R a h hp; cases hp

/-- A drawn region, whose plan takes the operations in the order of the text. -/
theorem AW.drawT {rd : Option Nat} {id : Nat} {ops : Array Oper} {Q : Exit → AAct → AH → Prop} {a : AAct} {h : AH} (p : Plan) (fl : List Nat) (hm : P.follows .mixedOrders = true)
    (hp : (planOK ops (Array.replicate ops.size false) [] p && decide (p.len ≤ ops.size)) = true) (hk : planK ops p = some (fl.zip ops.toList))
    (hx : seqM P ops (Q .normal) (fl.zip ops.toList) [] a h) : AW P rd (.region id ops true) Q a h := by
  rw [Bool.and_eq_true] at hp
  exact AW.plan p hm hp.1 (of_decide_eq_true hp.2) (seqM_sound p _ [] a h hk hx)

/-- A condition, at a value. -/
def condV (v : Value) (F G : AAct → AH → Prop) (a : AAct) (h : AH) : Prop :=
  match v with
  | .bool true => F a h
  | .bool false => G a h
  | _ => False

theorem condV_true {F G : AAct → AH → Prop} {a : AAct} {h : AH} : condV (.bool true) F G a h = F a h := rfl
theorem condV_false {F G : AAct → AH → Prop} {a : AAct} {h : AH} : condV (.bool false) F G a h = G a h := rfl

theorem condV_of {b : Bool} {F G : AAct → AH → Prop} {a : AAct} {h : AH} (ht : b = true → F a h) (hf : b = false → G a h) : condV (.bool b) F G a h := by
  cases b
  · exact hf rfl
  · exact ht rfl

/-- AW, straight on: loops, drawn regions, and ranges over functions, stand as they are. -/
def wpA (P : Program) (rd : Option Nat) : Code → (Exit → AAct → AH → Prop) → AAct → AH → Prop
  | .skip, Q, a, h => Q .normal a h
  | .ret, Q, a, h => Q .ret a h
  | .exit id, Q, a, h => Q (.exit id) a h
  | .goto l, Q, a, h => Q (.goto l) a h
  | .label _, Q, a, h => Q .normal a h
  | .seq x y, Q, a, h => wpA P rd x (thenQ (wpA P rd y Q) Q) a h
  | .block id c, Q, a, h => wpA P rd c (blockQ id Q) a h
  | .cond c x y, Q, a, h => cOK c = true ∧ condV (a.ev c) (wpA P rd x Q) (wpA P rd y Q) a h
  | .region _ ops false, Q, a, h => opsM P ops (Q .normal) ops.toList a h
  | c, Q, a, h => AW P rd c Q a h

theorem wpA_sound {rd : Option Nat} : ∀ (c : Code) (Q : Exit → AAct → AH → Prop) (a : AAct) (h : AH), wpA P rd c Q a h → AW P rd c Q a h := by
  intro c
  induction c with
  | skip => intro Q a h hq; exact AW.skip hq
  | ret => intro Q a h hq; exact AW.ret hq
  | exit id => intro Q a h hq; exact AW.exit hq
  | goto l => intro Q a h hq; exact AW.goto hq
  | label l => intro Q a h hq; exact AW.label hq
  | seq x y ihx ihy =>
    intro Q a h hq
    refine AW.seq ((ihx _ _ _ hq).mono ?_)
    intro e a h hk
    cases e <;> first | exact ihy _ _ _ hk | exact hk
  | block id c ih => intro Q a h hq; exact AW.block (ih _ _ _ hq)
  | cond c x y ihx ihy =>
    intro Q a h hq
    obtain ⟨hc, hk⟩ := hq
    generalize hv : a.ev c = v at hk
    unfold condV at hk
    split at hk
    · exact AW.cond (t := true) hc hv (ihx _ _ _ hk)
    · exact AW.cond (t := false) hc hv (ihy _ _ _ hk)
    · exact hk.elim
  | region id ops draw =>
    intro Q a h hq
    cases draw with
    | false => exact AW.regionL (opsM_sound _ _ _ hq)
    | true => exact hq
  | _ => intro Q a h hq; exact hq

theorem contK_app (F : AAct → AH → Prop) (d : Option Tmp) (a : AAct) (v : Value) (h : AH) : contK F d a v h = F (a.put d v) h := rfl
theorem Keeps_nil (ops : Array Oper) (a : AAct) (h : AH) : Keeps P ops [] a h = True := by
  apply propext; simp [Keeps]
theorem thenQ_normal (N : AAct → AH → Prop) (Q : Exit → AAct → AH → Prop) (a : AAct) (h : AH) : thenQ N Q .normal a h = N a h := rfl
theorem thenQ_ret (N : AAct → AH → Prop) (Q : Exit → AAct → AH → Prop) (a : AAct) (h : AH) : thenQ N Q .ret a h = Q .ret a h := rfl
theorem thenQ_exit (N : AAct → AH → Prop) (Q : Exit → AAct → AH → Prop) (i : Nat) (a : AAct) (h : AH) : thenQ N Q (.exit i) a h = Q (.exit i) a h := rfl
theorem blockQ_normal (i : Nat) (Q : Exit → AAct → AH → Prop) (a : AAct) (h : AH) : blockQ i Q .normal a h = Q .normal a h := rfl
theorem blockQ_ret (i : Nat) (Q : Exit → AAct → AH → Prop) (a : AAct) (h : AH) : blockQ i Q .ret a h = Q .ret a h := rfl
theorem blockQ_exit (i j : Nat) (Q : Exit → AAct → AH → Prop) (a : AAct) (h : AH) : blockQ i Q (.exit j) a h = if j = i then Q .normal a h else Q (.exit j) a h := rfl
theorem ev_func (a : AAct) (f : FuncId) : a.ev (.func f) = .func (.func f) #[] #[] := rfl
theorem wanted_none (dst : Option Tmp) (op : Op) (ty : TypeId) (pos : String) (after : Array Edge) (y : Nat → Option Bool) : Region.wanted { dst := dst, op := op, type := ty, pos := pos, after := after, guard := none } y = true := rfl
theorem wanted_some (dst : Option Tmp) (op : Op) (ty : TypeId) (pos : String) (after : Array Edge) (j : Nat) (b : Bool) (y : Nat → Option Bool) : Region.wanted { dst := dst, op := op, type := ty, pos := pos, after := after, guard := some (j, b) } y = (y j == some b) := rfl
theorem callR_func (P : Program) (g : FuncId) (xs ys : Array Value) (args : List Value) (h : AH) (K : Value → AH → Prop) : callR P (.func (.func g) xs ys) args h K = ACall P g (xs.toList ++ args ++ ys.toList) h K := rfl
theorem put_tm (a : AAct) (t : Tmp) (v : Value) (i : Nat) : (a.put (some t) v).tm i = if i = t then v else a.tm i := rfl
theorem put_none (a : AAct) (v : Value) : a.put none v = a := rfl
theorem put_df (a : AAct) (d : Option Tmp) (v : Value) : (a.put d v).df = a.df := by cases d <;> rfl
theorem ev_tmp (a : AAct) (t : Nat) : a.ev (.tmp t) = a.tm t := rfl
theorem ev_const (a : AAct) (v : Value) : a.ev (.const v) = v := rfl
theorem dst_some (a : AAct) (t : Nat) : dstOK a (some t) = (t < a.n) := rfl
def bodyR (P : Program) (rs : List ResultVar) (K : Value → AH → Prop) (e : Exit) (a : AAct) (h : AH) : Prop :=
  (e = .normal ∨ e = .ret) ∧ ∃ h' vs, closeMarks a.df h = some h' ∧ resL P a.tm h' rs = some vs ∧ K (resV vs) h'

theorem bodyR_ret {rs : List ResultVar} {K : Value → AH → Prop} {a : AAct} {h : AH} (hd : a.df = []) : bodyR P rs K .ret a h = ∃ vs, resL P a.tm h rs = some vs ∧ K (resV vs) h := by
  apply propext
  unfold bodyR
  rw [hd]
  constructor
  · rintro ⟨_, h', vs, e, x, y⟩; cases e; exact ⟨vs, x, y⟩
  · rintro ⟨vs, x, y⟩; exact ⟨.inr rfl, h, vs, rfl, x, y⟩

theorem bodyR_normal {rs : List ResultVar} {K : Value → AH → Prop} {a : AAct} {h : AH} (hd : a.df = []) : bodyR P rs K .normal a h = ∃ vs, resL P a.tm h rs = some vs ∧ K (resV vs) h := by
  apply propext
  unfold bodyR
  rw [hd]
  constructor
  · rintro ⟨_, h', vs, e, x, y⟩; cases e; exact ⟨vs, x, y⟩
  · rintro ⟨vs, x, y⟩; exact ⟨.inl rfl, h, vs, rfl, x, y⟩

theorem ex_some1 {α : Type} {x : α} {K : α → Prop} : (∃ v, some x = some v ∧ K v) = K x := by
  apply propext
  constructor
  · rintro ⟨v, e, k⟩; cases e; exact k
  · exact fun k => ⟨x, rfl, k⟩

theorem ACall.of_wp {g : FuncId} {fn : Func} {c : Code} {args : List Value} {h : AH} {K : Value → AH → Prop} (N : Nat) (rs : List ResultVar) (hf : P.funcs[g]? = some fn) (hb : fn.body = some c) (hn : (fn.name == "runtime.NumGoroutine") = false)
    (hN : args.length + (fn.ntmps - args.length) = N) (hrs : fn.results.toList = rs)
    (hw : ∀ a : AAct, a.n = N → a.df = [] → (∀ i, a.tm i = args.getD i undef) → wpA P none c (bodyR P rs K) a h) : ACall P g args h K := by
  refine ACall.of_body hf hb hn (wpA_sound _ _ _ _ ?_)
  have := hw (enterA fn args) hN rfl (fun _ => rfl)
  subst hrs
  exact this

theorem aEq_bool {t : TypeId} (ht : P.underlying t = some .bool) (x y : Bool) (n : Nat) : aEq P (n + 1) t (.bool x) (.bool y) = some (x == y) := by
  unfold aEq; rw [ht]

theorem eqBin_bool_neq {t : TypeId} (ht : P.underlying t = some .bool) (x y : Bool) : eqBin P .neq t (.bool x) (.bool y) = some (.bool (!(x == y))) := by
  unfold eqBin; rw [aEq_bool ht]; simp [guardOn]
section eqs
variable {rd : Option Nat} {Q : Exit → AAct → AH → Prop} {a : AAct} {h : AH}
theorem wpA_skip : wpA P rd .skip Q a h = Q .normal a h := rfl
theorem wpA_ret : wpA P rd .ret Q a h = Q .ret a h := rfl
theorem wpA_exit {i : Nat} : wpA P rd (.exit i) Q a h = Q (.exit i) a h := rfl
theorem wpA_seq {x y : Code} : wpA P rd (.seq x y) Q a h = wpA P rd x (thenQ (wpA P rd y Q) Q) a h := rfl
theorem wpA_block {i : Nat} {c : Code} : wpA P rd (.block i c) Q a h = wpA P rd c (blockQ i Q) a h := rfl
theorem wpA_cond {c : Operand} {x y : Code} : wpA P rd (.cond c x y) Q a h = (cOK c = true ∧ condV (a.ev c) (wpA P rd x Q) (wpA P rd y Q) a h) := rfl
theorem wpA_region {i : Nat} {ops : Array Oper} : wpA P rd (.region i ops false) Q a h = opsM P ops (Q .normal) ops.toList a h := rfl
theorem wpA_draw {i : Nat} {ops : Array Oper} : wpA P rd (.region i ops true) Q a h = AW P rd (.region i ops true) Q a h := rfl
theorem wpA_loop {c : Code} : wpA P rd (.loop c) Q a h = AW P rd (.loop c) Q a h := rfl
theorem opsM_nil {ops : Array Oper} {N : AAct → AH → Prop} : opsM P ops N [] a h = N a h := rfl
theorem opsM_cons {ops : Array Oper} {N : AAct → AH → Prop} {o : Oper} {l : List Oper} : opsM P ops N (o :: l) a h = (match okB o a with
    | false => False
    | true => match Region.wanted o (yieldedA ops a) with
      | false => opsM P ops N l (a.put o.dst undef) h
      | true => match o.op with
        | .call { callee := .value f, args, .. } => callR P (a.ev f) (args.toList.map a.ev) h (contK (opsM P ops N l) o.dst a)
        | .next it false => NextW (a.ev it) h (contK (opsM P ops N l) o.dst a)
        | op => match dop P a.ev op h with
          | some (v, h') => opsM P ops N l (a.put o.dst v) h'
          | none => False) := rfl
end eqs

end
end Go.Ab

namespace Go.Ab

def SlOf (h : AH) (v : Value) (vs : List Value) : Prop :=
  ∃ p l c, v = .slice p l c ∧ l = vs.length ∧ (∀ q, p = some q → q.spot = none) ∧ (vs = [] ∨ ∃ A off o cs, p = some ⟨A, off, none⟩ ∧ h.get A = some o ∧ o.cells? = some cs ∧ ∀ (i : Nat) (x : Value), vs[i]? = some x → cs[off + i]? = some x)

theorem SlOf.len {P : Program} {h : AH} {v : Value} {vs : List Value} (hs : SlOf h v vs) {t e : TypeId} (ht : P.underlying t = some (.slice e)) : aLen P t v h = some (.int .i64 vs.length) := by
  obtain ⟨p, l, c, rfl, rfl, _, _⟩ := hs
  simp only [aLen, ht]

/-- Types: a slice of elements of one cell each. -/
structure Sl1 (P : Program) (t e : TypeId) : Prop where
  sl : P.underlying t = some (.slice e)
  one : ∃ i, P.info? e = some i ∧ i.size = 1
  flat : ∃ d, P.underlying e = some d ∧ aggT d = false

theorem SlOf.at {P : Program} {h : AH} {v : Value} {vs : List Value} (hs : SlOf h v vs) {t e : TypeId} (ht : Sl1 P t e) {i : Nat} {x : Value} {k : IntKind} (hx : vs[i]? = some x) :
    ∃ q, aIndexAddr P t v (.int k i) = some q ∧ aLoad P e q h = some x := by
  obtain ⟨p, l, c, rfl, rfl, hsp, hcs⟩ := hs
  have hlt : i < vs.length := (List.getElem?_eq_some_iff.1 hx).1
  rcases hcs with rfl | ⟨A, off, o, cs, rfl, hg, hc, hall⟩
  · simp at hx
  · obtain ⟨ie, hi, h1⟩ := ht.one
    obtain ⟨d, hd, hagg⟩ := ht.flat
    refine ⟨.pointer (some ⟨A, off + i, none⟩), ?_, ?_⟩
    · simp only [aIndexAddr, ht.sl, hi]
      rw [if_pos ⟨by omega, by omega⟩, h1]; simp
    · simp only [aLoad, hg, Option.bind_some, hc, hd, hagg, Bool.false_eq_true, if_false]
      exact hall i x hx

theorem SlOf.sub {h h' : AH} {v : Value} {vs : List Value} (hs : SlOf h v vs) (hh : Sub h h') : SlOf h' v vs := by
  obtain ⟨p, l, c, rfl, rfl, hsp, hcs⟩ := hs
  refine ⟨p, _, c, rfl, rfl, hsp, ?_⟩
  rcases hcs with e | ⟨A, off, o, cs, rfl, hg, hc, hall⟩
  · exact .inl e
  · exact .inr ⟨A, off, o, cs, rfl, hh _ _ hg, hc, hall⟩

end Go.Ab

namespace Go.Ab

inductive T (α : Type) where
  | leaf
  | node (l : T α) (v : Option α) (r : T α)

namespace T
variable {α : Type}
def full : Nat → T α
  | 0 => .leaf
  | d + 1 => .node (full d) none (full d)

def get : T α → Nat → Option α
  | .leaf, _ => none
  | .node _l v _r, 0 => v
  | .node l _v r, k + 1 => if k % 2 = 0 then l.get (k / 2) else r.get (k / 2)

def put (o : Option α) : T α → Nat → Option (T α)
  | .leaf, _ => none
  | .node l _ r, 0 => some (.node l o r)
  | .node l v r, k + 1 => if k % 2 = 0 then (l.put o (k / 2)).map (fun l' => .node l' v r) else (r.put o (k / 2)).map (fun r' => .node l v r')

theorem get_put {o : Option α} : ∀ {t t' : T α} {k : Nat}, t.put o k = some t' → ∀ j, t'.get j = if j = k then o else t.get j := by
  intro t
  induction t with
  | leaf => intro t' k h; cases h
  | node l v r il ir =>
    intro t' k h j
    cases k with
    | zero =>
      cases h
      cases j with
      | zero => rfl
      | succ j => simp [get]
    | succ k =>
      simp only [put] at h
      split at h
      · rename_i hk
        simp only [Option.map_eq_some_iff] at h
        obtain ⟨l', hl, rfl⟩ := h
        cases j with
        | zero => simp [get]
        | succ j =>
          simp only [get, il hl, Nat.add_right_cancel_iff]
          by_cases hj : j % 2 = 0
          · simp only [hj, if_true]
            by_cases e : j = k
            · subst e; simp
            · rw [if_neg e, if_neg (by omega)]
          · simp only [hj, if_false]
            rw [if_neg (by intro e; subst e; exact hj hk)]
      · rename_i hk
        simp only [Option.map_eq_some_iff] at h
        obtain ⟨r', hr, rfl⟩ := h
        cases j with
        | zero => simp [get]
        | succ j =>
          simp only [get, ir hr, Nat.add_right_cancel_iff]
          by_cases hj : j % 2 = 0
          · simp only [hj, if_true]
            rw [if_neg (by intro e; subst e; exact hk hj)]
          · simp only [hj, if_false]
            by_cases e : j = k
            · subst e; simp
            · rw [if_neg e, if_neg (by omega)]
end T

/-- An activation and a heap, laid for evaluation. -/
structure EA where
  n : Nat
  base : Nat → Value
  tm : T Value
  df : List Nat

structure EH where
  next : Nat
  hp : T AObj

def EA.at (a : EA) (i : Nat) : Value := match a.tm.get i with
  | some v => v
  | none => a.base i

def EA.den (a : EA) : AAct := { n := a.n, tm := a.at, df := a.df }
def EH.den (h : EH) : AH := { next := h.next, get := h.hp.get }

def EA.put? (a : EA) (d : Option Tmp) (v : Value) : Option EA :=
  match d with
  | none => some a
  | some t => if t < a.n then (match a.tm.put (some v) t with | some tm => some { a with tm := tm } | none => none) else none

def EA.puts? (a : EA) : List (Tmp × Value) → Option EA
  | [] => some a
  | (t, v) :: r => match a.put? (some t) v with
    | some a' => a'.puts? r
    | none => none

def roots : Value → List Nat
  | .pointer (some a) => [a.block]
  | .slice (some a) _ _ => [a.block]
  | .map (some M) => [M]
  | _ => []

/-- A number, brought to its numeral ahead of what follows. -/
def forceN {β : Type} (n : Nat) (k : Nat → β) : β :=
  match n with
  | .zero => k 0
  | .succ m => k (.succ m)

theorem forceN_eq {β : Type} (n : Nat) (k : Nat → β) : forceN n k = k n := by cases n <;> rfl

def force {β : Type} (v : Value) (k : Value → β) : β :=
  match v with
  | .bool true => k (.bool true)
  | .bool false => k (.bool false)
  | .int kd (.ofNat n) => forceN n fun n => k (.int kd (.ofNat n))
  | .int kd (.negSucc n) => forceN n fun n => k (.int kd (.negSucc n))
  | .pointer (some ⟨b, o, none⟩) => forceN b fun b => forceN o fun o => k (.pointer (some ⟨b, o, none⟩))
  | .slice (some ⟨b, o, none⟩) l c => forceN b fun b => forceN o fun o => forceN l fun l => forceN c fun c => k (.slice (some ⟨b, o, none⟩) l c)
  | v => k v

theorem force_eq {β : Type} (v : Value) (k : Value → β) : force v k = k v := by
  unfold force
  split <;> simp only [forceN_eq]

def forceL {β : Type} : List Value → (List Value → β) → β
  | [], k => k []
  | x :: xs, k => force x fun x => forceL xs fun xs => k (x :: xs)

theorem forceL_eq {β : Type} : ∀ (l : List Value) (k : List Value → β), forceL l k = k l := by
  intro l
  induction l with
  | nil => intro k; rfl
  | cons x xs ih => intro k; simp only [forceL, force_eq, ih]

def forceO {β : Type} (o : Option AObj) (k : Option AObj → β) : β :=
  match o with
  | none => k none
  | some (.row c e true) => forceL c fun c => k (some (.row c e true))
  | some (.grow c e) => forceL c fun c => k (some (.grow c e))
  | o => k o

theorem forceO_eq {β : Type} (o : Option AObj) (k : Option AObj → β) : forceO o k = k o := by
  unfold forceO
  split <;> simp only [forceL_eq]

/-- The heap behind an operation, laid again. -/
def EH.relay (h : EH) (h' : AH) : List Nat → Option EH
  | [] => forceN h'.next fun n => some { h with next := n }
  | A :: as => forceO (h'.get A) fun o => match h.hp.put o A with
    | some t => EH.relay { h with hp := t } h' as
    | none => none

def touched (ev : Operand → Value) (op : Op) : List Nat :=
  match op with
  | .store _ x _ => roots (ev x)
  | .mapUpdate _ m _ _ | .insert _ m _ _ | .mapEntry _ m _ | .entryStore _ m _ _ => roots (ev m)
  | .call c => match c.args.toList with
    | x :: _ => roots (ev x)
    | [] => []
  | _ => []

structure Env where
  P : Program
  plans : List (Nat × Nat × Plan)
  pures : List (FuncId × Value)

/-- An object, to be read alone. -/
def AObj.view : AObj → Option AObj
  | .row c e _ => some (.row c e false)
  | .grow c e => some (.row c e false)
  | _ => none

def T.mapO {α β : Type} (f : α → Option β) : T α → T β
  | .leaf => .leaf
  | .node l v r => .node (l.mapO f) (v.bind f) (r.mapO f)

theorem T.get_mapO {α β : Type} (f : α → Option β) : ∀ (t : T α) (k : Nat), (t.mapO f).get k = (t.get k).bind f := by
  intro t
  induction t with
  | leaf => intro k; rfl
  | node l v r il ir =>
    intro k
    cases k with
    | zero => rfl
    | succ k => simp only [T.mapO, T.get]; split <;> first | exact il _ | exact ir _

def EH.view (h : EH) : EH := { next := h.next, hp := h.hp.mapO AObj.view }

def findV (g : FuncId) : List (FuncId × Value) → Option Value
  | [] => none
  | (f, v) :: r => if f = g then some v else findV g r

def findPlan (id : Nat) (ops : Array Oper) : List (Nat × Nat × Plan) → Option Plan
  | [] => none
  | (i, s, p) :: r => if i = id ∧ s = ops.size then (if planOK ops (Array.replicate ops.size false) [] p && decide (p.len ≤ ops.size) then some p else findPlan id ops r) else findPlan id ops r

def putL (tm : T Value) (i : Nat) : List Value → Option (T Value)
  | [] => some tm
  | v :: vs => match tm.put (some v) i with
    | some t => putL t (i + 1) vs
    | none => none

def enterE (fn : Func) (args : List Value) : Option EA :=
  match putL (T.full 8) 0 args with
  | some t => some { n := args.length + (fn.ntmps - args.length), base := fun _ => undef, tm := t, df := [] }
  | none => none

def newE (h : EH) (o : AObj) : Option EH := match h.hp.put (some o) h.next with
  | some t => some { next := h.next + 1, hp := t }
  | none => none
def setE (h : EH) (A : Nat) (o : AObj) : Option EH := match h.hp.put (some o) A with
  | some t => some { h with hp := t }
  | none => none

def closeE : List Nat → EH → Option EH
  | [], h => some h
  | A :: as, h => match h.hp.get A with
    | some (.dfr true) => match setE h A (.dfr false) with
      | some h' => closeE as h'
      | none => none
    | _ => none

abbrev CallK := FuncId → List Value → EH → (Value → EH → Bool) → Bool
abbrev YieldK := Nat → List Value → EH → (Value → EH → Bool) → Bool

def evNext (p : Value) (h : EH) (k : Value → EH → Bool) : Bool :=
  match p with
  | .pointer (some ⟨I, 0, none⟩) =>
    match h.hp.get I with
    | some (.iter none _ _ _) => k (.tuple #[.bool false]) h
    | some (.iter (some M) since seen stepped) =>
      match h.hp.get M with
      | some (.map es clk) => !nextBad es seen stepped && (candsOf es since seen).all fun x => match x with
        | some e => (match setE h I (.iter (some M) since (seen ++ [e.born]) clk) with
          | some h' => k (.tuple #[.bool true, e.key, e.val]) h'
          | none => false)
        | none => k (.tuple #[.bool false]) h
      | _ => false
    | _ => false
  | _ => false

/-! The same operation, laid so that little is unfolded at each step. -/
def dMove (ev : Operand → Value) (h : AH) (x : Operand) : Option (Value × AH) := some (ev x, h)
def dPick (ev : Operand → Value) (h : AH) (c x y : Operand) : Option (Value × AH) := match ev c with
  | .bool t => some (if t then ev x else ev y, h)
  | _ => none
def dBox (ev : Operand → Value) (h : AH) (t : TypeId) (x : Operand) : Option (Value × AH) := aBox t (ev x) h
def dBuild (P : Program) (ev : Operand → Value) (h : AH) (t : TypeId) (ps : Array (Nat × Operand)) : Option (Value × AH) := (aBuild P t (ps.toList.map fun p => (p.1, ev p.2))).map fun v => (v, h)
def dBuildSlice (P : Program) (ev : Operand → Value) (h : AH) (t : TypeId) (n : Nat) (ps : Array (Nat × Operand)) : Option (Value × AH) := aBuildSlice P t n (ps.toList.map fun p => (p.1, ev p.2)) h
def dLoad (P : Program) (ev : Operand → Value) (h : AH) (t : TypeId) (x : Operand) : Option (Value × AH) := (aLoad P t (ev x) h).map fun v => (v, h)
def dStore (P : Program) (ev : Operand → Value) (h : AH) (t : TypeId) (x y : Operand) : Option (Value × AH) := (aStore P t (ev x) (ev y) h).map fun h' => (undef, h')
def dNil (ev : Operand → Value) (h : AH) (x : Operand) : Option (Value × AH) := (aNil (ev x)).map fun v => (v, h)
def dBin (P : Program) (ev : Operand → Value) (h : AH) (op : BinOp) (t : TypeId) (x y : Operand) : Option (Value × AH) := (aBin P op t (ev x) (ev y)).map fun v => (v, h)
def dUn (ev : Operand → Value) (h : AH) (op : UnOp) (x : Operand) : Option (Value × AH) := (aUn op (ev x)).map fun v => (v, h)
def dConv (P : Program) (ev : Operand → Value) (h : AH) (s d : TypeId) (x : Operand) : Option (Value × AH) := match aBytes P s d (ev x) h with
    | some r => some r
    | none => (aConv P s d (ev x)).map fun v => (v, h)
def dIface (P : Program) (ev : Operand → Value) (h : AH) (t : TypeId) (x : Operand) : Option (Value × AH) := if isConcrete P t then some (.iface t (ev x), h) else none
def dFunc (ev : Operand → Value) (h : AH) (f : Fn) (a b : Array Operand) : Option (Value × AH) := match f with
  | .func f => some (.func (.func f) (a.map ev) (b.map ev), h)
  | _ => none
def dMap (h : AH) (r : Option Operand) : Option (Value × AH) := match r with
  | none => some (.map (some h.next), h.new (.map [] 0))
  | some _ => none
def dMakeSlice (P : Program) (ev : Operand → Value) (h : AH) (t : TypeId) (l c : Operand) : Option (Value × AH) := aMakeSlice P t (ev l) (ev c) h
def dSlice (P : Program) (ev : Operand → Value) (h : AH) (t : TypeId) (x : Operand) (lo hi mx : Option Operand) : Option (Value × AH) := match mx with
  | none => (aSlice P t (ev x) (oev ev lo) (oev ev hi)).map fun v => (v, h)
  | some _ => none
def dFieldAddr (P : Program) (ev : Operand → Value) (h : AH) (t : TypeId) (x : Operand) (f : Nat) : Option (Value × AH) := (aFieldAddr P t f (ev x)).map fun v => (v, h)
def dField (P : Program) (ev : Operand → Value) (h : AH) (t : TypeId) (x : Operand) (f : Nat) : Option (Value × AH) := (aField P t (ev x) f).map fun v => (v, h)
def dIndexAddr (P : Program) (ev : Operand → Value) (h : AH) (t : TypeId) (x i : Operand) : Option (Value × AH) := (aIndexAddr P t (ev x) (ev i)).map fun v => (v, h)
def dIndex (P : Program) (ev : Operand → Value) (h : AH) (t : TypeId) (x i : Operand) : Option (Value × AH) := (aIndex P t (ev x) (ev i)).map fun v => (v, h)
def dLookup (P : Program) (ev : Operand → Value) (h : AH) (t : TypeId) (x i : Operand) (ok : Bool) : Option (Value × AH) := (aLookup P t (ev x) (ev i) ok h).map fun v => (v, h)
def dUpdate (P : Program) (ev : Operand → Value) (h : AH) (t : TypeId) (m k v : Operand) : Option (Value × AH) := (aUpdate P t (ev m) (ev k) (ev v) h).map fun h' => (undef, h')
def dEntry (P : Program) (ev : Operand → Value) (h : AH) (t : TypeId) (m k : Operand) : Option (Value × AH) := aEntry P t (ev m) (ev k) h
def dEntryStore (ev : Operand → Value) (h : AH) (m s v : Operand) : Option (Value × AH) := (aEntryStore (ev m) (ev s) (ev v) h).map fun h' => (undef, h')
def dRange (P : Program) (ev : Operand → Value) (h : AH) (t : TypeId) (x : Operand) : Option (Value × AH) := aRange P t (ev x) h
def dIter (ev : Operand → Value) (h : AH) (x : Operand) : Option (Value × AH) := (aIterEntry (ev x) h).map fun v => (v, h)
def dExtract (ev : Operand → Value) (h : AH) (x : Operand) (i : Nat) : Option (Value × AH) := (aExtract (ev x) i).map fun v => (v, h)
def dCall (P : Program) (ev : Operand → Value) (h : AH) (c : Call) : Option (Value × AH) := match c.callee with
  | .builtin b => aBuiltin P b c.argTypes (c.args.toList.map ev) h
  | _ => none

def dopF (P : Program) (ev : Operand → Value) (op : Op) (h : AH) : Option (Value × AH) :=
  match op with
  | .move x => dMove ev h x
  | .assign x => dMove ev h x
  | .pick c x y => dPick ev h c x y
  | .alloc t => aAlloc P t h
  | .box t x => dBox ev h t x
  | .build t ps => dBuild P ev h t ps
  | .buildSlice t n ps => dBuildSlice P ev h t n ps
  | .load t x => dLoad P ev h t x
  | .store t x y => dStore P ev h t x y
  | .nilCheck x => dNil ev h x
  | .binOp op t x y _ => dBin P ev h op t x y
  | .unOp op _ x => dUn ev h op x
  | .convert s d x => dConv P ev h s d x
  | .makeInterface t x => dIface P ev h t x
  | .makeFunc f a b => dFunc ev h f a b
  | .makeMap _ r => dMap h r
  | .makeSlice t l c => dMakeSlice P ev h t l c
  | .slice t x lo hi mx => dSlice P ev h t x lo hi mx
  | .fieldAddr t x f => dFieldAddr P ev h t x f
  | .field t x f => dField P ev h t x f
  | .indexAddr t x i => dIndexAddr P ev h t x i
  | .index t x i => dIndex P ev h t x i
  | .lookup t x i ok => dLookup P ev h t x i ok
  | .mapUpdate t m k v => dUpdate P ev h t m k v
  | .insert t m k v => dUpdate P ev h t m k v
  | .mapEntry t m k => dEntry P ev h t m k
  | .entryStore _ m s v => dEntryStore ev h m s v
  | .range t x => dRange P ev h t x
  | .entry x => dIter ev h x
  | .extract x i => dExtract ev h x i
  | .call c => dCall P ev h c
  | _ => none

theorem dopF_eq (P : Program) (ev : Operand → Value) (op : Op) (h : AH) : dopF P ev op h = dop P ev op h := by
  cases op <;> first | rfl | skip
  case makeFunc f a b => cases f <;> rfl
  case makeMap t r => cases r <;> rfl
  case slice t x lo hi mx => cases mx <;> rfl
  case call c =>
    obtain ⟨callee, args, at'⟩ := c
    cases callee <;> rfl

def stays (P : Program) (ev : Operand → Value) (op : Op) (h : AH) : Bool :=
  match op with
  | .convert s d x => (aBytes P s d (ev x) h).isNone
  | op => pureK op || readK op

def evD (P : Program) (ev : Operand → Value) (op : Op) (h : EH) (k : Value → EH → Bool) : Bool :=
  match dopF P ev op h.den with
  | some (v, h') =>
    if stays P ev op h.den then force v fun v => k v h
    else match h.relay h' (h.next :: touched ev op) with
      | some h2 => force v fun v => k v h2
      | none => false
  | none => false

def evR (P : Program) (call : CallK) (yield : YieldK) (ev : Operand → Value) (op : Op) (h : EH) (k : Value → EH → Bool) : Bool :=
  match op with
  | .call { callee := .value f, args, .. } =>
    match ev f with
    | .func (.func g) first cap => call g (first.toList ++ args.toList.map ev ++ cap.toList) h k
    | .func (.yield L) first _ => yield L (first.toList ++ args.toList.map ev) h k
    | _ => false
  | .next it false => evNext (ev it) h k
  | op => evD P ev op h k

def dstB (n : Nat) : Option Tmp → Bool
  | some t => decide (t < n)
  | none => true

def evOp (P : Program) (call : CallK) (yield : YieldK) (ops : Array Oper) (o : Oper) (a : EA) (h : EH) (k : EA → EH → Bool) : Bool :=
  o.op.operands.toList.all cOK && dstB a.n o.dst &&
  (match o.guard with
   | none => evR P call yield a.den.ev o.op h fun v h' => match a.put? o.dst v with
     | some a' => k a' h'
     | none => false
   | some _ => if Region.wanted o (yieldedA ops a.den) then evR P call yield a.den.ev o.op h (fun v h' => match a.put? o.dst v with
       | some a' => k a' h'
       | none => false)
     else match a.put? o.dst undef with
       | some a' => k a' h
       | none => false)

def evTake (P : Program) (ops : Array Oper) (o : Oper) (a : EA) (h : EH) (k : Value → EA → Bool) : Bool :=
  o.op.operands.toList.all cOK && dstB a.n o.dst &&
  (if Region.wanted o (yieldedA ops a.den) then (match dopF P a.den.ev o.op h.den with
    | some (v, _) => stays P a.den.ev o.op h.den && force v fun v => (match a.put? o.dst v with
      | some a' => k v a'
      | none => false)
    | none => false)
  else match a.put? o.dst undef with
    | some a' => k undef a'
    | none => false)

def evOps (P : Program) (call : CallK) (yield : YieldK) (ops : Array Oper) : List Oper → EA → EH → (EA → EH → Bool) → Bool
  | [], a, h, k => k a h
  | o :: l, a, h, k => evOp P call yield ops o a h fun a h => evOps P call yield ops l a h k

mutual
def sameV : Value → Value → Bool
  | .bool a, .bool b => a == b
  | .int k n, .int j m => decide (k = j) && decide (n = m)
  | .pointer none, .pointer none => true
  | .pointer (some ⟨a, o, none⟩), .pointer (some ⟨b, u, none⟩) => a == b && o == u
  | .slice none l c, .slice none m d => l == m && c == d
  | .slice (some ⟨a, o, none⟩) l c, .slice (some ⟨b, u, none⟩) m d => a == b && o == u && l == m && c == d
  | .map none, .map none => true
  | .map (some a), .map (some b) => a == b
  | .nilFunc, .nilFunc => true
  | .nilIface, .nilIface => true
  | .agg ⟨xs⟩, .agg ⟨ys⟩ => sameVs xs ys
  | .tuple ⟨xs⟩, .tuple ⟨ys⟩ => sameVs xs ys
  | .func (.func f) ⟨xs⟩ ⟨us⟩, .func (.func g) ⟨ys⟩ ⟨vs⟩ => f == g && sameVs xs ys && sameVs us vs
  | .func (.yield f) ⟨xs⟩ ⟨us⟩, .func (.yield g) ⟨ys⟩ ⟨vs⟩ => f == g && sameVs xs ys && sameVs us vs
  | _, _ => false
def sameVs : List Value → List Value → Bool
  | [], [] => true
  | x :: xs, y :: ys => sameV x y && sameVs xs ys
  | _, _ => false
end

def keepsE (P : Program) (ops : Array Oper) (R : List (Oper × Value)) (a : EA) (h : EH) : Bool :=
  R.all fun p => p.1.op.operands.toList.all cOK && dstB a.n p.1.dst &&
    (if Region.wanted p.1 (yieldedA ops a.den) then (match dopF P a.den.ev p.1.op h.den with
      | some (v, _) => sameV v p.2 && stays P a.den.ev p.1.op h.den
      | none => false) else sameV p.2 undef)

def evI (P : Program) (call : CallK) (yield : YieldK) (ops : Array Oper) (i : Nat) (a : EA) (h : EH) (k : EA → EH → Bool) : Bool :=
  match ops[i]? with
  | some o => evOp P call yield ops o a h k
  | none => false

def evPlan (P : Program) (call : CallK) (yield : YieldK) (ops : Array Oper) : Plan → List (Oper × Value) → EA → EH → (EA → EH → Bool) → Bool
  | .done, _, a, h, k => k a h
  | .take i _ p, R, a, h, k => (match ops[i]? with
    | some o => evTake P ops o a h fun _ a => evPlan P call yield ops p R a h k
    | none => false)
  | .watch i _ p, R, a, h, k => (match ops[i]? with
    | some o => evTake P ops o a h fun v a => evPlan P call yield ops p ((o, v) :: R) a h k
    | none => false)
  | .only i p, R, a, h, k => evI P call yield ops i a h fun a h => keepsE P ops R a h && evPlan P call yield ops p R a h k
  | .two i p j q, R, a, h, k => (evI P call yield ops i a h fun a h => keepsE P ops R a h && evPlan P call yield ops p R a h k) && (evI P call yield ops j a h fun a h => keepsE P ops R a h && evPlan P call yield ops q R a h k)
  | .three i p j q x r, R, a, h, k => (evI P call yield ops i a h fun a h => keepsE P ops R a h && evPlan P call yield ops p R a h k) && (evI P call yield ops j a h fun a h => keepsE P ops R a h && evPlan P call yield ops q R a h k) && (evI P call yield ops x a h fun a h => keepsE P ops R a h && evPlan P call yield ops r R a h k)

def roundK (L : Nat) (k : Value → EH → Bool) (e : Exit) (h : EH) : Bool :=
  match h.hp.get L with
  | some (.loop l) =>
    (match e with
    | .normal => (match setE h L (.loop { l with state := .ready, pending := none }) with | some h' => k (.bool true) h' | none => false)
    | .ret => (match setE h L (.loop { l with state := .done, pending := some .ret }) with | some h' => k (.bool false) h' | none => false)
    | .exit id => (match setE h L (.loop { l with state := .done, pending := some (.exit id) }) with | some h' => k (.bool false) h' | none => false)
    | .goto t => (match setE h L (.loop { l with state := .done, pending := some (.goto t) }) with | some h' => k (.bool false) h' | none => false)
    | _ => false)
  | _ => false

abbrev CodeK := Option Nat → Code → EA → EH → (Exit → EA → EH → Bool) → Bool

def isReady : LoopState → Bool
  | .ready => true
  | _ => false
def isBusy : LoopState → Bool
  | .busy => true
  | _ => false

def evYield (ec : CodeK) (L : Nat) (args : List Value) (h : EH) (k : Value → EH → Bool) : Bool :=
  match h.hp.get L with
  | some (.loop l) =>
    decide (args.length = l.params.size) &&
    (match ({ n := l.n, base := l.tm, tm := T.full 8, df := [] } : EA).puts? (l.params.toList.zip args) with
    | some a => ec (some L) l.assign a h fun e a1 h1 => match e with
      | .normal => (match h1.hp.get L with
        | some (.loop l1) => isReady l1.state && (match setE h1 L (.loop { l1 with state := .busy }) with
          | some h2 => ec (some L) l.body a1 h2 fun e _ h3 => roundK L k e h3
          | none => false)
        | _ => false)
      | _ => false
    | none => false)
  | _ => false

def evCall (P : Program) (ec : CodeK) (g : FuncId) (args : List Value) (h : EH) (k : Value → EH → Bool) : Bool :=
  match P.funcs[g]? with
  | some fn => (match fn.body with
    | some c => !(fn.name == "runtime.NumGoroutine") && (match enterE fn args with
      | some a => ec none c a h fun e a1 h1 =>
        (match e with | .normal => true | .ret => true | _ => false) &&
        (match closeE a1.df h1 with
        | some h2 => (match resL P a1.at h2.den fn.results.toList with
          | some vs => k (resV vs) h2
          | none => false)
        | none => false)
      | none => false)
    | none => false)
  | none => false

def rangeK (ec : CodeK) (rd : Option Nat) (L : Nat) (a : EA) (k : Exit → EA → EH → Bool) (_ : Value) (h : EH) : Bool :=
  match h.hp.get L with
  | some (.loop l) => !isBusy l.state && (match setE h L (.loop { l with state := .exhausted }) with
    | some h' => (match l.pending with
      | none => k .normal a h'
      | some c => ec rd c a h' k)
    | none => false)
  | _ => false

def evRange (P : Program) (ec : CodeK) (rd : Option Nat) (g : Operand) (ps : Array Tmp) (assign body : Code) (a : EA) (h : EH) (k : Exit → EA → EH → Bool) : Bool :=
  cOK g && (match a.den.ev g with
  | .func (.func gf) first cap =>
    match rd with
    | none => (match newE h (.dfr true) with
      | some h1 => (match newE h1 (.loop { state := .ready, pending := none, fn := 0, n := a.n, tm := a.at, params := ps, assign := assign, body := body, defers := h.next }) with
        | some h2 => evCall P ec gf (first.toList ++ [.func (.yield (h.next + 1)) #[] #[]] ++ cap.toList) h2 (rangeK ec rd (h.next + 1) { a with df := h.next :: a.df } k)
        | none => false)
      | none => false)
    | some L0 => (match h.hp.get L0 with
      | some (.loop l0) => (match newE h (.loop { state := .ready, pending := none, fn := 0, n := a.n, tm := a.at, params := ps, assign := assign, body := body, defers := l0.defers }) with
        | some h2 => evCall P ec gf (first.toList ++ [.func (.yield h.next) #[] #[]] ++ cap.toList) h2 (rangeK ec rd h.next a k)
        | none => false)
      | _ => false)
  | _ => false)

/-- A call; of a function that only reads, and hands back what is foretold: on a view of the heap. -/
def evCallV (E : Env) (ec : CodeK) (g : FuncId) (args : List Value) (h : EH) (k : Value → EH → Bool) : Bool :=
  match findV g E.pures with
  | some V => plain 9 V && (evCall E.P ec g args h.view (fun v _ => sameV v V) && k V h)
  | none => evCall E.P ec g args h k

def evC (E : Env) : Nat → Option Nat → Code → EA → EH → (Exit → EA → EH → Bool) → Bool
  | 0, _, _, _, _, _ => false
  | f + 1, rd, c, a, h, k =>
    match c with
    | .skip => k .normal a h
    | .ret => k .ret a h
    | .exit id => k (.exit id) a h
    | .goto l => k (.goto l) a h
    | .label _ => k .normal a h
    | .seq x y => evC E f rd x a h fun e a h => match e with
      | .normal => evC E f rd y a h k
      | e => k e a h
    | .cond c x y => cOK c && (match a.den.ev c with
      | .bool true => evC E f rd x a h k
      | .bool false => evC E f rd y a h k
      | _ => false)
    | .block id c => evC E f rd c a h fun e a h => match e with
      | .exit i => if i = id then k .normal a h else k (.exit i) a h
      | e => k e a h
    | .loop c => evC E f rd c a h fun e a h => match e with
      | .normal => evC E f rd (.loop c) a h k
      | e => k e a h
    | .region id ops draw => (match draw with
      | false => evOps E.P (fun g args h k => evCallV E (evC E f) g args h k) (fun L args h k => evYield (evC E f) L args h k) ops ops.toList a h fun a h => k .normal a h
      | true => (match findPlan id ops E.plans with
        | some p => evPlan E.P (fun g args h k => evCallV E (evC E f) g args h k) (fun L args h k => evYield (evC E f) L args h k) ops p [] a h fun a h => k .normal a h
        | none => false))
    | .rangeFunc g ps assign body => evRange E.P (evC E f) rd g ps assign body a h k
    | _ => false

end Go.Ab

namespace Go.Ab

theorem EA.den_ev (a : EA) (d : Option Tmp) (v : Value) (a' : EA) (h : a.put? d v = some a') : a'.den = a.den.put d v ∧ dstOK a.den d := by
  unfold EA.put? at h
  cases d with
  | none => cases h; exact ⟨rfl, trivial⟩
  | some t =>
    simp only at h
    split at h
    · rename_i hlt
      split at h
      · rename_i tm htm
        cases h
        refine ⟨?_, hlt⟩
        simp only [EA.den, AAct.put]
        congr 1
        funext i
        simp only [EA.at, T.get_put htm]
        by_cases e : i = t
        · subst e; simp
        · simp [e]
      · cases h
    · cases h

theorem setE_den {h h' : EH} {A : Nat} {o : AObj} (e : setE h A o = some h') : h'.den = h.den.set A o := by
  unfold setE at e
  split at e
  · rename_i t ht; cases e
    simp only [EH.den, AH.set]; congr 1; funext i; rw [T.get_put ht]
  · cases e

theorem newE_den {h h' : EH} {o : AObj} (e : newE h o = some h') : h'.den = h.den.new o := by
  unfold newE at e
  split at e
  · rename_i t ht; cases e
    simp only [EH.den, AH.new]; congr 1; funext i; rw [T.get_put ht]; rfl
  · cases e

theorem relay_den {h' : AH} : ∀ (l : List Nat) (h h2 : EH), h.relay h' l = some h2 → (∀ A, A ∉ l → h'.get A = h.hp.get A) → h2.den = h' := by
  intro l
  induction l with
  | nil =>
    intro h h2 e hag
    simp only [EH.relay, forceN_eq] at e
    cases e
    obtain ⟨n, g⟩ := h'
    simp only [EH.den]; congr 1; funext i; exact (hag i (by simp)).symm
  | cons A as ih =>
    intro h h2 e hag
    simp only [EH.relay, forceO_eq] at e
    split at e
    · rename_i t ht
      refine ih _ _ e fun B hB => ?_
      simp only [T.get_put ht]
      by_cases eb : B = A
      · subst eb; simp
      · rw [if_neg eb]; exact hag B (by simp [eb, hB])
    · cases e

def keptBut (l : List Nat) (h h' : AH) : Prop := ∀ A, A ∉ l → h'.get A = h.get A

theorem keptBut.same (l : List Nat) (h : AH) : keptBut l h h := fun _ _ => rfl
theorem keptBut.new {l : List Nat} {h : AH} {o : AObj} (hm : h.next ∈ l) : keptBut l h (h.new o) := fun A hA => by rw [AH.new_get, if_neg (fun e => hA (by rw [e]; exact hm))]
theorem keptBut.set {l : List Nat} {h : AH} {A : Nat} {o : AObj} (hm : A ∈ l) : keptBut l h (h.set A o) := fun B hB => by rw [AH.set_get, if_neg (fun e => hB (by rw [e]; exact hm))]
theorem keptBut.delNew {l : List Nat} {h : AH} {A : Nat} {o : AObj} (hm : A ∈ l) (hn : h.next ∈ l) : keptBut l h ((h.del A).new o) := fun B hB => by
  rw [AH.new_get, AH.del_next, if_neg (fun e => hB (by rw [e]; exact hn)), AH.del_get, if_neg (fun e => hB (by rw [e]; exact hm))]

theorem map_kept {x : Option Value} {v : Value} {h h1 : AH} {l : List Nat} (hd : (x.map fun v => (v, h)) = some (v, h1)) : keptBut l h h1 := by
  obtain ⟨rfl, _⟩ := mapS hd; exact keptBut.same _ _

theorem dop_touch {P : Program} {ev : Operand → Value} {op : Op} {h h' : AH} {v : Value} (hd : dop P ev op h = some (v, h')) : keptBut (h.next :: touched ev op) h h' := by
  have hn : ∀ {l : List Nat}, h.next ∈ h.next :: l := List.mem_cons_self ..
  have viaAlloc : allocK op = true → keptBut (h.next :: touched ev op) h h' := fun hk => by
    rcases dop_alloc hk hd with e | ⟨ob, e⟩ <;> subst e
    · exact keptBut.same _ _
    · exact keptBut.new hn
  have upd : ∀ {t : TypeId} {m k x : Value} {l : List Nat} {h2 : AH}, aUpdate P t m k x h = some h2 → (∀ M, m = .map (some M) → M ∈ l) → keptBut l h h2 := by
    intro t m k x l h2 hs hm
    unfold aUpdate at hs
    split at hs
    · split at hs
      · split at hs
        · cases hs
        · simp only [Option.map_eq_some_iff] at hs
          obtain ⟨o', _, rfl⟩ := hs
          exact keptBut.set (hm _ rfl)
      · cases hs
    · cases hs
  cases op <;> simp only [dop] at hd <;> (try cases hd; done) <;> (try exact map_kept hd)
  case move x => cases hd; exact keptBut.same _ _
  case assign x => cases hd; exact keptBut.same _ _
  case pick c x y => split at hd <;> cases hd; exact keptBut.same _ _
  case alloc => exact viaAlloc rfl
  case box => exact viaAlloc rfl
  case buildSlice => exact viaAlloc rfl
  case makeSlice => exact viaAlloc rfl
  case makeMap t r => exact viaAlloc rfl
  case makeInterface t x => split at hd <;> cases hd; exact keptBut.same _ _
  case makeFunc f a b =>
    cases f <;> simp only at hd <;> cases hd
    exact keptBut.same _ _
  case convert s d x =>
    split at hd
    · rename_i r hb; cases hd
      obtain ⟨ob, rfl⟩ := aBytes_next hb
      exact keptBut.new hn
    · exact map_kept hd
  case slice t x lo hi mx =>
    cases mx with
    | some _ => simp only at hd; cases hd
    | none => simp only at hd; exact map_kept hd
  case store t x y =>
    simp only [Option.map_eq_some_iff, Prod.mk.injEq] at hd
    obtain ⟨h2, hs, _, rfl⟩ := hd
    unfold aStore at hs
    split at hs
    · rename_i A off hx
      split at hs
      · cases hs
      · split at hs
        · split at hs
          · cases hs
          · simp only [Option.map_eq_some_iff] at hs
            obtain ⟨o', _, rfl⟩ := hs
            exact keptBut.set (by simp [touched, hx, roots])
        · cases hs
    · cases hs
  case mapUpdate t m k x =>
    simp only [Option.map_eq_some_iff, Prod.mk.injEq] at hd
    obtain ⟨h2, hs, _, rfl⟩ := hd
    exact upd hs (by simp only [touched]; exact fun M e => by rw [e]; simp [roots])
  case insert t m k x =>
    simp only [Option.map_eq_some_iff, Prod.mk.injEq] at hd
    obtain ⟨h2, hs, _, rfl⟩ := hd
    exact upd hs (by simp only [touched]; exact fun M e => by rw [e]; simp [roots])
  case mapEntry t m k =>
    unfold aEntry at hd
    split at hd
    · rename_i M _ hm
      repeat' split at hd
      all_goals first | (cases hd; done) | (cases hd; exact keptBut.set (by simp [touched, hm, roots]))
    · cases hd
  case entryStore t m s x =>
    simp only [Option.map_eq_some_iff, Prod.mk.injEq] at hd
    obtain ⟨h2, hs, _, rfl⟩ := hd
    unfold aEntryStore at hs
    split at hs
    · rename_i M _ _ hm _
      repeat' split at hs
      all_goals first | (cases hs; done) | (cases hs; exact keptBut.set (by simp [touched, hm, roots]))
    · cases hs
  case range t x =>
    unfold aRange at hd
    repeat' split at hd
    all_goals first | (cases hd; done) | (cases hd; exact keptBut.new hn)
  case call c =>
    obtain ⟨callee, args, at'⟩ := c
    cases callee <;> simp only at hd <;> first | cases hd; done | skip
    rename_i b
    unfold aBuiltin at hd
    have first : ∀ {x xs}, args.toList.map ev = x :: xs → touched ev (.call { callee := .builtin b, args, argTypes := at' }) = roots x := by
      intro x xs e
      simp only [touched]
      cases hl : args.toList with
      | nil => rw [hl] at e; cases e
      | cons y ys => rw [hl] at e; simp only [List.map_cons, List.cons.injEq] at e; rw [← e.1]
    split at hd
    · split at hd
      · exact map_kept hd
      · cases hd
    · rename_i s x hl
      rw [first hl]
      unfold aAppend at hd
      repeat' split at hd
      all_goals first
        | (cases hd; done)
        | (cases hd; exact keptBut.same _ _)
        | (cases hd; exact keptBut.new hn)
        | (cases hd; exact keptBut.delNew (by simp [roots]) hn)
        | (simp only [Option.map_eq_some_iff, Prod.mk.injEq] at hd
           obtain ⟨o', _, _, rfl⟩ := hd
           exact keptBut.set (by simp [roots]))
    · rename_i m k hl
      rw [first hl]
      split at hd
      · simp only [Option.map_eq_some_iff, Prod.mk.injEq] at hd
        obtain ⟨h2, hs, _, rfl⟩ := hd
        unfold aDelete at hs
        repeat' split at hs
        all_goals first
          | (cases hs; done)
          | (cases hs; exact keptBut.same _ _)
          | (cases hs; exact keptBut.set (by simp [roots]))
      · cases hd
    · rename_i d s hl
      rw [first hl]
      split at hd
      · unfold aCopy at hd
        repeat' split at hd
        all_goals first
          | (cases hd; done)
          | (cases hd; exact keptBut.same _ _)
          | (simp only [Option.map_eq_some_iff, Prod.mk.injEq] at hd
             obtain ⟨o', _, _, rfl⟩ := hd
             exact keptBut.set (by simp [roots]))
      · cases hd
    · exact map_kept hd
    · exact map_kept hd
    · cases hd
end Go.Ab

namespace Go.Ab

mutual
theorem sameV_eq : ∀ (a b : Value), sameV a b = true → a = b := by
  intro a b h
  unfold sameV at h
  split at h <;> (try simp only [Bool.and_eq_true, beq_iff_eq, decide_eq_true_eq] at h) <;> (try cases h; done)
  · rw [h]
  · rw [h.1, h.2]
  · rfl
  · rw [h.1, h.2]
  · rw [h.1, h.2]
  · obtain ⟨⟨⟨h1, h2⟩, h3⟩, h4⟩ := h; rw [h1, h2, h3, h4]
  · rfl
  · rw [h]
  · rfl
  · rfl
  · rw [sameVs_eq _ _ h]
  · rw [sameVs_eq _ _ h]
  · obtain ⟨⟨h1, h2⟩, h3⟩ := h; rw [h1, sameVs_eq _ _ h2, sameVs_eq _ _ h3]
  · obtain ⟨⟨h1, h2⟩, h3⟩ := h; rw [h1, sameVs_eq _ _ h2, sameVs_eq _ _ h3]
theorem sameVs_eq : ∀ (a b : List Value), sameVs a b = true → a = b := by
  intro a b h
  unfold sameVs at h
  split at h
  · rfl
  · simp only [Bool.and_eq_true] at h
    rw [sameV_eq _ _ h.1, sameVs_eq _ _ h.2]
  · cases h
end

def KQ (k : Exit → EA → EH → Bool) (e : Exit) (a : AAct) (h : AH) : Prop := ∃ ea eh, ea.den = a ∧ eh.den = h ∧ k e ea eh = true
def KV (k : Value → EH → Bool) (v : Value) (h : AH) : Prop := ∃ eh, eh.den = h ∧ k v eh = true
def KA (k : EA → EH → Bool) (a : AAct) (h : AH) : Prop := ∃ ea eh, ea.den = a ∧ eh.den = h ∧ k ea eh = true

def CallS (P : Program) (call : CallK) : Prop := ∀ g args h k, call g args h k = true → ACall P g args h.den (KV k)
def YieldS (P : Program) (yield : YieldK) : Prop := ∀ L args h k, yield L args h k = true → AYield P L args h.den (KV k)
def CodeS (P : Program) (ec : CodeK) : Prop := ∀ rd c a h k, ec rd c a h k = true → AW P rd c (KQ k) a.den h.den

section
variable {P : Program} {call : CallK} {yield : YieldK} {ec : CodeK}

theorem stays_same {ev : Operand → Value} {op : Op} {h h1 : AH} {v : Value} (hs : stays P ev op h = true) (hd : dop P ev op h = some (v, h1)) : h1 = h := by
  unfold stays at hs
  split at hs
  · rename_i s d x
    simp only [dop] at hd
    rw [Option.isNone_iff_eq_none] at hs
    rw [hs] at hd
    exact (mapS hd).1
  · rename_i hne
    rw [Bool.or_eq_true] at hs
    rcases hs with hp | hr
    · rcases dop_pure' hp hd with ⟨e, _⟩ | ⟨ob, e⟩
      · exact e
      · exfalso
        subst e
        have key : ∀ {x : Option Value}, (x.map fun v => (v, h)) = some (v, h.new ob) → False := fun e => new_ne (mapS e).1.symm
        unfold pureK at hp
        split at hp <;> (try cases hp; done) <;> simp only [dop] at hd <;> (try exact key hd)
        · injection hd with hd; injection hd with _ e; exact new_ne e
        · injection hd with hd; injection hd with _ e; exact new_ne e
        · split at hd
          · injection hd with hd; injection hd with _ e; exact new_ne e
          · cases hd
        · exact hne _ _ _ rfl
        · split at hd
          · injection hd with hd; injection hd with _ e; exact new_ne e
          · cases hd
        · rename_i f a b
          cases f <;> simp only at hd <;> first | (injection hd with hd; injection hd with _ e; exact new_ne e) | cases hd
        · rename_i t x lo hi mx
          cases mx with
          | some _ => simp only at hd; cases hd
          | none => simp only at hd; exact key hd
        all_goals
          unfold aBuiltin at hd
          rename_i args at'
          cases hm : args.toList.map ev with
          | nil => rw [hm] at hd; cases hd
          | cons x xs => rw [hm] at hd; exact key hd
    · exact (dop_read hr hd).1

theorem evD_sound {ev : Operand → Value} {op : Op} {h : EH} {k : Value → EH → Bool} (he : evD P ev op h k = true) : ∃ v h', dop P ev op h.den = some (v, h') ∧ KV k v h' := by
  unfold evD at he
  rw [dopF_eq] at he
  split at he
  · rename_i v h' hd
    refine ⟨v, h', hd, ?_⟩
    split at he
    · rename_i hs
      rw [force_eq] at he
      exact ⟨h, (stays_same hs hd).symm, he⟩
    · split at he
      · rename_i h2 hr
        rw [force_eq] at he
        exact ⟨h2, relay_den _ _ _ hr (dop_touch hd), he⟩
      · cases he
  · cases he

theorem evNext_sound {p : Value} {h : EH} {k : Value → EH → Bool} (he : evNext p h k = true) : NextW p h.den (KV k) := by
  unfold evNext at he
  split at he
  · rename_i I
    refine ⟨I, rfl, ?_⟩
    split at he
    · rename_i a b c hg
      exact .inl ⟨_, _, _, hg, h, rfl, he⟩
    · rename_i M since seen stepped hg
      split at he
      · rename_i es clk hgm
        simp only [Bool.and_eq_true, Bool.not_eq_true'] at he
        refine .inr ⟨M, since, seen, stepped, es, clk, hg, hgm, he.1, fun x hx => ?_⟩
        have := List.all_eq_true.1 he.2 x hx
        cases x with
        | none => exact ⟨h, rfl, this⟩
        | some e =>
          simp only at this
          split at this
          · rename_i h' hs; exact ⟨h', setE_den hs, this⟩
          · cases this
      · cases he
    · cases he
  · cases he

theorem evR_sound (hc : CallS P call) (hy : YieldS P yield) {ev : Operand → Value} {op : Op} {h : EH} {k : Value → EH → Bool} (he : evR P call yield ev op h k = true) : opR P ev op h.den (KV k) := by
  unfold evR at he
  split at he
  · rename_i f args at'
    simp only [opR]
    split at he
    · rename_i hf; rw [hf]; exact hc _ _ _ _ he
    · rename_i hf; rw [hf]; exact hy _ _ _ _ he
    · cases he
  · exact evNext_sound he
  · obtain ⟨v, h', hd, hk⟩ := evD_sound he
    exact opR_of_dop hd hk

theorem dstB_ok {a : EA} {d : Option Tmp} (h : dstB a.n d = true) : dstOK a.den d := by
  cases d with
  | none => trivial
  | some t => exact (of_decide_eq_true h : t < a.n)

theorem evOp_sound (hc : CallS P call) (hy : YieldS P yield) {ops : Array Oper} {o : Oper} {a : EA} {h : EH} {k : EA → EH → Bool} (he : evOp P call yield ops o a h k = true) : opW P ops o a.den h.den (KA k) := by
  unfold evOp at he
  simp only [Bool.and_eq_true] at he
  obtain ⟨⟨h1, h2⟩, h3⟩ := he
  refine ⟨h1, dstB_ok h2, ?_⟩
  have fin : ∀ {v : Value} {h' : AH}, KV (fun v h' => match a.put? o.dst v with | some a' => k a' h' | none => false) v h' → KA k (a.den.put o.dst v) h' := by
    rintro v h' ⟨eh, rfl, hk⟩
    simp only at hk
    split at hk
    · rename_i a' ha; exact ⟨a', eh, (EA.den_ev _ _ _ _ ha).1, rfl, hk⟩
    · cases hk
  split at h3
  · rename_i hg
    have : Region.wanted o (yieldedA ops a.den) = true := by unfold Region.wanted; rw [hg]
    rw [if_pos this]
    exact (evR_sound hc hy h3).mono fun _ _ => fin
  · split at h3
    · rename_i hw
      rw [if_pos hw]
      exact (evR_sound hc hy h3).mono fun _ _ => fin
    · rename_i hw
      rw [if_neg hw]
      exact fin ⟨h, rfl, h3⟩

theorem evTake_sound {ops : Array Oper} {o : Oper} {a : EA} {h : EH} {k : Value → EA → Bool} (he : evTake P ops o a h k = true) : ∃ v a', Still P ops o v a.den h.den ∧ a'.den = a.den.put o.dst v ∧ k v a' = true := by
  unfold evTake at he
  simp only [Bool.and_eq_true, dopF_eq] at he
  obtain ⟨⟨h1, h2⟩, h3⟩ := he
  split at h3
  · rename_i hw
    split at h3
    · rename_i v h' hd
      simp only [Bool.and_eq_true, force_eq] at h3
      obtain ⟨hs, h3⟩ := h3
      split at h3
      · rename_i a' ha
        refine ⟨v, a', ⟨h1, dstB_ok h2, ?_⟩, (EA.den_ev _ _ _ _ ha).1, h3⟩
        rw [if_pos hw, hd, stays_same hs hd]
      · cases h3
    · cases h3
  · rename_i hw
    split at h3
    · rename_i a' ha
      refine ⟨undef, a', ⟨h1, dstB_ok h2, ?_⟩, (EA.den_ev _ _ _ _ ha).1, h3⟩
      rw [if_neg hw]
    · cases h3

theorem keepsE_sound {ops : Array Oper} {R : List (Oper × Value)} {a : EA} {h : EH} (he : keepsE P ops R a h = true) : Keeps P ops R a.den h.den := by
  intro p hp
  have := List.all_eq_true.1 he p hp
  simp only [Bool.and_eq_true, dopF_eq] at this
  obtain ⟨⟨h1, h2⟩, h3⟩ := this
  refine ⟨h1, dstB_ok h2, ?_⟩
  split at h3
  · rename_i hw
    rw [if_pos hw]
    split at h3
    · rename_i v h' hd
      simp only [Bool.and_eq_true] at h3
      rw [hd, stays_same h3.2 hd, sameV_eq _ _ h3.1]
    · cases h3
  · rename_i hw
    rw [if_neg hw]; exact sameV_eq _ _ h3

theorem evOps_sound (hc : CallS P call) (hy : YieldS P yield) {ops : Array Oper} {Q : Exit → AAct → AH → Prop} {k : EA → EH → Bool} (hq : ∀ a h, k a h = true → Q .normal a.den h.den) : ∀ (l : List Nat) (os : List Oper) (a : EA) (h : EH),
    l.map (ops[·]?) = os.map some → evOps P call yield ops os a h k = true → opsW P ops Q l a.den h.den := by
  intro l
  induction l with
  | nil =>
    intro os a h hl he
    cases os with
    | nil => exact hq _ _ he
    | cons => cases hl
  | cons i l ih =>
    intro os a h hl he
    cases os with
    | nil => cases hl
    | cons o os =>
      simp only [List.map_cons, List.cons.injEq] at hl
      simp only [opsW, hl.1]
      simp only [evOps] at he
      refine (evOp_sound hc hy he).mono ?_
      rintro a' h' ⟨ea, eh, rfl, rfl, hk⟩
      exact ih os ea eh hl.2 hk

theorem evI_sound (hc : CallS P call) (hy : YieldS P yield) {ops : Array Oper} {i : Nat} {a : EA} {h : EH} {k : EA → EH → Bool} {K : AAct → AH → Prop} (hk : ∀ a h, k a h = true → K a.den h.den) (he : evI P call yield ops i a h k = true) : opI P ops i a.den h.den K := by
  unfold evI at he
  unfold opI
  split at he
  · rename_i o ho
    rw [ho]
    refine (evOp_sound hc hy he).mono ?_
    rintro a' h' ⟨ea, eh, rfl, rfl, x⟩
    exact hk _ _ x
  · cases he

theorem evPlan_sound (hc : CallS P call) (hy : YieldS P yield) {ops : Array Oper} {Q : Exit → AAct → AH → Prop} {k : EA → EH → Bool} (hq : ∀ a h, k a h = true → Q .normal a.den h.den) : ∀ (p : Plan) (R : List (Oper × Value)) (a : EA) (h : EH),
    evPlan P call yield ops p R a h k = true → planW P ops Q p R a.den h.den := by
  intro p
  induction p with
  | done => intro R a h he; exact hq _ _ he
  | take i D p ih =>
    intro R a h he
    simp only [evPlan] at he
    split at he
    · rename_i o ho
      obtain ⟨v, a', hs, ha, hk⟩ := evTake_sound he
      exact ⟨o, v, ho, hs, by rw [← ha]; exact ih R a' h hk⟩
    · cases he
  | watch i D p ih =>
    intro R a h he
    simp only [evPlan] at he
    split at he
    · rename_i o ho
      obtain ⟨v, a', hs, ha, hk⟩ := evTake_sound he
      exact ⟨o, v, ho, hs, by rw [← ha]; exact ih _ a' h hk⟩
    · cases he
  | only i p ih =>
    intro R a h he
    exact evI_sound hc hy (fun a h hk => by simp only [Bool.and_eq_true] at hk; exact ⟨keepsE_sound hk.1, ih R a h hk.2⟩) he
  | two i p j q ih1 ih2 =>
    intro R a h he
    simp only [evPlan, Bool.and_eq_true] at he
    exact ⟨evI_sound hc hy (fun a h hk => by simp only [Bool.and_eq_true] at hk; exact ⟨keepsE_sound hk.1, ih1 R a h hk.2⟩) he.1,
      evI_sound hc hy (fun a h hk => by simp only [Bool.and_eq_true] at hk; exact ⟨keepsE_sound hk.1, ih2 R a h hk.2⟩) he.2⟩
  | three i p j q x r ih1 ih2 ih3 =>
    intro R a h he
    simp only [evPlan, Bool.and_eq_true] at he
    exact ⟨evI_sound hc hy (fun a h hk => by simp only [Bool.and_eq_true] at hk; exact ⟨keepsE_sound hk.1, ih1 R a h hk.2⟩) he.1.1,
      evI_sound hc hy (fun a h hk => by simp only [Bool.and_eq_true] at hk; exact ⟨keepsE_sound hk.1, ih2 R a h hk.2⟩) he.1.2,
      evI_sound hc hy (fun a h hk => by simp only [Bool.and_eq_true] at hk; exact ⟨keepsE_sound hk.1, ih3 R a h hk.2⟩) he.2⟩

theorem findPlan_spec {id : Nat} {ops : Array Oper} {p : Plan} : ∀ {l : List (Nat × Nat × Plan)}, findPlan id ops l = some p → planOK ops (Array.replicate ops.size false) [] p = true ∧ p.len ≤ ops.size := by
  intro l
  induction l with
  | nil => intro h; cases h
  | cons x l ih =>
    obtain ⟨i, s, q⟩ := x
    intro h
    simp only [findPlan] at h
    split at h
    · split at h
      · rename_i hk
        simp only [Bool.and_eq_true, decide_eq_true_eq] at hk
        cases h; exact hk
      · exact ih h
    · exact ih h

theorem putL_den : ∀ (vs : List Value) (t t' : T Value) (i : Nat), putL t i vs = some t' → ∀ j, t'.get j = if i ≤ j ∧ j < i + vs.length then vs[j - i]? else t.get j := by
  intro vs
  induction vs with
  | nil => intro t t' i h j; cases h; rw [if_neg (by simp)]
  | cons v vs ih =>
    intro t t' i h j
    simp only [putL] at h
    split at h
    · rename_i t1 ht
      rw [ih _ _ _ h j, T.get_put ht]
      by_cases e : j = i
      · subst e
        rw [if_neg (by omega), if_pos rfl, if_pos (by simp)]; simp
      · by_cases c : i + 1 ≤ j ∧ j < i + 1 + vs.length
        · rw [if_pos c, if_pos (by simp; omega)]
          have : j - i = (j - (i + 1)) + 1 := by omega
          rw [this, List.getElem?_cons_succ]
        · rw [if_neg c, if_neg e, if_neg (by simp; omega)]
    · cases h

theorem full_get {α : Type} : ∀ (d k : Nat), (T.full d : T α).get k = none := by
  intro d
  induction d with
  | zero => intro k; rfl
  | succ d ih =>
    intro k
    cases k with
    | zero => rfl
    | succ k => simp only [T.full, T.get]; split <;> exact ih _

theorem enterE_den {fn : Func} {args : List Value} {a : EA} (h : enterE fn args = some a) : a.den = enterA fn args := by
  unfold enterE at h
  split at h
  · rename_i t ht
    cases h
    simp only [EA.den, enterA]
    congr 1
    funext i
    simp only [EA.at, putL_den _ _ _ _ ht i, Nat.zero_le, Nat.zero_add, true_and, Nat.sub_zero, full_get]
    rw [List.getD_eq_getElem?_getD]
    split
    · rename_i v hv
      split at hv
      · rw [hv]; rfl
      · cases hv
    · rename_i hv
      split at hv
      · rw [hv]; rfl
      · rename_i hlt; rw [List.getElem?_eq_none (by omega)]; rfl
  · cases h

theorem closeE_den : ∀ {as : List Nat} {h h' : EH}, closeE as h = some h' → closeMarks as h.den = some h'.den := by
  intro as
  induction as with
  | nil => intro h h' e; cases e; rfl
  | cons A as ih =>
    intro h h' e
    simp only [closeE] at e
    split at e
    · rename_i hg
      split at e
      · rename_i h1 hs
        have hg' : h.den.get A = some (.dfr true) := hg
        simp only [closeMarks, hg', ← setE_den hs]
        exact ih e
      · cases e
    · cases e

theorem puts_den : ∀ (l : List (Tmp × Value)) (a a' : EA), a.puts? l = some a' → a'.den = { a.den with tm := l.foldl (fun tm (p : Tmp × Value) => fun i => if i = p.1 then p.2 else tm i) a.den.tm } ∧ (∀ p ∈ l, p.1 < a.n) := by
  intro l
  induction l with
  | nil => intro a a' h; cases h; exact ⟨rfl, fun _ h => by cases h⟩
  | cons p l ih =>
    obtain ⟨t, v⟩ := p
    intro a a' h
    simp only [EA.puts?] at h
    split at h
    · rename_i a1 h1
      obtain ⟨e1, e2⟩ := EA.den_ev _ _ _ _ h1
      obtain ⟨e3, e4⟩ := ih _ _ h
      have hn : a1.n = a.n := by have := congrArg AAct.n e1; simpa [EA.den, AAct.put] using this
      refine ⟨?_, fun p hp => ?_⟩
      · rw [e3, e1]; rfl
      · rcases List.mem_cons.1 hp with rfl | hp
        · exact e2
        · rw [← hn]; exact e4 p hp
    · cases h

theorem roundK_sound {L : Nat} {k : Value → EH → Bool} {e : Exit} {a : AAct} {h : EH} (he : roundK L k e h = true) : roundQ L (KV k) e a h.den := by
  unfold roundK at he
  split at he
  · rename_i l hg
    refine ⟨l, hg, ?_⟩
    cases e <;> simp only at he ⊢ <;> (try cases he; done) <;>
      (split at he
       · rename_i h' hs; exact ⟨h', setE_den hs, he⟩
       · cases he)
  · cases he

theorem evYield_sound (hec : CodeS P ec) : YieldS P (fun L args h k => evYield ec L args h k) := by
  intro L args h k he
  simp only [evYield] at he
  split at he
  · rename_i l hg
    simp only [Bool.and_eq_true, decide_eq_true_eq] at he
    obtain ⟨hlen, he⟩ := he
    split at he
    · rename_i a ha
      obtain ⟨e1, e2⟩ := puts_den _ _ _ ha
      have hden : a.den = l.act args := by
        rw [e1]
        simp only [ALoop.act, EA.den]
        congr 1
        have : (EA.at { n := l.n, base := l.tm, tm := T.full 8, df := [] }) = l.tm := by
          funext i; simp only [EA.at, full_get]
        rw [this]
      refine ⟨l, hg, hlen, fun p hp => ?_, ?_⟩
      · obtain ⟨i, hi, hpi⟩ := List.getElem_of_mem hp
        have hia : i < args.length := by rw [hlen]; simpa using hi
        have : (p, args[i]) ∈ l.params.toList.zip args := by
          rw [List.mem_iff_getElem]
          exact ⟨i, by simp; omega, by simp [← hpi]⟩
        exact e2 _ this
      · rw [← hden]
        refine (hec _ _ _ _ _ he).mono ?_
        rintro e a' h' ⟨ea, eh, rfl, rfl, hk⟩
        simp only at hk
        split at hk
        · refine ⟨rfl, ?_⟩
          split at hk
          · rename_i l1 hg1
            simp only [Bool.and_eq_true] at hk
            obtain ⟨hst, hk⟩ := hk
            have hst' : l1.state = .ready := by
              unfold isReady at hst; split at hst
              · assumption
              · cases hst
            split at hk
            · rename_i h2 hs
              refine ⟨l1, hg1, hst', ?_⟩
              rw [← setE_den hs]
              refine (hec _ _ _ _ _ hk).mono ?_
              rintro e a2 h3 ⟨ea2, eh2, rfl, rfl, hk2⟩
              exact roundK_sound hk2
            · cases hk
          · cases hk
        · cases hk
    · cases he
  · cases he

theorem evCall_sound (hec : CodeS P ec) : CallS P (fun g args h k => evCall P ec g args h k) := by
  intro g args h k he
  simp only [evCall] at he
  split at he
  · rename_i fn hf
    split at he
    · rename_i c hb
      simp only [Bool.and_eq_true, Bool.not_eq_true'] at he
      obtain ⟨hn, he⟩ := he
      split at he
      · rename_i a ha
        refine ACall.of_body hf hb hn ?_
        rw [← enterE_den ha]
        refine (hec _ _ _ _ _ he).mono ?_
        rintro e a1 h1 ⟨ea, eh, rfl, rfl, hk⟩
        simp only [Bool.and_eq_true] at hk
        obtain ⟨hx, hk⟩ := hk
        split at hk
        · rename_i h2 hc
          split at hk
          · rename_i vs hv
            refine ⟨?_, h2.den, vs, closeE_den hc, hv, h2, rfl, hk⟩
            cases e <;> first | exact .inl rfl | exact .inr rfl | cases hx
          · cases hk
        · cases hk
      · cases he
    · cases he
  · cases he

def AH.view (h : AH) : AH := { next := h.next, get := fun A => (h.get A).bind AObj.view }

theorem view_den (h : EH) : h.view.den = AH.view h.den := by
  simp only [EH.view, EH.den, AH.view]
  congr 1; funext i; exact T.get_mapO _ _ _

theorem view_ro {o o' : AObj} (h : o.view = some o') : o'.own = false := by
  cases o <;> simp only [AObj.view] at h <;> cases h <;> rfl

theorem HR.view {ρ : Ren} {h : AH} {w : World} (hr : HR ρ h w) : HR ρ (AH.view h) w := by
  refine ⟨fun A o ha => ?_, fun A B o p r q h1 h2 _ _ _ how => ?_, hr.dom⟩
  · obtain ⟨o0, h0, hv⟩ := Option.bind_eq_some_iff.1 ha
    obtain ⟨r, hq, hor⟩ := hr.obj A o0 h0
    refine ⟨r, hq, ?_⟩
    cases o0 <;> simp only [AObj.view] at hv <;> cases hv
    · obtain ⟨cc, fr, hrow⟩ := hor
      exact ⟨cc, fr, hrow.heap, hrow.fits, hrow.cell, (fun hw => by cases hw), hrow.one⟩
    · obtain ⟨cc, fr, hrow, _⟩ := hor
      exact ⟨cc, fr, hrow.heap, hrow.fits, hrow.cell, (fun hw => by cases hw), hrow.one⟩
  · obtain ⟨_, _, e1⟩ := Option.bind_eq_some_iff.1 h1
    obtain ⟨_, _, e2⟩ := Option.bind_eq_some_iff.1 h2
    rw [view_ro e1, view_ro e2] at how; simp at how

theorem plain_only {ρ : Ren} : ∀ (n : Nat) (v v' : Value), plain n v = true → VR ρ v v' → v' = v := by
  intro n
  induction n with
  | zero => intro v v' h; cases h
  | succ n ih =>
    have arr : ∀ (xs xs' : Array Value), xs.toList.all (plain n) = true → xs.size = xs'.size → (∀ (i : Nat) (v v' : Value), xs[i]? = some v → xs'[i]? = some v' → VR ρ v v') → xs' = xs := by
      intro xs xs' hp hs hv
      apply Array.ext hs.symm
      intro i h1 h2
      have hx : xs[i]? = some xs[i] := Array.getElem?_eq_getElem h2
      have hx' : xs'[i]? = some xs'[i] := Array.getElem?_eq_getElem h1
      exact ih _ _ (List.all_eq_true.1 hp _ (by simp)) (hv i _ _ hx hx')
    intro v v' h hv
    cases hv with
    | bool b => rfl
    | int k n => rfl
    | string s => rfl
    | nilPtr => rfl
    | ptr h' => cases h
    | nilSlice l c => rfl
    | slice h' hc => cases h
    | slack h' hl hlim hc => cases h
    | slack0 h' => cases h
    | slip => cases h
    | nilMap => rfl
    | map h' => cases h
    | nilFunc => rfl
    | func hf h1 h2 h3 h4 => cases h
    | nilIface => rfl
    | iface h' => rw [ih _ _ h h']
    | agg h1 h2 => rw [arr _ _ h h1 h2]
    | tuple h1 h2 => rw [arr _ _ h h1 h2]

/-- A run on a view of the heap, whose result holds no address: it leaves the heap as it is. -/
theorem ACall.viewed {g : FuncId} {args : List Value} {V : Value} {h : AH} (hV : plain 9 V = true) (hc : ACall P g args (AH.view h) (fun v _ => v = V)) : ACall P g args h (fun v h' => v = V ∧ h' = h) := by
  refine ⟨hc.1, fun ρ cargs w hl hr => (hc.2 ρ cargs w hl hr.view).mono ?_⟩
  rintro e w' ⟨ρ', v, v', h', rfl, rfl, hv, hr', hf⟩
  have hrest : ∀ b, b < w.heap.size → w'.heap[b]? = w.heap[b]? := fun b hb => hf.rest b hb (by
    rintro ⟨A, o, r, x, hown, _⟩
    obtain ⟨_, _, e1⟩ := Option.bind_eq_some_iff.1 x
    rw [view_ro e1] at hown; cases hown)
  have hv' : v' = v := plain_only 9 v v' hV hv
  refine ⟨ρ, v, v', h, rfl, ⟨rfl, rfl⟩, by rw [hv']; exact plain_VR ρ 9 v hV, ?_, ?_⟩
  · exact ⟨fun A o ha => let ⟨r, q, hor⟩ := hr.obj A o ha; ⟨r, q, hor.move (Ren.le_refl _) (hrest _ hor.lt)⟩, hr.inj, hr.dom⟩
  · exact ⟨Ren.le_refl _, hf.size, fun b hb _ => hrest b hb, fun b hb => .inl hb, hf.side⟩

theorem evCallV_sound {E : Env} {ec : CodeK} (hec : CodeS E.P ec) : CallS E.P (fun g args h k => evCallV E ec g args h k) := by
  intro g args h k he
  simp only [evCallV] at he
  split at he
  · rename_i V hV
    simp only [Bool.and_eq_true] at he
    obtain ⟨hp, he, hk⟩ := he
    have h1 := evCall_sound hec _ _ _ _ he
    rw [view_den] at h1
    refine ACall.mono ?_ (ACall.viewed hp (ACall.mono ?_ h1))
    · rintro v h' ⟨rfl, rfl⟩; exact ⟨h, rfl, hk⟩
    · rintro v h' ⟨eh, _, hs⟩; exact sameV_eq _ _ hs
  · exact evCall_sound hec _ _ _ _ he

theorem rangeK_sound (hec : CodeS P ec) {rd : Option Nat} {L : Nat} {a : EA} {k : Exit → EA → EH → Bool} {v : Value} {h : EH} (he : rangeK ec rd L a k v h = true) : rangeQ P rd L a.den (KQ k) v h.den := by
  unfold rangeK at he
  split at he
  · rename_i l hg
    simp only [Bool.and_eq_true, Bool.not_eq_true'] at he
    obtain ⟨hb, he⟩ := he
    split at he
    · rename_i h' hs
      refine ⟨l, hg, (fun e => by rw [e] at hb; cases hb), ?_⟩
      rw [← setE_den hs]
      split at he
      · rename_i hp; simp only [hp]; exact ⟨a, h', rfl, rfl, he⟩
      · rename_i c hp; simp only [hp]; exact hec _ _ _ _ _ he
    · cases he
  · cases he

theorem evRange_sound (hec : CodeS P ec) {rd : Option Nat} {g : Operand} {ps : Array Tmp} {assign body : Code} {a : EA} {h : EH} {k : Exit → EA → EH → Bool} (he : evRange P ec rd g ps assign body a h k = true) :
    rangeW P rd g ps assign body (KQ k) a.den h.den := by
  unfold evRange at he
  simp only [Bool.and_eq_true] at he
  obtain ⟨hc, he⟩ := he
  split at he
  · rename_i gf first cap hev
    refine ⟨gf, first, cap, hc, hev, ?_⟩
    cases rd with
    | none =>
      simp only at he ⊢
      split at he
      · rename_i h1 hn1
        split at he
        · rename_i h2 hn2
          have := evCall_sound hec _ _ _ _ he
          rw [newE_den hn2, newE_den hn1] at this
          refine ACall.mono ?_ this
          rintro v h' ⟨eh, rfl, hk⟩
          exact rangeK_sound hec hk
        · cases he
      · cases he
    | some L0 =>
      simp only at he ⊢
      split at he
      · rename_i l0 hg0
        split at he
        · rename_i h2 hn2
          refine ⟨l0, hg0, ?_⟩
          have := evCall_sound hec _ _ _ _ he
          rw [newE_den hn2] at this
          refine ACall.mono ?_ this
          rintro v h' ⟨eh, rfl, hk⟩
          exact rangeK_sound hec hk
        · cases he
      · cases he
  · cases he

theorem evC_sound {E : Env} (hm : E.P.follows .mixedOrders = true) : ∀ f, CodeS E.P (evC E f) := by
  intro f
  induction f using Nat.strongRecOn with
  | _ f ihs =>
  cases f with
  | zero => intro rd c a h k he; cases he
  | succ f =>
    have ih : CodeS E.P (evC E f) := ihs f (Nat.lt_succ_self f)
    intro rd c a h k he
    have he0 := he
    cases c <;> simp only [evC] at he <;> (try cases he; done)
    case skip => exact AW.skip ⟨a, h, rfl, rfl, he⟩
    case ret => exact AW.ret ⟨a, h, rfl, rfl, he⟩
    case exit id => exact AW.exit ⟨a, h, rfl, rfl, he⟩
    case goto l => exact AW.goto ⟨a, h, rfl, rfl, he⟩
    case label l => exact AW.label ⟨a, h, rfl, rfl, he⟩
    case seq x y =>
      refine AW.seq ((ih _ _ _ _ _ he).mono ?_)
      rintro e a' h' ⟨ea, eh, rfl, rfl, hk⟩
      cases e <;> simp only at hk
      · exact ih _ _ _ _ _ hk
      all_goals exact ⟨ea, eh, rfl, rfl, hk⟩
    case cond c x y =>
      simp only [Bool.and_eq_true] at he
      obtain ⟨hc, he⟩ := he
      split at he
      · rename_i hv; exact AW.cond (t := true) hc hv (ih _ _ _ _ _ he)
      · rename_i hv; exact AW.cond (t := false) hc hv (ih _ _ _ _ _ he)
      · cases he
    case block id c =>
      refine AW.block ((ih _ _ _ _ _ he).mono ?_)
      rintro e a' h' ⟨ea, eh, rfl, rfl, hk⟩
      cases e <;> simp only at hk
      case exit i =>
        simp only [blockQ]
        split at hk
        · rename_i e; rw [if_pos e]; exact ⟨ea, eh, rfl, rfl, hk⟩
        · rename_i e; rw [if_neg e]; exact ⟨ea, eh, rfl, rfl, hk⟩
      all_goals exact ⟨ea, eh, rfl, rfl, hk⟩
    case loop c =>
      refine AW.loop (fun m a h => m ≤ f + 1 ∧ ∃ ea eh, ea.den = a ∧ eh.den = h ∧ evC E m rd (.loop c) ea eh k = true) (f + 1) ⟨Nat.le_refl _, a, h, rfl, rfl, he0⟩ ?_
      rintro m a' h' ⟨hm, ea, eh, rfl, rfl, hk⟩
      cases m with
      | zero => cases hk
      | succ m =>
        simp only [evC] at hk
        refine (ihs m (by omega) _ _ _ _ _ hk).mono ?_
        rintro e a2 h2 ⟨ea2, eh2, rfl, rfl, hk2⟩
        cases e <;> simp only at hk2
        · exact ⟨m, Nat.lt_succ_self m, by omega, ea2, eh2, rfl, rfl, hk2⟩
        all_goals exact ⟨ea2, eh2, rfl, rfl, hk2⟩
    case region id ops draw =>
      cases draw with
      | false =>
        simp only at he
        refine AW.region (evOps_sound (evCallV_sound (E := E) ih) (evYield_sound ih) (fun a h hk => ⟨a, h, rfl, rfl, hk⟩) _ ops.toList a h ?_ he)
        apply List.ext_getElem?
        intro i
        simp only [List.getElem?_map]
        by_cases hi : i < ops.size
        · rw [List.getElem?_range hi]
          simp [Array.getElem?_eq_getElem hi]
        · rw [List.getElem?_eq_none (by simpa using hi), List.getElem?_eq_none (by simpa using hi)]; rfl
      | true =>
        simp only at he
        split at he
        · rename_i p hp
          obtain ⟨h1, h2⟩ := findPlan_spec hp
          exact AW.plan p hm h1 h2 (evPlan_sound (evCallV_sound (E := E) ih) (evYield_sound ih) (fun a h hk => ⟨a, h, rfl, rfl, hk⟩) p [] a h he)
        · cases he
    case rangeFunc g ps assign body => exact AW.rangeFunc (evRange_sound ih he)

end
end Go.Ab

namespace Go.Ab

theorem ACall.wf {P : Program} {g : FuncId} {args : List Value} {h : AH} {K : Value → AH → Prop} (hE : Enters P g) (hc : WFH h → ACall P g args h K) : ACall P g args h K :=
  ⟨hE, fun ρ cargs w hl hr => (hc hr.wf).2 ρ cargs w hl hr⟩

theorem AW.wf {P : Program} {rd : Option Nat} {c : Code} {Q : Exit → AAct → AH → Prop} {a : AAct} {h : AH} (hc : WFH h → AW P rd c Q a h) : AW P rd c Q a h :=
  fun n ρ crd ca w hrd ha hr => hc hr.wf n ρ crd ca w hrd ha hr

theorem ACall.wfPost {P : Program} {g : FuncId} {args : List Value} {h : AH} {K : Value → AH → Prop} (hc : ACall P g args h K) : ACall P g args h (fun v h' => K v h' ∧ WFH h') :=
  ⟨hc.1, fun ρ cargs w hl hr => (hc.2 ρ cargs w hl hr).mono fun _ _ ⟨ρ', v, v', h', e, hk, hv, hr', hf⟩ => ⟨ρ', v, v', h', e, ⟨hk, hr'.wf⟩, hv, hr', hf⟩⟩

def emptyH : AH := { next := 0, get := fun _ => none }

theorem HR.empty (w : World) : HR (fun _ => none) emptyH w := ⟨(fun A o h => by cases h), (fun A B o p r q h => by cases h), (fun A r h => by cases h)⟩

/-- A run from the empty heap, with arguments and a result that hold no address: it leaves every heap as it is. -/
theorem ACall.closed {P : Program} {g : FuncId} {args : List Value} {V : Value} (hargs : args.all (plain 9) = true) (hV : plain 9 V = true) (hc : ACall P g args emptyH (fun v _ => v = V)) (h : AH) :
    ACall P g args h (fun v h' => v = V ∧ h' = h) := by
  refine ⟨hc.1, fun ρ cargs w hl hr => ?_⟩
  have hl0 : LR (fun _ => none) args cargs.toList := by
    refine ⟨hl.1, fun i v v' a b => ?_⟩
    have hp : plain 9 v = true := List.all_eq_true.1 hargs v (List.mem_of_getElem? a)
    have h1 := plain_VR (fun _ => none) 9 v hp
    have h2 := hl.2 i v v' a b
    have : v' = v := plain_only 9 v v' hp h2
    rw [this]; exact h1
  refine (hc.2 _ cargs w hl0 (HR.empty w)).mono ?_
  rintro e w' ⟨ρ', v, v', h', rfl, rfl, hv, hr', hf⟩
  have hrest : ∀ b, b < w.heap.size → w'.heap[b]? = w.heap[b]? := fun b hb => hf.rest b hb (by rintro ⟨A, o, r, x, _⟩; cases x)
  have hv' : v' = v := plain_only 9 v v' hV hv
  refine ⟨ρ, v, v', h, rfl, ⟨rfl, rfl⟩, by rw [hv']; exact plain_VR ρ 9 v hV, ?_, ?_⟩
  · exact ⟨fun A o ha => let ⟨r, q, hor⟩ := hr.obj A o ha; ⟨r, q, hor.move (Ren.le_refl _) (hrest _ hor.lt)⟩, hr.inj, hr.dom⟩
  · exact ⟨Ren.le_refl _, hf.size, fun b hb _ => hrest b hb, fun b hb => .inl hb, hf.side⟩

end Go.Ab

namespace Go.Ab

structure SlT (P : Program) (t e : TypeId) (B : Nat) (z : Value) : Prop where
  sl : P.underlying t = some (.slice e)
  info : ∃ i, P.info? e = some i ∧ i.size = 1 ∧ i.bytes = B ∧ i.zero = some z
  flat : ∃ d, P.underlying e = some d ∧ aggT d = false
  zp : plain 9 z = true
  zc : z.cells.toList = [z]
  zo : oneC z = true

theorem SlT.sl1 {P : Program} {t e : TypeId} {B : Nat} {z : Value} (h : SlT P t e B z) : Sl1 P t e :=
  ⟨h.sl, let ⟨i, a, b, _⟩ := h.info; ⟨i, a, b⟩, h.flat⟩

theorem eqBin_nil {P : Program} {t e : TypeId} (ht : P.underlying t = some (.slice e)) (p : Option Addr) (l c : Nat) : eqBin P .eql t (.slice p l c) (.slice none 0 0) = some (.bool p.isNone) := by
  unfold eqBin
  cases p <;> simp [guardOn, aEq, ht]

theorem SlOf.src {h : AH} {v : Value} {vs : List Value} (hs : SlOf h v vs) : srcCells 1 v h = some (vs.length, vs) := by
  obtain ⟨p, l, c, rfl, rfl, hsp, hcs⟩ := hs
  by_cases hz : vs = []
  · subst hz
    cases p with
    | none => rfl
    | some a =>
      obtain ⟨B, o, s⟩ := a
      have : s = none := hsp _ rfl
      subst this; rfl
  · rcases hcs with rfl | ⟨A, off, o, cs, rfl, hg, hc, hall⟩
    · exact absurd rfl hz
    · have hn : vs.length ≠ 0 := by simpa using hz
      have hlast : off + vs.length ≤ cs.length := by
        have hi : vs.length - 1 < vs.length := by omega
        have := hall (vs.length - 1) vs[vs.length - 1] (List.getElem?_eq_getElem hi)
        have := (List.getElem?_eq_some_iff.1 this).1
        omega
      have hval : (cs.drop off).take vs.length = vs := by
        apply List.ext_getElem?
        intro i
        rw [List.getElem?_take]
        split
        · rename_i hi
          rw [List.getElem?_drop, hall i vs[i] (List.getElem?_eq_getElem hi), List.getElem?_eq_getElem hi]
        · rename_i hi; rw [List.getElem?_eq_none (by omega)]
      simp only [srcCells, if_neg hn, hg, Option.bind_some, hc, Nat.mul_one, if_pos hlast, hval]

theorem aBuildSlice_empty {P : Program} {t e : TypeId} {B : Nat} {z : Value} (ht : SlT P t e B z) (h : AH) : aBuildSlice P t 0 [] h = some (.slice (some ⟨h.next, 0, none⟩) 0 0, h.new (.row [] e true)) := by
  obtain ⟨i, hi, h1, hb, hz⟩ := ht.info
  have hc : z.cells.size = 1 := by
    have := congrArg List.length ht.zc
    simpa using this
  simp only [aBuildSlice, ht.sl, hi, hz, h1, ht.zp, hc, fillL, zeros]
  simp [SL]

theorem aMakeSlice_at {P : Program} {t e : TypeId} {B : Nat} {z : Value} (ht : SlT P t e B z) (h : AH) (n : Nat) (hn : n * B ≤ 281474976710656) (hm : n ≤ 9223372036854775807) : aMakeSlice P t (.int .i64 n) (.int .i64 n) h = some (.slice (some ⟨h.next, 0, none⟩) n n, h.new (.row (List.replicate n z) e true)) := by
  obtain ⟨i, hi, h1, hb, hz⟩ := ht.info
  have hc : z.cells.size = 1 := by
    have := congrArg List.length ht.zc
    simpa using this
  simp only [aMakeSlice, ht.sl, hi, hz]
  rw [if_pos]
  · simp only [Int.toNat_natCast, ht.zc, zeros_one]
  · refine ⟨by omega, by omega, by simp only [Int.toNat_natCast, hb]; exact hn, by omega, ht.zp, by rw [hc, h1], by simp [ht.zc, ht.zo]⟩

theorem SlT.zk {P : Program} {t e : TypeId} {B : Nat} {z : Value} (ht : SlT P t e B z) : zOK z = true := by simp [zOK, ht.zc, ht.zp, ht.zo]

/-- An append to a slice that has no room: all is moved to a new row. -/
theorem aAppend_first {P : Program} {t e : TypeId} {B : Nat} {z : Value} (ht : SlT P t e B z) {h : AH} {A : Nat} {x : Value} {vs : List Value} (hg : h.get A = some (.row [] e true)) (hx : srcCells 1 x h = some (vs.length, vs)) (hz : vs ≠ [])
    (hb : (2 * vs.length + 192) * B ≤ 281474976710656) (hm : vs.length < ML) : aAppend P #[t, t] (.slice (some ⟨A, 0, none⟩) 0 0) x h = some (.slice (some ⟨h.next, 0, none⟩) vs.length (SL + 1), h.new (.grow vs e)) := by
  obtain ⟨i, hi, h1, hbb, hzz⟩ := ht.info
  have hc : z.cells.size = 1 := by
    have := congrArg List.length ht.zc
    simpa using this
  have hn : vs.length ≠ 0 := by simpa using hz
  have hn' : ¬ vs.length ≤ 0 := by omega
  simp [aAppend, ht.sl, hi, hzz, h1, hc, isIntT, hx, hn, hg, AObj.cells?, hbb, hb, hm, SL, hn', ht.zk]

theorem aAppend_none {P : Program} {t e : TypeId} {B : Nat} {z : Value} (ht : SlT P t e B z) {h : AH} {A : Nat} {x : Value} (hx : srcCells 1 x h = some (0, [])) :
    aAppend P #[t, t] (.slice (some ⟨A, 0, none⟩) 0 0) x h = some (.slice (some ⟨A, 0, none⟩) 0 0, h) := by
  obtain ⟨i, hi, h1, hbb, hzz⟩ := ht.info
  have hc : z.cells.size = 1 := by
    have := congrArg List.length ht.zc
    simpa using this
  simp [aAppend, ht.sl, hi, hzz, h1, hc, isIntT, hx, ht.zk]

theorem aIndexAddr_in {P : Program} {t e : TypeId} {B : Nat} {z : Value} (ht : SlT P t e B z) {A off len cap : Nat} {k : IntKind} {n : Int} {i : Nat} (hn : n = i) (hi : i < len) : aIndexAddr P t (.slice (some ⟨A, off, none⟩) len cap) (.int k n) = some (.pointer (some ⟨A, off + i, none⟩)) := by
  obtain ⟨ie, hie, h1, _⟩ := ht.info
  subst hn
  simp only [aIndexAddr, ht.sl, hie]
  rw [if_pos ⟨by omega, by omega⟩, h1]; simp

theorem aStore_row {P : Program} {t e : TypeId} {B : Nat} {z : Value} (ht : SlT P t e B z) {h : AH} {A off : Nat} {cs : List Value} {x : Value} (hg : h.get A = some (.row cs e true)) (ho : off < cs.length) (hx : x.cells.toList = [x]) (ho1 : oneC x = true) :
    aStore P e (.pointer (some ⟨A, off, none⟩)) x h = some (h.set A (.row (cs.set off x) e true)) := by
  obtain ⟨ie, hie, h1, _⟩ := ht.info
  have hc : x.cells.size = 1 := by
    have := congrArg List.length hx
    simpa using this
  have hle : off + 1 ≤ cs.length := ho
  simp only [aStore, hie, hc, h1, hx, List.all_cons, List.all_nil, ho1, Bool.and_self, and_self, if_true, hg, AObj.setCells]
  simp [setL, hle]

end Go.Ab
