/- Own layer 'Ab': code, walked with values that are not known. Own layer 'Ab': slices of one-cell elements, read. Own layer 'Ab': a closed run, by a function that the kernel evaluates. Own layer 'Ab': the evaluated run is a run. Own layer 'Ab': the evaluated run is a run: the theorem. Own layer 'Ab': calls: what a contract may be weakened to, closed runs, the sort of a slice of integers. Own layer 'Ab': slices of one-cell elements, made, appended to, written. Own layer 'Ab': a row's arguments, as the abstract heap holds them. Own layer 'Ab': rules for a walk whose side conditions are reckoned: guards, loops, slices read, numbers in range, appends. Own layer 'Ab': rows of elements of several cells, local variables of struct types, bytes of strings, read. Own layer 'Ab': operations shown by what the model does; capacities; a row that may grow, laid open. Own layer 'Ab': slices that are inserted into; blocks that are one's own, by their roles. Own layer 'Ab': parts of slices and copies of one-cell elements; an append of zeros. Own layer 'Ab': a drawn region with two ways at one place. Own layer 'Ab': slices of one's own whose elements take several cells. Own layer 'Ab': a drawn region by a plan with any branches; an append of several elements. Own layer 'Ab': a row's arguments that hold slices of structs, as the abstract heap holds them. Own layer 'Ab': zeros appended to nil; an append of any slice. Own layer 'Ab': a region that draws its order, whose operations but the last one only lay blocks: every order at once; a region in parts. Own layer 'Ab': copies into a new slice; an element's field written over; what type a block is of. Own layer 'Ab': a row that a closed run has laid, read beside another heap. Own layer 'Ab': a region that draws its order, all of whose operations only lay blocks; slices of several structs, laid. Own layer 'Ab': maps whose keys are whole numbers, as lists of pairs: read, written, walked. Own layer 'Ab': entries laid and filled; a map, walked. -/
import Derived.Test.YtomakgiklpddbaaB0
import Derived.ProofKit
import Derived.Carry
import Derived.Lib.Overlaps
import Derived.ChangeArms
import Derived.DataReads
set_option linter.unusedSimpArgs false
set_option linter.unusedVariables false
namespace Go.Ab

section
variable {P : Program}

def opsL (P : Program) (ops : Array Oper) (N : AAct → AH → Prop) : List Oper → AAct → AH → Prop
  | [], a, h => N a h
  | o :: l, a, h => opW P ops o a h (opsL P ops N l)

theorem opsL_sound {ops : Array Oper} {Q : Exit → AAct → AH → Prop} : ∀ (l : List Nat) (os : List Oper) (a : AAct) (h : AH), l.map (ops[·]?) = os.map some → opsL P ops (Q .normal) os a h → opsW P ops Q l a h := by
  intro l
  induction l with
  | nil =>
    intro os a h hl he
    cases os with
    | nil => exact he
    | cons => cases hl
  | cons i l ih =>
    intro os a h hl he
    cases os with
    | nil => cases hl
    | cons o os =>
      simp only [List.map_cons, List.cons.injEq] at hl
      simp only [opsW, hl.1]
      exact opW.mono (fun a h hk => ih os a h hl.2 hk) he

theorem AW.regionL {rd : Option Nat} {id : Nat} {ops : Array Oper} {Q : Exit → AAct → AH → Prop} {a : AAct} {h : AH} (hx : opsL P ops (Q .normal) ops.toList a h) : AW P rd (.region id ops false) Q a h := by
  refine AW.region (opsL_sound _ ops.toList a h ?_ hx)
  apply List.ext_getElem?
  intro i
  simp only [List.getElem?_map]
  by_cases hi : i < ops.size
  · rw [List.getElem?_range hi]
    simp [Array.getElem?_eq_getElem hi]
  · rw [List.getElem?_eq_none (by simpa using hi), List.getElem?_eq_none (by simpa using hi)]; rfl

def okB (o : Oper) (a : AAct) : Bool := o.op.operands.toList.all cOK && (match o.dst with
  | some t => decide (t < a.n)
  | none => true)

theorem okB_spec {o : Oper} {a : AAct} (h : okB o a = true) : o.op.operands.toList.all cOK = true ∧ dstOK a o.dst := by
  simp only [okB, Bool.and_eq_true] at h
  refine ⟨h.1, ?_⟩
  cases hd : o.dst with
  | none => trivial
  | some t => rw [hd] at h; exact (of_decide_eq_true h.2 : t < a.n)

def contK (F : AAct → AH → Prop) (d : Option Tmp) (a : AAct) (v : Value) (h : AH) : Prop := F (a.put d v) h

/-- Operations, one behind the other. -/
def opsM (P : Program) (ops : Array Oper) (N : AAct → AH → Prop) : List Oper → AAct → AH → Prop
  | [], a, h => N a h
  | o :: l, a, h => match okB o a with
    | false => False
    | true => match Region.wanted o (yieldedA ops a) with
      | false => opsM P ops N l (a.put o.dst undef) h
      | true => match o.op with
        | .call { callee := .value f, args, .. } => callR P (a.ev f) (args.toList.map a.ev) h (contK (opsM P ops N l) o.dst a)
        | .next it false => NextW (a.ev it) h (contK (opsM P ops N l) o.dst a)
        | op => match dop P a.ev op h with
          | some (v, h') => opsM P ops N l (a.put o.dst v) h'
          | none => False

theorem opsM_sound {ops : Array Oper} {N : AAct → AH → Prop} : ∀ (l : List Oper) (a : AAct) (h : AH), opsM P ops N l a h → opsL P ops N l a h := by
  intro l
  induction l with
  | nil => intro a h hk; exact hk
  | cons o l ih =>
    intro a h hk
    simp only [opsM] at hk
    split at hk
    · exact hk.elim
    · rename_i hok
      obtain ⟨h1, h2⟩ := okB_spec hok
      refine ⟨h1, h2, ?_⟩
      split at hk
      · rename_i hw; rw [hw]; exact ih _ _ hk
      · rename_i hw
        rw [hw]
        split at hk
        · rename_i f args _ hop
          rw [if_pos rfl, hop]
          exact callR.mono (fun v h hk => ih _ _ hk) hk
        · rename_i it hop
          rw [if_pos rfl, hop]
          exact opR.mono (op := .next it false) (K := contK (opsM P ops N l) o.dst a) (fun v h hk => ih _ _ hk) hk
        · split at hk
          · rename_i v h' hd
            rw [if_pos rfl]
            exact opR_of_dop hd (ih _ _ hk)
          · exact hk.elim

/-- The operations of a drawn region, as a plan lays them: 0 taken, 1 taken and watched, 2 alone. -/
def seqM (P : Program) (ops : Array Oper) (N : AAct → AH → Prop) : List (Nat × Oper) → List (Oper × Value) → AAct → AH → Prop
  | [], _, a, h => N a h
  | (k, o) :: l, R, a, h => match okB o a with
    | false => False
    | true => match k with
      | 0 => (match Region.wanted o (yieldedA ops a) with
        | false => seqM P ops N l R (a.put o.dst undef) h
        | true => match dop P a.ev o.op h with
          | some (v, h') => h' = h ∧ seqM P ops N l R (a.put o.dst v) h
          | none => False)
      | 1 => (match Region.wanted o (yieldedA ops a) with
        | false => seqM P ops N l ((o, undef) :: R) (a.put o.dst undef) h
        | true => match dop P a.ev o.op h with
          | some (v, h') => h' = h ∧ seqM P ops N l ((o, v) :: R) (a.put o.dst v) h
          | none => False)
      | _ => match Region.wanted o (yieldedA ops a) with
        | false => Keeps P ops R (a.put o.dst undef) h ∧ seqM P ops N l R (a.put o.dst undef) h
        | true => match o.op with
          | .call { callee := .value f, args, .. } => callR P (a.ev f) (args.toList.map a.ev) h (contK (fun a h => Keeps P ops R a h ∧ seqM P ops N l R a h) o.dst a)
          | .next it false => NextW (a.ev it) h (contK (fun a h => Keeps P ops R a h ∧ seqM P ops N l R a h) o.dst a)
          | op => match dop P a.ev op h with
            | some (v, h') => Keeps P ops R (a.put o.dst v) h' ∧ seqM P ops N l R (a.put o.dst v) h'
            | none => False

def planK (ops : Array Oper) : Plan → Option (List (Nat × Oper))
  | .done => some []
  | .take i _ k => match ops[i]?, planK ops k with
    | some o, some l => some ((0, o) :: l)
    | _, _ => none
  | .watch i _ k => match ops[i]?, planK ops k with
    | some o, some l => some ((1, o) :: l)
    | _, _ => none
  | .only i k => match ops[i]?, planK ops k with
    | some o, some l => some ((2, o) :: l)
    | _, _ => none
  | _ => none

theorem seqM_sound {ops : Array Oper} {Q : Exit → AAct → AH → Prop} : ∀ (p : Plan) (l : List (Nat × Oper)) (R : List (Oper × Value)) (a : AAct) (h : AH), planK ops p = some l → seqM P ops (Q .normal) l R a h → planW P ops Q p R a h := by
  intro p
  induction p with
  | done => intro l R a h hp hk; cases hp; exact hk
  | take i D k ih =>
    intro l R a h hp hk
    simp only [planK] at hp
    split at hp
    · rename_i o l' ho hl
      cases hp
      simp only [seqM] at hk
      split at hk
      · exact hk.elim
      · rename_i hok
        obtain ⟨h1, h2⟩ := okB_spec hok
        split at hk
        · rename_i hw
          exact ⟨o, undef, ho, ⟨h1, h2, by rw [hw]; simp⟩, ih _ _ _ _ hl hk⟩
        · rename_i hw
          split at hk
          · rename_i v h' hd
            obtain ⟨rfl, hk⟩ := hk
            exact ⟨o, v, ho, ⟨h1, h2, by rw [hw]; exact hd⟩, ih _ _ _ _ hl hk⟩
          · exact hk.elim
    · cases hp
  | watch i D k ih =>
    intro l R a h hp hk
    simp only [planK] at hp
    split at hp
    · rename_i o l' ho hl
      cases hp
      simp only [seqM] at hk
      split at hk
      · exact hk.elim
      · rename_i hok
        obtain ⟨h1, h2⟩ := okB_spec hok
        split at hk
        · rename_i hw
          exact ⟨o, undef, ho, ⟨h1, h2, by rw [hw]; simp⟩, ih _ _ _ _ hl hk⟩
        · rename_i hw
          split at hk
          · rename_i v h' hd
            obtain ⟨rfl, hk⟩ := hk
            exact ⟨o, v, ho, ⟨h1, h2, by rw [hw]; exact hd⟩, ih _ _ _ _ hl hk⟩
          · exact hk.elim
    · cases hp
  | only i k ih =>
    intro l R a h hp hk
    simp only [planK] at hp
    split at hp
    · rename_i o l' ho hl
      cases hp
      simp only [seqM] at hk
      split at hk
      · exact hk.elim
      · rename_i hok
        obtain ⟨h1, h2⟩ := okB_spec hok
        show opI P ops i a h _
        unfold opI
        rw [ho]
        refine ⟨h1, h2, ?_⟩
        split at hk
        · rename_i hw; rw [hw]; exact ⟨hk.1, ih _ _ _ _ hl hk.2⟩
        · rename_i hw
          rw [hw, if_pos rfl]
          split at hk
          · rename_i f args _ hop
            rw [hop]
            exact callR.mono (fun v h (hk : _ ∧ _) => ⟨hk.1, ih _ _ _ _ hl hk.2⟩) hk
          · rename_i it hop
            rw [hop]
            exact opR.mono (op := .next it false) (K := contK (fun a h => Keeps P ops R a h ∧ seqM P ops (Q .normal) l' R a h) o.dst a) (fun v h hk => ⟨hk.1, ih _ _ _ _ hl hk.2⟩) hk
          · split at hk
            · rename_i v h' hd
              exact opR_of_dop hd ⟨hk.1, ih _ _ _ _ hl hk.2⟩
            · exact hk.elim
    · cases hp
  | two => intro l R a h hp; cases hp
  | three => intro l R a h hp; cases hp

/-- A condition, at a value. -/
def condV (v : Value) (F G : AAct → AH → Prop) (a : AAct) (h : AH) : Prop :=
  match v with
  | .bool true => F a h
  | .bool false => G a h
  | _ => False

theorem condV_true {F G : AAct → AH → Prop} {a : AAct} {h : AH} : condV (.bool true) F G a h = F a h := rfl
theorem condV_false {F G : AAct → AH → Prop} {a : AAct} {h : AH} : condV (.bool false) F G a h = G a h := rfl

theorem condV_of {b : Bool} {F G : AAct → AH → Prop} {a : AAct} {h : AH} (ht : b = true → F a h) (hf : b = false → G a h) : condV (.bool b) F G a h := by
  cases b
  · exact hf rfl
  · exact ht rfl

/-- AW, straight on: loops, drawn regions, and ranges over functions, stand as they are. -/
def wpA (P : Program) (rd : Option Nat) : Code → (Exit → AAct → AH → Prop) → AAct → AH → Prop
  | .skip, Q, a, h => Q .normal a h
  | .ret, Q, a, h => Q .ret a h
  | .exit id, Q, a, h => Q (.exit id) a h
  | .goto l, Q, a, h => Q (.goto l) a h
  | .label _, Q, a, h => Q .normal a h
  | .seq x y, Q, a, h => wpA P rd x (thenQ (wpA P rd y Q) Q) a h
  | .block id c, Q, a, h => wpA P rd c (blockQ id Q) a h
  | .cond c x y, Q, a, h => cOK c = true ∧ condV (a.ev c) (wpA P rd x Q) (wpA P rd y Q) a h
  | .region _ ops false, Q, a, h => opsM P ops (Q .normal) ops.toList a h
  | c, Q, a, h => AW P rd c Q a h

theorem wpA_sound {rd : Option Nat} : ∀ (c : Code) (Q : Exit → AAct → AH → Prop) (a : AAct) (h : AH), wpA P rd c Q a h → AW P rd c Q a h := by
  intro c
  induction c with
  | skip => intro Q a h hq; exact AW.skip hq
  | ret => intro Q a h hq; exact AW.ret hq
  | exit id => intro Q a h hq; exact AW.exit hq
  | goto l => intro Q a h hq; exact AW.goto hq
  | label l => intro Q a h hq; exact AW.label hq
  | seq x y ihx ihy =>
    intro Q a h hq
    refine AW.seq ((ihx _ _ _ hq).mono ?_)
    intro e a h hk
    cases e <;> first | exact ihy _ _ _ hk | exact hk
  | block id c ih => intro Q a h hq; exact AW.block (ih _ _ _ hq)
  | cond c x y ihx ihy =>
    intro Q a h hq
    obtain ⟨hc, hk⟩ := hq
    generalize hv : a.ev c = v at hk
    unfold condV at hk
    split at hk
    · exact AW.cond (t := true) hc hv (ihx _ _ _ hk)
    · exact AW.cond (t := false) hc hv (ihy _ _ _ hk)
    · exact hk.elim
  | region id ops draw =>
    intro Q a h hq
    cases draw with
    | false => exact AW.regionL (opsM_sound _ _ _ hq)
    | true => exact hq
  | _ => intro Q a h hq; exact hq

theorem contK_app (F : AAct → AH → Prop) (d : Option Tmp) (a : AAct) (v : Value) (h : AH) : contK F d a v h = F (a.put d v) h := rfl
theorem Keeps_nil (ops : Array Oper) (a : AAct) (h : AH) : Keeps P ops [] a h = True := by
  apply propext; simp [Keeps]
theorem thenQ_normal (N : AAct → AH → Prop) (Q : Exit → AAct → AH → Prop) (a : AAct) (h : AH) : thenQ N Q .normal a h = N a h := rfl
theorem thenQ_ret (N : AAct → AH → Prop) (Q : Exit → AAct → AH → Prop) (a : AAct) (h : AH) : thenQ N Q .ret a h = Q .ret a h := rfl
theorem thenQ_exit (N : AAct → AH → Prop) (Q : Exit → AAct → AH → Prop) (i : Nat) (a : AAct) (h : AH) : thenQ N Q (.exit i) a h = Q (.exit i) a h := rfl
theorem blockQ_normal (i : Nat) (Q : Exit → AAct → AH → Prop) (a : AAct) (h : AH) : blockQ i Q .normal a h = Q .normal a h := rfl
theorem blockQ_ret (i : Nat) (Q : Exit → AAct → AH → Prop) (a : AAct) (h : AH) : blockQ i Q .ret a h = Q .ret a h := rfl
theorem blockQ_exit (i j : Nat) (Q : Exit → AAct → AH → Prop) (a : AAct) (h : AH) : blockQ i Q (.exit j) a h = if j = i then Q .normal a h else Q (.exit j) a h := rfl
theorem ev_func (a : AAct) (f : FuncId) : a.ev (.func f) = .func (.func f) #[] #[] := rfl
theorem wanted_none (dst : Option Tmp) (op : Op) (ty : TypeId) (pos : String) (after : Array Edge) (y : Nat → Option Bool) : Region.wanted { dst := dst, op := op, type := ty, pos := pos, after := after, guard := none } y = true := rfl
theorem wanted_some (dst : Option Tmp) (op : Op) (ty : TypeId) (pos : String) (after : Array Edge) (j : Nat) (b : Bool) (y : Nat → Option Bool) : Region.wanted { dst := dst, op := op, type := ty, pos := pos, after := after, guard := some (j, b) } y = (y j == some b) := rfl
theorem callR_func (P : Program) (g : FuncId) (xs ys : Array Value) (args : List Value) (h : AH) (K : Value → AH → Prop) : callR P (.func (.func g) xs ys) args h K = ACall P g (xs.toList ++ args ++ ys.toList) h K := rfl
theorem put_tm (a : AAct) (t : Tmp) (v : Value) (i : Nat) : (a.put (some t) v).tm i = if i = t then v else a.tm i := rfl
theorem put_none (a : AAct) (v : Value) : a.put none v = a := rfl
theorem put_df (a : AAct) (d : Option Tmp) (v : Value) : (a.put d v).df = a.df := by cases d <;> rfl
theorem ev_tmp (a : AAct) (t : Nat) : a.ev (.tmp t) = a.tm t := rfl
theorem ev_const (a : AAct) (v : Value) : a.ev (.const v) = v := rfl
def bodyR (P : Program) (rs : List ResultVar) (K : Value → AH → Prop) (e : Exit) (a : AAct) (h : AH) : Prop :=
  (e = .normal ∨ e = .ret) ∧ ∃ h' vs, closeMarks a.df h = some h' ∧ resL P a.tm h' rs = some vs ∧ K (resV vs) h'

theorem ex_some1 {α : Type} {x : α} {K : α → Prop} : (∃ v, some x = some v ∧ K v) = K x := by
  apply propext
  constructor
  · rintro ⟨v, e, k⟩; cases e; exact k
  · exact fun k => ⟨x, rfl, k⟩

theorem ACall.of_wp {g : FuncId} {fn : Func} {c : Code} {args : List Value} {h : AH} {K : Value → AH → Prop} (N : Nat) (rs : List ResultVar) (hf : P.funcs[g]? = some fn) (hb : fn.body = some c) (hn : (fn.name == "runtime.NumGoroutine") = false)
    (hN : args.length + (fn.ntmps - args.length) = N) (hrs : fn.results.toList = rs)
    (hw : ∀ a : AAct, a.n = N → a.df = [] → (∀ i, a.tm i = args.getD i undef) → wpA P none c (bodyR P rs K) a h) : ACall P g args h K := by
  refine ACall.of_body hf hb hn (wpA_sound _ _ _ _ ?_)
  have := hw (enterA fn args) hN rfl (fun _ => rfl)
  subst hrs
  exact this

section eqs
variable {rd : Option Nat} {Q : Exit → AAct → AH → Prop} {a : AAct} {h : AH}
theorem wpA_skip : wpA P rd .skip Q a h = Q .normal a h := rfl
theorem wpA_ret : wpA P rd .ret Q a h = Q .ret a h := rfl
theorem wpA_exit {i : Nat} : wpA P rd (.exit i) Q a h = Q (.exit i) a h := rfl
theorem wpA_seq {x y : Code} : wpA P rd (.seq x y) Q a h = wpA P rd x (thenQ (wpA P rd y Q) Q) a h := rfl
theorem wpA_block {i : Nat} {c : Code} : wpA P rd (.block i c) Q a h = wpA P rd c (blockQ i Q) a h := rfl
theorem wpA_region {i : Nat} {ops : Array Oper} : wpA P rd (.region i ops false) Q a h = opsM P ops (Q .normal) ops.toList a h := rfl
theorem wpA_draw {i : Nat} {ops : Array Oper} : wpA P rd (.region i ops true) Q a h = AW P rd (.region i ops true) Q a h := rfl
theorem wpA_loop {c : Code} : wpA P rd (.loop c) Q a h = AW P rd (.loop c) Q a h := rfl
theorem opsM_nil {ops : Array Oper} {N : AAct → AH → Prop} : opsM P ops N [] a h = N a h := rfl
theorem opsM_cons {ops : Array Oper} {N : AAct → AH → Prop} {o : Oper} {l : List Oper} : opsM P ops N (o :: l) a h = (match okB o a with
    | false => False
    | true => match Region.wanted o (yieldedA ops a) with
      | false => opsM P ops N l (a.put o.dst undef) h
      | true => match o.op with
        | .call { callee := .value f, args, .. } => callR P (a.ev f) (args.toList.map a.ev) h (contK (opsM P ops N l) o.dst a)
        | .next it false => NextW (a.ev it) h (contK (opsM P ops N l) o.dst a)
        | op => match dop P a.ev op h with
          | some (v, h') => opsM P ops N l (a.put o.dst v) h'
          | none => False) := rfl
end eqs

end
end Go.Ab

namespace Go.Ab

def SlOf (h : AH) (v : Value) (vs : List Value) : Prop :=
  ∃ p l c, v = .slice p l c ∧ l = vs.length ∧ (∀ q, p = some q → q.spot = none) ∧ (vs = [] ∨ ∃ A off o cs, p = some ⟨A, off, none⟩ ∧ h.get A = some o ∧ o.cells? = some cs ∧ ∀ (i : Nat) (x : Value), vs[i]? = some x → cs[off + i]? = some x)

theorem SlOf.len {P : Program} {h : AH} {v : Value} {vs : List Value} (hs : SlOf h v vs) {t e : TypeId} (ht : P.underlying t = some (.slice e)) : aLen P t v h = some (.int .i64 vs.length) := by
  obtain ⟨p, l, c, rfl, rfl, _, _⟩ := hs
  simp only [aLen, ht]

/-- Types: a slice of elements of one cell each. -/
structure Sl1 (P : Program) (t e : TypeId) : Prop where
  sl : P.underlying t = some (.slice e)
  one : ∃ i, P.info? e = some i ∧ i.size = 1
  flat : ∃ d, P.underlying e = some d ∧ aggT d = false

theorem SlOf.at {P : Program} {h : AH} {v : Value} {vs : List Value} (hs : SlOf h v vs) {t e : TypeId} (ht : Sl1 P t e) {i : Nat} {x : Value} {k : IntKind} (hx : vs[i]? = some x) :
    ∃ q, aIndexAddr P t v (.int k i) = some q ∧ aLoad P e q h = some x := by
  obtain ⟨p, l, c, rfl, rfl, hsp, hcs⟩ := hs
  have hlt : i < vs.length := (List.getElem?_eq_some_iff.1 hx).1
  rcases hcs with rfl | ⟨A, off, o, cs, rfl, hg, hc, hall⟩
  · simp at hx
  · obtain ⟨ie, hi, h1⟩ := ht.one
    obtain ⟨d, hd, hagg⟩ := ht.flat
    refine ⟨.pointer (some ⟨A, off + i, none⟩), ?_, ?_⟩
    · simp only [aIndexAddr, ht.sl, hi]
      rw [if_pos ⟨by omega, by omega⟩, h1]; simp
    · simp only [aLoad, hg, Option.bind_some, hc, hd, hagg, Bool.false_eq_true, if_false]
      exact hall i x hx

theorem SlOf.sub {h h' : AH} {v : Value} {vs : List Value} (hs : SlOf h v vs) (hh : Sub h h') : SlOf h' v vs := by
  obtain ⟨p, l, c, rfl, rfl, hsp, hcs⟩ := hs
  refine ⟨p, _, c, rfl, rfl, hsp, ?_⟩
  rcases hcs with e | ⟨A, off, o, cs, rfl, hg, hc, hall⟩
  · exact .inl e
  · exact .inr ⟨A, off, o, cs, rfl, hh _ _ hg, hc, hall⟩

end Go.Ab

namespace Go.Ab

inductive T (α : Type) where
  | leaf
  | node (l : T α) (v : Option α) (r : T α)

namespace T
variable {α : Type}
def full : Nat → T α
  | 0 => .leaf
  | d + 1 => .node (full d) none (full d)

def get : T α → Nat → Option α
  | .leaf, _ => none
  | .node _l v _r, 0 => v
  | .node l _v r, k + 1 => if k % 2 = 0 then l.get (k / 2) else r.get (k / 2)

def put (o : Option α) : T α → Nat → Option (T α)
  | .leaf, _ => none
  | .node l _ r, 0 => some (.node l o r)
  | .node l v r, k + 1 => if k % 2 = 0 then (l.put o (k / 2)).map (fun l' => .node l' v r) else (r.put o (k / 2)).map (fun r' => .node l v r')

end T

/-- An activation and a heap, laid for evaluation. -/
structure EA where
  n : Nat
  base : Nat → Value
  tm : T Value
  df : List Nat

structure EH where
  next : Nat
  hp : T AObj

def EA.at (a : EA) (i : Nat) : Value := match a.tm.get i with
  | some v => v
  | none => a.base i

def EA.den (a : EA) : AAct := { n := a.n, tm := a.at, df := a.df }
def EH.den (h : EH) : AH := { next := h.next, get := h.hp.get }

def EA.put? (a : EA) (d : Option Tmp) (v : Value) : Option EA :=
  match d with
  | none => some a
  | some t => if t < a.n then (match a.tm.put (some v) t with | some tm => some { a with tm := tm } | none => none) else none

def EA.puts? (a : EA) : List (Tmp × Value) → Option EA
  | [] => some a
  | (t, v) :: r => match a.put? (some t) v with
    | some a' => a'.puts? r
    | none => none

def roots : Value → List Nat
  | .pointer (some a) => [a.block]
  | .slice (some a) _ _ => [a.block]
  | .map (some M) => [M]
  | _ => []

/-- A number, brought to its numeral ahead of what follows. -/
def forceN {β : Type} (n : Nat) (k : Nat → β) : β :=
  match n with
  | .zero => k 0
  | .succ m => k (.succ m)

def force {β : Type} (v : Value) (k : Value → β) : β :=
  match v with
  | .bool true => k (.bool true)
  | .bool false => k (.bool false)
  | .int kd (.ofNat n) => forceN n fun n => k (.int kd (.ofNat n))
  | .int kd (.negSucc n) => forceN n fun n => k (.int kd (.negSucc n))
  | .pointer (some ⟨b, o, none⟩) => forceN b fun b => forceN o fun o => k (.pointer (some ⟨b, o, none⟩))
  | .slice (some ⟨b, o, none⟩) l c => forceN b fun b => forceN o fun o => forceN l fun l => forceN c fun c => k (.slice (some ⟨b, o, none⟩) l c)
  | v => k v

def forceL {β : Type} : List Value → (List Value → β) → β
  | [], k => k []
  | x :: xs, k => force x fun x => forceL xs fun xs => k (x :: xs)

def forceO {β : Type} (o : Option AObj) (k : Option AObj → β) : β :=
  match o with
  | none => k none
  | some (.row c e true) => forceL c fun c => k (some (.row c e true))
  | some (.grow c e) => forceL c fun c => k (some (.grow c e))
  | o => k o

/-- The heap behind an operation, laid again. -/
def EH.relay (h : EH) (h' : AH) : List Nat → Option EH
  | [] => forceN h'.next fun n => some { h with next := n }
  | A :: as => forceO (h'.get A) fun o => match h.hp.put o A with
    | some t => EH.relay { h with hp := t } h' as
    | none => none

def touched (ev : Operand → Value) (op : Op) : List Nat :=
  match op with
  | .store _ x _ => roots (ev x)
  | .mapUpdate _ m _ _ | .insert _ m _ _ | .mapEntry _ m _ | .entryStore _ m _ _ => roots (ev m)
  | .call c => match c.args.toList with
    | x :: _ => roots (ev x)
    | [] => []
  | _ => []

structure Env where
  P : Program
  plans : List (Nat × Nat × Plan)
  pures : List (FuncId × Value)

/-- An object, to be read alone. -/
def AObj.view : AObj → Option AObj
  | .row c e _ => some (.row c e false)
  | .grow c e => some (.row c e false)
  | _ => none

def T.mapO {α β : Type} (f : α → Option β) : T α → T β
  | .leaf => .leaf
  | .node l v r => .node (l.mapO f) (v.bind f) (r.mapO f)

def EH.view (h : EH) : EH := { next := h.next, hp := h.hp.mapO AObj.view }

def findV (g : FuncId) : List (FuncId × Value) → Option Value
  | [] => none
  | (f, v) :: r => if f = g then some v else findV g r

def findPlan (id : Nat) (ops : Array Oper) : List (Nat × Nat × Plan) → Option Plan
  | [] => none
  | (i, s, p) :: r => if i = id ∧ s = ops.size then (if planOK ops (Array.replicate ops.size false) [] p && decide (p.len ≤ ops.size) then some p else findPlan id ops r) else findPlan id ops r

def putL (tm : T Value) (i : Nat) : List Value → Option (T Value)
  | [] => some tm
  | v :: vs => match tm.put (some v) i with
    | some t => putL t (i + 1) vs
    | none => none

def enterE (fn : Func) (args : List Value) : Option EA :=
  match putL (T.full 8) 0 args with
  | some t => some { n := args.length + (fn.ntmps - args.length), base := fun _ => undef, tm := t, df := [] }
  | none => none

def newE (h : EH) (o : AObj) : Option EH := match h.hp.put (some o) h.next with
  | some t => some { next := h.next + 1, hp := t }
  | none => none
def setE (h : EH) (A : Nat) (o : AObj) : Option EH := match h.hp.put (some o) A with
  | some t => some { h with hp := t }
  | none => none

def closeE : List Nat → EH → Option EH
  | [], h => some h
  | A :: as, h => match h.hp.get A with
    | some (.dfr true) => match setE h A (.dfr false) with
      | some h' => closeE as h'
      | none => none
    | _ => none

abbrev CallK := FuncId → List Value → EH → (Value → EH → Bool) → Bool
abbrev YieldK := Nat → List Value → EH → (Value → EH → Bool) → Bool

def evNext (p : Value) (h : EH) (k : Value → EH → Bool) : Bool :=
  match p with
  | .pointer (some ⟨I, 0, none⟩) =>
    match h.hp.get I with
    | some (.iter none _ _ _) => k (.tuple #[.bool false]) h
    | some (.iter (some M) since seen stepped) =>
      match h.hp.get M with
      | some (.map es clk) => !nextBad es seen stepped && (candsOf es since seen).all fun x => match x with
        | some e => (match setE h I (.iter (some M) since (seen ++ [e.born]) clk) with
          | some h' => k (.tuple #[.bool true, e.key, e.val]) h'
          | none => false)
        | none => k (.tuple #[.bool false]) h
      | _ => false
    | _ => false
  | _ => false

/-! The same operation, laid so that little is unfolded at each step. -/
def dMove (ev : Operand → Value) (h : AH) (x : Operand) : Option (Value × AH) := some (ev x, h)
def dPick (ev : Operand → Value) (h : AH) (c x y : Operand) : Option (Value × AH) := match ev c with
  | .bool t => some (if t then ev x else ev y, h)
  | _ => none
def dBox (ev : Operand → Value) (h : AH) (t : TypeId) (x : Operand) : Option (Value × AH) := aBox t (ev x) h
def dBuild (P : Program) (ev : Operand → Value) (h : AH) (t : TypeId) (ps : Array (Nat × Operand)) : Option (Value × AH) := (aBuild P t (ps.toList.map fun p => (p.1, ev p.2))).map fun v => (v, h)
def dBuildSlice (P : Program) (ev : Operand → Value) (h : AH) (t : TypeId) (n : Nat) (ps : Array (Nat × Operand)) : Option (Value × AH) := aBuildSlice P t n (ps.toList.map fun p => (p.1, ev p.2)) h
def dLoad (P : Program) (ev : Operand → Value) (h : AH) (t : TypeId) (x : Operand) : Option (Value × AH) := (aLoad P t (ev x) h).map fun v => (v, h)
def dStore (P : Program) (ev : Operand → Value) (h : AH) (t : TypeId) (x y : Operand) : Option (Value × AH) := (aStore P t (ev x) (ev y) h).map fun h' => (undef, h')
def dNil (ev : Operand → Value) (h : AH) (x : Operand) : Option (Value × AH) := (aNil (ev x)).map fun v => (v, h)
def dBin (P : Program) (ev : Operand → Value) (h : AH) (op : BinOp) (t : TypeId) (x y : Operand) : Option (Value × AH) := (aBin P op t (ev x) (ev y)).map fun v => (v, h)
def dUn (ev : Operand → Value) (h : AH) (op : UnOp) (x : Operand) : Option (Value × AH) := (aUn op (ev x)).map fun v => (v, h)
def dConv (P : Program) (ev : Operand → Value) (h : AH) (s d : TypeId) (x : Operand) : Option (Value × AH) := match aBytes P s d (ev x) h with
    | some r => some r
    | none => (aConv P s d (ev x)).map fun v => (v, h)
def dIface (P : Program) (ev : Operand → Value) (h : AH) (t : TypeId) (x : Operand) : Option (Value × AH) := if isConcrete P t then some (.iface t (ev x), h) else none
def dFunc (ev : Operand → Value) (h : AH) (f : Fn) (a b : Array Operand) : Option (Value × AH) := match f with
  | .func f => some (.func (.func f) (a.map ev) (b.map ev), h)
  | _ => none
def dMap (h : AH) (r : Option Operand) : Option (Value × AH) := match r with
  | none => some (.map (some h.next), h.new (.map [] 0))
  | some _ => none
def dMakeSlice (P : Program) (ev : Operand → Value) (h : AH) (t : TypeId) (l c : Operand) : Option (Value × AH) := aMakeSlice P t (ev l) (ev c) h
def dSlice (P : Program) (ev : Operand → Value) (h : AH) (t : TypeId) (x : Operand) (lo hi mx : Option Operand) : Option (Value × AH) := match mx with
  | none => (aSlice P t (ev x) (oev ev lo) (oev ev hi)).map fun v => (v, h)
  | some _ => none
def dFieldAddr (P : Program) (ev : Operand → Value) (h : AH) (t : TypeId) (x : Operand) (f : Nat) : Option (Value × AH) := (aFieldAddr P t f (ev x)).map fun v => (v, h)
def dField (P : Program) (ev : Operand → Value) (h : AH) (t : TypeId) (x : Operand) (f : Nat) : Option (Value × AH) := (aField P t (ev x) f).map fun v => (v, h)
def dIndexAddr (P : Program) (ev : Operand → Value) (h : AH) (t : TypeId) (x i : Operand) : Option (Value × AH) := (aIndexAddr P t (ev x) (ev i)).map fun v => (v, h)
def dIndex (P : Program) (ev : Operand → Value) (h : AH) (t : TypeId) (x i : Operand) : Option (Value × AH) := (aIndex P t (ev x) (ev i)).map fun v => (v, h)
def dLookup (P : Program) (ev : Operand → Value) (h : AH) (t : TypeId) (x i : Operand) (ok : Bool) : Option (Value × AH) := (aLookup P t (ev x) (ev i) ok h).map fun v => (v, h)
def dUpdate (P : Program) (ev : Operand → Value) (h : AH) (t : TypeId) (m k v : Operand) : Option (Value × AH) := (aUpdate P t (ev m) (ev k) (ev v) h).map fun h' => (undef, h')
def dEntry (P : Program) (ev : Operand → Value) (h : AH) (t : TypeId) (m k : Operand) : Option (Value × AH) := aEntry P t (ev m) (ev k) h
def dEntryStore (ev : Operand → Value) (h : AH) (m s v : Operand) : Option (Value × AH) := (aEntryStore (ev m) (ev s) (ev v) h).map fun h' => (undef, h')
def dRange (P : Program) (ev : Operand → Value) (h : AH) (t : TypeId) (x : Operand) : Option (Value × AH) := aRange P t (ev x) h
def dIter (ev : Operand → Value) (h : AH) (x : Operand) : Option (Value × AH) := (aIterEntry (ev x) h).map fun v => (v, h)
def dExtract (ev : Operand → Value) (h : AH) (x : Operand) (i : Nat) : Option (Value × AH) := (aExtract (ev x) i).map fun v => (v, h)
def dCall (P : Program) (ev : Operand → Value) (h : AH) (c : Call) : Option (Value × AH) := match c.callee with
  | .builtin b => aBuiltin P b c.argTypes (c.args.toList.map ev) h
  | _ => none

def dopF (P : Program) (ev : Operand → Value) (op : Op) (h : AH) : Option (Value × AH) :=
  match op with
  | .move x => dMove ev h x
  | .assign x => dMove ev h x
  | .pick c x y => dPick ev h c x y
  | .alloc t => aAlloc P t h
  | .box t x => dBox ev h t x
  | .build t ps => dBuild P ev h t ps
  | .buildSlice t n ps => dBuildSlice P ev h t n ps
  | .load t x => dLoad P ev h t x
  | .store t x y => dStore P ev h t x y
  | .nilCheck x => dNil ev h x
  | .binOp op t x y _ => dBin P ev h op t x y
  | .unOp op _ x => dUn ev h op x
  | .convert s d x => dConv P ev h s d x
  | .makeInterface t x => dIface P ev h t x
  | .makeFunc f a b => dFunc ev h f a b
  | .makeMap _ r => dMap h r
  | .makeSlice t l c => dMakeSlice P ev h t l c
  | .slice t x lo hi mx => dSlice P ev h t x lo hi mx
  | .fieldAddr t x f => dFieldAddr P ev h t x f
  | .field t x f => dField P ev h t x f
  | .indexAddr t x i => dIndexAddr P ev h t x i
  | .index t x i => dIndex P ev h t x i
  | .lookup t x i ok => dLookup P ev h t x i ok
  | .mapUpdate t m k v => dUpdate P ev h t m k v
  | .insert t m k v => dUpdate P ev h t m k v
  | .mapEntry t m k => dEntry P ev h t m k
  | .entryStore _ m s v => dEntryStore ev h m s v
  | .range t x => dRange P ev h t x
  | .entry x => dIter ev h x
  | .extract x i => dExtract ev h x i
  | .call c => dCall P ev h c
  | _ => none

def stays (P : Program) (ev : Operand → Value) (op : Op) (h : AH) : Bool :=
  match op with
  | .convert s d x => (aBytes P s d (ev x) h).isNone
  | op => pureK op || readK op

def evD (P : Program) (ev : Operand → Value) (op : Op) (h : EH) (k : Value → EH → Bool) : Bool :=
  match dopF P ev op h.den with
  | some (v, h') =>
    if stays P ev op h.den then force v fun v => k v h
    else match h.relay h' (h.next :: touched ev op) with
      | some h2 => force v fun v => k v h2
      | none => false
  | none => false

def evR (P : Program) (call : CallK) (yield : YieldK) (ev : Operand → Value) (op : Op) (h : EH) (k : Value → EH → Bool) : Bool :=
  match op with
  | .call { callee := .value f, args, .. } =>
    match ev f with
    | .func (.func g) first cap => call g (first.toList ++ args.toList.map ev ++ cap.toList) h k
    | .func (.yield L) first _ => yield L (first.toList ++ args.toList.map ev) h k
    | _ => false
  | .next it false => evNext (ev it) h k
  | op => evD P ev op h k

def dstB (n : Nat) : Option Tmp → Bool
  | some t => decide (t < n)
  | none => true

def evOp (P : Program) (call : CallK) (yield : YieldK) (ops : Array Oper) (o : Oper) (a : EA) (h : EH) (k : EA → EH → Bool) : Bool :=
  o.op.operands.toList.all cOK && dstB a.n o.dst &&
  (match o.guard with
   | none => evR P call yield a.den.ev o.op h fun v h' => match a.put? o.dst v with
     | some a' => k a' h'
     | none => false
   | some _ => if Region.wanted o (yieldedA ops a.den) then evR P call yield a.den.ev o.op h (fun v h' => match a.put? o.dst v with
       | some a' => k a' h'
       | none => false)
     else match a.put? o.dst undef with
       | some a' => k a' h
       | none => false)

def evTake (P : Program) (ops : Array Oper) (o : Oper) (a : EA) (h : EH) (k : Value → EA → Bool) : Bool :=
  o.op.operands.toList.all cOK && dstB a.n o.dst &&
  (if Region.wanted o (yieldedA ops a.den) then (match dopF P a.den.ev o.op h.den with
    | some (v, _) => stays P a.den.ev o.op h.den && force v fun v => (match a.put? o.dst v with
      | some a' => k v a'
      | none => false)
    | none => false)
  else match a.put? o.dst undef with
    | some a' => k undef a'
    | none => false)

def evOps (P : Program) (call : CallK) (yield : YieldK) (ops : Array Oper) : List Oper → EA → EH → (EA → EH → Bool) → Bool
  | [], a, h, k => k a h
  | o :: l, a, h, k => evOp P call yield ops o a h fun a h => evOps P call yield ops l a h k

mutual
def sameV : Value → Value → Bool
  | .bool a, .bool b => a == b
  | .int k n, .int j m => decide (k = j) && decide (n = m)
  | .pointer none, .pointer none => true
  | .pointer (some ⟨a, o, none⟩), .pointer (some ⟨b, u, none⟩) => a == b && o == u
  | .slice none l c, .slice none m d => l == m && c == d
  | .slice (some ⟨a, o, none⟩) l c, .slice (some ⟨b, u, none⟩) m d => a == b && o == u && l == m && c == d
  | .map none, .map none => true
  | .map (some a), .map (some b) => a == b
  | .nilFunc, .nilFunc => true
  | .nilIface, .nilIface => true
  | .agg ⟨xs⟩, .agg ⟨ys⟩ => sameVs xs ys
  | .tuple ⟨xs⟩, .tuple ⟨ys⟩ => sameVs xs ys
  | .func (.func f) ⟨xs⟩ ⟨us⟩, .func (.func g) ⟨ys⟩ ⟨vs⟩ => f == g && sameVs xs ys && sameVs us vs
  | .func (.yield f) ⟨xs⟩ ⟨us⟩, .func (.yield g) ⟨ys⟩ ⟨vs⟩ => f == g && sameVs xs ys && sameVs us vs
  | _, _ => false
def sameVs : List Value → List Value → Bool
  | [], [] => true
  | x :: xs, y :: ys => sameV x y && sameVs xs ys
  | _, _ => false
end

def keepsE (P : Program) (ops : Array Oper) (R : List (Oper × Value)) (a : EA) (h : EH) : Bool :=
  R.all fun p => p.1.op.operands.toList.all cOK && dstB a.n p.1.dst &&
    (if Region.wanted p.1 (yieldedA ops a.den) then (match dopF P a.den.ev p.1.op h.den with
      | some (v, _) => sameV v p.2 && stays P a.den.ev p.1.op h.den
      | none => false) else sameV p.2 undef)

def evI (P : Program) (call : CallK) (yield : YieldK) (ops : Array Oper) (i : Nat) (a : EA) (h : EH) (k : EA → EH → Bool) : Bool :=
  match ops[i]? with
  | some o => evOp P call yield ops o a h k
  | none => false

def evPlan (P : Program) (call : CallK) (yield : YieldK) (ops : Array Oper) : Plan → List (Oper × Value) → EA → EH → (EA → EH → Bool) → Bool
  | .done, _, a, h, k => k a h
  | .take i _ p, R, a, h, k => (match ops[i]? with
    | some o => evTake P ops o a h fun _ a => evPlan P call yield ops p R a h k
    | none => false)
  | .watch i _ p, R, a, h, k => (match ops[i]? with
    | some o => evTake P ops o a h fun v a => evPlan P call yield ops p ((o, v) :: R) a h k
    | none => false)
  | .only i p, R, a, h, k => evI P call yield ops i a h fun a h => keepsE P ops R a h && evPlan P call yield ops p R a h k
  | .two i p j q, R, a, h, k => (evI P call yield ops i a h fun a h => keepsE P ops R a h && evPlan P call yield ops p R a h k) && (evI P call yield ops j a h fun a h => keepsE P ops R a h && evPlan P call yield ops q R a h k)
  | .three i p j q x r, R, a, h, k => (evI P call yield ops i a h fun a h => keepsE P ops R a h && evPlan P call yield ops p R a h k) && (evI P call yield ops j a h fun a h => keepsE P ops R a h && evPlan P call yield ops q R a h k) && (evI P call yield ops x a h fun a h => keepsE P ops R a h && evPlan P call yield ops r R a h k)

def roundK (L : Nat) (k : Value → EH → Bool) (e : Exit) (h : EH) : Bool :=
  match h.hp.get L with
  | some (.loop l) =>
    (match e with
    | .normal => (match setE h L (.loop { l with state := .ready, pending := none }) with | some h' => k (.bool true) h' | none => false)
    | .ret => (match setE h L (.loop { l with state := .done, pending := some .ret }) with | some h' => k (.bool false) h' | none => false)
    | .exit id => (match setE h L (.loop { l with state := .done, pending := some (.exit id) }) with | some h' => k (.bool false) h' | none => false)
    | .goto t => (match setE h L (.loop { l with state := .done, pending := some (.goto t) }) with | some h' => k (.bool false) h' | none => false)
    | _ => false)
  | _ => false

abbrev CodeK := Option Nat → Code → EA → EH → (Exit → EA → EH → Bool) → Bool

def isReady : LoopState → Bool
  | .ready => true
  | _ => false
def isBusy : LoopState → Bool
  | .busy => true
  | _ => false

def evYield (ec : CodeK) (L : Nat) (args : List Value) (h : EH) (k : Value → EH → Bool) : Bool :=
  match h.hp.get L with
  | some (.loop l) =>
    decide (args.length = l.params.size) &&
    (match ({ n := l.n, base := l.tm, tm := T.full 8, df := [] } : EA).puts? (l.params.toList.zip args) with
    | some a => ec (some L) l.assign a h fun e a1 h1 => match e with
      | .normal => (match h1.hp.get L with
        | some (.loop l1) => isReady l1.state && (match setE h1 L (.loop { l1 with state := .busy }) with
          | some h2 => ec (some L) l.body a1 h2 fun e _ h3 => roundK L k e h3
          | none => false)
        | _ => false)
      | _ => false
    | none => false)
  | _ => false

def evCall (P : Program) (ec : CodeK) (g : FuncId) (args : List Value) (h : EH) (k : Value → EH → Bool) : Bool :=
  match P.funcs[g]? with
  | some fn => (match fn.body with
    | some c => !(fn.name == "runtime.NumGoroutine") && (match enterE fn args with
      | some a => ec none c a h fun e a1 h1 =>
        (match e with | .normal => true | .ret => true | _ => false) &&
        (match closeE a1.df h1 with
        | some h2 => (match resL P a1.at h2.den fn.results.toList with
          | some vs => k (resV vs) h2
          | none => false)
        | none => false)
      | none => false)
    | none => false)
  | none => false

def rangeK (ec : CodeK) (rd : Option Nat) (L : Nat) (a : EA) (k : Exit → EA → EH → Bool) (_ : Value) (h : EH) : Bool :=
  match h.hp.get L with
  | some (.loop l) => !isBusy l.state && (match setE h L (.loop { l with state := .exhausted }) with
    | some h' => (match l.pending with
      | none => k .normal a h'
      | some c => ec rd c a h' k)
    | none => false)
  | _ => false

def evRange (P : Program) (ec : CodeK) (rd : Option Nat) (g : Operand) (ps : Array Tmp) (assign body : Code) (a : EA) (h : EH) (k : Exit → EA → EH → Bool) : Bool :=
  cOK g && (match a.den.ev g with
  | .func (.func gf) first cap =>
    match rd with
    | none => (match newE h (.dfr true) with
      | some h1 => (match newE h1 (.loop { state := .ready, pending := none, fn := 0, n := a.n, tm := a.at, params := ps, assign := assign, body := body, defers := h.next }) with
        | some h2 => evCall P ec gf (first.toList ++ [.func (.yield (h.next + 1)) #[] #[]] ++ cap.toList) h2 (rangeK ec rd (h.next + 1) { a with df := h.next :: a.df } k)
        | none => false)
      | none => false)
    | some L0 => (match h.hp.get L0 with
      | some (.loop l0) => (match newE h (.loop { state := .ready, pending := none, fn := 0, n := a.n, tm := a.at, params := ps, assign := assign, body := body, defers := l0.defers }) with
        | some h2 => evCall P ec gf (first.toList ++ [.func (.yield h.next) #[] #[]] ++ cap.toList) h2 (rangeK ec rd h.next a k)
        | none => false)
      | _ => false)
  | _ => false)

/-- A call; of a function that only reads, and hands back what is foretold: on a view of the heap. -/
def evCallV (E : Env) (ec : CodeK) (g : FuncId) (args : List Value) (h : EH) (k : Value → EH → Bool) : Bool :=
  match findV g E.pures with
  | some V => plain 9 V && (evCall E.P ec g args h.view (fun v _ => sameV v V) && k V h)
  | none => evCall E.P ec g args h k

def evC (E : Env) : Nat → Option Nat → Code → EA → EH → (Exit → EA → EH → Bool) → Bool
  | 0, _, _, _, _, _ => false
  | f + 1, rd, c, a, h, k =>
    match c with
    | .skip => k .normal a h
    | .ret => k .ret a h
    | .exit id => k (.exit id) a h
    | .goto l => k (.goto l) a h
    | .label _ => k .normal a h
    | .seq x y => evC E f rd x a h fun e a h => match e with
      | .normal => evC E f rd y a h k
      | e => k e a h
    | .cond c x y => cOK c && (match a.den.ev c with
      | .bool true => evC E f rd x a h k
      | .bool false => evC E f rd y a h k
      | _ => false)
    | .block id c => evC E f rd c a h fun e a h => match e with
      | .exit i => if i = id then k .normal a h else k (.exit i) a h
      | e => k e a h
    | .loop c => evC E f rd c a h fun e a h => match e with
      | .normal => evC E f rd (.loop c) a h k
      | e => k e a h
    | .region id ops draw => (match draw with
      | false => evOps E.P (fun g args h k => evCallV E (evC E f) g args h k) (fun L args h k => evYield (evC E f) L args h k) ops ops.toList a h fun a h => k .normal a h
      | true => (match findPlan id ops E.plans with
        | some p => evPlan E.P (fun g args h k => evCallV E (evC E f) g args h k) (fun L args h k => evYield (evC E f) L args h k) ops p [] a h fun a h => k .normal a h
        | none => false))
    | .rangeFunc g ps assign body => evRange E.P (evC E f) rd g ps assign body a h k
    | _ => false

end Go.Ab

namespace Go.Ab

def keptBut (l : List Nat) (h h' : AH) : Prop := ∀ A, A ∉ l → h'.get A = h.get A

theorem keptBut.same (l : List Nat) (h : AH) : keptBut l h h := fun _ _ => rfl
theorem keptBut.new {l : List Nat} {h : AH} {o : AObj} (hm : h.next ∈ l) : keptBut l h (h.new o) := fun A hA => by rw [AH.new_get, if_neg (fun e => hA (by rw [e]; exact hm))]
theorem keptBut.set {l : List Nat} {h : AH} {A : Nat} {o : AObj} (hm : A ∈ l) : keptBut l h (h.set A o) := fun B hB => by rw [AH.set_get, if_neg (fun e => hB (by rw [e]; exact hm))]
end Go.Ab

namespace Go.Ab


section
variable {P : Program} {call : CallK} {yield : YieldK} {ec : CodeK}

def AH.view (h : AH) : AH := { next := h.next, get := fun A => (h.get A).bind AObj.view }

theorem view_ro {o o' : AObj} (h : o.view = some o') : o'.own = false := by
  cases o <;> simp only [AObj.view] at h <;> cases h <;> rfl

theorem HR.view {ρ : Ren} {h : AH} {w : World} (hr : HR ρ h w) : HR ρ (AH.view h) w := by
  refine ⟨fun A o ha => ?_, fun A B o p r q h1 h2 _ _ _ how => ?_, hr.dom⟩
  · obtain ⟨o0, h0, hv⟩ := Option.bind_eq_some_iff.1 ha
    obtain ⟨r, hq, hor⟩ := hr.obj A o0 h0
    refine ⟨r, hq, ?_⟩
    cases o0 <;> simp only [AObj.view] at hv <;> cases hv
    · obtain ⟨cc, fr, hrow⟩ := hor
      exact ⟨cc, fr, hrow.heap, hrow.fits, hrow.cell, (fun hw => by cases hw), hrow.one⟩
    · obtain ⟨cc, fr, hrow, _⟩ := hor
      exact ⟨cc, fr, hrow.heap, hrow.fits, hrow.cell, (fun hw => by cases hw), hrow.one⟩
  · obtain ⟨_, _, e1⟩ := Option.bind_eq_some_iff.1 h1
    obtain ⟨_, _, e2⟩ := Option.bind_eq_some_iff.1 h2
    rw [view_ro e1, view_ro e2] at how; simp at how

theorem plain_only {ρ : Ren} : ∀ (n : Nat) (v v' : Value), plain n v = true → VR ρ v v' → v' = v := by
  intro n
  induction n with
  | zero => intro v v' h; cases h
  | succ n ih =>
    have arr : ∀ (xs xs' : Array Value), xs.toList.all (plain n) = true → xs.size = xs'.size → (∀ (i : Nat) (v v' : Value), xs[i]? = some v → xs'[i]? = some v' → VR ρ v v') → xs' = xs := by
      intro xs xs' hp hs hv
      apply Array.ext hs.symm
      intro i h1 h2
      have hx : xs[i]? = some xs[i] := Array.getElem?_eq_getElem h2
      have hx' : xs'[i]? = some xs'[i] := Array.getElem?_eq_getElem h1
      exact ih _ _ (List.all_eq_true.1 hp _ (by simp)) (hv i _ _ hx hx')
    intro v v' h hv
    cases hv with
    | bool b => rfl
    | int k n => rfl
    | string s => rfl
    | nilPtr => rfl
    | ptr h' => cases h
    | nilSlice l c => rfl
    | slice h' hc => cases h
    | slack h' hl hlim hc => cases h
    | slack0 h' => cases h
    | slip => cases h
    | nilMap => rfl
    | map h' => cases h
    | nilFunc => rfl
    | func hf h1 h2 h3 h4 => cases h
    | nilIface => rfl
    | iface h' => rw [ih _ _ h h']
    | agg h1 h2 => rw [arr _ _ h h1 h2]
    | tuple h1 h2 => rw [arr _ _ h h1 h2]

end
end Go.Ab

namespace Go.Ab

theorem ACall.wf {P : Program} {g : FuncId} {args : List Value} {h : AH} {K : Value → AH → Prop} (hE : Enters P g) (hc : WFH h → ACall P g args h K) : ACall P g args h K :=
  ⟨hE, fun ρ cargs w hl hr => (hc hr.wf).2 ρ cargs w hl hr⟩

theorem AW.wf {P : Program} {rd : Option Nat} {c : Code} {Q : Exit → AAct → AH → Prop} {a : AAct} {h : AH} (hc : WFH h → AW P rd c Q a h) : AW P rd c Q a h :=
  fun n ρ crd ca w hrd ha hr => hc hr.wf n ρ crd ca w hrd ha hr

def emptyH : AH := { next := 0, get := fun _ => none }

theorem HR.empty (w : World) : HR (fun _ => none) emptyH w := ⟨(fun A o h => by cases h), (fun A B o p r q h => by cases h), (fun A r h => by cases h)⟩

end Go.Ab

namespace Go.Ab

structure SlT (P : Program) (t e : TypeId) (B : Nat) (z : Value) : Prop where
  sl : P.underlying t = some (.slice e)
  info : ∃ i, P.info? e = some i ∧ i.size = 1 ∧ i.bytes = B ∧ i.zero = some z
  flat : ∃ d, P.underlying e = some d ∧ aggT d = false
  zp : plain 9 z = true
  zc : z.cells.toList = [z]
  zo : oneC z = true

theorem SlT.sl1 {P : Program} {t e : TypeId} {B : Nat} {z : Value} (h : SlT P t e B z) : Sl1 P t e :=
  ⟨h.sl, let ⟨i, a, b, _⟩ := h.info; ⟨i, a, b⟩, h.flat⟩

theorem eqBin_nil {P : Program} {t e : TypeId} (ht : P.underlying t = some (.slice e)) (p : Option Addr) (l c : Nat) : eqBin P .eql t (.slice p l c) (.slice none 0 0) = some (.bool p.isNone) := by
  unfold eqBin
  cases p <;> simp [guardOn, aEq, ht]

theorem SlOf.src {h : AH} {v : Value} {vs : List Value} (hs : SlOf h v vs) : srcCells 1 v h = some (vs.length, vs) := by
  obtain ⟨p, l, c, rfl, rfl, hsp, hcs⟩ := hs
  by_cases hz : vs = []
  · subst hz
    cases p with
    | none => rfl
    | some a =>
      obtain ⟨B, o, s⟩ := a
      have : s = none := hsp _ rfl
      subst this; rfl
  · rcases hcs with rfl | ⟨A, off, o, cs, rfl, hg, hc, hall⟩
    · exact absurd rfl hz
    · have hn : vs.length ≠ 0 := by simpa using hz
      have hlast : off + vs.length ≤ cs.length := by
        have hi : vs.length - 1 < vs.length := by omega
        have := hall (vs.length - 1) vs[vs.length - 1] (List.getElem?_eq_getElem hi)
        have := (List.getElem?_eq_some_iff.1 this).1
        omega
      have hval : (cs.drop off).take vs.length = vs := by
        apply List.ext_getElem?
        intro i
        rw [List.getElem?_take]
        split
        · rename_i hi
          rw [List.getElem?_drop, hall i vs[i] (List.getElem?_eq_getElem hi), List.getElem?_eq_getElem hi]
        · rename_i hi; rw [List.getElem?_eq_none (by omega)]
      simp only [srcCells, if_neg hn, hg, Option.bind_some, hc, Nat.mul_one, if_pos hlast, hval]

theorem aBuildSlice_empty {P : Program} {t e : TypeId} {B : Nat} {z : Value} (ht : SlT P t e B z) (h : AH) : aBuildSlice P t 0 [] h = some (.slice (some ⟨h.next, 0, none⟩) 0 0, h.new (.row [] e true)) := by
  obtain ⟨i, hi, h1, hb, hz⟩ := ht.info
  have hc : z.cells.size = 1 := by
    have := congrArg List.length ht.zc
    simpa using this
  simp only [aBuildSlice, ht.sl, hi, hz, h1, ht.zp, hc, fillL, zeros]
  simp [SL]

theorem SlT.zk {P : Program} {t e : TypeId} {B : Nat} {z : Value} (ht : SlT P t e B z) : zOK z = true := by simp [zOK, ht.zc, ht.zp, ht.zo]

/-- An append to a slice that has no room: all is moved to a new row. -/
theorem aAppend_first {P : Program} {t e : TypeId} {B : Nat} {z : Value} (ht : SlT P t e B z) {h : AH} {A : Nat} {x : Value} {vs : List Value} (hg : h.get A = some (.row [] e true)) (hx : srcCells 1 x h = some (vs.length, vs)) (hz : vs ≠ [])
    (hb : (2 * vs.length + 192) * B ≤ 281474976710656) (hm : vs.length < ML) : aAppend P #[t, t] (.slice (some ⟨A, 0, none⟩) 0 0) x h = some (.slice (some ⟨h.next, 0, none⟩) vs.length (SL + 1), h.new (.grow vs e)) := by
  obtain ⟨i, hi, h1, hbb, hzz⟩ := ht.info
  have hc : z.cells.size = 1 := by
    have := congrArg List.length ht.zc
    simpa using this
  have hn : vs.length ≠ 0 := by simpa using hz
  have hn' : ¬ vs.length ≤ 0 := by omega
  simp [aAppend, ht.sl, hi, hzz, h1, hc, isIntT, hx, hn, hg, AObj.cells?, hbb, hb, hm, SL, hn', ht.zk]

theorem aAppend_none {P : Program} {t e : TypeId} {B : Nat} {z : Value} (ht : SlT P t e B z) {h : AH} {A : Nat} {x : Value} (hx : srcCells 1 x h = some (0, [])) :
    aAppend P #[t, t] (.slice (some ⟨A, 0, none⟩) 0 0) x h = some (.slice (some ⟨A, 0, none⟩) 0 0, h) := by
  obtain ⟨i, hi, h1, hbb, hzz⟩ := ht.info
  have hc : z.cells.size = 1 := by
    have := congrArg List.length ht.zc
    simpa using this
  simp [aAppend, ht.sl, hi, hzz, h1, hc, isIntT, hx, ht.zk]

end Go.Ab

namespace Go.Ab
open Go.ChangeShapes Go.WideShapes Go.ChangeAt Go.RowKit

theorem add_eq (b o i : Nat) : (Addr.add ⟨b, o, none⟩ i) = ⟨b, o + i, none⟩ := add_add b o i

def AllRO (h : AH) : Prop := ∀ A o, h.get A = some o → o.own = false

end Go.Ab

namespace Go.Ab

section
variable {P : Program}

theorem g1 (b : Bool) : ((some b : Option Bool) == some false) = !b := by cases b <;> rfl
theorem g2 (b : Bool) : ((some b : Option Bool) == some true) = b := by cases b <;> rfl

theorem g3 (b : Bool) : ((none : Option Bool) == some b) = false := rfl

/-- The truth that a guard looks at. -/
def isB (v : Value) : Option Bool := match v with
  | .bool b => some b
  | _ => none
theorem isB_bool (b : Bool) : isB (.bool b) = some b := rfl
theorem isB_undef : isB undef = none := rfl
theorem yieldedA2 (ops : Array Oper) (a : AAct) (j : Nat) : yieldedA ops a j = match (ops[j]?).bind (·.dst) with
    | some t => if t < a.n then isB (a.tm t) else none
    | none => none := rfl

/-- One operation, behind its guard. -/
def stepM (P : Program) (ops : Array Oper) (N : AAct → AH → Prop) (o : Oper) (l : List Oper) (a : AAct) (h : AH) : Prop :=
  match o.op with
  | .call { callee := .value f, args, .. } => callR P (a.ev f) (args.toList.map a.ev) h (contK (opsM P ops N l) o.dst a)
  | .next it false => NextW (a.ev it) h (contK (opsM P ops N l) o.dst a)
  | op => match dop P a.ev op h with
    | some (v, h') => opsM P ops N l (a.put o.dst v) h'
    | none => False

def wantM (w : Bool) (P : Program) (ops : Array Oper) (N : AAct → AH → Prop) (o : Oper) (l : List Oper) (a : AAct) (h : AH) : Prop :=
  match w with
  | false => opsM P ops N l (a.put o.dst undef) h
  | true => stepM P ops N o l a h

def okM (k : Bool) (P : Program) (ops : Array Oper) (N : AAct → AH → Prop) (o : Oper) (l : List Oper) (a : AAct) (h : AH) : Prop :=
  match k with
  | false => False
  | true => wantM (Region.wanted o (yieldedA ops a)) P ops N o l a h

theorem okM_true {ops : Array Oper} {N : AAct → AH → Prop} {o : Oper} {l : List Oper} {a : AAct} {h : AH} : okM true P ops N o l a h = wantM (Region.wanted o (yieldedA ops a)) P ops N o l a h := rfl

theorem opsM_cons2 {ops : Array Oper} {N : AAct → AH → Prop} {o : Oper} {l : List Oper} {a : AAct} {h : AH} : opsM P ops N (o :: l) a h = okM (okB o a) P ops N o l a h := by
  rw [opsM_cons]
  cases okB o a
  · rfl
  · simp only [okM_true, wantM]
    cases Region.wanted o (yieldedA ops a)
    · rfl
    · simp only [stepM]
      all_goals
        obtain ⟨dst, op, ty, pos, after, guard⟩ := o
        cases op with
        | call c => obtain ⟨f, args, at'⟩ := c; cases f <;> rfl
        | next it b => cases b <;> rfl
        | _ => rfl

theorem wantM_true {ops : Array Oper} {N : AAct → AH → Prop} {o : Oper} {l : List Oper} {a : AAct} {h : AH} : wantM true P ops N o l a h = stepM P ops N o l a h := rfl
theorem wantM_false {ops : Array Oper} {N : AAct → AH → Prop} {o : Oper} {l : List Oper} {a : AAct} {h : AH} : wantM false P ops N o l a h = opsM P ops N l (a.put o.dst undef) h := rfl
theorem ex_some0 {α : Type} {x : α} : (∃ v, some x = some v) = True := by simp
/-- Both; the second unapplied, so that it is looked at once. -/
def andK (A : Prop) (F : AAct → AH → Prop) (a : AAct) (h : AH) : Prop := A ∧ F a h
theorem andK_true {F : AAct → AH → Prop} {a : AAct} {h : AH} : andK True F a h = F a h := by simp [andK]

theorem wpA_cond2 {rd : Option Nat} {Q : Exit → AAct → AH → Prop} {a : AAct} {h : AH} {c : Operand} {x y : Code} : wpA P rd (.cond c x y) Q a h = andK (cOK c = true) (condV (a.ev c) (wpA P rd x Q) (wpA P rd y Q)) a h := rfl

theorem closeMarks_nil (h : AH) : closeMarks [] h = some h := rfl
theorem bodyR_ret2 {rs : List ResultVar} {K : Value → AH → Prop} {a : AAct} {h : AH} : bodyR P rs K .ret a h = ∃ h', closeMarks a.df h = some h' ∧ ∃ vs, resL P a.tm h' rs = some vs ∧ K (resV vs) h' := by
  apply propext
  constructor
  · rintro ⟨_, h', vs, e, x, y⟩; exact ⟨h', e, vs, x, y⟩
  · rintro ⟨h', e, vs, x, y⟩; exact ⟨.inr rfl, h', vs, e, x, y⟩
theorem bodyR_normal2 {rs : List ResultVar} {K : Value → AH → Prop} {a : AAct} {h : AH} : bodyR P rs K .normal a h = ∃ h', closeMarks a.df h = some h' ∧ ∃ vs, resL P a.tm h' rs = some vs ∧ K (resV vs) h' := by
  apply propext
  constructor
  · rintro ⟨_, h', vs, e, x, y⟩; exact ⟨h', e, vs, x, y⟩
  · rintro ⟨h', e, vs, x, y⟩; exact ⟨.inl rfl, h', vs, e, x, y⟩

/-! ### Drawn regions -/

def stepS (P : Program) (ops : Array Oper) (N : AAct → AH → Prop) (k : Nat) (o : Oper) (l : List (Nat × Oper)) (R : List (Oper × Value)) (a : AAct) (h : AH) : Prop :=
  match k with
  | 0 => (match dop P a.ev o.op h with
    | some (v, h') => andK (h' = h) (seqM P ops N l R) (a.put o.dst v) h
    | none => False)
  | 1 => (match dop P a.ev o.op h with
    | some (v, h') => andK (h' = h) (seqM P ops N l ((o, v) :: R)) (a.put o.dst v) h
    | none => False)
  | _ => match o.op with
    | .call { callee := .value f, args, .. } => callR P (a.ev f) (args.toList.map a.ev) h (contK (fun a h => andK (Keeps P ops R a h) (seqM P ops N l R) a h) o.dst a)
    | .next it false => NextW (a.ev it) h (contK (fun a h => andK (Keeps P ops R a h) (seqM P ops N l R) a h) o.dst a)
    | op => match dop P a.ev op h with
      | some (v, h') => andK (Keeps P ops R (a.put o.dst v) h') (seqM P ops N l R) (a.put o.dst v) h'
      | none => False

def skipS (P : Program) (ops : Array Oper) (N : AAct → AH → Prop) (k : Nat) (o : Oper) (l : List (Nat × Oper)) (R : List (Oper × Value)) (a : AAct) (h : AH) : Prop :=
  match k with
  | 0 => seqM P ops N l R (a.put o.dst undef) h
  | 1 => seqM P ops N l ((o, undef) :: R) (a.put o.dst undef) h
  | _ => andK (Keeps P ops R (a.put o.dst undef) h) (seqM P ops N l R) (a.put o.dst undef) h

def wantS (w : Bool) (P : Program) (ops : Array Oper) (N : AAct → AH → Prop) (k : Nat) (o : Oper) (l : List (Nat × Oper)) (R : List (Oper × Value)) (a : AAct) (h : AH) : Prop :=
  match w with
  | false => skipS P ops N k o l R a h
  | true => stepS P ops N k o l R a h

def okS (b : Bool) (P : Program) (ops : Array Oper) (N : AAct → AH → Prop) (k : Nat) (o : Oper) (l : List (Nat × Oper)) (R : List (Oper × Value)) (a : AAct) (h : AH) : Prop :=
  match b with
  | false => False
  | true => wantS (Region.wanted o (yieldedA ops a)) P ops N k o l R a h

theorem okS_true {ops : Array Oper} {N : AAct → AH → Prop} {k : Nat} {o : Oper} {l : List (Nat × Oper)} {R : List (Oper × Value)} {a : AAct} {h : AH} : okS true P ops N k o l R a h = wantS (Region.wanted o (yieldedA ops a)) P ops N k o l R a h := rfl
theorem seqM_nil2 {ops : Array Oper} {N : AAct → AH → Prop} {R : List (Oper × Value)} {a : AAct} {h : AH} : seqM P ops N [] R a h = N a h := rfl
theorem seqM_cons2 {ops : Array Oper} {N : AAct → AH → Prop} {k : Nat} {o : Oper} {l : List (Nat × Oper)} {R : List (Oper × Value)} {a : AAct} {h : AH} :
    seqM P ops N ((k, o) :: l) R a h = okS (okB o a) P ops N k o l R a h := by
  cases hk : okB o a
  · simp [seqM, hk, okS]
  · simp only [seqM, hk, okS_true, wantS]
    rcases k with _ | _ | k
    · cases Region.wanted o (yieldedA ops a) <;> rfl
    · cases Region.wanted o (yieldedA ops a) <;> rfl
    · cases Region.wanted o (yieldedA ops a)
      · rfl
      · simp only [stepS]
        all_goals
          obtain ⟨dst, op, ty, pos, after, guard⟩ := o
          cases op with
          | call c => obtain ⟨f, args, at'⟩ := c; cases f <;> rfl
          | next it b => cases b <;> rfl
          | _ => rfl

theorem wantS_true {ops : Array Oper} {N : AAct → AH → Prop} {k : Nat} {o : Oper} {l : List (Nat × Oper)} {R : List (Oper × Value)} {a : AAct} {h : AH} : wantS true P ops N k o l R a h = stepS P ops N k o l R a h := rfl
theorem wantS_false {ops : Array Oper} {N : AAct → AH → Prop} {k : Nat} {o : Oper} {l : List (Nat × Oper)} {R : List (Oper × Value)} {a : AAct} {h : AH} : wantS false P ops N k o l R a h = skipS P ops N k o l R a h := rfl
theorem Keeps_cons {ops : Array Oper} {o : Oper} {v : Value} {R : List (Oper × Value)} {a : AAct} {h : AH} : Keeps P ops ((o, v) :: R) a h = (Still P ops o v a h ∧ Keeps P ops R a h) := by
  apply propext
  constructor
  · intro k; exact ⟨k (o, v) (by simp), fun p hp => k p (by simp [hp])⟩
  · rintro ⟨k1, k2⟩ p hp
    rcases List.mem_cons.1 hp with rfl | hp
    · exact k1
    · exact k2 p hp
theorem Still_eq {ops : Array Oper} {o : Oper} {v : Value} {a : AAct} {h : AH} : Still P ops o v a h = (okB o a = true ∧ if Region.wanted o (yieldedA ops a) = true then dop P a.ev o.op h = some (v, h) else v = undef) := by
  apply propext
  constructor
  · rintro ⟨h1, h2, h3⟩
    refine ⟨?_, h3⟩
    simp only [okB, h1, Bool.true_and]
    cases hd : o.dst with
    | none => rfl
    | some t => rw [hd] at h2; exact decide_eq_true h2
  · rintro ⟨h1, h3⟩
    exact ⟨(okB_spec h1).1, (okB_spec h1).2, h3⟩

/-- Some of the operations, by their places, with the way each is taken. -/
def op0 : Oper := { dst := none, op := .move (.const (.bool false)), type := 0, pos := "", after := #[], guard := none }
def selL (ops : List Oper) : List (Nat × Nat) → List (Nat × Oper)
  | [] => []
  | (k, i) :: r => (k, ops.getD i op0) :: selL ops r

/-- A drawn region, by a plan of any order. -/
theorem AW.drawP {rd : Option Nat} {id : Nat} {ops : Array Oper} {Q : Exit → AAct → AH → Prop} {a : AAct} {h : AH} (p : Plan) (ix : List (Nat × Nat)) (hm : P.follows .mixedOrders = true)
    (hp : (planOK ops (Array.replicate ops.size false) [] p && decide (p.len ≤ ops.size)) = true) (hk : planK ops p = some (selL ops.toList ix))
    (hx : seqM P ops (Q .normal) (selL ops.toList ix) [] a h) : AW P rd (.region id ops true) Q a h := by
  rw [Bool.and_eq_true] at hp
  exact AW.plan p hm hp.1 (of_decide_eq_true hp.2) (seqM_sound p _ [] a h hk hx)

/-! ### Loops -/

/-- The temporaries that a loop leaves: those below 'lo', but for X. -/
def Kp (lo : Nat) (X : List Nat) (a0 a : AAct) : Prop := a.n = a0.n ∧ a.df = a0.df ∧ ∀ i, i < lo → i ∉ X → a.tm i = a0.tm i

theorem Kp.refl (lo : Nat) (X : List Nat) (a : AAct) : Kp lo X a a := ⟨rfl, rfl, fun _ _ _ => rfl⟩
theorem Kp.put {lo : Nat} {X : List Nat} {a0 a : AAct} (h : Kp lo X a0 a) {t : Tmp} {v : Value} (ht : (decide (lo ≤ t) || X.contains t) = true) : Kp lo X a0 (a.put (some t) v) := by
  refine ⟨h.1, h.2.1, fun i hi hx => ?_⟩
  rw [put_tm, if_neg]
  · exact h.2.2 i hi hx
  · rintro rfl
    simp at ht
    rcases ht with ht | ht
    · omega
    · exact hx ht
theorem Kp_put {lo : Nat} {X : List Nat} {a0 a : AAct} {t : Tmp} {v : Value} (ht : (decide (lo ≤ t) || X.contains t) = true) : Kp lo X a0 (a.put (some t) v) = Kp lo X a0 a := by
  apply propext
  constructor
  · intro h
    refine ⟨h.1, (put_df a (some t) v).symm.trans h.2.1, fun i hi hx => ?_⟩
    have := h.2.2 i hi hx
    rw [put_tm, if_neg] at this
    · exact this
    · rintro rfl
      simp at ht
      rcases ht with ht | ht
      · omega
      · exact hx ht
  · exact fun h => h.put ht
theorem Kp.none {lo : Nat} {X : List Nat} {a0 a : AAct} (h : Kp lo X a0 a) {v : Value} : Kp lo X a0 (a.put none v) := h
theorem Kp.trans {lo lo' : Nat} {X X' : List Nat} {a0 a1 a : AAct} (h : Kp lo X a0 a1) (g : Kp lo' X' a1 a) (hl : lo ≤ lo') (hX : ∀ i ∈ X', i < lo → i ∈ X) : Kp lo X a0 a :=
  ⟨g.1.trans h.1, g.2.1.trans h.2.1, fun i hi hx => (g.2.2 i (by omega) (fun hm => hx (hX i hm hi))).trans (h.2.2 i hi hx)⟩
theorem Kp.n {lo : Nat} {X : List Nat} {a0 a : AAct} (h : Kp lo X a0 a) : a.n = a0.n := h.1
theorem Kp.df {lo : Nat} {X : List Nat} {a0 a : AAct} (h : Kp lo X a0 a) : a.df = a0.df := h.2.1
theorem Kp.tm {lo : Nat} {X : List Nat} {a0 a : AAct} (h : Kp lo X a0 a) : ∀ i, i < lo → i ∉ X → a.tm i = a0.tm i := h.2.2

/-- Behind a round. -/
def loopQ (lo : Nat) (X : List Nat) (a0 : AAct) (I : Nat → AAct → AH → Prop) (m : Nat) (a : AAct) (h : AH) : Prop := ∃ m', m' < m ∧ Kp lo X a0 a ∧ I m' a h

theorem AW.loopK {rd : Option Nat} {c : Code} {Q : Exit → AAct → AH → Prop} {a0 : AAct} {h : AH} (lo : Nat) (X : List Nat) (I : Nat → AAct → AH → Prop) (m : Nat) (h0 : I m a0 h)
    (round : ∀ m a h, Kp lo X a0 a → I m a h → wpA P rd c (thenQ (loopQ lo X a0 I m) Q) a h) : AW P rd (.loop c) Q a0 h := by
  refine AW.loop (fun m a h => Kp lo X a0 a ∧ I m a h) m ⟨Kp.refl _ _ _, h0⟩ ?_
  rintro m a h ⟨hk, hI⟩
  refine AW.mono ?_ (wpA_sound _ _ _ _ (round m a h hk hI))
  intro e a h hq
  cases e with
  | normal => obtain ⟨m', h1, h2, h3⟩ := hq; exact ⟨m', h1, h2, h3⟩
  | _ => exact hq

/-- The same; the state at the loop's head stays a name. -/
theorem AW.loopN {rd : Option Nat} {c : Code} {Q : Exit → AAct → AH → Prop} {a0 : AAct} {h : AH} (lo : Nat) (X : List Nat) (I : Nat → AAct → AH → Prop) (m : Nat) (h0 : I m a0 h)
    (round : ∀ a1 m a h, Kp lo X a1 a → a.n = a0.n → a.df = a0.df → (∀ i, i < lo → i ∉ X → a.tm i = a0.tm i) → I m a h → wpA P rd c (thenQ (loopQ lo X a1 I m) Q) a h) : AW P rd (.loop c) Q a0 h :=
  AW.loopK lo X I m h0 fun m a h hk hI => round a0 m a h hk hk.1 hk.2.1 hk.2.2 hI

/-! ### Numbers -/

theorem ieq (a b : Int) : (a == b) = decide (a = b) := by
  by_cases h : a = b <;> simp [h]
theorem ine (a b : Int) : (a != b) = !decide (a = b) := by
  by_cases h : a = b <;> simp [h]

theorem wrapI {x : Int} (h0 : -9223372036854775808 ≤ x) (h1 : x < 9223372036854775808) : IntKind.i64.wrap x = x := Go.IntWalk.i64_in _ (by omega)

/-! ### Slices, read -/

/-- The address of a slice's element. -/
def slAt (sz : Nat) (v : Value) (i : Nat) : Value :=
  match v with
  | .slice (some ⟨A, off, none⟩) _ _ => .pointer (some ⟨A, off + i * sz, none⟩)
  | _ => undef

theorem SlOf.idx {h : AH} {v : Value} {vs : List Value} (hs : SlOf h v vs) {t e : TypeId} (ht : Sl1 P t e) : ∀ (k : IntKind) (n : Int), 0 ≤ n → n < vs.length → aIndexAddr P t v (.int k n) = some (slAt 1 v n.toNat) := by
  intro k n h0 hn
  obtain ⟨p, l, c, rfl, rfl, hsp, hcs⟩ := hs
  rcases hcs with rfl | ⟨A, off, o, cs, rfl, hg, hc, hall⟩
  · simp at hn; omega
  · obtain ⟨ie, hi, h1⟩ := ht.one
    simp only [aIndexAddr, ht.sl, hi]
    rw [if_pos ⟨by omega, by omega⟩, h1]; rfl

theorem SlOf.ld {h : AH} {v : Value} {vs : List Value} (hs : SlOf h v vs) {t e : TypeId} (ht : Sl1 P t e) : ∀ (n : Nat), n < vs.length → aLoad P e (slAt 1 v n) h = some (vs.getD n undef) := by
  intro n hn
  obtain ⟨p, l, c, rfl, rfl, hsp, hcs⟩ := hs
  rcases hcs with rfl | ⟨A, off, o, cs, rfl, hg, hc, hall⟩
  · simp at hn
  · obtain ⟨d, hd, hagg⟩ := ht.flat
    simp only [slAt, aLoad, hg, Option.bind_some, hc, hd, hagg, Bool.false_eq_true, if_false, Nat.mul_one]
    rw [hall n vs[n] (List.getElem?_eq_getElem hn)]
    simp [List.getD_eq_getElem?_getD, hn]

/-- Slices of integers. -/
theorem SlOf.idxI {h : AH} {v : Value} {zs : List Int} {k0 : IntKind} (hs : SlOf h v (zs.map (.int k0))) {t e : TypeId} (ht : Sl1 P t e) : ∀ (k : IntKind) (n : Int), 0 ≤ n → n < zs.length → aIndexAddr P t v (.int k n) = some (slAt 1 v n.toNat) :=
  fun k n h0 hn => hs.idx ht k n h0 (by simpa using hn)
theorem SlOf.ldI {h : AH} {v : Value} {zs : List Int} {k0 : IntKind} (hs : SlOf h v (zs.map (.int k0))) {t e : TypeId} (ht : Sl1 P t e) : ∀ (n : Nat), n < zs.length → aLoad P e (slAt 1 v n) h = some (.int k0 (zs.getD n 0)) := by
  intro n hn
  rw [hs.ld ht n (by simpa using hn)]
  simp [List.getD_eq_getElem?_getD, hn]
/-! ### Rows of one's own -/

theorem SlOf.lit {h : AH} {A cap n : Nat} {o : AObj} {vs : List Value} (hg : h.get A = some o) (ho : o.cells? = some vs) (hn : n = vs.length) : SlOf h (.slice (some ⟨A, 0, none⟩) n cap) vs :=
  ⟨_, _, _, rfl, hn, (fun q x => by cases x; rfl), .inr ⟨A, 0, o, vs, rfl, hg, ho, fun i x hx => by rw [Nat.zero_add]; exact hx⟩⟩

/-! ### The heap's view, and what grows -/

theorem SlOf.view {h : AH} {v : Value} {vs : List Value} (hs : SlOf h v vs) : SlOf (AH.view h) v vs := by
  obtain ⟨p, l, c, rfl, rfl, hsp, hcs⟩ := hs
  refine ⟨p, _, c, rfl, rfl, hsp, ?_⟩
  rcases hcs with e | ⟨A, off, o, cs, rfl, hg, hc, hall⟩
  · exact .inl e
  · cases o with
    | row c e wr => exact .inr ⟨A, off, .row c e false, cs, rfl, by simp [AH.view, hg, AObj.view], hc, hall⟩
    | grow c e => exact .inr ⟨A, off, .row c e false, cs, rfl, by simp [AH.view, hg, AObj.view], hc, hall⟩
    | _ => simp [AObj.cells?] at hc

/-- Nothing but the blocks of X changes. -/
def FrX (X : List Nat) (h h' : AH) : Prop := ∀ A o, h.get A = some o → A ∉ X → h'.get A = some o

theorem Sub.frx {h0 h h' : AH} {X : List Nat} (hs : Sub h0 h) (hf : FrX X h h') (hX : ∀ B ∈ X, h0.get B = none) : Sub h0 h' :=
  fun A o ha => hf A o (hs A o ha) (fun hm => by rw [hX A hm] at ha; cases ha)
theorem Sub.set {h0 h : AH} (hs : Sub h0 h) {A : Nat} (hA : h0.get A = none) (o : AObj) : Sub h0 (h.set A o) := by
  intro B p hB
  rw [AH.set_get, if_neg]
  · exact hs B p hB
  · rintro rfl; rw [hA] at hB; cases hB
theorem Sub.trans {h0 h h' : AH} (a : Sub h0 h) (b : Sub h h') : Sub h0 h' := fun A o x => b A o (a A o x)
theorem Sub.refl (h : AH) : Sub h h := fun _ _ x => x

theorem AH.get_lt {h : AH} (hw : WFH h) {A : Nat} {o : AObj} (hg : h.get A = some o) : A < h.next := by
  apply Classical.byContradiction
  intro hn
  rw [hw A (by omega)] at hg; cases hg

theorem WFH.new {h : AH} (hw : WFH h) (o : AObj) : WFH (h.new o) := by
  intro A hA
  simp only [AH.new_next] at hA
  rw [AH.new_get, if_neg (by omega)]
  exact hw A (by omega)
theorem WFH.set {h : AH} (hw : WFH h) {A : Nat} (hA : A < h.next) (o : AObj) : WFH (h.set A o) := by
  intro B hB
  simp only [AH.set_next] at hB
  rw [AH.set_get, if_neg (by omega)]
  exact hw B hB
theorem WFH.del {h : AH} (hw : WFH h) (A : Nat) : WFH (h.del A) := by
  intro B hB
  simp only [AH.del_next] at hB
  rw [AH.del_get]; split
  · rfl
  · exact hw B hB

/-- A slice of one's own that is appended to: nil, or the whole of a growing row. 'B' is its row. -/
def OwnSl (e : TypeId) (h : AH) (v : Value) (B : Nat) (vs : List Value) : Prop :=
  (vs = [] ∧ v = .slice none 0 0) ∨ (vs ≠ [] ∧ v = .slice (some ⟨B, 0, none⟩) vs.length (SL + 1) ∧ h.get B = some (.grow vs e))

theorem OwnSl.sl {e : TypeId} {h : AH} {v : Value} {B : Nat} {vs : List Value} (ho : OwnSl e h v B vs) : SlOf h v vs := by
  rcases ho with ⟨rfl, rfl⟩ | ⟨_, rfl, hg⟩
  · exact ⟨none, 0, 0, rfl, rfl, (fun q x => by cases x), .inl rfl⟩
  · exact ⟨_, _, _, rfl, rfl, (fun q x => by cases x; rfl), .inr ⟨B, 0, _, _, rfl, hg, rfl, fun i x hx => by rw [Nat.zero_add]; exact hx⟩⟩

theorem OwnSl.keep {e : TypeId} {h h' : AH} {v : Value} {B : Nat} {vs : List Value} (ho : OwnSl e h v B vs) (hg : vs ≠ [] → h'.get B = h.get B) : OwnSl e h' v B vs := by
  rcases ho with ⟨rfl, rfl⟩ | ⟨hn, rfl, h1⟩
  · exact .inl ⟨rfl, rfl⟩
  · exact .inr ⟨hn, rfl, (hg hn).trans h1⟩

theorem OwnSl.nil (e : TypeId) (h : AH) (B : Nat) : OwnSl e h (.slice none 0 0) B [] := .inl ⟨rfl, rfl⟩

/-- The slice of one element that append is handed. -/
theorem aBuild1 {t e : TypeId} {B : Nat} {z : Value} (ht : SlT P t e B z) (h : AH) {x : Value} (hx : x.cells.toList = [x]) (ho : oneC x = true) :
    aBuildSlice P t 1 [(0, x)] h = some (.slice (some ⟨h.next, 0, none⟩) 1 1, h.new (.row [x] e true)) := by
  obtain ⟨i, hi, h1, hb, hz⟩ := ht.info
  have hc : z.cells.size = 1 := by
    have := congrArg List.length ht.zc
    simpa using this
  have hx1 : x.cells.size = 1 := by
    have := congrArg List.length hx
    simpa using this
  simp only [aBuildSlice, ht.sl, hi, hz, h1, ht.zp, hc, fillL, ht.zc, zeros_one]
  simp [SL, hx, hx1, setL, ho, List.replicate]

/-- A heap that has grown out of another one. -/
structure Gr (h0 h : AH) : Prop where
  wf : WFH h
  sub : Sub h0 h
  nx : h0.next ≤ h.next

theorem Gr.refl {h : AH} (hw : WFH h) : Gr h h := ⟨hw, Sub.refl h, Nat.le_refl _⟩
theorem Gr.trans {a b c : AH} (x : Gr a b) (y : Gr b c) : Gr a c := ⟨y.wf, x.sub.trans y.sub, Nat.le_trans x.nx y.nx⟩
theorem Gr.new {h0 h : AH} (g : Gr h0 h) (o : AObj) : Gr h0 (h.new o) := ⟨g.wf.new o, g.sub.trans (Sub.new g.wf o), Nat.le_succ_of_le g.nx⟩
theorem Gr.set {h0 h : AH} (g : Gr h0 h) (w0 : WFH h0) {A : Nat} (hA : h0.next ≤ A) (hlt : A < h.next) (o : AObj) : Gr h0 (h.set A o) := ⟨g.wf.set hlt o, g.sub.set (w0 A hA) o, g.nx⟩
theorem Gr.fresh {h0 h : AH} (g : Gr h0 h) (w0 : WFH h0) : h0.get h.next = none := w0 _ g.nx

/-- A slice of one's own, laid since h0. -/
def FrSl (e : TypeId) (h0 h : AH) (v : Value) (vs : List Value) : Prop := ∃ B, OwnSl e h v B vs ∧ (vs ≠ [] → h0.next ≤ B)

theorem FrSl.nil (e : TypeId) (h0 h : AH) : FrSl e h0 h (.slice none 0 0) [] := ⟨0, OwnSl.nil e h 0, fun h => absurd rfl h⟩
theorem FrSl.sl {e : TypeId} {h0 h : AH} {v : Value} {vs : List Value} (ho : FrSl e h0 h v vs) : SlOf h v vs := let ⟨_, h, _⟩ := ho; h.sl

end
end Go.Ab

namespace Go.Ab

section
variable {P : Program}

/-- A kind of elements: their cells, and what these tell. -/
structure Lay (α : Type) where
  sz : Nat
  pos : 0 < sz
  rel : AH → List Value → α → Prop
  mono : ∀ {h h' : AH} {cs : List Value} {x : α}, Sub h h' → rel h cs x → rel h' cs x
  len : ∀ {h : AH} {cs : List Value} {x : α}, rel h cs x → cs.length = sz
  one : ∀ {h : AH} {cs : List Value} {x : α}, rel h cs x → ∀ v ∈ cs, oneC v = true

/-- A kind that a heap's view keeps. -/
class LayV {α : Type} (L : Lay α) : Prop where
  view : ∀ {h : AH} {cs : List Value} {x : α}, L.rel h cs x → L.rel (AH.view h) cs x

/-- A slice whose elements are of a kind. -/
def RowOf {α : Type} (L : Lay α) (h : AH) (v : Value) (xs : List α) : Prop :=
  ∃ p l c, v = .slice p l c ∧ l = xs.length ∧ ((∀ q, p = some q → q.spot = none) ∧ l ≤ c ∧ (c < SL ∨ c = SL + L.sz)) ∧ (xs = [] ∨ ∃ A off o cs, p = some ⟨A, off, none⟩ ∧ h.get A = some o ∧ o.cells? = some cs ∧
    ∀ (i : Nat) (x : α), xs[i]? = some x → L.rel h ((cs.drop (off + i * L.sz)).take L.sz) x)

theorem RowOf.sub {α : Type} {L : Lay α} {h h' : AH} {v : Value} {xs : List α} (hs : RowOf L h v xs) (hh : Sub h h') : RowOf L h' v xs := by
  obtain ⟨p, l, c, rfl, rfl, hsp, hcs⟩ := hs
  refine ⟨p, _, c, rfl, rfl, hsp, ?_⟩
  rcases hcs with e | ⟨A, off, o, cs, rfl, hg, hc, hall⟩
  · exact .inl e
  · exact .inr ⟨A, off, o, cs, rfl, hh _ _ hg, hc, fun i x hx => L.mono hh (hall i x hx)⟩

theorem RowOf.view {α : Type} {L : Lay α} [LayV L] {h : AH} {v : Value} {xs : List α} (hs : RowOf L h v xs) : RowOf L (AH.view h) v xs := by
  obtain ⟨p, l, c, rfl, rfl, hsp, hcs⟩ := hs
  refine ⟨p, _, c, rfl, rfl, hsp, ?_⟩
  rcases hcs with e | ⟨A, off, o, cs, rfl, hg, hc, hall⟩
  · exact .inl e
  · have : ∃ o', (AH.view h).get A = some o' ∧ o'.cells? = some cs := by
      cases o with
      | row c e wr => exact ⟨.row c e false, by simp [AH.view, hg, AObj.view], hc⟩
      | grow c e => exact ⟨.row c e false, by simp [AH.view, hg, AObj.view], hc⟩
      | _ => simp [AObj.cells?] at hc
    obtain ⟨o', h1, h2⟩ := this
    exact .inr ⟨A, off, o', cs, rfl, h1, h2, fun i x hx => LayV.view (hall i x hx)⟩

theorem RowOf.one {α : Type} {L : Lay α} {h : AH} {v : Value} {xs : List α} (hs : RowOf L h v xs) : oneC v = true := by
  obtain ⟨p, l, c, rfl, _⟩ := hs; rfl
theorem SlOf.one {h : AH} {v : Value} {vs : List Value} (hs : SlOf h v vs) : oneC v = true := by
  obtain ⟨p, l, c, rfl, _⟩ := hs; rfl

theorem RowOf.len {α : Type} {L : Lay α} {h : AH} {v : Value} {xs : List α} (hs : RowOf L h v xs) {t e : TypeId} (ht : P.underlying t = some (.slice e)) : ∀ h', aLen P t v h' = some (.int .i64 xs.length) := by
  intro h'
  obtain ⟨p, l, c, rfl, rfl, _, _⟩ := hs
  simp only [aLen, ht]
theorem SlOf.lenA {h : AH} {v : Value} {α : Type} {f : α → Value} {xs : List α} (hs : SlOf h v (xs.map f)) {t e : TypeId} (ht : P.underlying t = some (.slice e)) : ∀ h', aLen P t v h' = some (.int .i64 xs.length) := by
  intro h'
  obtain ⟨p, l, c, rfl, rfl, _, _⟩ := hs
  simp only [aLen, ht, List.length_map]

/-- The address of a field of a slice's element. -/
def slF (sz : Nat) (v : Value) (i f : Nat) : Value :=
  match v with
  | .slice (some ⟨A, off, none⟩) _ _ => .pointer (some ⟨A, off + i * sz + f, none⟩)
  | _ => undef

/-- Types of one cell; struct types. -/
def Fl (P : Program) (e : TypeId) : Prop := ∃ d, P.underlying e = some d ∧ aggT d = false
structure Ag (P : Program) (e : TypeId) (n : Nat) : Prop where
  agg : ∃ d, P.underlying e = some d ∧ aggT d = true
  size : ∃ i, P.info? e = some i ∧ i.size = n

theorem RowOf.idx {α : Type} {L : Lay α} {h : AH} {v : Value} {xs : List α} (hs : RowOf L h v xs) {t e : TypeId} (ht : P.underlying t = some (.slice e)) (he : ∃ i, P.info? e = some i ∧ i.size = L.sz) :
    ∀ (k : IntKind) (n : Int), 0 ≤ n → n < xs.length → aIndexAddr P t v (.int k n) = some (slF L.sz v n.toNat 0) := by
  intro k n h0 hn
  obtain ⟨p, l, c, rfl, rfl, hsp, hcs⟩ := hs
  rcases hcs with rfl | ⟨A, off, o, cs, rfl, hg, hc, hall⟩
  · simp at hn; omega
  · obtain ⟨ie, hi, h1⟩ := he
    simp only [aIndexAddr, ht, hi]
    rw [if_pos ⟨by omega, by omega⟩, h1]; rfl

theorem RowOf.get {α : Type} {L : Lay α} {h : AH} {v : Value} {xs : List α} (hs : RowOf L h v xs) {i : Nat} (hi : i < xs.length) (d : α) :
    ∃ cs, L.rel h cs (xs.getD i d) ∧
      (∀ (e : TypeId), Ag P e L.sz → aLoad P e (slF L.sz v i 0) h = some (.agg cs.toArray)) ∧
      (∀ (f : Nat) (e : TypeId), Fl P e → f < L.sz → aLoad P e (slF L.sz v i f) h = some (cs.getD f undef)) ∧
      (∀ (T f fo : Nat), fOff P T f = some fo → aFieldAddr P T f (slF L.sz v i 0) = some (slF L.sz v i fo)) := by
  obtain ⟨p, l, c, rfl, rfl, hsp, hcs⟩ := hs
  rcases hcs with rfl | ⟨A, off, o, cs, rfl, hg, hc, hall⟩
  · simp at hi
  · have hx : xs[i]? = some (xs.getD i d) := by simp [List.getD_eq_getElem?_getD, hi]
    have hr := hall i _ hx
    have hl := L.len hr
    have hpos := L.pos
    have hle : off + i * L.sz + L.sz ≤ cs.length := by
      simp only [List.length_take, List.length_drop] at hl
      omega
    refine ⟨_, hr, fun e ha => ?_, fun f e hf hlt => ?_, fun T f fo ho => ?_⟩
    · obtain ⟨D, hD, hagg⟩ := ha.agg
      obtain ⟨ie, hie, hsz⟩ := ha.size
      simp only [slF, aLoad, hg, Option.bind_some, hc, hD, hagg, if_true, hie, hsz, Nat.add_zero]
      rw [if_pos hle]
    · obtain ⟨D, hD, hagg⟩ := hf
      simp only [slF, aLoad, hg, Option.bind_some, hc, hD, hagg, Bool.false_eq_true, if_false]
      have : off + i * L.sz + f < cs.length := by omega
      rw [List.getElem?_eq_getElem this]
      simp [List.getD_eq_getElem?_getD, List.getElem?_take, hlt, List.getElem?_drop, List.getElem?_eq_getElem this]
    · simp only [slF, aFieldAddr, ho, Nat.add_zero]

theorem RowOf.pre {α : Type} {L : Lay α} {h : AH} {v : Value} {xs : List α} (hs : RowOf L h v xs) {t e : TypeId} (ht : P.underlying t = some (.slice e)) (he : ∃ i, P.info? e = some i ∧ i.size = L.sz) {k : IntKind} {n : Nat} (hn : n ≤ xs.length) :
    ∃ v', aSlice P t v none (some (.int k n)) = some v' ∧ RowOf L h v' (xs.take n) := by
  obtain ⟨p, l, c, rfl, rfl, ⟨hsp, hle, hcap⟩, hcs⟩ := hs
  obtain ⟨ie, hi, h1⟩ := he
  have hb : bnd (some (.int k (n : Int))) xs.length = some n := by simp [bnd]
  have hb0 : bnd none 0 = some 0 := rfl
  have hpos := L.pos
  cases p with
  | none =>
    have hx : xs = [] := by
      rcases hcs with e | ⟨A, off, o, cs, e, _⟩
      · exact e
      · cases e
    subst hx
    have hn0 : n = 0 := by simpa using hn
    subst hn0
    have hb' : bnd (some (.int k ((0 : Nat) : Int))) ([] : List α).length = some 0 := hb
    refine ⟨.slice none 0 c, ?_, none, 0, c, rfl, by simp, ⟨(fun q e => by cases e), by omega, hcap⟩, .inl (by simp)⟩
    simp only [aSlice, ht, hb', hb0, hi]
    simp
  | some q =>
    obtain ⟨A, off, sp⟩ := q
    have : sp = none := hsp _ rfl
    subst this
    refine ⟨.slice (some ⟨A, off, none⟩) n c, ?_, some ⟨A, off, none⟩, n, c, rfl, by simp; omega, ⟨hsp, by omega, hcap⟩, ?_⟩
    · simp only [aSlice, ht, hb, hb0, hi]
      rcases hcap with hc | hc
      · rw [if_pos hc, if_pos ⟨by omega, by omega⟩]
        simp
      · have hnc : ¬ c < SL := by omega
        rw [if_neg hnc, if_pos ⟨by rw [h1]; exact hc, by omega, hn⟩]
        simp
    · rcases hcs with e | ⟨A', off', o, cs, e, hg, hc, hall⟩
      · left; simp [e]
      · cases e
        right
        refine ⟨A, off, o, cs, rfl, hg, hc, fun i x hx => hall i x ?_⟩
        rw [List.getElem?_take] at hx
        split at hx
        · exact hx
        · cases hx

theorem viewCells {h : AH} {B : Nat} {o : AObj} {cs : List Value} (hg : h.get B = some o) (hc : o.cells? = some cs) : ∃ o', (AH.view h).get B = some o' ∧ o'.cells? = some cs := by
  cases o with
  | row c e wr => exact ⟨.row c e false, by simp [AH.view, hg, AObj.view], hc⟩
  | grow c e => exact ⟨.row c e false, by simp [AH.view, hg, AObj.view], hc⟩
  | _ => simp [AObj.cells?] at hc

/-! ### Local variables of struct types -/

theorem faL {T f fo : Nat} (ho : fOff P T f = some fo) : ∀ (A off : Nat), aFieldAddr P T f (.pointer (some ⟨A, off, none⟩)) = some (.pointer (some ⟨A, off + fo, none⟩)) := by
  intro A off; simp only [aFieldAddr, ho]

theorem ldL {h : AH} {A : Nat} {o : AObj} {cs : List Value} (hg : h.get A = some o) (hc : o.cells? = some cs) {e : TypeId} (he : Fl P e) : ∀ k, k < cs.length → aLoad P e (.pointer (some ⟨A, k, none⟩)) h = some (cs.getD k undef) := by
  intro k hk
  obtain ⟨D, hD, hagg⟩ := he
  simp only [aLoad, hg, Option.bind_some, hc, hD, hagg, Bool.false_eq_true, if_false]
  rw [List.getElem?_eq_getElem hk]
  simp [List.getD_eq_getElem?_getD, hk]

theorem ldLA {h : AH} {A n : Nat} {o : AObj} {cs : List Value} (hg : h.get A = some o) (hc : o.cells? = some cs) {T : TypeId} (hT : Ag P T n) (hn : cs.length = n) : aLoad P T (.pointer (some ⟨A, 0, none⟩)) h = some (.agg cs.toArray) := by
  obtain ⟨D, hD, hagg⟩ := hT.agg
  obtain ⟨ie, hie, hsz⟩ := hT.size
  subst hn
  simp only [aLoad, hg, Option.bind_some, hc, hD, hagg, if_true, hie, hsz, Nat.zero_add, Nat.le_refl, List.drop_zero, List.take_length]

/-- Cells in a block. -/
def CsAt (h : AH) (B : Nat) (cs : List Value) : Prop := ∃ o, h.get B = some o ∧ o.cells? = some cs
theorem CsAt.sub {h h' : AH} {B : Nat} {cs : List Value} (r : CsAt h B cs) (s : Sub h h') : CsAt h' B cs := let ⟨o, x, y⟩ := r; ⟨o, s _ _ x, y⟩
theorem CsAt.view {h : AH} {B : Nat} {cs : List Value} (r : CsAt h B cs) : CsAt (AH.view h) B cs := let ⟨_, x, y⟩ := r; viewCells x y
theorem CsAt.new (h : AH) (cs : List Value) (T : TypeId) (w : Bool) : CsAt (h.new (.row cs T w)) h.next cs := ⟨_, by rw [AH.new_get, if_pos rfl], rfl⟩
theorem CsAt.ld {h : AH} {B : Nat} {cs : List Value} (r : CsAt h B cs) {e : TypeId} (he : Fl P e) : ∀ k, k < cs.length → aLoad P e (.pointer (some ⟨B, k, none⟩)) h = some (cs.getD k undef) := let ⟨_, x, y⟩ := r; ldL x y he
theorem CsAt.la {h : AH} {B n : Nat} {cs : List Value} (r : CsAt h B cs) {T : TypeId} (hT : Ag P T n) (hn : cs.length = n) : aLoad P T (.pointer (some ⟨B, 0, none⟩)) h = some (.agg cs.toArray) := let ⟨_, x, y⟩ := r; ldLA x y hT hn

theorem boxA (t : TypeId) : ∀ (h : AH) (xs : List Value), xs.all oneC = true → aBox t (.agg xs.toArray) h = some (.pointer (some ⟨h.next, 0, none⟩), h.new (.row xs t true)) := by
  intro h xs hx
  simp [aBox, Value.cells, hx]

/-- The zero of a type, as cells. -/
def Zr (P : Program) (T : TypeId) (zs : List Value) : Prop := ∃ i z, P.info? T = some i ∧ i.zero = some z ∧ z.cells.toList = zs ∧ zs.all oneC = true ∧ plain 9 z = true

theorem alL {T : TypeId} {zs : List Value} (hz : Zr P T zs) : ∀ h, aAlloc P T h = some (.pointer (some ⟨h.next, 0, none⟩), h.new (.row zs T true)) := by
  intro h
  obtain ⟨i, z, hi, hiz, rfl, h1, h2⟩ := hz
  simp only [aAlloc, hi, hiz, h1, h2, and_self, if_true]

theorem AH.set_new (h : AH) (o o' : AObj) : (h.new o).set h.next o' = h.new o' := by
  unfold AH.set AH.new
  simp only [AH.mk.injEq, true_and]
  funext i
  by_cases e : i = h.next <;> simp [e]

theorem setL_all : ∀ (xs cs pre : List Value), cs.length = xs.length → setL (pre ++ cs) pre.length xs = pre ++ xs := by
  intro xs
  induction xs with
  | nil => intro cs pre h; have : cs = [] := List.eq_nil_of_length_eq_zero h; simp [setL, this]
  | cons x xs ih =>
    intro cs pre h
    cases cs with
    | nil => simp at h
    | cons c cs =>
      simp only [setL]
      have e : (pre ++ c :: cs).set pre.length x = (pre ++ [x]) ++ cs := by simp
      rw [e]
      have := ih cs (pre ++ [x]) (by simpa using h)
      simp only [List.length_append, List.length_cons, List.length_nil] at this
      rw [this]; simp

/-- The whole of a row written over. -/
theorem stA {T : TypeId} {n : Nat} (hT : Ag P T n) {h : AH} {A : Nat} {cs : List Value} {e : TypeId} (hg : h.get A = some (.row cs e true)) (hn : cs.length = n) : ∀ xs : List Value, xs.length = n → xs.all oneC = true →
    aStore P T (.pointer (some ⟨A, 0, none⟩)) (.agg xs.toArray) h = some (h.set A (.row xs e true)) := by
  intro xs hx ho
  obtain ⟨ie, hie, hsz⟩ := hT.size
  have := setL_all xs cs [] (by omega)
  simp only [List.nil_append, List.length_nil] at this
  simp [aStore, hie, hsz, Value.cells, hx, ho, hg, AObj.setCells, hn, this]

theorem stN {T : TypeId} {n : Nat} (hT : Ag P T n) : ∀ (h : AH) (cs : List Value) (e : TypeId) (xs : List Value), cs.length = n → xs.length = n → xs.all oneC = true →
    aStore P T (.pointer (some ⟨h.next, 0, none⟩)) (.agg xs.toArray) (h.new (.row cs e true)) = some (h.new (.row xs e true)) := by
  intro h cs e xs hc hx ho
  rw [stA hT (e := e) (cs := cs) (by simp [AH.new_get]) hc xs hx ho, AH.set_new]

/-- One cell of a row written over. -/
theorem stC {e : TypeId} (he : ∃ i, P.info? e = some i ∧ i.size = 1) {h : AH} {A : Nat} {cs : List Value} {e' : TypeId} (hg : h.get A = some (.row cs e' true)) : ∀ (k : Nat) (x : Value), k < cs.length → x.cells.toList = [x] → oneC x = true →
    aStore P e (.pointer (some ⟨A, k, none⟩)) x h = some (h.set A (.row (cs.set k x) e' true)) := by
  intro k x hk hx ho
  obtain ⟨ie, hie, hsz⟩ := he
  have hc : x.cells.size = 1 := by
    have := congrArg List.length hx
    simpa using this
  have hle : k + 1 ≤ cs.length := hk
  simp [aStore, hie, hsz, hc, hx, ho, hg, AObj.setCells, hle, setL]

theorem aMin2R (k k' : IntKind) (x y : Int) : aMin2 (.int k x) (.int k' y) = some (.int k (min x y)) := by
  simp only [aMin2]; congr 2; omega
/-! ### Bytes of a string -/

theorem aBytes_skip {s d : TypeId} (hs : ∃ k, P.underlying s = some (.int k)) : ∀ (x : Value) (h : AH), aBytes P s d x h = none := by
  intro x h
  obtain ⟨k, hk⟩ := hs
  simp only [aBytes, hk]

theorem aConvI {s d : TypeId} {D : TypeDesc} {k : IntKind} (hs : P.underlying s = some D) (hd : P.underlying d = some (.int k)) : ∀ (k' : IntKind) (n : Int), aConv P s d (.int k' n) = some (.int k (k.wrap n)) := by
  intro k' n
  simp only [aConv, hs, hd]

end
end Go.Ab

namespace Go.Ab

section
variable {P : Program}

/-- An operation, by what the model does. -/
def SemOp (P : Program) (ops : Array Oper) (o : Oper) (a : AAct) (h : AH) (K : AAct → AH → Prop) : Prop :=
  ∀ (n : Nat) (ρ : Ren) (crd : Option Nat) (ca : Act) (w : World), AR ρ a ca → HR ρ h w → ∀ (Q : Exit → Act → World → Prop) (N : Act → World → Prop), (∀ ca' w', Post ρ h w K ca' w' → N ca' w') →
    if Region.wanted o (yielded ops ca.tmps) then o.wpIn (fence crd) n P ca w N Q
    else (∀ f, o.about P w ca.eval = some f → (fence crd).fn f) ∧ N (ca.put o.dst undef) w

theorem SemOp.of {ops : Array Oper} {o : Oper} {a : AAct} {h : AH} {K : AAct → AH → Prop} (hw : opW P ops o a h K) : SemOp P ops o a h K :=
  fun _ _ _ _ _ ha hr _ _ hN => hw.sound ha hr hN

def semL (P : Program) (ops : Array Oper) (N : AAct → AH → Prop) : List Oper → AAct → AH → Prop
  | [], a, h => N a h
  | o :: l, a, h => SemOp P ops o a h (semL P ops N l)

theorem semL.sound {ops : Array Oper} {Q : Exit → AAct → AH → Prop} {n : Nat} {crd : Option Nat} : ∀ (l : List Nat) (os : List Oper) (a : AAct) (h : AH), l.map (ops[·]?) = os.map some → semL P ops (Q .normal) os a h → ∀ (ρ : Ren) (ca : Act) (w : World), AR ρ a ca → HR ρ h w →
    wpOpsIn (fence crd) n P ops (PostE ρ h w Q) l ca w := by
  intro l
  induction l with
  | nil =>
    intro os a h hl hq ρ ca w ha hr
    cases os with
    | nil => exact ⟨ρ, a, h, hq, ha, hr, Frm.refl _ _ _⟩
    | cons => cases hl
  | cons i l ih =>
    intro os a h hl hq ρ ca w ha hr
    cases os with
    | nil => cases hl
    | cons o os =>
      simp only [List.map_cons, List.cons.injEq] at hl
      rw [wpOpsIn_cons]
      unfold wpOpIn
      simp only [hl.1]
      refine hq n ρ crd ca w ha hr _ (wpOpsIn (fence crd) n P ops (PostE ρ h w Q) l) ?_
      rintro ca1 w1 ⟨ρ1, a1, h1, hk, ha1, hr1, hf1⟩
      exact wpOpsIn_mono (fun e ca w' hp => hp.trans hf1) l ca1 w1 (ih os a1 h1 hl.2 hk ρ1 ca1 w1 ha1 hr1)

/-- An operation that hands back a value and leaves the world. -/
theorem SemOp.value {ops : Array Oper} {o : Oper} {a : AAct} {h : AH} {K : AAct → AH → Prop} {V : Value} (hg : o.guard = none) (hd : dstOK a o.dst) (hnd : ∀ c, o.op ≠ .defer c) (hV : plain 9 V = true)
    (hrun : ∀ (ρ : Ren) (ca : Act) (w : World), AR ρ a ca → HR ρ h w → (execOp ca.eval o).run P w = .ok (.value V) w) (hk : K (a.put o.dst V) h) : SemOp P ops o a h K := by
  intro n ρ crd ca w ha hr Q N hN
  have hw : Region.wanted o (yielded ops ca.tmps) = true := by
    obtain ⟨dst, op, type, pos, after, guard⟩ := o
    simp only at hg; subst hg; rfl
  rw [if_pos hw]
  refine ⟨fun _ _ => trivial, ?_⟩
  rw [Oper.semAt_eq _ _ _ hnd, hrun ρ ca w ha hr, Oper.uponIn_value]
  exact hN _ _ ⟨ρ, _, h, hk, ha.put hd (plain_VR ρ 9 V hV), hr, Frm.refl _ _ _⟩

theorem SemOp.cap {ops : Array Oper} {o : Oper} {a : AAct} {h : AH} {K : AAct → AH → Prop} {x : Operand} {T e : TypeId} (hop : o.op = .call { callee := .builtin .cap, args := #[x], argTypes := #[T] }) (hg : o.guard = none) (hx : cOK x = true) (hd : dstOK a o.dst)
    (ht : P.underlying T = some (.slice e)) {p : Option Addr} {l c : Nat} (hv : a.ev x = .slice p l c) (hc : c < SL) (hk : K (a.put o.dst (.int .i64 c)) h) : SemOp P ops o a h K := by
  refine SemOp.value hg hd (fun c e => by rw [hop] at e; cases e) rfl (fun ρ ca w ha hr => ?_) hk
  have hvr := ha.ev hx
  rw [hv] at hvr
  have hsh : ∃ p' : Option Addr, ca.eval x = .slice p' l c := by
    generalize ca.eval x = y at hvr
    cases hvr with
    | nilSlice => exact ⟨_, rfl⟩
    | slice _ _ => exact ⟨_, rfl⟩
    | slack _ _ _ => omega
    | slack0 => omega
    | slip => exact ⟨_, rfl⟩
  obtain ⟨p', hp'⟩ := hsh
  obtain ⟨dst, op, type, pos, after, guard⟩ := o
  simp only at hop; subst hop
  simp only [execOp, resolve, Sem.run_bind, Sem.run_pure, Result.andThen_ok, invoke, builtin, List.map_toArray, List.map_cons, List.map_nil, hp']
  simp [Builtin.cap_, r_under w ht, goInt]

/-! ### A row that may grow, laid open -/

end
end Go.Ab

namespace Go.Ab

section
variable {P : Program}

/-- A slice of one's own, from a block's begin: nil, or of a growing row, or of a row of known capacity. -/
def Vec (e : TypeId) (v : Value) (ob : Option AObj) (A : Nat) (zs : List Value) : Prop :=
  (zs = [] ∧ v = .slice none 0 0 ∧ ob = none) ∨
  (∃ cs, v = .slice (some ⟨A, 0, none⟩) zs.length (SL + 1) ∧ ob = some (.grow cs e) ∧ zs.length ≤ cs.length ∧ cs.take zs.length = zs) ∨
  (∃ cs C, v = .slice (some ⟨A, 0, none⟩) zs.length C ∧ C ≤ 9223372036854775807 ∧ zs.length ≤ C ∧ C ≤ cs.length ∧ ob = some (.row cs e true) ∧ cs.take zs.length = zs)

theorem take_get {α : Type} {cs zs : List α} (h : cs.take zs.length = zs) (i : Nat) (x : α) (hx : zs[i]? = some x) : cs[i]? = some x := by
  have hi : i < zs.length := (List.getElem?_eq_some_iff.1 hx).1
  rw [← h, List.getElem?_take, if_pos hi] at hx; exact hx

theorem Vec.sl {e : TypeId} {h : AH} {v : Value} {ob : Option AObj} {A : Nat} {zs : List Value} (hv : Vec e v ob A zs) (hg : ∀ o, ob = some o → h.get A = some o) : SlOf h v zs := by
  rcases hv with ⟨rfl, rfl, _⟩ | ⟨cs, rfl, rfl, _, ht⟩ | ⟨cs, C, rfl, _, _, _, rfl, ht⟩
  · exact ⟨none, 0, 0, rfl, rfl, (fun q x => by cases x), .inl rfl⟩
  · exact ⟨_, _, _, rfl, rfl, (fun q x => by cases x; rfl), .inr ⟨A, 0, _, cs, rfl, hg _ rfl, rfl, fun i x hx => by rw [Nat.zero_add]; exact take_get ht i x hx⟩⟩
  · exact ⟨_, _, _, rfl, rfl, (fun q x => by cases x; rfl), .inr ⟨A, 0, _, cs, rfl, hg _ rfl, rfl, fun i x hx => by rw [Nat.zero_add]; exact take_get ht i x hx⟩⟩

/-- What became of a slice that was appended to, or inserted into. -/
structure VecUp (e : TypeId) (h : AH) (ob : Option AObj) (A : Nat) (r : Value) (zs : List Value) (h' : AH) : Prop where
  up : ∃ A' o', Vec e r (some o') A' zs ∧ h'.get A' = some o' ∧ ((A' = A ∧ ob ≠ none) ∨ h.next ≤ A')
  frx : ∀ B o, h.get B = some o → (B = A → ob = none) → h'.get B = some o
  wf : WFH h'
  nx : h.next ≤ h'.next

theorem setL_one (cs : List Value) (i : Nat) (x : Value) : setL cs i [x] = cs.set i x := rfl

/-! ### Blocks of one's own, by their roles -/

structure Owns (b h : AH) (nm : Nat → Nat) (ob : Nat → Option AObj) : Prop where
  get : ∀ r o, ob r = some o → h.get (nm r) = some o
  dis : ∀ r s o p, ob r = some o → ob s = some p → r ≠ s → nm r ≠ nm s
  lo : ∀ r o, ob r = some o → b.next ≤ nm r
  gr : Gr b h

def upd {α : Type} (f : Nat → α) (r : Nat) (x : α) : Nat → α := fun i => if i = r then x else f i
theorem upd_same {α : Type} (f : Nat → α) (r : Nat) (x : α) : upd f r x r = x := by simp [upd]
theorem upd_ne {α : Type} (f : Nat → α) {r i : Nat} (x : α) (h : i ≠ r) : upd f r x i = f i := by simp [upd, h]

/-- A block turned, or laid anew, for one role; the others stay. -/
theorem Owns.up {b h h' : AH} {nm : Nat → Nat} {ob : Nat → Option AObj} (w0 : WFH b) (ho : Owns b h nm ob) {r A' : Nat} {o' : AObj} (hg : h'.get A' = some o') (hA : (A' = nm r ∧ ob r ≠ none) ∨ h.next ≤ A')
    (frx : ∀ B o, h.get B = some o → (B = nm r → ob r = none) → h'.get B = some o) (wf : WFH h') (nx : h.next ≤ h'.next) : Owns b h' (upd nm r A') (upd ob r (some o')) := by
  have hlt : ∀ s o, ob s = some o → nm s < h.next := fun s o hs => AH.get_lt ho.gr.wf (ho.get s o hs)
  have keep : ∀ s o, ob s = some o → s ≠ r → h'.get (nm s) = some o := fun s o hs hne => frx _ _ (ho.get s o hs) (fun e => by
    cases hr : ob r with
    | none => rfl
    | some p => exact absurd e (ho.dis s r o p hs hr hne))
  refine ⟨fun s o hs => ?_, fun s u o p hs hu hne => ?_, fun s o hs => ?_, wf, ?_, Nat.le_trans ho.gr.nx nx⟩
  · by_cases e : s = r
    · subst e; rw [upd_same] at hs ⊢; cases hs; exact hg
    · rw [upd_ne _ _ e] at hs ⊢; exact keep s o hs e
  · have far : ∀ s o, ob s = some o → s ≠ r → nm s ≠ A' := fun s o hs hne => by
      rcases hA with ⟨rfl, hr⟩ | hA
      · cases hr' : ob r with
        | none => exact absurd hr' hr
        | some p => exact ho.dis s r o p hs hr' hne
      · have := hlt s o hs; omega
    by_cases e : s = r
    · subst e
      have e2 : u ≠ s := fun x => hne x.symm
      rw [upd_ne _ _ e2] at hu ⊢; rw [upd_same]
      exact fun x => far u p hu e2 x.symm
    · rw [upd_ne _ _ e] at hs ⊢
      by_cases e2 : u = r
      · subst e2; rw [upd_same]; exact far s o hs e
      · rw [upd_ne _ _ e2] at hu ⊢; exact ho.dis s u o p hs hu hne
  · by_cases e : s = r
    · subst e; rw [upd_same]
      rcases hA with ⟨rfl, hr⟩ | hA
      · cases hr' : ob s with
        | none => exact absurd hr' hr
        | some p => exact ho.lo s p hr'
      · exact Nat.le_trans ho.gr.nx hA
    · rw [upd_ne _ _ e] at hs ⊢; exact ho.lo s o hs
  · intro B o hB
    refine frx B o (ho.gr.sub B o hB) (fun e => ?_)
    cases hr : ob r with
    | none => rfl
    | some p =>
      have := ho.lo r p hr
      have := AH.get_lt w0 hB
      omega

theorem Owns.grown {b h h' : AH} {nm : Nat → Nat} {ob : Nat → Option AObj} (ho : Owns b h nm ob) (g : Gr h h') : Owns b h' nm ob :=
  ⟨fun r o hr => g.sub _ _ (ho.get r o hr), ho.dis, ho.lo, ho.gr.trans g⟩

theorem Owns.set {b h : AH} {nm : Nat → Nat} {ob : Nat → Option AObj} (w0 : WFH b) (ho : Owns b h nm ob) {r : Nat} {o o' : AObj} (hr : ob r = some o) : Owns b (h.set (nm r) o') nm (upd ob r (some o')) := by
  have := ho.up (r := r) (A' := nm r) (o' := o') (h' := h.set (nm r) o') w0 (by simp [AH.set_get]) (.inl ⟨rfl, by rw [hr]; simp⟩) (fun B p hB hn => by
    rw [AH.set_get, if_neg]
    · exact hB
    · intro e; have := hn e; rw [hr] at this; cases this) (ho.gr.wf.set (AH.get_lt ho.gr.wf (ho.get r o hr)) _) (Nat.le_refl _)
  have e : upd nm r (nm r) = nm := by
    funext i; unfold upd; split
    · rename_i h; rw [h]
    · rfl
  rwa [e] at this

end
end Go.Ab

namespace Go.Ab

section
variable {P : Program}

/-! ### A walk that leaves some regions to be shown apart -/

def wpX (P : Program) (ids : List Nat) (rd : Option Nat) : Code → (Exit → AAct → AH → Prop) → AAct → AH → Prop
  | .skip, Q, a, h => Q .normal a h
  | .ret, Q, a, h => Q .ret a h
  | .exit id, Q, a, h => Q (.exit id) a h
  | .seq x y, Q, a, h => wpX P ids rd x (thenQ (wpX P ids rd y Q) Q) a h
  | .block id c, Q, a, h => wpX P ids rd c (blockQ id Q) a h
  | .cond c x y, Q, a, h => andK (cOK c = true) (condV (a.ev c) (wpX P ids rd x Q) (wpX P ids rd y Q)) a h
  | .region id ops false, Q, a, h => if id ∈ ids then AW P rd (.region id ops false) Q a h else opsM P ops (Q .normal) ops.toList a h
  | c, Q, a, h => AW P rd c Q a h

section eqs
variable {ids : List Nat} {rd : Option Nat} {Q : Exit → AAct → AH → Prop} {a : AAct} {h : AH}
theorem wpX_skip : wpX P ids rd .skip Q a h = Q .normal a h := rfl
theorem wpX_ret : wpX P ids rd .ret Q a h = Q .ret a h := rfl
theorem wpX_exit {i : Nat} : wpX P ids rd (.exit i) Q a h = Q (.exit i) a h := rfl
theorem wpX_seq {x y : Code} : wpX P ids rd (.seq x y) Q a h = wpX P ids rd x (thenQ (wpX P ids rd y Q) Q) a h := rfl
theorem wpX_block {i : Nat} {c : Code} : wpX P ids rd (.block i c) Q a h = wpX P ids rd c (blockQ i Q) a h := rfl
theorem wpX_cond {c : Operand} {x y : Code} : wpX P ids rd (.cond c x y) Q a h = andK (cOK c = true) (condV (a.ev c) (wpX P ids rd x Q) (wpX P ids rd y Q)) a h := rfl
theorem wpX_region {i : Nat} {ops : Array Oper} : wpX P ids rd (.region i ops false) Q a h = if i ∈ ids then AW P rd (.region i ops false) Q a h else opsM P ops (Q .normal) ops.toList a h := rfl
theorem wpX_draw {i : Nat} {ops : Array Oper} : wpX P ids rd (.region i ops true) Q a h = AW P rd (.region i ops true) Q a h := rfl
theorem wpX_loop {c : Code} : wpX P ids rd (.loop c) Q a h = AW P rd (.loop c) Q a h := rfl
end eqs

end
end Go.Ab

namespace Go.Ab

section
variable {P : Program}

end
end Go.Ab

namespace Go.Ab

section
variable {P : Program}

/-- A slice type whose elements take sz cells. -/
structure SlM (P : Program) (t e : TypeId) (sz B : Nat) : Prop where
  sl : P.underlying t = some (.slice e)
  info : ∃ i z, P.info? e = some i ∧ i.size = sz ∧ i.bytes = B ∧ i.zero = some z ∧ z.cells.size = sz ∧ zOK z = true ∧ plain 9 z = true
  pos : 0 < sz

/-- A slice of one's own, from a block's begin, of n elements: nil, or empty, or of a growing row. -/
def VecM (sz : Nat) (e : TypeId) (v : Value) (ob : Option AObj) (A n : Nat) (zs : List Value) : Prop :=
  zs.length = n * sz ∧
  ((n = 0 ∧ v = .slice none 0 0 ∧ ob = none) ∨
   (n = 0 ∧ v = .slice (some ⟨A, 0, none⟩) 0 0 ∧ ob = some (.row [] e true)) ∨
   (v = .slice (some ⟨A, 0, none⟩) n (SL + sz) ∧ ob = some (.grow zs e)))

theorem VecM.one {sz : Nat} {e : TypeId} {v : Value} {ob : Option AObj} {A n : Nat} {zs : List Value} (hv : VecM sz e v ob A n zs) : oneC v = true ∧ v.cells.toList = [v] := by
  obtain ⟨_, ⟨_, rfl, _⟩ | ⟨_, rfl, _⟩ | ⟨rfl, _⟩⟩ := hv <;> exact ⟨rfl, rfl⟩

theorem VecM.row {α : Type} {L : Lay α} {h : AH} {e : TypeId} {v : Value} {ob : Option AObj} {A : Nat} {zs : List Value} {xs : List α} (hv : VecM L.sz e v ob A xs.length zs) (hg : ∀ o, ob = some o → h.get A = some o) (hb : xs.length ≤ 4294967296)
    (hx : ∀ (i : Nat) (x : α), xs[i]? = some x → L.rel h ((zs.drop (i * L.sz)).take L.sz) x) : RowOf L h v xs := by
  have hp := L.pos
  obtain ⟨hl, ⟨h0, rfl, _⟩ | ⟨h0, rfl, rfl⟩ | ⟨rfl, rfl⟩⟩ := hv
  · exact ⟨none, 0, 0, rfl, h0.symm, ⟨fun q e => (nomatch e), Nat.le_refl _, .inl (by unfold SL; omega)⟩, .inl (List.eq_nil_of_length_eq_zero h0)⟩
  · exact ⟨_, 0, 0, rfl, h0.symm, ⟨fun q e => by cases e; rfl, Nat.le_refl _, .inl (by unfold SL; omega)⟩, .inl (List.eq_nil_of_length_eq_zero h0)⟩
  · exact ⟨_, _, _, rfl, rfl, ⟨fun q e => by cases e; rfl, by unfold SL; omega, .inr rfl⟩, .inr ⟨A, 0, _, zs, rfl, hg _ rfl, rfl, fun i x hi => by rw [Nat.zero_add]; exact hx i x hi⟩⟩

theorem appendM {t t2 e : TypeId} {sz B : Nat} (ht : SlM P t e sz B) (ht2 : ∃ e2, P.underlying t2 = some (.slice e2)) {h : AH} (hw : WFH h) {v : Value} {ob : Option AObj} {A n : Nat} {zs : List Value} (hv : VecM sz e v ob A n zs) (hg : ∀ o, ob = some o → h.get A = some o)
    {x : Value} {k : Nat} {ys : List Value} (hsrc : srcCells sz x h = some (k, ys)) (hk : k ≠ 0) (hys : ys.length = k * sz) (hb : (2 * (n + k) + 192) * B ≤ 281474976710656) (hm : n + k < 4611686018427387904) :
    ∃ r h', aAppend P #[t, t2] v x h = some (r, h') ∧ (∃ A' o', VecM sz e r (some o') A' (n + k) (zs ++ ys) ∧ h'.get A' = some o' ∧ h.next ≤ A') ∧ (∀ C o, h.get C = some o → (C = A → ob = none) → h'.get C = some o) ∧ WFH h' ∧ h.next ≤ h'.next := by
  obtain ⟨i, z, hi, h1, hbb, hzz, hc, hzk, _⟩ := ht.info
  obtain ⟨e2, ht2⟩ := ht2
  have hm' : n + k < ML := by unfold ML; omega
  have hlen : (zs ++ ys).length = (n + k) * sz := by rw [List.length_append, hv.1, hys, Nat.add_mul]
  obtain ⟨hl, ⟨rfl, rfl, rfl⟩ | ⟨rfl, rfl, rfl⟩ | ⟨rfl, rfl⟩⟩ := hv
  · have hz : zs = [] := List.eq_nil_of_length_eq_zero (by rw [hl, Nat.zero_mul])
    subst hz
    rw [Nat.zero_add] at hb hm' hlen
    refine ⟨.slice (some ⟨h.next, 0, none⟩) k (SL + sz), h.new (.grow ys e), ?_, ⟨h.next, _, ⟨by rw [Nat.zero_add]; exact hlen, .inr (.inr ⟨by rw [Nat.zero_add], rfl⟩)⟩, by simp [AH.new_get], Nat.le_refl _⟩, fun C o hC _ => Sub.new hw _ C o hC, hw.new _, by simp⟩
    simp [aAppend, ht.sl, ht2, hi, hzz, h1, hc, isIntT, hsrc, hbb, hb, hm', hzk, hk]
  · have hz : zs = [] := List.eq_nil_of_length_eq_zero (by rw [hl, Nat.zero_mul])
    subst hz
    rw [Nat.zero_add] at hb hm' hlen
    have hA := hg _ rfl
    refine ⟨.slice (some ⟨h.next, 0, none⟩) k (SL + sz), h.new (.grow ys e), ?_, ⟨h.next, _, ⟨by rw [Nat.zero_add]; exact hlen, .inr (.inr ⟨by rw [Nat.zero_add], rfl⟩)⟩, by simp [AH.new_get], Nat.le_refl _⟩, fun C o hC _ => Sub.new hw _ C o hC, hw.new _, by simp⟩
    have h0 : 0 < SL := by unfold SL; omega
    simp [aAppend, ht.sl, ht2, hi, hzz, h1, hc, isIntT, hsrc, hbb, hb, hm', hzk, hk, hA, AObj.cells?, h0]
  · have hA := hg _ rfl
    have hAn := AH.get_lt hw hA
    refine ⟨.slice (some ⟨h.next, 0, none⟩) (n + k) (SL + sz), (h.del A).new (.grow (zs ++ ys) e), ?_, ⟨h.next, _, ⟨hlen, .inr (.inr ⟨rfl, rfl⟩)⟩, by simp [AH.new_get], Nat.le_refl _⟩, fun C o hC hCA => ?_, (hw.del A).new _, by simp⟩
    · have hcap : ¬ (SL + sz < SL) := by omega
      have htk : zs.take (n * sz) = zs := by rw [← hl]; exact List.take_length
      simp [aAppend, ht.sl, ht2, hi, hzz, h1, hc, isIntT, hsrc, hbb, hA, hcap, hb, hm', hzk, hk, hl, htk]
    · have hne : C ≠ A := fun e => by have := hCA e; cases this
      have hCn := AH.get_lt hw hC
      rw [AH.new_get, AH.del_next, if_neg (by omega), AH.del_get, if_neg hne]; exact hC

/-- A slice of one element, laid. -/
theorem aBuildM {t e : TypeId} {sz B : Nat} (ht : SlM P t e sz B) (hs : sz ≤ 16777216) (h : AH) {xs : List Value} (hx : xs.length = sz) (ho : xs.all oneC = true) :
    aBuildSlice P t 1 [(0, .agg xs.toArray)] h = some (.slice (some ⟨h.next, 0, none⟩) 1 1, h.new (.row xs e true)) := by
  obtain ⟨i, z, hi, h1, hb, hz, hc, hzk, hp⟩ := ht.info
  have hzl : (zeros z.cells.toList 1).length = sz := by simp [zeros, hc]
  have hset := setL_all xs (zeros z.cells.toList 1) [] (by rw [hzl, hx])
  simp only [List.nil_append, List.length_nil] at hset
  have hcx : (Value.agg xs.toArray).cells = xs.toArray := rfl
  have hxs : xs.toArray.size = sz := by simp [hx]
  have hnl : ¬ ((zeros z.cells.toList 1).length < sz) := by omega
  have h01 : 1 < SL := by unfold SL; omega
  simp only [aBuildSlice, ht.sl, hi, hz, h1, hp, hc, fillL]
  simp only [Nat.one_mul, hs, h01, true_and, and_true, if_true, hcx, hxs, Nat.zero_mul, Nat.zero_add, hnl, if_false, if_true, hset, ne_eq, not_true_eq_false, or_self]
  rw [if_pos ho]

theorem srcNew {h : AH} {xs : List Value} {e : TypeId} {sz : Nat} (hx : xs.length = sz) : srcCells sz (.slice (some ⟨h.next, 0, none⟩) 1 1) (h.new (.row xs e true)) = some (1, xs) := by
  subst hx
  simp [srcCells, AH.new_get, AObj.cells?]

/-- The cells of a row, as an append reads them. -/
theorem RowOf.src {α : Type} {L : Lay α} {h : AH} {v : Value} {xs : List α} (hs : RowOf L h v xs) : ∃ ys, srcCells L.sz v h = some (xs.length, ys) ∧ ys.length = xs.length * L.sz ∧
    ∀ (i : Nat) (x : α), xs[i]? = some x → L.rel h ((ys.drop (i * L.sz)).take L.sz) x := by
  obtain ⟨p, l, c, rfl, rfl, ⟨hsp, _⟩, hcs⟩ := hs
  have hpos := L.pos
  by_cases hz : xs = []
  · subst hz
    refine ⟨[], ?_, by simp, fun i x hx => by simp at hx⟩
    cases p with
    | none => rfl
    | some q =>
      obtain ⟨A, off, sp⟩ := q
      have : sp = none := hsp _ rfl
      subst this; rfl
  · rcases hcs with e | ⟨A, off, o, cs, rfl, hg, hc, hall⟩
    · exact absurd e hz
    · have hn : xs.length ≠ 0 := fun e => hz (List.eq_nil_of_length_eq_zero e)
      have hlast : off + xs.length * L.sz ≤ cs.length := by
        have hx : xs[xs.length - 1]? = some xs[xs.length - 1] := List.getElem?_eq_getElem (by omega)
        have hl := L.len (hall _ _ hx)
        simp only [List.length_take, List.length_drop] at hl
        have : (xs.length - 1) * L.sz + L.sz = xs.length * L.sz := by
          rw [← Nat.succ_mul]; congr 1; omega
        omega
      refine ⟨(cs.drop off).take (xs.length * L.sz), ?_, by simp; omega, fun i x hx => ?_⟩
      · simp only [srcCells, if_neg hn, hg, Option.bind_some, hc, if_pos hlast]
      · have hi : i < xs.length := (List.getElem?_eq_some_iff.1 hx).1
        have := hall i x hx
        have hle : i * L.sz + L.sz ≤ xs.length * L.sz := by
          rw [← Nat.succ_mul]; exact Nat.mul_le_mul_right _ hi
        rw [List.drop_take, List.drop_drop, List.take_take, Nat.min_eq_left (by omega)]
        exact this

/-- One element of a slice of one's own written over. -/
theorem Vec.store {e : TypeId} {h : AH} {v : Value} {ob : Option AObj} {A : Nat} {zs : List Value} (hv : Vec e v ob A zs) (hg : ∀ o, ob = some o → h.get A = some o) (he : ∃ i, P.info? e = some i ∧ i.size = 1) {i : Nat} (hi : i < zs.length)
    {x : Value} (hx : x.cells.toList = [x]) (ho : oneC x = true) : ∃ o', aStore P e (slAt 1 v i) x h = some (h.set A o') ∧ Vec e v (some o') A (zs.set i x) ∧ ob ≠ none := by
  obtain ⟨ie, hie, h1⟩ := he
  have hc : x.cells.size = 1 := by
    have := congrArg List.length hx
    simpa using this
  have key : ∀ cs : List Value, cs.take zs.length = zs → (cs.set i x).take zs.length = zs.set i x := by
    intro cs ht
    rw [List.take_set, ht]
  rcases hv with ⟨rfl, rfl, _⟩ | ⟨cs, rfl, rfl, hle, ht⟩ | ⟨cs, C, rfl, h2, h3, h4, rfl, ht⟩
  · simp at hi
  · have hA := hg _ rfl
    refine ⟨.grow (cs.set i x) e, ?_, .inr (.inl ⟨cs.set i x, by simp, rfl, by simpa using hle, by simpa using key cs ht⟩), by simp⟩
    have hlt : i + 1 ≤ cs.length := by omega
    simp [slAt, aStore, hie, h1, hc, hx, ho, hA, AObj.setCells, hlt, setL_one]
  · have hA := hg _ rfl
    refine ⟨.row (cs.set i x) e true, ?_, .inr (.inr ⟨cs.set i x, C, by simp, h2, by simpa using h3, by simpa using h4, rfl, by simpa using key cs ht⟩), by simp⟩
    have hlt : i + 1 ≤ cs.length := by omega
    simp [slAt, aStore, hie, h1, hc, hx, ho, hA, AObj.setCells, hlt, setL_one]

end
end Go.Ab

namespace Go.Ab

section
variable {P : Program}

/-- A plan, by the operations' places. -/
inductive OT where
  | nil
  | step (k i : Nat) (t : OT)
  | two (i : Nat) (t : OT) (j : Nat) (u : OT)

def stepX (P : Program) (F : List (Oper × Value) → AAct → AH → Prop) (ops : Array Oper) (k : Nat) (o : Oper) (R : List (Oper × Value)) (a : AAct) (h : AH) : Prop :=
  match k with
  | 0 => (match dop P a.ev o.op h with
    | some (v, h') => andK (h' = h) (F R) (a.put o.dst v) h
    | none => False)
  | 1 => (match dop P a.ev o.op h with
    | some (v, h') => andK (h' = h) (F ((o, v) :: R)) (a.put o.dst v) h
    | none => False)
  | _ => match o.op with
    | .call { callee := .value f, args, .. } => callR P (a.ev f) (args.toList.map a.ev) h (contK (fun a h => andK (Keeps P ops R a h) (F R) a h) o.dst a)
    | .next it false => NextW (a.ev it) h (contK (fun a h => andK (Keeps P ops R a h) (F R) a h) o.dst a)
    | op => match dop P a.ev op h with
      | some (v, h') => andK (Keeps P ops R (a.put o.dst v) h') (F R) (a.put o.dst v) h'
      | none => False

def skipX (P : Program) (F : List (Oper × Value) → AAct → AH → Prop) (ops : Array Oper) (k : Nat) (o : Oper) (R : List (Oper × Value)) (a : AAct) (h : AH) : Prop :=
  match k with
  | 0 => F R (a.put o.dst undef) h
  | 1 => F ((o, undef) :: R) (a.put o.dst undef) h
  | _ => andK (Keeps P ops R (a.put o.dst undef) h) (F R) (a.put o.dst undef) h

def wantX (w : Bool) (P : Program) (F : List (Oper × Value) → AAct → AH → Prop) (ops : Array Oper) (k : Nat) (o : Oper) (R : List (Oper × Value)) (a : AAct) (h : AH) : Prop :=
  match w with
  | false => skipX P F ops k o R a h
  | true => stepX P F ops k o R a h

def okX (b : Bool) (P : Program) (F : List (Oper × Value) → AAct → AH → Prop) (ops : Array Oper) (k : Nat) (o : Oper) (R : List (Oper × Value)) (a : AAct) (h : AH) : Prop :=
  match b with
  | false => False
  | true => wantX (Region.wanted o (yieldedA ops a)) P F ops k o R a h

theorem okX_true {F : List (Oper × Value) → AAct → AH → Prop} {ops : Array Oper} {k : Nat} {o : Oper} {R : List (Oper × Value)} {a : AAct} {h : AH} : okX true P F ops k o R a h = wantX (Region.wanted o (yieldedA ops a)) P F ops k o R a h := rfl
theorem wantX_true {F : List (Oper × Value) → AAct → AH → Prop} {ops : Array Oper} {k : Nat} {o : Oper} {R : List (Oper × Value)} {a : AAct} {h : AH} : wantX true P F ops k o R a h = stepX P F ops k o R a h := rfl
theorem wantX_false {F : List (Oper × Value) → AAct → AH → Prop} {ops : Array Oper} {k : Nat} {o : Oper} {R : List (Oper × Value)} {a : AAct} {h : AH} : wantX false P F ops k o R a h = skipX P F ops k o R a h := rfl

def treeM (P : Program) (ops : Array Oper) (N : AAct → AH → Prop) : OT → List (Oper × Value) → AAct → AH → Prop
  | .nil, _, a, h => N a h
  | .step k i t, R, a, h => okX (okB (ops.toList.getD i op0) a) P (treeM P ops N t) ops k (ops.toList.getD i op0) R a h
  | .two i t j u, R, a, h => okX (okB (ops.toList.getD i op0) a) P (treeM P ops N t) ops 2 (ops.toList.getD i op0) R a h ∧ okX (okB (ops.toList.getD j op0) a) P (treeM P ops N u) ops 2 (ops.toList.getD j op0) R a h

theorem treeM_nil {ops : Array Oper} {N : AAct → AH → Prop} {R : List (Oper × Value)} {a : AAct} {h : AH} : treeM P ops N .nil R a h = N a h := rfl
theorem treeM_step {ops : Array Oper} {N : AAct → AH → Prop} {k i : Nat} {t : OT} {R : List (Oper × Value)} {a : AAct} {h : AH} :
    treeM P ops N (.step k i t) R a h = okX (okB (ops.toList.getD i op0) a) P (treeM P ops N t) ops k (ops.toList.getD i op0) R a h := rfl
theorem treeM_two {ops : Array Oper} {N : AAct → AH → Prop} {i j : Nat} {t u : OT} {R : List (Oper × Value)} {a : AAct} {h : AH} :
    treeM P ops N (.two i t j u) R a h = (treeM P ops N (.step 2 i t) R a h ∧ treeM P ops N (.step 2 j u) R a h) := rfl

/-! ### An append of several elements -/

end
end Go.Ab

namespace Go.Ab
open Go.ChangeShapes Go.WideShapes Go.ChangeAt Go.RowKit

/-- The heap of arguments grows. -/
structure GrA (W : World) (ρ : Ren) (h : AH) (ρ' : Ren) (h' : AH) : Prop where
  le : ρ.le ρ'
  hr : HR ρ' h' W
  ro : AllRO h'
  sub : Sub h h'

theorem GrA.refl {W : World} {ρ : Ren} {h : AH} (hr : HR ρ h W) (hro : AllRO h) : GrA W ρ h ρ h := ⟨Ren.le_refl _, hr, hro, fun _ _ x => x⟩
theorem GrA.trans {W : World} {ρ ρ1 ρ2 : Ren} {h h1 h2 : AH} (a : GrA W ρ h ρ1 h1) (b : GrA W ρ1 h1 ρ2 h2) : GrA W ρ h ρ2 h2 := ⟨Ren.le_trans a.le b.le, b.hr, b.ro, a.sub.trans b.sub⟩

/-- A name for a place, without an object. -/
theorem nameArg {ρ : Ren} {h : AH} {W : World} (hr : HR ρ h W) (hro : AllRO h) (blk off : Nat) : GrA W ρ h (ρ.put h.next ⟨blk, off, 0⟩) { next := h.next + 1, get := h.get } := by
  have hle : ρ.le (ρ.put h.next ⟨blk, off, 0⟩) := Ren.le_put hr.fresh
  refine ⟨hle, ⟨fun A o ha => ?_, fun A B o p r q h1 h2 _ _ _ how => ?_, fun A r hA => ?_⟩, hro, fun _ _ x => x⟩
  · obtain ⟨r, hq, hor⟩ := hr.obj A o ha
    exact ⟨r, hle _ _ hq, hor.move hle rfl⟩
  · rw [hro A o h1, hro B p h2] at how; simp at how
  · by_cases e : A = h.next
    · subst e; exact Nat.lt_succ_self _
    · rw [Ren.put_ne _ _ e] at hA; exact Nat.lt_succ_of_lt (hr.dom A r hA)

/-- A row of cells that may only be read. -/
theorem rowArg {ρ : Ren} {h : AH} {W : World} (hr : HR ρ h W) (hro : AllRO h) {blk off : Nat} {us : List Value} (hne : us ≠ []) (hone : ∀ u ∈ us, oneC u = true)
    (hc : ∀ (i : Nat) (u : Value), us[i]? = some u → ∃ v, W.cell? ⟨blk, off + i, none⟩ = some v ∧ VR ρ u v) : ∃ e, GrA W ρ h (ρ.put h.next ⟨blk, off, 0⟩) (h.new (.row us e false)) := by
  have hle : ρ.le (ρ.put h.next ⟨blk, off, 0⟩) := Ren.le_put hr.fresh
  have hlast : us.length - 1 < us.length := by
    have : us.length ≠ 0 := by simpa using hne
    omega
  have hblk : ∃ cc e fr, W.heap[blk]? = some (.cells cc e fr) ∧ ∀ (i : Nat) (u : Value), us[i]? = some u → ∃ v, cc[off + i]? = some v ∧ VR ρ u v := by
    obtain ⟨v, h1, _⟩ := hc _ _ (List.getElem?_eq_getElem hlast)
    unfold World.cell? at h1
    split at h1
    · rename_i cc e fr hh
      refine ⟨cc, e, fr, hh, fun i u hi => ?_⟩
      obtain ⟨v2, h2, h3⟩ := hc i u hi
      unfold World.cell? at h2
      rw [hh] at h2
      exact ⟨v2, by simpa using h2, h3⟩
    · cases h1
  obtain ⟨cc, e, fr, hh, hcc⟩ := hblk
  have hro' : AllRO (h.new (.row us e false)) := by
    intro A o ha
    rw [AH.new_get] at ha
    split at ha
    · cases ha; rfl
    · exact hro A o ha
  refine ⟨e, hle, ⟨fun A o ha => ?_, fun A B o p r q h1 h2 _ _ _ how => ?_, fun A r hA => ?_⟩, hro', Sub.new hr.wf _⟩
  · rw [AH.new_get] at ha
    split at ha
    · rename_i e'; cases ha; subst e'
      refine ⟨_, Ren.put_same _ _ _, cc, fr, hh, ?_, fun i u hi => ?_, (fun hw => by cases hw), hone⟩
      · obtain ⟨v, hv, _⟩ := hcc _ _ (List.getElem?_eq_getElem hlast)
        have := (Array.getElem?_eq_some_iff.1 hv).1
        simp only; omega
      · obtain ⟨v, hv, hr⟩ := hcc i u hi
        exact ⟨v, hv, hr.mono hle⟩
    · obtain ⟨r, hq, hor⟩ := hr.obj A o ha
      exact ⟨r, hle _ _ hq, hor.move hle rfl⟩
  · rw [hro' A o h1, hro' B p h2] at how; simp at how
  · by_cases e : A = h.next
    · subst e; simp
    · rw [Ren.put_ne _ _ e] at hA; have := hr.dom A r hA; simp; omega

section
variable {H : Type} {enc : TypeId × Value → H} {P : Program} {W : World} {base : Nat} {spare : Nat → Bool} {held : Bool}

/-- What cells hold, and how they are brought onto the abstract heap. -/
def Brings {α : Type} (W : World) (L : Lay α) (Good : α → Prop) (cs : List Value) (x : α) : Prop :=
  Good x ∧ ∀ ρ h, HR ρ h W → AllRO h → ∃ ρ' h' us, GrA W ρ h ρ' h' ∧ LR ρ' us cs ∧ L.rel h' us x

/-- Of a type, every trodden element. -/
def Opens (enc : TypeId × Value → H) (P : Program) (W : World) (base : Nat) (spare : Nat → Bool) (held : Bool) (e : TypeId) {α : Type} (L : Lay α) (Good : α → Prop) : Prop :=
  ∀ fuel cs y, DataW.trod enc P W base spare held fuel e cs = some y → (∀ n ∈ DataW.weights P e y.1, n ≤ reachBytes) → ∃ x : α, Brings W L Good cs x

theorem mem_weightsAll {e : TypeId} {n : Nat} : ∀ {l : List (DataW H)} {d : DataW H}, d ∈ l → n ∈ d.weights P e → n ∈ DataW.weightsAll P e l := by
  intro l
  induction l with
  | nil => intro d h; cases h
  | cons x l ih =>
    intro d hd hn
    rw [DataW.weightsAll]
    rcases List.mem_cons.1 hd with rfl | hd
    · exact List.mem_append_left _ hn
    · exact List.mem_append_right _ (ih hd hn)

theorem mem_weightsEach {n : Nat} : ∀ {ts : List TypeId} {l : List (DataW H)} {i : Nat} {t : TypeId} {d : DataW H}, ts[i]? = some t → l[i]? = some d → n ∈ d.weights P t → n ∈ DataW.weightsEach P ts l := by
  intro ts
  induction ts with
  | nil => intro l i t d h; simp at h
  | cons t0 ts ih =>
    intro l i t d ht hd hn
    cases l with
    | nil => simp at hd
    | cons d0 l =>
      rw [DataW.weightsEach]
      cases i with
      | zero => cases ht; cases hd; exact List.mem_append_left _ hn
      | succ i => exact List.mem_append_right _ (ih ht hd hn)

theorem spot_of_cells {a : Addr} {n : Nat} {cs : List Value} (hn : 0 < n) (h : W.cells? base a n = some cs) : a.spot = none := by
  obtain ⟨_, hl, hc⟩ := World.cells?_some h
  have h0 := hc 0 hn
  have : (a.add 0) = a := by simp [Addr.add]
  rw [this, List.getElem?_eq_getElem (by omega)] at h0
  unfold World.cell? at h0
  split at h0
  · split at h0
    · cases h0
    · rename_i hs; simpa using hs
  · cases h0

theorem openRow {t e : TypeId} {α : Type} {L : Lay α} {Good : α → Prop} (ht : P.underlying t = some (.slice e)) (hc : P.cellsOf e = L.sz) (ho : Opens enc P W base (fun _ => true) held e L Good) {fuel : Nat} {cs : List Value} {y : DataW H × List MemPlace}
    (hd : DataW.trod enc P W base (fun _ => true) held fuel t cs = some y) (hw : ∀ n ∈ DataW.weights P t y.1, n ≤ reachBytes) :
    ∃ (v : Value) (xs : List α), cs = [v] ∧ (∀ x ∈ xs, Good x) ∧ xs.length * P.bytesOf e ≤ reachBytes ∧ ∀ ρ h, HR ρ h W → AllRO h → ∃ ρ' h' u, GrA W ρ h ρ' h' ∧ VR ρ' u v ∧ RowOf L h' u xs := by
  have hsz := L.pos
  rcases DataW.trod_slice ht hd with ⟨rfl, rfl⟩ | ⟨a, len, cap, elems, rest, m, _, rfl, rfl, hb, hlc, hcm, hlen, hel, hsp, _⟩
  · exact ⟨_, [], rfl, fun x h => (nomatch h), by simp [reachBytes], fun ρ h hr hro => ⟨ρ, h, .slice none 0 0, GrA.refl hr hro, .nilSlice _ _, none, 0, 0, rfl, rfl, ⟨fun q e => (nomatch e), Nat.le_refl _, .inl (by unfold SL; omega)⟩, .inl rfl⟩⟩
  have hwe : DataW.weights P t (.slice (elems.map (·.1)) (rest.map (·.1))) = (elems.length + rest.length) * P.bytesOf e :: (DataW.weightsAll P e (elems.map (·.1)) ++ DataW.weightsAll P e (rest.map (·.1))) := by
    rw [DataW.weights, ht]; simp
  rw [hwe] at hw
  have hbytes := hw _ (List.mem_cons_self ..)
  have hml : maxLen = 9223372036854775807 := rfl
  have each : ∀ i, i < len → ∃ csi x, W.cells? base (a.add (i * L.sz)) L.sz = some csi ∧ Brings W L Good csi x := by
    intro i hi
    have h1 := hel i hi
    rw [hc, List.getElem?_eq_getElem (by omega), Option.bind_eq_some_iff] at h1
    obtain ⟨csi, hcs, hy⟩ := h1
    obtain ⟨x, hx⟩ := ho _ _ _ hy (fun n hn => hw n (List.mem_cons_of_mem _ (List.mem_append_left _ (mem_weightsAll (List.mem_map.2 ⟨_, List.getElem_mem _, rfl⟩) hn))))
    exact ⟨csi, x, hcs, hx⟩
  have all : ∀ k, k ≤ len → ∃ xs : List α, xs.length = k ∧ ∀ i x, xs[i]? = some x → ∃ csi, W.cells? base (a.add (i * L.sz)) L.sz = some csi ∧ Brings W L Good csi x := by
    intro k
    induction k with
    | zero => intro _; exact ⟨[], rfl, fun i x h => by simp at h⟩
    | succ k ih =>
      intro hk
      obtain ⟨xs, hx, hall⟩ := ih (by omega)
      obtain ⟨csi, x, h1, h2⟩ := each k (by omega)
      refine ⟨xs ++ [x], by simp [hx], fun i z hz => ?_⟩
      by_cases hi : i < xs.length
      · rw [List.getElem?_append_left hi] at hz; exact hall i z hz
      · rw [List.getElem?_append_right (by omega)] at hz
        have hi0 : i = k := by
          have := (List.getElem?_eq_some_iff.1 hz).1
          simp at this; omega
        subst hi0
        rw [hx, Nat.sub_self] at hz
        cases hz
        exact ⟨csi, h1, h2⟩
  obtain ⟨xs, hxl, hall⟩ := all len (Nat.le_refl _)
  have hgood : ∀ x ∈ xs, Good x := by
    intro x hx
    obtain ⟨i, hi, e⟩ := List.getElem_of_mem hx
    obtain ⟨csi, _, h2⟩ := hall i x (by rw [List.getElem?_eq_getElem hi, e])
    exact h2.1
  refine ⟨_, xs, rfl, hgood, ?_, fun ρ h hr hro => ?_⟩
  · rw [hxl, ← hlen]
    exact Nat.le_trans (Nat.mul_le_mul_right _ (Nat.le_add_right _ _)) hbytes
  by_cases h0 : len = 0
  · subst h0
    have hx0 : xs = [] := List.eq_nil_of_length_eq_zero hxl
    subst hx0
    by_cases hcap : cap = 0
    · subst hcap
      exact ⟨ρ, h, .slice (some ⟨0, 0, none⟩) 0 0, GrA.refl hr hro, .slip, _, 0, 0, rfl, rfl, ⟨fun q e => by cases e; rfl, Nat.le_refl _, .inl (by unfold SL; omega)⟩, .inl rfl⟩
    · have hspot : a.spot = none := by
        obtain ⟨hrl, hrest⟩ := hsp rfl
        have h1 := hrest 0 (by omega)
        rw [hc, List.getElem?_eq_getElem (by omega), Option.bind_eq_some_iff] at h1
        obtain ⟨csi, hcs, _⟩ := h1
        have := spot_of_cells hsz hcs
        simpa [Addr.add] using this
      obtain ⟨blk, off, sp⟩ := a
      simp only at hspot; subst hspot
      have hg := nameArg hr hro blk off
      refine ⟨_, _, .slice (some ⟨h.next, 0, none⟩) 0 cap, hg, ?_, _, 0, cap, rfl, rfl, ⟨fun q e => by cases e; rfl, Nat.zero_le _, .inl (by unfold SL; omega)⟩, .inl rfl⟩
      have := VR.slice (ρ := ρ.put h.next ⟨blk, off, 0⟩) (A := h.next) (off := 0) (l := 0) (c := cap) (Ren.put_same _ _ _) (by unfold SL; omega)
      simpa using this
  · have hspot : a.spot = none := by
      obtain ⟨csi, x, hcs, _⟩ := each 0 (by omega)
      have := spot_of_cells hsz hcs
      simpa [Addr.add] using this
    obtain ⟨blk, off, sp⟩ := a
    simp only at hspot; subst hspot
    have build : ∀ k, k ≤ len → ∃ (ρ' : Ren) (h' : AH) (us : List Value), GrA W ρ h ρ' h' ∧ us.length = k * L.sz ∧ (∀ (i : Nat) (u : Value), us[i]? = some u → ∃ v, W.cell? ⟨blk, off + i, none⟩ = some v ∧ VR ρ' u v) ∧
        (∀ (i : Nat) (x : α), i < k → xs[i]? = some x → L.rel h' ((us.drop (i * L.sz)).take L.sz) x) ∧ ∀ u ∈ us, oneC u = true := by
      intro k
      induction k with
      | zero => intro _; exact ⟨ρ, h, [], GrA.refl hr hro, by simp, fun i u hu => by simp at hu, fun i x hi => by omega, fun u hu => by cases hu⟩
      | succ k ih =>
        intro hk
        obtain ⟨ρ1, h1, us, g1, hul, hcell, hrel, hone⟩ := ih (by omega)
        have hxk : xs[k]? = some xs[k] := List.getElem?_eq_getElem (by omega)
        obtain ⟨csi, hcs, _, hbr⟩ := hall k _ hxk
        obtain ⟨ρ2, h2, vs, g2, hlr, hr2⟩ := hbr ρ1 h1 g1.hr g1.ro
        obtain ⟨_, hcl, hcc⟩ := World.cells?_some hcs
        have hvl := L.len hr2
        refine ⟨ρ2, h2, us ++ vs, g1.trans g2, by rw [List.length_append, hul, hvl, Nat.succ_mul], fun i u hu => ?_, fun i x hi hx => ?_, fun u hu => ?_⟩
        · by_cases hi : i < us.length
          · rw [List.getElem?_append_left hi] at hu
            obtain ⟨v, hv, hvr⟩ := hcell i u hu
            exact ⟨v, hv, hvr.mono g2.le⟩
          · rw [List.getElem?_append_right (by omega)] at hu
            obtain ⟨v, hv, hvr⟩ := hlr.get hu
            have hj : i - us.length < L.sz := by
              have := (List.getElem?_eq_some_iff.1 hu).1; omega
            have := hcc _ hj
            rw [hv] at this
            refine ⟨v, ?_, hvr⟩
            rw [← this]
            congr 1
            have e1 : (⟨blk, off, none⟩ : Addr).add (k * L.sz) = ⟨blk, off + k * L.sz, none⟩ := add_eq _ _ _
            rw [e1, add_eq]
            congr 1; omega
        · by_cases hik : i < k
          · have hle : i * L.sz + L.sz ≤ k * L.sz := by rw [← Nat.succ_mul]; exact Nat.mul_le_mul_right _ hik
            rw [List.drop_append_of_le_length (by omega), List.take_append_of_le_length (by rw [List.length_drop]; omega)]
            exact L.mono g2.sub (hrel i x hik hx)
          · have hik' : i = k := by omega
            subst hik'
            rw [hxk] at hx; cases hx
            rw [← hul, List.drop_left, ← hvl, List.take_length]
            exact hr2
        · rcases List.mem_append.1 hu with hu | hu
          · exact hone u hu
          · exact L.one hr2 u hu
    obtain ⟨ρ1, h1, us, g1, hul, hcell, hrel, hone⟩ := build len (Nat.le_refl _)
    have hus : us ≠ [] := by
      intro e; rw [e] at hul
      have : 0 < len * L.sz := Nat.mul_pos (by omega) hsz
      simp at hul; omega
    obtain ⟨e', g2⟩ := rowArg g1.hr g1.ro hus hone hcell
    refine ⟨_, _, .slice (some ⟨h1.next, 0, none⟩) len cap, g1.trans g2, ?_, _, len, cap, rfl, hxl.symm, ⟨fun q e => by cases e; rfl, hlc, .inl (by unfold SL; omega)⟩, .inr ⟨h1.next, 0, .row us e' false, us, rfl, by rw [AH.new_get, if_pos rfl], rfl, fun i x hx => ?_⟩⟩
    · have := VR.slice (ρ := ρ1.put h1.next ⟨blk, off, 0⟩) (A := h1.next) (off := 0) (l := len) (c := cap) (Ren.put_same _ _ _) (by unfold SL; omega)
      simpa using this
    · rw [Nat.zero_add]
      exact L.mono g2.sub (hrel i x (by have := (List.getElem?_eq_some_iff.1 hx).1; omega) hx)

/-- Integers of a kind. -/
def intL (k : IntKind) : Lay Int where
  sz := 1
  pos := by decide
  rel h cs z := cs = [.int k z]
  mono := by rintro h h' cs x hs rfl; rfl
  len := by rintro h cs x rfl; rfl
  one := by rintro h cs x rfl v hv; simp only [List.mem_cons, List.not_mem_nil, or_false] at hv; subst hv; rfl
instance (k : IntKind) : LayV (intL k) := ⟨by rintro h cs x rfl; rfl⟩

theorem openInt {t : TypeId} {k : IntKind} (ht : P.underlying t = some (.int k)) : Opens enc P W base spare held t (intL k) (fun z => (Lit.int k z).wf = true) := by
  intro fuel cs y hd _
  obtain ⟨n, rfl, _, hwf⟩ := DataW.trod_int ht hd
  exact ⟨n, hwf, fun ρ h hr hro => ⟨ρ, h, _, GrA.refl hr hro, LR.single (.int _ _), rfl⟩⟩

end
end Go.Ab

namespace Go.Ab

section
variable {P : Program}

/-- What became of a slice of one's own to which any slice was appended. -/
structure VecGo (e : TypeId) (h : AH) (ob : Option AObj) (A : Nat) (r : Value) (zs : List Value) (h' : AH) : Prop where
  up : ∃ ob' A', Vec e r ob' A' zs ∧ (∀ o, ob' = some o → h'.get A' = some o) ∧ (ob' ≠ none → (A' = A ∧ ob ≠ none) ∨ h.next ≤ A')
  frx : ∀ B o, h.get B = some o → (B = A → ob = none) → h'.get B = some o
  wf : WFH h'
  nx : h.next ≤ h'.next

theorem SemOp.mono {ops : Array Oper} {o : Oper} {a : AAct} {h : AH} {K K' : AAct → AH → Prop} (hk : ∀ a h, K a h → K' a h) (hs : SemOp P ops o a h K) : SemOp P ops o a h K' := by
  intro n ρ crd ca w ha hr Q N hN
  exact hs n ρ crd ca w ha hr Q N (fun ca' w' ⟨ρ', a', h', hK, x⟩ => hN ca' w' ⟨ρ', a', h', hk _ _ hK, x⟩)

end
end Go.Ab

namespace Go.Ab

section
variable {P : Program}

/-- What the run of an operation must bring about. -/
def freeK (F : Nat → Value → AH → Prop) (i : Nat) (o : Oper) (a : AAct) (h : AH) (a2 : AAct) (h2 : AH) : Prop := ∃ v, a2 = a.put o.dst v ∧ F i v h2 ∧ Gr h h2

def dstOf (ops : Array Oper) (j : Nat) : Nat := ((ops[j]?).bind (·.dst)).getD 0

/-- The facts of the operations that one waits for. -/
def factsW (F : Nat → Value → AH → Prop) (ops : Array Oper) (a : AAct) (h : AH) : List Nat → Prop
  | [] => True
  | j :: l => F j (a.tm (dstOf ops j)) h ∧ factsW F ops a h l

/-- Between the operations. -/
structure FreeAt (a0 : AAct) (h0 : AH) (T : List Nat) (a : AAct) (h : AH) : Prop where
  n : a.n = a0.n
  df : a.df = a0.df
  tm : ∀ t, t ∉ T → a.tm t = a0.tm t
  gr : Gr h0 h

def freeM (P : Program) (F : Nat → Value → AH → Prop) (ops : Array Oper) (N : AAct → AH → Prop) (a0 : AAct) (h0 : AH) (T : List Nat) : Nat → List Oper → List (List Nat) → Prop
  | _, [], _ => True
  | i, o :: l, D => (∀ a h, FreeAt a0 h0 T a h → factsW F ops a h (D.headD []) → opsM P ops (if l.isEmpty then N else freeK F i o a h) [o] a h) ∧ freeM P F ops N a0 h0 T (i + 1) l D.tail

def freeDep (o : Oper) (j : Nat) : Bool := o.after.any fun e => Region.binds .any e && e.on == j

def freeOK (ops : Array Oper) (T : List Nat) (D : List (List Nat)) : Bool :=
  decide (0 < ops.size) && (List.range ops.size).all fun i => match ops[i]? with
    | none => false
    | some o => o.after.all (fun e => !Region.binds .any e || decide (e.on < i)) && (D.getD i []).all (fun j => decide (j < i) && freeDep o j) &&
      (if i + 1 = ops.size then (List.range i).all (freeDep o) else match o.dst with
        | none => false
        | some t => T.contains t && (List.range i).all fun j => dstOf ops j != t)

theorem freeDep_spec {ops : Array Oper} {o : Oper} {i j : Nat} {listed : Array Bool} (ho : ops[i]? = some o) (hd : freeDep o j = true) (hr : i ∈ Region.ready .any ops listed) : listed.getD j false = true := by
  obtain ⟨_, o', ho', hall⟩ := mem_ready.1 hr
  rw [ho] at ho'; cases ho'
  obtain ⟨e, he, hb⟩ := Array.any_eq_true'.1 hd
  simp only [Bool.and_eq_true, beq_iff_eq] at hb
  rw [← hb.2]; exact hall e he hb.1

def unl (listed : Array Bool) (L : List Nat) : Nat := L.countP fun i => !listed.getD i true

theorem unl_set {listed : Array Bool} {i : Nat} (hi : listed.getD i true = false) : ∀ L : List Nat, unl (listed.setIfInBounds i true) L + (if i ∈ L then 1 else 0) ≤ unl listed L := by
  intro L
  have hlt : i < listed.size := by
    rcases Nat.lt_or_ge i listed.size with h | h
    · exact h
    · simp [h] at hi
  have hself : (listed.setIfInBounds i true).getD i true = true := by simp
  induction L with
  | nil => simp [unl]
  | cons j l ih =>
    unfold unl at ih ⊢
    rw [List.countP_cons, List.countP_cons]
    by_cases hij : i = j
    · subst hij
      simp only [hself, hi, Bool.not_true, Bool.not_false, if_true, Bool.false_eq_true, if_false, List.mem_cons, true_or]
      have : (List.countP (fun j => !(listed.setIfInBounds i true).getD j true) l) ≤ List.countP (fun j => !listed.getD j true) l := Nat.le_trans (Nat.le_add_right _ _) ih
      omega
    · rw [getD_set_ne true hij]
      simp only [List.mem_cons, hij, false_or]
      omega

theorem freeM_get {F : Nat → Value → AH → Prop} {ops : Array Oper} {N : AAct → AH → Prop} {a0 : AAct} {h0 : AH} {T : List Nat} : ∀ (l : List Oper) (i : Nat) (D : List (List Nat)), freeM P F ops N a0 h0 T i l D → ∀ k o, l[k]? = some o →
    ∀ a h, FreeAt a0 h0 T a h → factsW F ops a h (D.getD k []) → opsM P ops (if k + 1 = l.length then N else freeK F (i + k) o a h) [o] a h := by
  intro l
  induction l with
  | nil => intro i D _ k o hk; simp at hk
  | cons x l ih =>
    intro i D hf k o hk a h hA hW
    cases k with
    | zero =>
      simp only [List.getElem?_cons_zero, Option.some.injEq] at hk
      subst hk
      have hW' : factsW F ops a h (D.headD []) := by cases D <;> exact hW
      have := hf.1 a h hA hW'
      cases l with
      | nil => simpa using this
      | cons y l => simpa using this
    | succ k =>
      have hW' : factsW F ops a h (D.tail.getD k []) := by cases D <;> simpa using hW
      have := ih (i + 1) D.tail hf.2 k o (by simpa using hk) a h hA hW'
      have e : i + 1 + k = i + (k + 1) := by omega
      rw [e] at this
      simpa using this

theorem factsW_of {F : Nat → Value → AH → Prop} {ops : Array Oper} {a : AAct} {h : AH} : ∀ {L : List Nat}, (∀ j ∈ L, F j (a.tm (dstOf ops j)) h) → factsW F ops a h L := by
  intro L
  induction L with
  | nil => intro _; trivial
  | cons j l ih => intro hx; exact ⟨hx j (List.mem_cons_self ..), ih fun k hk => hx k (List.mem_cons_of_mem _ hk)⟩

/-- A region that draws its order: every order at once. -/
theorem AW.free {rd : Option Nat} {id : Nat} {ops : Array Oper} {Q : Exit → AAct → AH → Prop} {a0 : AAct} {h0 : AH} (F : Nat → Value → AH → Prop) (T : List Nat) (D : List (List Nat)) (hm : P.follows .mixedOrders = true) (hok : freeOK ops T D = true)
    (hF : ∀ i v h1 h2, F i v h1 → Gr h1 h2 → F i v h2) (hx : WFH h0 → freeM P F ops (Q .normal) a0 h0 T 0 ops.toList D) : AW P rd (.region id ops true) Q a0 h0 := by
  intro n0 ρ0 crd0 ca0 w0 hrd0 ha0 hr0
  have hwf := hr0.wf
  refine AW.draw hm ?_ n0 ρ0 crd0 ca0 w0 hrd0 ha0 hr0
  simp only [freeOK, Bool.and_eq_true, decide_eq_true_eq, List.all_eq_true, List.mem_range] at hok
  obtain ⟨hpos, hok⟩ := hok
  have key : ∀ (fuel : Nat) (listed : Array Bool) (a : AAct) (h : AH), listed.size = ops.size → unl listed (List.range ops.size) ≤ fuel → listed.getD (ops.size - 1) true = false → FreeAt a0 h0 T a h → freeM P F ops (Q .normal) a0 h0 T 0 ops.toList D →
      (∀ j, j + 1 < ops.size → listed.getD j false = true → F j (a.tm (dstOf ops j)) h) → anyW P ops Q fuel listed [] a h := by
    intro fuel
    induction fuel with
    | zero =>
      intro listed a h hsz hu hl
      have : 0 < unl listed (List.range ops.size) := List.countP_pos_iff.2 ⟨ops.size - 1, by simp; omega, by rw [hl]; rfl⟩
      omega
    | succ fuel ih =>
      intro listed a h hsz hu hl hA hM hFs _ _
      have hne : ∀ n i, ops.size ≤ i + n → i < ops.size → (∀ j, j < i → listed.getD j false = true) → Region.ready .any ops listed ≠ [] := by
        intro n
        induction n with
        | zero => intro i h1 h2; omega
        | succ n ihn =>
          intro i h1 h2 h3
          by_cases hi : listed.getD i true = false
          · intro hnil
            have hio := Array.getElem?_eq_getElem h2
            have hki := hok i h2
            rw [hio] at hki
            simp only [Bool.and_eq_true, Array.all_eq_true', Bool.or_eq_true, Bool.not_eq_true', decide_eq_true_eq] at hki
            have : i ∈ Region.ready .any ops listed := mem_ready.2 ⟨hi, _, hio, fun e he hb => h3 _ (by
              rcases hki.1.1 e he with hk | hk
              · rw [hb] at hk; cases hk
              · exact hk)⟩
            rw [hnil] at this; cases this
          · have hil : i < listed.size := by omega
            have hi2 : listed.getD i false = true := by
              simp [hil] at hi ⊢; exact hi
            by_cases hlast : i + 1 = ops.size
            · have : ops.size - 1 = i := by omega
              rw [this] at hl; exact absurd hl hi
            · exact ihn (i + 1) (by omega) (by omega) (fun j hj => by
                by_cases e : j = i
                · subst e; exact hi2
                · exact h3 j (by omega))
      refine ⟨fun e => absurd e (hne ops.size 0 (by omega) hpos (fun j hj => by omega)), fun i hi o ho => ?_⟩
      have hun := (mem_ready.1 hi).1
      have hlt : i < ops.size := (Array.getElem?_eq_some_iff.1 ho).1
      have hki := hok i hlt
      rw [ho] at hki
      simp only [Bool.and_eq_true, List.all_eq_true, decide_eq_true_eq] at hki
      obtain ⟨⟨_, hD⟩, hdst⟩ := hki
      have hol : ops.toList[i]? = some o := by simpa using ho
      have hst := freeM_get ops.toList 0 D hM i o hol a h hA (factsW_of fun j hj => by
        obtain ⟨h1, h2⟩ := hD j hj
        exact hFs j (by omega) (freeDep_spec ho h2 hi))
      have hop := opsM_sound _ _ _ hst
      simp only [opsL, Nat.zero_add, Array.length_toList] at hop
      by_cases hlast : i + 1 = ops.size
      · rw [if_pos hlast] at hop hdst
        refine opW.mono (fun a' h' hq => ⟨fun p hp => (nomatch hp), ?_⟩) hop
        have hnone : Region.ready .any ops (listed.setIfInBounds i true) = [] := by
          cases hr : Region.ready .any ops (listed.setIfInBounds i true) with
          | nil => rfl
          | cons k l =>
            have hk : k ∈ Region.ready .any ops (listed.setIfInBounds i true) := by rw [hr]; exact List.mem_cons_self ..
            obtain ⟨hk1, ok, hk2, _⟩ := mem_ready.1 hk
            have hkl : k < ops.size := (Array.getElem?_eq_some_iff.1 hk2).1
            by_cases hki : k = i
            · subst hki
              have : (listed.setIfInBounds k true).getD k true = true := by simp
              rw [this] at hk1; cases hk1
            · have h1 := freeDep_spec ho (List.all_eq_true.1 hdst k (List.mem_range.2 (by omega))) hi
              rw [getD_set_ne true (fun e => hki e.symm)] at hk1
              have hkl2 : k < listed.size := by omega
              simp [hkl2] at h1 hk1
              rw [h1] at hk1; cases hk1
        cases fuel with
        | zero => exact fun _ _ => ⟨hnone, hq⟩
        | succ fuel => exact fun _ _ => ⟨fun _ => hq, fun k hk => by rw [hnone] at hk; cases hk⟩
      · rw [if_neg hlast] at hop hdst
        refine opW.mono (fun a' h' hq => ⟨fun p hp => (nomatch hp), ?_⟩) hop
        obtain ⟨v, rfl, hFv, hg⟩ := hq
        cases hd : o.dst with
        | none => rw [hd] at hdst; cases hdst
        | some t =>
          rw [hd] at hdst
          simp only [Bool.and_eq_true, List.contains_iff_mem, List.all_eq_true, List.mem_range, bne_iff_ne, ne_eq] at hdst
          have hti : dstOf ops i = t := by simp [dstOf, ho, hd]
          have hdis : ∀ j, j + 1 < ops.size → j ≠ i → dstOf ops j ≠ t := by
            intro j hj hji
            rcases Nat.lt_or_ge j i with hlt' | hge
            · exact hdst.2 j hlt'
            · have hjl : j < ops.size := by omega
              have hkj := hok j hjl
              rw [Array.getElem?_eq_getElem hjl] at hkj
              simp only [Bool.and_eq_true] at hkj
              have h2 := hkj.2
              rw [if_neg (by omega)] at h2
              cases hdj : ops[j].dst with
              | none => rw [hdj] at h2; cases h2
              | some u =>
                rw [hdj] at h2
                simp only [Bool.and_eq_true, List.all_eq_true, List.mem_range, bne_iff_ne, ne_eq] at h2
                have e : dstOf ops j = u := by simp [dstOf, Array.getElem?_eq_getElem hjl, hdj]
                rw [e]; intro e2; exact h2.2 i (by omega) (by rw [hti, e2])
          have hne2 : ops.size - 1 ≠ i := by omega
          refine ih _ _ _ (by simpa using hsz) ?_ ?_ ⟨?_, ?_, ?_, hA.gr.trans hg⟩ hM ?_
          · have := unl_set hun (List.range ops.size)
            rw [if_pos (List.mem_range.2 hlt)] at this
            omega
          · rw [getD_set_ne true (fun e => hne2 e.symm)]; exact hl
          · rw [put_n]; exact hA.n
          · rw [put_df]; exact hA.df
          · intro u hu
            rw [put_tm, if_neg (fun e => hu (by rw [e]; exact hdst.1))]; exact hA.tm u hu
          · intro j hj hlj
            by_cases hji : j = i
            · subst hji; rw [hti, put_tm, if_pos rfl]; exact hFv
            · rw [put_tm, if_neg (hdis j hj hji)]
              refine hF _ _ _ _ (hFs j hj ?_) hg
              rw [← hlj]
              exact (getD_set_ne (listed := listed) false (Ne.symm hji)).symm
  refine key ops.size (Array.replicate ops.size false) a0 h0 (by simp) ?_ ?_ ⟨rfl, rfl, fun _ _ => rfl, Gr.refl hwf⟩ (hx hwf) ?_
  · have := List.countP_le_length (p := fun i => !(Array.replicate ops.size false).getD i true) (l := List.range ops.size)
    simpa [unl] using this
  · have hp : ops.size - 1 < ops.size := by omega
    simp [hp]
  · intro j hj hl
    have hjl : j < ops.size := by omega
    simp [hjl] at hl

end
end Go.Ab

namespace Go.Ab

section
variable {P : Program}

def AObj.ty : AObj → Option TypeId
  | .row _ e _ => some e
  | .grow _ e => some e
  | _ => none

theorem Vec.ty {e : TypeId} {v : Value} {ob : Option AObj} {A : Nat} {zs : List Value} (hv : Vec e v ob A zs) : ∀ o, ob = some o → o.ty = some e := by
  intro o ho
  rcases hv with ⟨_, _, rfl⟩ | ⟨cs, _, rfl, _⟩ | ⟨cs, C, _, _, _, _, rfl, _⟩ <;> cases ho <;> rfl
theorem VecM.ty {sz : Nat} {e : TypeId} {v : Value} {ob : Option AObj} {A n : Nat} {zs : List Value} (hv : VecM sz e v ob A n zs) : ∀ o, ob = some o → o.ty = some e := by
  intro o ho
  obtain ⟨_, ⟨_, _, rfl⟩ | ⟨_, _, rfl⟩ | ⟨_, rfl⟩⟩ := hv <;> cases ho <;> rfl
end
end Go.Ab

namespace Go.Ab

/-- A row of another reading of the world is read here too. -/
theorem HR.import {ρ : Ren} {h : AH} {w : World} (hr : HR ρ h w) {ρ0 : Ren} {r : RE} {cs us : List Value} {e : TypeId} {wr : Bool} {cc : Array Value} {fr : Nat × Nat} (hrow : RowAt ρ0 r w cs e wr cc fr) (hl : us.length ≤ cs.length)
    (hu : ∀ i u, us[i]? = some u → oneC u = true ∧ ∃ v', cc[r.base + i]? = some v' ∧ VR (ρ.put h.next r) u v') (hsep : ∀ A o q, h.get A = some o → o.own = true → ρ A = some q → q.blk ≠ r.blk) :
    HR (ρ.put h.next r) (h.new (.row us e false)) w ∧ ρ.le (ρ.put h.next r) := by
  have hle : ρ.le (ρ.put h.next r) := Ren.le_put hr.fresh
  refine ⟨⟨fun A o ha => ?_, fun A B o p q q' h1 h2 g1 g2 hne how => ?_, fun A q hA => ?_⟩, hle⟩
  · rw [AH.new_get] at ha
    split at ha
    · rename_i e'; cases ha; subst e'
      refine ⟨_, Ren.put_same _ _ _, cc, fr, hrow.heap, ?_, fun i u hi => (hu i u hi).2, (fun hw => by cases hw), fun u hm => ?_⟩
      · have := hrow.fits; omega
      · obtain ⟨i, hi⟩ := List.getElem?_of_mem hm
        exact (hu i u hi).1
    · obtain ⟨q, hq, hor⟩ := hr.obj A o ha
      exact ⟨q, hle _ _ hq, hor.move hle rfl⟩
  · rw [AH.new_get] at h1 h2
    split at h1
    · rename_i e1
      cases h1
      rw [if_neg (fun e2 => hne (e1.trans e2.symm))] at h2
      rcases how with how | how
      · cases how
      · subst e1
        rw [Ren.put_same] at g1; cases g1
        rw [Ren.put_ne _ _ (fun e => hne e.symm)] at g2
        exact fun e => hsep B p q' h2 how g2 e.symm
    · rename_i e1
      rw [Ren.put_ne _ _ e1] at g1
      split at h2
      · rename_i e2
        cases h2
        subst e2
        rw [Ren.put_same] at g2; cases g2
        rcases how with how | how
        · exact hsep A o q h1 how g1
        · cases how
      · rename_i e2
        rw [Ren.put_ne _ _ e2] at g2
        exact hr.inj A B o p q q' h1 h2 g1 g2 hne how
  · by_cases e : A = h.next
    · subst e; simp
    · rw [Ren.put_ne _ _ e] at hA; have := hr.dom A q hA; simp; omega

/-- The rest of a slice, from an element on. -/
theorem RowOf.post {P : Program} {α : Type} {L : Lay α} {h : AH} {v : Value} {xs : List α} (hs : RowOf L h v xs) {t e : TypeId} (ht : P.underlying t = some (.slice e)) (he : ∃ i, P.info? e = some i ∧ i.size = L.sz) {k : IntKind} {n : Nat} (hn : n ≤ xs.length) :
    ∃ v', aSlice P t v (some (.int k n)) none = some v' ∧ RowOf L h v' (xs.drop n) := by
  obtain ⟨p, l, c, rfl, rfl, ⟨hsp, hle, hcap⟩, hcs⟩ := hs
  obtain ⟨ie, hi, h1⟩ := he
  have hb : bnd (some (.int k (n : Int))) 0 = some n := by simp [bnd]
  have hb0 : ∀ m, bnd none m = some m := fun _ => rfl
  have hpos := L.pos
  cases p with
  | none =>
    have hx : xs = [] := by
      rcases hcs with e | ⟨A, off, o, cs, e, _⟩
      · exact e
      · cases e
    subst hx
    have hn0 : n = 0 := by simpa using hn
    subst hn0
    refine ⟨.slice none 0 c, ?_, none, 0, c, rfl, by simp, ⟨(fun q e => by cases e), by omega, hcap⟩, .inl (by simp)⟩
    simp only [aSlice, ht, hb, hb0, hi]
    simp
  | some q =>
    obtain ⟨A, off, sp⟩ := q
    have : sp = none := hsp _ rfl
    subst this
    have mv : ∀ i : Nat, off + n * L.sz + i * L.sz = off + (n + i) * L.sz := fun i => by rw [Nat.add_mul]; omega
    rcases hcap with hc | hc
    · refine ⟨.slice (some ⟨A, if c = n then off else off + n * L.sz, none⟩) (xs.length - n) (c - n), ?_, _, _, _, rfl, by simp, ⟨fun q e => by cases e; rfl, by omega, .inl (by omega)⟩, ?_⟩
      · simp only [aSlice, ht, hb, hb0, hi, h1]
        rw [if_pos hc, if_pos ⟨by omega, by omega⟩]
      · by_cases he : n = xs.length
        · exact .inl (by rw [he, List.drop_length])
        rcases hcs with e | ⟨A', off', o, cs, e, hg, hcc, hall⟩
        · exact .inl (by rw [e]; simp)
        cases e
        refine .inr ⟨A, _, o, cs, rfl, hg, hcc, fun i x hx => ?_⟩
        rw [if_neg (by omega)]
        rw [List.getElem?_drop] at hx
        rw [mv]; exact hall _ x hx
    · refine ⟨.slice (some ⟨A, off + n * L.sz, none⟩) (xs.length - n) c, ?_, _, _, _, rfl, by simp, ⟨fun q e => by cases e; rfl, by omega, .inr hc⟩, ?_⟩
      · simp only [aSlice, ht, hb, hb0, hi, h1]
        rw [if_neg (by omega), if_pos ⟨hc, by omega, by omega⟩]
      · rcases hcs with e | ⟨A', off', o, cs, e, hg, hcc, hall⟩
        · exact .inl (by rw [e]; simp)
        cases e
        refine .inr ⟨A, _, o, cs, rfl, hg, hcc, fun i x hx => ?_⟩
        rw [List.getElem?_drop] at hx
        rw [mv]; exact hall _ x hx

theorem srcCells_sub {h h' : AH} (hs : Sub h h') {sz : Nat} {x : Value} {r : Nat × List Value} (hx : srcCells sz x h = some r) : srcCells sz x h' = some r := by
  unfold srcCells at hx ⊢
  split at hx
  · exact hx
  · rename_i A off l c
    by_cases h0 : l = 0
    · rw [if_pos h0] at hx ⊢; exact hx
    · rw [if_neg h0] at hx ⊢
      cases hg : h.get A with
      | none => rw [hg] at hx; cases hx
      | some o => rw [hg] at hx; rw [hs _ _ hg]; exact hx
  · cases hx

/-- A slice of one's own, as a row of one-cell elements. -/
theorem Vec.row {α : Type} {L : Lay α} (hz : L.sz = 1) {e : TypeId} {h : AH} {v : Value} {ob : Option AObj} {A : Nat} {vs : List Value} {xs : List α} (hV : Vec e v ob A vs) (hg : ∀ o, ob = some o → h.get A = some o) (hl : vs.length = xs.length) (hb : xs.length ≤ 4294967296)
    (hr : ∀ i x, xs[i]? = some x → L.rel h [vs.getD i undef] x) : RowOf L h v xs := by
  have key : ∀ cs : List Value, vs.length ≤ cs.length → cs.take vs.length = vs → ∀ (i : Nat) (x : α), xs[i]? = some x → L.rel h ((cs.drop (0 + i * L.sz)).take L.sz) x := by
    intro cs hle htk i x hx
    have hi : i < xs.length := (List.getElem?_eq_some_iff.1 hx).1
    have h0 := hr i x hx
    rw [hz, Nat.zero_add, Nat.mul_one]
    have hv : vs[i]? = some (vs.getD i undef) := by simp [List.getD_eq_getElem?_getD, List.getElem?_eq_getElem (show i < vs.length by omega)]
    have hc := take_get htk i _ hv
    have hic : i < cs.length := by omega
    rw [List.drop_eq_getElem_cons hic, List.take_succ_cons, List.take_zero]
    rw [List.getElem?_eq_getElem hic] at hc
    rw [Option.some.inj hc]; exact h0
  rcases hV with ⟨rfl, rfl, _⟩ | ⟨cs, rfl, rfl, hle, ht⟩ | ⟨cs, C, rfl, hC, hvC, hCc, rfl, ht⟩
  · have hb : xs = [] := List.eq_nil_of_length_eq_zero hl.symm
    subst hb
    exact ⟨none, 0, 0, rfl, rfl, ⟨fun q e => (nomatch e), Nat.le_refl _, .inl (by unfold SL; omega)⟩, .inl rfl⟩
  · exact ⟨_, _, _, rfl, hl, ⟨fun q e => by cases e; rfl, by unfold SL; omega, .inr (by rw [hz])⟩, .inr ⟨A, 0, _, cs, rfl, hg _ rfl, rfl, key cs hle ht⟩⟩
  · exact ⟨_, _, _, rfl, hl, ⟨fun q e => by cases e; rfl, hvC, .inl (by unfold SL; omega)⟩, .inr ⟨A, 0, _, cs, rfl, hg _ rfl, rfl, key cs (by omega) ht⟩⟩
end Go.Ab

namespace Go.Ab

section
variable {P : Program}

end
end Go.Ab

namespace Go.Ab

section
variable {P : Program}

def aget {α : Type} (k : Int) : List (Int × α) → Option α
  | [] => none
  | p :: l => if p.1 = k then some p.2 else aget k l
def aput {α : Type} (k : Int) (x : α) : List (Int × α) → List (Int × α)
  | [] => [(k, x)]
  | p :: l => if p.1 = k then (k, x) :: l else p :: aput k x l
def adel {α : Type} (k : Int) : List (Int × α) → List (Int × α)
  | [] => []
  | p :: l => if p.1 = k then l else p :: adel k l

/-- A map's entries, as pairs. -/
structure EOK {α : Type} (vf : α → Value) (es : List MapEntry) (clk : Nat) (l : List (Int × α)) : Prop where
  eq : es.map (fun e => (e.key, e.val)) = l.map (fun p => (Value.int .i64 p.1, vf p.2))
  nd : (es.map (·.born)).Nodup
  lt : ∀ e ∈ es, e.born < clk
  keys : (l.map (·.1)).Nodup

def MapO {α : Type} (vf : α → Value) (o : AObj) (l : List (Int × α)) : Prop := ∃ es clk, o = .map es clk ∧ EOK vf es clk l
/-- A map in a block. -/
def MapL {α : Type} (vf : α → Value) (h : AH) (M : Nat) (l : List (Int × α)) : Prop := ∃ o, h.get M = some o ∧ MapO vf o l

theorem MapL.sub {α : Type} {vf : α → Value} {h h' : AH} {M : Nat} {l : List (Int × α)} (m : MapL vf h M l) (s : Sub h h') : MapL vf h' M l := let ⟨o, x, y⟩ := m; ⟨o, s _ _ x, y⟩
theorem MapO.nil {α : Type} (vf : α → Value) : MapO vf (.map [] 0) [] := ⟨[], 0, rfl, rfl, List.nodup_nil, fun e he => (nomatch he), List.nodup_nil⟩
theorem MapL.new {α : Type} (vf : α → Value) (h : AH) : MapL vf (h.new (.map [] 0)) h.next [] := ⟨_, by rw [AH.new_get, if_pos rfl], MapO.nil vf⟩
theorem MapL.set {α : Type} {vf : α → Value} {h : AH} {M : Nat} {o : AObj} {l : List (Int × α)} (m : MapO vf o l) : MapL vf (h.set M o) M l := ⟨o, by rw [AH.set_get, if_pos rfl], m⟩

theorem EOK.len {α : Type} {vf : α → Value} {es : List MapEntry} {clk : Nat} {l : List (Int × α)} (m : EOK vf es clk l) : es.length = l.length := by
  have := congrArg List.length m.eq
  simpa using this
theorem EOK.at {α : Type} {vf : α → Value} {es : List MapEntry} {clk : Nat} {l : List (Int × α)} (m : EOK vf es clk l) {i : Nat} {p : Int × α} (hp : l[i]? = some p) : ∃ e, es[i]? = some e ∧ e.key = .int .i64 p.1 ∧ e.val = vf p.2 := by
  have := congrArg (·[i]?) m.eq
  simp only [List.getElem?_map, hp, Option.map_some, Option.map_eq_some_iff] at this
  obtain ⟨e, he, h1⟩ := this
  simp only [Prod.mk.injEq] at h1
  exact ⟨e, he, h1.1, h1.2⟩
theorem EOK.tail {α : Type} {vf : α → Value} {e : MapEntry} {es : List MapEntry} {clk : Nat} {p : Int × α} {l : List (Int × α)} (m : EOK vf (e :: es) clk (p :: l)) : e.key = .int .i64 p.1 ∧ e.val = vf p.2 ∧ EOK vf es clk l ∧ e.born ∉ es.map (·.born) ∧ p.1 ∉ l.map (·.1) ∧ e.born < clk := by
  have h1 := m.eq
  simp only [List.map_cons, List.cons.injEq, Prod.mk.injEq] at h1
  have h2 := m.nd
  simp only [List.map_cons, List.nodup_cons] at h2
  have h3 := m.keys
  simp only [List.map_cons, List.nodup_cons] at h3
  exact ⟨h1.1.1, h1.1.2, ⟨h1.2, h2.2, fun x hx => m.lt x (List.mem_cons_of_mem _ hx), h3.2⟩, h2.1, h3.1, m.lt e (List.mem_cons_self ..)⟩

theorem EOK.find {α : Type} {vf : α → Value} {kk : IntKind} {k : Int} : ∀ {es : List MapEntry} {clk : Nat} {l : List (Int × α)}, EOK vf es clk l → ∀ i, 
    (aget k l = none → Instr.findNow (.int kk) (.int .i64 k) es i = some none) ∧
    (∀ x, aget k l = some x → ∃ j, Instr.findNow (.int kk) (.int .i64 k) es i = some (some (i + j, vf x)) ∧ l[j]? = some (k, x) ∧ ∀ y, aput k y l = l.set j (k, y)) := by
  intro es
  induction es with
  | nil =>
    intro clk l m i
    have : l = [] := List.eq_nil_of_length_eq_zero (by rw [← m.len]; rfl)
    subst this
    exact ⟨fun _ => rfl, fun x hx => by cases hx⟩
  | cons e es ih =>
    intro clk l m i
    cases l with
    | nil => exact absurd m.len (by simp)
    | cons p l =>
      obtain ⟨hk, hv, mt, -, -, -⟩ := m.tail
      obtain ⟨ih1, ih2⟩ := ih mt (i + 1)
      by_cases hp : p.1 = k
      · have hs : Instr.sameNow (.int kk) (.int .i64 k) e.key = some true := by rw [hk]; simp [Instr.sameNow, hp]
        refine ⟨fun h => by simp [aget, hp] at h, fun x hx => ⟨0, ?_, ?_, fun y => ?_⟩⟩
        · simp only [aget, if_pos hp, Option.some.injEq] at hx
          simp only [Instr.findNow, hs, hv, hx, Nat.add_zero]
        · simp only [aget, if_pos hp, Option.some.injEq] at hx
          simp [← hp, ← hx]
        · simp [aput, hp]
      · have hs : Instr.sameNow (.int kk) (.int .i64 k) e.key = some false := by rw [hk]; simp [Instr.sameNow]; exact fun h => hp h.symm
        refine ⟨fun h => ?_, fun x hx => ?_⟩
        · simp only [aget, if_neg hp] at h
          simp only [Instr.findNow, hs, ih1 h]
        · simp only [aget, if_neg hp] at hx
          obtain ⟨j, h1, h2, h3⟩ := ih2 x hx
          refine ⟨j + 1, ?_, by simpa using h2, fun y => ?_⟩
          · simp only [Instr.findNow, hs, h1]
            congr 3; omega
          · simp only [aput, if_neg hp, h3 y, List.set_cons_succ]

theorem aput_keys {α : Type} (k : Int) (x : α) : ∀ l : List (Int × α), (aput k x l).map (·.1) = if k ∈ l.map (·.1) then l.map (·.1) else l.map (·.1) ++ [k] := by
  intro l
  induction l with
  | nil => rfl
  | cons p l ih =>
    by_cases hp : p.1 = k
    · simp [aput, hp]
    · simp only [aput, if_neg hp, List.map_cons, ih]
      by_cases hm : k ∈ l.map (·.1)
      · rw [if_pos hm, if_pos (List.mem_cons_of_mem _ hm)]
      · rw [if_neg hm, if_neg (by rw [List.mem_cons]; rintro (h | h); exact hp h.symm; exact hm h), List.cons_append]
theorem aget_none {α : Type} {k : Int} : ∀ {l : List (Int × α)}, aget k l = none ↔ k ∉ l.map (·.1) := by
  intro l
  induction l with
  | nil => simp [aget]
  | cons p l ih =>
    by_cases hp : p.1 = k
    · simp [aget, hp]
    · simp only [aget, if_neg hp, ih, List.map_cons, List.mem_cons, not_or]
      exact ⟨fun h => ⟨fun e => hp e.symm, h⟩, fun h => h.2⟩
theorem aput_new {α : Type} {k : Int} (x : α) : ∀ {l : List (Int × α)}, aget k l = none → aput k x l = l ++ [(k, x)] := by
  intro l
  induction l with
  | nil => intro _; rfl
  | cons p l ih =>
    intro h
    by_cases hp : p.1 = k
    · simp [aget, hp] at h
    · simp only [aget, if_neg hp] at h
      simp only [aput, if_neg hp, ih h, List.cons_append]
theorem adel_none {α : Type} {k : Int} : ∀ {l : List (Int × α)}, aget k l = none → adel k l = l := by
  intro l
  induction l with
  | nil => intro _; rfl
  | cons p l ih =>
    intro h
    by_cases hp : p.1 = k
    · simp [aget, hp] at h
    · simp only [aget, if_neg hp] at h
      simp only [adel, if_neg hp, ih h]
theorem adel_at {α : Type} {k : Int} : ∀ {l : List (Int × α)} {j : Nat} {x : α}, (l.map (·.1)).Nodup → l[j]? = some (k, x) → adel k l = l.eraseIdx j := by
  intro l
  induction l with
  | nil => intro j x _ h; simp at h
  | cons p l ih =>
    intro j x hn h
    simp only [List.map_cons, List.nodup_cons] at hn
    cases j with
    | zero => simp only [List.getElem?_cons_zero, Option.some.injEq] at h; simp [adel, h]
    | succ j =>
      have h : l[j]? = some (k, x) := by simpa using h
      have hp : p.1 ≠ k := fun e => hn.1 (by rw [e]; exact List.mem_map.2 ⟨_, List.mem_of_getElem? h, rfl⟩)
      simp only [adel, if_neg hp, ih hn.2 h, List.eraseIdx_cons_succ]
theorem adel_sub {α : Type} (k : Int) : ∀ l : List (Int × α), (adel k l).Sublist l := by
  intro l
  induction l with
  | nil => exact List.Sublist.slnil
  | cons p l ih =>
    by_cases hp : p.1 = k
    · simp only [adel, if_pos hp]; exact List.sublist_cons_self p l
    · simp only [adel, if_neg hp]; exact ih.cons_cons p

theorem era_map {α β : Type} (f : α → β) : ∀ (l : List α) (j : Nat), (l.eraseIdx j).map f = (l.map f).eraseIdx j := by
  intro l
  induction l with
  | nil => intro j; rfl
  | cons x l ih => intro j; cases j with
    | zero => rfl
    | succ j => simp only [List.eraseIdx_cons_succ, List.map_cons, ih]

/-- A map type whose keys are whole numbers. -/
structure MapT (P : Program) (t : TypeId) (z : Value) : Prop where
  ty : ∃ kt e kk, P.underlying t = some (.map kt e) ∧ P.underlying kt = some (.int kk) ∧ ∃ i, P.info? e = some i ∧ i.zero = some z
  pl : plain 9 z = true

section
variable {α : Type} {vf : α → Value} {t : TypeId} {z : Value} {h : AH} {M : Nat} {l : List (Int × α)}

theorem MapL.at (m : MapL vf h M l) : ∃ es clk, h.get M = some (.map es clk) ∧ EOK vf es clk l := let ⟨_, x, es, clk, e, ok⟩ := m; ⟨es, clk, e ▸ x, ok⟩
theorem mapAt_of {es : List MapEntry} {clk : Nat} (hg : h.get M = some (.map es clk)) : mapAt h (.map (some M)) = some (es, clk) := by simp only [mapAt, hg]

theorem MapL.look (m : MapL vf h M l) (ht : MapT P t z) (k : Int) (ok : Bool) : aLookup P t (.map (some M)) (.int .i64 k) ok h = some (match aget k l with | some x => if ok then .tuple #[vf x, .bool true] else vf x | none => if ok then .tuple #[z, .bool false] else z) := by
  obtain ⟨es, clk, hg, e⟩ := m.at
  obtain ⟨kt, et, kk, h1, h2, i, h3, h4⟩ := ht.ty
  obtain ⟨f1, f2⟩ := e.find (kk := kk) (k := k) 0
  have hp := ht.pl
  cases ha : aget k l with
  | none => simp only [aLookup, h1, h2, h3, h4, hp, isKeyT, mapAt_of hg, f1 ha, Option.map_some]; simp
  | some x =>
    obtain ⟨j, hj, -, -⟩ := f2 x ha
    simp only [aLookup, h1, h2, h3, h4, hp, isKeyT, mapAt_of hg, hj, Option.map_some]; simp

theorem MapL.len (m : MapL vf h M l) (ht : MapT P t z) : aLen P t (.map (some M)) h = some (.int .i64 l.length) := by
  obtain ⟨es, clk, hg, e⟩ := m.at
  obtain ⟨kt, et, kk, h1, -⟩ := ht.ty
  simp only [aLen, h1, hg, e.len]

theorem EOK.put {es : List MapEntry} {clk : Nat} (e : EOK vf es clk l) (kk : IntKind) (k : Int) (x : α) : ∃ es' clk', putE (.int kk) (.int .i64 k) (vf x) es clk = some (es', clk') ∧ EOK vf es' clk' (aput k x l) := by
  obtain ⟨f1, f2⟩ := e.find (kk := kk) (k := k) 0
  cases ha : aget k l with
  | none =>
    refine ⟨_, _, by simp only [putE, f1 ha]; rfl, ?_⟩
    rw [aput_new x ha]
    refine ⟨by simp [e.eq], ?_, fun y hy => ?_, ?_⟩
    · rw [List.map_append, List.nodup_append]
      refine ⟨e.nd, by simp, fun a ha b hb => ?_⟩
      obtain ⟨y, hy, rfl⟩ := List.mem_map.1 ha
      simp only [List.map_cons, List.map_nil, List.mem_cons, List.not_mem_nil, or_false] at hb
      have := e.lt y hy
      omega
    · rcases List.mem_append.1 hy with hy | hy
      · have := e.lt y hy; omega
      · simp only [List.mem_cons, List.not_mem_nil, or_false] at hy; subst hy; exact Nat.lt_succ_self _
    · rw [List.map_append, List.nodup_append]
      refine ⟨e.keys, by simp, fun a ha' b hb => ?_⟩
      simp only [List.map_cons, List.map_nil, List.mem_cons, List.not_mem_nil, or_false] at hb
      subst hb
      intro e2; subst e2
      exact aget_none.1 ha ha'
  | some y =>
    obtain ⟨j, hj, hl, hput⟩ := f2 y ha
    rw [Nat.zero_add] at hj
    have hjl : j < l.length := (List.getElem?_eq_some_iff.1 hl).1
    obtain ⟨e0, he0, hk0, hv0⟩ := e.at hl
    refine ⟨_, _, by simp only [putE, hj]; rfl, ?_⟩
    rw [hput x]
    refine ⟨?_, ?_, fun q hq => ?_, ?_⟩
    · apply List.ext_getElem?
      intro i
      have hi := congrArg (·[i]?) e.eq
      simp only [List.getElem?_map] at hi
      simp only [List.getElem?_map, List.getElem?_modify, List.getElem?_set]
      by_cases hij : j = i
      · subst hij
        simp [he0, hjl]
      · simp only [if_neg hij]
        simpa using hi
    · have : (es.modify j fun e => { e with key := .int .i64 k, val := vf x }).map (·.born) = es.map (·.born) := by
        apply List.ext_getElem?
        intro i
        simp only [List.getElem?_map, List.getElem?_modify]
        by_cases hij : j = i
        · subst hij; simp [he0]
        · simp [if_neg hij]
      rw [this]; exact e.nd
    · obtain ⟨i, hi⟩ := List.mem_iff_getElem?.1 hq
      rw [List.getElem?_modify] at hi
      obtain ⟨q0, hq0, rfl⟩ := Option.map_eq_some_iff.1 hi
      have := e.lt q0 (List.mem_of_getElem? hq0)
      split <;> exact this
    · have hs : (l.set j (k, x)).map (·.1) = l.map (·.1) := by
        apply List.ext_getElem?
        intro i
        simp only [List.getElem?_map, List.getElem?_set]
        by_cases hij : j = i
        · subst hij
          have := (List.getElem?_eq_some_iff.1 hl).2
          simp [hjl, this]
        · simp only [if_neg hij]
      rw [hs]; exact e.keys

theorem MapL.put (m : MapL vf h M l) (ht : MapT P t z) (k : Int) (x : α) : ∃ o, aUpdate P t (.map (some M)) (.int .i64 k) (vf x) h = some (h.set M o) ∧ MapO vf o (aput k x l) := by
  obtain ⟨es, clk, hg, e⟩ := m.at
  obtain ⟨kt, et, kk, h1, h2, -⟩ := ht.ty
  obtain ⟨es', clk', hp, ok⟩ := e.put kk k x
  exact ⟨.map es' clk', by simp only [aUpdate, h1, h2, mapAt_of hg, isKeyT, hp]; simp, es', clk', rfl, ok⟩

theorem MapL.del (m : MapL vf h M l) (ht : MapT P t z) (k : Int) : ∃ o, aDelete P t (.map (some M)) (.int .i64 k) h = some (h.set M o) ∧ MapO vf o (adel k l) := by
  obtain ⟨es, clk, hg, e⟩ := m.at
  obtain ⟨kt, et, kk, h1, h2, -⟩ := ht.ty
  obtain ⟨f1, f2⟩ := e.find (kk := kk) (k := k) 0
  cases ha : aget k l with
  | none =>
    refine ⟨.map es clk, by simp only [aDelete, h1, h2, mapAt_of hg, isKeyT, f1 ha]; simp, es, clk, rfl, ?_⟩
    rw [adel_none ha]; exact e
  | some y =>
    obtain ⟨j, hj, hl, -⟩ := f2 y ha
    rw [Nat.zero_add] at hj
    refine ⟨.map (es.eraseIdx j) clk, by simp only [aDelete, h1, h2, mapAt_of hg, isKeyT, hj]; simp, _, _, rfl, ?_⟩
    rw [adel_at e.keys hl]
    refine ⟨?_, ?_, fun q hq => e.lt q (List.mem_of_mem_eraseIdx hq), ?_⟩
    · rw [era_map, era_map, e.eq]
    · rw [era_map]; exact e.nd.sublist (List.eraseIdx_sublist _ _)
    · rw [era_map]; exact e.keys.sublist (List.eraseIdx_sublist _ _)
end
end
end Go.Ab

namespace Go.Ab

section
variable {P : Program} {α : Type} {vf : α → Value} {t : TypeId} {z : Value} {h : AH} {M : Nat} {l : List (Int × α)}

theorem EOK.slot {es : List MapEntry} {clk : Nat} (e : EOK vf es clk l) {i : Nat} {q : MapEntry} (hq : es[i]? = some q) : es.findIdx? (fun e => (e.born : Int) == (q.born : Int)) = some i := by
  have hi := (List.getElem?_eq_some_iff.1 hq)
  obtain ⟨hl, rfl⟩ := hi
  rw [List.findIdx?_eq_some_iff_getElem]
  refine ⟨hl, by simp, fun j hj => ?_⟩
  have hn := e.nd
  rw [List.nodup_iff_pairwise_ne, List.pairwise_iff_getElem] at hn
  have := hn j i (by simp; omega) (by simpa using hl) hj
  simp only [List.getElem_map] at this
  simp only [beq_iff_eq]
  intro hh
  exact this (by exact_mod_cast hh)

/-- An entry laid (or found), and filled. -/
theorem MapL.entry (m : MapL vf h M l) (ht : MapT P t z) (k : Int) (x : α) : ∃ v n o1, aEntry P t (.map (some M)) (.int .i64 k) h = some (.tuple #[v, .int .i64 n], h.set M o1) ∧
    ∀ h1, h1.get M = some o1 → ∃ o2, aEntryStore (.map (some M)) (.int .i64 n) (vf x) h1 = some (h1.set M o2) ∧ MapO vf o2 (aput k x l) := by
  obtain ⟨es, clk, hg, e⟩ := m.at
  obtain ⟨kt, et, kk, h1, h2, i, h3, h4⟩ := ht.ty
  obtain ⟨f1, f2⟩ := e.find (kk := kk) (k := k) 0
  obtain ⟨es', clk', hput, ok⟩ := e.put kk k x
  have hp := ht.pl
  cases ha : aget k l with
  | none =>
    have hf := f1 ha
    refine ⟨z, clk, .map (es ++ [{ key := .int .i64 k, val := z, born := clk }]) (clk + 1), ?_, fun h1 hg1 => ⟨.map es' clk', ?_, es', clk', rfl, ok⟩⟩
    · simp only [aEntry, h1, h2, h3, h4, hp, isKeyT, mapAt_of hg, hf]; simp
    · simp only [putE, hf, Option.some.injEq, Prod.mk.injEq] at hput
      obtain ⟨rfl, rfl⟩ := hput
      have hidx : (es ++ [(⟨.int .i64 k, z, clk⟩ : MapEntry)]).findIdx? (fun (e : MapEntry) => (e.born : Int) == (clk : Int)) = some es.length := by
        rw [List.findIdx?_eq_some_iff_getElem]
        refine ⟨by simp, by simp, fun j hj => ?_⟩
        rw [List.getElem_append_left hj]
        have := e.lt es[j] (List.getElem_mem hj)
        simp only [beq_iff_eq]
        omega
      simp only [aEntryStore, mapAt_of hg1, hidx]
      simp only [Option.some.injEq]
      congr 2
      apply List.ext_getElem?
      intro j
      rw [List.getElem?_modify]
      by_cases hj : es.length = j
      · subst hj; simp
      · simp only [if_neg hj]
        by_cases hj2 : j < es.length
        · simp [List.getElem?_append_left hj2]
        · rw [List.getElem?_eq_none (by simp; omega), List.getElem?_eq_none (by simp; omega)]; rfl
  | some y =>
    obtain ⟨j, hj, hl, -⟩ := f2 y ha
    rw [Nat.zero_add] at hj
    obtain ⟨q, hq, -, -⟩ := e.at hl
    refine ⟨vf y, q.born, .map (es.modify j fun e => { e with key := .int .i64 k }) clk, ?_, fun h1 hg1 => ⟨.map es' clk', ?_, es', clk', rfl, ok⟩⟩
    · simp only [aEntry, h1, h2, h3, h4, hp, isKeyT, mapAt_of hg, hj, hq]; simp
    · simp only [putE, hj, Option.some.injEq, Prod.mk.injEq] at hput
      obtain ⟨rfl, rfl⟩ := hput
      have hidx : (es.modify j fun e => { e with key := Value.int .i64 k }).findIdx? (fun e => (e.born : Int) == (q.born : Int)) = some j := by
        have h0 := e.slot hq
        rw [List.findIdx?_eq_some_iff_getElem] at h0 ⊢
        obtain ⟨g1, g2, g3⟩ := h0
        refine ⟨by simpa using g1, ?_, fun i hi => ?_⟩
        · rw [List.getElem_modify]; simpa using g2
        · have := g3 i hi
          rw [List.getElem_modify]
          split
          · omega
          · exact this
      simp only [aEntryStore, mapAt_of hg1, hidx, Option.some.injEq]
      congr 2
      apply List.ext_getElem?
      intro i
      simp only [List.getElem?_modify]
      by_cases hij : j = i
      · subst hij; simp [hq]
      · simp [if_neg hij]

/-- A walk over a map: ix are the entries met. -/
def IterAt (vf : α → Value) (h : AH) (I M : Nat) (l : List (Int × α)) (ix : List Nat) : Prop :=
  ∃ es clk, h.get I = some (.iter (some M) clk (ix.map fun i => ((es[i]?).map (·.born)).getD 0) clk) ∧ h.get M = some (.map es clk) ∧ EOK vf es clk l ∧ ix.Nodup ∧ ∀ i ∈ ix, i < l.length

theorem MapL.range (m : MapL vf h M l) (w : WFH h) (ht : MapT P t z) : ∃ o, aRange P t (.map (some M)) h = some (.pointer (some ⟨h.next, 0, none⟩), h.new o) ∧ IterAt vf (h.new o) h.next M l [] := by
  obtain ⟨es, clk, hg, e⟩ := m.at
  obtain ⟨kt, et, kk, h1, -⟩ := ht.ty
  refine ⟨.iter (some M) clk [] clk, by simp only [aRange, h1, hg], es, clk, by rw [AH.new_get, if_pos rfl]; rfl, Sub.new w _ _ _ hg, e, List.nodup_nil, fun i hi => (nomatch hi)⟩

theorem IterAt.map {I : Nat} {ix : List Nat} (it : IterAt vf h I M l ix) : MapL vf h M l := let ⟨es, clk, _, hg, e, _⟩ := it; ⟨_, hg, es, clk, rfl, e⟩

/-- Kept, where neither the walk's block nor the map's is touched. -/
theorem IterAt.keep {I : Nat} {ix : List Nat} {h' : AH} (it : IterAt vf h I M l ix) (h1 : h'.get I = h.get I) (h2 : h'.get M = h.get M) : IterAt vf h' I M l ix := let ⟨es, clk, a, b, c⟩ := it; ⟨es, clk, h1.trans a, h2.trans b, c⟩

/-- A step of a walk: over, if all is met; else any entry that is not met yet. -/
theorem IterAt.next {I : Nat} {ix : List Nat} {K : Value → AH → Prop} (it : IterAt vf h I M l ix) (hend : (∀ i, i < l.length → i ∈ ix) → K (.tuple #[.bool false]) h)
    (hstep : ∀ (i : Nat) (p : Int × α) (o : AObj), l[i]? = some p → i ∉ ix → IterAt vf (h.set I o) I M l (ix ++ [i]) → K (.tuple #[.bool true, .int .i64 p.1, vf p.2]) (h.set I o)) : NextW (.pointer (some ⟨I, 0, none⟩)) h K := by
  obtain ⟨es, clk, hI, hM, e, hnd, hlt⟩ := it
  have hIM : I ≠ M := fun e => by subst e; rw [hI] at hM; cases hM
  refine ⟨I, rfl, .inr ⟨M, clk, _, clk, es, clk, hI, hM, ?_, fun x hx => ?_⟩⟩
  · simp only [nextBad, Bool.and_eq_false_iff]
    cases hes : es with
    | nil => simp
    | cons q es' =>
      right
      have := e.lt q (by rw [hes]; exact List.mem_cons_self ..)
      simp; intro hh; omega
  · have hborn : ∀ i, i < es.length → ∀ (q : MapEntry), es[i]? = some q → (q.born ∈ (ix.map fun i => ((es[i]?).map (·.born)).getD 0) ↔ i ∈ ix) := by
      intro i hi q hq
      constructor
      · intro hm
        obtain ⟨j, hj, hjb⟩ := List.mem_map.1 hm
        have hjl : j < es.length := by rw [e.len]; exact hlt j hj
        rw [List.getElem?_eq_getElem hjl] at hjb
        simp only [Option.map_some, Option.getD_some] at hjb
        have hn := e.nd
        rw [List.nodup_iff_pairwise_ne, List.pairwise_iff_getElem] at hn
        obtain ⟨_, rfl⟩ := List.getElem?_eq_some_iff.1 hq
        rcases Nat.lt_trichotomy i j with hlt' | rfl | hgt
        · have := hn i j (by simpa using hi) (by simpa using hjl) hlt'
          simp only [List.getElem_map] at this
          exact absurd hjb.symm this
        · exact hj
        · have := hn j i (by simpa using hjl) (by simpa using hi) hgt
          simp only [List.getElem_map] at this
          exact absurd hjb this
      · intro hm
        exact List.mem_map.2 ⟨i, hm, by rw [hq]; rfl⟩
    unfold candsOf at hx
    cases x with
    | none =>
      refine hend fun i hi => ?_
      have hi' : i < es.length := by rw [e.len]; exact hi
      have hq := List.getElem?_eq_getElem hi'
      refine Classical.byContradiction fun hni => ?_
      have hb : ¬ es[i].born ∈ (ix.map fun i => ((es[i]?).map (·.born)).getD 0) := fun hm => hni ((hborn i hi' _ hq).1 hm)
      have hmem : es[i] ∈ (es.filter fun e => !(ix.map fun i => ((es[i]?).map (·.born)).getD 0).contains e.born).filter fun e => decide (e.born < clk) := by
        rw [List.mem_filter, List.mem_filter]
        refine ⟨⟨List.getElem_mem hi', ?_⟩, by have := e.lt es[i] (List.getElem_mem hi'); simpa using this⟩
        simpa using hb
      rcases List.mem_append.1 hx with hx | hx
      · split at hx
        · rename_i hemp
          rw [List.isEmpty_iff] at hemp
          rw [hemp] at hmem; cases hmem
        · cases hx
      · obtain ⟨_, _, hh⟩ := List.mem_map.1 hx
        cases hh
    | some q =>
      have hq : q ∈ es ∧ q.born ∉ (ix.map fun i => ((es[i]?).map (·.born)).getD 0) := by
        rcases List.mem_append.1 hx with hx | hx
        · split at hx
          · simp at hx
          · cases hx
        · obtain ⟨q', hq', hh⟩ := List.mem_map.1 hx
          cases hh
          rcases List.mem_append.1 hq' with hq' | hq' <;>
          · rw [List.mem_filter, List.mem_filter] at hq'
            exact ⟨hq'.1.1, by simpa using hq'.1.2⟩
      obtain ⟨i, hi⟩ := List.mem_iff_getElem?.1 hq.1
      have hil : i < es.length := (List.getElem?_eq_some_iff.1 hi).1
      have hll : i < l.length := by rw [← e.len]; exact hil
      have hp := List.getElem?_eq_getElem hll
      obtain ⟨q2, hq2, hk, hv⟩ := e.at hp
      rw [hi] at hq2; cases hq2
      have hni : i ∉ ix := fun hm => hq.2 ((hborn i hil q hi).2 hm)
      have := hstep i l[i] (.iter (some M) clk ((ix.map fun i => ((es[i]?).map (·.born)).getD 0) ++ [q.born]) clk) hp hni ⟨es, clk, by
        rw [AH.set_get, if_pos rfl, List.map_append]
        simp [hi], by rw [AH.set_get, if_neg (Ne.symm hIM)]; exact hM, e, by
        rw [List.nodup_append]
        exact ⟨hnd, by simp, fun a ha b hb => by simp at hb; subst hb; intro e2; subst e2; exact hni ha⟩, fun j hj => by
        rcases List.mem_append.1 hj with hj | hj
        · exact hlt j hj
        · simp at hj; subst hj; exact hll⟩
      simp only [hk, hv]
      exact this

/-- The entry that a walk is at. -/
theorem IterAt.entry {I i : Nat} {ix : List Nat} {p : Int × α} (it : IterAt vf h I M l (ix ++ [i])) (hp : l[i]? = some p) : aIterEntry (.pointer (some ⟨I, 0, none⟩)) h = some (.tuple #[.int .i64 p.1, vf p.2]) := by
  obtain ⟨es, clk, hI, hM, e, hnd, hlt⟩ := it
  obtain ⟨q, hq, hk, hv⟩ := e.at hp
  have hlast : ((ix ++ [i]).map fun i => ((es[i]?).map (·.born)).getD 0).getLast? = some q.born := by
    rw [List.map_append]; simp [hq]
  have hfind : es.find? (fun e => e.born == q.born) = some q := by
    obtain ⟨hl, rfl⟩ := List.getElem?_eq_some_iff.1 hq
    rw [List.find?_eq_some_iff_getElem]
    refine ⟨by simp, i, hl, rfl, fun j hj => ?_⟩
    have hn := e.nd
    rw [List.nodup_iff_pairwise_ne, List.pairwise_iff_getElem] at hn
    have := hn j i (by simp; omega) (by simpa using hl) hj
    simp only [List.getElem_map] at this
    simpa using this
  simp only [aIterEntry, hI, hlast, hM, if_true, hfind, hk, hv]
end
end Go.Ab
