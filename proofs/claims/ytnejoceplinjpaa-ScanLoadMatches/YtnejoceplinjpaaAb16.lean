/- Own layer 'Ab': a closed run, by a function that the kernel evaluates. -/
import Derived.Test.YtnejoceplinjpaaAb15
namespace Go.Ab

inductive T (α : Type) where
  | leaf
  | node (l : T α) (v : Option α) (r : T α)

namespace T
variable {α : Type}
def full : Nat → T α
  | 0 => .leaf
  | d + 1 => .node (full d) none (full d)

def get : T α → Nat → Option α
  | .leaf, _ => none
  | .node _l v _r, 0 => v
  | .node l _v r, k + 1 => if k % 2 = 0 then l.get (k / 2) else r.get (k / 2)

def put (o : Option α) : T α → Nat → Option (T α)
  | .leaf, _ => none
  | .node l _ r, 0 => some (.node l o r)
  | .node l v r, k + 1 => if k % 2 = 0 then (l.put o (k / 2)).map (fun l' => .node l' v r) else (r.put o (k / 2)).map (fun r' => .node l v r')

theorem get_put {o : Option α} : ∀ {t t' : T α} {k : Nat}, t.put o k = some t' → ∀ j, t'.get j = if j = k then o else t.get j := by
  intro t
  induction t with
  | leaf => intro t' k h; cases h
  | node l v r il ir =>
    intro t' k h j
    cases k with
    | zero =>
      cases h
      cases j with
      | zero => rfl
      | succ j => simp [get]
    | succ k =>
      simp only [put] at h
      split at h
      · rename_i hk
        simp only [Option.map_eq_some_iff] at h
        obtain ⟨l', hl, rfl⟩ := h
        cases j with
        | zero => simp [get]
        | succ j =>
          simp only [get, il hl, Nat.add_right_cancel_iff]
          by_cases hj : j % 2 = 0
          · simp only [hj, if_true]
            by_cases e : j = k
            · subst e; simp
            · rw [if_neg e, if_neg (by omega)]
          · simp only [hj, if_false]
            rw [if_neg (by intro e; subst e; exact hj hk)]
      · rename_i hk
        simp only [Option.map_eq_some_iff] at h
        obtain ⟨r', hr, rfl⟩ := h
        cases j with
        | zero => simp [get]
        | succ j =>
          simp only [get, ir hr, Nat.add_right_cancel_iff]
          by_cases hj : j % 2 = 0
          · simp only [hj, if_true]
            rw [if_neg (by intro e; subst e; exact hk hj)]
          · simp only [hj, if_false]
            by_cases e : j = k
            · subst e; simp
            · rw [if_neg e, if_neg (by omega)]
end T

/-- An activation and a heap, laid for evaluation. -/
structure EA where
  n : Nat
  base : Nat → Value
  tm : T Value
  df : List Nat

structure EH where
  next : Nat
  hp : T AObj

def EA.at (a : EA) (i : Nat) : Value := match a.tm.get i with
  | some v => v
  | none => a.base i

def EA.den (a : EA) : AAct := { n := a.n, tm := a.at, df := a.df }
def EH.den (h : EH) : AH := { next := h.next, get := h.hp.get }

def EA.put? (a : EA) (d : Option Tmp) (v : Value) : Option EA :=
  match d with
  | none => some a
  | some t => if t < a.n then (match a.tm.put (some v) t with | some tm => some { a with tm := tm } | none => none) else none

def EA.puts? (a : EA) : List (Tmp × Value) → Option EA
  | [] => some a
  | (t, v) :: r => match a.put? (some t) v with
    | some a' => a'.puts? r
    | none => none

def roots : Value → List Nat
  | .pointer (some a) => [a.block]
  | .slice (some a) _ _ => [a.block]
  | .map (some M) => [M]
  | _ => []

/-- A number, brought to its numeral ahead of what follows. -/
def forceN {β : Type} (n : Nat) (k : Nat → β) : β :=
  match n with
  | .zero => k 0
  | .succ m => k (.succ m)

theorem forceN_eq {β : Type} (n : Nat) (k : Nat → β) : forceN n k = k n := by cases n <;> rfl

def force {β : Type} (v : Value) (k : Value → β) : β :=
  match v with
  | .bool true => k (.bool true)
  | .bool false => k (.bool false)
  | .int kd (.ofNat n) => forceN n fun n => k (.int kd (.ofNat n))
  | .int kd (.negSucc n) => forceN n fun n => k (.int kd (.negSucc n))
  | .pointer (some ⟨b, o, none⟩) => forceN b fun b => forceN o fun o => k (.pointer (some ⟨b, o, none⟩))
  | .slice (some ⟨b, o, none⟩) l c => forceN b fun b => forceN o fun o => forceN l fun l => forceN c fun c => k (.slice (some ⟨b, o, none⟩) l c)
  | v => k v

theorem force_eq {β : Type} (v : Value) (k : Value → β) : force v k = k v := by
  unfold force
  split <;> simp only [forceN_eq]

def forceL {β : Type} : List Value → (List Value → β) → β
  | [], k => k []
  | x :: xs, k => force x fun x => forceL xs fun xs => k (x :: xs)

theorem forceL_eq {β : Type} : ∀ (l : List Value) (k : List Value → β), forceL l k = k l := by
  intro l
  induction l with
  | nil => intro k; rfl
  | cons x xs ih => intro k; simp only [forceL, force_eq, ih]

def forceO {β : Type} (o : Option AObj) (k : Option AObj → β) : β :=
  match o with
  | none => k none
  | some (.row c e true) => forceL c fun c => k (some (.row c e true))
  | some (.grow c e) => forceL c fun c => k (some (.grow c e))
  | o => k o

theorem forceO_eq {β : Type} (o : Option AObj) (k : Option AObj → β) : forceO o k = k o := by
  unfold forceO
  split <;> simp only [forceL_eq]

/-- The heap behind an operation, laid again. -/
def EH.relay (h : EH) (h' : AH) : List Nat → Option EH
  | [] => forceN h'.next fun n => some { h with next := n }
  | A :: as => forceO (h'.get A) fun o => match h.hp.put o A with
    | some t => EH.relay { h with hp := t } h' as
    | none => none

def touched (ev : Operand → Value) (op : Op) : List Nat :=
  match op with
  | .store _ x _ => roots (ev x)
  | .mapUpdate _ m _ _ | .insert _ m _ _ | .mapEntry _ m _ | .entryStore _ m _ _ => roots (ev m)
  | .call c => match c.args.toList with
    | x :: _ => roots (ev x)
    | [] => []
  | _ => []

structure Env where
  P : Program
  plans : List (Nat × Nat × Plan)
  pures : List (FuncId × Value)

/-- An object, to be read alone. -/
def AObj.view : AObj → Option AObj
  | .row c e _ => some (.row c e false)
  | .grow c e => some (.row c e false)
  | _ => none

def T.mapO {α β : Type} (f : α → Option β) : T α → T β
  | .leaf => .leaf
  | .node l v r => .node (l.mapO f) (v.bind f) (r.mapO f)

theorem T.get_mapO {α β : Type} (f : α → Option β) : ∀ (t : T α) (k : Nat), (t.mapO f).get k = (t.get k).bind f := by
  intro t
  induction t with
  | leaf => intro k; rfl
  | node l v r il ir =>
    intro k
    cases k with
    | zero => rfl
    | succ k => simp only [T.mapO, T.get]; split <;> first | exact il _ | exact ir _

def EH.view (h : EH) : EH := { next := h.next, hp := h.hp.mapO AObj.view }

def findV (g : FuncId) : List (FuncId × Value) → Option Value
  | [] => none
  | (f, v) :: r => if f = g then some v else findV g r

def findPlan (id : Nat) (ops : Array Oper) : List (Nat × Nat × Plan) → Option Plan
  | [] => none
  | (i, s, p) :: r => if i = id ∧ s = ops.size then (if planOK ops (Array.replicate ops.size false) [] p && decide (p.len ≤ ops.size) then some p else findPlan id ops r) else findPlan id ops r

def putL (tm : T Value) (i : Nat) : List Value → Option (T Value)
  | [] => some tm
  | v :: vs => match tm.put (some v) i with
    | some t => putL t (i + 1) vs
    | none => none

def enterE (fn : Func) (args : List Value) : Option EA :=
  match putL (T.full 8) 0 args with
  | some t => some { n := args.length + (fn.ntmps - args.length), base := fun _ => undef, tm := t, df := [] }
  | none => none

def newE (h : EH) (o : AObj) : Option EH := match h.hp.put (some o) h.next with
  | some t => some { next := h.next + 1, hp := t }
  | none => none
def setE (h : EH) (A : Nat) (o : AObj) : Option EH := match h.hp.put (some o) A with
  | some t => some { h with hp := t }
  | none => none

def closeE : List Nat → EH → Option EH
  | [], h => some h
  | A :: as, h => match h.hp.get A with
    | some (.dfr true) => match setE h A (.dfr false) with
      | some h' => closeE as h'
      | none => none
    | _ => none

abbrev CallK := FuncId → List Value → EH → (Value → EH → Bool) → Bool
abbrev YieldK := Nat → List Value → EH → (Value → EH → Bool) → Bool

def evNext (p : Value) (h : EH) (k : Value → EH → Bool) : Bool :=
  match p with
  | .pointer (some ⟨I, 0, none⟩) =>
    match h.hp.get I with
    | some (.iter none _ _ _) => k (.tuple #[.bool false]) h
    | some (.iter (some M) since seen stepped) =>
      match h.hp.get M with
      | some (.map es clk) => !nextBad es seen stepped && (candsOf es since seen).all fun x => match x with
        | some e => (match setE h I (.iter (some M) since (seen ++ [e.born]) clk) with
          | some h' => k (.tuple #[.bool true, e.key, e.val]) h'
          | none => false)
        | none => k (.tuple #[.bool false]) h
      | _ => false
    | _ => false
  | _ => false

/-! The same operation, laid so that little is unfolded at each step. -/
def dMove (ev : Operand → Value) (h : AH) (x : Operand) : Option (Value × AH) := some (ev x, h)
def dPick (ev : Operand → Value) (h : AH) (c x y : Operand) : Option (Value × AH) := match ev c with
  | .bool t => some (if t then ev x else ev y, h)
  | _ => none
def dBox (ev : Operand → Value) (h : AH) (t : TypeId) (x : Operand) : Option (Value × AH) := aBox t (ev x) h
def dBuild (P : Program) (ev : Operand → Value) (h : AH) (t : TypeId) (ps : Array (Nat × Operand)) : Option (Value × AH) := (aBuild P t (ps.toList.map fun p => (p.1, ev p.2))).map fun v => (v, h)
def dBuildSlice (P : Program) (ev : Operand → Value) (h : AH) (t : TypeId) (n : Nat) (ps : Array (Nat × Operand)) : Option (Value × AH) := aBuildSlice P t n (ps.toList.map fun p => (p.1, ev p.2)) h
def dLoad (P : Program) (ev : Operand → Value) (h : AH) (t : TypeId) (x : Operand) : Option (Value × AH) := (aLoad P t (ev x) h).map fun v => (v, h)
def dStore (P : Program) (ev : Operand → Value) (h : AH) (t : TypeId) (x y : Operand) : Option (Value × AH) := (aStore P t (ev x) (ev y) h).map fun h' => (undef, h')
def dNil (ev : Operand → Value) (h : AH) (x : Operand) : Option (Value × AH) := (aNil (ev x)).map fun v => (v, h)
def dBin (P : Program) (ev : Operand → Value) (h : AH) (op : BinOp) (t : TypeId) (x y : Operand) : Option (Value × AH) := (aBin P op t (ev x) (ev y)).map fun v => (v, h)
def dUn (ev : Operand → Value) (h : AH) (op : UnOp) (x : Operand) : Option (Value × AH) := (aUn op (ev x)).map fun v => (v, h)
def dConv (P : Program) (ev : Operand → Value) (h : AH) (s d : TypeId) (x : Operand) : Option (Value × AH) := match aBytes P s d (ev x) h with
    | some r => some r
    | none => (aConv P s d (ev x)).map fun v => (v, h)
def dIface (P : Program) (ev : Operand → Value) (h : AH) (t : TypeId) (x : Operand) : Option (Value × AH) := if isConcrete P t then some (.iface t (ev x), h) else none
def dFunc (ev : Operand → Value) (h : AH) (f : Fn) (a b : Array Operand) : Option (Value × AH) := match f with
  | .func f => some (.func (.func f) (a.map ev) (b.map ev), h)
  | _ => none
def dMap (h : AH) (r : Option Operand) : Option (Value × AH) := match r with
  | none => some (.map (some h.next), h.new (.map [] 0))
  | some _ => none
def dMakeSlice (P : Program) (ev : Operand → Value) (h : AH) (t : TypeId) (l c : Operand) : Option (Value × AH) := aMakeSlice P t (ev l) (ev c) h
def dSlice (P : Program) (ev : Operand → Value) (h : AH) (t : TypeId) (x : Operand) (lo hi mx : Option Operand) : Option (Value × AH) := match mx with
  | none => (aSlice P t (ev x) (oev ev lo) (oev ev hi)).map fun v => (v, h)
  | some _ => none
def dFieldAddr (P : Program) (ev : Operand → Value) (h : AH) (t : TypeId) (x : Operand) (f : Nat) : Option (Value × AH) := (aFieldAddr P t f (ev x)).map fun v => (v, h)
def dField (P : Program) (ev : Operand → Value) (h : AH) (t : TypeId) (x : Operand) (f : Nat) : Option (Value × AH) := (aField P t (ev x) f).map fun v => (v, h)
def dIndexAddr (P : Program) (ev : Operand → Value) (h : AH) (t : TypeId) (x i : Operand) : Option (Value × AH) := (aIndexAddr P t (ev x) (ev i)).map fun v => (v, h)
def dIndex (P : Program) (ev : Operand → Value) (h : AH) (t : TypeId) (x i : Operand) : Option (Value × AH) := (aIndex P t (ev x) (ev i)).map fun v => (v, h)
def dLookup (P : Program) (ev : Operand → Value) (h : AH) (t : TypeId) (x i : Operand) (ok : Bool) : Option (Value × AH) := (aLookup P t (ev x) (ev i) ok h).map fun v => (v, h)
def dUpdate (P : Program) (ev : Operand → Value) (h : AH) (t : TypeId) (m k v : Operand) : Option (Value × AH) := (aUpdate P t (ev m) (ev k) (ev v) h).map fun h' => (undef, h')
def dEntry (P : Program) (ev : Operand → Value) (h : AH) (t : TypeId) (m k : Operand) : Option (Value × AH) := aEntry P t (ev m) (ev k) h
def dEntryStore (ev : Operand → Value) (h : AH) (m s v : Operand) : Option (Value × AH) := (aEntryStore (ev m) (ev s) (ev v) h).map fun h' => (undef, h')
def dRange (P : Program) (ev : Operand → Value) (h : AH) (t : TypeId) (x : Operand) : Option (Value × AH) := aRange P t (ev x) h
def dIter (ev : Operand → Value) (h : AH) (x : Operand) : Option (Value × AH) := (aIterEntry (ev x) h).map fun v => (v, h)
def dExtract (ev : Operand → Value) (h : AH) (x : Operand) (i : Nat) : Option (Value × AH) := (aExtract (ev x) i).map fun v => (v, h)
def dCall (P : Program) (ev : Operand → Value) (h : AH) (c : Call) : Option (Value × AH) := match c.callee with
  | .builtin b => aBuiltin P b c.argTypes (c.args.toList.map ev) h
  | _ => none

def dopF (P : Program) (ev : Operand → Value) (op : Op) (h : AH) : Option (Value × AH) :=
  match op with
  | .move x => dMove ev h x
  | .assign x => dMove ev h x
  | .pick c x y => dPick ev h c x y
  | .alloc t => aAlloc P t h
  | .box t x => dBox ev h t x
  | .build t ps => dBuild P ev h t ps
  | .buildSlice t n ps => dBuildSlice P ev h t n ps
  | .load t x => dLoad P ev h t x
  | .store t x y => dStore P ev h t x y
  | .nilCheck x => dNil ev h x
  | .binOp op t x y _ => dBin P ev h op t x y
  | .unOp op _ x => dUn ev h op x
  | .convert s d x => dConv P ev h s d x
  | .makeInterface t x => dIface P ev h t x
  | .makeFunc f a b => dFunc ev h f a b
  | .makeMap _ r => dMap h r
  | .makeSlice t l c => dMakeSlice P ev h t l c
  | .slice t x lo hi mx => dSlice P ev h t x lo hi mx
  | .fieldAddr t x f => dFieldAddr P ev h t x f
  | .field t x f => dField P ev h t x f
  | .indexAddr t x i => dIndexAddr P ev h t x i
  | .index t x i => dIndex P ev h t x i
  | .lookup t x i ok => dLookup P ev h t x i ok
  | .mapUpdate t m k v => dUpdate P ev h t m k v
  | .insert t m k v => dUpdate P ev h t m k v
  | .mapEntry t m k => dEntry P ev h t m k
  | .entryStore _ m s v => dEntryStore ev h m s v
  | .range t x => dRange P ev h t x
  | .entry x => dIter ev h x
  | .extract x i => dExtract ev h x i
  | .call c => dCall P ev h c
  | _ => none

theorem dopF_eq (P : Program) (ev : Operand → Value) (op : Op) (h : AH) : dopF P ev op h = dop P ev op h := by
  cases op <;> first | rfl | skip
  case makeFunc f a b => cases f <;> rfl
  case makeMap t r => cases r <;> rfl
  case slice t x lo hi mx => cases mx <;> rfl
  case call c =>
    obtain ⟨callee, args, at'⟩ := c
    cases callee <;> rfl

def stays (P : Program) (ev : Operand → Value) (op : Op) (h : AH) : Bool :=
  match op with
  | .convert s d x => (aBytes P s d (ev x) h).isNone
  | op => pureK op || readK op

def evD (P : Program) (ev : Operand → Value) (op : Op) (h : EH) (k : Value → EH → Bool) : Bool :=
  match dopF P ev op h.den with
  | some (v, h') =>
    if stays P ev op h.den then force v fun v => k v h
    else match h.relay h' (h.next :: touched ev op) with
      | some h2 => force v fun v => k v h2
      | none => false
  | none => false

def evR (P : Program) (call : CallK) (yield : YieldK) (ev : Operand → Value) (op : Op) (h : EH) (k : Value → EH → Bool) : Bool :=
  match op with
  | .call { callee := .value f, args, .. } =>
    match ev f with
    | .func (.func g) first cap => call g (first.toList ++ args.toList.map ev ++ cap.toList) h k
    | .func (.yield L) first _ => yield L (first.toList ++ args.toList.map ev) h k
    | _ => false
  | .next it false => evNext (ev it) h k
  | op => evD P ev op h k

def dstB (n : Nat) : Option Tmp → Bool
  | some t => decide (t < n)
  | none => true

def evOp (P : Program) (call : CallK) (yield : YieldK) (ops : Array Oper) (o : Oper) (a : EA) (h : EH) (k : EA → EH → Bool) : Bool :=
  o.op.operands.toList.all cOK && dstB a.n o.dst &&
  (match o.guard with
   | none => evR P call yield a.den.ev o.op h fun v h' => match a.put? o.dst v with
     | some a' => k a' h'
     | none => false
   | some _ => if Region.wanted o (yieldedA ops a.den) then evR P call yield a.den.ev o.op h (fun v h' => match a.put? o.dst v with
       | some a' => k a' h'
       | none => false)
     else match a.put? o.dst undef with
       | some a' => k a' h
       | none => false)

def evTake (P : Program) (ops : Array Oper) (o : Oper) (a : EA) (h : EH) (k : Value → EA → Bool) : Bool :=
  o.op.operands.toList.all cOK && dstB a.n o.dst &&
  (if Region.wanted o (yieldedA ops a.den) then (match dopF P a.den.ev o.op h.den with
    | some (v, _) => stays P a.den.ev o.op h.den && force v fun v => (match a.put? o.dst v with
      | some a' => k v a'
      | none => false)
    | none => false)
  else match a.put? o.dst undef with
    | some a' => k undef a'
    | none => false)

def evOps (P : Program) (call : CallK) (yield : YieldK) (ops : Array Oper) : List Oper → EA → EH → (EA → EH → Bool) → Bool
  | [], a, h, k => k a h
  | o :: l, a, h, k => evOp P call yield ops o a h fun a h => evOps P call yield ops l a h k

mutual
def sameV : Value → Value → Bool
  | .bool a, .bool b => a == b
  | .int k n, .int j m => decide (k = j) && decide (n = m)
  | .pointer none, .pointer none => true
  | .pointer (some ⟨a, o, none⟩), .pointer (some ⟨b, u, none⟩) => a == b && o == u
  | .slice none l c, .slice none m d => l == m && c == d
  | .slice (some ⟨a, o, none⟩) l c, .slice (some ⟨b, u, none⟩) m d => a == b && o == u && l == m && c == d
  | .map none, .map none => true
  | .map (some a), .map (some b) => a == b
  | .nilFunc, .nilFunc => true
  | .nilIface, .nilIface => true
  | .agg ⟨xs⟩, .agg ⟨ys⟩ => sameVs xs ys
  | .tuple ⟨xs⟩, .tuple ⟨ys⟩ => sameVs xs ys
  | .func (.func f) ⟨xs⟩ ⟨us⟩, .func (.func g) ⟨ys⟩ ⟨vs⟩ => f == g && sameVs xs ys && sameVs us vs
  | .func (.yield f) ⟨xs⟩ ⟨us⟩, .func (.yield g) ⟨ys⟩ ⟨vs⟩ => f == g && sameVs xs ys && sameVs us vs
  | _, _ => false
def sameVs : List Value → List Value → Bool
  | [], [] => true
  | x :: xs, y :: ys => sameV x y && sameVs xs ys
  | _, _ => false
end

def keepsE (P : Program) (ops : Array Oper) (R : List (Oper × Value)) (a : EA) (h : EH) : Bool :=
  R.all fun p => p.1.op.operands.toList.all cOK && dstB a.n p.1.dst &&
    (if Region.wanted p.1 (yieldedA ops a.den) then (match dopF P a.den.ev p.1.op h.den with
      | some (v, _) => sameV v p.2 && stays P a.den.ev p.1.op h.den
      | none => false) else sameV p.2 undef)

def evI (P : Program) (call : CallK) (yield : YieldK) (ops : Array Oper) (i : Nat) (a : EA) (h : EH) (k : EA → EH → Bool) : Bool :=
  match ops[i]? with
  | some o => evOp P call yield ops o a h k
  | none => false

def evPlan (P : Program) (call : CallK) (yield : YieldK) (ops : Array Oper) : Plan → List (Oper × Value) → EA → EH → (EA → EH → Bool) → Bool
  | .done, _, a, h, k => k a h
  | .take i _ p, R, a, h, k => (match ops[i]? with
    | some o => evTake P ops o a h fun _ a => evPlan P call yield ops p R a h k
    | none => false)
  | .watch i _ p, R, a, h, k => (match ops[i]? with
    | some o => evTake P ops o a h fun v a => evPlan P call yield ops p ((o, v) :: R) a h k
    | none => false)
  | .only i p, R, a, h, k => evI P call yield ops i a h fun a h => keepsE P ops R a h && evPlan P call yield ops p R a h k
  | .two i p j q, R, a, h, k => (evI P call yield ops i a h fun a h => keepsE P ops R a h && evPlan P call yield ops p R a h k) && (evI P call yield ops j a h fun a h => keepsE P ops R a h && evPlan P call yield ops q R a h k)
  | .three i p j q x r, R, a, h, k => (evI P call yield ops i a h fun a h => keepsE P ops R a h && evPlan P call yield ops p R a h k) && (evI P call yield ops j a h fun a h => keepsE P ops R a h && evPlan P call yield ops q R a h k) && (evI P call yield ops x a h fun a h => keepsE P ops R a h && evPlan P call yield ops r R a h k)

def roundK (L : Nat) (k : Value → EH → Bool) (e : Exit) (h : EH) : Bool :=
  match h.hp.get L with
  | some (.loop l) =>
    (match e with
    | .normal => (match setE h L (.loop { l with state := .ready, pending := none }) with | some h' => k (.bool true) h' | none => false)
    | .ret => (match setE h L (.loop { l with state := .done, pending := some .ret }) with | some h' => k (.bool false) h' | none => false)
    | .exit id => (match setE h L (.loop { l with state := .done, pending := some (.exit id) }) with | some h' => k (.bool false) h' | none => false)
    | .goto t => (match setE h L (.loop { l with state := .done, pending := some (.goto t) }) with | some h' => k (.bool false) h' | none => false)
    | _ => false)
  | _ => false

abbrev CodeK := Option Nat → Code → EA → EH → (Exit → EA → EH → Bool) → Bool

def isReady : LoopState → Bool
  | .ready => true
  | _ => false
def isBusy : LoopState → Bool
  | .busy => true
  | _ => false

def evYield (ec : CodeK) (L : Nat) (args : List Value) (h : EH) (k : Value → EH → Bool) : Bool :=
  match h.hp.get L with
  | some (.loop l) =>
    decide (args.length = l.params.size) &&
    (match ({ n := l.n, base := l.tm, tm := T.full 8, df := [] } : EA).puts? (l.params.toList.zip args) with
    | some a => ec (some L) l.assign a h fun e a1 h1 => match e with
      | .normal => (match h1.hp.get L with
        | some (.loop l1) => isReady l1.state && (match setE h1 L (.loop { l1 with state := .busy }) with
          | some h2 => ec (some L) l.body a1 h2 fun e _ h3 => roundK L k e h3
          | none => false)
        | _ => false)
      | _ => false
    | none => false)
  | _ => false

def evCall (P : Program) (ec : CodeK) (g : FuncId) (args : List Value) (h : EH) (k : Value → EH → Bool) : Bool :=
  match P.funcs[g]? with
  | some fn => (match fn.body with
    | some c => !(fn.name == "runtime.NumGoroutine") && (match enterE fn args with
      | some a => ec none c a h fun e a1 h1 =>
        (match e with | .normal => true | .ret => true | _ => false) &&
        (match closeE a1.df h1 with
        | some h2 => (match resL P a1.at h2.den fn.results.toList with
          | some vs => k (resV vs) h2
          | none => false)
        | none => false)
      | none => false)
    | none => false)
  | none => false

def rangeK (ec : CodeK) (rd : Option Nat) (L : Nat) (a : EA) (k : Exit → EA → EH → Bool) (_ : Value) (h : EH) : Bool :=
  match h.hp.get L with
  | some (.loop l) => !isBusy l.state && (match setE h L (.loop { l with state := .exhausted }) with
    | some h' => (match l.pending with
      | none => k .normal a h'
      | some c => ec rd c a h' k)
    | none => false)
  | _ => false

def evRange (P : Program) (ec : CodeK) (rd : Option Nat) (g : Operand) (ps : Array Tmp) (assign body : Code) (a : EA) (h : EH) (k : Exit → EA → EH → Bool) : Bool :=
  cOK g && (match a.den.ev g with
  | .func (.func gf) first cap =>
    match rd with
    | none => (match newE h (.dfr true) with
      | some h1 => (match newE h1 (.loop { state := .ready, pending := none, fn := 0, n := a.n, tm := a.at, params := ps, assign := assign, body := body, defers := h.next }) with
        | some h2 => evCall P ec gf (first.toList ++ [.func (.yield (h.next + 1)) #[] #[]] ++ cap.toList) h2 (rangeK ec rd (h.next + 1) { a with df := h.next :: a.df } k)
        | none => false)
      | none => false)
    | some L0 => (match h.hp.get L0 with
      | some (.loop l0) => (match newE h (.loop { state := .ready, pending := none, fn := 0, n := a.n, tm := a.at, params := ps, assign := assign, body := body, defers := l0.defers }) with
        | some h2 => evCall P ec gf (first.toList ++ [.func (.yield h.next) #[] #[]] ++ cap.toList) h2 (rangeK ec rd h.next a k)
        | none => false)
      | _ => false)
  | _ => false)

/-- A call; of a function that only reads, and hands back what is foretold: on a view of the heap. -/
def evCallV (E : Env) (ec : CodeK) (g : FuncId) (args : List Value) (h : EH) (k : Value → EH → Bool) : Bool :=
  match findV g E.pures with
  | some V => plain 9 V && (evCall E.P ec g args h.view (fun v _ => sameV v V) && k V h)
  | none => evCall E.P ec g args h k

def evC (E : Env) : Nat → Option Nat → Code → EA → EH → (Exit → EA → EH → Bool) → Bool
  | 0, _, _, _, _, _ => false
  | f + 1, rd, c, a, h, k =>
    match c with
    | .skip => k .normal a h
    | .ret => k .ret a h
    | .exit id => k (.exit id) a h
    | .goto l => k (.goto l) a h
    | .label _ => k .normal a h
    | .seq x y => evC E f rd x a h fun e a h => match e with
      | .normal => evC E f rd y a h k
      | e => k e a h
    | .cond c x y => cOK c && (match a.den.ev c with
      | .bool true => evC E f rd x a h k
      | .bool false => evC E f rd y a h k
      | _ => false)
    | .block id c => evC E f rd c a h fun e a h => match e with
      | .exit i => if i = id then k .normal a h else k (.exit i) a h
      | e => k e a h
    | .loop c => evC E f rd c a h fun e a h => match e with
      | .normal => evC E f rd (.loop c) a h k
      | e => k e a h
    | .region id ops draw => (match draw with
      | false => evOps E.P (fun g args h k => evCallV E (evC E f) g args h k) (fun L args h k => evYield (evC E f) L args h k) ops ops.toList a h fun a h => k .normal a h
      | true => (match findPlan id ops E.plans with
        | some p => evPlan E.P (fun g args h k => evCallV E (evC E f) g args h k) (fun L args h k => evYield (evC E f) L args h k) ops p [] a h fun a h => k .normal a h
        | none => false))
    | .rangeFunc g ps assign body => evRange E.P (evC E f) rd g ps assign body a h k
    | _ => false

end Go.Ab
