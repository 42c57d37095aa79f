/- Own layer 'Ab': an abstract heap, and its relation to the world of the model. Generic over the program. Own layer 'Ab': reads and writes of cells, new rows: what they are on the abstract heap, and that the model's operations do just that. Own layer 'Ab': the operations that only reckon. Own layer 'Ab': addresses, slices, parts. Own layer 'Ab': append. Own layer 'Ab': values built of parts, new slices and maps. Own layer 'Ab': maps, lengths, copies. Own layer 'Ab': entries, deletions, lengths, copies, walks over maps. Own layer 'Ab': every operation. Own layer 'Ab': one operation, its way on the abstract heap, and that the model goes it. Own layer 'Ab': a string's bytes, as a new row. Own layer 'Ab': the walk of an operation, of code, of a call. Own layer 'Ab': an operation of any kind, its way on the abstract heap, and that the model goes it. Own layer 'Ab': the walk of code and of a call. Own layer 'Ab': a range over a function. Own layer 'Ab': a region that draws its order. Own layer 'Ab': a region that draws its order: by a plan. -/
import Derived.OrdersIn
import Derived.RangeFuncLeaves
import Derived.LoopNIn
import Derived.WalkKit
import Derived.Laws.StructEq
import Derived.RangeFuncRecord
set_option linter.unusedSimpArgs false
set_option linter.unusedVariables false
namespace Go.Ab

/-- Where an abstract block lies: its block in the world, the offset at which it begins there, the end of its room. -/
structure RE where
  blk : Nat
  base : Nat
  lim : Nat

abbrev Ren := Nat → Option RE

def Ren.le (ρ ρ' : Ren) : Prop := ∀ i r, ρ i = some r → ρ' i = some r

theorem Ren.le_refl (ρ : Ren) : ρ.le ρ := fun _ _ h => h
theorem Ren.le_trans {a b c : Ren} (h : a.le b) (g : b.le c) : a.le c := fun i r x => g i r (h i r x)

def Ren.put (ρ : Ren) (A : Nat) (r : RE) : Ren := fun i => if i = A then some r else ρ i

theorem Ren.put_same (ρ : Ren) (A : Nat) (r : RE) : ρ.put A r A = some r := by simp [Ren.put]
theorem Ren.put_ne (ρ : Ren) {A i : Nat} (r : RE) (h : i ≠ A) : ρ.put A r i = ρ i := by simp [Ren.put, h]
theorem Ren.le_put {ρ : Ren} {A : Nat} {r : RE} (h : ρ A = none) : ρ.le (ρ.put A r) := by
  intro i q hi
  by_cases e : i = A
  · subst e; rw [h] at hi; cases hi
  · rw [Ren.put_ne _ _ e]; exact hi

/-- The capacity of a slice whose room is not known: this number and the cells of an element. -/
def SL : Nat := 18446744073709551616

inductive FR (ρ : Ren) : Fn → Fn → Prop
  | func (f : FuncId) : FR ρ (.func f) (.func f)
  | yield {A : Nat} {r : RE} (h : ρ A = some r) : FR ρ (.yield A) (.yield r.blk)

inductive VR (ρ : Ren) : Value → Value → Prop
  | bool (b : Bool) : VR ρ (.bool b) (.bool b)
  | int (k : IntKind) (n : Int) : VR ρ (.int k n) (.int k n)
  | string (s : ByteArray) : VR ρ (.string s) (.string s)
  | nilPtr : VR ρ (.pointer none) (.pointer none)
  | ptr {A off : Nat} {r : RE} (h : ρ A = some r) : VR ρ (.pointer (some ⟨A, off, none⟩)) (.pointer (some ⟨r.blk, r.base + off, none⟩))
  | nilSlice (l c : Nat) : VR ρ (.slice none l c) (.slice none l c)
  | slice {A off l c : Nat} {r : RE} (h : ρ A = some r) (hc : c < SL) :
      VR ρ (.slice (some ⟨A, off, none⟩) l c) (.slice (some ⟨r.blk, r.base + off, none⟩) l c)
  | slack {A off l c s : Nat} {r : RE} (h : ρ A = some r) (hl : l ≤ c) (hlim : r.base + off + c * s ≤ r.lim) (hc : c ≤ 9223372036854775807) :
      VR ρ (.slice (some ⟨A, off, none⟩) l (SL + s)) (.slice (some ⟨r.blk, r.base + off, none⟩) l c)
  | slack0 {A off off' s : Nat} {r : RE} (h : ρ A = some r) :
      VR ρ (.slice (some ⟨A, off, none⟩) 0 (SL + s)) (.slice (some ⟨r.blk, off', none⟩) 0 0)
  | slip {A off : Nat} {p : Addr} : VR ρ (.slice (some ⟨A, off, none⟩) 0 0) (.slice (some p) 0 0)
  | nilMap : VR ρ (.map none) (.map none)
  | map {A : Nat} {r : RE} (h : ρ A = some r) : VR ρ (.map (some A)) (.map (some r.blk))
  | nilFunc : VR ρ .nilFunc .nilFunc
  | func {f g : Fn} {xs xs' ys ys' : Array Value} (hf : FR ρ f g) (h1 : xs.size = xs'.size)
      (h2 : ∀ (i : Nat) (v v' : Value), xs[i]? = some v → xs'[i]? = some v' → VR ρ v v') (h3 : ys.size = ys'.size)
      (h4 : ∀ (i : Nat) (v v' : Value), ys[i]? = some v → ys'[i]? = some v' → VR ρ v v') : VR ρ (.func f xs ys) (.func g xs' ys')
  | nilIface : VR ρ .nilIface .nilIface
  | iface {t : TypeId} {v v' : Value} (h : VR ρ v v') : VR ρ (.iface t v) (.iface t v')
  | agg {xs xs' : Array Value} (h1 : xs.size = xs'.size)
      (h2 : ∀ (i : Nat) (v v' : Value), xs[i]? = some v → xs'[i]? = some v' → VR ρ v v') : VR ρ (.agg xs) (.agg xs')
  | tuple {xs xs' : Array Value} (h1 : xs.size = xs'.size)
      (h2 : ∀ (i : Nat) (v v' : Value), xs[i]? = some v → xs'[i]? = some v' → VR ρ v v') : VR ρ (.tuple xs) (.tuple xs')

theorem FR.mono {ρ ρ' : Ren} (hle : ρ.le ρ') {f g : Fn} (h : FR ρ f g) : FR ρ' f g := by
  cases h with
  | func f => exact .func f
  | yield h => exact .yield (hle _ _ h)

theorem VR.mono {ρ ρ' : Ren} (hle : ρ.le ρ') {v v' : Value} (h : VR ρ v v') : VR ρ' v v' := by
  induction h with
  | bool b => exact .bool b
  | int k n => exact .int k n
  | string s => exact .string s
  | nilPtr => exact .nilPtr
  | ptr h => exact .ptr (hle _ _ h)
  | nilSlice l c => exact .nilSlice l c
  | slice h hc => exact .slice (hle _ _ h) hc
  | slack h hl hlim hc => exact .slack (hle _ _ h) hl hlim hc
  | slack0 h => exact .slack0 (hle _ _ h)
  | slip => exact .slip
  | nilMap => exact .nilMap
  | map h => exact .map (hle _ _ h)
  | nilFunc => exact .nilFunc
  | func hf h1 h2 h3 h4 i2 i4 => exact .func (hf.mono hle) h1 (fun i v v' a b => i2 i v v' a b) h3 (fun i v v' a b => i4 i v v' a b)
  | nilIface => exact .nilIface
  | iface h ih => exact .iface ih
  | agg h1 h2 i2 => exact .agg h1 (fun i v v' a b => i2 i v v' a b)
  | tuple h1 h2 i2 => exact .tuple h1 (fun i v v' a b => i2 i v v' a b)

/-- Two lists of values, one by one. -/
def LR (ρ : Ren) (xs ys : List Value) : Prop := xs.length = ys.length ∧ ∀ (i : Nat) (v v' : Value), xs[i]? = some v → ys[i]? = some v' → VR ρ v v'

theorem LR.mono {ρ ρ' : Ren} (hle : ρ.le ρ') {xs ys : List Value} (h : LR ρ xs ys) : LR ρ' xs ys :=
  ⟨h.1, fun i v v' a b => (h.2 i v v' a b).mono hle⟩
theorem LR.nil (ρ : Ren) : LR ρ [] [] := ⟨rfl, fun i v v' a _ => by simp at a⟩
theorem LR.cons {ρ : Ren} {x y : Value} {xs ys : List Value} (h : VR ρ x y) (t : LR ρ xs ys) : LR ρ (x :: xs) (y :: ys) := by
  refine ⟨by simp [t.1], fun i v v' a b => ?_⟩
  cases i with
  | zero => simp at a b; subst a; subst b; exact h
  | succ i => simp at a b; exact t.2 i v v' a b
theorem LR.single {ρ : Ren} {x y : Value} (h : VR ρ x y) : LR ρ [x] [y] := (LR.nil ρ).cons h
theorem LR.get {ρ : Ren} {xs ys : List Value} (h : LR ρ xs ys) {i : Nat} {v : Value} (hv : xs[i]? = some v) : ∃ v', ys[i]? = some v' ∧ VR ρ v v' := by
  have hlt : i < ys.length := by rw [← h.1]; exact (List.getElem?_eq_some_iff.1 hv).1
  exact ⟨ys[i], List.getElem?_eq_getElem hlt, h.2 i v _ hv (List.getElem?_eq_getElem hlt)⟩
theorem LR.append {ρ : Ren} {a b c d : List Value} (h : LR ρ a b) (g : LR ρ c d) : LR ρ (a ++ c) (b ++ d) := by
  refine ⟨by simp [h.1, g.1], fun i v v' p q => ?_⟩
  by_cases hi : i < a.length
  · rw [List.getElem?_append_left hi] at p
    rw [List.getElem?_append_left (by rw [← h.1]; exact hi)] at q
    exact h.2 i v v' p q
  · rw [List.getElem?_append_right (by omega)] at p
    rw [List.getElem?_append_right (by rw [← h.1]; omega)] at q
    rw [← h.1] at q
    exact g.2 _ v v' p q
theorem LR.take {ρ : Ren} {a b : List Value} (h : LR ρ a b) (n : Nat) : LR ρ (a.take n) (b.take n) := by
  refine ⟨by simp [h.1], fun i v v' p q => ?_⟩
  rw [List.getElem?_take] at p q
  split at p
  · rename_i hi; rw [if_pos hi] at q; exact h.2 i v v' p q
  · cases p
theorem LR.drop {ρ : Ren} {a b : List Value} (h : LR ρ a b) (n : Nat) : LR ρ (a.drop n) (b.drop n) := by
  refine ⟨by simp [h.1], fun i v v' p q => ?_⟩
  rw [List.getElem?_drop] at p q
  exact h.2 _ v v' p q
theorem LR.set {ρ : Ren} {a b : List Value} (h : LR ρ a b) (n : Nat) {x y : Value} (hx : VR ρ x y) : LR ρ (a.set n x) (b.set n y) := by
  refine ⟨by simp [h.1], fun i v v' p q => ?_⟩
  rw [List.getElem?_set] at p q
  by_cases hn : n = i
  · subst hn
    simp only [if_true] at p q
    split at p
    · split at q
      · cases p; cases q; exact hx
      · cases q
    · cases p
  · rw [if_neg hn] at p q; exact h.2 i v v' p q
theorem LR.of_refl {ρ : Ren} {a : List Value} (h : ∀ v ∈ a, VR ρ v v) : LR ρ a a :=
  ⟨rfl, fun i v v' p q => by rw [p] at q; cases q; exact h v (List.mem_of_getElem? p)⟩
theorem LR.map {ρ : Ren} {α : Type} {l : List α} {f g : α → Value} (h : ∀ x ∈ l, VR ρ (f x) (g x)) : LR ρ (l.map f) (l.map g) := by
  refine ⟨by simp, fun i v v' p q => ?_⟩
  simp only [List.getElem?_map, Option.map_eq_some_iff] at p q
  obtain ⟨x, hx, rfl⟩ := p
  obtain ⟨y, hy, rfl⟩ := q
  rw [hx] at hy; cases hy
  exact h x (List.mem_of_getElem? hx)

theorem VR.ofAgg {ρ : Ren} {xs : Array Value} {v : Value} (h : VR ρ (.agg xs) v) : ∃ ys, v = .agg ys ∧ LR ρ xs.toList ys.toList := by
  cases h with
  | agg h1 h2 => exact ⟨_, rfl, by simpa using h1, fun i v v' a b => h2 i v v' (by simpa using a) (by simpa using b)⟩
theorem VR.ofTuple {ρ : Ren} {xs : Array Value} {v : Value} (h : VR ρ (.tuple xs) v) : ∃ ys, v = .tuple ys ∧ LR ρ xs.toList ys.toList := by
  cases h with
  | tuple h1 h2 => exact ⟨_, rfl, by simpa using h1, fun i v v' a b => h2 i v v' (by simpa using a) (by simpa using b)⟩
theorem LR.toAgg {ρ : Ren} {xs ys : List Value} (h : LR ρ xs ys) : VR ρ (.agg xs.toArray) (.agg ys.toArray) :=
  .agg (by simpa using h.1) (fun i v v' a b => h.2 i v v' (by simpa using a) (by simpa using b))
theorem LR.toTuple {ρ : Ren} {xs ys : List Value} (h : LR ρ xs ys) : VR ρ (.tuple xs.toArray) (.tuple ys.toArray) :=
  .tuple (by simpa using h.1) (fun i v v' a b => h.2 i v v' (by simpa using a) (by simpa using b))
theorem VR.undef (ρ : Ren) : VR ρ Go.undef Go.undef := .tuple rfl (fun i v v' a _ => by simp at a)

theorem VR.cells {ρ : Ren} {v v' : Value} (h : VR ρ v v') : LR ρ v.cells.toList v'.cells.toList := by
  cases h with
  | agg h1 h2 => exact (VR.ofAgg (.agg h1 h2)).elim fun ys h => by obtain ⟨e, hl⟩ := h; cases e; exact hl
  | bool b => exact LR.single (.bool b)
  | int k n => exact LR.single (.int k n)
  | string s => exact LR.single (.string s)
  | nilPtr => exact LR.single .nilPtr
  | ptr h => exact LR.single (.ptr h)
  | nilSlice l c => exact LR.single (.nilSlice l c)
  | slice h hc => exact LR.single (.slice h hc)
  | slack h hl hlim hc => exact LR.single (.slack h hl hlim hc)
  | slack0 h => exact LR.single (.slack0 h)
  | slip => exact LR.single .slip
  | nilMap => exact LR.single .nilMap
  | map h => exact LR.single (.map h)
  | nilFunc => exact LR.single .nilFunc
  | func hf h1 h2 h3 h4 => exact LR.single (.func hf h1 h2 h3 h4)
  | nilIface => exact LR.single .nilIface
  | iface h => exact LR.single (.iface h)
  | tuple h1 h2 => exact LR.single (.tuple h1 h2)

/-- The value of one cell. -/
def oneC : Value → Bool
  | .agg _ | .tuple _ => false
  | _ => true

theorem VR.one {ρ : Ren} {v v' : Value} (h : VR ρ v v') : oneC v' = oneC v := by
  cases h <;> rfl

/-- Values that bear no address: each is its own. -/
def plain : Nat → Value → Bool
  | 0, _ => false
  | n + 1, v => match v with
    | .bool _ | .int _ _ | .string _ | .pointer none | .slice none _ _ | .map none | .nilFunc | .nilIface => true
    | .iface _ v => plain n v
    | .agg xs => xs.toList.all (plain n)
    | .tuple xs => xs.toList.all (plain n)
    | _ => false

theorem plain_VR (ρ : Ren) : ∀ (n : Nat) (v : Value), plain n v = true → VR ρ v v := by
  intro n
  induction n with
  | zero => intro v h; simp [plain] at h
  | succ n ih =>
    intro v h
    unfold plain at h
    split at h
    case h_1 => exact .bool _
    case h_2 => exact .int _ _
    case h_3 => exact .string _
    case h_4 => exact .nilPtr
    case h_5 => exact .nilSlice _ _
    case h_6 => exact .nilMap
    case h_7 => exact .nilFunc
    case h_8 => exact .nilIface
    case h_9 => exact .iface (ih _ h)
    case h_10 xs =>
      refine .agg rfl fun i v v' a b => ?_
      rw [a] at b; cases b
      exact ih v (List.all_eq_true.1 h v (by simpa using Array.mem_of_getElem? a))
    case h_11 xs =>
      refine .tuple rfl fun i v v' a b => ?_
      rw [a] at b; cases b
      exact ih v (List.all_eq_true.1 h v (by simpa using Array.mem_of_getElem? a))
    case h_12 => cases h

/-! ### The abstract heap -/

structure ALoop where
  state : LoopState
  pending : Option Code
  fn : FuncId
  n : Nat
  tm : Nat → Value
  params : Array Tmp
  assign : Code
  body : Code
  defers : Nat

inductive AObj where
  | row (c : List Value) (elem : TypeId) (wr : Bool)
  | grow (c : List Value) (elem : TypeId)
  | map (es : List MapEntry) (clk : Nat)
  | iter (m : Option Nat) (since : Nat) (seen : List Nat) (stepped : Nat)
  | loop (l : ALoop)
  | dfr (live : Bool)

def AObj.own : AObj → Bool
  | .row _ _ wr => wr
  | _ => true

structure AH where
  next : Nat
  get : Nat → Option AObj

def AH.set (h : AH) (A : Nat) (o : AObj) : AH := { next := h.next, get := fun i => if i = A then some o else h.get i }
def AH.del (h : AH) (A : Nat) : AH := { next := h.next, get := fun i => if i = A then none else h.get i }
def AH.new (h : AH) (o : AObj) : AH := { next := h.next + 1, get := fun i => if i = h.next then some o else h.get i }

@[simp] theorem AH.set_next (h : AH) (A : Nat) (o : AObj) : (h.set A o).next = h.next := rfl
@[simp] theorem AH.del_next (h : AH) (A : Nat) : (h.del A).next = h.next := rfl
@[simp] theorem AH.new_next (h : AH) (o : AObj) : (h.new o).next = h.next + 1 := rfl
theorem AH.set_get (h : AH) (A : Nat) (o : AObj) (i : Nat) : (h.set A o).get i = if i = A then some o else h.get i := rfl
theorem AH.del_get (h : AH) (A : Nat) (i : Nat) : (h.del A).get i = if i = A then none else h.get i := rfl
theorem AH.new_get (h : AH) (o : AObj) (i : Nat) : (h.new o).get i = if i = h.next then some o else h.get i := rfl

/-- A row of cells, as it lies in the world. -/
structure RowAt (ρ : Ren) (r : RE) (w : World) (c : List Value) (elem : TypeId) (wr : Bool) (cc : Array Value) (fr : Nat × Nat) : Prop where
  heap : w.heap[r.blk]? = some (.cells cc elem fr)
  fits : r.base + c.length ≤ cc.size
  cell : ∀ (i : Nat) (v : Value), c[i]? = some v → ∃ v', cc[r.base + i]? = some v' ∧ VR ρ v v'
  free : wr = true → ∀ i, i ≤ cc.size → ¬ (fr.1 ≤ i ∧ i < fr.2)
  one : ∀ v ∈ c, oneC v = true

def ER (ρ : Ren) (es es' : List MapEntry) : Prop :=
  es.length = es'.length ∧ ∀ (i : Nat) (e e' : MapEntry), es[i]? = some e → es'[i]? = some e' → e.born = e'.born ∧ VR ρ e.key e'.key ∧ VR ρ e.val e'.val

theorem ER.mono {ρ ρ' : Ren} (hle : ρ.le ρ') {es es' : List MapEntry} (h : ER ρ es es') : ER ρ' es es' :=
  ⟨h.1, fun i e e' a b => let ⟨x, y, z⟩ := h.2 i e e' a b; ⟨x, y.mono hle, z.mono hle⟩⟩

def MRel (ρ : Ren) : Option Nat → Option Nat → Prop
  | none, m' => m' = none
  | some M, m' => ∃ q, ρ M = some q ∧ m' = some q.blk

/-- Every cell is some value's. -/
def AllR (ρ : Ren) (cc : Array Value) : Prop := ∀ (i : Nat) (v' : Value), cc[i]? = some v' → oneC v' = true ∧ ∃ v, VR ρ v v'

theorem AllR.mono {ρ ρ' : Ren} (hle : ρ.le ρ') {cc : Array Value} (h : AllR ρ cc) : AllR ρ' cc := fun i v' hi => let ⟨a, v, b⟩ := h i v' hi; ⟨a, v, b.mono hle⟩

def OR (ρ : Ren) (r : RE) (w : World) : AObj → Prop
  | .row c elem wr => ∃ cc fr, RowAt ρ r w c elem wr cc fr
  | .grow c elem => ∃ cc fr, RowAt ρ r w c elem true cc fr ∧ cc.size = r.lim ∧ AllR ρ cc
  | .map es clk => ∃ es', w.heap[r.blk]? = some (.map es' clk) ∧ ER ρ es es'.toList
  | .iter m since seen stepped => ∃ m', w.heap[r.blk]? = some (.mapIter m' since seen.toArray stepped) ∧ r.base = 0 ∧ MRel ρ m m'
  | .loop l => ∃ l' q, w.heap[r.blk]? = some (.loop l') ∧ l'.state = l.state ∧ l'.pending = l.pending ∧ True ∧ l'.params = l.params ∧
      l'.assign = l.assign ∧ l'.body = l.body ∧ ρ l.defers = some q ∧ l'.defers = q.blk ∧ l'.tmps.size = l.n ∧ ∀ i, VR ρ (l.tm i) (l'.tmps.getD i undef)
  | .dfr live => w.heap[r.blk]? = some (.deferred (if live then some [] else none))

theorem OR.heap_some {ρ : Ren} {r : RE} {w : World} {o : AObj} (h : OR ρ r w o) : ∃ x, w.heap[r.blk]? = some x := by
  cases o with
  | row c e wr => obtain ⟨cc, fr, h⟩ := h; exact ⟨_, h.heap⟩
  | grow c e => obtain ⟨cc, fr, h, _⟩ := h; exact ⟨_, h.heap⟩
  | map es clk => obtain ⟨es', h, _⟩ := h; exact ⟨_, h⟩
  | iter m a b c => obtain ⟨m', h, _⟩ := h; exact ⟨_, h⟩
  | loop l => obtain ⟨l', q, h, _⟩ := h; exact ⟨_, h⟩
  | dfr l => exact ⟨_, h⟩

theorem OR.lt {ρ : Ren} {r : RE} {w : World} {o : AObj} (h : OR ρ r w o) : r.blk < w.heap.size := by
  obtain ⟨x, hx⟩ := h.heap_some
  exact (Array.getElem?_eq_some_iff.1 hx).1

/-- An object's relation hangs on its own block alone, and grows with the renaming. -/
theorem OR.move {ρ ρ' : Ren} {r : RE} {w w' : World} {o : AObj} (hle : ρ.le ρ') (hb : w'.heap[r.blk]? = w.heap[r.blk]?) (h : OR ρ r w o) : OR ρ' r w' o := by
  cases o with
  | row c e wr =>
    obtain ⟨cc, fr, h⟩ := h
    exact ⟨cc, fr, ⟨hb.trans h.heap, h.fits, fun i v hi => let ⟨v', a, b⟩ := h.cell i v hi; ⟨v', a, b.mono hle⟩, h.free, h.one⟩⟩
  | grow c e =>
    obtain ⟨cc, fr, h, hl, ha⟩ := h
    exact ⟨cc, fr, ⟨hb.trans h.heap, h.fits, fun i v hi => let ⟨v', a, b⟩ := h.cell i v hi; ⟨v', a, b.mono hle⟩, h.free, h.one⟩, hl, ha.mono hle⟩
  | map es clk => obtain ⟨es', h, he⟩ := h; exact ⟨es', hb.trans h, he.mono hle⟩
  | iter m a b c =>
    obtain ⟨m', h, h0, hm⟩ := h
    refine ⟨m', hb.trans h, h0, ?_⟩
    cases m with
    | none => exact hm
    | some M => obtain ⟨q, hq, e⟩ := hm; exact ⟨q, hle _ _ hq, e⟩
  | loop l =>
    obtain ⟨l', q, h, h1, h2, h3, h4, h5, h6, h7, h8, h9, h10⟩ := h
    exact ⟨l', q, hb.trans h, h1, h2, h3, h4, h5, h6, hle _ _ h7, h8, h9, fun i => (h10 i).mono hle⟩
  | dfr l => exact hb.trans h

structure HR (ρ : Ren) (h : AH) (w : World) : Prop where
  obj : ∀ A o, h.get A = some o → ∃ r, ρ A = some r ∧ OR ρ r w o
  inj : ∀ A B o p r q, h.get A = some o → h.get B = some p → ρ A = some r → ρ B = some q → A ≠ B → (o.own = true ∨ p.own = true) → r.blk ≠ q.blk
  dom : ∀ A r, ρ A = some r → A < h.next

theorem HR.fresh {ρ : Ren} {h : AH} {w : World} (hr : HR ρ h w) : ρ h.next = none := by
  cases e : ρ h.next with
  | none => rfl
  | some r => exact absurd (hr.dom _ _ e) (Nat.lt_irrefl _)

/-- The blocks that an abstract heap may write. -/
def Own (ρ : Ren) (h : AH) (b : Nat) : Prop := ∃ A o r, h.get A = some o ∧ o.own = true ∧ ρ A = some r ∧ r.blk = b

/-- What lies beside the heap stays. -/
structure Side (w w' : World) : Prop where
  os : w'.os = w.os
  tape : w'.tape = w.tape
  output : w'.output = w.output

theorem Side.refl (w : World) : Side w w := ⟨rfl, rfl, rfl⟩
theorem Side.trans {a b c : World} (x : Side a b) (y : Side b c) : Side a c := ⟨y.os.trans x.os, y.tape.trans x.tape, y.output.trans x.output⟩

structure Frm (ρ : Ren) (h : AH) (w : World) (ρ' : Ren) (h' : AH) (w' : World) : Prop where
  le : ρ.le ρ'
  size : w.heap.size ≤ w'.heap.size
  rest : ∀ b, b < w.heap.size → ¬ Own ρ h b → w'.heap[b]? = w.heap[b]?
  own : ∀ b, Own ρ' h' b → Own ρ h b ∨ w.heap.size ≤ b
  side : Side w w'

theorem Frm.refl (ρ : Ren) (h : AH) (w : World) : Frm ρ h w ρ h w := ⟨Ren.le_refl _, Nat.le_refl _, fun _ _ _ => rfl, fun _ h => .inl h, Side.refl _⟩

theorem Frm.trans {ρ ρ₁ ρ₂ : Ren} {h h₁ h₂ : AH} {w w₁ w₂ : World} (a : Frm ρ h w ρ₁ h₁ w₁) (b : Frm ρ₁ h₁ w₁ ρ₂ h₂ w₂) : Frm ρ h w ρ₂ h₂ w₂ := by
  refine ⟨Ren.le_trans a.le b.le, Nat.le_trans a.size b.size, fun x hx hn => ?_, fun x hx => ?_, a.side.trans b.side⟩
  · refine (b.rest x (Nat.lt_of_lt_of_le hx a.size) fun ho => ?_).trans (a.rest x hx hn)
    rcases a.own x ho with h | h
    · exact hn h
    · omega
  · rcases b.own x hx with h | h
    · exact a.own x h
    · exact .inr (Nat.le_trans a.size h)

/-- A step that leaves the heap's blocks as they are. -/
theorem HR.same {ρ : Ren} {h : AH} {w w' : World} (e : w'.heap = w.heap) (hr : HR ρ h w) : HR ρ h w' :=
  ⟨fun A o ho => let ⟨r, a, b⟩ := hr.obj A o ho; ⟨r, a, b.move (Ren.le_refl _) (by rw [e])⟩, hr.inj, hr.dom⟩
theorem Frm.same {ρ : Ren} {h : AH} {w w' : World} (e : w'.heap = w.heap) (sd : Side w w' := by exact ⟨rfl, rfl, rfl⟩) : Frm ρ h w ρ h w' :=
  ⟨Ren.le_refl _, by rw [e]; exact Nat.le_refl _, fun _ _ _ => by rw [e], fun _ h => .inl h, sd⟩

/-- One block more: a new abstract block for it. -/
theorem HR.alloc {ρ : Ren} {h : AH} {w : World} (hr : HR ρ h w) {x : Obj} {o : AObj} {w' : World} {base lim : Nat} (hw : w'.heap = w.heap.push x)
    (ho : ∀ ρ', ρ.le ρ' → ρ' h.next = some ⟨w.heap.size, base, lim⟩ → OR ρ' ⟨w.heap.size, base, lim⟩ w' o) (sd : Side w w' := by exact ⟨rfl, rfl, rfl⟩) :
    HR (ρ.put h.next ⟨w.heap.size, base, lim⟩) (h.new o) w' ∧ Frm ρ h w (ρ.put h.next ⟨w.heap.size, base, lim⟩) (h.new o) w' := by
  have hle : ρ.le (ρ.put h.next ⟨w.heap.size, base, lim⟩) := Ren.le_put hr.fresh
  have hold : ∀ b, b < w.heap.size → w'.heap[b]? = w.heap[b]? := fun b hb => by rw [hw, Array.getElem?_push_lt hb, Array.getElem?_eq_getElem hb]
  have hlt : ∀ A o r, h.get A = some o → ρ A = some r → r.blk < w.heap.size := fun A o r ha hq => by
    obtain ⟨r', e, hor⟩ := hr.obj A o ha
    rw [hq] at e; cases e; exact hor.lt
  refine ⟨⟨fun A o' ha => ?_, fun A B oa ob ra rb ha hb hra hrb hne hown => ?_, fun A r ha => ?_⟩, ⟨hle, by rw [hw]; simp, fun b hb _ => hold b hb, fun b hb => ?_, sd⟩⟩
  · rw [AH.new_get] at ha
    split at ha
    · rename_i e; cases ha; subst e
      exact ⟨_, Ren.put_same _ _ _, ho _ hle (Ren.put_same _ _ _)⟩
    · obtain ⟨r, e, hor⟩ := hr.obj A o' ha
      exact ⟨r, hle _ _ e, hor.move hle (hold _ hor.lt)⟩
  · rw [AH.new_get] at ha hb
    by_cases ea : A = h.next
    · have eb : B ≠ h.next := fun e => hne (ea.trans e.symm)
      rw [if_neg eb] at hb
      rw [Ren.put_ne _ _ eb] at hrb
      subst ea; rw [Ren.put_same] at hra; cases hra
      have := hlt B ob rb hb hrb
      simp; omega
    · rw [if_neg ea] at ha
      rw [Ren.put_ne _ _ ea] at hra
      by_cases eb : B = h.next
      · subst eb; rw [Ren.put_same] at hrb; cases hrb
        have := hlt A oa ra ha hra
        simp; omega
      · rw [if_neg eb] at hb
        rw [Ren.put_ne _ _ eb] at hrb
        exact hr.inj A B oa ob ra rb ha hb hra hrb hne hown
  · by_cases ea : A = h.next
    · subst ea; simp
    · rw [Ren.put_ne _ _ ea] at ha; have := hr.dom A r ha; simp; omega
  · obtain ⟨A, o', r, ha, hown, hq, rfl⟩ := hb
    rw [AH.new_get] at ha
    by_cases ea : A = h.next
    · subst ea; rw [Ren.put_same] at hq; cases hq; exact .inr (Nat.le_refl _)
    · rw [if_neg ea] at ha; rw [Ren.put_ne _ _ ea] at hq; exact .inl ⟨A, o', r, ha, hown, hq, rfl⟩

/-- One block of one's own turned. -/
theorem HR.store {ρ : Ren} {h : AH} {w : World} (hr : HR ρ h w) {A : Nat} {o o' : AObj} {r : RE} {w' : World} (ha : h.get A = some o) (hown : o.own = true) (hq : ρ A = some r)
    (hsz : w'.heap.size = w.heap.size) (hb : ∀ b, b ≠ r.blk → w'.heap[b]? = w.heap[b]?) (ho : OR ρ r w' o') (sd : Side w w' := by exact ⟨rfl, rfl, rfl⟩) :
    HR ρ (h.set A o') w' ∧ Frm ρ h w ρ (h.set A o') w' := by
  refine ⟨⟨fun B p hp => ?_, fun B C ob oc rb rc h1 h2 h3 h4 hne how => ?_, fun B q h1 => hr.dom B q h1⟩, ⟨Ren.le_refl _, Nat.le_of_eq hsz.symm, fun b hb' hn => ?_, fun b hb' => ?_, sd⟩⟩
  · rw [AH.set_get] at hp
    split at hp
    · rename_i e; cases hp; subst e; exact ⟨r, hq, ho⟩
    · rename_i e
      obtain ⟨q, eq, hor⟩ := hr.obj B p hp
      exact ⟨q, eq, hor.move (Ren.le_refl _) (hb _ (hr.inj B A p o q r hp ha eq hq e (.inr hown)))⟩
  · rw [AH.set_get] at h1 h2
    have key : ∀ X ox, (if X = A then some o' else h.get X) = some ox → ∃ px, h.get X = some px ∧ (ox.own = true → px.own = true) := by
      intro X ox hx
      split at hx
      · rename_i e; subst e; exact ⟨o, ha, fun _ => hown⟩
      · exact ⟨ox, hx, id⟩
    obtain ⟨pb, hpb, hib⟩ := key B ob h1
    obtain ⟨pc, hpc, hic⟩ := key C oc h2
    exact hr.inj B C pb pc rb rc hpb hpc h3 h4 hne (how.imp hib hic)
  · exact hb b (fun e => hn ⟨A, o, r, ha, hown, hq, e.symm⟩)
  · obtain ⟨B, p, q, hp, hown'', hqq, rfl⟩ := hb'
    rw [AH.set_get] at hp
    split at hp
    · rename_i e; subst e; exact .inl ⟨B, o, q, ha, hown, hqq, rfl⟩
    · exact .inl ⟨B, p, q, hp, hown'', hqq, rfl⟩

/-- A block of one's own is moved: given up under its old name, held under a new one (in the same block of the world, or a new one). -/
theorem HR.moved {ρ : Ren} {h : AH} {w : World} (hr : HR ρ h w) {A : Nat} {o o' : AObj} {r r' : RE} {w' : World} (ha : h.get A = some o) (hown : o.own = true) (hq : ρ A = some r)
    (hr' : r'.blk = r.blk) (hsz : w'.heap.size = w.heap.size) (hb : ∀ b, b ≠ r.blk → w'.heap[b]? = w.heap[b]?)
    (ho : ∀ ρ', ρ.le ρ' → OR ρ' r' w' o') (sd : Side w w' := by exact ⟨rfl, rfl, rfl⟩) :
    HR (ρ.put h.next r') ((h.del A).new o') w' ∧ Frm ρ h w (ρ.put h.next r') ((h.del A).new o') w' := by
  have hle : ρ.le (ρ.put h.next r') := Ren.le_put hr.fresh
  have hA : A < h.next := hr.dom A r hq
  have old : ∀ X ox, ((h.del A).new o').get X = some ox → X ≠ h.next → X ≠ A ∧ h.get X = some ox := by
    intro X ox hx hne
    rw [AH.new_get, AH.del_next, if_neg hne, AH.del_get] at hx
    split at hx
    · cases hx
    · rename_i e; exact ⟨e, hx⟩
  refine ⟨⟨fun B p hp => ?_, fun B C ob oc rb rc h1 h2 h3 h4 hne how => ?_, fun B q h1 => ?_⟩, ⟨hle, Nat.le_of_eq hsz.symm, fun b hb' hn => ?_, fun b hb' => ?_, sd⟩⟩
  · by_cases e : B = h.next
    · subst e
      rw [AH.new_get, AH.del_next, if_pos rfl] at hp; cases hp
      exact ⟨r', Ren.put_same _ _ _, ho _ hle⟩
    · obtain ⟨hne, hp'⟩ := old B p hp e
      obtain ⟨q, eq, hor⟩ := hr.obj B p hp'
      exact ⟨q, hle _ _ eq, hor.move hle (hb _ (hr.inj B A p o q r hp' ha eq hq hne (.inr hown)))⟩
  · by_cases eb : B = h.next
    · have ec : C ≠ h.next := fun x => hne (eb.trans x.symm)
      obtain ⟨hcA, hc⟩ := old C oc h2 ec
      rw [Ren.put_ne _ _ ec] at h4
      subst eb; rw [Ren.put_same] at h3; cases h3
      rw [hr']
      exact hr.inj A C o oc r rc ha hc hq h4 (fun x => hcA x.symm) (.inl hown)
    · obtain ⟨hbA, hbb⟩ := old B ob h1 eb
      rw [Ren.put_ne _ _ eb] at h3
      by_cases ec : C = h.next
      · subst ec; rw [Ren.put_same] at h4; cases h4
        rw [hr']
        exact hr.inj B A ob o rb r hbb ha h3 hq hbA (.inr hown)
      · obtain ⟨hcA, hc⟩ := old C oc h2 ec
        rw [Ren.put_ne _ _ ec] at h4
        exact hr.inj B C ob oc rb rc hbb hc h3 h4 hne how
  · by_cases e : B = h.next
    · subst e; simp
    · rw [Ren.put_ne _ _ e] at h1; have := hr.dom B q h1; simp; omega
  · exact hb b (fun e => hn ⟨A, o, r, ha, hown, hq, e.symm⟩)
  · obtain ⟨B, p, q, hp, hown'', hqq, rfl⟩ := hb'
    by_cases e : B = h.next
    · subst e; rw [Ren.put_same] at hqq; cases hqq; rw [hr']; exact .inl ⟨A, o, r, ha, hown, hq, rfl⟩
    · obtain ⟨hne, hp'⟩ := old B p hp e
      rw [Ren.put_ne _ _ e] at hqq
      exact .inl ⟨B, p, q, hp', hown'', hqq, rfl⟩

/-- A block is forgotten. -/
theorem HR.forget {ρ : Ren} {h : AH} {w : World} (hr : HR ρ h w) (A : Nat) : HR ρ (h.del A) w ∧ Frm ρ h w ρ (h.del A) w := by
  have old : ∀ X ox, (h.del A).get X = some ox → h.get X = some ox := by
    intro X ox hx
    rw [AH.del_get] at hx
    split at hx
    · cases hx
    · exact hx
  refine ⟨⟨fun B p hp => hr.obj B p (old B p hp), fun B C ob oc rb rc h1 h2 h3 h4 hne how => hr.inj B C ob oc rb rc (old _ _ h1) (old _ _ h2) h3 h4 hne how, fun B q h1 => hr.dom B q h1⟩,
    ⟨Ren.le_refl _, Nat.le_refl _, fun _ _ _ => rfl, fun b hb => ?_, Side.refl _⟩⟩
  obtain ⟨B, p, q, hp, a, b', c⟩ := hb
  exact .inl ⟨B, p, q, old B p hp, a, b', c⟩

end Go.Ab

namespace Go.Ab

/-- An operation of the model comes to a related value and heap. -/
def Snd (P : Program) (ρ : Ren) (h : AH) (w : World) (s : Sem Value) (v : Value) (h' : AH) : Prop :=
  ∃ ρ' v' w', s.run P w = .ok v' w' ∧ VR ρ' v v' ∧ HR ρ' h' w' ∧ Frm ρ h w ρ' h' w'
def SndU (P : Program) (ρ : Ren) (h : AH) (w : World) (s : Sem Unit) (h' : AH) : Prop :=
  ∃ ρ' w', s.run P w = .ok () w' ∧ HR ρ' h' w' ∧ Frm ρ h w ρ' h' w'

theorem Snd.pure {P : Program} {ρ : Ren} {h : AH} {w : World} {s : Sem Value} {v v' : Value} (hr : HR ρ h w) (hs : s.run P w = .ok v' w) (hv : VR ρ v v') : Snd P ρ h w s v h :=
  ⟨ρ, v', w, hs, hv, hr, Frm.refl _ _ _⟩

/-! ### The tables -/
section tables
variable {P : Program} (w : World)
theorem r_under {t : TypeId} {d : TypeDesc} (h : P.underlying t = some d) : (underlying t).run P w = .ok d w := run_underlying h w
theorem r_info {t : TypeId} {i : TypeInfo} (h : P.info? t = some i) : (typeInfo t).run P w = .ok i w := by
  simp [typeInfo, h]
theorem r_size {t : TypeId} {i : TypeInfo} (h : P.info? t = some i) : (sizeOf t).run P w = .ok i.size w := by
  simp [sizeOf, r_info w h]
theorem r_zero {t : TypeId} {i : TypeInfo} {z : Value} (h : P.info? t = some i) (hz : i.zero = some z) : (zeroValue t).run P w = .ok z w := by
  simp [zeroValue, r_info w h, hz]
end tables

def aggT : TypeDesc → Bool
  | .struct _ | .array _ _ => true
  | _ => false

theorem r_isAgg {P : Program} (w : World) {t : TypeId} {d : TypeDesc} (h : P.underlying t = some d) : (isAgg t).run P w = .ok (aggT d) w := by
  unfold isAgg
  simp only [Sem.run_bind, r_under w h, Result.andThen_ok]
  cases d <;> rfl

/-! ### Cells -/

def AObj.cells? : AObj → Option (List Value)
  | .row c _ _ => some c
  | .grow c _ => some c
  | _ => none

theorem OR.rowAt {ρ : Ren} {r : RE} {w : World} {o : AObj} {c : List Value} (h : OR ρ r w o) (hc : o.cells? = some c) :
    ∃ e wr cc fr, RowAt ρ r w c e wr cc fr := by
  cases o with
  | row c' e wr => simp only [AObj.cells?, Option.some.injEq] at hc; subst hc; obtain ⟨cc, fr, h⟩ := h; exact ⟨_, _, _, _, h⟩
  | grow c' e => simp only [AObj.cells?, Option.some.injEq] at hc; subst hc; obtain ⟨cc, fr, h, _⟩ := h; exact ⟨_, _, _, _, h⟩
  | _ => simp [AObj.cells?] at hc

theorem RowAt.cell? {ρ : Ren} {r : RE} {w : World} {c : List Value} {e : TypeId} {wr : Bool} {cc : Array Value} {fr : Nat × Nat} (h : RowAt ρ r w c e wr cc fr) {i : Nat} {v : Value}
    (hv : c[i]? = some v) : ∃ v', w.cell? ⟨r.blk, r.base + i, none⟩ = some v' ∧ VR ρ v v' := by
  obtain ⟨v', a, b⟩ := h.cell i v hv
  exact ⟨v', by simp [World.cell?, h.heap, a], b⟩

/-- The concrete cells behind n abstract ones. -/
theorem RowAt.many {ρ : Ren} {r : RE} {w : World} {c : List Value} {e : TypeId} {wr : Bool} {cc : Array Value} {fr : Nat × Nat} (h : RowAt ρ r w c e wr cc fr) (off n : Nat) (hn : off + n ≤ c.length) :
    ∃ cs : List Value, cs.length = n ∧ LR ρ ((c.drop off).take n) cs ∧ (∀ (P : Program) (w' : World), w'.heap[r.blk]? = w.heap[r.blk]? → (loadCells ⟨r.blk, r.base + off, none⟩ n).run P w' = .ok cs.toArray w') ∧
      (∀ j v, cs[j]? = some v → cc[r.base + off + j]? = some v) := by
  have hf := h.fits
  refine ⟨(cc.toList.drop (r.base + off)).take n, ?_, ⟨?_, ?_⟩, ?_, ?_⟩
  · simp; omega
  · simp; omega
  · intro i v v' a b
    rw [List.getElem?_take] at a b
    split at a
    · rename_i hi
      rw [if_pos hi] at b
      rw [List.getElem?_drop] at a b
      obtain ⟨u, hu, hvr⟩ := h.cell _ _ a
      rw [Array.getElem?_toList, show r.base + off + i = r.base + (off + i) by omega, hu] at b
      cases b; exact hvr
    · cases a
  · intro P w' hw'
    have hh := hw'.trans h.heap
    have hl : ((cc.toList.drop (r.base + off)).take n).length = n := by simp; omega
    have := run_loadCells_list (P := P) w' ⟨r.blk, r.base + off, none⟩ ((cc.toList.drop (r.base + off)).take n) ?_
    · rw [hl] at this; exact this
    · intro j v hj
      rw [List.getElem?_take] at hj
      split at hj
      · rw [List.getElem?_drop, Array.getElem?_toList] at hj
        unfold Addr.add
        split
        · rename_i h0; subst h0; simpa [World.cell?, hh] using hj
        · simpa [World.cell?, hh] using hj
      · cases hj
  · intro j v hj
    rw [List.getElem?_take] at hj
    split at hj
    · rw [List.getElem?_drop, Array.getElem?_toList] at hj; exact hj
    · cases hj

def aLoad (P : Program) (t : TypeId) (p : Value) (h : AH) : Option Value :=
  match p with
  | .pointer (some ⟨A, off, none⟩) =>
    match (h.get A).bind AObj.cells? with
    | none => none
    | some c =>
      match P.underlying t with
      | none => none
      | some d =>
        if aggT d then
          match P.info? t with
          | none => none
          | some i => if off + i.size ≤ c.length then some (.agg ((c.drop off).take i.size).toArray) else none
        else c[off]?
  | _ => none

theorem aLoad_rd {P : Program} {ρ : Ren} {h : AH} {w : World} {t : TypeId} {p p' v : Value} (hr : HR ρ h w) (hp : VR ρ p p') (hv : aLoad P t p h = some v) :
    ∃ v', (Instr.loadAt t p').run P w = .ok v' w ∧ VR ρ v v' := by
  unfold aLoad at hv
  split at hv
  case h_2 => cases hv
  case h_1 A off =>
    cases hp with
    | ptr hq =>
      rename_i r
      cases hc : (h.get A).bind AObj.cells? with
      | none => simp [hc] at hv
      | some c =>
        simp only [hc] at hv
        cases hd : P.underlying t with
        | none => simp [hd] at hv
        | some d =>
          simp only [hd] at hv
          obtain ⟨o, ho, hoc⟩ := Option.bind_eq_some_iff.1 hc
          obtain ⟨q, eq, hor⟩ := hr.obj A o ho
          rw [hq] at eq; cases eq
          obtain ⟨e, wr, cc, fr, hrow⟩ := hor.rowAt hoc
          by_cases hagg : aggT d = true
          · simp only [hagg, if_true] at hv
            cases hi : P.info? t with
            | none => simp [hi] at hv
            | some i =>
              simp only [hi] at hv
              split at hv
              · rename_i hle
                cases hv
                obtain ⟨cs, hl, hlr, hload, _⟩ := hrow.many off i.size hle
                refine ⟨.agg cs.toArray, ?_, hlr.toAgg⟩
                simp only [Instr.loadAt, Instr.sureAddr, loadVar, Sem.run_bind, Sem.run_pure, Result.andThen_ok, r_isAgg w hd, hagg, if_true, r_size w hi, hload P w rfl]
              · cases hv
          · simp only [hagg, if_false, Bool.false_eq_true] at hv
            obtain ⟨v', hv', hvr⟩ := hrow.cell? hv
            refine ⟨v', ?_, hvr⟩
            simp only [Instr.loadAt, Instr.sureAddr, loadVar, Sem.run_bind, Sem.run_pure, Result.andThen_ok, r_isAgg w hd, hagg, if_false, Bool.false_eq_true, run_load, hv']

theorem aLoad_snd {P : Program} {ρ : Ren} {h : AH} {w : World} {t : TypeId} {p p' v : Value} (hr : HR ρ h w) (hp : VR ρ p p') (hv : aLoad P t p h = some v) :
    Snd P ρ h w (Instr.loadAt t p') v h := let ⟨_, a, b⟩ := aLoad_rd hr hp hv; Snd.pure hr a b

/-- Cells laid from a place on. -/
def setL (c : List Value) (off : Nat) : List Value → List Value
  | [] => c
  | x :: xs => setL (c.set off x) (off + 1) xs

theorem oneC_oneCell' (v : Value) : v.oneCell' = oneC v := by cases v <;> rfl

/-- One store. -/
theorem RowAt.store1 {ρ : Ren} {r : RE} {w : World} {c : List Value} {e : TypeId} {cc : Array Value} {fr : Nat × Nat} (h : RowAt ρ r w c e true cc fr) {i : Nat} {x x' : Value}
    (hx : VR ρ x x') (ho : oneC x = true) (hi : i < c.length) (P : Program) :
    ∃ w', (Go.store ⟨r.blk, r.base + i, none⟩ x').run P w = .ok () w' ∧ RowAt ρ r w' (c.set i x) e true (cc.setIfInBounds (r.base + i) x') fr ∧ w'.heap.size = w.heap.size ∧
      (∀ b, b ≠ r.blk → w'.heap[b]? = w.heap[b]?) ∧ Side w w' := by
  have hf := h.fits
  obtain ⟨v0, hv0, _⟩ := h.cell? (i := i) (v := c[i]) (List.getElem?_eq_getElem hi)
  have hfree := h.free rfl (r.base + i) (by omega)
  refine ⟨w.setCell ⟨r.blk, r.base + i, none⟩ x', ?_, ⟨?_, ?_, ?_, ?_, ?_⟩, by simp, ?_, ⟨rfl, rfl, rfl⟩⟩
  · rw [run_store P w _ x' _ (by rw [oneC_oneCell', hx.one]; exact ho), hv0]
    simp only []
    rw [if_neg]
    simp only [World.frozen?, h.heap]
    simpa using hfree
  · simp [World.setCell, Array.getElem?_modify, h.heap]
  · simpa using hf
  · intro j v hj
    rw [List.getElem?_set] at hj
    by_cases e : i = j
    · subst e
      rw [if_pos rfl, if_pos hi] at hj; cases hj
      exact ⟨x', by rw [Array.getElem?_setIfInBounds_self_of_lt (by omega)], hx⟩
    · rw [if_neg e] at hj
      obtain ⟨v', a, b⟩ := h.cell j v hj
      exact ⟨v', by rw [Array.getElem?_setIfInBounds_ne (by omega)]; exact a, b⟩
  · intro _ j hj; exact h.free rfl j (by simpa using hj)
  · intro v hv
    rcases List.mem_or_eq_of_mem_set hv with hv | rfl
    · exact h.one v hv
    · exact ho
  · intro b hb
    simp only [World.setCell, Array.getElem?_modify]
    rw [if_neg (fun x => hb x.symm)]

theorem add_add (b o i : Nat) : (Addr.add ⟨b, o, none⟩ i) = ⟨b, o + i, none⟩ := by
  unfold Addr.add; split <;> simp_all

theorem AllR.set {ρ : Ren} {cc : Array Value} (h : AllR ρ cc) (i : Nat) {x x' : Value} (hx : VR ρ x x') (ho : oneC x = true) : AllR ρ (cc.setIfInBounds i x') := by
  intro j v' hj
  rw [Array.getElem?_setIfInBounds] at hj
  split at hj
  · split at hj
    · cases hj; exact ⟨by rw [hx.one]; exact ho, x, hx⟩
    · cases hj
  · exact h j v' hj

theorem RowAt.stores {ρ : Ren} {r : RE} {e : TypeId} {fr : Nat × Nat} (P : Program) (b : Nat) : ∀ (xs xs' : List Value) (w : World) (c : List Value) (cc : Array Value) (i off : Nat),
    RowAt ρ r w c e true cc fr → LR ρ xs xs' → (∀ x ∈ xs, oneC x = true) → b + i = r.base + off → off + xs.length ≤ c.length →
    ∃ w' cc', (storeCells ⟨r.blk, b, none⟩ xs' i).run P w = .ok () w' ∧ RowAt ρ r w' (setL c off xs) e true cc' fr ∧ cc'.size = cc.size ∧ w'.heap.size = w.heap.size ∧
      (∀ b, b ≠ r.blk → w'.heap[b]? = w.heap[b]?) ∧ Side w w' ∧ (AllR ρ cc → AllR ρ cc') := by
  intro xs
  induction xs with
  | nil =>
    intro xs' w c cc i off h hl _ _ _
    have : xs' = [] := List.eq_nil_of_length_eq_zero hl.1.symm
    subst this
    exact ⟨w, cc, by simp [storeCells], by simpa [setL] using h, rfl, rfl, fun _ _ => rfl, Side.refl _, id⟩
  | cons x xs ih =>
    intro xs' w c cc i off h hl ho hbi hlen
    cases xs' with
    | nil => have := hl.1; simp at this
    | cons x' xs' =>
      simp only [List.length_cons] at hlen
      have hx : VR ρ x x' := hl.2 0 x x' rfl rfl
      have ht : LR ρ xs xs' := ⟨by simpa using hl.1, fun j v v' a b => hl.2 (j + 1) v v' (by simpa using a) (by simpa using b)⟩
      obtain ⟨w1, hw1, hrow1, hs1, hb1, sd1⟩ := h.store1 hx (ho x (by simp)) (by omega : off < c.length) P
      obtain ⟨w2, cc2, hw2, hrow2, hcs2, hs2, hb2, sd2, hal⟩ := ih xs' w1 (c.set off x) _ (i + 1) (off + 1) hrow1 ht (fun y hy => ho y (by simp [hy])) (by omega) (by simp; omega)
      refine ⟨w2, cc2, ?_, hrow2, by rw [hcs2]; simp, hs2.trans hs1, fun b' hb' => (hb2 b' hb').trans (hb1 b' hb'), sd1.trans sd2, fun ha => hal (ha.set _ hx (ho x (by simp)))⟩
      have hadd : (Addr.add ⟨r.blk, b, none⟩ i) = ⟨r.blk, r.base + off, none⟩ := by rw [add_add, hbi]
      simp only [storeCells, Sem.run_bind, hadd, hw1, Result.andThen_ok]
      exact hw2

def AObj.setCells (o : AObj) (off : Nat) (xs : List Value) : Option AObj :=
  match o with
  | .row c e true => if off + xs.length ≤ c.length then some (.row (setL c off xs) e true) else none
  | .grow c e => if off + xs.length ≤ c.length then some (.grow (setL c off xs) e) else none
  | _ => none

/-- A run of stores into an abstract block. -/
theorem HR.stores {ρ : Ren} {h : AH} {w : World} (hr : HR ρ h w) {A off : Nat} {o o' : AObj} {r : RE} {xs xs' : List Value} (P : Program) (ha : h.get A = some o) (hq : ρ A = some r)
    (hl : LR ρ xs xs') (ho : ∀ x ∈ xs, oneC x = true) (hs : o.setCells off xs = some o') :
    ∃ w', (storeCells ⟨r.blk, r.base + off, none⟩ xs').run P w = .ok () w' ∧ HR ρ (h.set A o') w' ∧ Frm ρ h w ρ (h.set A o') w' := by
  obtain ⟨q, eq, hor⟩ := hr.obj A o ha
  rw [hq] at eq; cases eq
  unfold AObj.setCells at hs
  split at hs
  · rename_i c e
    split at hs
    · rename_i hle
      cases hs
      obtain ⟨cc, fr, hrow⟩ := hor
      obtain ⟨w', cc', hrun, hrow', _, hsz, hb, sd, _⟩ := RowAt.stores P (r.base + off) xs xs' w c cc 0 off hrow hl ho (by omega) hle
      exact ⟨w', hrun, hr.store ha rfl hq hsz hb ⟨cc', fr, hrow'⟩ sd⟩
    · cases hs
  · rename_i c e
    split at hs
    · rename_i hle
      cases hs
      obtain ⟨cc, fr, hrow, hlim, hall⟩ := hor
      obtain ⟨w', cc', hrun, hrow', hcs, hsz, hb, sd, hal⟩ := RowAt.stores P (r.base + off) xs xs' w c cc 0 off hrow hl ho (by omega) hle
      exact ⟨w', hrun, hr.store ha rfl hq hsz hb ⟨cc', fr, hrow', hcs.trans hlim, hal hall⟩ sd⟩
    · cases hs
  · cases hs

def aStore (P : Program) (t : TypeId) (p x : Value) (h : AH) : Option AH :=
  match p with
  | .pointer (some ⟨A, off, none⟩) =>
    match P.info? t with
    | none => none
    | some i =>
      if x.cells.size = i.size ∧ x.cells.toList.all oneC = true then
        match h.get A with
        | none => none
        | some o => (o.setCells off x.cells.toList).map (h.set A)
      else none
  | _ => none

theorem aStore_snd {P : Program} {ρ : Ren} {h h' : AH} {w : World} {t : TypeId} {p p' x x' : Value} (hr : HR ρ h w) (hp : VR ρ p p') (hx : VR ρ x x') (hv : aStore P t p x h = some h') :
    SndU P ρ h w (Instr.storeAt t p' x') h' := by
  unfold aStore at hv
  split at hv
  case h_2 => cases hv
  case h_1 A off =>
    cases hp with
    | ptr hq =>
      rename_i r
      cases hi : P.info? t with
      | none => simp [hi] at hv
      | some i =>
        simp only [hi] at hv
        split at hv
        · rename_i hc
          obtain ⟨hsz, hone⟩ := hc
          cases ho : h.get A with
          | none => simp [ho] at hv
          | some o =>
            simp only [ho, Option.map_eq_some_iff] at hv
            obtain ⟨o', hs, rfl⟩ := hv
            have hl := hx.cells
            obtain ⟨w', hrun, hr', hf⟩ := hr.stores P ho hq hl (List.all_eq_true.1 hone) hs
            refine ⟨ρ, w', ?_, hr', hf⟩
            have hsz' : x'.cells.size = i.size := by have := hl.1; simp at this; omega
            simp only [Instr.storeAt, Instr.sureAddr, storeVar, Sem.run_bind, Sem.run_pure, Result.andThen_ok, r_size w hi, hsz', ne_eq, not_true_eq_false, if_false]
            exact hrun
        · cases hv

/-! ### New rows -/

theorem rowAt_new {ρ : Ren} {w w' : World} {c c' : List Value} {e : TypeId} (hw : w'.heap = w.heap.push (.cells c'.toArray e)) (hl : LR ρ c c') (ho : ∀ v ∈ c, oneC v = true) (lim : Nat) :
    RowAt ρ ⟨w.heap.size, 0, lim⟩ w' c e true c'.toArray (0, 0) := by
  refine ⟨by simp [hw], by simp [hl.1], fun i v hi => ?_, fun _ i _ h => by omega, ho⟩
  obtain ⟨v', a, b⟩ := hl.get hi
  exact ⟨v', by simpa using a, b⟩

/-- A new row of known cells. -/
theorem HR.newRow {ρ : Ren} {h : AH} {w : World} (hr : HR ρ h w) (P : Program) {c c' : List Value} {e : TypeId} (hl : LR ρ c c') (ho : ∀ v ∈ c, oneC v = true) :
    ∃ ρ' w', (Go.newRow e c'.toArray).run P w = .ok ⟨w.heap.size, 0, none⟩ w' ∧ ρ' h.next = some ⟨w.heap.size, 0, 0⟩ ∧ HR ρ' (h.new (.row c e true)) w' ∧ Frm ρ h w ρ' (h.new (.row c e true)) w' := by
  obtain ⟨a, b⟩ := hr.alloc (x := .cells c'.toArray e) (o := .row c e true) (w' := { w with heap := w.heap.push (.cells c'.toArray e) }) (base := 0) (lim := 0) rfl
    (fun ρ' hle _ => ⟨_, _, rowAt_new rfl (hl.mono hle) ho 0⟩)
  exact ⟨_, _, rfl, Ren.put_same _ _ _, a, b⟩

def aAlloc (P : Program) (t : TypeId) (h : AH) : Option (Value × AH) :=
  match P.info? t with
  | none => none
  | some i =>
    match i.zero with
    | none => none
    | some z => if z.cells.toList.all oneC = true ∧ plain 9 z = true then some (.pointer (some ⟨h.next, 0, none⟩), h.new (.row z.cells.toList t true)) else none

theorem aAlloc_snd {P : Program} {ρ : Ren} {h h' : AH} {w : World} {t : TypeId} {v : Value} (hr : HR ρ h w) (hv : aAlloc P t h = some (v, h')) :
    Snd P ρ h w (Instr.alloc t true (.tuple #[])) v h' := by
  unfold aAlloc at hv
  cases hi : P.info? t with
  | none => simp [hi] at hv
  | some i =>
    simp only [hi] at hv
    cases hz : i.zero with
    | none => simp [hz] at hv
    | some z =>
      simp only [hz] at hv
      split at hv
      · rename_i hc
        cases hv
        obtain ⟨ρ', w', hrun, hq, hr', hf⟩ := hr.newRow P (e := t) (plain_VR ρ _ z hc.2).cells (List.all_eq_true.1 hc.1)
        refine ⟨ρ', .pointer (some ⟨w.heap.size, 0, none⟩), w', ?_, ?_, hr', hf⟩
        · simp only [Instr.alloc, Sem.run_bind, r_zero w hi hz, Result.andThen_ok, newVar]
          rw [show (z.cells) = (z.cells.toList.toArray) by simp, hrun]; rfl
        · have := VR.ptr (ρ := ρ') (off := 0) hq; simpa using this
      · cases hv

def aBox (t : TypeId) (x : Value) (h : AH) : Option (Value × AH) :=
  if x.cells.toList.all oneC = true then some (.pointer (some ⟨h.next, 0, none⟩), h.new (.row x.cells.toList t true)) else none

theorem aBox_snd {P : Program} {ρ : Ren} {h h' : AH} {w : World} {t : TypeId} {x x' v : Value} (hr : HR ρ h w) (hx : VR ρ x x') (hv : aBox t x h = some (v, h')) :
    Snd P ρ h w (Instr.box t x') v h' := by
  unfold aBox at hv
  split at hv
  · rename_i hc
    cases hv
    obtain ⟨ρ', w', hrun, hq, hr', hf⟩ := hr.newRow P (e := t) hx.cells (List.all_eq_true.1 hc)
    refine ⟨ρ', .pointer (some ⟨w.heap.size, 0, none⟩), w', ?_, ?_, hr', hf⟩
    · simp only [Instr.box, Sem.run_bind, newVar]
      rw [show (x'.cells) = (x'.cells.toList.toArray) by simp, hrun]; rfl
    · have := VR.ptr (ρ := ρ') (off := 0) hq; simpa using this
  · cases hv

end Go.Ab

namespace Go.Ab

/-! ### Comparison -/

def aPart (P : Program) (t : TypeId) (cs : Array Value) (off : Nat) : Option Value :=
  match P.underlying t with
  | none => none
  | some d =>
    if aggT d then
      match P.info? t with
      | none => none
      | some i => some (.agg (cs.extract off (off + i.size)))
    else cs[off]?

theorem aPart_run {P : Program} {t : TypeId} {cs : Array Value} {off : Nat} {v : Value} (h : aPart P t cs off = some v) (w : World) : (part t cs off).run P w = .ok v w := by
  unfold aPart at h
  cases hd : P.underlying t with
  | none => simp [hd] at h
  | some d =>
    simp only [hd] at h
    simp only [part, Sem.run_bind, r_isAgg w hd, Result.andThen_ok]
    split at h
    · rename_i ha
      cases hi : P.info? t with
      | none => simp [hi] at h
      | some i => simp only [hi] at h; cases h; simp [ha, r_size w hi]
    · rename_i ha
      simp [ha, h]

theorem aPart_VR {P : Program} {ρ : Ren} {t : TypeId} {cs cs' : Array Value} {off : Nat} {v : Value} (hl : LR ρ cs.toList cs'.toList) (h : aPart P t cs off = some v) :
    ∃ v', aPart P t cs' off = some v' ∧ VR ρ v v' := by
  unfold aPart at h ⊢
  cases hd : P.underlying t with
  | none => simp [hd] at h
  | some d =>
    simp only [hd] at h ⊢
    split at h
    · rename_i ha
      rw [if_pos ha]
      cases hi : P.info? t with
      | none => simp [hi] at h
      | some i =>
        simp only [hi] at h ⊢; cases h
        refine ⟨_, rfl, ?_⟩
        have := ((hl.drop off).take i.size).toAgg
        have e : ∀ x : Array Value, ((x.toList.drop off).take i.size).toArray = x.extract off (off + i.size) := by
          intro x; apply Array.ext'; simp [Array.toList_extract, List.extract]
        rw [e, e] at this; exact this
    · rename_i ha
      rw [if_neg ha]
      obtain ⟨v', a, b⟩ := hl.get (i := off) (v := v) (by simpa using h)
      exact ⟨v', by simpa using a, b⟩

def eqAll (f : Field → Option Bool) : List Field → Option Bool
  | [] => some true
  | x :: xs => if x.name ≠ "_" then (match f x with | some true => eqAll f xs | some false => some false | none => none) else eqAll f xs

/-- '==' on values without addresses. -/
def aEq (P : Program) : Nat → TypeId → Value → Value → Option Bool
  | 0, _, _, _ => none
  | d + 1, t, x, y =>
    match P.underlying t, x, y with
    | some .bool, .bool a, .bool b => some (a == b)
    | some (.int _), .int k a, .int k' b => if k = k' then some (a == b) else none
    | some .string, .string a, .string b => some (a.toList == b.toList)
    | some (.struct fs), .agg xs, .agg ys =>
      if P.stoodInHeld t then none else
      eqAll (fun f => match aPart P f.type xs f.offset, aPart P f.type ys f.offset with
        | some a, some b => aEq P d f.type a b
        | _, _ => none) fs.toList
    | some (.pointer _), .pointer none, .pointer b => some b.isNone
    | some (.pointer _), .pointer (some _), .pointer none => some false
    | some (.slice _), .slice none _ _, .slice b _ _ => some b.isNone
    | some (.slice _), .slice (some _) _ _, .slice none _ _ => some false
    | some (.map _ _), .map none, .map b => some b.isNone
    | some (.map _ _), .map (some _), .map none => some false
    | some (.func _ _ _), .nilFunc, .nilFunc => some true
    | some (.func _ _ _), .nilFunc, .func _ _ _ => some false
    | some (.func _ _ _), .func _ _ _, .nilFunc => some false
    | _, _, _ => none

theorem eqAll_run {P : Program} {d : Nat} {xs ys : Array Value} {f : Field → Option Bool} (w : World)
    (hf : ∀ x b, f x = some b → ∃ u v, (part x.type xs x.offset).run P w = .ok u w ∧ (part x.type ys x.offset).run P w = .ok v w ∧ (Op.equalIn d x.type u v).run P w = .ok b w) :
    ∀ (l : List Field) (b : Bool), eqAll f l = some b → (Op.eqFields d xs ys l).run P w = .ok b w := by
  intro l
  induction l with
  | nil => intro b h; simp [eqAll] at h; subst h; simp [Op.eqFields]
  | cons x l ih =>
    intro b h
    unfold eqAll at h
    unfold Op.eqFields
    split at h
    · rename_i hn
      rw [if_pos hn]
      cases hx : f x with
      | none => simp [hx] at h
      | some c =>
        obtain ⟨u, v, h1, h2, h3⟩ := hf x c hx
        simp only [Sem.run_bind, h1, h2, h3, Result.andThen_ok]
        cases c with
        | true => simp only [hx] at h; simpa using ih b h
        | false => simp only [hx] at h; cases h; simp
    · rename_i hn
      rw [if_neg hn]; exact ih b h

set_option maxHeartbeats 2000000 in
theorem aEq_run {P : Program} {ρ : Ren} : ∀ (n : Nat) (t : TypeId) (x y x' y' : Value) (b : Bool) (w : World) (m : Nat), aEq P n t x y = some b → n ≤ m → VR ρ x x' → VR ρ y y' →
    (Op.equalIn m t x' y').run P w = .ok b w := by
  intro n
  induction n with
  | zero => intro t x y x' y' b w m h; simp [aEq] at h
  | succ n ih =>
    intro t x y x' y' b w m h hm hx hy
    obtain ⟨m, rfl⟩ : ∃ k, m = k + 1 := ⟨m - 1, by omega⟩
    unfold aEq at h
    split at h
    · rename_i hd; cases hx; cases hy; cases h; exact run_equalIn_bool w m t _ _ hd
    · rename_i hd
      cases hx; cases hy
      split at h
      · rename_i e; subst e; cases h; exact run_equalIn_int w m t _ _ _ _ hd
      · cases h
    · rename_i hd; cases hx; cases hy; cases h; exact run_equalIn_string w m t _ _ hd
    · rename_i fs xs ys hd
      split at h
      · cases h
      · rename_i hp
        obtain ⟨xs', rfl, hlx⟩ := hx.ofAgg
        obtain ⟨ys', rfl, hly⟩ := hy.ofAgg
        have hfs : P.fieldsOf t = fs := by simp [Program.fieldsOf, hd]
        rw [run_equalIn_struct w m t xs' ys' (by rw [hfs]; exact hd) (by simpa using hp), hfs]
        refine eqAll_run w (fun f c hc => ?_) fs.toList b h
        cases ha : aPart P f.type xs f.offset with
        | none => simp [ha] at hc
        | some u =>
          cases hb : aPart P f.type ys f.offset with
          | none => simp [ha, hb] at hc
          | some v =>
            simp only [ha, hb] at hc
            obtain ⟨u', hu, hru⟩ := aPart_VR hlx ha
            obtain ⟨v', hv, hrv⟩ := aPart_VR hly hb
            exact ⟨u', v', aPart_run hu w, aPart_run hv w, ih f.type u v u' v' c w m hc (by omega) hru hrv⟩
    all_goals (rename_i hd; cases hx <;> cases hy <;> cases h <;> simp [Op.equalIn, r_under w hd] <;> done)
    all_goals cases h

def intBin (op : BinOp) (k : IntKind) (a b : Int) : Option Value :=
  match op with
  | .add => some (.int k (k.wrap (a + b)))
  | .sub => some (.int k (k.wrap (a - b)))
  | .mul => some (.int k (k.wrap (a * b)))
  | .quo => if b = 0 then none else some (.int k (k.wrap (a.tdiv b)))
  | .rem => if b = 0 then none else some (.int k (a.tmod b))
  | .and => some (.int k (k.wrap (BitVec.ofInt k.bits a &&& BitVec.ofInt k.bits b).toNat))
  | .or => some (.int k (k.wrap (BitVec.ofInt k.bits a ||| BitVec.ofInt k.bits b).toNat))
  | .xor => some (.int k (k.wrap (BitVec.ofInt k.bits a ^^^ BitVec.ofInt k.bits b).toNat))
  | .andNot => some (.int k (k.wrap (BitVec.ofInt k.bits a &&& ~~~BitVec.ofInt k.bits b).toNat))
  | .eql => some (.bool (a == b))
  | .neq => some (.bool (a != b))
  | .lss => some (.bool (decide (a < b)))
  | .leq => some (.bool (decide (a ≤ b)))
  | .gtr => some (.bool (decide (a > b)))
  | .geq => some (.bool (decide (a ≥ b)))
  | _ => none

def shBin (op : BinOp) (k : IntKind) (a b : Int) : Option Value :=
  if b < 0 then none else
  match op with
  | .shl => some (.int k (k.wrap (a * 2 ^ min b.toNat k.bits)))
  | .shr => some (.int k (a.fdiv (2 ^ min b.toNat k.bits)))
  | _ => none

def strBin (op : BinOp) (a b : ByteArray) : Option Value :=
  match op with
  | .add => if a.size + b.size ≤ 9223372036854775807 then some (.string (a ++ b)) else none
  | .eql => some (.bool (a.toList == b.toList))
  | .neq => some (.bool (!(a.toList == b.toList)))
  | .lss => some (.bool (Op.bytesLess a.toList b.toList))
  | .leq => some (.bool (Op.bytesLess a.toList b.toList || a.toList == b.toList))
  | .gtr => some (.bool (!(Op.bytesLess a.toList b.toList || a.toList == b.toList)))
  | .geq => some (.bool (!(Op.bytesLess a.toList b.toList)))
  | _ => none

def guardOn (P : Program) (t : TypeId) : Value → Value → Bool
  | .agg _, .agg _ => P.eqGuardType P.depth t
  | .nilIface, .nilIface => true
  | _, _ => false

def eqBin (P : Program) (op : BinOp) (t : TypeId) (a b : Value) : Option Value :=
  if guardOn P t a b = true then none else
  match op with
  | .eql => (aEq P 6 t a b).map .bool
  | .neq => (aEq P 6 t a b).map fun c => .bool (!c)
  | _ => none

def aBin (P : Program) (op : BinOp) (t : TypeId) (a b : Value) : Option Value :=
  match a, b with
  | .int k x, .int k' y =>
    match op with
    | .shl => shBin .shl k x y
    | .shr => shBin .shr k x y
    | op => if k = k' then intBin op k x y else none
  | .string x, .string y => strBin op x y
  | a, b => eqBin P op t a b

theorem eqGuard_skip {P : Program} {ρ : Ren} {op : BinOp} {t : TypeId} {x y : Operand} {a b a' b' : Value} (ha : VR ρ a a') (hb : VR ρ b b')
    (h : guardOn P t a b = false) (w : World) : (eqGuard op t x y a' b').run P w = .ok () w := by
  unfold eqGuard
  cases ha <;> cases hb <;> simp_all [guardOn]

theorem aBin_run {P : Program} {ρ : Ren} {op : BinOp} {t : TypeId} {x y : Operand} {a b a' b' v : Value} (ha : VR ρ a a') (hb : VR ρ b b') (h : aBin P op t a b = some v) (w : World) :
    ∃ v', (do eqGuard op t x y a' b'; binOp op t a' b').run P w = .ok v' w ∧ VR ρ v v' := by
  unfold aBin at h
  split at h
  · rename_i k n k' m
    have hg : ∀ w, (eqGuard op t x y a' b').run P w = .ok () w := fun w => eqGuard_skip ha hb rfl w
    simp only [Sem.run_bind, hg, Result.andThen_ok]
    cases ha; cases hb
    split at h
    · unfold shBin at h
      split at h
      · cases h
      · rename_i hb0
        cases h
        exact ⟨_, by simp [binOp, Op.shift, hb0], .int _ _⟩
    · unfold shBin at h
      split at h
      · cases h
      · rename_i hb0
        cases h
        exact ⟨_, by simp [binOp, Op.shift, hb0], .int _ _⟩
    · split at h
      · rename_i hk; subst hk
        unfold intBin at h
        cases op <;> simp only [Option.some.injEq, reduceCtorEq] at h
        case quo =>
          split at h
          · cases h
          · rename_i hb0; cases h; exact ⟨_, by simp [binOp, Op.intDiv, hb0], .int _ _⟩
        case rem =>
          split at h
          · cases h
          · rename_i hb0; cases h; exact ⟨_, by simp [binOp, Op.intDiv, hb0], .int _ _⟩
        all_goals (subst h; exact ⟨_, by simp only [binOp, ne_eq, not_true_eq_false, if_false, Op.intArith, Op.intBits, Op.intCmp]; rfl, by first | exact .int _ _ | exact .bool _⟩)
      · cases h
  · rename_i n m
    have hg : ∀ w, (eqGuard op t x y a' b').run P w = .ok () w := fun w => eqGuard_skip ha hb rfl w
    simp only [Sem.run_bind, hg, Result.andThen_ok]
    cases ha; cases hb
    unfold strBin at h
    cases op <;> simp only [Option.some.injEq, reduceCtorEq] at h
    case add =>
      split at h
      · rename_i hle; cases h
        refine ⟨_, ?_, .string _⟩
        have : ¬ ((n.size + m.size : Nat) : Int) > IntKind.i64.max := by
          have : IntKind.i64.max = 9223372036854775807 := by decide
          omega
        simp only [binOp, Op.stringOp]; rw [if_neg this]; rfl
      · cases h
    all_goals (subst h; exact ⟨_, by simp [binOp, Op.stringOp], .bool _⟩)
  · rename_i hni hns
    unfold eqBin at h
    split at h
    · cases h
    · rename_i hgu
      have hg : ∀ w, (eqGuard op t x y a' b').run P w = .ok () w := fun w => eqGuard_skip ha hb (by simpa using hgu) w
      simp only [Sem.run_bind, hg, Result.andThen_ok]
      have key : ∀ c, aEq P 6 t a b = some c → (Op.equal t a' b').run P w = .ok c w := fun c hc => aEq_run 6 t a b a' b' c w 10000 hc (by omega) ha hb
      have hb1 : binOp .eql t a' b' = (do pure (.bool (← Op.equal t a' b'))) := by
        cases ha <;> cases hb <;> first | rfl | exact (hni _ _ _ _ rfl rfl).elim | exact (hns _ _ rfl rfl).elim
      have hb2 : binOp .neq t a' b' = (do pure (.bool (!(← Op.equal t a' b')))) := by
        cases ha <;> cases hb <;> first | rfl | exact (hni _ _ _ _ rfl rfl).elim | exact (hns _ _ rfl rfl).elim
      split at h
      · simp only [Option.map_eq_some_iff] at h
        obtain ⟨c, hc, rfl⟩ := h
        exact ⟨.bool c, by rw [hb1]; simp [key c hc], .bool _⟩
      · simp only [Option.map_eq_some_iff] at h
        obtain ⟨c, hc, rfl⟩ := h
        exact ⟨.bool (!c), by rw [hb2]; simp [key c hc], .bool _⟩
      · cases h

end Go.Ab

namespace Go.Ab

/-- 's.run' comes to a related value and leaves the world. -/
def Rd (P : Program) (ρ : Ren) (w : World) (s : Sem Value) (v : Value) : Prop := ∃ v', s.run P w = .ok v' w ∧ VR ρ v v'

theorem Rd.snd {P : Program} {ρ : Ren} {h : AH} {w : World} {s : Sem Value} {v : Value} (hr : HR ρ h w) (a : Rd P ρ w s v) : Snd P ρ h w s v h :=
  let ⟨_, x, y⟩ := a; Snd.pure hr x y

def aNil (x : Value) : Option Value :=
  match x with
  | .pointer none | .nilIface | .nilFunc => none
  | .func (.func f) a b => some (.func (.func f) a b)
  | .func (.yield l) a b => some (.func (.yield l) a b)
  | .func _ _ _ => none
  | x => some x

def aUn (op : UnOp) (x : Value) : Option Value :=
  match op, x with
  | .not, .bool b => some (.bool (!b))
  | .neg, .int k n => some (.int k (k.wrap (0 - n)))
  | .xor, .int k n => some (.int k (k.wrap (BitVec.ofInt k.bits (if k.signed then -1 else k.max) ^^^ BitVec.ofInt k.bits n).toNat))
  | _, _ => none

theorem aUn_run {P : Program} {ρ : Ren} {op : UnOp} {x x' v : Value} (hx : VR ρ x x') (h : aUn op x = some v) (w : World) : Rd P ρ w (Op.unary op x') v := by
  unfold aUn at h
  split at h <;> (try cases h) <;> cases hx
  · exact ⟨_, rfl, .bool _⟩
  · exact ⟨_, rfl, .int _ _⟩
  · exact ⟨_, rfl, .int _ _⟩

def aConv (P : Program) (s d : TypeId) (x : Value) : Option Value :=
  match P.underlying s, P.underlying d, x with
  | some _, some (.int k), .int _ n => some (.int k (k.wrap n))
  | some .string, some .string, .string b => some (.string b)
  | _, _, _ => none

theorem aConv_run {P : Program} {ρ : Ren} {s d : TypeId} {x x' v : Value} (hx : VR ρ x x') (h : aConv P s d x = some v) (w : World) : Rd P ρ w (convert s d x') v := by
  unfold aConv at h
  split at h
  · rename_i ds k k' n hs hd
    cases hx; cases h
    refine ⟨.int k (k.wrap n), ?_, .int _ _⟩
    simp only [convert, Sem.run_bind, r_under w hs, r_under w hd, Result.andThen_ok, Conv.intToInt, Sem.run_pure]
  · rename_i b hs hd
    cases hx; cases h
    refine ⟨.string b, ?_, .string _⟩
    simp only [convert, Sem.run_bind, r_under w hs, r_under w hd, Result.andThen_ok, Sem.run_pure]
  · cases h

/-- The offset of a field, where the field has a cell. -/
def fOff (P : Program) (s : TypeId) (f : Nat) : Option Nat :=
  match P.underlying s with
  | some (.struct fs) =>
    match fs[f]? with
    | some fd => match P.info? fd.type with
      | some i => if i.size = 0 then none else some fd.offset
      | none => none
    | none => none
  | _ => none

def aFieldAddr (P : Program) (s : TypeId) (f : Nat) (p : Value) : Option Value :=
  match p with
  | .pointer (some ⟨A, off, none⟩) =>
    match fOff P s f with
    | some k => some (.pointer (some ⟨A, off + k, none⟩))
    | none => none
  | _ => none

theorem aFieldAddr_run {P : Program} {ρ : Ren} {s : TypeId} {f : Nat} {p p' v : Value} (hp : VR ρ p p') (h : aFieldAddr P s f p = some v) (w : World) : Rd P ρ w (Instr.fieldAt s p' f) v := by
  unfold aFieldAddr at h
  split at h
  case h_2 => cases h
  case h_1 A off =>
    cases hp with
    | ptr hq =>
      rename_i r
      cases hk : fOff P s f with
      | none => simp [hk] at h
      | some k =>
        simp only [hk] at h; cases h
        unfold fOff at hk
        split at hk
        case h_2 => cases hk
        case h_1 fs hs =>
          split at hk
          case h_2 => cases hk
          case h_1 fd hfd =>
            split at hk
            case h_2 => cases hk
            case h_1 i hi =>
              split at hk
              · cases hk
              · rename_i hz
                cases hk
                refine ⟨.pointer (some ⟨r.blk, r.base + (off + fd.offset), none⟩), ?_, .ptr hq⟩
                simp only [Instr.fieldAt, Sem.run_bind, r_under w hs, Result.andThen_ok, hfd, Instr.sureAddr, Sem.run_pure, fieldPlace, r_size w hi, hz, if_false, add_add, Nat.add_assoc]

def aField (P : Program) (s : TypeId) (x : Value) (f : Nat) : Option Value :=
  match P.underlying s with
  | some (.struct fs) =>
    match fs[f]?, x with
    | some fd, .agg cs => aPart P fd.type cs fd.offset
    | _, _ => none
  | _ => none

theorem aField_run {P : Program} {ρ : Ren} {s : TypeId} {f : Nat} {x x' v : Value} (hx : VR ρ x x') (h : aField P s x f = some v) (w : World) : Rd P ρ w (Instr.field s x' f) v := by
  unfold aField at h
  split at h
  case h_2 => cases h
  case h_1 fs hs =>
    split at h
    · rename_i fd cs hfd
      obtain ⟨cs', rfl, hl⟩ := hx.ofAgg
      obtain ⟨v', hv, hvr⟩ := aPart_VR hl h
      refine ⟨v', ?_, hvr⟩
      simp only [Instr.field, Sem.run_bind, r_under w hs, Result.andThen_ok, hfd, asAgg, Sem.run_pure, aPart_run hv w]
    · cases h

def aIndexAddr (P : Program) (t : TypeId) (x i : Value) : Option Value :=
  match i with
  | .int _ n =>
    match P.underlying t, x with
    | some (.array len e), .pointer (some ⟨A, off, none⟩) =>
      match P.info? e with
      | some ie => if 0 ≤ n ∧ n < (len : Int) then some (.pointer (some ⟨A, off + n.toNat * ie.size, none⟩)) else none
      | none => none
    | some (.slice e), .slice (some ⟨A, off, none⟩) len _ =>
      match P.info? e with
      | some ie => if 0 ≤ n ∧ n < (len : Int) then some (.pointer (some ⟨A, off + n.toNat * ie.size, none⟩)) else none
      | none => none
    | _, _ => none
  | _ => none

theorem aIndexAddr_run {P : Program} {ρ : Ren} {t : TypeId} {x i x' i' v : Value} (hx : VR ρ x x') (hi : VR ρ i i') (h : aIndexAddr P t x i = some v) (w : World) : Rd P ρ w (Instr.indexAt t x' i') v := by
  unfold aIndexAddr at h
  split at h
  case h_2 => cases h
  case h_1 k n =>
    cases hi
    split at h
    · rename_i len e A off ht
      cases hx with
      | ptr hq =>
        rename_i r
        cases he : P.info? e with
        | none => simp [he] at h
        | some ie =>
          simp only [he] at h
          split at h
          · rename_i hb; cases h
            refine ⟨.pointer (some ⟨r.blk, r.base + (off + n.toNat * ie.size), none⟩), ?_, .ptr hq⟩
            simp only [Instr.indexAt, asIntOf, Sem.run_bind, Sem.run_pure, Result.andThen_ok, r_under w ht, Instr.sureAddr, hb, and_self, if_true, r_size w he, add_add, Nat.add_assoc]
          · cases h
    · rename_i e A off len c ht
      cases he : P.info? e with
      | none => simp [he] at h
      | some ie =>
        simp only [he] at h
        split at h
        · rename_i hb; cases h
          cases hx with
          | slice hq hc =>
            rename_i r
            refine ⟨.pointer (some ⟨r.blk, r.base + (off + n.toNat * ie.size), none⟩), ?_, .ptr hq⟩
            simp only [Instr.indexAt, asIntOf, Sem.run_bind, Sem.run_pure, Result.andThen_ok, r_under w ht, hb, and_self, if_true, r_size w he, add_add, Nat.add_assoc]
          | slack hq hl hlim hc =>
            rename_i c' s r
            refine ⟨.pointer (some ⟨r.blk, r.base + (off + n.toNat * ie.size), none⟩), ?_, .ptr hq⟩
            simp only [Instr.indexAt, asIntOf, Sem.run_bind, Sem.run_pure, Result.andThen_ok, r_under w ht, hb, and_self, if_true, r_size w he, add_add, Nat.add_assoc]
          | slack0 hq => omega
          | slip => omega
        · cases h
    · cases h

def aIndex (P : Program) (t : TypeId) (x i : Value) : Option Value :=
  match i with
  | .int _ n =>
    match P.underlying t, x with
    | some (.array len e), .agg cs =>
      match P.info? e with
      | some ie => if 0 ≤ n ∧ n < (len : Int) then aPart P e cs (n.toNat * ie.size) else none
      | none => none
    | some .string, .string s => if 0 ≤ n then (match s[n.toNat]? with | some b => some (.int .u8 b.toNat) | none => none) else none
    | _, _ => none
  | _ => none

theorem aIndex_run {P : Program} {ρ : Ren} {t : TypeId} {x i x' i' v : Value} (hx : VR ρ x x') (hi : VR ρ i i') (h : aIndex P t x i = some v) (w : World) : Rd P ρ w (Instr.index t x' i') v := by
  unfold aIndex at h
  split at h
  case h_2 => cases h
  case h_1 k n =>
    cases hi
    split at h
    · rename_i len e cs ht
      obtain ⟨cs', rfl, hl⟩ := hx.ofAgg
      cases he : P.info? e with
      | none => simp [he] at h
      | some ie =>
        simp only [he] at h
        split at h
        · rename_i hb
          obtain ⟨v', hv, hvr⟩ := aPart_VR hl h
          refine ⟨v', ?_, hvr⟩
          simp only [Instr.index, asIntOf, Sem.run_bind, Sem.run_pure, Result.andThen_ok, r_under w ht, hb, and_self, if_true, r_size w he, aPart_run hv w]
        · cases h
    · rename_i s ht
      cases hx
      split at h
      · rename_i hn
        cases hs : s[n.toNat]? with
        | none => simp [hs] at h
        | some b =>
          simp only [hs] at h; cases h
          refine ⟨.int .u8 b.toNat, ?_, .int _ _⟩
          simp only [Instr.index, asIntOf, Sem.run_bind, Sem.run_pure, Result.andThen_ok, r_under w ht, hn, if_true, hs]
      · cases h
    · cases h

/-- The value of a bound. -/
def bnd (v : Option Value) (d : Nat) : Option Nat :=
  match v with
  | none => some d
  | some (.int _ n) => if 0 ≤ n then some n.toNat else none
  | _ => none

theorem bnd_run {P : Program} {ρ : Ren} {v : Value} {v' : Value} {d k y : Nat} {code : BoundsCode} (hv : VR ρ v v') (h : bnd (some v) d = some k) (hk : k ≤ y) (w : World) :
    (Instr.sliceBound v' y code).run P w = .ok k w := by
  unfold bnd at h
  split at h
  · rename_i e; cases e
  · rename_i q n e
    cases e
    cases hv
    split at h
    · cases h
      simp only [Instr.sliceBound, asIntOf, Sem.run_bind, Sem.run_pure, Result.andThen_ok]
      rw [if_pos ⟨by assumption, by omega⟩]; rfl
    · cases h
  · cases h

/-- Optional operands, one by one. -/
def OV (ρ : Ren) : Option Value → Option Value → Prop
  | none, none => True
  | some a, some b => VR ρ a b
  | _, _ => False

theorem bounds_run {P : Program} {ρ : Ren} {b : Bool} {len cap l h : Nat} {lo hi lo' hi' : Option Value} (hlo : OV ρ lo lo') (hhi : OV ρ hi hi') (hl : bnd lo 0 = some l) (hh : bnd hi len = some h)
    (h1 : l ≤ h) (h2 : h ≤ cap) (w : World) : (Instr.sliceBounds b len cap lo' hi' none).run P w = .ok (l, h, cap) w := by
  unfold Instr.sliceBounds
  cases hi with
  | none =>
    cases hi' with
    | some _ => exact hhi.elim
    | none =>
      simp only [bnd, Option.some.injEq] at hh; subst hh
      cases lo with
      | none =>
        cases lo' with
        | some _ => exact hlo.elim
        | none => simp only [bnd, Option.some.injEq] at hl; subst hl; simp
      | some x =>
        cases lo' with
        | none => exact hlo.elim
        | some x' => simp [bnd_run (P := P) hlo hl h1 w]
  | some y =>
    cases hi' with
    | none => exact hhi.elim
    | some y' =>
      have hy := fun code => bnd_run (P := P) (code := code) hhi hh h2 w
      cases lo with
      | none =>
        cases lo' with
        | some _ => exact hlo.elim
        | none => simp only [bnd, Option.some.injEq] at hl; subst hl; simp [hy]
      | some x =>
        cases lo' with
        | none => exact hlo.elim
        | some x' => simp [hy, bnd_run (P := P) hlo hl h1 w]

def aSlice (P : Program) (t : TypeId) (x : Value) (lo hi : Option Value) : Option Value :=
  match P.underlying t, x with
  | some .string, .string s =>
    match bnd lo 0, bnd hi s.size with
    | some l, some h => if l ≤ h ∧ h ≤ s.size then some (.string (s.extract l h)) else none
    | _, _ => none
  | some (.slice e), .slice none len cap =>
    match bnd lo 0, bnd hi len, P.info? e with
    | some l, some h, some _ => if l ≤ h ∧ h ≤ cap then some (.slice none (h - l) (cap - l)) else none
    | _, _, _ => none
  | some (.slice e), .slice (some ⟨A, off, none⟩) len cap =>
    match bnd lo 0, bnd hi len, P.info? e with
    | some l, some h, some ie =>
      if cap < SL then
        if l ≤ h ∧ h ≤ cap then some (.slice (some ⟨A, if cap = l then off else off + l * ie.size, none⟩) (h - l) (cap - l)) else none
      else if cap = SL + ie.size ∧ l ≤ h ∧ h ≤ len then some (.slice (some ⟨A, off + l * ie.size, none⟩) (h - l) cap) else none
    | _, _, _ => none
  | some (.array n e), .pointer (some ⟨A, off, none⟩) =>
    match bnd lo 0, bnd hi n, P.info? e with
    | some l, some h, some ie =>
      if l ≤ h ∧ h ≤ n ∧ n < SL then some (.slice (some ⟨A, if n = l then off else off + l * ie.size, none⟩) (h - l) (n - l)) else none
    | _, _, _ => none
  | _, _ => none

theorem aSlice_run {P : Program} {ρ : Ren} {t : TypeId} {x x' v : Value} {lo hi lo' hi' : Option Value} (hx : VR ρ x x') (hlo : OV ρ lo lo') (hhi : OV ρ hi hi')
    (h : aSlice P t x lo hi = some v) (w : World) : Rd P ρ w (Instr.sliceAt t x' lo' hi' none) v := by
  unfold aSlice at h
  split at h
  · rename_i s ht
    cases hx
    split at h
    · rename_i l u hl hu
      split at h
      · rename_i hb; cases h
        refine ⟨_, ?_, .string _⟩
        simp only [Instr.sliceAt, Instr.slice, Sem.run_bind, r_under w ht, Result.andThen_ok, Option.isSome_none, Bool.false_eq_true, if_false, bounds_run hlo hhi hl hu hb.1 hb.2 w, Sem.run_pure]
      · cases h
    · cases h
  · rename_i e len cap ht
    cases hx
    split at h
    · rename_i l u ie hl hu he
      split at h
      · rename_i hb; cases h
        refine ⟨_, ?_, .nilSlice _ _⟩
        simp only [Instr.sliceAt, Instr.slice, Sem.run_bind, r_under w ht, Result.andThen_ok, bounds_run hlo hhi hl hu hb.1 hb.2 w, Sem.run_pure, r_size w he, Option.map_none, ite_self]
      · cases h
    · cases h
  · rename_i e A off len cap ht
    split at h
    · rename_i l u ie hl hu he
      split at h
      · rename_i hcap
        split at h
        · rename_i hb; cases h
          cases hx with
          | slice hq hc =>
            rename_i r
            refine ⟨.slice (some ⟨r.blk, r.base + (if cap = l then off else off + l * ie.size), none⟩) (u - l) (cap - l), ?_, .slice hq (by omega)⟩
            simp only [Instr.sliceAt, Instr.slice, Sem.run_bind, r_under w ht, Result.andThen_ok, bounds_run hlo hhi hl hu hb.1 hb.2 w, Sem.run_pure, r_size w he, Option.map_some, add_add]
            congr 2
            split <;> simp [Nat.add_assoc]
          | slack hq hl hlim hc => omega
          | slack0 hq => omega
          | slip =>
            rename_i p
            have hl0 : l = 0 := by omega
            have hu0 : u = 0 := by omega
            subst hl0; subst hu0
            refine ⟨.slice (some p) 0 0, ?_, by simpa using VR.slip⟩
            simp only [Instr.sliceAt, Instr.slice, Sem.run_bind, r_under w ht, Result.andThen_ok, bounds_run (len := 0) (cap := 0) hlo hhi hl hu (Nat.le_refl _) (Nat.le_refl _) w, Sem.run_pure, r_size w he, if_true, Nat.sub_self]
        · cases h
      · rename_i hcap
        split at h
        · rename_i hb; cases h
          obtain ⟨hce, hb⟩ := hb
          cases hx with
          | slice hq hc => exact absurd hc hcap
          | slack hq hle hlim hc =>
            rename_i c s r
            have hs : s = ie.size := by omega
            subst hs
            have hrun : (Instr.sliceAt t (.slice (some ⟨r.blk, r.base + off, none⟩) len c) lo' hi' none).run P w =
                .ok (.slice (if c = l then some ⟨r.blk, r.base + off, none⟩ else some ⟨r.blk, r.base + (off + l * ie.size), none⟩) (u - l) (c - l)) w := by
              simp only [Instr.sliceAt, Instr.slice, Sem.run_bind, r_under w ht, Result.andThen_ok, bounds_run hlo hhi hl hu hb.1 (Nat.le_trans hb.2 hle) w, Sem.run_pure, r_size w he, Option.map_some, add_add, Nat.add_assoc]
            by_cases hcl : c = l
            · refine ⟨_, hrun, ?_⟩
              rw [if_pos hcl, show u - l = 0 by omega, show c - l = 0 by omega]
              exact .slack0 hq
            · refine ⟨_, hrun, ?_⟩
              rw [if_neg hcl]
              refine .slack hq (by omega) ?_ (by omega)
              have : (c - l) * ie.size + l * ie.size = c * ie.size := by rw [← Nat.add_mul]; congr 1; omega
              omega
          | slack0 hq =>
            rename_i off' s r
            have hs : s = ie.size := by omega
            subst hs
            have hl0 : l = 0 := by omega
            have hu0 : u = 0 := by omega
            subst hl0; subst hu0
            refine ⟨.slice (some ⟨r.blk, off', none⟩) 0 0, ?_, by simpa using VR.slack0 hq⟩
            simp only [Instr.sliceAt, Instr.slice, Sem.run_bind, r_under w ht, Result.andThen_ok, bounds_run (len := 0) (cap := 0) hlo hhi hl hu (Nat.le_refl _) (Nat.le_refl _) w, Sem.run_pure, r_size w he, if_true, Nat.sub_self]
          | slip => exact absurd (by unfold SL; omega) hcap
        · cases h
    · cases h
  · rename_i n e A off ht
    split at h
    · rename_i l u ie hl hu he
      split at h
      · rename_i hb; cases h
        cases hx with
        | ptr hq =>
          rename_i r
          refine ⟨.slice (some ⟨r.blk, r.base + (if n = l then off else off + l * ie.size), none⟩) (u - l) (n - l), ?_, .slice hq (by omega)⟩
          simp only [Instr.sliceAt, Instr.sureAddr, Sem.run_bind, r_under w ht, Result.andThen_ok, bounds_run hlo hhi hl hu hb.1 hb.2.1 w, Sem.run_pure, r_size w he, add_add]
          congr 3
          split <;> simp
      · cases h
    · cases h
  · cases h

def aExtract (x : Value) (i : Nat) : Option Value :=
  match x with
  | .tuple vs => vs[i]?
  | _ => none

theorem aExtract_run {P : Program} {ρ : Ren} {x x' v : Value} {i : Nat} (hx : VR ρ x x') (h : aExtract x i = some v) (w : World) : Rd P ρ w (Instr.extract x' i) v := by
  unfold aExtract at h
  split at h
  · rename_i vs
    obtain ⟨vs', rfl, hl⟩ := hx.ofTuple
    obtain ⟨v', a, b⟩ := hl.get (i := i) (v := v) (by simpa using h)
    exact ⟨v', by simp only [Instr.extract]; rw [show vs'[i]? = some v' by simpa using a]; rfl, b⟩
  · cases h

end Go.Ab

namespace Go.Ab

/-- Stores into a block of cells, whatever is known of what they held. -/
theorem storesRaw (P : Program) (b : Nat) (e : TypeId) (fr : Nat × Nat) : ∀ (xs : List Value) (w : World) (cc : Array Value) (a i : Nat), w.heap[b]? = some (.cells cc e fr) → (∀ j, j < cc.size → ¬ (fr.1 ≤ j ∧ j < fr.2)) →
    (∀ x ∈ xs, oneC x = true) → a + i + xs.length ≤ cc.size →
    ∃ w' cc', (storeCells ⟨b, a, none⟩ xs i).run P w = .ok () w' ∧ w'.heap[b]? = some (.cells cc' e fr) ∧ cc'.size = cc.size ∧ w'.heap.size = w.heap.size ∧
      (∀ k, k ≠ b → w'.heap[k]? = w.heap[k]?) ∧ (∀ j v, xs[j]? = some v → cc'[a + i + j]? = some v) ∧ (∀ j, j < a + i → cc'[j]? = cc[j]?) ∧ Side w w' ∧ (∀ j, a + i + xs.length ≤ j → cc'[j]? = cc[j]?) := by
  intro xs
  induction xs with
  | nil => intro w cc a i h _ _ _; exact ⟨w, cc, by simp [storeCells], h, rfl, rfl, fun _ _ => rfl, (fun j v hj => by simp at hj), fun _ _ => rfl, Side.refl _, fun _ _ => rfl⟩
  | cons x xs ih =>
    intro w cc a i h hfr hone hle
    simp only [List.length_cons] at hle
    have hlt : a + i < cc.size := by omega
    have hcell : w.cell? ⟨b, a + i, none⟩ = some cc[a + i] := by simp [World.cell?, h, hlt]
    have hfro : w.frozen? ⟨b, a + i, none⟩ = false := by simp only [World.frozen?, h]; simpa using hfr (a + i) hlt
    have h1 : (Go.store ⟨b, a + i, none⟩ x).run P w = .ok () (w.setCell ⟨b, a + i, none⟩ x) := by
      rw [run_store P w _ x _ (by rw [oneC_oneCell']; exact hone x (by simp)), hcell]
      simp [hfro]
    have hb1 : (w.setCell ⟨b, a + i, none⟩ x).heap[b]? = some (.cells (cc.setIfInBounds (a + i) x) e fr) := by simp [World.setCell, Array.getElem?_modify, h]
    obtain ⟨w', cc', hrun, hb', hsz, hws, hoth, hin, hout, sd, hpast⟩ := ih (w.setCell ⟨b, a + i, none⟩ x) (cc.setIfInBounds (a + i) x) a (i + 1) hb1 (fun j hj => hfr j (by simpa using hj)) (fun y hy => hone y (by simp [hy])) (by simp; omega)
    refine ⟨w', cc', ?_, hb', by rw [hsz]; simp, by rw [hws]; simp, fun k hk => ?_, fun j v hj => ?_, fun j hj => ?_, Side.trans (⟨rfl, rfl, rfl⟩ : Side w (w.setCell ⟨b, a + i, none⟩ x)) sd, fun j hj => by
      simp only [List.length_cons] at hj
      rw [hpast j (by omega), Array.getElem?_setIfInBounds_ne (by omega)]⟩
    · simp only [storeCells, Sem.run_bind, add_add, h1, Result.andThen_ok]; exact hrun
    · rw [hoth k hk]; simp only [World.setCell, Array.getElem?_modify]; rw [if_neg (fun x => hk x.symm)]
    · cases j with
      | zero =>
        simp at hj; subst hj
        rw [Nat.add_zero, hout (a + i) (by omega), Array.getElem?_setIfInBounds_self_of_lt hlt]
      | succ j =>
        have := hin j v (by simpa using hj)
        rw [show a + i + (j + 1) = a + (i + 1) + j by omega]; exact this
    · rw [hout j (by omega), Array.getElem?_setIfInBounds_ne (by omega)]

theorem growBy_le (need : Nat) : ∀ (k c : Nat), c < need ∨ c ≤ 2 * need + 192 → Builtin.growBy need k c ≤ 2 * need + 192 := by
  intro k
  induction k with
  | zero => intro c h; simp only [Builtin.growBy]; omega
  | succ k ih =>
    intro c h
    simp only [Builtin.growBy]
    split
    · omega
    · exact ih _ (by omega)

theorem nextcap_le {need c : Nat} (h : c < need) : Builtin.nextslicecap need c ≤ 2 * need + 192 := by
  unfold Builtin.nextslicecap
  split
  · omega
  · split
    · omega
    · exact growBy_le need 4 c (.inl h)

/-- The elements that a source hands over. -/
def srcCells (sz : Nat) (x : Value) (h : AH) : Option (Nat × List Value) :=
  match x with
  | .slice none n _ => if n = 0 then some (0, []) else none
  | .slice (some ⟨B, o, none⟩) n _ =>
    if n = 0 then some (0, []) else
    match (h.get B).bind AObj.cells? with
    | some c => if o + n * sz ≤ c.length then some (n, (c.drop o).take (n * sz)) else none
    | none => none
  | _ => none

theorem srcCells_one {ρ : Ren} {h : AH} {w : World} {sz n : Nat} {x : Value} {ys : List Value} (hr : HR ρ h w) (hs : srcCells sz x h = some (n, ys)) : ∀ y ∈ ys, oneC y = true := by
  unfold srcCells at hs
  split at hs
  · split at hs
    · cases hs; simp
    · cases hs
  · split at hs
    · cases hs; simp
    · split at hs
      · rename_i c hc
        split at hs
        · cases hs
          obtain ⟨o, ho, hoc⟩ := Option.bind_eq_some_iff.1 hc
          obtain ⟨r, _, hor⟩ := hr.obj _ o ho
          obtain ⟨_, _, _, _, hrow⟩ := hor.rowAt hoc
          intro y hy
          exact hrow.one y (List.mem_of_mem_drop (List.mem_of_mem_take hy))
        · cases hs
      · cases hs
  · cases hs

theorem srcCells_run {P : Program} {ρ : Ren} {h : AH} {w : World} {sz n : Nat} {x x' : Value} {ys : List Value} (hr : HR ρ h w) (hx : VR ρ x x') (hs : srcCells sz x h = some (n, ys)) :
    ys.length = n * sz ∧ (∀ w, (Builtin.lenOf x').run P w = .ok n w) ∧ ∃ ys' : List Value, LR ρ ys ys' ∧ ∀ w', w'.heap = w.heap → (Builtin.firstCells sz n x').run P w' = .ok ys'.toArray w' := by
  unfold srcCells at hs
  split at hs
  · split at hs
    · rename_i e; cases hs; subst e; cases hx
      exact ⟨by simp, fun _ => rfl, [], LR.nil _, fun _ _ => rfl⟩
    · cases hs
  · rename_i B o n' cap
    have hlen : ∀ w, (Builtin.lenOf x').run P w = .ok n' w := by intro w; cases hx <;> rfl
    split at hs
    · rename_i e; cases hs; subst e
      refine ⟨by simp, hlen, [], LR.nil _, fun w' _ => ?_⟩
      cases hx <;> simp [Builtin.firstCells, loadCells, loadCellsFrom]
    · rename_i hn0
      split at hs
      · rename_i c hc
        split at hs
        · rename_i hle
          simp only [Option.some.injEq, Prod.mk.injEq] at hs
          obtain ⟨e1, e2⟩ := hs
          subst e2; subst e1
          obtain ⟨ob, hob, hoc⟩ := Option.bind_eq_some_iff.1 hc
          obtain ⟨r, hq, hor⟩ := hr.obj _ ob hob
          obtain ⟨_, _, cc, fr, hrow⟩ := hor.rowAt hoc
          obtain ⟨cs, hl, hlr, hload, _⟩ := hrow.many o (n' * sz) hle
          refine ⟨by simp; omega, hlen, cs, hlr, fun w' hw' => ?_⟩
          cases hx with
          | slice hq' hcap => rw [hq] at hq'; cases hq'; simpa [Builtin.firstCells] using hload P w' (by rw [hw'])
          | slack hq' hl' hlim hc' => rw [hq] at hq'; cases hq'; simpa [Builtin.firstCells] using hload P w' (by rw [hw'])
          | slack0 hq' => exact absurd rfl hn0
          | slip => exact absurd rfl hn0
        · cases hs
      · cases hs
  · cases hs

/-- A new row that may grow: known cells, and whatever room behind them. -/
theorem HR.newGrow {ρ : Ren} {h : AH} {w : World} (hr : HR ρ h w) (P : Program) {c c' rest : List Value} {e : TypeId} {need cap sz : Nat} (hl : LR ρ c c') (ho : ∀ v ∈ c, oneC v = true) (hc : c.length = need * sz)
    (hrest : rest.length = (cap - need) * sz) (hcap : need ≤ cap) (hcS : cap ≤ 9223372036854775807) (hra : ∀ v ∈ rest, plain 9 v = true ∧ oneC v = true) :
    ∃ ρ' w', (Go.newRow e (c' ++ rest).toArray).run P w = .ok ⟨w.heap.size, 0, none⟩ w' ∧ VR ρ' (.slice (some ⟨h.next, 0, none⟩) need (SL + sz)) (.slice (some ⟨w.heap.size, 0, none⟩) need cap) ∧
      HR ρ' (h.new (.grow c e)) w' ∧ Frm ρ h w ρ' (h.new (.grow c e)) w' := by
  have hlen : (c' ++ rest).length = cap * sz := by
    rw [List.length_append, ← hl.1, hc, hrest, ← Nat.add_mul]; congr 1; omega
  obtain ⟨a, b⟩ := hr.alloc (x := .cells (c' ++ rest).toArray e) (o := .grow c e) (w' := { w with heap := w.heap.push (.cells (c' ++ rest).toArray e) }) (base := 0) (lim := cap * sz) rfl
    (fun ρ' hle _ => ⟨(c' ++ rest).toArray, (0, 0), ⟨by simp, by simp [hl.1], fun i v hi => by
      obtain ⟨v', x, y⟩ := hl.get hi
      refine ⟨v', ?_, y.mono hle⟩
      have hlt : i < c'.length := by rw [← hl.1]; exact (List.getElem?_eq_some_iff.1 hi).1
      simp only [Nat.zero_add, List.getElem?_toArray]
      rw [List.getElem?_append_left hlt]; exact x, fun _ i _ hi => by omega, ho⟩, by simpa using hlen, fun i v' hi => by
      have hi' : (c' ++ rest)[i]? = some v' := by simpa using hi
      by_cases hlt : i < c'.length
      · rw [List.getElem?_append_left hlt] at hi'
        have hltc : i < c.length := by rw [hl.1]; exact hlt
        have hv := hl.2 i _ _ (List.getElem?_eq_getElem hltc) hi'
        exact ⟨by rw [hv.one]; exact ho _ (List.getElem_mem hltc), _, hv.mono hle⟩
      · rw [List.getElem?_append_right (by omega)] at hi'
        obtain ⟨a1, a2⟩ := hra v' (List.mem_of_getElem? hi')
        exact ⟨a2, v', plain_VR _ 9 v' a1⟩⟩)
  refine ⟨_, _, rfl, ?_, a, b⟩
  have := VR.slack (ρ := ρ.put h.next ⟨w.heap.size, 0, cap * sz⟩) (A := h.next) (off := 0) (l := need) (c := cap) (s := sz) (Ren.put_same _ _ _) hcap (by simp) hcS
  simpa using this

def isIntT : TypeDesc → Bool
  | .int _ => true
  | _ => false

/-- A zero whose cells bear no address. -/
def zOK (z : Value) : Bool := z.cells.toList.all fun v => plain 9 v && oneC v

/-- The greatest length that is followed. -/
def ML : Nat := 4611686018427387904

def aAppend (P : Program) (ts : Array TypeId) (s x : Value) (h : AH) : Option (Value × AH) :=
  match ts[0]?, ts[1]? with
  | some t0, some t1 =>
    match P.underlying t0, P.underlying t1 with
    | some (.slice e), some d1 =>
      match P.info? e with
      | some ie =>
        match ie.zero with
        | some z =>
          if isIntT d1 = true ∨ z.cells.size ≠ ie.size ∨ zOK z = false then none else
          match srcCells ie.size x h with
          | none => none
          | some (n, ys) =>
            match s with
            | .slice none len cap =>
              if len = 0 ∧ cap = 0 then
                if n = 0 then some (.slice none 0 0, h)
                else if (2 * n + 192) * ie.bytes ≤ 281474976710656 ∧ n < ML then some (.slice (some ⟨h.next, 0, none⟩) n (SL + ie.size), h.new (.grow ys e)) else none
              else none
            | .slice (some ⟨A, off, none⟩) len cap =>
              if n = 0 then (if len ≤ cap then some (s, h) else none)
              else if cap < SL then
                match h.get A with
                | none => none
                | some o =>
                  if len + n ≤ cap then (o.setCells (off + len * ie.size) ys).map fun o' => (.slice (some ⟨A, off, none⟩) (len + n) cap, h.set A o')
                  else
                    match o.cells? with
                    | none => none
                    | some c =>
                      if off + len * ie.size ≤ c.length ∧ (2 * (len + n) + 192) * ie.bytes ≤ 281474976710656 ∧ len + n < ML then
                        some (.slice (some ⟨h.next, 0, none⟩) (len + n) (SL + ie.size), h.new (.grow ((c.drop off).take (len * ie.size) ++ ys) e))
                      else none
              else
                match h.get A with
                | some (.grow c e') =>
                  if e' = e ∧ cap = SL + ie.size ∧ off + len * ie.size ≤ c.length ∧ (2 * (len + n) + 192) * ie.bytes ≤ 281474976710656 ∧ len + n < ML then
                    some (.slice (some ⟨h.next, 0, none⟩) (len + n) (SL + ie.size), (h.del A).new (.grow ((c.drop off).take (len * ie.size) ++ ys) e'))
                  else none
                | _ => none
            | _ => none
        | none => none
      | none => none
    | _, _ => none
  | _, _ => none

/-- What append does, by its two ways. -/
theorem append_run {P : Program} {w : World} {ts : Array TypeId} {ty t0 t1 e : TypeId} {d1 : TypeDesc} {ie : TypeInfo} {z : Value} {base : Option Addr} {len cap n : Nat} {x : Value} {ys : Array Value}
    (h0 : ts[0]? = some t0) (h1 : ts[1]? = some t1) (u0 : P.underlying t0 = some (.slice e)) (u1 : P.underlying t1 = some d1) (hd : isIntT d1 = false)
    (hi : P.info? e = some ie) (hz : ie.zero = some z) (hlen : ∀ w, (Builtin.lenOf x).run P w = .ok n w) (hys : (Builtin.firstCells ie.size n x).run P w = .ok ys w) :
    (len + n ≤ cap → (Builtin.append_ ts ty #[.slice base len cap, x]).run P w =
      ((match base with | some a => storeCells (a.add (len * ie.size)) ys.toList | none => Pure.pure ()).run P w).andThen fun _ w' => .ok (.slice base (len + n) cap) w') ∧
    (cap < len + n → len + n < ML → (2 * (len + n) + 192) * ie.bytes ≤ 281474976710656 → 0 < len + n → ∀ old : Array Value, (∀ w', w'.heap = w.heap → (Builtin.firstCells ie.size len (.slice base len cap)).run P w' = .ok old w') →
      (∀ w', w'.heap = w.heap → (Builtin.firstCells ie.size n x).run P w' = .ok ys w') →
      ∃ newCap w1, len + n ≤ newCap ∧ newCap ≤ 9223372036854775807 ∧ (w1.heap = w.heap ∧ Side w w1) ∧ (Builtin.append_ ts ty #[.slice base len cap, x]).run P w =
        ((Go.newRow e (old ++ ys ++ Builtin.zeroCells z.cells (newCap - (len + n)))).run P w1).andThen fun a w' => .ok (.slice (some a) (len + n) newCap) w') := by
  constructor
  · intro hle
    unfold Builtin.append_
    simp only [h0, h1, List.getElem?_toArray, List.getElem?_cons_zero, List.getElem?_cons_succ, Sem.run_bind, r_under w u0, r_under w u1, Result.andThen_ok, r_size w hi, Sem.run_pure]
    cases d1 <;> simp only [isIntT, Bool.true_eq_false] at hd <;>
      (simp only [Bool.false_eq_true, if_false, hlen, Result.andThen_ok, Bool.not_false, if_true, hle, Sem.run_bind, hys]
       cases base <;> simp)
  · intro hgt hsl hby hpos old hold hys'
    have hforced : (Question.appendCap (len + n) cap e).forced = false := rfl
    refine ⟨len + n + (w.tape w.drawn (.appendCap (len + n) cap e)) % (2 ^ 63 - (len + n)), { w with drawn := w.drawn + 1 }, by omega, ?_, ⟨rfl, ⟨rfl, rfl, rfl⟩⟩, ?_⟩
    · have hm : (w.tape w.drawn (.appendCap (len + n) cap e)) % (2 ^ 63 - (len + n)) < 2 ^ 63 - (len + n) := Nat.mod_lt _ (by unfold ML at hsl; omega)
      unfold ML at hsl; omega
    have hnc : ¬ Builtin.nextslicecap (len + n) cap * ie.bytes > 2 ^ 48 := by
      have h1 := nextcap_le hgt
      have h2 : Builtin.nextslicecap (len + n) cap * ie.bytes ≤ (2 * (len + n) + 192) * ie.bytes := Nat.mul_le_mul_right _ h1
      omega
    have hmax : ¬ (((len + n : Nat) : Int) > IntKind.i64.max ∧ ie.bytes = 0) := by
      have : IntKind.i64.max = 9223372036854775807 := by decide
      unfold ML at hsl
      omega
    unfold Builtin.append_
    simp only [h0, h1, List.getElem?_toArray, List.getElem?_cons_zero, List.getElem?_cons_succ, Sem.run_bind, r_under w u0, r_under w u1, Result.andThen_ok, r_size w hi, Sem.run_pure]
    have hnle : ¬ (len + n ≤ cap) := by omega
    cases d1 <;> simp only [isIntT, Bool.true_eq_false] at hd <;>
      (simp only [Bool.false_eq_true, if_false, hlen, Result.andThen_ok, Bool.not_false, if_true, hnle, Sem.run_bind, r_info w hi, false_or, hmax, hnc, run_choose, hforced, Question.cut, run_askRoom]
       rw [r_info _ hi, Result.andThen_ok, hold { w with drawn := w.drawn + 1 } rfl, Result.andThen_ok, hys' { w with drawn := w.drawn + 1 } rfl, Result.andThen_ok, r_zero _ hi hz, Result.andThen_ok]
       rfl)

theorem zeroCells_length (z : Array Value) (n : Nat) : (Builtin.zeroCells z n).toList.length = n * z.size := by simp [Builtin.zeroCells]

theorem zeroCells_ok {z : Value} (hz : zOK z = true) {n : Nat} : ∀ v ∈ (Builtin.zeroCells z.cells n).toList, plain 9 v = true ∧ oneC v = true := by
  intro v hv
  have hall : ∀ x ∈ z.cells.toList, plain 9 x = true ∧ oneC x = true := fun x hx => by
    have := List.all_eq_true.1 hz x hx
    simpa [Bool.and_eq_true] using this
  simp only [Builtin.zeroCells, Array.toList_map, List.mem_map] at hv
  obtain ⟨k, hk, rfl⟩ := hv
  have hk' : k < n * z.cells.size := by simpa using hk
  have hpos : 0 < z.cells.size := by
    rcases Nat.eq_zero_or_pos z.cells.size with e | e
    · rw [e, Nat.mul_zero] at hk'; omega
    · exact e
  have hlt := Nat.mod_lt k hpos
  have e : z.cells[k % z.cells.size]! = z.cells[k % z.cells.size] := getElem!_pos z.cells _ hlt
  rw [e]
  exact hall _ (by simp)

theorem aAppend_snd {P : Program} {ρ : Ren} {h h' : AH} {w : World} {ts : Array TypeId} {ty : TypeId} {s x s' x' v : Value} (hr : HR ρ h w) (hs : VR ρ s s') (hx : VR ρ x x')
    (hv : aAppend P ts s x h = some (v, h')) : Snd P ρ h w (Builtin.append_ ts ty #[s', x']) v h' := by
  unfold aAppend at hv
  split at hv
  case h_2 => cases hv
  rename_i t0 t1 h0 h1
  split at hv
  case h_2 => cases hv
  rename_i e d1 u0 u1
  split at hv
  case h_2 => cases hv
  rename_i ie hi
  split at hv
  case h_2 => cases hv
  rename_i z hz
  split at hv
  · cases hv
  rename_i hcond
  have hd : isIntT d1 = false := by cases hb : isIntT d1 <;> simp_all
  have hzs : z.cells.size = ie.size := by
    apply Classical.byContradiction; intro hn; exact hcond (.inr (.inl hn))
  have hzo : zOK z = true := by cases hb : zOK z <;> simp_all
  cases hsrc : srcCells ie.size x h with
  | none => simp [hsrc] at hv
  | some p =>
    obtain ⟨n, ys⟩ := p
    simp only [hsrc] at hv
    obtain ⟨hyl, hlen, ys', hlr, hfirst⟩ := srcCells_run (P := P) hr hx hsrc
    have hone := srcCells_one hr hsrc
    have ways := fun base len cap => append_run (P := P) (w := w) (ty := ty) (base := base) (len := len) (cap := cap) h0 h1 u0 u1 hd hi hz hlen (hfirst w rfl)
    have mk : ∀ (ρ₁ : Ren) (h₁ : AH) (base : Option Addr) (len cap : Nat) (old old' : List Value) (e₂ : TypeId), HR ρ₁ h₁ w → Frm ρ h w ρ₁ h₁ w → cap < len + n → len + n < ML → (2 * (len + n) + 192) * ie.bytes ≤ 281474976710656 → 0 < len + n →
        old.length = len * ie.size → LR ρ₁ old old' → (∀ v ∈ old, oneC v = true) → LR ρ₁ ys ys' →
        (∀ w', w'.heap = w.heap → (Builtin.firstCells ie.size len (.slice base len cap)).run P w' = .ok old'.toArray w') → e₂ = e →
        Snd P ρ h w (Builtin.append_ ts ty #[.slice base len cap, x']) (.slice (some ⟨h₁.next, 0, none⟩) (len + n) (SL + ie.size)) (h₁.new (.grow (old ++ ys) e₂)) := by
      intro ρ₁ h₁ base len cap old old' e₂ hr₁ hf₁ hgt hml hby hpos hol hlro hoo hlry hold he
      subst he
      obtain ⟨nc, w1, hnc, hncS, ⟨hw1, sd1⟩, hrun⟩ := (ways base len cap).2 hgt hml hby hpos old'.toArray hold hfirst
      have hrest : (Builtin.zeroCells z.cells (nc - (len + n))).toList.length = (nc - (len + n)) * ie.size := by rw [zeroCells_length, hzs]
      obtain ⟨ρ', w', hnew, hvr, hr', hf'⟩ := (hr₁.same hw1).newGrow P (e := e₂) (need := len + n) (cap := nc) (sz := ie.size) (hlro.append hlry) (fun v hv => by
        rcases List.mem_append.1 hv with hv | hv
        · exact hoo v hv
        · exact hone v hv) (by rw [List.length_append, hol, hyl, ← Nat.add_mul]) hrest hnc hncS (zeroCells_ok hzo)
      refine ⟨ρ', _, w', ?_, hvr, hr', (hf₁.trans (Frm.same hw1 sd1)).trans hf'⟩
      rw [hrun]
      have e1 : (old'.toArray ++ ys'.toArray ++ Builtin.zeroCells z.cells (nc - (len + n))) = ((old' ++ ys') ++ (Builtin.zeroCells z.cells (nc - (len + n))).toList).toArray := by
        apply Array.ext'; simp
      rw [e1, hnew]; rfl
    split at hv
    · -- a nil slice
      rename_i len cap
      split at hv
      case isFalse => cases hv
      rename_i hlc
      obtain ⟨rfl, rfl⟩ := hlc
      cases hs
      split at hv
      · rename_i hn
        cases hv; subst hn
        refine Snd.pure (v' := .slice none 0 0) hr ?_ (.nilSlice _ _)
        rw [(ways none 0 0).1 (by omega)]; rfl
      · rename_i hn
        split at hv
        · rename_i hb
          cases hv
          have := mk ρ h none 0 0 [] [] e hr (Frm.refl _ _ _) (by omega) (by omega) (by simpa using hb.1) (by omega) (by simp) (LR.nil _) (by simp) hlr (fun w' _ => rfl) rfl
          simpa using this
        · cases hv
    · rename_i A off len cap
      split at hv
      · -- nothing to append
        rename_i hn
        split at hv
        · rename_i hle
          cases hv; subst hn
          have hys0 : ys' = [] := List.eq_nil_of_length_eq_zero (by rw [← hlr.1, hyl]; simp)
          subst hys0
          have key : ∀ a c, len ≤ c → (Builtin.append_ ts ty #[.slice (some a) len c, x']).run P w = .ok (.slice (some a) len c) w := by
            intro a c hc
            rw [(ways (some a) len c).1 (by omega)]
            simp [storeCells]
          cases hs with
          | slice hq hc => exact Snd.pure hr (key _ _ hle) (.slice hq hc)
          | slack hq hl hlim hc => exact Snd.pure hr (key _ _ hl) (.slack hq hl hlim hc)
          | slack0 hq => exact Snd.pure hr (key _ _ (Nat.le_refl _)) (.slack0 hq)
          | slip => exact Snd.pure hr (key _ _ (Nat.le_refl _)) .slip
        · cases hv
      · rename_i hn
        split at hv
        · -- the room is known
          rename_i hcap
          cases ho : h.get A with
          | none => simp [ho] at hv
          | some o =>
            simp only [ho] at hv
            cases hs with
            | slack hq hl hlim hc => omega
            | slack0 hq => omega
            | slip =>
              rename_i p
              split at hv
              · omega
              · cases hcs : o.cells? with
                | none => simp [hcs] at hv
                | some c =>
                  simp only [hcs] at hv
                  split at hv
                  · rename_i hb
                    cases hv
                    have := mk ρ h (some p) 0 0 [] [] e hr (Frm.refl _ _ _) (by omega) hb.2.2 hb.2.1 (by omega) (by simp) (LR.nil _) (by simp) hlr (fun w' _ => by simp [Builtin.firstCells, loadCells, loadCellsFrom]) rfl
                    simpa using this
                  · cases hv
            | slice hq hc =>
              rename_i r
              split at hv
              · rename_i hle
                simp only [Option.map_eq_some_iff, Prod.mk.injEq] at hv
                obtain ⟨o', hset, rfl, rfl⟩ := hv
                obtain ⟨w', hrun, hr', hf'⟩ := hr.stores P (off := off + len * ie.size) ho hq hlr hone hset
                refine ⟨ρ, _, w', ?_, .slice hq hc, hr', hf'⟩
                rw [(ways (some _) len cap).1 hle]
                simp only [add_add]
                rw [Nat.add_assoc, hrun]; rfl
              · rename_i hnle
                cases hcs : o.cells? with
                | none => simp [hcs] at hv
                | some c =>
                  simp only [hcs] at hv
                  split at hv
                  · rename_i hb
                    cases hv
                    obtain ⟨q, eq, hor⟩ := hr.obj A o ho
                    rw [hq] at eq; cases eq
                    obtain ⟨_, _, cc, fr, hrow⟩ := hor.rowAt hcs
                    obtain ⟨cs, hl, hlr2, hload, _⟩ := hrow.many off (len * ie.size) hb.1
                    exact mk ρ h (some _) len cap _ cs e hr (Frm.refl _ _ _) (by omega) hb.2.2 hb.2.1 (by omega) (by simp; omega) hlr2 (fun v hv => hrow.one v (List.mem_of_mem_drop (List.mem_of_mem_take hv))) hlr
                      (fun w' hw' => by simpa [Builtin.firstCells] using hload P w' (by rw [hw'])) rfl
                  · cases hv
        · -- a row that may grow
          rename_i hcap
          split at hv
          case h_2 => cases hv
          rename_i c e' ho
          split at hv
          case isFalse => cases hv
          rename_i hb
          cases hv
          obtain ⟨rfl, hce, hle, hby, hml⟩ := hb
          cases hs with
          | slice hq hc => exact absurd hc hcap
          | slack hq hl hlim hcS =>
            rename_i cc0 s r
            have hse : s = ie.size := by omega
            subst hse
            obtain ⟨q, eq, hor⟩ := hr.obj A _ ho
            rw [hq] at eq; cases eq
            obtain ⟨cc, fr, hrow, hsz, hall⟩ := hor
            obtain ⟨cs, hcl, hlr2, hload, hcs⟩ := hrow.many off (len * ie.size) hle
            by_cases hfit : len + n ≤ cc0
            · -- in place
              have hmul : (len + n) * ie.size ≤ cc0 * ie.size := Nat.mul_le_mul_right _ hfit
              have hdist : (len + n) * ie.size = len * ie.size + n * ie.size := Nat.add_mul _ _ _
              have hyl' : ys'.length = n * ie.size := by rw [← hlr.1, hyl]
              have hone' : ∀ x ∈ ys', oneC x = true := by
                intro x hx'
                obtain ⟨i, hi'⟩ := List.getElem?_of_mem hx'
                have hlt : i < ys.length := by rw [hlr.1]; exact (List.getElem?_eq_some_iff.1 hi').1
                rw [(hlr.2 i _ _ (List.getElem?_eq_getElem hlt) hi').one]
                exact hone _ (List.getElem_mem hlt)
              obtain ⟨w', cc', hrun, hb', hcsz, hwsz, hoth, hin, hout, sd, hpast⟩ := storesRaw P r.blk e' fr ys' w cc (r.base + off + len * ie.size) 0 hrow.heap (fun j hj => hrow.free rfl j (Nat.le_of_lt hj)) hone' (by omega)
              obtain ⟨hr', hf'⟩ := hr.moved (r' := ⟨r.blk, r.base + off, r.lim⟩) (o' := .grow ((c.drop off).take (len * ie.size) ++ ys) e') ho rfl hq rfl hwsz hoth (fun ρ' hle' => by
                refine ⟨cc', fr, ⟨hb', ?_, fun i u hu => ?_, fun _ j hj => hrow.free rfl j (by omega), fun u hu => ?_⟩, by rw [hcsz, hsz], fun j v' hj => ?_⟩
                · simp only [List.length_append, List.length_take, List.length_drop, hyl]; omega
                · by_cases hi' : i < len * ie.size
                  · rw [List.getElem?_append_left (by simp; omega), List.getElem?_take, if_pos hi', List.getElem?_drop] at hu
                    obtain ⟨u', hu1, hu2⟩ := hrow.cell _ _ hu
                    refine ⟨u', ?_, hu2.mono hle'⟩
                    show cc'[r.base + off + i]? = some u'
                    rw [hout _ (by omega), Nat.add_assoc]; exact hu1
                  · rw [List.getElem?_append_right (by simp; omega)] at hu
                    have hl' : ((c.drop off).take (len * ie.size)).length = len * ie.size := by simp; omega
                    rw [hl'] at hu
                    obtain ⟨u', hu1, hu2⟩ := hlr.get hu
                    refine ⟨u', ?_, hu2.mono hle'⟩
                    have := hin _ _ hu1
                    show cc'[r.base + off + i]? = some u'
                    rw [show r.base + off + i = r.base + off + len * ie.size + 0 + (i - len * ie.size) by omega]; exact this
                · rcases List.mem_append.1 hu with hu | hu
                  · exact hrow.one u (List.mem_of_mem_drop (List.mem_of_mem_take hu))
                  · exact hone u hu
                · by_cases h1 : j < r.base + off + len * ie.size + 0
                  · rw [hout j h1] at hj; exact (hall j v' hj).imp id fun ⟨v, hv⟩ => ⟨v, hv.mono hle'⟩
                  · by_cases h2 : r.base + off + len * ie.size + 0 + ys'.length ≤ j
                    · rw [hpast j h2] at hj; exact (hall j v' hj).imp id fun ⟨v, hv⟩ => ⟨v, hv.mono hle'⟩
                    · have hk : j - (r.base + off + len * ie.size + 0) < ys'.length := by omega
                      have h3 := hin _ _ (List.getElem?_eq_getElem hk)
                      rw [show r.base + off + len * ie.size + 0 + (j - (r.base + off + len * ie.size + 0)) = j by omega, hj] at h3
                      cases h3
                      have hky : j - (r.base + off + len * ie.size + 0) < ys.length := by rw [hlr.1]; exact hk
                      have hvr := hlr.2 _ _ _ (List.getElem?_eq_getElem hky) (List.getElem?_eq_getElem hk)
                      exact ⟨hone' _ (List.getElem_mem hk), _, hvr.mono hle'⟩) sd
              refine ⟨_, .slice (some ⟨r.blk, r.base + off, none⟩) (len + n) cc0, w', ?_, ?_, hr', hf'⟩
              · rw [(ways (some _) len cc0).1 hfit]
                simp only [add_add]
                rw [hrun]; rfl
              · have := VR.slack (ρ := ρ.put h.next ⟨r.blk, r.base + off, r.lim⟩) (A := h.next) (off := 0) (l := len + n) (c := cc0) (s := ie.size) (Ren.put_same _ _ _) hfit hlim hcS
                simpa using this
            · obtain ⟨hr₁, hf₁⟩ := hr.forget A
              exact mk ρ (h.del A) (some _) len cc0 _ cs e' hr₁ hf₁ (by omega) hml hby (by omega) (by simp; omega) hlr2 (fun v hv => hrow.one v (List.mem_of_mem_drop (List.mem_of_mem_take hv))) hlr
                (fun w' hw' => by simpa [Builtin.firstCells] using hload P w' (by rw [hw'])) rfl
          | slack0 hq =>
            rename_i off' s r
            obtain ⟨hr₁, hf₁⟩ := hr.forget A
            have := mk ρ (h.del A) (some ⟨r.blk, off', none⟩) 0 0 [] [] e' hr₁ hf₁ (by omega) hml hby (by omega) (by simp) (LR.nil _) (by simp) hlr
              (fun w' _ => by simp [Builtin.firstCells, loadCells, loadCellsFrom]) rfl
            simpa using this
          | slip => exact absurd (by unfold SL; omega) hcap
    · cases hv

end Go.Ab

namespace Go.Ab

theorem LR.setL {ρ : Ren} : ∀ (xs xs' c c' : List Value) (off : Nat), LR ρ c c' → LR ρ xs xs' → LR ρ (setL c off xs) (Ab.setL c' off xs') := by
  intro xs
  induction xs with
  | nil =>
    intro xs' c c' off h hl
    have : xs' = [] := List.eq_nil_of_length_eq_zero hl.1.symm
    subst this; exact h
  | cons x xs ih =>
    intro xs' c c' off h hl
    cases xs' with
    | nil => have := hl.1; simp at this
    | cons x' xs' =>
      exact ih xs' _ _ _ (h.set off (hl.2 0 x x' rfl rfl)) ⟨by simpa using hl.1, fun j v v' a b => hl.2 (j + 1) v v' (by simpa using a) (by simpa using b)⟩

/-- Parts laid into cells. -/
def fillL (place : Nat → Option (Nat × Nat)) (cells : List Value) : List (Nat × Value) → Option (List Value)
  | [] => some cells
  | (i, v) :: rest =>
    match place i with
    | none => none
    | some (off, size) => if v.cells.size ≠ size ∨ off + v.cells.size > cells.length then none else fillL place (setL cells off v.cells.toList) rest

theorem foldl_setL (off : Nat) : ∀ (xs : List Value) (k : Nat) (c : Array Value),
    ((xs.zipIdx k).foldl (fun cs (x : Value × Nat) => cs.setIfInBounds (off + x.2) x.1) c) = (setL c.toList (off + k) xs).toArray := by
  intro xs
  induction xs with
  | nil => intro k c; simp [setL]
  | cons x xs ih =>
    intro k c
    simp only [List.zipIdx_cons, List.foldl_cons, setL]
    rw [ih (k + 1)]
    simp [Nat.add_assoc]

theorem fill_eq (place : Nat → Option (Nat × Nat)) : ∀ (ps : List (Nat × Value)) (c : Array Value), Instr.fill place c ps = (fillL place c.toList ps).map List.toArray := by
  intro ps
  induction ps with
  | nil => intro c; simp [Instr.fill, fillL]
  | cons p ps ih =>
    intro c
    obtain ⟨i, v⟩ := p
    simp only [Instr.fill, fillL]
    cases hp : place i with
    | none => rfl
    | some q =>
      obtain ⟨off, size⟩ := q
      simp only []
      have e : v.cells.zipIdx.foldl (fun cs (x : Value × Nat) => cs.setIfInBounds (off + x.2) x.1) c = (setL c.toList off v.cells.toList).toArray := by
        have := foldl_setL off v.cells.toList 0 c
        rw [← Array.foldl_toList, Array.toList_zipIdx]
        simpa using this
      split
      · rename_i h
        rw [if_pos (by simpa using h)]; rfl
      · rename_i h
        rw [if_neg (by simpa using h)]
        have := ih (setL c.toList off v.cells.toList).toArray
        simp only at this
        rw [← this]
        congr 1

def PR (ρ : Ren) (ps ps' : List (Nat × Value)) : Prop := ps.length = ps'.length ∧ ∀ (i : Nat) (p p' : Nat × Value), ps[i]? = some p → ps'[i]? = some p' → p.1 = p'.1 ∧ VR ρ p.2 p'.2

theorem fillL_VR {ρ : Ren} (place : Nat → Option (Nat × Nat)) : ∀ (ps ps' : List (Nat × Value)) (c c' r : List Value), LR ρ c c' → PR ρ ps ps' → fillL place c ps = some r →
    ∃ r', fillL place c' ps' = some r' ∧ LR ρ r r' := by
  intro ps
  induction ps with
  | nil =>
    intro ps' c c' r h hp hf
    have : ps' = [] := List.eq_nil_of_length_eq_zero hp.1.symm
    subst this
    cases hf; exact ⟨_, rfl, h⟩
  | cons p ps ih =>
    intro ps' c c' r h hp hf
    cases ps' with
    | nil => have := hp.1; simp at this
    | cons p' ps' =>
      obtain ⟨i, v⟩ := p
      obtain ⟨i', v'⟩ := p'
      obtain ⟨hi, hv⟩ := hp.2 0 _ _ rfl rfl
      simp only at hi; subst hi
      have ht : PR ρ ps ps' := ⟨by simpa using hp.1, fun j q q' a b => hp.2 (j + 1) q q' (by simpa using a) (by simpa using b)⟩
      simp only [fillL] at hf ⊢
      cases hpl : place i with
      | none => simp [hpl] at hf
      | some q =>
        obtain ⟨off, size⟩ := q
        simp only [hpl] at hf ⊢
        have hc := hv.cells
        have hsz : v'.cells.size = v.cells.size := by have := hc.1; simp at this; omega
        split at hf
        · cases hf
        · rename_i hn
          rw [if_neg (by rw [hsz, ← h.1]; exact hn)]
          exact ih ps' _ _ _ (LR.setL _ _ _ _ _ h hc) ht hf

def sizesOf (P : Program) : List Field → Option (List (Nat × Nat))
  | [] => some []
  | f :: fs => match P.info? f.type, sizesOf P fs with
    | some i, some r => some ((f.offset, i.size) :: r)
    | _, _ => none

theorem sizesOf_run {P : Program} (w : World) : ∀ (fs : List Field) (r : List (Nat × Nat)), sizesOf P fs = some r →
    (fs.mapM (fun f => do pure (f.offset, ← sizeOf f.type)) : Sem (List (Nat × Nat))).run P w = .ok r w := by
  intro fs
  induction fs with
  | nil => intro r h; cases h; simp
  | cons f fs ih =>
    intro r h
    simp only [sizesOf] at h
    split at h
    · rename_i i r' hi hr
      cases h
      simp only [List.mapM_cons, Sem.run_bind, r_size w hi, Result.andThen_ok, Sem.run_pure, ih r' hr]
    · cases h

def aBuild (P : Program) (t : TypeId) (ps : List (Nat × Value)) : Option Value :=
  match P.info? t with
  | none => none
  | some i =>
    match i.zero with
    | none => none
    | some z =>
      if plain 9 z = false then none else
      match P.underlying t with
      | some (.struct fs) =>
        match sizesOf P fs.toList with
        | some pl => (fillL (fun (k : Nat) => pl[k]?) z.cells.toList ps).map fun c => .agg c.toArray
        | none => none
      | some (.array _ e) =>
        match P.info? e with
        | some ie => (fillL (fun k => some (k * ie.size, ie.size)) z.cells.toList ps).map fun c => .agg c.toArray
        | none => none
      | _ => none

theorem aBuild_run {P : Program} {ρ : Ren} {t : TypeId} {ps : List (Nat × Value)} {ps' : Array (Nat × Value)} {v : Value} (hp : PR ρ ps ps'.toList) (h : aBuild P t ps = some v) (w : World) : Rd P ρ w (Instr.build t ps') v := by
  unfold aBuild at h
  cases hi : P.info? t with
  | none => simp [hi] at h
  | some i =>
    simp only [hi] at h
    cases hz : i.zero with
    | none => simp [hz] at h
    | some z =>
      simp only [hz] at h
      split at h
      · cases h
      · rename_i hpl
        have hzr : LR ρ z.cells.toList z.cells.toList := (plain_VR ρ 9 z (by simpa using hpl)).cells
        cases hd : P.underlying t with
        | none => simp [hd] at h
        | some d =>
          simp only [hd] at h
          split at h
          · rename_i fs e
            cases e
            cases hs : sizesOf P fs.toList with
            | none => simp [hs] at h
            | some pl =>
              simp only [hs, Option.map_eq_some_iff] at h
              obtain ⟨c, hc, rfl⟩ := h
              obtain ⟨c', hc', hl⟩ := fillL_VR _ ps ps'.toList _ _ _ hzr hp hc
              refine ⟨.agg c'.toArray, ?_, hl.toAgg⟩
              have hm : (fs.mapM (fun f => do pure (f.offset, ← sizeOf f.type)) : Sem (Array (Nat × Nat))).run P w = .ok pl.toArray w := by
                rw [Array.mapM_eq_mapM_toList]
                simp only [Sem.run_map, sizesOf_run w _ _ hs, Result.andThen_ok]
              have hf : Instr.fill (fun (k : Nat) => pl.toArray[k]?) z.cells ps'.toList = some c'.toArray := by
                rw [fill_eq]
                have : (fun (k : Nat) => pl.toArray[k]?) = fun (k : Nat) => pl[k]? := by funext k; simp
                rw [this, hc']; rfl
              simp only [Instr.build, Sem.run_bind, r_zero w hi hz, Result.andThen_ok, r_under w hd, hm, hf, Sem.run_pure]
          · rename_i n e eq
            cases eq
            cases he : P.info? e with
            | none => simp [he] at h
            | some ie =>
              simp only [he, Option.map_eq_some_iff] at h
              obtain ⟨c, hc, rfl⟩ := h
              obtain ⟨c', hc', hl⟩ := fillL_VR _ ps ps'.toList _ _ _ hzr hp hc
              refine ⟨.agg c'.toArray, ?_, hl.toAgg⟩
              have hf : Instr.fill (fun k => some (k * ie.size, ie.size)) z.cells ps'.toList = some c'.toArray := by
                rw [fill_eq, hc']; rfl
              simp only [Instr.build, Sem.run_bind, r_zero w hi hz, Result.andThen_ok, r_under w hd, r_size w he, hf, Sem.run_pure]
          · cases h

/-- n times the cells of a zero. -/
def zeros (z : List Value) (n : Nat) : List Value := (List.range (n * z.length)).map fun k => z.getD (k % z.length) undef

theorem zeros_one (v : Value) (n : Nat) : zeros [v] n = List.replicate n v := by
  unfold zeros
  apply List.ext_getElem?
  intro i
  by_cases hi : i < n
  · simp [hi, Nat.mod_one]
  · simp [hi]

theorem zeros_VR {ρ : Ren} {z : Value} (hz : plain 9 z = true) (n : Nat) : LR ρ (zeros z.cells.toList n) (zeros z.cells.toList n) := by
  refine LR.of_refl fun v hv => ?_
  unfold zeros at hv
  obtain ⟨k, _, rfl⟩ := List.mem_map.1 hv
  have hl := (plain_VR ρ 9 z hz).cells
  by_cases h0 : k % z.cells.toList.length < z.cells.toList.length
  · rw [List.getD_eq_getElem?_getD, List.getElem?_eq_getElem h0]
    exact hl.2 _ _ _ (List.getElem?_eq_getElem h0) (List.getElem?_eq_getElem h0)
  · rw [List.getD_eq_getElem?_getD, List.getElem?_eq_none (Nat.le_of_not_lt h0)]
    exact VR.undef ρ

theorem zeros_get (z : Array Value) (n : Nat) : (Array.range (n * z.size)).map (fun k => z[k % z.size]!) = (zeros z.toList n).toArray := by
  apply Array.ext'
  simp only [Array.toList_map, Array.toList_range, zeros, Array.length_toList]
  apply List.map_congr_left
  intro k hk
  have hpos : 0 < z.size := by
    rcases Nat.eq_zero_or_pos z.size with h | h
    · rw [h] at hk; simp at hk
    · exact h
  have hlt : k % z.size < z.size := Nat.mod_lt _ hpos
  rw [List.getD_eq_getElem?_getD, Array.getElem?_toList, getElem!_pos z _ hlt, Array.getElem?_eq_getElem hlt]; rfl

def aBuildSlice (P : Program) (t : TypeId) (len : Nat) (ps : List (Nat × Value)) (h : AH) : Option (Value × AH) :=
  match P.underlying t with
  | some (.slice e) =>
    match P.info? e with
    | some ie =>
      match ie.zero with
      | some z =>
        if plain 9 z = true ∧ z.cells.size = ie.size ∧ len * ie.size ≤ 16777216 ∧ len < SL then
          match fillL (fun k => some (k * ie.size, ie.size)) (zeros z.cells.toList len) ps with
          | some c => if c.all oneC = true then some (.slice (some ⟨h.next, 0, none⟩) len len, h.new (.row c e true)) else none
          | none => none
        else none
      | none => none
    | none => none
  | _ => none

theorem aBuildSlice_snd {P : Program} {ρ : Ren} {h h' : AH} {w : World} {t : TypeId} {len : Nat} {ps : List (Nat × Value)} {ps' : Array (Nat × Value)} {v : Value} (hr : HR ρ h w) (hp : PR ρ ps ps'.toList)
    (hv : aBuildSlice P t len ps h = some (v, h')) : Snd P ρ h w (Instr.buildSlice t len ps') v h' := by
  unfold aBuildSlice at hv
  cases hd : P.underlying t with
  | none => simp [hd] at hv
  | some d =>
    simp only [hd] at hv
    split at hv
    case h_2 => cases hv
    rename_i e eq
    cases eq
    cases he : P.info? e with
    | none => simp [he] at hv
    | some ie =>
      simp only [he] at hv
      cases hz : ie.zero with
      | none => simp [hz] at hv
      | some z =>
        simp only [hz] at hv
        split at hv
        case isFalse => cases hv
        rename_i hc
        obtain ⟨hpl, hzs, hle, hlt⟩ := hc
        split at hv
        case h_2 => cases hv
        rename_i c hf
        split at hv
        case isFalse => cases hv
        rename_i hone
        cases hv
        obtain ⟨c', hc', hl⟩ := fillL_VR _ ps ps'.toList _ _ _ (zeros_VR hpl len) hp hf
        obtain ⟨ρ', w', hrun, hq, hr', hf'⟩ := hr.newRow P (e := e) hl (List.all_eq_true.1 hone)
        refine ⟨ρ', .slice (some ⟨w.heap.size, 0, none⟩) len len, w', ?_, ?_, hr', hf'⟩
        · have hnot : ¬ len * ie.size > 2 ^ 24 := by omega
          simp only [Instr.buildSlice, Sem.run_bind, r_under w hd, Result.andThen_ok, r_size w he, hnot, if_false]
          by_cases h0 : len * ie.size = 0
          · have hz0 : zeros z.cells.toList len = [] := by unfold zeros; rw [Array.length_toList, hzs, h0]; rfl
            rw [hz0] at hc'
            simp only [h0, if_true]
            have hfl : Instr.fill (fun i => some (i * ie.size, ie.size)) ((Array.range 0).map fun x => (#[] : Array Value)[x % (#[] : Array Value).size]!) ps'.toList = some c'.toArray := by
              rw [fill_eq]; simp [hc']
            simp only [hfl, Sem.run_bind, hrun, Result.andThen_ok, Sem.run_pure]
          · simp only [h0, if_false, r_zero w he hz, Result.andThen_ok, Sem.run_bind, Sem.run_pure]
            have hfl : Instr.fill (fun i => some (i * ie.size, ie.size)) ((Array.range (len * ie.size)).map fun x => z.cells[x % z.cells.size]!) ps'.toList = some c'.toArray := by
              rw [fill_eq, ← hzs, zeros_get, hzs, hc']; rfl
            simp only [hfl, Sem.run_bind, hrun, Result.andThen_ok, Sem.run_pure]
        · have := VR.slice (ρ := ρ') (off := 0) (l := len) hq hlt; simpa using this

def aMakeSlice (P : Program) (t : TypeId) (l c : Value) (h : AH) : Option (Value × AH) :=
  match P.underlying t, l, c with
  | some (.slice e), .int _ ln, .int _ cn =>
    match P.info? e with
    | some ie =>
      match ie.zero with
      | some z =>
        if 0 ≤ ln ∧ ln ≤ cn ∧ cn.toNat * ie.bytes ≤ 281474976710656 ∧ cn ≤ 9223372036854775807 ∧ plain 9 z = true ∧ z.cells.size = ie.size ∧ z.cells.toList.all oneC = true then
          some (.slice (some ⟨h.next, 0, none⟩) ln.toNat cn.toNat, h.new (.row (zeros z.cells.toList cn.toNat) e true))
        else none
      | none => none
    | none => none
  | _, _, _ => none

theorem zeros_oneC {z : List Value} (hz : z.all oneC = true) (n : Nat) : ∀ v ∈ zeros z n, oneC v = true := by
  intro v hv
  unfold zeros at hv
  obtain ⟨k, hk, rfl⟩ := List.mem_map.1 hv
  have hpos : 0 < z.length := by
    rcases Nat.eq_zero_or_pos z.length with h | h
    · rw [h] at hk; simp at hk
    · exact h
  have h0 : k % z.length < z.length := Nat.mod_lt _ hpos
  rw [List.getD_eq_getElem?_getD, List.getElem?_eq_getElem h0]
  exact List.all_eq_true.1 hz _ (List.getElem_mem h0)

theorem aMakeSlice_snd {P : Program} {ρ : Ren} {h h' : AH} {w : World} {t : TypeId} {l c l' c' v : Value} (hr : HR ρ h w) (hl : VR ρ l l') (hc : VR ρ c c') (hv : aMakeSlice P t l c h = some (v, h')) :
    Snd P ρ h w (Instr.makeSlice t l' c') v h' := by
  unfold aMakeSlice at hv
  split at hv
  case h_2 => cases hv
  rename_i e kl ln kc cn hd
  cases hl; cases hc
  cases he : P.info? e with
  | none => simp [he] at hv
  | some ie =>
    simp only [he] at hv
    cases hz : ie.zero with
    | none => simp [hz] at hv
    | some z =>
      simp only [hz] at hv
      split at hv
      case isFalse => cases hv
      rename_i hb
      obtain ⟨h0, hlc, hby, h63, hpl, hzs, hone⟩ := hb
      cases hv
      have hby' : (ie.bytes : Int) * cn ≤ 281474976710656 := by
        have hcn : ((cn.toNat : Nat) : Int) = cn := Int.toNat_of_nonneg (by omega)
        have : (((cn.toNat * ie.bytes : Nat)) : Int) ≤ 281474976710656 := by omega
        rw [Int.natCast_mul, hcn, Int.mul_comm] at this; exact this
      have hrun := run_make (P := P) w t e ie z hd he hz kl kc ln cn h0 hlc hby' h63
      obtain ⟨ρ', w', hnew, hq, hr', hf'⟩ := hr.newRow P (e := e) (zeros_VR hpl cn.toNat) (zeros_oneC hone cn.toNat)
      have hmade : madeCells z.cells (cn.toNat * ie.size) = (zeros z.cells.toList cn.toNat).toArray := by
        unfold madeCells; rw [← hzs]; exact zeros_get z.cells cn.toNat
      have hw' : w' = w.alloc (.cells (madeCells z.cells (cn.toNat * ie.size)) e) := by
        rw [hmade]
        simp only [newRow, Sem.run_bind, run_newObj, Result.andThen_ok, Sem.run_pure] at hnew
        injection hnew with _ h2
        exact h2.symm
      refine ⟨ρ', _, w', by rw [hw']; exact hrun, ?_, hr', hf'⟩
      have := VR.slice (ρ := ρ') (off := 0) (l := ln.toNat) (c := cn.toNat) hq (by unfold SL; omega)
      simpa using this

theorem aMakeMap_snd {P : Program} {ρ : Ren} {h : AH} {w : World} (t : TypeId) (hr : HR ρ h w) :
    Snd P ρ h w (Instr.makeMap t none) (.map (some h.next)) (h.new (.map [] 0)) := by
  obtain ⟨a, b⟩ := hr.alloc (x := .map #[] 0) (o := .map [] 0) (w' := { w with heap := w.heap.push (.map #[] 0) }) (base := 0) (lim := 0) rfl
    (fun ρ' _ _ => ⟨#[], by simp, rfl, fun i e e' x _ => by simp at x⟩)
  exact ⟨_, .map (some w.heap.size), _, by simp [Instr.makeMap], .map (Ren.put_same _ _ _), a, b⟩

theorem PR.of_map {ρ : Ren} {ps : Array (Nat × Operand)} {ev ev' : Operand → Value} (h : ∀ p ∈ ps.toList, VR ρ (ev p.2) (ev' p.2)) :
    PR ρ (ps.toList.map fun p => (p.1, ev p.2)) ((ps.map fun (i, x) => (i, ev' x)).toList) := by
  refine ⟨by simp, fun i p p' a b => ?_⟩
  simp only [Array.toList_map, List.getElem?_map, Option.map_eq_some_iff] at a b
  obtain ⟨x, hx, rfl⟩ := a
  obtain ⟨y, hy, rfl⟩ := b
  rw [hx] at hy; cases hy
  exact ⟨rfl, h x (List.mem_of_getElem? hx)⟩

end Go.Ab

namespace Go.Ab

def isKeyT : TypeDesc → Bool
  | .int _ | .string | .bool => true
  | _ => false

theorem checkKey_run {P : Program} {b : Bool} {n : Nat} {t : TypeId} {d : TypeDesc} {v : Value} (hd : P.underlying t = some d) (hk : isKeyT d = true) (w : World) : (Instr.checkKey b (n + 1) t v).run P w = .ok () w := by
  unfold Instr.checkKey
  simp only [Sem.run_bind, r_under w hd, Result.andThen_ok]
  cases d <;> simp_all [isKeyT]

theorem sameNow_VR {ρ : Ren} {d : TypeDesc} {a b a' b' : Value} {r : Bool} (ha : VR ρ a a') (hb : VR ρ b b') (h : Instr.sameNow d a b = some r) : Instr.sameNow d a' b' = some r := by
  unfold Instr.sameNow at h
  split at h
  · cases ha; cases hb; exact h
  · cases ha; cases hb; exact h
  · cases ha; cases hb; exact h
  · cases h

theorem sameNow_true {ρ : Ren} {d : TypeDesc} {a b a' b' : Value} (ha : VR ρ a a') (hb : VR ρ b b') (h : Instr.sameNow d a b = some true) : Instr.sameBits 10000 b' a' = true := by
  unfold Instr.sameNow at h
  split at h
  · cases ha; cases hb
    split at h
    · rename_i e; subst e; simp at h; subst h; simp [Instr.sameBits]
    · cases h
  · cases ha; cases hb
    rename_i a b
    simp only [Option.some.injEq] at h
    show (b == a) = true
    rw [beq_toListBytes, beq_iff_eq] at h
    rw [beq_toListBytes, beq_iff_eq]; exact h.symm
  · cases ha; cases hb; simp only [Option.some.injEq] at h; rw [beq_iff_eq] at h; subst h; simp [Instr.sameBits]
  · cases h

theorem ER.nil (ρ : Ren) : ER ρ [] [] := ⟨rfl, fun i e e' x _ => by simp at x⟩
theorem ER.uncons {ρ : Ren} {e : MapEntry} {es es' : List MapEntry} (h : ER ρ (e :: es) es') :
    ∃ e' r, es' = e' :: r ∧ e.born = e'.born ∧ VR ρ e.key e'.key ∧ VR ρ e.val e'.val ∧ ER ρ es r := by
  cases es' with
  | nil => have := h.1; simp at this
  | cons e' r =>
    obtain ⟨a, b, c⟩ := h.2 0 e e' rfl rfl
    exact ⟨e', r, rfl, a, b, c, by simpa using h.1, fun i x x' p q => h.2 (i + 1) x x' (by simpa using p) (by simpa using q)⟩
theorem ER.cons {ρ : Ren} {e e' : MapEntry} {es es' : List MapEntry} (a : e.born = e'.born) (b : VR ρ e.key e'.key) (c : VR ρ e.val e'.val) (h : ER ρ es es') : ER ρ (e :: es) (e' :: es') := by
  refine ⟨by simp [h.1], fun i x x' p q => ?_⟩
  cases i with
  | zero => simp at p q; subst p; subst q; exact ⟨a, b, c⟩
  | succ i => simp at p q; exact h.2 i x x' p q
theorem ER.filter {ρ : Ren} (p : Nat → Bool) : ∀ {es es' : List MapEntry}, ER ρ es es' → ER ρ (es.filter fun e => p e.born) (es'.filter fun e => p e.born) := by
  intro es
  induction es with
  | nil => intro es' h; have : es' = [] := List.eq_nil_of_length_eq_zero h.1.symm; subst this; exact ER.nil _
  | cons e es ih =>
    intro es' h
    obtain ⟨e', r, rfl, a, b, c, hr⟩ := h.uncons
    simp only [List.filter_cons, ← a]
    split
    · exact ER.cons a b c (ih hr)
    · exact ih hr
theorem ER.append {ρ : Ren} : ∀ {es es' fs fs' : List MapEntry}, ER ρ es es' → ER ρ fs fs' → ER ρ (es ++ fs) (es' ++ fs') := by
  intro es
  induction es with
  | nil => intro es' fs fs' h g; have : es' = [] := List.eq_nil_of_length_eq_zero h.1.symm; subst this; exact g
  | cons e es ih =>
    intro es' fs fs' h g
    obtain ⟨e', r, rfl, a, b, c, hr⟩ := h.uncons
    exact ER.cons a b c (ih hr g)
theorem ER.modify {ρ : Ren} {f f' : MapEntry → MapEntry} (hf : ∀ e e', e.born = e'.born → VR ρ e.key e'.key → VR ρ e.val e'.val → (f e).born = (f' e').born ∧ VR ρ (f e).key (f' e').key ∧ VR ρ (f e).val (f' e').val)
    {es es' : List MapEntry} (h : ER ρ es es') (i : Nat) : ER ρ (es.modify i f) (es'.modify i f') := by
  refine ⟨by simp [h.1], fun j x x' p q => ?_⟩
  rw [List.getElem?_modify] at p q
  cases hx : es[j]? with
  | none => simp [hx] at p
  | some e =>
    cases hx' : es'[j]? with
    | none => simp [hx'] at q
    | some e' =>
      obtain ⟨a, b, c⟩ := h.2 j e e' hx hx'
      rw [hx] at p; rw [hx'] at q
      simp only [Option.map_eq_map, Option.map_some, Option.some.injEq] at p q
      by_cases e0 : i = j
      · rw [if_pos e0] at p q; subst p; subst q; exact hf e e' a b c
      · rw [if_neg e0] at p q; subst p; subst q; exact ⟨a, b, c⟩
theorem ER.eraseIdx {ρ : Ren} : ∀ {es es' : List MapEntry} (i : Nat), ER ρ es es' → ER ρ (es.eraseIdx i) (es'.eraseIdx i) := by
  intro es
  induction es with
  | nil => intro es' i h; have : es' = [] := List.eq_nil_of_length_eq_zero h.1.symm; subst this; simpa using ER.nil ρ
  | cons e es ih =>
    intro es' i h
    obtain ⟨e', r, rfl, a, b, c, hr⟩ := h.uncons
    cases i with
    | zero => simpa using hr
    | succ i => simpa using ER.cons a b c (ih i hr)

theorem findNow_VR {ρ : Ren} {d : TypeDesc} {k k' : Value} (hk : VR ρ k k') : ∀ (es es' : List MapEntry) (i : Nat) (r : Option (Nat × Value)), ER ρ es es' → Instr.findNow d k es i = some r →
    ∃ r', Instr.findNow d k' es' i = some r' ∧ (match r, r' with | none, none => True | some (a, v), some (b, v') => a = b ∧ VR ρ v v' | _, _ => False) := by
  intro es
  induction es with
  | nil =>
    intro es' i r h hf
    have : es' = [] := List.eq_nil_of_length_eq_zero h.1.symm
    subst this
    simp only [Instr.findNow, Option.some.injEq] at hf; subst hf
    exact ⟨none, rfl, trivial⟩
  | cons e es ih =>
    intro es' i r h hf
    obtain ⟨e', q, rfl, a, b, c, hr⟩ := h.uncons
    simp only [Instr.findNow] at hf ⊢
    cases hs : Instr.sameNow d k e.key with
    | none => simp [hs] at hf
    | some t =>
      rw [sameNow_VR hk b hs]
      cases t with
      | true => simp only [hs, Option.some.injEq] at hf; subst hf; exact ⟨_, rfl, rfl, c⟩
      | false => simp only [hs] at hf; exact ih q (i + 1) r hr hf

theorem findNow_at {d : TypeDesc} {k : Value} : ∀ (es : List MapEntry) (i j : Nat) (v : Value), Instr.findNow d k es i = some (some (j, v)) → i ≤ j ∧ ∃ e, es[j - i]? = some e ∧ e.val = v ∧ Instr.sameNow d k e.key = some true := by
  intro es
  induction es with
  | nil => intro i j v h; simp [Instr.findNow] at h
  | cons e es ih =>
    intro i j v h
    simp only [Instr.findNow] at h
    cases hs : Instr.sameNow d k e.key with
    | none => simp [hs] at h
    | some t =>
      cases t with
      | true =>
        simp only [hs, Option.some.injEq, Prod.mk.injEq] at h
        obtain ⟨rfl, rfl⟩ := h
        exact ⟨Nat.le_refl _, e, by simp, rfl, hs⟩
      | false =>
        simp only [hs] at h
        obtain ⟨hle, e', he', hv, hs'⟩ := ih (i + 1) j v h
        refine ⟨by omega, e', ?_, hv, hs'⟩
        rw [show j - i = (j - (i + 1)) + 1 by omega]; simpa using he'

theorem findKey_run {P : Program} {t : TypeId} {d : TypeDesc} {k : Value} {es : List MapEntry} {r : Option (Nat × Value)} (hd : P.underlying t = some d) (h : Instr.findNow d k es 0 = some r) (w : World) :
    (Instr.findKey t k es).run P w = .ok r w := by
  simp only [Instr.findKey, Sem.run_bind, r_under w hd, Result.andThen_ok, h, Sem.run_pure]

def mapAt (h : AH) : Value → Option (List MapEntry × Nat)
  | .map (some M) => match h.get M with
    | some (.map es clk) => some (es, clk)
    | _ => none
  | _ => none

theorem mapAt_run {ρ : Ren} {h : AH} {w : World} {m m' : Value} {es : List MapEntry} {clk : Nat} (hr : HR ρ h w) (hm : VR ρ m m') (ha : mapAt h m = some (es, clk)) :
    ∃ M r es', m = .map (some M) ∧ m' = .map (some r.blk) ∧ ρ M = some r ∧ h.get M = some (.map es clk) ∧ w.heap[r.blk]? = some (.map es' clk) ∧ ER ρ es es'.toList := by
  unfold mapAt at ha
  split at ha
  · rename_i M
    split at ha
    · rename_i es0 clk0 hg
      cases ha
      cases hm with
      | map hq =>
        rename_i r
        obtain ⟨q, eq, hor⟩ := hr.obj M _ hg
        rw [hq] at eq; cases eq
        obtain ⟨es', hh, he⟩ := hor
        exact ⟨M, r, es', rfl, rfl, hq, hg, hh, he⟩
    · cases ha
  · cases ha

theorem getObj_run {P : Program} {w : World} {b : Nat} {o : Obj} (h : w.heap[b]? = some o) (ho : ∀ c e f, o ≠ .cells c e f) : (getObj b).run P w = .ok o w := by
  cases o <;> first | (simp only [getObj, Sem.run, h]; done) | exact absurd rfl (ho _ _ _)
theorem setObj_run {P : Program} {w : World} {b : Nat} {o o' : Obj} (h : w.heap[b]? = some o) (ho : ∀ c e f, o ≠ .cells c e f) : (setObj b o').run P w = .ok () { w with heap := w.heap.setIfInBounds b o' } := by
  cases o <;> first | (simp only [setObj, Sem.run, h]; done) | exact absurd rfl (ho _ _ _)

/-- An object of one's own that is no row turned. -/
theorem HR.turn {ρ : Ren} {h : AH} {w : World} (hr : HR ρ h w) {A : Nat} {o o' : AObj} {r : RE} {x : Obj} (ha : h.get A = some o) (hown : o.own = true) (hq : ρ A = some r)
    (ho : OR ρ r { w with heap := w.heap.setIfInBounds r.blk x } o') :
    HR ρ (h.set A o') { w with heap := w.heap.setIfInBounds r.blk x } ∧ Frm ρ h w ρ (h.set A o') { w with heap := w.heap.setIfInBounds r.blk x } :=
  hr.store ha hown hq (by simp) (fun b hb => by simp [Array.getElem?_setIfInBounds_ne (fun e => hb e.symm)]) ho

def aLookup (P : Program) (t : TypeId) (m k : Value) (ok : Bool) (h : AH) : Option Value :=
  match P.underlying t with
  | some (.map kt e) =>
    match P.underlying kt, P.info? e with
    | some kd, some ie =>
      match ie.zero with
      | some z =>
        if isKeyT kd = false ∨ plain 9 z = false then none else
        match (match m with | .map none => some [] | m => (mapAt h m).map (·.1)) with
        | some es =>
          match Instr.findNow kd k es 0 with
          | some (some (_, v)) => some (if ok then .tuple #[v, .bool true] else v)
          | some none => some (if ok then .tuple #[z, .bool false] else z)
          | none => none
        | none => none
      | none => none
    | _, _ => none
  | _ => none

theorem VR.pair {ρ : Ren} {a b a' b' : Value} (h : VR ρ a a') (g : VR ρ b b') : VR ρ (.tuple #[a, b]) (.tuple #[a', b']) := (LR.cons h (LR.single g)).toTuple

theorem aLookup_run {P : Program} {ρ : Ren} {h : AH} {w : World} {t : TypeId} {m k m' k' v : Value} {ok : Bool} (hr : HR ρ h w) (hm : VR ρ m m') (hk : VR ρ k k') (hv : aLookup P t m k ok h = some v) :
    Rd P ρ w (Instr.lookup t m' k' ok) v := by
  unfold aLookup at hv
  split at hv
  case h_2 => cases hv
  rename_i kt e hd
  split at hv
  case h_2 => cases hv
  rename_i kd ie hkd hie
  split at hv
  case h_2 => cases hv
  rename_i z hz
  split at hv
  · cases hv
  rename_i hc
  have hkey : isKeyT kd = true := by cases hb : isKeyT kd <;> simp_all
  have hpl : plain 9 z = true := by cases hb : plain 9 z <;> simp_all
  have hzv := plain_VR ρ 9 z hpl
  have hck := fun b w => checkKey_run (P := P) (b := b) (n := 9999) (v := k') hkd hkey w
  have fin : ∀ (es : List MapEntry) (es' : Array MapEntry), ER ρ es es'.toList → ((m' = .map none ∧ es' = #[]) ∨ ∃ b clk, m' = .map (some b) ∧ w.heap[b]? = some (.map es' clk)) →
      (match Instr.findNow kd k es 0 with
          | some (some (_, v)) => some (if ok then .tuple #[v, .bool true] else v)
          | some none => some (if ok then .tuple #[z, .bool false] else z)
          | none => none) = some v → Rd P ρ w (Instr.lookup t m' k' ok) v := by
    intro es es' her hsh hv
    cases hf : Instr.findNow kd k es 0 with
    | none => simp [hf] at hv
    | some r =>
      obtain ⟨r', hf', hrr⟩ := findNow_VR hk es es'.toList 0 r her hf
      simp only [hf] at hv
      have hfk := findKey_run (P := P) hkd hf' w
      cases r with
      | none =>
        cases r' with
        | some _ => exact hrr.elim
        | none =>
          simp only [Option.some.injEq] at hv; subst hv
          refine ⟨if ok then .tuple #[z, .bool false] else z, ?_, ?_⟩
          · rcases hsh with ⟨rfl, rfl⟩ | ⟨b, clk, rfl, hb⟩
            · simp only [Instr.lookup, Sem.run_bind, r_under w hd, Result.andThen_ok, Sem.run_pure, hck, hfk, r_zero w hie hz]
            · simp only [Instr.lookup, Sem.run_bind, r_under w hd, Result.andThen_ok, Sem.run_pure, hck, hfk, r_zero w hie hz, getObj_run hb (fun _ _ _ e => by cases e)]
          · cases ok
            · exact hzv
            · exact VR.pair hzv (.bool _)
      | some p =>
        cases r' with
        | none => exact hrr.elim
        | some p' =>
          obtain ⟨i, u⟩ := p
          obtain ⟨i', u'⟩ := p'
          obtain ⟨rfl, hu⟩ := hrr
          simp only [Option.some.injEq] at hv; subst hv
          refine ⟨if ok then .tuple #[u', .bool true] else u', ?_, ?_⟩
          · rcases hsh with ⟨rfl, rfl⟩ | ⟨b, clk, rfl, hb⟩
            · simp only [Instr.lookup, Sem.run_bind, r_under w hd, Result.andThen_ok, Sem.run_pure, hck, hfk]
            · simp only [Instr.lookup, Sem.run_bind, r_under w hd, Result.andThen_ok, Sem.run_pure, hck, hfk, getObj_run hb (fun _ _ _ e => by cases e)]
          · cases ok
            · exact hu
            · exact VR.pair hu (.bool _)
  by_cases hnil : m = .map none
  · subst hnil
    cases hm
    exact fin [] #[] (ER.nil _) (.inl ⟨rfl, rfl⟩) (by simpa using hv)
  · have hv' : (match (mapAt h m).map (·.1) with
        | some es => (match Instr.findNow kd k es 0 with
          | some (some (_, v)) => some (if ok then .tuple #[v, .bool true] else v)
          | some none => some (if ok then .tuple #[z, .bool false] else z)
          | none => none)
        | none => none) = some v := by
      cases m with
      | map o => cases o with
        | none => exact absurd rfl hnil
        | some _ => exact hv
      | _ => exact hv
    cases ha : mapAt h m with
    | none => simp [ha] at hv'
    | some p =>
      obtain ⟨es, clk⟩ := p
      obtain ⟨M, r, es', rfl, rfl, hq, hg, hh, her⟩ := mapAt_run hr hm ha
      exact fin es es' her (.inr ⟨_, _, rfl, hh⟩) (by simpa [ha] using hv')

/-- What a store at a key makes of the entries. -/
def putE (kd : TypeDesc) (k v : Value) (es : List MapEntry) (clk : Nat) : Option (List MapEntry × Nat) :=
  match Instr.findNow kd k es 0 with
  | some (some (i, _)) => some (es.modify i fun e => { e with key := k, val := v }, clk)
  | some none => some (es ++ [{ key := k, val := v, born := clk }], clk + 1)
  | none => none

def aUpdate (P : Program) (t : TypeId) (m k v : Value) (h : AH) : Option AH :=
  match P.underlying t, m with
  | some (.map kt _), .map (some M) =>
    match P.underlying kt, mapAt h m with
    | some kd, some (es, clk) => if isKeyT kd = false then none else (putE kd k v es clk).map fun x => h.set M (.map x.1 x.2)
    | _, _ => none
  | _, _ => none

theorem keyStays_run {P : Program} {old new : Value} (h : Instr.sameBits 10000 old new = true) (w : World) : (Instr.keyThatStays old new).run P w = .ok new w := by
  simp [Instr.keyThatStays, h]

theorem findNow_stays {ρ : Ren} {kd : TypeDesc} {k k' : Value} {es : List MapEntry} {es' : Array MapEntry} {i : Nat} {u : Value} (hk : VR ρ k k') (her : ER ρ es es'.toList)
    (hf : Instr.findNow kd k es 0 = some (some (i, u))) (P : Program) (w : World) : (Instr.keyThatStays (((es'[i]?).map (·.key)).getD k') k').run P w = .ok k' w := by
  obtain ⟨_, e, he, _, hs⟩ := findNow_at es 0 i u hf
  simp only [Nat.sub_zero] at he
  have hlt : i < es'.toList.length := by rw [← her.1]; exact (List.getElem?_eq_some_iff.1 he).1
  have hx : es'.toList[i]? = some es'.toList[i] := List.getElem?_eq_getElem hlt
  obtain ⟨_, hkk, _⟩ := her.2 i e _ he hx
  rw [Array.getElem?_toList] at hx
  rw [hx]
  exact keyStays_run (sameNow_true hk hkk hs) w

theorem aUpdate_snd {P : Program} {ρ : Ren} {h h' : AH} {w : World} {t : TypeId} {m k v m' k' v' : Value} (hr : HR ρ h w) (hm : VR ρ m m') (hk : VR ρ k k') (hvv : VR ρ v v') (hv : aUpdate P t m k v h = some h') :
    SndU P ρ h w (Instr.mapUpdate t m' k' v') h' := by
  unfold aUpdate at hv
  split at hv
  case h_2 => cases hv
  rename_i kt et M hd
  split at hv
  case h_2 => cases hv
  rename_i kd es clk hkd ha
  split at hv
  · cases hv
  rename_i hc
  have hkey : isKeyT kd = true := by cases hb : isKeyT kd <;> simp_all
  simp only [Option.map_eq_some_iff] at hv
  obtain ⟨⟨fs, c2⟩, hp, rfl⟩ := hv
  obtain ⟨M', r, es', hM, rfl, hq, hg, hh, her⟩ := mapAt_run hr hm ha
  cases hM
  have hck := fun b w => checkKey_run (P := P) (b := b) (n := 9999) (v := k') hkd hkey w
  have hlt : r.blk < w.heap.size := (Array.getElem?_eq_some_iff.1 hh).1
  unfold putE at hp
  cases hf : Instr.findNow kd k es 0 with
  | none => simp [hf] at hp
  | some x =>
    obtain ⟨x', hf', hrr⟩ := findNow_VR hk es es'.toList 0 x her hf
    have hfk := findKey_run (P := P) hkd hf' w
    simp only [hf] at hp
    cases x with
    | none =>
      cases x' with
      | some _ => exact hrr.elim
      | none =>
        simp only [Option.some.injEq, Prod.mk.injEq] at hp
        obtain ⟨rfl, rfl⟩ := hp
        have her2 : ER ρ (es ++ [{ key := k, val := v, born := clk }]) (es'.push { key := k', val := v', born := clk }).toList := by
          rw [Array.toList_push]; exact her.append (ER.cons rfl hk hvv (ER.nil _))
        obtain ⟨a, b⟩ := hr.turn (r := r) (x := .map (es'.push { key := k', val := v', born := clk }) (clk + 1)) (o' := .map (es ++ [{ key := k, val := v, born := clk }]) (clk + 1)) hg rfl hq ⟨_, by simp [hlt], her2⟩
        refine ⟨ρ, _, ?_, a, b⟩
        simp only [Instr.mapUpdate, Sem.run_bind, r_under w hd, Result.andThen_ok, getObj_run hh (fun _ _ _ e => by cases e), hck, hfk, setObj_run hh (fun _ _ _ e => by cases e)]
    | some p =>
      cases x' with
      | none => exact hrr.elim
      | some p' =>
        obtain ⟨i, u⟩ := p
        obtain ⟨i', u'⟩ := p'
        obtain ⟨rfl, hu⟩ := hrr
        simp only [Option.some.injEq, Prod.mk.injEq] at hp
        obtain ⟨rfl, rfl⟩ := hp
        have her2 : ER ρ (es.modify i fun e => { e with key := k, val := v }) (es'.modify i fun e => { e with key := k', val := v' }).toList := by
          rw [Array.toList_modify]; exact her.modify (f := fun e => { e with key := k, val := v }) (f' := fun e => { e with key := k', val := v' }) (fun e e' a _ _ => ⟨a, hk, hvv⟩) i
        obtain ⟨a, b⟩ := hr.turn (r := r) (x := .map (es'.modify i fun e => { e with key := k', val := v' }) clk) (o' := .map (es.modify i fun e => { e with key := k, val := v }) clk) hg rfl hq ⟨_, by simp [hlt], her2⟩
        refine ⟨ρ, _, ?_, a, b⟩
        simp only [Instr.mapUpdate, Sem.run_bind, r_under w hd, Result.andThen_ok, getObj_run hh (fun _ _ _ e => by cases e), hck, hfk]
        have hst := findNow_stays hk her hf P w
        rw [hst, Result.andThen_ok]
        exact setObj_run hh (fun _ _ _ e => by cases e)

end Go.Ab

namespace Go.Ab

def aEntry (P : Program) (t : TypeId) (m k : Value) (h : AH) : Option (Value × AH) :=
  match P.underlying t, m with
  | some (.map kt et), .map (some M) =>
    match P.underlying kt, mapAt h m, P.info? et with
    | some kd, some (es, clk), some ie =>
      match ie.zero with
      | some z =>
        if isKeyT kd = false ∨ plain 9 z = false then none else
        match Instr.findNow kd k es 0 with
        | some (some (i, v)) => some (.tuple #[v, .int .i64 (((es[i]?).map (·.born)).getD 0)], h.set M (.map (es.modify i fun e => { e with key := k }) clk))
        | some none => some (.tuple #[z, .int .i64 clk], h.set M (.map (es ++ [{ key := k, val := z, born := clk }]) (clk + 1)))
        | none => none
      | none => none
    | _, _, _ => none
  | _, _ => none

theorem aEntry_snd {P : Program} {ρ : Ren} {h h' : AH} {w : World} {t : TypeId} {m k v m' k' : Value} (hr : HR ρ h w) (hm : VR ρ m m') (hk : VR ρ k k') (hv : aEntry P t m k h = some (v, h')) :
    Snd P ρ h w (Instr.mapEntry t m' k') v h' := by
  unfold aEntry at hv
  split at hv
  case h_2 => cases hv
  rename_i kt et M hd
  split at hv
  case h_2 => cases hv
  rename_i kd es clk ie hkd ha hie
  split at hv
  case h_2 => cases hv
  rename_i z hz
  split at hv
  · cases hv
  rename_i hc
  have hkey : isKeyT kd = true := by cases hb : isKeyT kd <;> simp_all
  have hpl : plain 9 z = true := by cases hb : plain 9 z <;> simp_all
  have hzv := plain_VR ρ 9 z hpl
  obtain ⟨M', r, es', hM, rfl, hq, hg, hh, her⟩ := mapAt_run hr hm ha
  cases hM
  have hck := fun b w => checkKey_run (P := P) (b := b) (n := 9999) (v := k') hkd hkey w
  have hlt : r.blk < w.heap.size := (Array.getElem?_eq_some_iff.1 hh).1
  cases hf : Instr.findNow kd k es 0 with
  | none => simp [hf] at hv
  | some x =>
    obtain ⟨x', hf', hrr⟩ := findNow_VR hk es es'.toList 0 x her hf
    have hfk := findKey_run (P := P) hkd hf' w
    simp only [hf] at hv
    cases x with
    | none =>
      cases x' with
      | some _ => exact hrr.elim
      | none =>
        cases hv
        have her2 : ER ρ (es ++ [{ key := k, val := z, born := clk }]) (es'.push { key := k', val := z, born := clk }).toList := by
          rw [Array.toList_push]; exact her.append (ER.cons rfl hk hzv (ER.nil _))
        obtain ⟨a, b⟩ := hr.turn (r := r) (x := .map (es'.push { key := k', val := z, born := clk }) (clk + 1)) (o' := .map (es ++ [{ key := k, val := z, born := clk }]) (clk + 1)) hg rfl hq ⟨_, by simp [hlt], her2⟩
        refine ⟨ρ, .tuple #[z, .int .i64 clk], _, ?_, VR.pair hzv (.int _ _), a, b⟩
        simp only [Instr.mapEntry, Sem.run_bind, r_under w hd, Result.andThen_ok, getObj_run hh (fun _ _ _ e => by cases e), hck, hfk, r_zero w hie hz, setObj_run hh (fun _ _ _ e => by cases e), Sem.run_pure, goInt]
    | some p =>
      cases x' with
      | none => exact hrr.elim
      | some p' =>
        obtain ⟨i, u⟩ := p
        obtain ⟨i', u'⟩ := p'
        obtain ⟨rfl, hu⟩ := hrr
        cases hv
        have her2 : ER ρ (es.modify i fun e => { e with key := k }) (es'.modify i fun e => { e with key := k' }).toList := by
          rw [Array.toList_modify]; exact her.modify (f := fun e => { e with key := k }) (f' := fun e => { e with key := k' }) (fun e e' a _ c => ⟨a, hk, c⟩) i
        obtain ⟨a, b⟩ := hr.turn (r := r) (x := .map (es'.modify i fun e => { e with key := k' }) clk) (o' := .map (es.modify i fun e => { e with key := k }) clk) hg rfl hq ⟨_, by simp [hlt], her2⟩
        have hborn : ((es'[i]?).map (fun e => (e.born : Int))).getD 0 = ((es[i]?).map (fun e => (e.born : Int))).getD 0 := by
          obtain ⟨_, e, he, _, _⟩ := findNow_at es 0 i u hf
          simp only [Nat.sub_zero] at he
          have hlt' : i < es'.toList.length := by rw [← her.1]; exact (List.getElem?_eq_some_iff.1 he).1
          have hx : es'.toList[i]? = some es'.toList[i] := List.getElem?_eq_getElem hlt'
          obtain ⟨hb, _, _⟩ := her.2 i e _ he hx
          rw [Array.getElem?_toList] at hx
          rw [hx, he]; simp only [Option.map_some, Option.getD_some]; omega
        refine ⟨ρ, .tuple #[u', .int .i64 (((es[i]?).map (·.born)).getD 0)], _, ?_, VR.pair hu (.int _ _), a, b⟩
        simp only [Instr.mapEntry, Sem.run_bind, r_under w hd, Result.andThen_ok, getObj_run hh (fun _ _ _ e => by cases e), hck, hfk]
        have hst := findNow_stays hk her hf P w
        rw [hst, Result.andThen_ok, setObj_run hh (fun _ _ _ e => by cases e), Result.andThen_ok, hborn]
        rfl

def aEntryStore (m s v : Value) (h : AH) : Option AH :=
  match m, s with
  | .map (some M), .int _ n =>
    match mapAt h m with
    | some (es, clk) =>
      match es.findIdx? (fun e => (e.born : Int) == n) with
      | some i => some (h.set M (.map (es.modify i fun e => { e with val := v }) clk))
      | none => none
    | none => none
  | _, _ => none

theorem ER.findIdx {ρ : Ren} (n : Int) : ∀ {es es' : List MapEntry}, ER ρ es es' → es'.findIdx? (fun e => (e.born : Int) == n) = es.findIdx? (fun e => (e.born : Int) == n) := by
  intro es
  induction es with
  | nil => intro es' h; have : es' = [] := List.eq_nil_of_length_eq_zero h.1.symm; subst this; rfl
  | cons e es ih =>
    intro es' h
    obtain ⟨e', r, rfl, a, b, c, hr⟩ := h.uncons
    simp only [List.findIdx?_cons, ← a, ih hr]

theorem aEntryStore_snd {P : Program} {ρ : Ren} {h h' : AH} {w : World} {t : TypeId} {m s v m' s' v' : Value} (hr : HR ρ h w) (hm : VR ρ m m') (hs : VR ρ s s') (hvv : VR ρ v v') (hv : aEntryStore m s v h = some h') :
    SndU P ρ h w (Instr.entryStore t m' s' v') h' := by
  unfold aEntryStore at hv
  split at hv
  case h_2 => cases hv
  rename_i M k n
  cases hs
  split at hv
  case h_2 => cases hv
  rename_i es clk ha
  split at hv
  case h_2 => cases hv
  rename_i i hi
  cases hv
  obtain ⟨M', r, es', hM, rfl, hq, hg, hh, her⟩ := mapAt_run hr hm ha
  cases hM
  have hlt : r.blk < w.heap.size := (Array.getElem?_eq_some_iff.1 hh).1
  have her2 : ER ρ (es.modify i fun e => { e with val := v }) (es'.modify i fun e => { e with val := v' }).toList := by
    rw [Array.toList_modify]; exact her.modify (f := fun e => { e with val := v }) (f' := fun e => { e with val := v' }) (fun e e' a b _ => ⟨a, b, hvv⟩) i
  obtain ⟨a, b⟩ := hr.turn (r := r) (x := .map (es'.modify i fun e => { e with val := v' }) clk) (o' := .map (es.modify i fun e => { e with val := v }) clk) hg rfl hq ⟨_, by simp [hlt], her2⟩
  refine ⟨ρ, _, ?_, a, b⟩
  have hidx : es'.findIdx? (fun e => (e.born : Int) == n) = some i := by
    have e0 : es' = es'.toList.toArray := by simp
    rw [e0, List.findIdx?_toArray, her.findIdx, hi]
  simp only [Instr.entryStore, Sem.run_bind, Sem.run_pure, Result.andThen_ok, getObj_run hh (fun _ _ _ e => by cases e), asInt, asIntOf, hidx, setObj_run hh (fun _ _ _ e => by cases e)]

def aDelete (P : Program) (t : TypeId) (m k : Value) (h : AH) : Option AH :=
  match P.underlying t, m with
  | some (.map kt _), .map (some M) =>
    match P.underlying kt, mapAt h m with
    | some kd, some (es, clk) =>
      if isKeyT kd = false then none else
      match Instr.findNow kd k es 0 with
      | some (some (i, _)) => some (h.set M (.map (es.eraseIdx i) clk))
      | some none => some (h.set M (.map es clk))
      | none => none
    | _, _ => none
  | some (.map kt _), .map none => match P.underlying kt with
    | some kd => if isKeyT kd = false then none else some h
    | none => none
  | _, _ => none

theorem aDelete_snd {P : Program} {ρ : Ren} {h h' : AH} {w : World} {ts : Array TypeId} {ty t : TypeId} {m k m' k' : Value} (ht : ts[0]? = some t) (hr : HR ρ h w) (hm : VR ρ m m') (hk : VR ρ k k')
    (hv : aDelete P t m k h = some h') : Snd P ρ h w (Builtin.delete_ ts ty #[m', k']) undef h' := by
  unfold aDelete at hv
  split at hv
  case h_3 => cases hv
  · rename_i kt et M hd
    split at hv
    case h_2 => cases hv
    rename_i kd es clk hkd ha
    split at hv
    · cases hv
    rename_i hc
    have hkey : isKeyT kd = true := by cases hb : isKeyT kd <;> simp_all
    obtain ⟨M', r, es', hM, rfl, hq, hg, hh, her⟩ := mapAt_run hr hm ha
    cases hM
    have hck := fun b w => checkKey_run (P := P) (b := b) (n := 9999) (v := k') hkd hkey w
    have hlt : r.blk < w.heap.size := (Array.getElem?_eq_some_iff.1 hh).1
    cases hf : Instr.findNow kd k es 0 with
    | none => simp [hf] at hv
    | some x =>
      obtain ⟨x', hf', hrr⟩ := findNow_VR hk es es'.toList 0 x her hf
      have hfk := findKey_run (P := P) hkd hf' w
      simp only [hf] at hv
      cases x with
      | none =>
        cases x' with
        | some _ => exact hrr.elim
        | none =>
          cases hv
          obtain ⟨a, b⟩ := hr.turn (r := r) (x := .map es' clk) (o' := .map es clk) hg rfl hq ⟨_, by simp [hlt], her⟩
          refine ⟨ρ, undef, _, ?_, VR.undef _, a, b⟩
          simp only [Builtin.delete_, ht, List.getElem?_toArray, List.getElem?_cons_zero, List.getElem?_cons_succ, Sem.run_bind, r_under w hd, Result.andThen_ok, getObj_run hh (fun _ _ _ e => by cases e), hck, hfk, setObj_run hh (fun _ _ _ e => by cases e), Sem.run_pure, undef]
      | some p =>
        cases x' with
        | none => exact hrr.elim
        | some p' =>
          obtain ⟨i, u⟩ := p
          obtain ⟨i', u'⟩ := p'
          obtain ⟨rfl, hu⟩ := hrr
          cases hv
          have her2 : ER ρ (es.eraseIdx i) (es'.eraseIdxIfInBounds i).toList := by
            have : (es'.eraseIdxIfInBounds i).toList = es'.toList.eraseIdx i := by
              unfold Array.eraseIdxIfInBounds
              split
              · simp
              · rename_i hge; rw [List.eraseIdx_of_length_le (by simpa using hge)]
            rw [this]; exact ER.eraseIdx i her
          obtain ⟨a, b⟩ := hr.turn (r := r) (x := .map (es'.eraseIdxIfInBounds i) clk) (o' := .map (es.eraseIdx i) clk) hg rfl hq ⟨_, by simp [hlt], her2⟩
          refine ⟨ρ, undef, _, ?_, VR.undef _, a, b⟩
          simp only [Builtin.delete_, ht, List.getElem?_toArray, List.getElem?_cons_zero, List.getElem?_cons_succ, Sem.run_bind, r_under w hd, Result.andThen_ok, getObj_run hh (fun _ _ _ e => by cases e), hck, hfk, setObj_run hh (fun _ _ _ e => by cases e), Sem.run_pure, undef]
  · rename_i kt et hd
    split at hv
    case h_2 => cases hv
    rename_i kd hkd
    split at hv
    · cases hv
    rename_i hc
    have hkey : isKeyT kd = true := by cases hb : isKeyT kd <;> simp_all
    cases hv
    cases hm
    have hck := fun b w => checkKey_run (P := P) (b := b) (n := 9999) (v := k') hkd hkey w
    refine Snd.pure (v' := undef) hr ?_ (VR.undef _)
    simp only [Builtin.delete_, ht, List.getElem?_toArray, List.getElem?_cons_zero, List.getElem?_cons_succ, Sem.run_bind, r_under w hd, Result.andThen_ok, hck, Sem.run_pure, undef]

def aLen (P : Program) (t : TypeId) (x : Value) (h : AH) : Option Value :=
  match P.underlying t, x with
  | some .string, .string s => some (.int .i64 s.size)
  | some (.array n _), _ => some (.int .i64 n)
  | some (.slice _), .slice _ n _ => some (.int .i64 n)
  | some (.map _ _), .map none => some (.int .i64 0)
  | some (.map _ _), .map (some M) => match h.get M with
    | some (.map es _) => some (.int .i64 es.length)
    | _ => none
  | _, _ => none

theorem aLen_run {P : Program} {ρ : Ren} {h : AH} {w : World} {ts : Array TypeId} {ty t : TypeId} {x x' v : Value} (ht : ts[0]? = some t) (hr : HR ρ h w) (hx : VR ρ x x') (hv : aLen P t x h = some v) :
    Rd P ρ w (Builtin.len_ ts ty #[x']) v := by
  unfold aLen at hv
  split at hv
  · rename_i s hd; cases hx; cases hv
    exact ⟨_, by simp only [Builtin.len_, ht, List.getElem?_toArray, List.getElem?_cons_zero, Sem.run_bind, r_under w hd, Result.andThen_ok, Sem.run_pure, goInt], .int _ _⟩
  · rename_i n e hd; cases hv
    exact ⟨_, by simp only [Builtin.len_, ht, List.getElem?_toArray, List.getElem?_cons_zero, Sem.run_bind, r_under w hd, Result.andThen_ok, Sem.run_pure, goInt], .int _ _⟩
  · rename_i e a n c hd; cases hv
    cases hx <;> exact ⟨_, by simp only [Builtin.len_, ht, List.getElem?_toArray, List.getElem?_cons_zero, Sem.run_bind, r_under w hd, Result.andThen_ok, Sem.run_pure, goInt], .int _ _⟩
  · rename_i a b hd; cases hx; cases hv
    exact ⟨_, by simp only [Builtin.len_, ht, List.getElem?_toArray, List.getElem?_cons_zero, Sem.run_bind, r_under w hd, Result.andThen_ok, Sem.run_pure, goInt], .int _ _⟩
  · rename_i a b M hd
    split at hv
    · rename_i es clk hg
      cases hv
      obtain ⟨M', r, es', hM, rfl, hq, hg', hh, her⟩ := mapAt_run (es := es) (clk := clk) hr hx (by simp [mapAt, hg])
      refine ⟨.int .i64 es.length, ?_, .int _ _⟩
      have hl : es'.size = es.length := by rw [her.1]; simp
      simp only [Builtin.len_, ht, List.getElem?_toArray, List.getElem?_cons_zero, Sem.run_bind, r_under w hd, Result.andThen_ok, getObj_run hh (fun _ _ _ e => by cases e), Sem.run_pure, goInt, hl]
    · cases hv
  · cases hv

def aMin2 : Value → Value → Option Value
  | .int k x, .int _ y => some (.int k (if y < x then y else x))
  | _, _ => none
def aMax2 : Value → Value → Option Value
  | .int k x, .int _ y => some (.int k (if y > x then y else x))
  | _, _ => none
def aFold (f : Value → Value → Option Value) : Value → List Value → Option Value
  | x, [] => some x
  | x, y :: ys => match f x y with
    | some z => aFold f z ys
    | none => none

theorem aFold_run {P : Program} {ρ : Ren} {f : Value → Value → Option Value} {g : Value → Value → Sem Value} (w : World) (hfg : ∀ x y x' y' z, VR ρ x x' → VR ρ y y' → f x y = some z → ∃ z', (g x' y').run P w = .ok z' w ∧ VR ρ z z') :
    ∀ (ys ys' : List Value) (x x' v : Value), VR ρ x x' → LR ρ ys ys' → aFold f x ys = some v → ∃ v', (ys'.foldlM g x').run P w = .ok v' w ∧ VR ρ v v' := by
  intro ys
  induction ys with
  | nil =>
    intro ys' x x' v hx hl h
    have : ys' = [] := List.eq_nil_of_length_eq_zero hl.1.symm
    subst this; cases h; exact ⟨x', by simp, hx⟩
  | cons y ys ih =>
    intro ys' x x' v hx hl h
    cases ys' with
    | nil => have := hl.1; simp at this
    | cons y' ys' =>
      simp only [aFold] at h
      cases hz : f x y with
      | none => simp [hz] at h
      | some z =>
        simp only [hz] at h
        obtain ⟨z', hz', hvr⟩ := hfg x y x' y' z hx (hl.2 0 y y' rfl rfl) hz
        obtain ⟨v', hv', hv⟩ := ih ys' z z' v hvr ⟨by simpa using hl.1, fun j a b p q => hl.2 (j + 1) a b (by simpa using p) (by simpa using q)⟩ h
        exact ⟨v', by simp only [List.foldlM_cons, Sem.run_bind, hz', Result.andThen_ok, hv'], hv⟩

theorem aMin_run {P : Program} {ρ : Ren} {w : World} {ts : Array TypeId} {ty : TypeId} {x v : Value} {ys xs' : List Value} (hl : LR ρ (x :: ys) xs') (h : aFold aMin2 x ys = some v) : Rd P ρ w (Builtin.min_ ts ty xs'.toArray) v := by
  cases xs' with
  | nil => have := hl.1; simp at this
  | cons x' ys' =>
    obtain ⟨v', hv, hvr⟩ := aFold_run (P := P) (g := Builtin.min2) w (fun a b a' b' z ha hb hz => by
      unfold aMin2 at hz
      split at hz
      · cases ha; cases hb; cases hz; exact ⟨_, rfl, .int _ _⟩
      · cases hz) ys ys' x x' v (hl.2 0 x x' rfl rfl) ⟨by simpa using hl.1, fun j a b p q => hl.2 (j + 1) a b (by simpa using p) (by simpa using q)⟩ h
    exact ⟨v', by simpa [Builtin.min_] using hv, hvr⟩
theorem aMax_run {P : Program} {ρ : Ren} {w : World} {ts : Array TypeId} {ty : TypeId} {x v : Value} {ys xs' : List Value} (hl : LR ρ (x :: ys) xs') (h : aFold aMax2 x ys = some v) : Rd P ρ w (Builtin.max_ ts ty xs'.toArray) v := by
  cases xs' with
  | nil => have := hl.1; simp at this
  | cons x' ys' =>
    obtain ⟨v', hv, hvr⟩ := aFold_run (P := P) (g := Builtin.max2) w (fun a b a' b' z ha hb hz => by
      unfold aMax2 at hz
      split at hz
      · cases ha; cases hb; cases hz; exact ⟨_, rfl, .int _ _⟩
      · cases hz) ys ys' x x' v (hl.2 0 x x' rfl rfl) ⟨by simpa using hl.1, fun j a b p q => hl.2 (j + 1) a b (by simpa using p) (by simpa using q)⟩ h
    exact ⟨v', by simpa [Builtin.max_] using hv, hvr⟩

def aCopy (P : Program) (t : TypeId) (d s : Value) (h : AH) : Option (Value × AH) :=
  match P.underlying t, d, s with
  | some (.slice e), .slice da dl _, .slice sa sl sc =>
    match P.info? e with
    | some ie =>
      if min sl dl = 0 then some (.int .i64 0, h)
      else
        match srcCells ie.size (.slice sa (min sl dl) sc) h, da with
        | some (_, ys), some ⟨A, off, none⟩ =>
          match h.get A with
          | some o => (o.setCells off ys).map fun o' => (.int .i64 (min sl dl : Nat), h.set A o')
          | none => none
        | _, _ => none
    | none => none
  | _, _, _ => none

theorem VR.shorter {ρ : Ren} {a : Option Addr} {l c n : Nat} {v : Value} (h : VR ρ (.slice a l c) v) (hn : n ≤ l) (h0 : n ≠ 0 ∨ a = none) : ∃ a' c', v = .slice a' l c' ∧ VR ρ (.slice a n c) (.slice a' n c') := by
  cases h with
  | nilSlice => exact ⟨_, _, rfl, .nilSlice _ _⟩
  | slice hq hc => exact ⟨_, _, rfl, .slice hq hc⟩
  | slack hq hl hlim hc => exact ⟨_, _, rfl, .slack hq (by omega) hlim hc⟩
  | slack0 hq =>
    rcases h0 with h0 | h0
    · omega
    · cases h0
  | slip =>
    rcases h0 with h0 | h0
    · omega
    · cases h0

theorem aCopy_snd {P : Program} {ρ : Ren} {h h' : AH} {w : World} {ts : Array TypeId} {ty t : TypeId} {d s d' s' v : Value} (ht : ts[0]? = some t) (hr : HR ρ h w) (hd : VR ρ d d') (hs : VR ρ s s')
    (hv : aCopy P t d s h = some (v, h')) : Snd P ρ h w (Builtin.copy_ ts ty #[d', s']) v h' := by
  unfold aCopy at hv
  split at hv
  case h_2 => cases hv
  rename_i e da dl dc sa sl sc hu
  split at hv
  case h_2 => cases hv
  rename_i ie hie
  have hlenS : ∀ w, (Builtin.lenOf s').run P w = .ok sl w := by intro w; cases hs <;> rfl
  have hdl : ∃ da' dc', d' = .slice da' dl dc' := by cases hd <;> exact ⟨_, _, rfl⟩
  obtain ⟨da', dc', rfl⟩ := hdl
  split at hv
  · rename_i h0
    cases hv
    refine Snd.pure (v' := .int .i64 0) hr ?_ (.int _ _)
    have hf : (Builtin.firstCells ie.size 0 s').run P w = .ok #[] w := by cases hs <;> simp [Builtin.firstCells, loadCells, loadCellsFrom]
    have h0' : Nat.min sl dl = 0 := h0
    simp only [Builtin.copy_, ht, List.getElem?_toArray, List.getElem?_cons_zero, List.getElem?_cons_succ, Sem.run_bind, r_under w hu, Result.andThen_ok, hlenS, r_size w hie, h0', hf, goInt]
    cases da' <;> simp [storeCells]
  · rename_i h0
    split at hv
    case h_2 => cases hv
    rename_i n ys A off hsrc
    split at hv
    case h_2 => cases hv
    rename_i o ho
    simp only [Option.map_eq_some_iff, Prod.mk.injEq] at hv
    obtain ⟨o', hset, rfl, rfl⟩ := hv
    have hmin : min sl dl ≤ sl := Nat.min_le_left _ _
    obtain ⟨sa', sc', rfl, hvs⟩ := hs.shorter hmin (.inl h0)
    obtain ⟨hyl, hlen, ys', hlr, hfirst⟩ := srcCells_run (P := P) hr hvs hsrc
    have hone := srcCells_one hr hsrc
    have hn : n = min sl dl := by
      have := hlen w
      simp only [Builtin.lenOf, Sem.run_pure] at this
      injection this with h1 _; exact h1.symm
    subst hn
    have hb : ∃ r, ρ A = some r ∧ da' = some ⟨r.blk, r.base + off, none⟩ := by
      cases hd with
      | slice hq hc => exact ⟨_, hq, rfl⟩
      | slack hq hl hlim hc => exact ⟨_, hq, rfl⟩
      | slack0 hq => exact absurd (by simp) h0
      | slip => exact absurd (by simp) h0
    obtain ⟨r, hq, rfl⟩ := hb
    obtain ⟨w', hrun, hr', hf'⟩ := hr.stores P (off := off) ho hq hlr hone hset
    refine ⟨ρ, .int .i64 (min sl dl : Nat), w', ?_, .int _ _, hr', hf'⟩
    have hff : (Builtin.firstCells ie.size (Nat.min sl dl) (.slice sa' sl sc')).run P w = .ok ys'.toArray w := by
      have := hfirst w rfl
      cases sa' with
      | none => exact this
      | some a => exact this
    simp only [Builtin.copy_, ht, List.getElem?_toArray, List.getElem?_cons_zero, List.getElem?_cons_succ, Sem.run_bind, r_under w hu, Result.andThen_ok, hlenS, r_size w hie, hff, hrun, Sem.run_pure, goInt]

/-! ### Walks over maps -/

def aRange (P : Program) (t : TypeId) (x : Value) (h : AH) : Option (Value × AH) :=
  match P.underlying t, x with
  | some (.map _ _), .map none => some (.pointer (some ⟨h.next, 0, none⟩), h.new (.iter none 0 [] 0))
  | some (.map _ _), .map (some M) =>
    match h.get M with
    | some (.map _ clk) => some (.pointer (some ⟨h.next, 0, none⟩), h.new (.iter (some M) clk [] clk))
    | _ => none
  | _, _ => none

theorem aRange_snd {P : Program} {ρ : Ren} {h h' : AH} {w : World} {t : TypeId} {x x' v : Value} (hr : HR ρ h w) (hx : VR ρ x x') (hv : aRange P t x h = some (v, h')) :
    Snd P ρ h w (Instr.range t x') v h' := by
  unfold aRange at hv
  split at hv
  · rename_i kt et hd
    cases hx; cases hv
    obtain ⟨a, b⟩ := hr.alloc (x := .mapIter none 0 #[] 0) (o := .iter none 0 [] 0) (w' := { w with heap := w.heap.push (.mapIter none 0 #[] 0) }) (base := 0) (lim := 0) rfl
      (fun ρ' _ _ => ⟨none, by simp, rfl, rfl⟩)
    refine ⟨_, .pointer (some ⟨w.heap.size, 0, none⟩), _, ?_, ?_, a, b⟩
    · simp only [Instr.range, Sem.run_bind, r_under w hd, Result.andThen_ok, Sem.run_pure, run_newObj]
    · have := VR.ptr (ρ := ρ.put h.next ⟨w.heap.size, 0, 0⟩) (off := 0) (Ren.put_same _ _ _); simpa using this
  · rename_i kt et M hd
    split at hv
    · rename_i es clk hg
      cases hv
      obtain ⟨M', r, es', hM, rfl, hq, hg', hh, her⟩ := mapAt_run (es := es) (clk := clk) hr hx (by simp [mapAt, hg])
      cases hM
      obtain ⟨a, b⟩ := hr.alloc (x := .mapIter (some r.blk) clk #[] clk) (o := .iter (some M) clk [] clk) (w' := { w with heap := w.heap.push (.mapIter (some r.blk) clk #[] clk) }) (base := 0) (lim := 0) rfl
        (fun ρ' hle _ => ⟨some r.blk, by simp, rfl, r, hle _ _ hq, rfl⟩)
      refine ⟨_, .pointer (some ⟨w.heap.size, 0, none⟩), _, ?_, ?_, a, b⟩
      · simp only [Instr.range, Sem.run_bind, r_under w hd, Result.andThen_ok, getObj_run hh (fun _ _ _ e => by cases e), Sem.run_pure, run_newObj]
      · have := VR.ptr (ρ := ρ.put h.next ⟨w.heap.size, 0, 0⟩) (off := 0) (Ren.put_same _ _ _); simpa using this
    · cases hv
  · cases hv

theorem iterAt {ρ : Ren} {h : AH} {w : World} {I since stepped : Nat} {m : Option Nat} {seen : List Nat} {p' : Value} (hr : HR ρ h w) (hp : VR ρ (.pointer (some ⟨I, 0, none⟩)) p') (hg : h.get I = some (.iter m since seen stepped)) :
    ∃ r m', p' = .pointer (some ⟨r.blk, 0, none⟩) ∧ ρ I = some r ∧ r.base = 0 ∧ w.heap[r.blk]? = some (.mapIter m' since seen.toArray stepped) ∧ MRel ρ m m' := by
  cases hp with
  | ptr hq =>
    rename_i r
    obtain ⟨q, eq, hor⟩ := hr.obj I _ hg
    rw [hq] at eq; cases eq
    obtain ⟨m', hh, h0, hm⟩ := hor
    exact ⟨r, m', by rw [h0], hq, h0, hh, hm⟩

def aIterEntry (p : Value) (h : AH) : Option Value :=
  match p with
  | .pointer (some ⟨I, 0, none⟩) =>
    match h.get I with
    | some (.iter (some M) _ seen stepped) =>
      match seen.getLast?, h.get M with
      | some stamp, some (.map es clk) =>
        if clk = stepped then (match es.find? (fun e => e.born == stamp) with | some e => some (.tuple #[e.key, e.val]) | none => none) else none
      | _, _ => none
    | _ => none
  | _ => none

theorem ER.find {ρ : Ren} (stamp : Nat) {e : MapEntry} : ∀ {es es' : List MapEntry}, ER ρ es es' → es.find? (fun e => e.born == stamp) = some e → ∃ e', es'.find? (fun e => e.born == stamp) = some e' ∧ VR ρ e.key e'.key ∧ VR ρ e.val e'.val := by
  intro es
  induction es with
  | nil => intro es' _ h; simp at h
  | cons x es ih =>
    intro es' h hf
    obtain ⟨e', r, rfl, a, b, c, hr⟩ := h.uncons
    simp only [List.find?_cons] at hf ⊢
    rw [← a]
    split at hf
    · cases hf; exact ⟨e', rfl, b, c⟩
    · exact ih hr hf

theorem aIterEntry_run {P : Program} {ρ : Ren} {h : AH} {w : World} {p p' v : Value} (hr : HR ρ h w) (hp : VR ρ p p') (hv : aIterEntry p h = some v) : Rd P ρ w (Instr.entry p') v := by
  unfold aIterEntry at hv
  split at hv
  case h_2 => cases hv
  rename_i I
  split at hv
  case h_2 => cases hv
  rename_i M since seen stepped hg
  split at hv
  case h_2 => cases hv
  rename_i stamp es clk hs hgm
  split at hv
  case isFalse => cases hv
  rename_i hclk
  split at hv
  case h_2 => cases hv
  rename_i e hf
  cases hv
  obtain ⟨r, m', rfl, hq, h0, hh, q, hqm, rfl⟩ := iterAt hr hp hg
  obtain ⟨q', eq, hor⟩ := hr.obj M _ hgm
  rw [hqm] at eq; cases eq
  obtain ⟨es', hh', her⟩ := hor
  obtain ⟨e', hf', hk, hvv⟩ := her.find stamp hf
  refine ⟨.tuple #[e'.key, e'.val], ?_, VR.pair hk hvv⟩
  subst hclk
  have hb : seen.toArray.back? = some stamp := by rw [List.back?_toArray]; exact hs
  have hfd : es'.find? (fun x => x.born == stamp) = some e' := by
    have e0 : es' = es'.toList.toArray := by simp
    rw [e0, List.find?_toArray]; exact hf'
  simp only [Instr.entry, Sem.run_bind, getObj_run hh (fun _ _ _ e => by cases e), getObj_run hh' (fun _ _ _ e => by cases e), Sem.run_pure, Result.andThen_ok, hb, bne_self_eq_false, Bool.false_eq_true, if_false, hfd]

/-- The entries that a step of a walk may bring. -/
def candsOf (es : List MapEntry) (since : Nat) (seen : List Nat) : List (Option MapEntry) :=
  let left := es.filter fun e => !seen.contains e.born
  let old := left.filter fun e => decide (e.born < since)
  let new := left.filter fun e => decide (e.born ≥ since)
  (if old.isEmpty then [none] else []) ++ (old ++ new).map some

def nextBad (es : List MapEntry) (seen : List Nat) (last : Nat) : Bool := !seen.isEmpty && !es.isEmpty && es.all (fun e => decide (e.born ≥ last))

/-- A step of a walk over a map: what holds of every way it may go. -/
def NextW (p : Value) (h : AH) (K : Value → AH → Prop) : Prop :=
  ∃ I, p = .pointer (some ⟨I, 0, none⟩) ∧
    ((∃ a b c, h.get I = some (.iter none a b c) ∧ K (.tuple #[.bool false]) h) ∨
     (∃ M since seen stepped es clk, h.get I = some (.iter (some M) since seen stepped) ∧ h.get M = some (.map es clk) ∧ nextBad es seen stepped = false ∧
       ∀ x ∈ candsOf es since seen, match x with
         | some e => K (.tuple #[.bool true, e.key, e.val]) (h.set I (.iter (some M) since (seen ++ [e.born]) clk))
         | none => K (.tuple #[.bool false]) h))

end Go.Ab

namespace Go.Ab

def CR (ρ : Ren) (a b : Option MapEntry) : Prop :=
  match a, b with
  | none, none => True
  | some e, some e' => e.born = e'.born ∧ VR ρ e.key e'.key ∧ VR ρ e.val e'.val
  | _, _ => False

theorem isEmpty_len {α β : Type} {a : List α} {b : List β} (h : a.length = b.length) : a.isEmpty = b.isEmpty := by
  cases a <;> cases b <;> simp_all

theorem candsOf_CR {ρ : Ren} {es es' : List MapEntry} (h : ER ρ es es') (since : Nat) (seen : List Nat) :
    (candsOf es since seen).length = (candsOf es' since seen).length ∧ ∀ (i : Nat) (a b : Option MapEntry), (candsOf es since seen)[i]? = some a → (candsOf es' since seen)[i]? = some b → CR ρ a b := by
  have hl : ER ρ (es.filter fun e => !seen.contains e.born) (es'.filter fun e => !seen.contains e.born) := h.filter (fun b => !seen.contains b)
  have ho := hl.filter (fun b => decide (b < since))
  have hn := hl.filter (fun b => decide (b ≥ since))
  have hon := ho.append hn
  have hemp := isEmpty_len ho.1
  have key : ∀ (p : List (Option MapEntry)), p = [] ∨ p = [none] → ∀ (xs ys : List MapEntry), ER ρ xs ys → (p ++ xs.map some).length = (p ++ ys.map some).length ∧
      ∀ (i : Nat) (a b : Option MapEntry), (p ++ xs.map some)[i]? = some a → (p ++ ys.map some)[i]? = some b → CR ρ a b := by
    intro p hp xs ys hxy
    refine ⟨by simp [hxy.1], fun i a b ha hb => ?_⟩
    by_cases hi : i < p.length
    · rw [List.getElem?_append_left hi] at ha hb
      rw [ha] at hb; cases hb
      rcases hp with rfl | rfl
      · simp at hi
      · have : i = 0 := by simpa using hi
        subst this; simp at ha; subst ha; trivial
    · rw [List.getElem?_append_right (Nat.le_of_not_lt hi), List.getElem?_map, Option.map_eq_some_iff] at ha hb
      obtain ⟨e, he, rfl⟩ := ha
      obtain ⟨e', he', rfl⟩ := hb
      exact hxy.2 _ e e' he he'
  unfold candsOf
  simp only [hemp]
  refine key _ ?_ _ _ hon
  split
  · exact .inr rfl
  · exact .inl rfl

theorem nextBad_ER {ρ : Ren} {es es' : List MapEntry} (h : ER ρ es es') (seen : List Nat) (last : Nat) : nextBad es' seen last = nextBad es seen last := by
  unfold nextBad
  rw [isEmpty_len h.1]
  congr 1
  clear seen
  induction es generalizing es' with
  | nil => have : es' = [] := List.eq_nil_of_length_eq_zero h.1.symm; subst this; rfl
  | cons e es ih =>
    obtain ⟨e', r, rfl, a, b, c, hr⟩ := h.uncons
    simp only [List.all_cons, a, ih hr]

theorem NextW.sound {P : Program} {ρ : Ren} {h : AH} {w : World} {p p' : Value} {K : Value → AH → Prop} {ty : TypeId} (hr : HR ρ h w) (hp : VR ρ p p') (hn : NextW p h K) :
    ∃ ρ' v v' h' w', (Instr.next p' false ty).run P w = .ok v' w' ∧ K v h' ∧ VR ρ' v v' ∧ HR ρ' h' w' ∧ Frm ρ h w ρ' h' w' := by
  obtain ⟨I, rfl, hn⟩ := hn
  rcases hn with ⟨a, b, c, hg, hk⟩ | ⟨M, since, seen, stepped, es, clk, hg, hgm, hbad, hall⟩
  · obtain ⟨r, m', rfl, hq, h0, hh, hm⟩ := iterAt hr hp hg
    have hm : m' = none := hm
    subst hm
    refine ⟨ρ, _, .tuple #[.bool false], h, w, ?_, hk, (LR.single (.bool false)).toTuple, hr, Frm.refl _ _ _⟩
    simp only [Instr.next, Sem.run_bind, getObj_run hh (fun _ _ _ e => by cases e), Result.andThen_ok, Sem.run_pure]
  · obtain ⟨r, m', rfl, hq, h0, hh, hm⟩ := iterAt hr hp hg
    obtain ⟨q, hqm, rfl⟩ := hm
    obtain ⟨q', eq, hor⟩ := hr.obj M _ hgm
    rw [hqm] at eq; cases eq
    obtain ⟨es', hh', her⟩ := hor
    have hlt : r.blk < w.heap.size := (Array.getElem?_eq_some_iff.1 hh).1
    have hbad' : (!seen.toArray.isEmpty && !es'.isEmpty && es'.all (·.born ≥ stepped)) = false := by
      have := nextBad_ER her seen stepped
      rw [hbad] at this
      unfold nextBad at this
      have e0 : es' = es'.toList.toArray := by simp
      rw [e0]; simpa using this
    obtain ⟨hlen, hrel⟩ := candsOf_CR her since seen
    let C : Array (Option MapEntry) := (candsOf es'.toList since seen).toArray
    have hCe : (if ((es'.filter fun e => !seen.toArray.contains e.born).filter (·.born < since)).isEmpty then #[none] else #[]) ++
        (((es'.filter fun e => !seen.toArray.contains e.born).filter (·.born < since)) ++ ((es'.filter fun e => !seen.toArray.contains e.born).filter (·.born ≥ since))).map some = C := by
      apply Array.ext'
      have e1 : ∀ (x : Array MapEntry), x.isEmpty = x.toList.isEmpty := fun x => by simp
      simp only [C, candsOf, Array.toList_append, Array.toList_map, Array.toList_filter, e1, List.contains_toArray]
      split <;> simp
    have hpos : 0 < C.size := by
      simp only [C, List.size_toArray, candsOf, List.length_append, List.length_map]
      split
      · simp only [List.length_cons]; omega
      · rename_i hne
        simp only [List.isEmpty_iff, ← List.length_eq_zero_iff] at hne
        omega
    -- the index that is drawn
    have hdraw : ∃ c w1, c < C.size ∧ (w1.heap = w.heap ∧ Side w w1) ∧ (choose (.mapNext C.size)).run P w = .ok c w1 := by
      rw [run_choose]
      by_cases hf : (Question.mapNext C.size).forced = true
      · rw [if_pos hf]; exact ⟨0, w, hpos, ⟨rfl, Side.refl _⟩, rfl⟩
      · rw [if_neg hf]; exact ⟨w.tape w.drawn (.mapNext C.size) % C.size, { w with drawn := w.drawn + 1 }, Nat.mod_lt _ hpos, ⟨rfl, ⟨rfl, rfl, rfl⟩⟩, rfl⟩
    obtain ⟨c, w1, hc, ⟨hw1, sd1⟩, hrun⟩ := hdraw
    have hcl : c < (candsOf es'.toList since seen).length := by simpa [C] using hc
    have hca : c < (candsOf es since seen).length := by rw [hlen]; exact hcl
    have hx := List.getElem?_eq_getElem hca
    have hx' := List.getElem?_eq_getElem hcl
    have hrr := hrel c _ _ hx hx'
    have hmem := hall _ (List.getElem_mem hca)
    generalize hA : (candsOf es since seen)[c] = A at hrr hmem hx
    generalize hB : (candsOf es'.toList since seen)[c] = B at hrr hx'
    have hCc : C[c]? = some B := by simp only [C, List.getElem?_toArray]; exact hx'
    have hh1 : w1.heap[r.blk]? = some (.mapIter (some q.blk) since seen.toArray stepped) := by rw [hw1]; exact hh
    have step : (Instr.next (.pointer (some ⟨r.blk, 0, none⟩)) false ty).run P w = (match B with
        | some e => (do setObj r.blk (.mapIter (some q.blk) since (seen.toArray.push e.born) clk); Pure.pure (.tuple #[.bool true, e.key, e.val]) : Sem Value).run P w1
        | none => .ok (.tuple #[.bool false]) w1) := by
      unfold Instr.next
      simp only [Sem.run_bind, getObj_run hh (fun _ _ _ e => by cases e), Result.andThen_ok, getObj_run hh' (fun _ _ _ e => by cases e), hbad', Bool.false_eq_true, if_false]
      simp only [hCe, hrun, Result.andThen_ok, hCc]
      cases B with
      | none => rfl
      | some e => simp only [Sem.run_bind]
    cases A with
    | none =>
      cases B with
      | some _ => exact hrr.elim
      | none => exact ⟨ρ, _, _, h, w1, step, hmem, (LR.single (.bool false)).toTuple, hr.same hw1, Frm.same hw1 sd1⟩
    | some e =>
      cases B with
      | none => exact hrr.elim
      | some e' =>
        obtain ⟨hb, hk, hv⟩ := hrr
        have hr1 := hr.same hw1
        obtain ⟨a, b⟩ := hr1.turn (A := I) (r := r) (x := .mapIter (some q.blk) since (seen.toArray.push e'.born) clk) (o' := .iter (some M) since (seen ++ [e.born]) clk) hg rfl hq
          ⟨some q.blk, by simp [hw1, hlt, hb], h0, q, hqm, rfl⟩
        refine ⟨ρ, _, .tuple #[.bool true, e'.key, e'.val], _, { w1 with heap := w1.heap.setIfInBounds r.blk (.mapIter (some q.blk) since (seen.toArray.push e'.born) clk) }, ?_, hmem, (LR.cons (.bool true) (LR.cons hk (LR.single hv))).toTuple, a, (Frm.same hw1 sd1).trans b⟩
        rw [step]
        simp only [Sem.run_bind, setObj_run hh1 (fun _ _ _ e => by cases e), Result.andThen_ok, Sem.run_pure]

end Go.Ab

namespace Go.Ab

def cOK : Operand → Bool
  | .const v => plain 9 v
  | .global _ => false
  | _ => true

structure AAct where
  n : Nat
  tm : Nat → Value
  df : List Nat

def AAct.ev (a : AAct) : Operand → Value
  | .tmp t => a.tm t
  | .const v => v
  | .global _ => undef
  | .func f => .func (.func f) #[] #[]

def AAct.put (a : AAct) (d : Option Tmp) (v : Value) : AAct :=
  match d with
  | some t => { a with tm := fun i => if i = t then v else a.tm i }
  | none => a

def DR (ρ : Ren) : List Nat → List Deferred → Prop
  | [], [] => True
  | A :: as, d :: ds => (∃ r, ρ A = some r ∧ d.target = .collected r.blk) ∧ DR ρ as ds
  | _, _ => False

theorem DR.mono {ρ ρ' : Ren} (hle : ρ.le ρ') : ∀ {as : List Nat} {ds : List Deferred}, DR ρ as ds → DR ρ' as ds := by
  intro as
  induction as with
  | nil => intro ds h; cases ds <;> exact h
  | cons A as ih =>
    intro ds h
    cases ds with
    | nil => exact h
    | cons d ds => obtain ⟨⟨r, a, b⟩, h⟩ := h; exact ⟨⟨r, hle _ _ a, b⟩, ih h⟩

structure AR (ρ : Ren) (a : AAct) (c : Act) : Prop where
  size : c.tmps.size = a.n
  tmp : ∀ i, VR ρ (a.tm i) (c.tmps.getD i undef)
  df : DR ρ a.df c.defers

theorem AR.mono {ρ ρ' : Ren} (hle : ρ.le ρ') {a : AAct} {c : Act} (h : AR ρ a c) : AR ρ' a c := ⟨h.size, fun i => (h.tmp i).mono hle, h.df.mono hle⟩

theorem AR.ev {ρ : Ren} {a : AAct} {c : Act} (h : AR ρ a c) {x : Operand} (hx : cOK x = true) : VR ρ (a.ev x) (c.eval x) := by
  cases x with
  | tmp t => exact h.tmp t
  | const v => exact plain_VR ρ 9 v hx
  | global g => cases hx
  | func f => exact .func (.func f) rfl (fun i v v' a _ => by simp at a) rfl (fun i v v' a _ => by simp at a)

def dstOK (a : AAct) : Option Tmp → Prop
  | some t => t < a.n
  | none => True

theorem AR.put {ρ : Ren} {a : AAct} {c : Act} (h : AR ρ a c) {d : Option Tmp} (hd : dstOK a d) {v v' : Value} (hv : VR ρ v v') : AR ρ (a.put d v) (c.put d v') := by
  cases d with
  | none => exact h
  | some t =>
    refine ⟨by simp [Act.put, AAct.put, h.size], fun i => ?_, h.df⟩
    simp only [AAct.put, Act.put]
    have hlt : t < c.tmps.size := by rw [h.size]; exact hd
    by_cases e : i = t
    · subst e
      rw [if_pos rfl]
      simpa [Array.getD_eq_getD_getElem?, hlt] using hv
    · rw [if_neg e]
      have := h.tmp i
      rw [Array.getD_eq_getD_getElem?] at this ⊢
      rw [Array.getElem?_setIfInBounds_ne (fun x => e x.symm)]; exact this

def fence (crd : Option Nat) : Fence := { Fence.wide with round := crd }

def RD (ρ : Ren) : Option Nat → Option Nat → Prop
  | none, none => True
  | some L, some b => ∃ r, ρ L = some r ∧ r.blk = b
  | _, _ => False

theorem RD.mono {ρ ρ' : Ren} (hle : ρ.le ρ') {a b : Option Nat} (h : RD ρ a b) : RD ρ' a b := by
  cases a <;> cases b <;> first | exact h | (obtain ⟨r, x, y⟩ := h; exact ⟨r, hle _ _ x, y⟩)

/-- Code, walked on the abstract heap. 'rd': the round of a range over a function in which the code stands. -/
def AW (P : Program) (rd : Option Nat) (c : Code) (Q : Exit → AAct → AH → Prop) (a : AAct) (h : AH) : Prop :=
  ∀ (n : Nat) (ρ : Ren) (crd : Option Nat) (ca : Act) (w : World), RD ρ rd crd → AR ρ a ca → HR ρ h w →
    c.wpIn (fence crd) n P (fun e ca' w' => ∃ ρ' a' h', Q e a' h' ∧ AR ρ' a' ca' ∧ HR ρ' h' w' ∧ Frm ρ h w ρ' h' w') ca w

def Enters (P : Program) (g : FuncId) : Prop := ∃ fn, P.funcs[g]? = some fn ∧ fn.body.isSome = true ∧ (fn.name == "runtime.NumGoroutine") = false

/-- A call, on the abstract heap. -/
def ACall (P : Program) (g : FuncId) (args : List Value) (h : AH) (K : Value → AH → Prop) : Prop :=
  Enters P g ∧ ∀ (ρ : Ren) (cargs : Array Value) (w : World), LR ρ args cargs.toList → HR ρ h w →
    Calls P g cargs w fun e w' => ∃ ρ' v v' h', e = .returned v' ∧ K v h' ∧ VR ρ' v v' ∧ HR ρ' h' w' ∧ Frm ρ h w ρ' h' w'

theorem ACall.mono {P : Program} {g : FuncId} {args : List Value} {h : AH} {K K' : Value → AH → Prop} (hk : ∀ v h, K v h → K' v h) (hc : ACall P g args h K) : ACall P g args h K' :=
  ⟨hc.1, fun ρ cargs w a b => (hc.2 ρ cargs w a b).mono fun _ _ ⟨ρ', v, v', h', he, hkk, r⟩ => ⟨ρ', v, v', h', he, hk _ _ hkk, r⟩⟩

theorem AW.mono {P : Program} {rd : Option Nat} {c : Code} {Q Q' : Exit → AAct → AH → Prop} {a : AAct} {h : AH} (hq : ∀ e a h, Q e a h → Q' e a h) (hw : AW P rd c Q a h) : AW P rd c Q' a h :=
  fun n ρ crd ca w r x y => wpIn_mono (hw n ρ crd ca w r x y) fun _ _ _ ⟨ρ', a', h', q, rest⟩ => ⟨ρ', a', h', hq _ _ _ q, rest⟩

/-! ### Rounds -/

def ALoop.act (l : ALoop) (args : List Value) : AAct :=
  { n := l.n, tm := (l.params.toList.zip args).foldl (fun tm (p : Tmp × Value) => fun i => if i = p.1 then p.2 else tm i) l.tm, df := [] }

/-- The end of a round. -/
def roundQ (L : Nat) (K : Value → AH → Prop) (e : Exit) (_ : AAct) (h : AH) : Prop :=
  ∃ l, h.get L = some (.loop l) ∧
    match e with
    | .normal => K (.bool true) (h.set L (.loop { l with state := .ready, pending := none }))
    | .ret => K (.bool false) (h.set L (.loop { l with state := .done, pending := some .ret }))
    | .exit id => K (.bool false) (h.set L (.loop { l with state := .done, pending := some (.exit id) }))
    | .goto t => K (.bool false) (h.set L (.loop { l with state := .done, pending := some (.goto t) }))
    | _ => False

/-- yield, called. -/
def AYield (P : Program) (L : Nat) (args : List Value) (h : AH) (K : Value → AH → Prop) : Prop :=
  ∃ l, h.get L = some (.loop l) ∧ args.length = l.params.size ∧ (∀ p ∈ l.params.toList, p < l.n) ∧
    AW P (some L) l.assign (fun e a1 h1 => e = .normal ∧ ∃ l1, h1.get L = some (.loop l1) ∧ l1.state = .ready ∧
      AW P (some L) l.body (roundQ L K) a1 (h1.set L (.loop { l1 with state := .busy }))) (l.act args) h

theorem loopAt {ρ : Ren} {h : AH} {w : World} (hr : HR ρ h w) {L : Nat} {l : ALoop} (hg : h.get L = some (.loop l)) :
    ∃ r l' q, ρ L = some r ∧ w.heap[r.blk]? = some (.loop l') ∧ r.blk < w.heap.size ∧ l'.state = l.state ∧ l'.pending = l.pending ∧ True ∧ l'.params = l.params ∧
      l'.assign = l.assign ∧ l'.body = l.body ∧ ρ l.defers = some q ∧ l'.defers = q.blk ∧ l'.tmps.size = l.n ∧ ∀ i, VR ρ (l.tm i) (l'.tmps.getD i undef) := by
  obtain ⟨r, hq, hor⟩ := hr.obj L _ hg
  have hlt := hor.lt
  obtain ⟨l', q, hh, rest⟩ := hor
  exact ⟨r, l', q, hq, hh, hlt, rest⟩

/-- The loop's record turned, but for its temporaries. -/
theorem HR.turnLoop {ρ : Ren} {h : AH} {w : World} (hr : HR ρ h w) {L : Nat} {l : ALoop} {r : RE} {l' : Loop} (hg : h.get L = some (.loop l)) (hq : ρ L = some r) (hh : w.heap[r.blk]? = some (.loop l')) (st : LoopState) (pd : Option Code) :
    HR ρ (h.set L (.loop { l with state := st, pending := pd })) { w with heap := w.heap.setIfInBounds r.blk (.loop { l' with state := st, pending := pd }) } ∧
    Frm ρ h w ρ (h.set L (.loop { l with state := st, pending := pd })) { w with heap := w.heap.setIfInBounds r.blk (.loop { l' with state := st, pending := pd }) } := by
  obtain ⟨r2, l2, q, hq2, hh2, hlt, h1, h2, h3, h4, h5, h6, h7, h8, h9, h10⟩ := loopAt hr hg
  rw [hq] at hq2; cases hq2
  rw [hh] at hh2; cases hh2
  exact hr.turn hg rfl hq ⟨{ l' with state := st, pending := pd }, q, by simp [hlt], rfl, rfl, h3, h4, h5, h6, h7, h8, h9, h10⟩

theorem put_all {ρ : Ren} : ∀ (ps : List Tmp) (args : List Value) (cargs : List Value) (tm : Nat → Value) (ct : Array Value), args.length = ps.length → LR ρ args cargs → (∀ p ∈ ps, p < ct.size) → (∀ i, VR ρ (tm i) (ct.getD i undef)) →
    ((ps.zip cargs).foldl (fun t (p : Tmp × Value) => t.setIfInBounds p.1 p.2) ct).size = ct.size ∧
    ∀ i, VR ρ ((ps.zip args).foldl (fun tm (p : Tmp × Value) => fun i => if i = p.1 then p.2 else tm i) tm i) (((ps.zip cargs).foldl (fun t (p : Tmp × Value) => t.setIfInBounds p.1 p.2) ct).getD i undef) := by
  intro ps
  induction ps with
  | nil => intro args cargs tm ct hl hlr hp h; exact ⟨rfl, h⟩
  | cons p ps ih =>
    intro args cargs tm ct hl hlr hp h
    cases args with
    | nil => simp at hl
    | cons x xs =>
      cases cargs with
      | nil => have := hlr.1; simp at this
      | cons y ys =>
        have hx : VR ρ x y := hlr.2 0 x y rfl rfl
        simp only [List.zip_cons_cons, List.foldl_cons]
        have hpl : p < ct.size := hp p (by simp)
        obtain ⟨a, b⟩ := ih xs ys (fun i => if i = p then x else tm i) (ct.setIfInBounds p y) (by simpa using hl) ⟨by simpa using hlr.1, fun j u v s t => hlr.2 (j + 1) u v (by simpa using s) (by simpa using t)⟩
          (fun q hq => by simpa using hp q (by simp [hq])) (fun i => by
            by_cases e : i = p
            · subst e; rw [if_pos rfl]; simpa [Array.getD_eq_getD_getElem?, hpl] using hx
            · rw [if_neg e]
              have := h i
              rw [Array.getD_eq_getD_getElem?] at this ⊢
              rw [Array.getElem?_setIfInBounds_ne (fun z => e z.symm)]; exact this)
        exact ⟨a.trans (by simp), b⟩

theorem AYield.sound {P : Program} {L : Nat} {args : List Value} {h : AH} {K : Value → AH → Prop} (hy : AYield P L args h K) {n : Nat} {crd : Option Nat} {ρ : Ren} {cargs : Array Value} {w : World} {b : Nat}
    (hl : LR ρ args cargs.toList) (hr : HR ρ h w) (hb : ∃ r, ρ L = some r ∧ r.blk = b) :
    ∃ f tmps assign body, (Instr.yield b cargs).run P w = .ok (.round b f tmps assign body) w ∧
      RoundIn (fence crd) n P b f tmps assign body w fun e w' => ∃ ρ' v v' h', e = .returned v' ∧ K v h' ∧ VR ρ' v v' ∧ HR ρ' h' w' ∧ Frm ρ h w ρ' h' w' := by
  obtain ⟨l, hg, hal, hpn, haw⟩ := hy
  obtain ⟨r, l', q, hq, hh, hlt, h1, h2, h3, h4, h5, h6, h7, h8, h9, h10⟩ := loopAt hr hg
  obtain ⟨r0, hq0, rfl⟩ := hb
  rw [hq] at hq0; cases hq0
  have hsz : cargs.size = l'.params.size := by have := hl.1; rw [h4]; simp at this; omega
  refine ⟨l'.fn, _, l'.assign, l'.body, by
    simp only [Instr.yield, Instr.getLoop, Sem.run_bind, getObj_run hh (fun _ _ _ e => by cases e), Result.andThen_ok, Sem.run_pure, hsz, ne_eq, not_true_eq_false, if_false]; rfl, ?_⟩
  refine roundIn_of_wpIn trivial ?_
  have hfold : (l'.params.zip cargs).foldl (fun tmps (x : Tmp × Value) => tmps.setIfInBounds x.1 x.2) l'.tmps = (l'.params.toList.zip cargs.toList).foldl (fun t (p : Tmp × Value) => t.setIfInBounds p.1 p.2) l'.tmps := by
    rw [← Array.foldl_toList, Array.toList_zip]
  obtain ⟨hs, hv⟩ := put_all (ρ := ρ) l.params.toList args cargs.toList l.tm l'.tmps (by simpa using hal) hl (fun p hp => by rw [h9]; exact hpn p hp) h10
  have har : AR ρ (l.act args) { tmps := (l'.params.zip cargs).foldl (fun tmps (x : Tmp × Value) => tmps.setIfInBounds x.1 x.2) l'.tmps, defers := [] } := by
    refine ⟨?_, fun i => ?_, trivial⟩
    · simp only [ALoop.act]; rw [hfold, h4, hs, h9]
    · simp only [ALoop.act]; rw [hfold, h4]; exact hv i
  have hrd : RD ρ (some L) (some r.blk) := ⟨r, hq, rfl⟩
  have hfe : (fence crd).inRound r.blk = fence (some r.blk) := rfl
  rw [hfe, h5, h6]
  refine wpIn_mono (haw n ρ (some r.blk) _ w hrd har hr) ?_
  rintro e a1 w1 ⟨ρ1, aa, h', ⟨rfl, l1, hg1, hst, hbody⟩, har1, hr1, hf1⟩
  simp only [Exit.then]
  obtain ⟨rr, l1', q1, hq1, hh1, hlt1, e1, e2, e3, e4, e5, e6, e7, e8, e9, e10⟩ := loopAt hr1 hg1
  have hrr : rr = r := by have := hf1.le _ _ hq; rw [hq1] at this; cases this; rfl
  subst hrr
  obtain ⟨hr2, hf2⟩ := hr1.turnLoop hg1 hq1 hh1 .busy l1.pending
  refine ⟨{ w1 with heap := w1.heap.setIfInBounds rr.blk (.loop { l1' with state := .busy, pending := l1.pending }) }, ?_, ?_⟩
  · have hl1 : ({ l1' with state := .busy, pending := l1.pending } : Loop) = { l1' with state := .busy } := by rw [← e2]
    rw [hl1]
    have hst' : l1'.state = .ready := e1.trans hst
    simp only [Instr.beginRound, Instr.getLoop, Sem.run_bind, getObj_run hh1 (fun _ _ _ e => by cases e), Result.andThen_ok, Sem.run_pure, setObj_run hh1 (fun _ _ _ e => by cases e), hst']
  · refine wpIn_mono (hbody n ρ1 (some rr.blk) a1 _ (hrd.mono hf1.le) har1 hr2) ?_
    rintro e a2 w2 ⟨ρ2, a2', h2, ⟨l2, hg2, hk⟩, har2, hr3, hf3⟩
    obtain ⟨r3, l2', q2, hq3, hh3, _, f1, f2, f3, f4, f5, f6, f7, f8, f9, f10⟩ := loopAt hr3 hg2
    have hr3e : r3 = rr := by
      have := hf3.le _ _ hq1
      rw [hq3] at this; cases this; rfl
    subst hr3e
    have fin : ∀ (jump : Option Code) (v : Bool), v = jump.isNone → K (.bool v) (h2.set L (.loop { l2 with state := if jump.isNone then .ready else .done, pending := jump })) →
        ∃ v' w', (Instr.endRound r3.blk jump).run P w2 = .ok v' w' ∧ ∃ ρ' v v'' h', Ending.returned v' = .returned v'' ∧ K v h' ∧ VR ρ' v v'' ∧ HR ρ' h' w' ∧ Frm ρ h w ρ' h' w' := by
      intro jump v hv hk
      obtain ⟨hr4, hf4⟩ := hr3.turnLoop hg2 hq3 hh3 (if jump.isNone then .ready else .done) jump
      refine ⟨.bool v, _, ?_, ρ2, .bool v, .bool v, _, rfl, hk, .bool _, hr4, ((hf1.trans hf2).trans hf3).trans hf4⟩
      simp only [Instr.endRound, Instr.getLoop, Sem.run_bind, getObj_run hh3 (fun _ _ _ e => by cases e), Result.andThen_ok, Sem.run_pure, setObj_run hh3 (fun _ _ _ e => by cases e), hv]
    cases e with
    | normal => exact fin none true rfl hk
    | ret => exact fin (some .ret) false rfl hk
    | exit id => exact fin (some (.exit id)) false rfl hk
    | goto t => exact fin (some (.goto t)) false rfl hk
    | panic c => exact hk.elim
    | outgrown => exact hk.elim

end Go.Ab

namespace Go.Ab

def aBytes (P : Program) (s d : TypeId) (x : Value) (h : AH) : Option (Value × AH) :=
  match P.underlying s, P.underlying d, x with
  | some .string, some (.slice e), .string b =>
    match P.underlying e with
    | some (.int .u8) => if b.size < ML then some (.slice (some ⟨h.next, 0, none⟩) b.size (SL + 1), h.new (.row (b.data.toList.map fun c => .int .u8 c.toNat) e false)) else none
    | _ => none
  | _, _, _ => none

theorem aBytes_snd {P : Program} {ρ : Ren} {h h' : AH} {w : World} {s d : TypeId} {x x' v : Value} (hr : HR ρ h w) (hx : VR ρ x x') (hv : aBytes P s d x h = some (v, h')) :
    Snd P ρ h w (convert s d x') v h' := by
  unfold aBytes at hv
  split at hv
  case h_2 => cases hv
  rename_i e b hs hd
  split at hv
  case h_2 => cases hv
  rename_i he
  split at hv
  case isFalse => cases hv
  rename_i hb
  cases hv; cases hx
  have hforced : (Question.appendCap b.size 0 e).forced = false := rfl
  let cap := (Question.appendCap b.size 0 e).cut (w.tape w.drawn (.appendCap b.size 0 e))
  have hcap : b.size ≤ cap := by show b.size ≤ b.size + _; omega
  have hcS : cap ≤ 9223372036854775807 := by
    show b.size + w.tape w.drawn (.appendCap b.size 0 e) % (2 ^ 63 - b.size) ≤ 9223372036854775807
    have hb' : b.size < 4611686018427387904 := hb
    have : w.tape w.drawn (.appendCap b.size 0 e) % (2 ^ 63 - b.size) < 2 ^ 63 - b.size := Nat.mod_lt _ (by omega)
    omega
  let cc : Array Value := b.data.map (fun c => Value.int .u8 c.toNat) ++ Array.replicate (cap - b.size) (.int .u8 0)
  have hcs : cc.size = cap := by simp only [cc, Array.size_append, Array.size_map, Array.size_replicate]; show b.size + _ = _; omega
  obtain ⟨h1, h2⟩ := hr.alloc (x := .cells cc e (cc.size, cc.size + 1)) (o := .row (b.data.toList.map fun c => .int .u8 c.toNat) e false) (w' := { w with drawn := w.drawn + 1, heap := w.heap.push (.cells cc e (cc.size, cc.size + 1)) }) (base := 0) (lim := cap) rfl
    (fun ρ' hle _ => ⟨cc, (cc.size, cc.size + 1), ⟨by simp, by simp [hcs]; exact hcap, fun i v hi => by
      rw [List.getElem?_map] at hi
      simp only [Option.map_eq_some_iff] at hi
      obtain ⟨c, hc, rfl⟩ := hi
      have hlt : i < b.data.size := by simpa using (List.getElem?_eq_some_iff.1 hc).1
      refine ⟨.int .u8 c.toNat, ?_, .int _ _⟩
      simp only [Nat.zero_add, cc]
      rw [Array.getElem?_append_left (by simpa using hlt), Array.getElem?_map]
      have : b.data[i]? = some c := by simpa using hc
      rw [this]; rfl, (fun hw => by cases hw), fun v hm => by
        obtain ⟨c, _, rfl⟩ := List.mem_map.1 hm
        rfl⟩⟩)
  refine ⟨_, .slice (some ⟨w.heap.size, 0, none⟩) b.size cap, { w with drawn := w.drawn + 1, heap := w.heap.push (.cells cc e (cc.size, cc.size + 1)) }, ?_, ?_, h1, h2⟩
  · simp only [convert, Sem.run_bind, r_under w hs, r_under w hd, Result.andThen_ok, r_under w he, Conv.stringToBytes, run_choose, hforced]
    have hn : ∀ (w1 : World), w1.heap = w.heap → (newRow e cc).run P w1 = .ok ⟨w.heap.size, 0, none⟩ { w1 with heap := w.heap.push (.cells cc e (0, 0)) } := by
      intro w1 e1; rw [← e1]; rfl
    have hm : ∀ (w1 : World), w1.heap = w.heap.push (.cells cc e (0, 0)) → (markStringish ⟨w.heap.size, 0, none⟩).run P w1 = .ok () { w1 with heap := w.heap.push (.cells cc e (cc.size, cc.size + 1)) } := by
      intro w1 e1
      have hs : w1.shape? w.heap.size = some (e, cc.size) := by simp [World.shape?, e1]
      have hf : w1.freeze { block := w.heap.size, off := cc.size } 1 = { w1 with heap := w.heap.push (.cells cc e (cc.size, cc.size + 1)) } := by
        simp only [World.freeze, e1]
        have : (1 : Nat) ≠ 0 := by decide
        rw [if_neg this]
        congr 1
        apply Array.ext_getElem?
        intro i
        rw [Array.getElem?_modify, Array.getElem?_push, Array.getElem?_push]
        by_cases hi : i = w.heap.size
        · subst hi; simp
        · simp [hi, Ne.symm hi]
      have hsh : (shape w.heap.size).run P w1 = .ok (some (e, cc.size)) w1 := by rw [← hs]; rfl
      have hfr : (freeze { block := w.heap.size, off := cc.size } 1).run P w1 = .ok () (w1.freeze { block := w.heap.size, off := cc.size } 1) := rfl
      unfold markStringish
      simp only [Sem.run_bind, hsh, Result.andThen_ok]
      rw [hfr, hf]
    rw [if_neg (by decide), Result.andThen_ok]
    refine (congrArg (fun (r : Result Addr) => r.andThen _) (hn { w with drawn := w.drawn + 1 } rfl)).trans ?_
    rw [Result.andThen_ok]
    refine (congrArg (fun (r : Result Unit) => r.andThen _) (hm _ rfl)).trans ?_
    rfl
  · have := VR.slack (ρ := ρ.put h.next ⟨w.heap.size, 0, cap⟩) (A := h.next) (off := 0) (l := b.size) (c := cap) (s := 1) (Ren.put_same _ _ _) hcap (by simp) hcS
    simpa using this
end Go.Ab

namespace Go.Ab

def aBuiltin (P : Program) (b : Builtin) (ts : Array TypeId) (args : List Value) (h : AH) : Option (Value × AH) :=
  match b, args with
  | .len, [x] => match ts[0]? with
    | some t => (aLen P t x h).map fun v => (v, h)
    | none => none
  | .append, [s, x] => aAppend P ts s x h
  | .delete, [m, k] => match ts[0]? with
    | some t => (aDelete P t m k h).map fun h' => (undef, h')
    | none => none
  | .copy, [d, s] => match ts[0]? with
    | some t => aCopy P t d s h
    | none => none
  | .min, x :: xs => (aFold aMin2 x xs).map fun v => (v, h)
  | .max, x :: xs => (aFold aMax2 x xs).map fun v => (v, h)
  | _, _ => none

theorem aBuiltin_snd {P : Program} {ρ : Ren} {h h' : AH} {w : World} {b : Builtin} {ts : Array TypeId} {ty : TypeId} {cs : Array Bool} {args : List Value} {cargs : Array Value} {v : Value} (hr : HR ρ h w) (hl : LR ρ args cargs.toList)
    (hv : aBuiltin P b ts args h = some (v, h')) : ∃ ρ' v' w', (builtin b ts ty cs cargs).run P w = .ok (.value v') w' ∧ VR ρ' v v' ∧ HR ρ' h' w' ∧ Frm ρ h w ρ' h' w' := by
  have lift : ∀ {s : Sem Value}, Snd P ρ h w s v h' → ∃ ρ' v' w', (do pure (.value (← s)) : Sem Next).run P w = .ok (.value v') w' ∧ VR ρ' v v' ∧ HR ρ' h' w' ∧ Frm ρ h w ρ' h' w' := by
    rintro s ⟨ρ', v', w', a, b⟩
    exact ⟨ρ', v', w', by simp only [Sem.run_bind, a, Result.andThen_ok, Sem.run_pure], b⟩
  have two : ∀ x y, args = [x, y] → ∃ x' y', cargs = #[x', y'] ∧ VR ρ x x' ∧ VR ρ y y' := by
    rintro x y rfl
    obtain ⟨l⟩ := cargs
    match l, hl with
    | [x', y'], hl => exact ⟨x', y', rfl, hl.2 0 x x' rfl rfl, hl.2 1 y y' rfl rfl⟩
    | [], hl => have := hl.1; simp at this
    | [_], hl => have := hl.1; simp at this
    | _ :: _ :: _ :: _, hl => have := hl.1; simp at this
  have one : ∀ x, args = [x] → ∃ x', cargs = #[x'] ∧ VR ρ x x' := by
    rintro x rfl
    obtain ⟨l⟩ := cargs
    match l, hl with
    | [x'], hl => exact ⟨x', rfl, hl.2 0 x x' rfl rfl⟩
    | [], hl => have := hl.1; simp at this
    | _ :: _ :: _, hl => have := hl.1; simp at this
  unfold aBuiltin at hv
  split at hv
  · rename_i x
    obtain ⟨x', rfl, hx⟩ := one x rfl
    split at hv
    · rename_i t ht
      simp only [Option.map_eq_some_iff, Prod.mk.injEq] at hv
      obtain ⟨_, hlen, rfl, rfl⟩ := hv
      exact lift ((aLen_run (ty := ty) ht hr hx hlen).snd hr)
    · cases hv
  · rename_i s x
    obtain ⟨s', x', rfl, hs, hx⟩ := two s x rfl
    exact lift (aAppend_snd (ty := ty) hr hs hx hv)
  · rename_i m k
    obtain ⟨m', k', rfl, hm, hk⟩ := two m k rfl
    split at hv
    · rename_i t ht
      simp only [Option.map_eq_some_iff, Prod.mk.injEq] at hv
      obtain ⟨_, hdel, rfl, rfl⟩ := hv
      exact lift (aDelete_snd (ty := ty) ht hr hm hk hdel)
    · cases hv
  · rename_i d s
    obtain ⟨d', s', rfl, hd, hs⟩ := two d s rfl
    split at hv
    · rename_i t ht
      exact lift (aCopy_snd (ty := ty) ht hr hd hs hv)
    · cases hv
  · rename_i x xs
    simp only [Option.map_eq_some_iff, Prod.mk.injEq] at hv
    obtain ⟨_, hf, rfl, rfl⟩ := hv
    have := aMin_run (P := P) (w := w) (ts := ts) (ty := ty) hl hf
    exact lift (this.snd hr)
  · rename_i x xs
    simp only [Option.map_eq_some_iff, Prod.mk.injEq] at hv
    obtain ⟨_, hf, rfl, rfl⟩ := hv
    have := aMax_run (P := P) (w := w) (ts := ts) (ty := ty) hl hf
    exact lift (this.snd hr)
  · cases hv

def oev (ev : Operand → Value) : Option Operand → Option Value
  | none => none
  | some x => some (ev x)

def isConcrete (P : Program) (t : TypeId) : Bool :=
  match P.underlying t with
  | some (.interface _) | none => false
  | _ => true

/-- An operation that has one outcome. -/
def dop (P : Program) (ev : Operand → Value) (op : Op) (h : AH) : Option (Value × AH) :=
  match op with
  | .move x | .assign x => some (ev x, h)
  | .pick c x y => match ev c with
    | .bool t => some (if t then ev x else ev y, h)
    | _ => none
  | .alloc t => aAlloc P t h
  | .box t x => aBox t (ev x) h
  | .build t ps => (aBuild P t (ps.toList.map fun p => (p.1, ev p.2))).map fun v => (v, h)
  | .buildSlice t n ps => aBuildSlice P t n (ps.toList.map fun p => (p.1, ev p.2)) h
  | .load t x => (aLoad P t (ev x) h).map fun v => (v, h)
  | .store t x y => (aStore P t (ev x) (ev y) h).map fun h' => (undef, h')
  | .nilCheck x => (aNil (ev x)).map fun v => (v, h)
  | .binOp op t x y _ => (aBin P op t (ev x) (ev y)).map fun v => (v, h)
  | .unOp op _ x => (aUn op (ev x)).map fun v => (v, h)
  | .convert s d x => match aBytes P s d (ev x) h with
    | some r => some r
    | none => (aConv P s d (ev x)).map fun v => (v, h)
  | .makeInterface t x => if isConcrete P t then some (.iface t (ev x), h) else none
  | .makeFunc (.func f) a b => some (.func (.func f) (a.map ev) (b.map ev), h)
  | .makeMap _ none => some (.map (some h.next), h.new (.map [] 0))
  | .makeSlice t l c => aMakeSlice P t (ev l) (ev c) h
  | .slice t x lo hi none => (aSlice P t (ev x) (oev ev lo) (oev ev hi)).map fun v => (v, h)
  | .fieldAddr t x f => (aFieldAddr P t f (ev x)).map fun v => (v, h)
  | .field t x f => (aField P t (ev x) f).map fun v => (v, h)
  | .indexAddr t x i => (aIndexAddr P t (ev x) (ev i)).map fun v => (v, h)
  | .index t x i => (aIndex P t (ev x) (ev i)).map fun v => (v, h)
  | .lookup t x i ok => (aLookup P t (ev x) (ev i) ok h).map fun v => (v, h)
  | .mapUpdate t m k v => (aUpdate P t (ev m) (ev k) (ev v) h).map fun h' => (undef, h')
  | .insert t m k v => (aUpdate P t (ev m) (ev k) (ev v) h).map fun h' => (undef, h')
  | .mapEntry t m k => aEntry P t (ev m) (ev k) h
  | .entryStore _ m s v => (aEntryStore (ev m) (ev s) (ev v) h).map fun h' => (undef, h')
  | .range t x => aRange P t (ev x) h
  | .entry x => (aIterEntry (ev x) h).map fun v => (v, h)
  | .extract x i => (aExtract (ev x) i).map fun v => (v, h)
  | .call { callee := .builtin b, args, argTypes } => aBuiltin P b argTypes (args.toList.map ev) h
  | _ => none

def NextOK (v' : Value) (nx : Next) : Prop := nx = .value v' ∨ (nx = .skip ∧ v' = undef)

theorem dop_snd {P : Program} {ρ : Ren} {h h' : AH} {w : World} {ev ev' : Operand → Value} {o : Oper} {v : Value} (hc : o.op.operands.toList.all cOK = true) (hev : ∀ x, cOK x = true → VR ρ (ev x) (ev' x)) (hr : HR ρ h w)
    (hv : dop P ev o.op h = some (v, h')) : ∃ ρ' v' nx w', (execOp ev' o).run P w = .ok nx w' ∧ NextOK v' nx ∧ VR ρ' v v' ∧ HR ρ' h' w' ∧ Frm ρ h w ρ' h' w' := by
  obtain ⟨dst, op, type, pos, after, guard⟩ := o
  simp only at hc hv ⊢
  have lift : ∀ {s : Sem Value}, Snd P ρ h w s v h' → ∃ ρ' v' nx w', (do pure (.value (← s)) : Sem Next).run P w = .ok nx w' ∧ NextOK v' nx ∧ VR ρ' v v' ∧ HR ρ' h' w' ∧ Frm ρ h w ρ' h' w' := by
    rintro s ⟨ρ', v', w', a, b⟩
    exact ⟨ρ', v', _, w', by simp only [Sem.run_bind, a, Result.andThen_ok, Sem.run_pure], .inl rfl, b⟩
  have liftU : ∀ {s : Sem Unit}, v = undef → SndU P ρ h w s h' → ∃ ρ' v' nx w', (do s; pure .skip : Sem Next).run P w = .ok nx w' ∧ NextOK v' nx ∧ VR ρ' v v' ∧ HR ρ' h' w' ∧ Frm ρ h w ρ' h' w' := by
    rintro s rfl ⟨ρ', w', a, b⟩
    exact ⟨ρ', undef, _, w', by simp only [Sem.run_bind, a, Result.andThen_ok, Sem.run_pure], .inr ⟨rfl, rfl⟩, VR.undef _, b⟩
  have arr : ∀ (xs : Array Operand), (∀ x ∈ xs.toList, cOK x = true) → LR ρ (xs.toList.map ev) (xs.map ev').toList := by
    intro xs hx
    rw [Array.toList_map]
    exact LR.map fun x hm => hev x (hx x hm)
  cases op <;> simp only [dop] at hv <;> (try cases hv) <;> simp only [Op.operands, List.all_cons, List.all_nil, Bool.and_true, Bool.and_eq_true, List.all_eq_true] at hc
  case move x => exact ⟨ρ, _, _, w, rfl, .inl rfl, hev x hc, hr, Frm.refl _ _ _⟩
  case assign x => exact ⟨ρ, _, _, w, rfl, .inl rfl, hev x hc, hr, Frm.refl _ _ _⟩
  case pick c x y =>
    have h1 := hev c hc.1
    split at hv
    · rename_i t ht
      cases hv
      rw [ht] at h1
      generalize hcc : ev' c = cc at h1
      cases h1
      refine ⟨ρ, if t then ev' x else ev' y, _, w, ?_, .inl rfl, ?_, hr, Frm.refl _ _ _⟩
      · simp only [execOp, hcc, asBool, Sem.run_bind, Sem.run_pure, Result.andThen_ok]
      · cases t
        · exact hev y hc.2.2
        · exact hev x hc.2.1
    · cases hv
  case alloc t => exact lift (aAlloc_snd hr hv)
  case box t x => exact lift (aBox_snd hr (hev x hc) hv)
  case build t ps =>
    simp only [Option.map_eq_some_iff, Prod.mk.injEq] at hv
    obtain ⟨_, hb, rfl, rfl⟩ := hv
    exact lift ((aBuild_run (PR.of_map (ev := ev) (ev' := ev') fun p hp => hev _ (hc _ (List.mem_map.2 ⟨p, hp, rfl⟩))) hb w).snd hr)
  case buildSlice t n ps => exact lift (aBuildSlice_snd hr (PR.of_map (ev := ev) (ev' := ev') fun p hp => hev _ (hc _ (List.mem_map.2 ⟨p, hp, rfl⟩))) hv)
  case insert t m k x =>
    simp only [Option.map_eq_some_iff, Prod.mk.injEq] at hv
    obtain ⟨_, hb, rfl, rfl⟩ := hv
    exact liftU rfl (aUpdate_snd hr (hev m hc.1) (hev k hc.2.1) (hev x hc.2.2) hb)
  case load t x =>
    simp only [Option.map_eq_some_iff, Prod.mk.injEq] at hv
    obtain ⟨_, hb, rfl, rfl⟩ := hv
    exact lift (aLoad_snd hr (hev x hc) hb)
  case store t x y =>
    simp only [Option.map_eq_some_iff, Prod.mk.injEq] at hv
    obtain ⟨_, hb, rfl, rfl⟩ := hv
    exact liftU rfl (aStore_snd hr (hev x hc.1) (hev y hc.2) hb)
  case nilCheck x =>
    simp only [Option.map_eq_some_iff, Prod.mk.injEq] at hv
    obtain ⟨u, hb, rfl, rfl⟩ := hv
    have hx := hev x hc
    have : u = ev x ∧ (∀ w, (execOp ev' { dst, op := .nilCheck x, type, pos, after, guard }).run P w = .ok (.value (ev' x)) w) := by
      unfold aNil at hb
      split at hb <;> first | (cases hb; done) | skip
      all_goals (rename_i e; injection hb with hb; subst hb)
      · rw [e] at hx
        refine ⟨e.symm, fun w => ?_⟩
        generalize hcc : ev' x = y at hx ⊢
        cases hx with
        | func hf => cases hf; simp only [execOp, hcc, Sem.run_pure]
      · rw [e] at hx
        refine ⟨e.symm, fun w => ?_⟩
        generalize hcc : ev' x = y at hx ⊢
        cases hx with
        | func hf => cases hf; simp only [execOp, hcc, Sem.run_pure]
      · refine ⟨rfl, fun w => ?_⟩
        clear lift liftU arr
        generalize ev x = z at *
        generalize hcc : ev' x = y at hx ⊢
        cases hx <;> first | (simp only [execOp, hcc, Sem.run_pure]; done) | simp_all
    obtain ⟨rfl, hrun⟩ := this
    exact ⟨ρ, ev' x, _, w, hrun w, .inl rfl, hx, hr, Frm.refl _ _ _⟩
  case binOp op t x y e =>
    simp only [Option.map_eq_some_iff, Prod.mk.injEq] at hv
    obtain ⟨_, hb, rfl, rfl⟩ := hv
    obtain ⟨v', hrun, hvr⟩ := aBin_run (P := P) (x := x) (y := y) (hev x hc.1) (hev y hc.2) hb w
    exact lift (Snd.pure hr hrun hvr)
  case unOp op t x =>
    simp only [Option.map_eq_some_iff, Prod.mk.injEq] at hv
    obtain ⟨_, hb, rfl, rfl⟩ := hv
    exact lift ((aUn_run (hev x hc) hb w).snd hr)
  case convert s d x =>
    split at hv
    · rename_i r hb
      cases hv
      exact lift (aBytes_snd hr (hev x hc) hb)
    · simp only [Option.map_eq_some_iff, Prod.mk.injEq] at hv
      obtain ⟨_, hb, rfl, rfl⟩ := hv
      exact lift ((aConv_run (hev x hc) hb w).snd hr)
  case makeInterface t x =>
    split at hv
    · rename_i hi
      injection hv with hv; injection hv with h1 h2; subst h1; subst h2
      refine lift (Snd.pure (v' := .iface t (ev' x)) hr ?_ (.iface (hev x hc)))
      unfold isConcrete at hi
      cases hu : P.underlying t with
      | none => rw [hu] at hi; cases hi
      | some d =>
        rw [hu] at hi
        simp only [Instr.makeInterface, Sem.run_bind, r_under w hu, Result.andThen_ok]
        cases d <;> first | rfl | cases hi
    · cases hv
  case makeFunc f a b =>
    cases f <;> simp only at hv <;> first | cases hv; done | skip
    injection hv with hv; injection hv with h1 h2; subst h1; subst h2
    refine lift (Snd.pure (v' := .func (.func _) (a.map ev') (b.map ev')) hr rfl ?_)
    have ha := arr a (fun x hx => hc x (by simp [hx]))
    have hb := arr b (fun x hx => hc x (by simp [hx]))
    refine .func (.func _) (by simp) (fun i v v' h1 h2 => ?_) (by simp) (fun i v v' h1 h2 => ?_)
    · exact ha.2 i v v' (by simpa [← Array.getElem?_toList] using h1) (by simpa [← Array.getElem?_toList] using h2)
    · exact hb.2 i v v' (by simpa [← Array.getElem?_toList] using h1) (by simpa [← Array.getElem?_toList] using h2)
  case makeMap t r =>
    cases r with
    | some _ => cases hv
    | none =>
      injection hv with hv; injection hv with h1 h2; subst h1; subst h2
      exact lift (aMakeMap_snd t hr)
  case makeSlice t l c => exact lift (aMakeSlice_snd hr (hev l hc.1) (hev c hc.2) hv)
  case slice t x lo hi mx =>
    cases mx with
    | some _ => cases hv
    | none =>
      simp only [Option.map_eq_some_iff, Prod.mk.injEq] at hv
      obtain ⟨_, hb, rfl, rfl⟩ := hv
      refine lift ((aSlice_run (hev x (hc _ (by simp))) ?_ ?_ hb w).snd hr)
      · cases lo with
        | none => trivial
        | some a => exact hev a (hc _ (by simp))
      · cases hi with
        | none => trivial
        | some a => exact hev a (hc _ (by simp))
  case fieldAddr t x f =>
    simp only [Option.map_eq_some_iff, Prod.mk.injEq] at hv
    obtain ⟨_, hb, rfl, rfl⟩ := hv
    exact lift ((aFieldAddr_run (hev x hc) hb w).snd hr)
  case field t x f =>
    simp only [Option.map_eq_some_iff, Prod.mk.injEq] at hv
    obtain ⟨_, hb, rfl, rfl⟩ := hv
    exact lift ((aField_run (hev x hc) hb w).snd hr)
  case indexAddr t x i =>
    simp only [Option.map_eq_some_iff, Prod.mk.injEq] at hv
    obtain ⟨_, hb, rfl, rfl⟩ := hv
    exact lift ((aIndexAddr_run (hev x hc.1) (hev i hc.2) hb w).snd hr)
  case index t x i =>
    simp only [Option.map_eq_some_iff, Prod.mk.injEq] at hv
    obtain ⟨_, hb, rfl, rfl⟩ := hv
    exact lift ((aIndex_run (hev x hc.1) (hev i hc.2) hb w).snd hr)
  case lookup t x i ok =>
    simp only [Option.map_eq_some_iff, Prod.mk.injEq] at hv
    obtain ⟨_, hb, rfl, rfl⟩ := hv
    exact lift ((aLookup_run hr (hev x hc.1) (hev i hc.2) hb).snd hr)
  case mapUpdate t m k x =>
    simp only [Option.map_eq_some_iff, Prod.mk.injEq] at hv
    obtain ⟨_, hb, rfl, rfl⟩ := hv
    exact liftU rfl (aUpdate_snd hr (hev m hc.1) (hev k hc.2.1) (hev x hc.2.2) hb)
  case mapEntry t m k => exact lift (aEntry_snd hr (hev m hc.1) (hev k hc.2) hv)
  case entryStore t m s x =>
    simp only [Option.map_eq_some_iff, Prod.mk.injEq] at hv
    obtain ⟨_, hb, rfl, rfl⟩ := hv
    exact liftU rfl (aEntryStore_snd hr (hev m hc.1) (hev s hc.2.1) (hev x hc.2.2) hb)
  case range t x => exact lift (aRange_snd hr (hev x hc) hv)
  case entry x =>
    simp only [Option.map_eq_some_iff, Prod.mk.injEq] at hv
    obtain ⟨_, hb, rfl, rfl⟩ := hv
    exact lift ((aIterEntry_run hr (hev x hc) hb).snd hr)
  case extract x i =>
    simp only [Option.map_eq_some_iff, Prod.mk.injEq] at hv
    obtain ⟨_, hb, rfl, rfl⟩ := hv
    exact lift ((aExtract_run (hev x hc) hb w).snd hr)
  case call c =>
    obtain ⟨callee, args, argTypes⟩ := c
    cases callee <;> simp only at hv <;> first | cases hv; done | skip
    rename_i b
    obtain ⟨ρ', v', w', a, b⟩ := aBuiltin_snd (ty := type) (cs := args.map fun | .const _ => true | _ => false) hr (arr args fun x hx => hc x (by simpa [Call.operands] using hx)) hv
    refine ⟨ρ', v', _, w', ?_, .inl rfl, b⟩
    simp only [execOp, resolve, Sem.run_bind, Sem.run_pure, Result.andThen_ok, invoke]
    exact a

end Go.Ab

namespace Go.Ab

/-- A call of a function's value. -/
def callR (P : Program) (f : Value) (args : List Value) (h : AH) (K : Value → AH → Prop) : Prop :=
  match f with
  | .func (.func g) first cap => ACall P g (first.toList ++ args ++ cap.toList) h K
  | .func (.yield L) first _ => AYield P L (first.toList ++ args) h K
  | _ => False

theorem callR.mono {P : Program} {f : Value} {args : List Value} {h : AH} {K K' : Value → AH → Prop} (hk : ∀ v h, K v h → K' v h) (hw : callR P f args h K) : callR P f args h K' := by
  unfold callR at hw ⊢
  split
  · exact ACall.mono hk hw
  · obtain ⟨l, hg, h1, h2, h3⟩ := hw
    refine ⟨l, hg, h1, h2, h3.mono ?_⟩
    rintro e a h ⟨rfl, l1, g1, g2, g3⟩
    refine ⟨rfl, l1, g1, g2, g3.mono ?_⟩
    rintro e a h ⟨l2, x, y⟩
    refine ⟨l2, x, ?_⟩
    cases e <;> first | exact hk _ _ y | exact y
  · rename_i h1 h2
    split at hw
    · exact absurd rfl (h1 _ _ _)
    · exact absurd rfl (h2 _ _ _)
    · exact hw

/-- An operation, from its operands' values on. -/
def opR (P : Program) (ev : Operand → Value) (op : Op) (h : AH) (K : Value → AH → Prop) : Prop :=
  match op with
  | .call { callee := .value f, args, .. } => callR P (ev f) (args.toList.map ev) h K
  | .next it false => NextW (ev it) h K
  | op => ∃ v h', dop P ev op h = some (v, h') ∧ K v h'

def yieldedA (ops : Array Oper) (a : AAct) (j : Nat) : Option Bool :=
  match (ops[j]?).bind (·.dst) with
  | some t => if t < a.n then (match a.tm t with | .bool b => some b | _ => none) else none
  | none => none

def opW (P : Program) (ops : Array Oper) (o : Oper) (a : AAct) (h : AH) (K : AAct → AH → Prop) : Prop :=
  o.op.operands.toList.all cOK = true ∧ dstOK a o.dst ∧
    if Region.wanted o (yieldedA ops a) then opR P a.ev o.op h (fun v h' => K (a.put o.dst v) h') else K (a.put o.dst undef) h

theorem opR.mono {P : Program} {ev : Operand → Value} {op : Op} {h : AH} {K K' : Value → AH → Prop} (hk : ∀ v h, K v h → K' v h) (hw : opR P ev op h K) : opR P ev op h K' := by
  unfold opR at hw ⊢
  split
  · exact callR.mono hk hw
  · obtain ⟨I, hI, hn⟩ := hw
    refine ⟨I, hI, ?_⟩
    rcases hn with ⟨a, b, c, hg, hkk⟩ | ⟨M, since, seen, stepped, es, clk, hg, hgm, hbad, hall⟩
    · exact .inl ⟨a, b, c, hg, hk _ _ hkk⟩
    · refine .inr ⟨M, since, seen, stepped, es, clk, hg, hgm, hbad, fun x hx => ?_⟩
      have := hall x hx
      cases x <;> exact hk _ _ this
  · rename_i h1 h2
    split at hw
    · exact absurd rfl (h1 _ _ _)
    · exact absurd rfl (h2 _)
    · obtain ⟨v, h', hd, hkk⟩ := hw
      exact ⟨v, h', hd, hk _ _ hkk⟩

theorem opW.mono {P : Program} {ops : Array Oper} {o : Oper} {a : AAct} {h : AH} {K K' : AAct → AH → Prop} (hk : ∀ a h, K a h → K' a h) (hw : opW P ops o a h K) : opW P ops o a h K' := by
  obtain ⟨h1, h2, h3⟩ := hw
  refine ⟨h1, h2, ?_⟩
  split
  · rename_i hw; rw [if_pos hw] at h3; exact h3.mono fun _ _ => hk _ _
  · rename_i hw; rw [if_neg hw] at h3; exact hk _ _ h3

theorem yielded_eq {ρ : Ren} {a : AAct} {c : Act} (h : AR ρ a c) (ops : Array Oper) : yielded ops c.tmps = yieldedA ops a := by
  funext j
  unfold yielded yieldedA
  cases hd : (ops[j]?).bind (·.dst) with
  | none => rfl
  | some t =>
    simp only [Option.bind_some]
    have hv := h.tmp t
    rw [Array.getD_eq_getD_getElem?] at hv
    by_cases hlt : t < c.tmps.size
    · have hlt' : t < a.n := by rw [← h.size]; exact hlt
      rw [if_pos hlt']
      rw [Array.getElem?_eq_getElem hlt] at hv ⊢
      simp only [Option.getD_some] at hv
      generalize c.tmps[t] = y at hv ⊢
      generalize a.tm t = x at hv ⊢
      cases hv <;> rfl
    · have hlt' : ¬ t < a.n := by rw [← h.size]; exact hlt
      rw [if_neg hlt', Array.getElem?_eq_none (Nat.le_of_not_lt hlt)]

def Post (ρ : Ren) (h : AH) (w : World) (K : AAct → AH → Prop) (ca' : Act) (w' : World) : Prop :=
  ∃ ρ' a' h', K a' h' ∧ AR ρ' a' ca' ∧ HR ρ' h' w' ∧ Frm ρ h w ρ' h' w'

theorem opW.sound {P : Program} {ops : Array Oper} {o : Oper} {a : AAct} {h : AH} {K : AAct → AH → Prop} (hw : opW P ops o a h K) {n : Nat} {ρ : Ren} {crd : Option Nat} {ca : Act} {w : World} (har : AR ρ a ca) (hr : HR ρ h w)
    {Q : Exit → Act → World → Prop} {N : Act → World → Prop} (hN : ∀ ca' w', Post ρ h w K ca' w' → N ca' w') :
    if Region.wanted o (yielded ops ca.tmps) then o.wpIn (fence crd) n P ca w N Q
    else (∀ f, o.about P w ca.eval = some f → (fence crd).fn f) ∧ N (ca.put o.dst undef) w := by
  obtain ⟨hc, hd, hk⟩ := hw
  rw [yielded_eq har]
  by_cases hwant : Region.wanted o (yieldedA ops a) = true
  · rw [if_pos hwant] at hk ⊢
    refine ⟨fun _ _ => trivial, ?_⟩
    have hev : ∀ x, cOK x = true → VR ρ (a.ev x) (ca.eval x) := fun x hx => har.ev hx
    have fin : ∀ ρ' v v' h' w', K (a.put o.dst v) h' → VR ρ' v v' → HR ρ' h' w' → Frm ρ h w ρ' h' w' → N (ca.put o.dst v') w' :=
      fun ρ' v v' h' w' k vr r f => hN _ _ ⟨ρ', _, h', k, (har.mono f.le).put (by exact hd) vr, r, f⟩
    unfold opR at hk
    split at hk
    · rename_i op f args at' hop
      have hnd : ∀ c, o.op ≠ .defer c := fun c e => by rw [hop] at e; cases e
      rw [Oper.semAt_eq _ _ _ hnd]
      have hcf : cOK f = true := List.all_eq_true.1 hc f (by rw [hop]; simp [Op.operands, Call.operands])
      have hca : ∀ x ∈ args.toList, cOK x = true := fun x hx => List.all_eq_true.1 hc x (by rw [hop]; simp [Op.operands, Call.operands]; exact .inr (by simpa using hx))
      have hl : LR ρ (args.toList.map a.ev) (args.map ca.eval).toList := by
        rw [Array.toList_map]; exact LR.map fun x hm => hev x (hca x hm)
      have hf := hev f hcf
      unfold callR at hk
      split at hk
      · rename_i g first cap hfe
        rw [hfe] at hf
        generalize hcc : ca.eval f = y at hf
        cases hf with
        | @func _ _ _ first' _ cap' hfn h1 h2 h3 h4 =>
          cases hfn
          obtain ⟨⟨fn, hfn, hbody, hname⟩, hcall⟩ := hk
          have hnone : fn.body.isNone = false := by cases hb : fn.body <;> simp_all
          have hrun : (execOp ca.eval o).run P w = .ok (.enter g (first' ++ args.map ca.eval ++ cap')) w := by
            obtain ⟨dst, op', type, pos, after, guard⟩ := o
            simp only at hop; subst hop
            simp only [execOp, resolve, hcc, Deferred.ofValue, Sem.run_bind, Sem.run_pure, Result.andThen_ok, invoke, callFunc, run_program, hfn, hname, Bool.false_eq_true, if_false, hnone]
          rw [hrun, Oper.uponIn_enter]
          refine ⟨fun h => by simp [fence, Fence.wide] at h, ?_⟩
          have hla : LR ρ (first.toList ++ args.toList.map a.ev ++ cap.toList) (first' ++ args.map ca.eval ++ cap').toList := by
            rw [Array.toList_append, Array.toList_append]
            exact (LR.append (LR.append ⟨by simpa using h1, fun i v v' x y => h2 i v v' (by simpa using x) (by simpa using y)⟩ hl) ⟨by simpa using h3, fun i v v' x y => h4 i v v' (by simpa using x) (by simpa using y)⟩)
          have hcc2 := callsIn_wide (n := n - 1).2 (hcall ρ _ w hla hr)
          have hcc3 : CallsIn (fence crd) (n - 1) P g (first' ++ args.map ca.eval ++ cap') w _ := hcc2
          refine hcc3.mono ?_
          rintro e w' ⟨ρ', v, v', h', rfl, hkk, hv, hr', hf'⟩
          exact fin ρ' v v' h' w' hkk hv hr' hf'
      · rename_i L first cap hfe
        rw [hfe] at hf
        generalize hcc : ca.eval f = y at hf
        cases hf with
        | @func _ _ _ first' _ cap' hfn h1 h2 h3 h4 =>
          cases hfn with
          | @yield _ r hL =>
            have hla : LR ρ (first.toList ++ args.toList.map a.ev) (first' ++ args.map ca.eval).toList := by
              rw [Array.toList_append]
              exact (LR.append ⟨by simpa using h1, fun i v v' x y => h2 i v v' (by simpa using x) (by simpa using y)⟩ hl)
            obtain ⟨f', tmps, assign, body, hy, hround⟩ := hk.sound (n := n - 1) (crd := crd) hla hr ⟨_, hL, rfl⟩
            have hrun : (execOp ca.eval o).run P w = .ok (.round r.blk f' tmps assign body) w := by
              obtain ⟨dst, op', type, pos, after, guard⟩ := o
              simp only at hop; subst hop
              simp only [execOp, resolve, hcc, Deferred.ofValue, Sem.run_bind, Sem.run_pure, Result.andThen_ok, invoke]
              exact hy
            rw [hrun, Oper.uponIn_round]
            refine ⟨fun h => by simp [fence, Fence.wide] at h, hround.mono ?_⟩
            rintro e w' ⟨ρ', v, v', h', rfl, hkk, hv, hr', hf'⟩
            exact fin ρ' v v' h' w' hkk hv hr' hf'
      · exact hk.elim
    · rename_i op it hop
      have hnd : ∀ c, o.op ≠ .defer c := fun c e => by rw [hop] at e; cases e
      rw [Oper.semAt_eq _ _ _ hnd]
      have hci : cOK it = true := List.all_eq_true.1 hc it (by rw [hop]; simp [Op.operands])
      obtain ⟨ρ', v, v', h', w', hrun, hkk, hv, hr', hf'⟩ := NextW.sound (P := P) (ty := o.type) hr (hev it hci) hk
      have hrun2 : (execOp ca.eval o).run P w = .ok (.value v') w' := by
        obtain ⟨dst, op', type, pos, after, guard⟩ := o
        simp only at hop; subst hop
        simp only [execOp, Sem.run_bind, hrun, Result.andThen_ok, Sem.run_pure]
      rw [hrun2, Oper.uponIn_value]
      exact fin ρ' v v' h' w' hkk hv hr' hf'
    · rename_i op _ _
      obtain ⟨v, h', hdo, hkk⟩ := hk
      have hnd : ∀ c, o.op ≠ .defer c := fun c e => by rw [e] at hdo; cases hdo
      rw [Oper.semAt_eq _ _ _ hnd]
      obtain ⟨ρ', v', nx, w', hrun, hnx, hv, hr', hf'⟩ := dop_snd (o := o) hc hev hr hdo
      rw [hrun]
      rcases hnx with rfl | ⟨rfl, rfl⟩
      · exact fin ρ' v v' h' w' hkk hv hr' hf'
      · exact fin ρ' v undef h' w' hkk hv hr' hf'
  · rw [if_neg hwant] at hk ⊢
    exact ⟨fun _ _ => trivial, hN _ _ ⟨ρ, _, h, hk, har.put hd (.undef _), hr, Frm.refl _ _ _⟩⟩

end Go.Ab

namespace Go.Ab

def thenQ (N : AAct → AH → Prop) (Q : Exit → AAct → AH → Prop) : Exit → AAct → AH → Prop
  | .normal, a, h => N a h
  | e, a, h => Q e a h

def blockQ (id : Nat) (Q : Exit → AAct → AH → Prop) : Exit → AAct → AH → Prop
  | .exit id', a, h => if id' = id then Q .normal a h else Q (.exit id') a h
  | e, a, h => Q e a h

section
variable {P : Program} {rd : Option Nat} {Q : Exit → AAct → AH → Prop} {a : AAct} {h : AH}

theorem AW.skip (hq : Q .normal a h) : AW P rd .skip Q a h := fun _ ρ _ _ _w _ ha hr => wpIn_skip ⟨ρ, a, h, hq, ha, hr, Frm.refl _ _ _⟩
theorem AW.ret (hq : Q .ret a h) : AW P rd .ret Q a h := fun _ ρ _ _ _w _ ha hr => wpIn_ret ⟨ρ, a, h, hq, ha, hr, Frm.refl _ _ _⟩
theorem AW.exit {id : Nat} (hq : Q (.exit id) a h) : AW P rd (.exit id) Q a h := fun _ ρ _ _ _w _ ha hr => wpIn_exit ⟨ρ, a, h, hq, ha, hr, Frm.refl _ _ _⟩
theorem AW.goto {id : Nat} (hq : Q (.goto id) a h) : AW P rd (.goto id) Q a h := fun _ ρ _ _ _w _ ha hr => wpIn_goto ⟨ρ, a, h, hq, ha, hr, Frm.refl _ _ _⟩
theorem AW.label {id : Nat} (hq : Q .normal a h) : AW P rd (.label id) Q a h := fun _ ρ _ _ _w _ ha hr => wpIn_label ⟨ρ, a, h, hq, ha, hr, Frm.refl _ _ _⟩

theorem AW.seq {x y : Code} (hx : AW P rd x (thenQ (AW P rd y Q) Q) a h) : AW P rd (.seq x y) Q a h := by
  intro n ρ crd ca w hrd ha hr
  refine wpIn_seq (wpIn_mono (hx n ρ crd ca w hrd ha hr) ?_)
  rintro e ca1 w1 ⟨ρ1, a1, h1, hq, ha1, hr1, hf1⟩
  cases e with
  | normal =>
    refine wpIn_mono (hq n ρ1 crd ca1 w1 (hrd.mono hf1.le) ha1 hr1) ?_
    rintro e ca2 w2 ⟨ρ2, a2, h2, hq2, ha2, hr2, hf2⟩
    exact ⟨ρ2, a2, h2, hq2, ha2, hr2, hf1.trans hf2⟩
  | _ => exact ⟨ρ1, a1, h1, hq, ha1, hr1, hf1⟩

theorem AW.cond {c : Operand} {x y : Code} {t : Bool} (hk : cOK c = true) (hc : a.ev c = .bool t) (hx : AW P rd (if t then x else y) Q a h) : AW P rd (.cond c x y) Q a h := by
  intro n ρ crd ca w hrd ha hr
  have hv := ha.ev hk
  rw [hc] at hv
  refine wpIn_cond (t := t) ?_ (hx n ρ crd ca w hrd ha hr)
  generalize ca.eval c = z at hv ⊢
  cases hv; rfl

theorem AW.block {id : Nat} {c : Code} (hx : AW P rd c (blockQ id Q) a h) : AW P rd (.block id c) Q a h := by
  intro n ρ crd ca w hrd ha hr
  refine wpIn_block (wpIn_mono (hx n ρ crd ca w hrd ha hr) ?_)
  rintro e ca1 w1 ⟨ρ1, a1, h1, hq, ha1, hr1, hf1⟩
  cases e with
  | exit id' =>
    simp only [blockQ] at hq
    simp only [Exit.inBlock]
    split
    · rename_i e; rw [if_pos e] at hq; exact ⟨ρ1, a1, h1, hq, ha1, hr1, hf1⟩
    · rename_i e; rw [if_neg e] at hq; exact ⟨ρ1, a1, h1, hq, ha1, hr1, hf1⟩
  | _ => exact ⟨ρ1, a1, h1, hq, ha1, hr1, hf1⟩

theorem wpIn_loop_ix {F : Fence} {n : Nat} {Q : Exit → Act → World → Prop} {c : Code} (I : Nat → Act → World → Prop) (m : Nat) {a : Act} {w : World} (h0 : I m a w)
    (round : ∀ m a w, I m a w → c.wpIn F n P (Exit.then (fun a' w' => ∃ m', m' < m ∧ I m' a' w') Q) a w) : (Code.loop c).wpIn F n P Q a w := by
  intro b k cs hro hb hr
  have key : ∀ m a w, I m a w →
      ∃ e a' w', Q e a' w' ∧ ArrivesIn (Machine.fenced P F) P (lone (b.atR a (.code c :: .inLoop c :: k)) cs w) b k cs e a' w' := by
    intro m
    induction m using Nat.strongRecOn with
    | _ m ih =>
      intro a w hI
      obtain ⟨e, a₁, w₁, hq, harr⟩ := round m a w hI b (.inLoop c :: k) cs hro hb hr
      cases e with
      | normal =>
        obtain ⟨m', hlt, hI₁⟩ := hq
        obtain ⟨e₂, a₂, w₂, hq₂, harr₂⟩ := ih m' hlt a₁ w₁ hI₁
        exact ⟨e₂, a₂, w₂, hq₂, .of_steps (StepsIn.trans harr (.one (fenced_calm hb hr rfl) stepR_inLoop)) harr₂⟩
      | exit id => exact ⟨_, a₁, w₁, hq, .pass (x := .inLoop c) rfl (fun _ _ => .inl (by simp)) harr⟩
      | goto l => exact ⟨_, a₁, w₁, hq, .pass (x := .inLoop c) rfl (fun _ _ => .inl (by simp)) harr⟩
      | ret => exact ⟨_, a₁, w₁, hq, .pass (x := .inLoop c) rfl (fun _ _ => .inl (by simp)) harr⟩
      | panic ch => exact ⟨_, a₁, w₁, hq, .pass (x := .inLoop c) rfl (fun _ _ => .inl (by simp)) harr⟩
      | outgrown => exact ⟨_, a₁, w₁, hq, .pass (x := .inLoop c) rfl (fun _ _ => .inl (by simp)) harr⟩
  obtain ⟨e, a', w', hq, harr⟩ := key m a w h0
  exact ⟨e, a', w', hq, .of_steps (.one (fenced_calm hb hr rfl) stepR_loop) harr⟩

theorem AW.loop {c : Code} (I : Nat → AAct → AH → Prop) (m : Nat) (h0 : I m a h)
    (round : ∀ m a h, I m a h → AW P rd c (thenQ (fun a' h' => ∃ m', m' < m ∧ I m' a' h') Q) a h) : AW P rd (.loop c) Q a h := by
  intro n ρ crd ca w hrd ha hr
  refine wpIn_loop_ix (fun m ca' w' => ∃ ρ' a' h', I m a' h' ∧ AR ρ' a' ca' ∧ HR ρ' h' w' ∧ Frm ρ h w ρ' h' w') m ⟨ρ, a, h, h0, ha, hr, Frm.refl _ _ _⟩ ?_
  rintro m ca1 w1 ⟨ρ1, a1, h1, hI, ha1, hr1, hf1⟩
  refine wpIn_mono (round m a1 h1 hI n ρ1 crd ca1 w1 (hrd.mono hf1.le) ha1 hr1) ?_
  rintro e ca2 w2 ⟨ρ2, a2, h2, hq2, ha2, hr2, hf2⟩
  cases e with
  | normal => obtain ⟨m', hlt, hI'⟩ := hq2; exact ⟨m', hlt, ρ2, a2, h2, hI', ha2, hr2, hf1.trans hf2⟩
  | _ => exact ⟨ρ2, a2, h2, hq2, ha2, hr2, hf1.trans hf2⟩

def opsW (P : Program) (ops : Array Oper) (Q : Exit → AAct → AH → Prop) : List Nat → AAct → AH → Prop
  | [], a, h => Q .normal a h
  | i :: l, a, h => match ops[i]? with
    | none => opsW P ops Q l a h
    | some o => opW P ops o a h (opsW P ops Q l)

def PostE (ρ : Ren) (h : AH) (w : World) (Q : Exit → AAct → AH → Prop) (e : Exit) (ca' : Act) (w' : World) : Prop :=
  ∃ ρ' a' h', Q e a' h' ∧ AR ρ' a' ca' ∧ HR ρ' h' w' ∧ Frm ρ h w ρ' h' w'

theorem PostE.trans {ρ ρ1 : Ren} {h h1 : AH} {w w1 : World} {e : Exit} {ca : Act} {w' : World} (hf : Frm ρ h w ρ1 h1 w1) (hp : PostE ρ1 h1 w1 Q e ca w') : PostE ρ h w Q e ca w' :=
  let ⟨ρ', a', h', x, y, z, t⟩ := hp; ⟨ρ', a', h', x, y, z, hf.trans t⟩

theorem wpOpsIn_mono {F : Fence} {n : Nat} {ops : Array Oper} {Q Q' : Exit → Act → World → Prop} (hq : ∀ e a w, Q e a w → Q' e a w) : ∀ (l : List Nat) (a : Act) (w : World), wpOpsIn F n P ops Q l a w → wpOpsIn F n P ops Q' l a w := by
  intro l
  induction l with
  | nil => intro a w h; exact hq _ _ _ h
  | cons i l ih =>
    intro a w h
    rw [wpOpsIn_cons] at h ⊢
    have h := wpOpIn_mono (fun a w => ih a w) h
    unfold wpOpIn at h ⊢
    split
    · rename_i ho; rw [ho] at h; exact h
    · rename_i o ho
      rw [ho] at h
      simp only at h
      split
      · rename_i hw
        rw [if_pos hw] at h
        refine ⟨h.1, ?_⟩
        have h := h.2
        generalize (o.semAt F.round a.eval).run P w = r at h ⊢
        cases r with
        | ok x w' =>
          cases x <;> simp only [Oper.uponIn] at h ⊢ <;>
            first
              | exact h
              | exact ⟨h.1, CallsIn.mono h.2 (fun e w'' he => by cases e <;> first | exact he | exact hq _ _ _ he | exact (let ⟨a, w, x⟩ := he; ⟨a, w, hq _ _ _ x⟩))⟩
              | exact ⟨h.1, RoundIn.mono h.2 (fun e w'' he => by cases e <;> first | exact he | exact hq _ _ _ he | exact (let ⟨a, w, x⟩ := he; ⟨a, w, hq _ _ _ x⟩))⟩
        | halt x w' => cases x <;> simp only [Oper.uponIn] at h ⊢ <;> first | exact h | exact hq _ _ _ h
      · rename_i hw; rw [if_neg hw] at h; exact h

theorem opsW.sound {ops : Array Oper} {n : Nat} {crd : Option Nat} : ∀ (l : List Nat) (a : AAct) (h : AH), opsW P ops Q l a h → ∀ (ρ : Ren) (ca : Act) (w : World), AR ρ a ca → HR ρ h w →
    wpOpsIn (fence crd) n P ops (PostE ρ h w Q) l ca w := by
  intro l
  induction l with
  | nil => intro a h hq ρ ca w ha hr; exact ⟨ρ, a, h, hq, ha, hr, Frm.refl _ _ _⟩
  | cons i l ih =>
    intro a h hq ρ ca w ha hr
    rw [wpOpsIn_cons]
    unfold wpOpIn
    simp only [opsW] at hq
    cases ho : ops[i]? with
    | none => simp only [ho] at hq ⊢; exact ih a h hq ρ ca w ha hr
    | some o =>
      simp only [ho] at hq ⊢
      refine hq.sound ha hr (N := wpOpsIn (fence crd) n P ops (PostE ρ h w Q) l) ?_
      rintro ca1 w1 ⟨ρ1, a1, h1, hk, ha1, hr1, hf1⟩
      exact wpOpsIn_mono (fun e ca w' hp => hp.trans hf1) l ca1 w1 (ih a1 h1 hk ρ1 ca1 w1 ha1 hr1)

theorem AW.region {id : Nat} {ops : Array Oper} (hx : opsW P ops Q (List.range ops.size) a h) : AW P rd (.region id ops false) Q a h :=
  fun _n ρ _crd ca w _hrd ha hr => wpIn_region (opsW.sound _ a h hx ρ ca w ha hr)

end

/-! ### A function's call, from its body -/

def closeMarks : List Nat → AH → Option AH
  | [], h => some h
  | A :: as, h => match h.get A with
    | some (.dfr true) => closeMarks as (h.set A (.dfr false))
    | _ => none

def resL (P : Program) (tm : Nat → Value) (h : AH) : List ResultVar → Option (List Value)
  | [] => some []
  | .tmp t :: rs => (resL P tm h rs).map (tm t :: ·)
  | .cell a t :: rs => match aLoad P t (tm a) h, resL P tm h rs with
    | some v, some vs => some (v :: vs)
    | _, _ => none

def resV : List Value → Value
  | [v] => v
  | vs => .tuple vs.toArray

def bodyQ (P : Program) (fn : Func) (K : Value → AH → Prop) (e : Exit) (a : AAct) (h : AH) : Prop :=
  (e = .normal ∨ e = .ret) ∧ ∃ h' vs, closeMarks a.df h = some h' ∧ resL P a.tm h' fn.results.toList = some vs ∧ K (resV vs) h'

def enterA (fn : Func) (args : List Value) : AAct := { n := args.length + (fn.ntmps - args.length), tm := fun i => args.getD i undef, df := [] }

theorem resL_run {P : Program} {ρ : Ren} {a : AAct} {h : AH} {ca : Act} {w : World} (ha : AR ρ a ca) (hr : HR ρ h w) : ∀ (rs : List ResultVar) (vs : List Value), resL P a.tm h rs = some vs →
    ∃ vs', (rs.mapM (m := Sem) fun | .tmp t => pure (ca.tmps.getD t undef) | .cell a t => do loadVar t (← asAddr (ca.tmps.getD a undef))).run P w = .ok vs' w ∧ LR ρ vs vs' := by
  intro rs
  induction rs with
  | nil => intro vs hv; cases hv; exact ⟨[], by simp, LR.nil _⟩
  | cons r rs ih =>
    intro vs hv
    cases r with
    | tmp t =>
      simp only [resL, Option.map_eq_some_iff] at hv
      obtain ⟨vs1, h1, rfl⟩ := hv
      obtain ⟨vs', hrun, hl⟩ := ih vs1 h1
      exact ⟨_ :: vs', by simp only [List.mapM_cons, Sem.run_bind, Sem.run_pure, Result.andThen_ok, hrun], hl.cons (ha.tmp t)⟩
    | cell x t =>
      simp only [resL] at hv
      split at hv
      · rename_i v vs1 hlo h1
        cases hv
        obtain ⟨vs', hrun, hl⟩ := ih vs1 h1
        obtain ⟨v', hv', hvr⟩ := aLoad_rd hr (ha.tmp x) hlo
        have hx := ha.tmp x
        have : (do loadVar t (← asAddr (ca.tmps.getD x undef)) : Sem Value).run P w = .ok v' w := by
          unfold aLoad at hlo
          split at hlo
          · rename_i A off hp
            rw [hp] at hx
            generalize ca.tmps.getD x undef = y at hx hv' ⊢
            cases hx with
            | ptr hq => simpa [Instr.loadAt, Instr.sureAddr, asAddr] using hv'
          · cases hlo
        exact ⟨v' :: vs', by simp only [List.mapM_cons, Sem.run_bind, this, Sem.run_pure, Result.andThen_ok, hrun], hl.cons hvr⟩
      · cases hv

theorem resV_run {P : Program} {ρ : Ren} {fn : Func} {a : AAct} {h : AH} {ca : Act} {w : World} (ha : AR ρ a ca) (hr : HR ρ h w) {vs : List Value} (hv : resL P a.tm h fn.results.toList = some vs) :
    ∃ v', (results fn ca.tmps).run P w = .ok v' w ∧ VR ρ (resV vs) v' := by
  obtain ⟨vs', hrun, hl⟩ := resL_run ha hr _ _ hv
  refine ⟨resV vs', ?_, ?_⟩
  · unfold results
    rw [Array.mapM_eq_mapM_toList]
    simp only [Sem.run_bind, Sem.run_pure, map_eq_pure_bind, bind_assoc]
    refine (congrArg (fun (r : Result (List Value)) => r.andThen _) hrun).trans ?_
    simp only [Result.andThen_ok]
    clear hrun hl
    match vs' with
    | [] => rfl
    | [_] => rfl
    | _ :: _ :: _ => simp [resV]
  · unfold resV
    split
    · rename_i v
      match vs', hl with
      | [x], hl => exact hl.2 0 _ _ rfl rfl
      | [], hl => have := hl.1; simp at this
      | _ :: _ :: _, hl => have := hl.1; simp at this
    · rename_i hne
      split
      · rename_i v
        have := hl.1
        match vs, hne, this with
        | [x], hne, _ => exact absurd rfl (hne x)
        | [], _, this => simp at this
        | _ :: _ :: _, _, this => simp at this
      · exact hl.toTuple

theorem marks_leave {P : Program} {fn : Func} {n : Nat} {R : Ending → World → Prop} {ρ : Ren} {a : AAct} {ca : Act} : ∀ (as : List Nat) (ds : List Deferred) (h h' : AH) (w : World) (vs : List Value), DR ρ as ds → AR ρ a ca → HR ρ h w →
    closeMarks as h = some h' → resL P a.tm h' fn.results.toList = some vs →
    (∀ v' w', VR ρ (resV vs) v' → HR ρ h' w' → Frm ρ h w ρ h' w' → R (.returned v') w') → LeavesInM Fence.wide n P fn ca.tmps R ds .returning w := by
  intro as
  induction as with
  | nil =>
    intro ds h h' w vs hd ha hr hc hv hR
    cases ds with
    | cons => exact hd.elim
    | nil =>
      cases hc
      obtain ⟨v', hrun, hvr⟩ := resV_run ha hr hv
      exact ⟨v', hrun, hR v' w hvr hr (Frm.refl _ _ _)⟩
  | cons A as ih =>
    intro ds h h' w vs hd ha hr hc hv hR
    cases ds with
    | nil => exact hd.elim
    | cons d ds =>
      obtain ⟨⟨r, hq, htg⟩, hd⟩ := hd
      simp only [closeMarks] at hc
      split at hc
      · rename_i hg
        obtain ⟨r', hq', hor⟩ := hr.obj A _ hg
        rw [hq] at hq'; cases hq'
        have hor : w.heap[r.blk]? = some (.deferred (some [])) := hor
        have hlt : r.blk < w.heap.size := (Array.getElem?_eq_some_iff.1 hor).1
        obtain ⟨hr1, hf1⟩ := hr.turn (o' := .dfr false) (x := .deferred none) hg rfl hq (by show (w.heap.setIfInBounds _ _)[_]? = _; simp [hlt])
        refine ⟨(fun e => by cases e), .inl ⟨r.blk, _, htg, run_takeDeferred hor, ?_⟩⟩
        exact ih ds _ h' _ vs hd ha hr1 hc hv fun v' w' x y z => hR v' w' x y (hf1.trans z)
      · cases hc

theorem ACall.of_body {P : Program} {g : FuncId} {fn : Func} {c : Code} {args : List Value} {h : AH} {K : Value → AH → Prop} (hf : P.funcs[g]? = some fn) (hb : fn.body = some c) (hn : (fn.name == "runtime.NumGoroutine") = false)
    (hw : AW P none c (bodyQ P fn K) (enterA fn args) h) : ACall P g args h K := by
  refine ⟨⟨fn, hf, by rw [hb]; rfl, hn⟩, fun ρ cargs w hl hr => callsIn_wide (n := 0).1 ?_⟩
  refine callsIn_of_wp_marks hf hb trivial ?_
  have ha : AR ρ (enterA fn args) { tmps := cargs ++ Array.replicate (fn.ntmps - cargs.size) undef, defers := [] } := by
    have hs : args.length = cargs.size := by simpa using hl.1
    refine ⟨by simp [enterA, hs], fun i => ?_, trivial⟩
    simp only [enterA]
    rw [Array.getD_eq_getD_getElem?, List.getD_eq_getElem?_getD]
    by_cases hi : i < cargs.size
    · rw [Array.getElem?_append_left hi]
      have h1 : args[i]? = some args[i] := List.getElem?_eq_getElem (by omega)
      have h2 : cargs[i]? = some cargs[i] := Array.getElem?_eq_getElem hi
      rw [h1, h2]
      exact hl.2 i _ _ h1 (by simp)
    · rw [List.getElem?_eq_none (by omega), Array.getElem?_append_right (by omega), Array.getElem?_replicate]
      split <;> exact .undef _
  refine wpIn_mono (hw 0 ρ none _ w trivial ha hr) ?_
  rintro e ca w1 ⟨ρ1, a1, h1, ⟨he, h', vs, hc, hv, hk⟩, ha1, hr1, hf1⟩
  have := marks_leave (n := 0) (R := fun e w' => ∃ ρ' v v' h', e = .returned v' ∧ K v h' ∧ VR ρ' v v' ∧ HR ρ' h' w' ∧ Frm ρ h w ρ' h' w') a1.df ca.defers h1 h' w1 vs ha1.df ha1 hr1 hc hv
    (fun v' w' x y z => ⟨ρ1, _, v', h', rfl, hk, x, y, hf1.trans z⟩)
  rcases he with rfl | rfl <;> exact this

end Go.Ab

namespace Go.Ab

/-- Behind the function that was ranged over. -/
def rangeQ (P : Program) (rd : Option Nat) (L : Nat) (a : AAct) (Q : Exit → AAct → AH → Prop) (_ : Value) (h : AH) : Prop :=
  ∃ l, h.get L = some (.loop l) ∧ l.state ≠ .busy ∧
    match l.pending with
    | none => Q .normal a (h.set L (.loop { l with state := .exhausted }))
    | some c => AW P rd c Q a (h.set L (.loop { l with state := .exhausted }))

/-- A range over a function, entered. -/
def rangeW (P : Program) (rd : Option Nat) (g : Operand) (ps : Array Tmp) (assign body : Code) (Q : Exit → AAct → AH → Prop) (a : AAct) (h : AH) : Prop :=
  ∃ gf first cap, cOK g = true ∧ a.ev g = .func (.func gf) first cap ∧
    match rd with
    | none =>
      ACall P gf (first.toList ++ [.func (.yield (h.next + 1)) #[] #[]] ++ cap.toList)
        ((h.new (.dfr true)).new (.loop { state := .ready, pending := none, fn := 0, n := a.n, tm := a.tm, params := ps, assign := assign, body := body, defers := h.next }))
        (rangeQ P rd (h.next + 1) { a with df := h.next :: a.df } Q)
    | some L0 => ∃ l0, h.get L0 = some (.loop l0) ∧
      ACall P gf (first.toList ++ [.func (.yield h.next) #[] #[]] ++ cap.toList)
        (h.new (.loop { state := .ready, pending := none, fn := 0, n := a.n, tm := a.tm, params := ps, assign := assign, body := body, defers := l0.defers }))
        (rangeQ P rd h.next a Q)

theorem rangeQ.sound {P : Program} {rd : Option Nat} {L : Nat} {a : AAct} {Q : Exit → AAct → AH → Prop} {n : Nat} {ρ ρ0 : Ren} {h h0 : AH} {w w0 : World} {crd : Option Nat} {ca : Act} {v : Value} {r : RE}
    (hq : rangeQ P rd L a Q v h) (hL : ρ L = some r) (hrd : RD ρ rd crd) (ha : AR ρ a ca) (hr : HR ρ h w) (hf : Frm ρ0 h0 w0 ρ h w) (v' : Value) :
    rangePost (fence crd) n P r.blk (PostE ρ0 h0 w0 Q) ca (.returned v') w := by
  obtain ⟨l, hg, hst, hk⟩ := hq
  obtain ⟨r2, l', q, hq2, hh, hlt, h1, h2, h3, h4, h5, h6, h7, h8, h9, h10⟩ := loopAt hr hg
  rw [hL] at hq2; cases hq2
  obtain ⟨hr1, hf1⟩ := hr.turnLoop hg hL hh .exhausted l.pending
  refine ⟨l'.pending, { w with heap := w.heap.setIfInBounds r.blk (.loop { l' with state := .exhausted, pending := l.pending }) }, ?_, ?_⟩
  · rw [run_endLoop hh (by rw [h1]; exact hst)]
    have : ({ l' with state := .exhausted, pending := l.pending } : Loop) = { l' with state := .exhausted } := by rw [← h2]
    rw [this]; rfl
  · rw [h2]
    clear h2
    generalize l.pending = pd at hk hr1 hf1 ⊢
    cases pd with
    | none =>
      exact ⟨ρ, a, _, hk, ha, hr1, hf.trans hf1⟩
    | some c =>
      refine wpIn_mono (hk n ρ crd ca _ hrd ha hr1) ?_
      rintro e ca2 w2 ⟨ρ2, a2, h2, hq2, ha2, hr2, hf2⟩
      exact ⟨ρ2, a2, h2, hq2, ha2, hr2, (hf.trans hf1).trans hf2⟩

theorem AW.rangeFunc {P : Program} {rd : Option Nat} {g : Operand} {ps : Array Tmp} {assign body : Code} {Q : Exit → AAct → AH → Prop} {a : AAct} {h : AH} (hw : rangeW P rd g ps assign body Q a h) :
    AW P rd (.rangeFunc g ps assign body) Q a h := by
  intro n ρ crd ca w hrd ha hr
  refine wpIn_rangeFunc fun fn _ => ?_
  obtain ⟨gf, first, cap, hck, hev, hk⟩ := hw
  have hg := ha.ev hck
  rw [hev] at hg
  generalize hcc : ca.eval g = y at hg
  cases hg with
  | @func _ _ _ first' _ cap' hfn h1 h2 h3 h4 =>
  cases hfn
  have hres : ∀ (l : Nat) (w : World), (resolve ca.eval (rangeCall g l) 0).run P w = .ok { target := .fn (.func gf) cap', args := first' ++ #[.func (.yield l) #[] #[]] } w := by
    intro l w
    simp only [resolve, hcc, Deferred.ofValue, Sem.run_pure]; simp [Act.eval]
  have hla : ∀ {ρ' : Ren} (L : Nat) (r : RE), ρ.le ρ' → ρ' L = some r → LR ρ' (first.toList ++ [Value.func (.yield L) #[] #[]] ++ cap.toList) (first' ++ #[Value.func (.yield r.blk) #[] #[]] ++ cap').toList := by
    intro ρ' L r hle hL
    rw [Array.toList_append, Array.toList_append]
    refine LR.append (LR.append ⟨by simpa using h1, fun i v v' x y => (h2 i v v' (by simpa using x) (by simpa using y)).mono hle⟩ (LR.single (VR.func (.yield hL) rfl (fun i v v' x _ => by simp at x) rfl (fun i v v' x _ => by simp at x))))
      ⟨by simpa using h3, fun i v v' x y => (h4 i v v' (by simpa using x) (by simpa using y)).mono hle⟩
  have hinv : ∀ (hE : Enters P gf) (l : Nat) (w : World), (invoke (.fn (.func gf) cap') (first' ++ #[.func (.yield l) #[] #[]])).run P w = .ok (.enter gf (first' ++ #[.func (.yield l) #[] #[]] ++ cap')) w := by
    rintro ⟨f, hf, hb, hn⟩ l w
    have hnone : f.body.isNone = false := by cases hb' : f.body <;> simp_all
    simp only [invoke, callFunc, run_program, Sem.run_bind, Result.andThen_ok, hf, hn, Bool.false_eq_true, if_false, hnone, Sem.run_pure]
  cases rd with
  | none =>
    cases crd with
    | some _ => exact hrd.elim
    | none =>
    simp only at hk
    obtain ⟨hr1, hf1⟩ := hr.alloc (x := .deferred (some [])) (o := .dfr true) (w' := w.alloc (.deferred (some []))) (base := 0) (lim := 0) rfl (fun ρ' _ _ => by show (w.heap.push _)[_]? = _; simp)
    obtain ⟨hr2, hf2⟩ := hr1.alloc (x := .loop { state := .ready, pending := none, fn, tmps := ca.tmps, params := ps, assign, body, defers := w.heap.size })
      (o := .loop { state := .ready, pending := none, fn := 0, n := a.n, tm := a.tm, params := ps, assign := assign, body := body, defers := h.next })
      (w' := (w.alloc (.deferred (some []))).alloc (.loop { state := .ready, pending := none, fn, tmps := ca.tmps, params := ps, assign, body, defers := w.heap.size })) (base := 0) (lim := 0) rfl
      (fun ρ' hle hL => ⟨{ state := .ready, pending := none, fn, tmps := ca.tmps, params := ps, assign, body, defers := w.heap.size }, ⟨w.heap.size, 0, 0⟩, by show ((w.heap.push _).push _)[(w.heap.push _).size]? = _; exact Array.getElem?_push_size, rfl, rfl, trivial, rfl, rfl, rfl, hle _ _ (Ren.put_same _ _ _), rfl, ha.size, fun i => (ha.tmp i).mono (Ren.le_trans hf1.le hle)⟩)
    have hle := Ren.le_trans hf1.le hf2.le
    have hL := Ren.put_same (ρ.put h.next ⟨w.heap.size, 0, 0⟩) (h.next + 1) ⟨(w.alloc (.deferred (some []))).heap.size, 0, 0⟩
    have hsz : (w.alloc (.deferred (some []))).heap.size = w.heap.size + 1 := by show (w.heap.push _).size = _; simp
    refine ⟨w.heap.size + 1, [{ target := .collected w.heap.size, args := #[] }], _, _, _, gf, _, _, run_enterLoop_outer fn ca.tmps ps assign body, hres _ _, fun _ _ => trivial, hinv hk.1 _ _, fun h => by simp [fence, Fence.wide] at h, ?_⟩
    have hcall := callsIn_wide (n := n - 1).2 (hk.2 _ _ _ (hla (h.next + 1) _ hle hL) hr2)
    rw [hsz] at hcall hL
    rw [hsz] at hf2 hle
    refine (show CallsIn (fence none) (n - 1) P gf _ _ _ from hcall).mono ?_
    rintro e w' ⟨ρ', v, v', h', rfl, hq, hv, hr', hf'⟩
    have hle' := Ren.le_trans hle hf'.le
    have hrd' : RD ρ' none none := trivial
    refine hq.sound (r := ⟨w.heap.size + 1, 0, 0⟩) (hf'.le _ _ hL) hrd' ?_ hr' ((hf1.trans hf2).trans hf') v'
    refine ⟨ha.size, fun i => (ha.tmp i).mono hle', ⟨⟨_, hf'.le _ _ (hf2.le _ _ (Ren.put_same _ _ _)), rfl⟩, ha.df.mono hle'⟩⟩
  | some L0 =>
    cases crd with
    | none => exact hrd.elim
    | some cL0 =>
    simp only at hk
    obtain ⟨l0, hg0, hk⟩ := hk
    obtain ⟨r0, hq0, rfl⟩ := hrd
    obtain ⟨r0', l0', q0, hq0', hh0, hlt0, g1, g2, g3, g4, g5, g6, g7, g8, g9, g10⟩ := loopAt hr hg0
    rw [hq0] at hq0'; cases hq0'
    obtain ⟨hr2, hf2⟩ := hr.alloc (x := .loop { state := .ready, pending := none, fn, tmps := ca.tmps, params := ps, assign, body, defers := l0'.defers })
      (o := .loop { state := .ready, pending := none, fn := 0, n := a.n, tm := a.tm, params := ps, assign := assign, body := body, defers := l0.defers })
      (w' := w.alloc (.loop { state := .ready, pending := none, fn, tmps := ca.tmps, params := ps, assign, body, defers := l0'.defers })) (base := 0) (lim := 0) rfl
      (fun ρ' hle hL => ⟨{ state := .ready, pending := none, fn, tmps := ca.tmps, params := ps, assign, body, defers := l0'.defers }, q0, by show (w.heap.push _)[_]? = _; simp, rfl, rfl, trivial, rfl, rfl, rfl, hle _ _ g7, g8, ha.size, fun i => (ha.tmp i).mono hle⟩)
    have hL := Ren.put_same ρ h.next ⟨w.heap.size, 0, 0⟩
    have hent : (Instr.enterLoop fn ca.tmps ps assign body (some r0.blk)).run P w = .ok (w.heap.size, []) (w.alloc (.loop { state := .ready, pending := none, fn, tmps := ca.tmps, params := ps, assign, body, defers := l0'.defers })) := by
      unfold Instr.enterLoop
      simp only [Sem.run_bind, run_getLoop hh0, run_newObj_alloc, Result.andThen, Sem.run_pure]
    refine ⟨w.heap.size, [], _, _, _, gf, _, _, hent, hres _ _, fun _ _ => trivial, hinv hk.1 _ _, fun h => by simp [fence, Fence.wide] at h, ?_⟩
    have hcall := callsIn_wide (n := n - 1).2 (hk.2 _ _ _ (hla h.next _ hf2.le hL) hr2)
    refine (show CallsIn (fence (some r0.blk)) (n - 1) P gf _ _ _ from hcall).mono ?_
    rintro e w' ⟨ρ', v, v', h', rfl, hq, hv, hr', hf'⟩
    have hle' := Ren.le_trans hf2.le hf'.le
    have hrd' : RD ρ' (some L0) (some r0.blk) := ⟨r0, hle' _ _ hq0, rfl⟩
    exact hq.sound (r := ⟨w.heap.size, 0, 0⟩) (hf'.le _ _ hL) hrd' (ha.mono hle') hr' (hf2.trans hf') v'

end Go.Ab

namespace Go.Ab

def WFH (h : AH) : Prop := ∀ A, h.next ≤ A → h.get A = none

theorem HR.wf {ρ : Ren} {h : AH} {w : World} (hr : HR ρ h w) : WFH h := by
  intro A hA
  cases e : h.get A with
  | none => rfl
  | some o =>
    obtain ⟨r, hq, _⟩ := hr.obj A o e
    have := hr.dom A r hq
    omega

def pureK : Op → Bool
  | .move _ | .assign _ | .pick .. | .build .. | .nilCheck _ | .binOp .. | .unOp .. | .convert .. | .makeInterface .. | .makeFunc .. | .slice .. | .fieldAddr .. | .field .. | .indexAddr .. | .index .. | .extract .. => true
  | .call { callee := .builtin .min, .. } | .call { callee := .builtin .max, .. } => true
  | _ => false

def readK : Op → Bool
  | .load .. | .lookup .. | .entry _ => true
  | .call { callee := .builtin .len, .. } => true
  | _ => false

def allocK : Op → Bool
  | .alloc _ | .box .. | .buildSlice .. | .makeMap .. | .makeSlice .. => true
  | _ => false

section
variable {P : Program} {ev ev' : Operand → Value}

theorem mapH {x : Option Value} {v : Value} {h h1 : AH} (hd : (x.map fun v => (v, h)) = some (v, h1)) : h1 = h ∧ ∀ h' : AH, (x.map fun v => (v, h')) = some (v, h') := by
  cases x with
  | none => cases hd
  | some u => cases hd; exact ⟨rfl, fun _ => rfl⟩

theorem aBytes_next {s d : TypeId} {x : Value} {h h1 : AH} {v : Value} (hb : aBytes P s d x h = some (v, h1)) : ∃ ob, h1 = h.new ob := by
  unfold aBytes at hb
  repeat' split at hb
  all_goals first | (cases hb; done) | (cases hb; exact ⟨_, rfl⟩)

theorem aBytes_any {s d : TypeId} {x : Value} {h : AH} (h' : AH) (hb : aBytes P s d x h = none) : aBytes P s d x h' = none := by
  unfold aBytes at hb ⊢
  repeat' split at hb
  all_goals first | (cases hb; done) | rfl | simp_all

theorem new_ne {h : AH} {ob : AObj} : h ≠ h.new ob := by
  intro e
  have := congrArg AH.next e
  simp at this

theorem dop_pure' {op : Op} {h h1 : AH} {v : Value} (hk : pureK op = true) (hd : dop P ev op h = some (v, h1)) : (h1 = h ∧ ∀ h', dop P ev op h' = some (v, h')) ∨ ∃ ob, h1 = h.new ob := by
  unfold pureK at hk
  split at hk <;> (try cases hk; done) <;> simp only [dop] at hd ⊢ <;> try exact .inl (mapH hd)
  case h_1 x => cases hd; exact .inl ⟨rfl, fun _ => rfl⟩
  case h_2 x => cases hd; exact .inl ⟨rfl, fun _ => rfl⟩
  case h_3 c x y =>
    split at hd
    · rename_i e; cases hd; exact .inl ⟨rfl, fun _ => rfl⟩
    · cases hd
  case h_8 s d x =>
    split at hd
    · rename_i r hb; cases hd; exact .inr (aBytes_next hb)
    · rename_i hb
      obtain ⟨e, g⟩ := mapH hd
      exact .inl ⟨e, fun h' => by rw [aBytes_any h' hb]; exact g h'⟩
  case h_9 t x =>
    split at hd
    · rename_i e; cases hd; exact .inl ⟨rfl, fun _ => by rw [if_pos e]⟩
    · cases hd
  case h_10 f a b =>
    cases f <;> simp only at hd ⊢ <;> first | (cases hd; exact .inl ⟨rfl, fun _ => rfl⟩) | cases hd
  case h_11 t x lo hi mx =>
    cases mx with
    | some _ => simp only at hd; cases hd
    | none => simp only at hd ⊢; exact .inl (mapH hd)
  all_goals
    unfold aBuiltin at hd ⊢
    rename_i args at'
    cases hm : args.toList.map ev with
    | nil => rw [hm] at hd; cases hd
    | cons x xs => rw [hm] at hd; exact .inl (mapH hd)

theorem dop_pure {op : Op} {h : AH} {v : Value} (hk : pureK op = true) (hd : dop P ev op h = some (v, h)) : ∀ h', dop P ev op h' = some (v, h') := by
  rcases dop_pure' hk hd with ⟨_, g⟩ | ⟨ob, e⟩
  · exact g
  · exact absurd e new_ne

def Sub (h h' : AH) : Prop := ∀ A o, h.get A = some o → h'.get A = some o

theorem Sub.new {h : AH} (hw : WFH h) (ob : AObj) : Sub h (h.new ob) := by
  intro A o ha
  rw [AH.new_get]
  split
  · rename_i e; subst e; rw [hw _ (Nat.le_refl _)] at ha; cases ha
  · exact ha

theorem aLoad_sub {h h' : AH} (hs : Sub h h') {t : TypeId} {x v : Value} (hv : aLoad P t x h = some v) : aLoad P t x h' = some v := by
  unfold aLoad at hv ⊢
  split at hv
  · rename_i A off
    cases hg : h.get A with
    | none => rw [hg] at hv; cases hv
    | some o => rw [hg] at hv; rw [hs _ _ hg]; exact hv
  · cases hv

theorem mapAt_sub {h h' : AH} (hs : Sub h h') {m : Value} {r : List MapEntry × Nat} (hv : mapAt h m = some r) : mapAt h' m = some r := by
  unfold mapAt at hv ⊢
  split at hv
  · rename_i M
    cases hg : h.get M with
    | none => rw [hg] at hv; cases hv
    | some o => rw [hg] at hv; rw [hs _ _ hg]; exact hv
  · cases hv

theorem aLookup_sub {h h' : AH} (hs : Sub h h') {t : TypeId} {m k v : Value} {ok : Bool} (hv : aLookup P t m k ok h = some v) : aLookup P t m k ok h' = some v := by
  cases m <;> try exact hv
  rename_i r
  cases r with
  | none => exact hv
  | some M =>
    cases hm : mapAt h (.map (some M)) with
    | none =>
      exfalso
      unfold aLookup at hv
      simp only [hm, Option.map_none] at hv
      repeat' split at hv
      all_goals cases hv
    | some r =>
      unfold aLookup at hv ⊢
      simp only [hm] at hv
      simp only [mapAt_sub hs hm]
      exact hv

theorem aLen_sub {h h' : AH} (hs : Sub h h') {t : TypeId} {x v : Value} (hv : aLen P t x h = some v) : aLen P t x h' = some v := by
  unfold aLen at hv ⊢
  split at hv <;> try exact hv
  · rename_i M _
    split at hv
    · rename_i es clk hg
      rw [hs _ _ hg]; exact hv
    · cases hv

theorem aIterEntry_sub {h h' : AH} (hs : Sub h h') {x v : Value} (hv : aIterEntry x h = some v) : aIterEntry x h' = some v := by
  unfold aIterEntry at hv ⊢
  split at hv
  · split at hv
    · rename_i M a seen stepped hg
      rw [hs _ _ hg]
      split at hv
      · rename_i stamp es clk h1 h2
        simp only [h1, hs _ _ h2]; exact hv
      · cases hv
    · cases hv
  · cases hv

theorem mapS {x : Option Value} {v : Value} {h h1 : AH} (hd : (x.map fun v => (v, h)) = some (v, h1)) : h1 = h ∧ x = some v := by
  cases x with
  | none => cases hd
  | some u => cases hd; exact ⟨rfl, rfl⟩

theorem dop_read {op : Op} {h h1 : AH} {v : Value} (hk : readK op = true) (hd : dop P ev op h = some (v, h1)) : h1 = h ∧ ∀ h', Sub h h' → dop P ev op h' = some (v, h') := by
  unfold readK at hk
  split at hk <;> (try cases hk; done) <;> simp only [dop] at hd ⊢
  · obtain ⟨rfl, e⟩ := mapS hd; exact ⟨rfl, fun h' hs => by rw [aLoad_sub hs e]; rfl⟩
  · obtain ⟨rfl, e⟩ := mapS hd; exact ⟨rfl, fun h' hs => by rw [aLookup_sub hs e]; rfl⟩
  · obtain ⟨rfl, e⟩ := mapS hd; exact ⟨rfl, fun h' hs => by rw [aIterEntry_sub hs e]; rfl⟩
  · rename_i args at'
    unfold aBuiltin at hd ⊢
    match hm : args.toList.map ev with
    | [] => rw [hm] at hd; cases hd
    | [x] =>
      rw [hm] at hd
      simp only at hd ⊢
      cases ht : at'[0]? with
      | none => rw [ht] at hd; cases hd
      | some t => rw [ht] at hd; obtain ⟨rfl, e⟩ := mapS hd; exact ⟨rfl, fun h' hs => by simp only; rw [aLen_sub hs e]; rfl⟩
    | _ :: _ :: _ => rw [hm] at hd; cases hd

theorem dop_alloc {op : Op} {h h1 : AH} {v : Value} (hk : allocK op = true) (hd : dop P ev op h = some (v, h1)) : h1 = h ∨ ∃ ob, h1 = h.new ob := by
  unfold allocK at hk
  split at hk <;> (try cases hk; done) <;> simp only [dop] at hd
  · unfold aAlloc at hd
    repeat' split at hd
    all_goals first | (cases hd; done) | (cases hd; exact .inr ⟨_, rfl⟩)
  · unfold aBox at hd
    repeat' split at hd
    all_goals first | (cases hd; done) | (cases hd; exact .inr ⟨_, rfl⟩)
  · unfold aBuildSlice at hd
    repeat' split at hd
    all_goals first | (cases hd; done) | (cases hd; exact .inr ⟨_, rfl⟩)
  · rename_i t r
    cases r <;> simp only at hd <;> cases hd
    exact .inr ⟨_, rfl⟩
  · unfold aMakeSlice at hd
    repeat' split at hd
    all_goals first | (cases hd; done) | (cases hd; exact .inr ⟨_, rfl⟩)

theorem dop_congr {op : Op} {h : AH} (he : ∀ x ∈ op.operands.toList, ev x = ev' x) : dop P ev op h = dop P ev' op h := by
  have lst : ∀ xs : Array Operand, (∀ x ∈ xs.toList, ev x = ev' x) → xs.toList.map ev = xs.toList.map ev' := fun xs hx => List.map_congr_left hx
  have prs : ∀ ps : Array (Nat × Operand), (∀ x ∈ ps.toList.map (·.2), ev x = ev' x) → (ps.toList.map fun p => (p.1, ev p.2)) = ps.toList.map fun p => (p.1, ev' p.2) := fun ps hp =>
    List.map_congr_left fun p hm => by rw [hp p.2 (List.mem_map.2 ⟨p, hm, rfl⟩)]
  cases op <;> simp only [Op.operands] at he <;> simp only [dop] <;> (try rfl)
  case build t ps => rw [prs ps (by simpa using he)]
  case buildSlice t n ps => rw [prs ps (by simpa using he)]
  case makeFunc f a b =>
    cases f <;> simp only
    rw [Array.map_congr_left (xs := a) fun x hx => he x (by simp [hx]), Array.map_congr_left (xs := b) fun x hx => he x (by simp [hx])]
  case makeMap t r => cases r <;> simp only
  case slice t x lo hi mx =>
    cases mx <;> simp only
    cases lo <;> cases hi <;> simp_all [oev]
  case call c =>
    obtain ⟨callee, args, at'⟩ := c
    cases callee <;> simp only
    rw [lst args fun x hx => he x (by simpa [Call.operands] using hx)]
  all_goals simp_all

theorem opR_congr {op : Op} {h : AH} {K : Value → AH → Prop} (he : ∀ x ∈ op.operands.toList, ev x = ev' x) (hk : opR P ev op h K) : opR P ev' op h K := by
  unfold opR at hk ⊢
  split
  · rename_i f args at'
    simp only at hk
    rw [he f (by simp [Op.operands, Call.operands]), List.map_congr_left (g := ev') (l := args.toList) fun x hx => he x (by simp [Op.operands, Call.operands]; exact .inr (by simpa using hx))] at hk
    exact hk
  · rename_i it
    simp only at hk
    rw [he it (by simp [Op.operands])] at hk; exact hk
  · rename_i h1 h2
    split at hk
    · exact absurd rfl (h1 _ _ _)
    · exact absurd rfl (h2 _)
    · obtain ⟨v, h', hd, hkk⟩ := hk
      exact ⟨v, h', (dop_congr he).symm.trans hd, hkk⟩

theorem opR_of_dop {op : Op} {h h' : AH} {v : Value} {K : Value → AH → Prop} (hd : dop P ev op h = some (v, h')) (hk : K v h') : opR P ev op h K := by
  unfold opR
  split
  · cases hd
  · cases hd
  · exact ⟨v, h', hd, hk⟩

end
end Go.Ab

namespace Go.Ab

section
variable {P : Program} {ops : Array Oper} {Q : Exit → AAct → AH → Prop}

theorem AAct.ev_put {a : AAct} {d : Option Tmp} {v : Value} {x : Operand} (h : ∀ t, d = some t → x ≠ .tmp t) : (a.put d v).ev x = a.ev x := by
  cases d with
  | none => rfl
  | some t =>
    cases x with
    | tmp u =>
      have : u ≠ t := fun e => h t rfl (by rw [e])
      simp [AAct.put, AAct.ev, this]
    | _ => rfl

theorem AAct.put_comm (a : AAct) {x y : Option Tmp} (v u : Value) (h : ∀ d, x = some d → y ≠ some d) : (a.put x v).put y u = (a.put y u).put x v := by
  cases x with
  | none => rfl
  | some d =>
    cases y with
    | none => rfl
    | some e =>
      have hne : e ≠ d := fun he => h d rfl (by rw [he])
      simp only [AAct.put]
      congr 1
      funext i
      by_cases h1 : i = e
      · subst h1; simp [hne]
      · simp [h1]

theorem ev_put_looks {o : Oper} {a : AAct} {d : Option Tmp} {v : Value} (h : ∀ t, d = some t → t ∉ o.looksAt ops) : ∀ x ∈ o.op.operands.toList, (a.put d v).ev x = a.ev x := by
  intro x hx
  refine AAct.ev_put fun t ht e => h t ht ?_
  subst e
  exact List.mem_append_left _ (List.mem_filterMap.2 ⟨.tmp t, hx, rfl⟩)

theorem put_n (a : AAct) (d : Option Tmp) (v : Value) : (a.put d v).n = a.n := by cases d <;> rfl

theorem wanted_put_looks {o : Oper} {a : AAct} {d : Option Tmp} {v : Value} (h : ∀ t, d = some t → t ∉ o.looksAt ops) : Region.wanted o (yieldedA ops (a.put d v)) = Region.wanted o (yieldedA ops a) := by
  unfold Region.wanted
  cases hg : o.guard with
  | none => rfl
  | some gw =>
    obtain ⟨g, want⟩ := gw
    have : yieldedA ops (a.put d v) g = yieldedA ops a g := by
      unfold yieldedA
      cases ht : (ops[g]?).bind (·.dst) with
      | none => rfl
      | some t =>
        simp only [put_n]
        cases d with
        | none => rfl
        | some e =>
          have hne : t ≠ e := fun x => h e rfl (by subst x; simp [Oper.looksAt, hg, ht])
          simp only [AAct.put, if_neg hne]
    simp only [this]

def Still (P : Program) (ops : Array Oper) (o : Oper) (v : Value) (a : AAct) (h : AH) : Prop :=
  o.op.operands.toList.all cOK = true ∧ dstOK a o.dst ∧ if Region.wanted o (yieldedA ops a) then dop P a.ev o.op h = some (v, h) else v = undef

theorem dstOK_put {a : AAct} {d e : Option Tmp} {v : Value} (h : dstOK a d) : dstOK (a.put e v) d := by
  cases d with
  | none => trivial
  | some t => simpa [dstOK, put_n] using h

theorem Still.opW {o : Oper} {v : Value} {a : AAct} {h : AH} {K : AAct → AH → Prop} (hs : Still P ops o v a h) (hk : K (a.put o.dst v) h) : opW P ops o a h K := by
  obtain ⟨h1, h2, h3⟩ := hs
  refine ⟨h1, h2, ?_⟩
  split
  · rename_i hw; rw [if_pos hw] at h3; exact opR_of_dop h3 hk
  · rename_i hw; rw [if_neg hw] at h3; subst h3; exact hk

def quietK (op : Op) : Bool := pureK op || readK op || allocK op

theorem quiet_heap {op : Op} {ev : Operand → Value} {h h' : AH} {v : Value} (hw : WFH h) (hq : quietK op = true) (hd : dop P ev op h = some (v, h')) : Sub h h' := by
  unfold quietK at hq
  rw [Bool.or_eq_true, Bool.or_eq_true] at hq
  rcases hq with (hp | hr) | ha
  · rcases dop_pure' hp hd with ⟨e, _⟩ | ⟨ob, e⟩ <;> subst e
    · exact fun _ _ x => x
    · exact Sub.new hw ob
  · rw [(dop_read hr hd).1]; exact fun _ _ x => x
  · rcases dop_alloc ha hd with e | ⟨ob, e⟩ <;> subst e
    · exact fun _ _ x => x
    · exact Sub.new hw ob

theorem Still.move {o oj : Oper} {v u : Value} {a : AAct} {h h' : AH} (hs : Still P ops o v a h) (hl : ∀ t, oj.dst = some t → t ∉ o.looksAt ops) (hh : pureK o.op = true ∨ (readK o.op = true ∧ Sub h h')) : Still P ops o v (a.put oj.dst u) h' := by
  obtain ⟨h1, h2, h3⟩ := hs
  refine ⟨h1, dstOK_put h2, ?_⟩
  rw [wanted_put_looks hl]
  split
  · rename_i hw
    rw [if_pos hw] at h3
    rw [dop_congr (ev_put_looks hl)]
    rcases hh with hp | ⟨hr, hsub⟩
    · exact dop_pure hp h3 h'
    · exact (dop_read hr h3).2 h' hsub
  · rename_i hw; rw [if_neg hw] at h3; exact h3

theorem Still.put {o : Oper} {v u : Value} {a : AAct} {d : Option Tmp} {h : AH} (hs : Still P ops o v a h) (hl : ∀ t, d = some t → t ∉ o.looksAt ops) : Still P ops o v (a.put d u) h := by
  obtain ⟨h1, h2, h3⟩ := hs
  refine ⟨h1, dstOK_put h2, ?_⟩
  rw [wanted_put_looks hl]
  split
  · rename_i hw; rw [if_pos hw] at h3; rw [dop_congr (ev_put_looks hl)]; exact h3
  · rename_i hw; rw [if_neg hw] at h3; exact h3

theorem Still.unput {o : Oper} {v u : Value} {a : AAct} {d : Option Tmp} {h : AH} (hs : Still P ops o v (a.put d u) h) (hl : ∀ t, d = some t → t ∉ o.looksAt ops) : Still P ops o v a h := by
  obtain ⟨h1, h2, h3⟩ := hs
  rw [wanted_put_looks hl] at h3
  refine ⟨h1, ?_, ?_⟩
  · cases hd : o.dst with
    | none => trivial
    | some t => rw [hd] at h2; simpa [dstOK, put_n] using h2
  · split
    · rename_i hw; rw [if_pos hw] at h3; rw [dop_congr (ev_put_looks hl)] at h3; exact h3
    · rename_i hw; rw [if_neg hw] at h3; exact h3

theorem opW_put {o oj : Oper} {v : Value} {a : AAct} {h : AH} {K : AAct → AH → Prop} (hwf : WFH h) (hap : o.apart ops oj = true)
    (hkd : pureK o.op = true ∨ (readK o.op = true ∧ quietK oj.op = true) ∨ ((∀ t, o.dst = some t → t ∉ o.looksAt ops) ∧ ∀ a h, K a h → Still P ops o v a h))
    (hs : Still P ops o v a h) (hj : opW P ops oj (a.put o.dst v) h K) : opW P ops oj a h (fun a' h' => Still P ops o v a' h' ∧ K (a'.put o.dst v) h') := by
  obtain ⟨s1, s2, s3⟩ := Oper.apart_spec hap
  obtain ⟨h1, h2, h3⟩ := hj
  have h2' : dstOK a oj.dst := by
    cases hd : oj.dst with
    | none => trivial
    | some t => rw [hd] at h2; simpa [dstOK, put_n] using h2
  refine ⟨h1, h2', ?_⟩
  rw [wanted_put_looks s1] at h3
  have comm : ∀ u h', K ((a.put o.dst v).put oj.dst u) h' → K ((a.put oj.dst u).put o.dst v) h' := fun u h' hk => by rw [← AAct.put_comm a v u s2]; exact hk
  split
  · rename_i hw
    rw [if_pos hw] at h3
    have h3 := opR_congr (ev_put_looks s1) h3
    rcases hkd with hp | ⟨hr, hq⟩ | ⟨hself, hst⟩
    · exact h3.mono fun u h' hk => ⟨hs.move s3 (.inl hp), comm u h' hk⟩
    · unfold opR at h3
      split at h3
      · rename_i e; rw [e] at hq; simp [quietK, pureK, readK, allocK] at hq
      · rename_i e; rw [e] at hq; simp [quietK, pureK, readK, allocK] at hq
      · obtain ⟨u, h', hd, hk⟩ := h3
        exact opR_of_dop hd ⟨hs.move s3 (.inr ⟨hr, quiet_heap hwf hq hd⟩), comm u h' hk⟩
    · exact h3.mono fun u h' hk => ⟨(hst _ _ (comm u h' hk)).unput hself, comm u h' hk⟩
  · rename_i hw
    rw [if_neg hw] at h3
    refine ⟨?_, comm _ _ h3⟩
    rcases hkd with hp | ⟨hr, _⟩ | ⟨hself, hst⟩
    · exact hs.move s3 (.inl hp)
    · exact hs.move s3 (.inr ⟨hr, fun _ _ x => x⟩)
    · exact (hst _ _ (comm _ _ h3)).unput hself

def Keeps (P : Program) (ops : Array Oper) (R : List (Oper × Value)) (a : AAct) (h : AH) : Prop := ∀ p ∈ R, Still P ops p.1 p.2 a h

def anyW (P : Program) (ops : Array Oper) (Q : Exit → AAct → AH → Prop) : Nat → Array Bool → List (Oper × Value) → AAct → AH → Prop
  | 0, listed, R, a, h => WFH h → Keeps P ops R a h → Region.ready .any ops listed = [] ∧ Q .normal a h
  | fuel + 1, listed, R, a, h => WFH h → Keeps P ops R a h → (Region.ready .any ops listed = [] → Q .normal a h) ∧
    ∀ i ∈ Region.ready .any ops listed, ∀ o, ops[i]? = some o → opW P ops o a h (fun a' h' => Keeps P ops R a' h' ∧ anyW P ops Q fuel (listed.setIfInBounds i true) R a' h')

theorem wpAnyIn_mono {F : Fence} {n : Nat} {Q Q' : Exit → Act → World → Prop} (hq : ∀ e a w, Q e a w → Q' e a w) : ∀ (fuel : Nat) (listed : Array Bool) (a : Act) (w : World), wpAnyIn F n P .any ops Q fuel listed a w → wpAnyIn F n P .any ops Q' fuel listed a w := by
  intro fuel
  induction fuel with
  | zero => intro listed a w h; exact ⟨h.1, hq _ _ _ h.2⟩
  | succ fuel ih =>
    intro listed a w h
    refine ⟨fun e => hq _ _ _ (h.1 e), fun i hi => ?_⟩
    have h := wpOpIn_mono (fun a w => ih (listed.setIfInBounds i true) a w) (h.2 i hi)
    unfold wpOpIn at h ⊢
    split
    · rename_i ho; rw [ho] at h; exact h
    · rename_i o ho
      rw [ho] at h
      simp only at h
      split
      · rename_i hw
        rw [if_pos hw] at h
        refine ⟨h.1, ?_⟩
        have h := h.2
        generalize (o.semAt F.round a.eval).run P w = r at h ⊢
        cases r with
        | ok x w' =>
          cases x <;> simp only [Oper.uponIn] at h ⊢ <;>
            first
              | exact h
              | exact ⟨h.1, CallsIn.mono h.2 (fun e w'' he => by cases e <;> first | exact he | exact hq _ _ _ he | exact (let ⟨a, w, x⟩ := he; ⟨a, w, hq _ _ _ x⟩))⟩
              | exact ⟨h.1, RoundIn.mono h.2 (fun e w'' he => by cases e <;> first | exact he | exact hq _ _ _ he | exact (let ⟨a, w, x⟩ := he; ⟨a, w, hq _ _ _ x⟩))⟩
        | halt x w' => cases x <;> simp only [Oper.uponIn] at h ⊢ <;> first | exact h | exact hq _ _ _ h
      · rename_i hw; rw [if_neg hw] at h; exact h

theorem anyW.sound {n : Nat} {crd : Option Nat} {R : List (Oper × Value)} : ∀ (fuel : Nat) (listed : Array Bool) (a : AAct) (h : AH), Keeps P ops R a h → anyW P ops Q fuel listed R a h → ∀ (ρ : Ren) (ca : Act) (w : World), AR ρ a ca → HR ρ h w →
    wpAnyIn (fence crd) n P .any ops (PostE ρ h w Q) fuel listed ca w := by
  intro fuel
  induction fuel with
  | zero => intro listed a h hK hq ρ ca w ha hr; exact ⟨(hq hr.wf hK).1, ρ, a, h, (hq hr.wf hK).2, ha, hr, Frm.refl _ _ _⟩
  | succ fuel ih =>
    intro listed a h hK hq ρ ca w ha hr
    obtain ⟨h0, h1⟩ := hq hr.wf hK
    refine ⟨fun e => ⟨ρ, a, h, h0 e, ha, hr, Frm.refl _ _ _⟩, fun i hi => ?_⟩
    unfold wpOpIn
    cases ho : ops[i]? with
    | none => obtain ⟨_, o, e, _⟩ := mem_ready.1 hi; rw [ho] at e; cases e
    | some o =>
      refine (h1 i hi o ho).sound ha hr (N := wpAnyIn (fence crd) n P .any ops (PostE ρ h w Q) fuel (listed.setIfInBounds i true)) ?_
      rintro ca1 w1 ⟨ρ1, a1, h1, ⟨hK1, hk⟩, ha1, hr1, hf1⟩
      exact wpAnyIn_mono (fun e ca w' hp => hp.trans hf1) _ _ ca1 w1 (ih _ a1 h1 hK1 hk ρ1 ca1 w1 ha1 hr1)

theorem AW.draw {rd : Option Nat} {id : Nat} {a : AAct} {h : AH} (hm : P.follows .mixedOrders = true) (hx : anyW P ops Q ops.size (Array.replicate ops.size false) [] a h) : AW P rd (.region id ops true) Q a h := by
  intro n ρ crd ca w hrd ha hr
  refine wpIn_region_any hm ?_
  have hr' : HR ρ h { w with drawn := w.drawn + 1 } := HR.same (w := w) rfl hr
  have hf' : Frm ρ h w ρ h { w with drawn := w.drawn + 1 } := Frm.same rfl
  exact wpAnyIn_mono (fun e ca w' hp => hp.trans hf') _ _ _ _ (anyW.sound _ _ a h (fun _ hp => by cases hp) hx ρ ca _ ha hr')

theorem anyW.less {R R' : List (Oper × Value)} (sub : ∀ a h, Keeps P ops R' a h → Keeps P ops R a h) : ∀ {fuel : Nat} {listed : Array Bool} {a : AAct} {h : AH}, (Keeps P ops R a h → Keeps P ops R' a h) → anyW P ops Q fuel listed R' a h → anyW P ops Q fuel listed R a h := by
  intro fuel
  induction fuel with
  | zero => intro listed a h hkk hq hwf hK; exact hq hwf (hkk hK)
  | succ fuel ih =>
    intro listed a h hkk hq hwf hK
    obtain ⟨h0, h1⟩ := hq hwf (hkk hK)
    exact ⟨h0, fun i hi o ho => (h1 i hi o ho).mono fun a' h' ⟨x, y⟩ => ⟨sub _ _ x, ih (fun _ => x) y⟩⟩

/-- Members of D wait for i, or for one another. -/
def waits (ops : Array Oper) (listed : Array Bool) (i : Nat) (D : List Nat) : Bool :=
  D.all fun j => !(listed.getD j true) && (match ops[j]? with
    | none => false
    | some oj => oj.after.any fun e => Region.binds .any e && (e.on == i || D.contains e.on))

def loose (ops : Array Oper) (listed : Array Bool) (i : Nat) (o : Oper) (D : List Nat) : Bool :=
  (List.range ops.size).all fun j => j == i || D.contains j || listed.getD j true || (match ops[j]? with
    | none => true
    | some oj => o.apart ops oj && (pureK o.op || (readK o.op && quietK oj.op)))

def looseW (ops : Array Oper) (listed : Array Bool) (i : Nat) (o : Oper) (D : List Nat) : Bool :=
  (List.range ops.size).all fun j => j == i || D.contains j || listed.getD j true || (match ops[j]? with
    | none => true
    | some oj => o.apart ops oj)

/-- An operation's own target is none of what it looks at. -/
def selfOK (ops : Array Oper) (o : Oper) : Bool := match o.dst with
  | some d => !(o.looksAt ops).contains d
  | none => true

/-- An operation's target is none of what a watched one looks at. -/
def offW (ops : Array Oper) (o : Oper) (ws : List Nat) : Bool := ws.all fun w => match ops[w]? with
  | some r => (match o.dst with
    | some d => !(r.looksAt ops).contains d
    | none => true)
  | none => false

theorem anyW.take {i : Nat} {o : Oper} {v : Value} {D : List Nat} {R R' : List (Oper × Value)} (ho : ops[i]? = some o)
    (hR' : (R' = R ∧ (pureK o.op = true ∨ readK o.op = true)) ∨ (R' = (o, v) :: R ∧ ∀ t, o.dst = some t → t ∉ o.looksAt ops)) (hoff : ∀ p ∈ R, ∀ t, o.dst = some t → t ∉ p.1.looksAt ops) :
    ∀ (fuel : Nat) (listed : Array Bool) (a : AAct) (h : AH), i ∈ Region.ready .any ops listed →
      (∀ j ∈ D, listed.getD j true = false ∧ ∃ oj, ops[j]? = some oj ∧ ∃ e ∈ oj.after, Region.binds .any e = true ∧ (e.on = i ∨ e.on ∈ D)) →
      (∀ j oj, ops[j]? = some oj → j ≠ i → j ∉ D → listed.getD j true = false → o.apart ops oj = true ∧ (R' = (o, v) :: R ∨ pureK o.op = true ∨ (readK o.op = true ∧ quietK oj.op = true))) →
      Still P ops o v a h → anyW P ops Q fuel (listed.setIfInBounds i true) R' (a.put o.dst v) h → anyW P ops Q (fuel + 1) listed R a h := by
  have notD : ∀ (listed : Array Bool) (j : Nat), i ∈ Region.ready .any ops listed → (∀ j ∈ D, listed.getD j true = false ∧ ∃ oj, ops[j]? = some oj ∧ ∃ e ∈ oj.after, Region.binds .any e = true ∧ (e.on = i ∨ e.on ∈ D)) →
      j ∈ Region.ready .any ops listed → j ∉ D := by
    intro listed j hi hD hj hmem
    obtain ⟨_, oj, hoj, e, he, hb, hon⟩ := hD j hmem
    obtain ⟨_, oj', hoj', hall⟩ := mem_ready.1 hj
    rw [hoj] at hoj'; cases hoj'
    have h1 := hall e he hb
    have h0 : listed.getD e.on true = false := by
      rcases hon with hon | hon
      · rw [hon]; exact (mem_ready.1 hi).1
      · exact (hD _ hon).1
    rcases Nat.lt_or_ge e.on listed.size with h' | h'
    · simp [h'] at h0 h1; rw [h0] at h1; cases h1
    · simp [Array.getElem?_eq_none h'] at h1
  have keep : ∀ (a : AAct) (h : AH), Keeps P ops R a h → Keeps P ops R (a.put o.dst v) h := fun a h hK p hp => (hK p hp).put (hoff p hp)
  have unkeep : ∀ (a : AAct) (h : AH), Keeps P ops R (a.put o.dst v) h → Keeps P ops R a h := fun a h hK p hp => (hK p hp).unput (hoff p hp)
  have keep' : ∀ (a : AAct) (h : AH), Keeps P ops R a h → Still P ops o v a h → Keeps P ops R' (a.put o.dst v) h := by
    intro a h hK hs
    rcases hR' with ⟨rfl, _⟩ | ⟨rfl, hself⟩
    · exact keep a h hK
    · intro p hp
      rcases List.mem_cons.1 hp with rfl | hp
      · exact hs.put hself
      · exact keep a h hK p hp
  have sub : ∀ (a : AAct) (h : AH), Keeps P ops R' a h → Keeps P ops R a h := by
    intro a h hK
    rcases hR' with ⟨rfl, _⟩ | ⟨rfl, _⟩
    · exact hK
    · exact fun p hp => hK p (List.mem_cons_of_mem _ hp)
  intro fuel
  induction fuel with
  | zero =>
    intro listed a h hr hD hfree hs H hwf hK
    refine ⟨(fun e => by rw [e] at hr; cases hr), fun j hj oj hoj => ?_⟩
    have H' := H hwf (keep' a h hK hs)
    by_cases hji : j = i
    · subst hji; rw [ho] at hoj; cases hoj
      exact hs.opW ⟨keep a h hK, fun _ _ => H'⟩
    · have := ready_mono hj hji
      rw [H'.1] at this; cases this
  | succ fuel ih =>
    intro listed a h hr hD hfree hs H hwf hK
    refine ⟨(fun e => by rw [e] at hr; cases hr), fun j hj oj hoj => ?_⟩
    by_cases hji : j = i
    · subst hji; rw [ho] at hoj; cases hoj
      refine hs.opW ⟨keep a h hK, ?_⟩
      -- the watched ones are more: fewer are asked for
      exact anyW.less sub (fun hK => keep' a h (unkeep a h hK) hs) H
    · have hjD := notD listed j hr hD hj
      obtain ⟨hjun, _⟩ := mem_ready.1 hj
      obtain ⟨hap, hkd⟩ := hfree j oj hoj hji hjD hjun
      have h1 := (H hwf (keep' a h hK hs)).2 j (ready_mono hj hji) oj hoj
      have hkd' : pureK o.op = true ∨ (readK o.op = true ∧ quietK oj.op = true) ∨ ((∀ t, o.dst = some t → t ∉ o.looksAt ops) ∧ ∀ a' h', (Keeps P ops R' a' h' ∧ anyW P ops Q fuel ((listed.setIfInBounds i true).setIfInBounds j true) R' a' h') → Still P ops o v a' h') := by
        rcases hR' with ⟨hRR, _⟩ | ⟨hRR, hself⟩
        · rcases hkd with e | e | e
          · rw [e] at hRR; exact absurd (congrArg List.length hRR) (by simp)
          · exact .inl e
          · exact .inr (.inl e)
        · exact .inr (.inr ⟨hself, fun a' h' hk => hk.1 (o, v) (by rw [hRR]; exact List.mem_cons_self ..)⟩)
      refine (opW_put hwf hap hkd' hs h1).mono ?_
      rintro a' h' ⟨hs', hK', hk⟩
      refine ⟨unkeep a' h' (sub _ _ hK'), ?_⟩
      refine ih (listed.setIfInBounds j true) a' h' (ready_mono hr (Ne.symm hji)) ?_ ?_ hs' ?_
      · intro k hk
        obtain ⟨x, y⟩ := hD k hk
        refine ⟨?_, y⟩
        rw [getD_set_ne true (fun (e : j = k) => hjD (by rw [e]; exact hk))]; exact x
      · intro k ok hok hki hkD hun
        refine hfree k ok hok hki hkD ?_
        by_cases hjk : j = k
        · subst hjk; exact hjun
        · rw [getD_set_ne true hjk] at hun; exact hun
      · rw [Array.setIfInBounds_comm _ _ hji]; exact hk


/-! ### Plans -/

inductive Plan where
  | done
  | take (i : Nat) (D : List Nat) (k : Plan)
  | watch (i : Nat) (D : List Nat) (k : Plan)
  | only (i : Nat) (k : Plan)
  | two (i : Nat) (k : Plan) (j : Nat) (l : Plan)
  | three (i : Nat) (k : Plan) (j : Nat) (l : Plan) (x : Nat) (m : Plan)

def planOK (ops : Array Oper) : Array Bool → List Nat → Plan → Bool
  | listed, _, .done => (Region.ready .any ops listed).isEmpty
  | listed, ws, .take i D k => (Region.ready .any ops listed).contains i && waits ops listed i D && (match ops[i]? with | some o => (pureK o.op || readK o.op) && loose ops listed i o D && offW ops o ws | none => false) && planOK ops (listed.setIfInBounds i true) ws k
  | listed, ws, .watch i D k => (Region.ready .any ops listed).contains i && waits ops listed i D && (match ops[i]? with | some o => selfOK ops o && looseW ops listed i o D && offW ops o ws | none => false) && planOK ops (listed.setIfInBounds i true) (i :: ws) k
  | listed, ws, .only i k => Region.ready .any ops listed == [i] && planOK ops (listed.setIfInBounds i true) ws k
  | listed, ws, .two i k j l => Region.ready .any ops listed == [i, j] && planOK ops (listed.setIfInBounds i true) ws k && planOK ops (listed.setIfInBounds j true) ws l
  | listed, ws, .three i k j l x m => Region.ready .any ops listed == [i, j, x] && planOK ops (listed.setIfInBounds i true) ws k && planOK ops (listed.setIfInBounds j true) ws l && planOK ops (listed.setIfInBounds x true) ws m

def Plan.len : Plan → Nat
  | .done => 0
  | .take _ _ k => k.len + 1
  | .watch _ _ k => k.len + 1
  | .only _ k => k.len + 1
  | .two _ k _ l => max k.len l.len + 1
  | .three _ k _ l _ m => max (max k.len l.len) m.len + 1

/-- An operation, or the region's i-th. -/
def opI (P : Program) (ops : Array Oper) (i : Nat) (a : AAct) (h : AH) (K : AAct → AH → Prop) : Prop :=
  match ops[i]? with
  | none => False
  | some o => opW P ops o a h K

def planW (P : Program) (ops : Array Oper) (Q : Exit → AAct → AH → Prop) : Plan → List (Oper × Value) → AAct → AH → Prop
  | .done, _, a, h => Q .normal a h
  | .take i _ k, R, a, h => ∃ o v, ops[i]? = some o ∧ Still P ops o v a h ∧ planW P ops Q k R (a.put o.dst v) h
  | .watch i _ k, R, a, h => ∃ o v, ops[i]? = some o ∧ Still P ops o v a h ∧ planW P ops Q k ((o, v) :: R) (a.put o.dst v) h
  | .only i k, R, a, h => opI P ops i a h (fun a h => Keeps P ops R a h ∧ planW P ops Q k R a h)
  | .two i k j l, R, a, h => opI P ops i a h (fun a h => Keeps P ops R a h ∧ planW P ops Q k R a h) ∧ opI P ops j a h (fun a h => Keeps P ops R a h ∧ planW P ops Q l R a h)
  | .three i k j l x m, R, a, h => opI P ops i a h (fun a h => Keeps P ops R a h ∧ planW P ops Q k R a h) ∧ opI P ops j a h (fun a h => Keeps P ops R a h ∧ planW P ops Q l R a h) ∧ opI P ops x a h (fun a h => Keeps P ops R a h ∧ planW P ops Q m R a h)

theorem opI.use {i : Nat} {a : AAct} {h : AH} {K K' : AAct → AH → Prop} (hk : opI P ops i a h K) (hm : ∀ a h, K a h → K' a h) {o : Oper} (ho : ops[i]? = some o) : opW P ops o a h K' := by
  unfold opI at hk
  rw [ho] at hk
  exact opW.mono hm hk

theorem waits_spec {listed : Array Bool} {i : Nat} {D : List Nat} (h2 : waits ops listed i D = true) : ∀ j ∈ D, listed.getD j true = false ∧ ∃ oj, ops[j]? = some oj ∧ ∃ e ∈ oj.after, Region.binds .any e = true ∧ (e.on = i ∨ e.on ∈ D) := by
  intro j hj
  have := List.all_eq_true.1 h2 j hj
  simp only [Bool.and_eq_true, Bool.not_eq_true'] at this
  refine ⟨this.1, ?_⟩
  have t2 := this.2
  split at t2
  · cases t2
  · rename_i oj hoj
    obtain ⟨e, he, hb⟩ := Array.any_eq_true'.1 t2
    refine ⟨oj, hoj, e, he, ?_⟩
    simpa using hb

theorem offW_spec {o : Oper} {ws : List Nat} {R : List (Oper × Value)} (hR : ∀ p ∈ R, ∃ w ∈ ws, ops[w]? = some p.1) (ho : offW ops o ws = true) : ∀ p ∈ R, ∀ t, o.dst = some t → t ∉ p.1.looksAt ops := by
  intro p hp t ht
  obtain ⟨w, hw, hpw⟩ := hR p hp
  have := List.all_eq_true.1 ho w hw
  simp only [hpw, ht] at this
  simpa using this

theorem planW.any : ∀ (p : Plan) (fuel : Nat) (listed : Array Bool) (ws : List Nat) (R : List (Oper × Value)) (a : AAct) (h : AH), (∀ p ∈ R, ∃ w ∈ ws, ops[w]? = some p.1) → planOK ops listed ws p = true → p.len ≤ fuel → planW P ops Q p R a h → anyW P ops Q fuel listed R a h := by
  intro p
  induction p with
  | done =>
    intro fuel listed ws R a h _ hok _ hw
    have hr : Region.ready .any ops listed = [] := by simpa [planOK] using hok
    cases fuel with
    | zero => exact fun _ _ => ⟨hr, hw⟩
    | succ fuel => exact fun _ _ => ⟨fun _ => hw, by rw [hr]; intro i hi; cases hi⟩
  | take i D k ih =>
    intro fuel listed ws R a h hR hok hf hw
    obtain ⟨o, v, ho, hs, hw⟩ := hw
    simp only [planOK, Bool.and_eq_true, ho] at hok
    obtain ⟨⟨⟨h1, h2⟩, ⟨h3, h5⟩, h6⟩, h4⟩ := hok
    cases fuel with
    | zero => simp [Plan.len] at hf
    | succ fuel =>
      refine anyW.take (D := D) (R' := R) ho (.inl ⟨rfl, by simpa using h3⟩) (offW_spec hR h6) fuel listed a h (by simpa using h1) (waits_spec h2) ?_ hs (ih fuel _ ws R _ _ hR h4 (by simp only [Plan.len] at hf; omega) hw)
      intro j oj hoj hji hjD hun
      have hlt : j < ops.size := (Array.getElem?_eq_some_iff.1 hoj).1
      have := List.all_eq_true.1 h5 j (List.mem_range.2 hlt)
      simp only [hoj, hun, Bool.or_false, Bool.or_eq_true, beq_iff_eq, hji, false_or, List.contains_iff_mem, hjD, Bool.and_eq_true] at this
      exact ⟨this.1, .inr this.2⟩
  | watch i D k ih =>
    intro fuel listed ws R a h hR hok hf hw
    obtain ⟨o, v, ho, hs, hw⟩ := hw
    simp only [planOK, Bool.and_eq_true, ho] at hok
    obtain ⟨⟨⟨h1, h2⟩, ⟨h3, h5⟩, h6⟩, h4⟩ := hok
    cases fuel with
    | zero => simp [Plan.len] at hf
    | succ fuel =>
      have hself : ∀ t, o.dst = some t → t ∉ o.looksAt ops := fun t ht => by simpa [selfOK, ht] using h3
      have hR2 : ∀ p ∈ (o, v) :: R, ∃ w ∈ i :: ws, ops[w]? = some p.1 := by
        intro p hp
        rcases List.mem_cons.1 hp with rfl | hp
        · exact ⟨i, List.mem_cons_self .., ho⟩
        · obtain ⟨w, hw, e⟩ := hR p hp; exact ⟨w, List.mem_cons_of_mem _ hw, e⟩
      refine anyW.take (D := D) (R' := (o, v) :: R) ho (.inr ⟨rfl, hself⟩) (offW_spec hR h6) fuel listed a h (by simpa using h1) (waits_spec h2) ?_ hs (ih fuel _ (i :: ws) _ _ _ hR2 h4 (by simp only [Plan.len] at hf; omega) hw)
      intro j oj hoj hji hjD hun
      have hlt : j < ops.size := (Array.getElem?_eq_some_iff.1 hoj).1
      have := List.all_eq_true.1 h5 j (List.mem_range.2 hlt)
      simp only [hoj, hun, Bool.or_false, Bool.or_eq_true, beq_iff_eq, hji, false_or, List.contains_iff_mem, hjD] at this
      exact ⟨this, .inl rfl⟩
  | only i k ih =>
    intro fuel listed ws R a h hR hok hf hw
    simp only [planOK, Bool.and_eq_true, beq_iff_eq] at hok
    obtain ⟨h1, h2⟩ := hok
    cases fuel with
    | zero => simp [Plan.len] at hf
    | succ fuel =>
      simp only [Plan.len] at hf
      refine fun _ _ => ⟨(fun e => by rw [h1] at e; cases e), ?_⟩
      rw [h1]
      intro j hj o ho
      simp only [List.mem_singleton] at hj; subst hj
      exact hw.use (fun a h hk => ⟨hk.1, ih fuel _ ws R a h hR h2 (by omega) hk.2⟩) ho
  | two i k j l ih1 ih2 =>
    intro fuel listed ws R a h hR hok hf hw
    simp only [planOK, Bool.and_eq_true, beq_iff_eq] at hok
    obtain ⟨⟨h1, h2⟩, h3⟩ := hok
    cases fuel with
    | zero => simp [Plan.len] at hf
    | succ fuel =>
      simp only [Plan.len] at hf
      refine fun _ _ => ⟨(fun e => by rw [h1] at e; cases e), ?_⟩
      rw [h1]
      intro x hx o ho
      simp only [List.mem_cons, List.not_mem_nil, or_false] at hx
      rcases hx with rfl | rfl
      · exact hw.1.use (fun a h hk => ⟨hk.1, ih1 fuel _ ws R a h hR h2 (by omega) hk.2⟩) ho
      · exact hw.2.use (fun a h hk => ⟨hk.1, ih2 fuel _ ws R a h hR h3 (by omega) hk.2⟩) ho
  | three i k j l x m ih1 ih2 ih3 =>
    intro fuel listed ws R a h hR hok hf hw
    simp only [planOK, Bool.and_eq_true, beq_iff_eq] at hok
    obtain ⟨⟨⟨h1, h2⟩, h3⟩, h4⟩ := hok
    cases fuel with
    | zero => simp [Plan.len] at hf
    | succ fuel =>
      simp only [Plan.len] at hf
      refine fun _ _ => ⟨(fun e => by rw [h1] at e; cases e), ?_⟩
      rw [h1]
      intro y hy o ho
      simp only [List.mem_cons, List.not_mem_nil, or_false] at hy
      rcases hy with rfl | rfl | rfl
      · exact hw.1.use (fun a h hk => ⟨hk.1, ih1 fuel _ ws R a h hR h2 (by omega) hk.2⟩) ho
      · exact hw.2.1.use (fun a h hk => ⟨hk.1, ih2 fuel _ ws R a h hR h3 (by omega) hk.2⟩) ho
      · exact hw.2.2.use (fun a h hk => ⟨hk.1, ih3 fuel _ ws R a h hR h4 (by omega) hk.2⟩) ho

theorem AW.plan {rd : Option Nat} {id : Nat} {a : AAct} {h : AH} (p : Plan) (hm : P.follows .mixedOrders = true) (hp : planOK ops (Array.replicate ops.size false) [] p = true) (hl : p.len ≤ ops.size)
    (hx : planW P ops Q p [] a h) : AW P rd (.region id ops true) Q a h := AW.draw hm (planW.any p _ _ [] [] a h (fun _ h => by cases h) hp hl hx)

end
end Go.Ab
