/- Own layer 'Ab': an abstract heap, and its relation to the world of the model. Generic over the program. Own layer 'Ab': reads and writes of cells, new rows: what they are on the abstract heap, and that the model's operations do just that. Own layer 'Ab': the operations that only reckon. Own layer 'Ab': addresses, slices, parts. Own layer 'Ab': append. -/
import Derived.OrdersIn
import Derived.RangeFuncLeaves
import Derived.LoopNIn
import Derived.WalkKit
import Derived.Laws.StructEq
set_option linter.unusedSimpArgs false
set_option linter.unusedVariables false
namespace Go.Ab

/-- Where an abstract block lies: its block in the world, the offset at which it begins there, the end of its room. -/
structure RE where
  blk : Nat
  base : Nat
  lim : Nat

abbrev Ren := Nat → Option RE

def Ren.le (ρ ρ' : Ren) : Prop := ∀ i r, ρ i = some r → ρ' i = some r

theorem Ren.le_refl (ρ : Ren) : ρ.le ρ := fun _ _ h => h
theorem Ren.le_trans {a b c : Ren} (h : a.le b) (g : b.le c) : a.le c := fun i r x => g i r (h i r x)

def Ren.put (ρ : Ren) (A : Nat) (r : RE) : Ren := fun i => if i = A then some r else ρ i

theorem Ren.put_same (ρ : Ren) (A : Nat) (r : RE) : ρ.put A r A = some r := by simp [Ren.put]
theorem Ren.put_ne (ρ : Ren) {A i : Nat} (r : RE) (h : i ≠ A) : ρ.put A r i = ρ i := by simp [Ren.put, h]
theorem Ren.le_put {ρ : Ren} {A : Nat} {r : RE} (h : ρ A = none) : ρ.le (ρ.put A r) := by
  intro i q hi
  by_cases e : i = A
  · subst e; rw [h] at hi; cases hi
  · rw [Ren.put_ne _ _ e]; exact hi

/-- The capacity of a slice whose room is not known: this number and the cells of an element. -/
def SL : Nat := 18446744073709551616

inductive FR (ρ : Ren) : Fn → Fn → Prop
  | func (f : FuncId) : FR ρ (.func f) (.func f)
  | yield {A : Nat} {r : RE} (h : ρ A = some r) : FR ρ (.yield A) (.yield r.blk)

inductive VR (ρ : Ren) : Value → Value → Prop
  | bool (b : Bool) : VR ρ (.bool b) (.bool b)
  | int (k : IntKind) (n : Int) : VR ρ (.int k n) (.int k n)
  | string (s : ByteArray) : VR ρ (.string s) (.string s)
  | nilPtr : VR ρ (.pointer none) (.pointer none)
  | ptr {A off : Nat} {r : RE} (h : ρ A = some r) : VR ρ (.pointer (some ⟨A, off, none⟩)) (.pointer (some ⟨r.blk, r.base + off, none⟩))
  | nilSlice (l c : Nat) : VR ρ (.slice none l c) (.slice none l c)
  | slice {A off l c : Nat} {r : RE} (h : ρ A = some r) (hc : c < SL) :
      VR ρ (.slice (some ⟨A, off, none⟩) l c) (.slice (some ⟨r.blk, r.base + off, none⟩) l c)
  | slack {A off l c s : Nat} {r : RE} (h : ρ A = some r) (hl : l ≤ c) (hlim : r.base + off + c * s ≤ r.lim) (hc : c ≤ 9223372036854775807) :
      VR ρ (.slice (some ⟨A, off, none⟩) l (SL + s)) (.slice (some ⟨r.blk, r.base + off, none⟩) l c)
  | slack0 {A off off' s : Nat} {r : RE} (h : ρ A = some r) :
      VR ρ (.slice (some ⟨A, off, none⟩) 0 (SL + s)) (.slice (some ⟨r.blk, off', none⟩) 0 0)
  | slip {A off : Nat} {p : Addr} : VR ρ (.slice (some ⟨A, off, none⟩) 0 0) (.slice (some p) 0 0)
  | nilMap : VR ρ (.map none) (.map none)
  | map {A : Nat} {r : RE} (h : ρ A = some r) : VR ρ (.map (some A)) (.map (some r.blk))
  | nilFunc : VR ρ .nilFunc .nilFunc
  | func {f g : Fn} {xs xs' ys ys' : Array Value} (hf : FR ρ f g) (h1 : xs.size = xs'.size)
      (h2 : ∀ (i : Nat) (v v' : Value), xs[i]? = some v → xs'[i]? = some v' → VR ρ v v') (h3 : ys.size = ys'.size)
      (h4 : ∀ (i : Nat) (v v' : Value), ys[i]? = some v → ys'[i]? = some v' → VR ρ v v') : VR ρ (.func f xs ys) (.func g xs' ys')
  | nilIface : VR ρ .nilIface .nilIface
  | iface {t : TypeId} {v v' : Value} (h : VR ρ v v') : VR ρ (.iface t v) (.iface t v')
  | agg {xs xs' : Array Value} (h1 : xs.size = xs'.size)
      (h2 : ∀ (i : Nat) (v v' : Value), xs[i]? = some v → xs'[i]? = some v' → VR ρ v v') : VR ρ (.agg xs) (.agg xs')
  | tuple {xs xs' : Array Value} (h1 : xs.size = xs'.size)
      (h2 : ∀ (i : Nat) (v v' : Value), xs[i]? = some v → xs'[i]? = some v' → VR ρ v v') : VR ρ (.tuple xs) (.tuple xs')

theorem FR.mono {ρ ρ' : Ren} (hle : ρ.le ρ') {f g : Fn} (h : FR ρ f g) : FR ρ' f g := by
  cases h with
  | func f => exact .func f
  | yield h => exact .yield (hle _ _ h)

theorem VR.mono {ρ ρ' : Ren} (hle : ρ.le ρ') {v v' : Value} (h : VR ρ v v') : VR ρ' v v' := by
  induction h with
  | bool b => exact .bool b
  | int k n => exact .int k n
  | string s => exact .string s
  | nilPtr => exact .nilPtr
  | ptr h => exact .ptr (hle _ _ h)
  | nilSlice l c => exact .nilSlice l c
  | slice h hc => exact .slice (hle _ _ h) hc
  | slack h hl hlim hc => exact .slack (hle _ _ h) hl hlim hc
  | slack0 h => exact .slack0 (hle _ _ h)
  | slip => exact .slip
  | nilMap => exact .nilMap
  | map h => exact .map (hle _ _ h)
  | nilFunc => exact .nilFunc
  | func hf h1 h2 h3 h4 i2 i4 => exact .func (hf.mono hle) h1 (fun i v v' a b => i2 i v v' a b) h3 (fun i v v' a b => i4 i v v' a b)
  | nilIface => exact .nilIface
  | iface h ih => exact .iface ih
  | agg h1 h2 i2 => exact .agg h1 (fun i v v' a b => i2 i v v' a b)
  | tuple h1 h2 i2 => exact .tuple h1 (fun i v v' a b => i2 i v v' a b)

/-- Two lists of values, one by one. -/
def LR (ρ : Ren) (xs ys : List Value) : Prop := xs.length = ys.length ∧ ∀ (i : Nat) (v v' : Value), xs[i]? = some v → ys[i]? = some v' → VR ρ v v'

theorem LR.mono {ρ ρ' : Ren} (hle : ρ.le ρ') {xs ys : List Value} (h : LR ρ xs ys) : LR ρ' xs ys :=
  ⟨h.1, fun i v v' a b => (h.2 i v v' a b).mono hle⟩
theorem LR.nil (ρ : Ren) : LR ρ [] [] := ⟨rfl, fun i v v' a _ => by simp at a⟩
theorem LR.cons {ρ : Ren} {x y : Value} {xs ys : List Value} (h : VR ρ x y) (t : LR ρ xs ys) : LR ρ (x :: xs) (y :: ys) := by
  refine ⟨by simp [t.1], fun i v v' a b => ?_⟩
  cases i with
  | zero => simp at a b; subst a; subst b; exact h
  | succ i => simp at a b; exact t.2 i v v' a b
theorem LR.single {ρ : Ren} {x y : Value} (h : VR ρ x y) : LR ρ [x] [y] := (LR.nil ρ).cons h
theorem LR.get {ρ : Ren} {xs ys : List Value} (h : LR ρ xs ys) {i : Nat} {v : Value} (hv : xs[i]? = some v) : ∃ v', ys[i]? = some v' ∧ VR ρ v v' := by
  have hlt : i < ys.length := by rw [← h.1]; exact (List.getElem?_eq_some_iff.1 hv).1
  exact ⟨ys[i], List.getElem?_eq_getElem hlt, h.2 i v _ hv (List.getElem?_eq_getElem hlt)⟩
theorem LR.append {ρ : Ren} {a b c d : List Value} (h : LR ρ a b) (g : LR ρ c d) : LR ρ (a ++ c) (b ++ d) := by
  refine ⟨by simp [h.1, g.1], fun i v v' p q => ?_⟩
  by_cases hi : i < a.length
  · rw [List.getElem?_append_left hi] at p
    rw [List.getElem?_append_left (by rw [← h.1]; exact hi)] at q
    exact h.2 i v v' p q
  · rw [List.getElem?_append_right (by omega)] at p
    rw [List.getElem?_append_right (by rw [← h.1]; omega)] at q
    rw [← h.1] at q
    exact g.2 _ v v' p q
theorem LR.take {ρ : Ren} {a b : List Value} (h : LR ρ a b) (n : Nat) : LR ρ (a.take n) (b.take n) := by
  refine ⟨by simp [h.1], fun i v v' p q => ?_⟩
  rw [List.getElem?_take] at p q
  split at p
  · rename_i hi; rw [if_pos hi] at q; exact h.2 i v v' p q
  · cases p
theorem LR.drop {ρ : Ren} {a b : List Value} (h : LR ρ a b) (n : Nat) : LR ρ (a.drop n) (b.drop n) := by
  refine ⟨by simp [h.1], fun i v v' p q => ?_⟩
  rw [List.getElem?_drop] at p q
  exact h.2 _ v v' p q
theorem LR.set {ρ : Ren} {a b : List Value} (h : LR ρ a b) (n : Nat) {x y : Value} (hx : VR ρ x y) : LR ρ (a.set n x) (b.set n y) := by
  refine ⟨by simp [h.1], fun i v v' p q => ?_⟩
  rw [List.getElem?_set] at p q
  by_cases hn : n = i
  · subst hn
    simp only [if_true] at p q
    split at p
    · split at q
      · cases p; cases q; exact hx
      · cases q
    · cases p
  · rw [if_neg hn] at p q; exact h.2 i v v' p q
theorem LR.of_refl {ρ : Ren} {a : List Value} (h : ∀ v ∈ a, VR ρ v v) : LR ρ a a :=
  ⟨rfl, fun i v v' p q => by rw [p] at q; cases q; exact h v (List.mem_of_getElem? p)⟩
theorem LR.map {ρ : Ren} {α : Type} {l : List α} {f g : α → Value} (h : ∀ x ∈ l, VR ρ (f x) (g x)) : LR ρ (l.map f) (l.map g) := by
  refine ⟨by simp, fun i v v' p q => ?_⟩
  simp only [List.getElem?_map, Option.map_eq_some_iff] at p q
  obtain ⟨x, hx, rfl⟩ := p
  obtain ⟨y, hy, rfl⟩ := q
  rw [hx] at hy; cases hy
  exact h x (List.mem_of_getElem? hx)

theorem VR.ofAgg {ρ : Ren} {xs : Array Value} {v : Value} (h : VR ρ (.agg xs) v) : ∃ ys, v = .agg ys ∧ LR ρ xs.toList ys.toList := by
  cases h with
  | agg h1 h2 => exact ⟨_, rfl, by simpa using h1, fun i v v' a b => h2 i v v' (by simpa using a) (by simpa using b)⟩
theorem VR.ofTuple {ρ : Ren} {xs : Array Value} {v : Value} (h : VR ρ (.tuple xs) v) : ∃ ys, v = .tuple ys ∧ LR ρ xs.toList ys.toList := by
  cases h with
  | tuple h1 h2 => exact ⟨_, rfl, by simpa using h1, fun i v v' a b => h2 i v v' (by simpa using a) (by simpa using b)⟩
theorem LR.toAgg {ρ : Ren} {xs ys : List Value} (h : LR ρ xs ys) : VR ρ (.agg xs.toArray) (.agg ys.toArray) :=
  .agg (by simpa using h.1) (fun i v v' a b => h.2 i v v' (by simpa using a) (by simpa using b))
theorem LR.toTuple {ρ : Ren} {xs ys : List Value} (h : LR ρ xs ys) : VR ρ (.tuple xs.toArray) (.tuple ys.toArray) :=
  .tuple (by simpa using h.1) (fun i v v' a b => h.2 i v v' (by simpa using a) (by simpa using b))
theorem VR.undef (ρ : Ren) : VR ρ Go.undef Go.undef := .tuple rfl (fun i v v' a _ => by simp at a)

theorem VR.cells {ρ : Ren} {v v' : Value} (h : VR ρ v v') : LR ρ v.cells.toList v'.cells.toList := by
  cases h with
  | agg h1 h2 => exact (VR.ofAgg (.agg h1 h2)).elim fun ys h => by obtain ⟨e, hl⟩ := h; cases e; exact hl
  | bool b => exact LR.single (.bool b)
  | int k n => exact LR.single (.int k n)
  | string s => exact LR.single (.string s)
  | nilPtr => exact LR.single .nilPtr
  | ptr h => exact LR.single (.ptr h)
  | nilSlice l c => exact LR.single (.nilSlice l c)
  | slice h hc => exact LR.single (.slice h hc)
  | slack h hl hlim hc => exact LR.single (.slack h hl hlim hc)
  | slack0 h => exact LR.single (.slack0 h)
  | slip => exact LR.single .slip
  | nilMap => exact LR.single .nilMap
  | map h => exact LR.single (.map h)
  | nilFunc => exact LR.single .nilFunc
  | func hf h1 h2 h3 h4 => exact LR.single (.func hf h1 h2 h3 h4)
  | nilIface => exact LR.single .nilIface
  | iface h => exact LR.single (.iface h)
  | tuple h1 h2 => exact LR.single (.tuple h1 h2)

/-- The value of one cell. -/
def oneC : Value → Bool
  | .agg _ | .tuple _ => false
  | _ => true

theorem VR.one {ρ : Ren} {v v' : Value} (h : VR ρ v v') : oneC v' = oneC v := by
  cases h <;> rfl

/-- Values that bear no address: each is its own. -/
def plain : Nat → Value → Bool
  | 0, _ => false
  | n + 1, v => match v with
    | .bool _ | .int _ _ | .string _ | .pointer none | .slice none _ _ | .map none | .nilFunc | .nilIface => true
    | .iface _ v => plain n v
    | .agg xs => xs.toList.all (plain n)
    | .tuple xs => xs.toList.all (plain n)
    | _ => false

theorem plain_VR (ρ : Ren) : ∀ (n : Nat) (v : Value), plain n v = true → VR ρ v v := by
  intro n
  induction n with
  | zero => intro v h; simp [plain] at h
  | succ n ih =>
    intro v h
    unfold plain at h
    split at h
    case h_1 => exact .bool _
    case h_2 => exact .int _ _
    case h_3 => exact .string _
    case h_4 => exact .nilPtr
    case h_5 => exact .nilSlice _ _
    case h_6 => exact .nilMap
    case h_7 => exact .nilFunc
    case h_8 => exact .nilIface
    case h_9 => exact .iface (ih _ h)
    case h_10 xs =>
      refine .agg rfl fun i v v' a b => ?_
      rw [a] at b; cases b
      exact ih v (List.all_eq_true.1 h v (by simpa using Array.mem_of_getElem? a))
    case h_11 xs =>
      refine .tuple rfl fun i v v' a b => ?_
      rw [a] at b; cases b
      exact ih v (List.all_eq_true.1 h v (by simpa using Array.mem_of_getElem? a))
    case h_12 => cases h

/-! ### The abstract heap -/

structure ALoop where
  state : LoopState
  pending : Option Code
  fn : FuncId
  n : Nat
  tm : Nat → Value
  params : Array Tmp
  assign : Code
  body : Code
  defers : Nat

inductive AObj where
  | row (c : List Value) (elem : TypeId) (wr : Bool)
  | grow (c : List Value) (elem : TypeId)
  | map (es : List MapEntry) (clk : Nat)
  | iter (m : Option Nat) (since : Nat) (seen : List Nat) (stepped : Nat)
  | loop (l : ALoop)
  | dfr (live : Bool)

def AObj.own : AObj → Bool
  | .row _ _ wr => wr
  | _ => true

structure AH where
  next : Nat
  get : Nat → Option AObj

def AH.set (h : AH) (A : Nat) (o : AObj) : AH := { next := h.next, get := fun i => if i = A then some o else h.get i }
def AH.del (h : AH) (A : Nat) : AH := { next := h.next, get := fun i => if i = A then none else h.get i }
def AH.new (h : AH) (o : AObj) : AH := { next := h.next + 1, get := fun i => if i = h.next then some o else h.get i }

@[simp] theorem AH.set_next (h : AH) (A : Nat) (o : AObj) : (h.set A o).next = h.next := rfl
@[simp] theorem AH.del_next (h : AH) (A : Nat) : (h.del A).next = h.next := rfl
@[simp] theorem AH.new_next (h : AH) (o : AObj) : (h.new o).next = h.next + 1 := rfl
theorem AH.set_get (h : AH) (A : Nat) (o : AObj) (i : Nat) : (h.set A o).get i = if i = A then some o else h.get i := rfl
theorem AH.del_get (h : AH) (A : Nat) (i : Nat) : (h.del A).get i = if i = A then none else h.get i := rfl
theorem AH.new_get (h : AH) (o : AObj) (i : Nat) : (h.new o).get i = if i = h.next then some o else h.get i := rfl

/-- A row of cells, as it lies in the world. -/
structure RowAt (ρ : Ren) (r : RE) (w : World) (c : List Value) (elem : TypeId) (wr : Bool) (cc : Array Value) (fr : Nat × Nat) : Prop where
  heap : w.heap[r.blk]? = some (.cells cc elem fr)
  fits : r.base + c.length ≤ cc.size
  cell : ∀ (i : Nat) (v : Value), c[i]? = some v → ∃ v', cc[r.base + i]? = some v' ∧ VR ρ v v'
  free : wr = true → ∀ i, i ≤ cc.size → ¬ (fr.1 ≤ i ∧ i < fr.2)
  one : ∀ v ∈ c, oneC v = true

def ER (ρ : Ren) (es es' : List MapEntry) : Prop :=
  es.length = es'.length ∧ ∀ (i : Nat) (e e' : MapEntry), es[i]? = some e → es'[i]? = some e' → e.born = e'.born ∧ VR ρ e.key e'.key ∧ VR ρ e.val e'.val

theorem ER.mono {ρ ρ' : Ren} (hle : ρ.le ρ') {es es' : List MapEntry} (h : ER ρ es es') : ER ρ' es es' :=
  ⟨h.1, fun i e e' a b => let ⟨x, y, z⟩ := h.2 i e e' a b; ⟨x, y.mono hle, z.mono hle⟩⟩

def MRel (ρ : Ren) : Option Nat → Option Nat → Prop
  | none, m' => m' = none
  | some M, m' => ∃ q, ρ M = some q ∧ m' = some q.blk

/-- Every cell is some value's. -/
def AllR (ρ : Ren) (cc : Array Value) : Prop := ∀ (i : Nat) (v' : Value), cc[i]? = some v' → oneC v' = true ∧ ∃ v, VR ρ v v'

theorem AllR.mono {ρ ρ' : Ren} (hle : ρ.le ρ') {cc : Array Value} (h : AllR ρ cc) : AllR ρ' cc := fun i v' hi => let ⟨a, v, b⟩ := h i v' hi; ⟨a, v, b.mono hle⟩

def OR (ρ : Ren) (r : RE) (w : World) : AObj → Prop
  | .row c elem wr => ∃ cc fr, RowAt ρ r w c elem wr cc fr
  | .grow c elem => ∃ cc fr, RowAt ρ r w c elem true cc fr ∧ cc.size = r.lim ∧ AllR ρ cc
  | .map es clk => ∃ es', w.heap[r.blk]? = some (.map es' clk) ∧ ER ρ es es'.toList
  | .iter m since seen stepped => ∃ m', w.heap[r.blk]? = some (.mapIter m' since seen.toArray stepped) ∧ r.base = 0 ∧ MRel ρ m m'
  | .loop l => ∃ l' q, w.heap[r.blk]? = some (.loop l') ∧ l'.state = l.state ∧ l'.pending = l.pending ∧ True ∧ l'.params = l.params ∧
      l'.assign = l.assign ∧ l'.body = l.body ∧ ρ l.defers = some q ∧ l'.defers = q.blk ∧ l'.tmps.size = l.n ∧ ∀ i, VR ρ (l.tm i) (l'.tmps.getD i undef)
  | .dfr live => w.heap[r.blk]? = some (.deferred (if live then some [] else none))

theorem OR.heap_some {ρ : Ren} {r : RE} {w : World} {o : AObj} (h : OR ρ r w o) : ∃ x, w.heap[r.blk]? = some x := by
  cases o with
  | row c e wr => obtain ⟨cc, fr, h⟩ := h; exact ⟨_, h.heap⟩
  | grow c e => obtain ⟨cc, fr, h, _⟩ := h; exact ⟨_, h.heap⟩
  | map es clk => obtain ⟨es', h, _⟩ := h; exact ⟨_, h⟩
  | iter m a b c => obtain ⟨m', h, _⟩ := h; exact ⟨_, h⟩
  | loop l => obtain ⟨l', q, h, _⟩ := h; exact ⟨_, h⟩
  | dfr l => exact ⟨_, h⟩

theorem OR.lt {ρ : Ren} {r : RE} {w : World} {o : AObj} (h : OR ρ r w o) : r.blk < w.heap.size := by
  obtain ⟨x, hx⟩ := h.heap_some
  exact (Array.getElem?_eq_some_iff.1 hx).1

/-- An object's relation hangs on its own block alone, and grows with the renaming. -/
theorem OR.move {ρ ρ' : Ren} {r : RE} {w w' : World} {o : AObj} (hle : ρ.le ρ') (hb : w'.heap[r.blk]? = w.heap[r.blk]?) (h : OR ρ r w o) : OR ρ' r w' o := by
  cases o with
  | row c e wr =>
    obtain ⟨cc, fr, h⟩ := h
    exact ⟨cc, fr, ⟨hb.trans h.heap, h.fits, fun i v hi => let ⟨v', a, b⟩ := h.cell i v hi; ⟨v', a, b.mono hle⟩, h.free, h.one⟩⟩
  | grow c e =>
    obtain ⟨cc, fr, h, hl, ha⟩ := h
    exact ⟨cc, fr, ⟨hb.trans h.heap, h.fits, fun i v hi => let ⟨v', a, b⟩ := h.cell i v hi; ⟨v', a, b.mono hle⟩, h.free, h.one⟩, hl, ha.mono hle⟩
  | map es clk => obtain ⟨es', h, he⟩ := h; exact ⟨es', hb.trans h, he.mono hle⟩
  | iter m a b c =>
    obtain ⟨m', h, h0, hm⟩ := h
    refine ⟨m', hb.trans h, h0, ?_⟩
    cases m with
    | none => exact hm
    | some M => obtain ⟨q, hq, e⟩ := hm; exact ⟨q, hle _ _ hq, e⟩
  | loop l =>
    obtain ⟨l', q, h, h1, h2, h3, h4, h5, h6, h7, h8, h9, h10⟩ := h
    exact ⟨l', q, hb.trans h, h1, h2, h3, h4, h5, h6, hle _ _ h7, h8, h9, fun i => (h10 i).mono hle⟩
  | dfr l => exact hb.trans h

structure HR (ρ : Ren) (h : AH) (w : World) : Prop where
  obj : ∀ A o, h.get A = some o → ∃ r, ρ A = some r ∧ OR ρ r w o
  inj : ∀ A B o p r q, h.get A = some o → h.get B = some p → ρ A = some r → ρ B = some q → A ≠ B → (o.own = true ∨ p.own = true) → r.blk ≠ q.blk
  dom : ∀ A r, ρ A = some r → A < h.next

theorem HR.fresh {ρ : Ren} {h : AH} {w : World} (hr : HR ρ h w) : ρ h.next = none := by
  cases e : ρ h.next with
  | none => rfl
  | some r => exact absurd (hr.dom _ _ e) (Nat.lt_irrefl _)

/-- The blocks that an abstract heap may write. -/
def Own (ρ : Ren) (h : AH) (b : Nat) : Prop := ∃ A o r, h.get A = some o ∧ o.own = true ∧ ρ A = some r ∧ r.blk = b

/-- What lies beside the heap stays. -/
structure Side (w w' : World) : Prop where
  os : w'.os = w.os
  tape : w'.tape = w.tape
  output : w'.output = w.output

theorem Side.refl (w : World) : Side w w := ⟨rfl, rfl, rfl⟩
theorem Side.trans {a b c : World} (x : Side a b) (y : Side b c) : Side a c := ⟨y.os.trans x.os, y.tape.trans x.tape, y.output.trans x.output⟩

structure Frm (ρ : Ren) (h : AH) (w : World) (ρ' : Ren) (h' : AH) (w' : World) : Prop where
  le : ρ.le ρ'
  size : w.heap.size ≤ w'.heap.size
  rest : ∀ b, b < w.heap.size → ¬ Own ρ h b → w'.heap[b]? = w.heap[b]?
  own : ∀ b, Own ρ' h' b → Own ρ h b ∨ w.heap.size ≤ b
  side : Side w w'

theorem Frm.refl (ρ : Ren) (h : AH) (w : World) : Frm ρ h w ρ h w := ⟨Ren.le_refl _, Nat.le_refl _, fun _ _ _ => rfl, fun _ h => .inl h, Side.refl _⟩

theorem Frm.trans {ρ ρ₁ ρ₂ : Ren} {h h₁ h₂ : AH} {w w₁ w₂ : World} (a : Frm ρ h w ρ₁ h₁ w₁) (b : Frm ρ₁ h₁ w₁ ρ₂ h₂ w₂) : Frm ρ h w ρ₂ h₂ w₂ := by
  refine ⟨Ren.le_trans a.le b.le, Nat.le_trans a.size b.size, fun x hx hn => ?_, fun x hx => ?_, a.side.trans b.side⟩
  · refine (b.rest x (Nat.lt_of_lt_of_le hx a.size) fun ho => ?_).trans (a.rest x hx hn)
    rcases a.own x ho with h | h
    · exact hn h
    · omega
  · rcases b.own x hx with h | h
    · exact a.own x h
    · exact .inr (Nat.le_trans a.size h)

/-- A step that leaves the heap's blocks as they are. -/
theorem HR.same {ρ : Ren} {h : AH} {w w' : World} (e : w'.heap = w.heap) (hr : HR ρ h w) : HR ρ h w' :=
  ⟨fun A o ho => let ⟨r, a, b⟩ := hr.obj A o ho; ⟨r, a, b.move (Ren.le_refl _) (by rw [e])⟩, hr.inj, hr.dom⟩
theorem Frm.same {ρ : Ren} {h : AH} {w w' : World} (e : w'.heap = w.heap) (sd : Side w w' := by exact ⟨rfl, rfl, rfl⟩) : Frm ρ h w ρ h w' :=
  ⟨Ren.le_refl _, by rw [e]; exact Nat.le_refl _, fun _ _ _ => by rw [e], fun _ h => .inl h, sd⟩

/-- One block more: a new abstract block for it. -/
theorem HR.alloc {ρ : Ren} {h : AH} {w : World} (hr : HR ρ h w) {x : Obj} {o : AObj} {w' : World} {base lim : Nat} (hw : w'.heap = w.heap.push x)
    (ho : ∀ ρ', ρ.le ρ' → ρ' h.next = some ⟨w.heap.size, base, lim⟩ → OR ρ' ⟨w.heap.size, base, lim⟩ w' o) (sd : Side w w' := by exact ⟨rfl, rfl, rfl⟩) :
    HR (ρ.put h.next ⟨w.heap.size, base, lim⟩) (h.new o) w' ∧ Frm ρ h w (ρ.put h.next ⟨w.heap.size, base, lim⟩) (h.new o) w' := by
  have hle : ρ.le (ρ.put h.next ⟨w.heap.size, base, lim⟩) := Ren.le_put hr.fresh
  have hold : ∀ b, b < w.heap.size → w'.heap[b]? = w.heap[b]? := fun b hb => by rw [hw, Array.getElem?_push_lt hb, Array.getElem?_eq_getElem hb]
  have hlt : ∀ A o r, h.get A = some o → ρ A = some r → r.blk < w.heap.size := fun A o r ha hq => by
    obtain ⟨r', e, hor⟩ := hr.obj A o ha
    rw [hq] at e; cases e; exact hor.lt
  refine ⟨⟨fun A o' ha => ?_, fun A B oa ob ra rb ha hb hra hrb hne hown => ?_, fun A r ha => ?_⟩, ⟨hle, by rw [hw]; simp, fun b hb _ => hold b hb, fun b hb => ?_, sd⟩⟩
  · rw [AH.new_get] at ha
    split at ha
    · rename_i e; cases ha; subst e
      exact ⟨_, Ren.put_same _ _ _, ho _ hle (Ren.put_same _ _ _)⟩
    · obtain ⟨r, e, hor⟩ := hr.obj A o' ha
      exact ⟨r, hle _ _ e, hor.move hle (hold _ hor.lt)⟩
  · rw [AH.new_get] at ha hb
    by_cases ea : A = h.next
    · have eb : B ≠ h.next := fun e => hne (ea.trans e.symm)
      rw [if_neg eb] at hb
      rw [Ren.put_ne _ _ eb] at hrb
      subst ea; rw [Ren.put_same] at hra; cases hra
      have := hlt B ob rb hb hrb
      simp; omega
    · rw [if_neg ea] at ha
      rw [Ren.put_ne _ _ ea] at hra
      by_cases eb : B = h.next
      · subst eb; rw [Ren.put_same] at hrb; cases hrb
        have := hlt A oa ra ha hra
        simp; omega
      · rw [if_neg eb] at hb
        rw [Ren.put_ne _ _ eb] at hrb
        exact hr.inj A B oa ob ra rb ha hb hra hrb hne hown
  · by_cases ea : A = h.next
    · subst ea; simp
    · rw [Ren.put_ne _ _ ea] at ha; have := hr.dom A r ha; simp; omega
  · obtain ⟨A, o', r, ha, hown, hq, rfl⟩ := hb
    rw [AH.new_get] at ha
    by_cases ea : A = h.next
    · subst ea; rw [Ren.put_same] at hq; cases hq; exact .inr (Nat.le_refl _)
    · rw [if_neg ea] at ha; rw [Ren.put_ne _ _ ea] at hq; exact .inl ⟨A, o', r, ha, hown, hq, rfl⟩

/-- One block of one's own turned. -/
theorem HR.store {ρ : Ren} {h : AH} {w : World} (hr : HR ρ h w) {A : Nat} {o o' : AObj} {r : RE} {w' : World} (ha : h.get A = some o) (hown : o.own = true) (hq : ρ A = some r)
    (hsz : w'.heap.size = w.heap.size) (hb : ∀ b, b ≠ r.blk → w'.heap[b]? = w.heap[b]?) (ho : OR ρ r w' o') (sd : Side w w' := by exact ⟨rfl, rfl, rfl⟩) :
    HR ρ (h.set A o') w' ∧ Frm ρ h w ρ (h.set A o') w' := by
  refine ⟨⟨fun B p hp => ?_, fun B C ob oc rb rc h1 h2 h3 h4 hne how => ?_, fun B q h1 => hr.dom B q h1⟩, ⟨Ren.le_refl _, Nat.le_of_eq hsz.symm, fun b hb' hn => ?_, fun b hb' => ?_, sd⟩⟩
  · rw [AH.set_get] at hp
    split at hp
    · rename_i e; cases hp; subst e; exact ⟨r, hq, ho⟩
    · rename_i e
      obtain ⟨q, eq, hor⟩ := hr.obj B p hp
      exact ⟨q, eq, hor.move (Ren.le_refl _) (hb _ (hr.inj B A p o q r hp ha eq hq e (.inr hown)))⟩
  · rw [AH.set_get] at h1 h2
    have key : ∀ X ox, (if X = A then some o' else h.get X) = some ox → ∃ px, h.get X = some px ∧ (ox.own = true → px.own = true) := by
      intro X ox hx
      split at hx
      · rename_i e; subst e; exact ⟨o, ha, fun _ => hown⟩
      · exact ⟨ox, hx, id⟩
    obtain ⟨pb, hpb, hib⟩ := key B ob h1
    obtain ⟨pc, hpc, hic⟩ := key C oc h2
    exact hr.inj B C pb pc rb rc hpb hpc h3 h4 hne (how.imp hib hic)
  · exact hb b (fun e => hn ⟨A, o, r, ha, hown, hq, e.symm⟩)
  · obtain ⟨B, p, q, hp, hown'', hqq, rfl⟩ := hb'
    rw [AH.set_get] at hp
    split at hp
    · rename_i e; subst e; exact .inl ⟨B, o, q, ha, hown, hqq, rfl⟩
    · exact .inl ⟨B, p, q, hp, hown'', hqq, rfl⟩

/-- A block of one's own is moved: given up under its old name, held under a new one (in the same block of the world, or a new one). -/
theorem HR.moved {ρ : Ren} {h : AH} {w : World} (hr : HR ρ h w) {A : Nat} {o o' : AObj} {r r' : RE} {w' : World} (ha : h.get A = some o) (hown : o.own = true) (hq : ρ A = some r)
    (hr' : r'.blk = r.blk) (hsz : w'.heap.size = w.heap.size) (hb : ∀ b, b ≠ r.blk → w'.heap[b]? = w.heap[b]?)
    (ho : ∀ ρ', ρ.le ρ' → OR ρ' r' w' o') (sd : Side w w' := by exact ⟨rfl, rfl, rfl⟩) :
    HR (ρ.put h.next r') ((h.del A).new o') w' ∧ Frm ρ h w (ρ.put h.next r') ((h.del A).new o') w' := by
  have hle : ρ.le (ρ.put h.next r') := Ren.le_put hr.fresh
  have hA : A < h.next := hr.dom A r hq
  have old : ∀ X ox, ((h.del A).new o').get X = some ox → X ≠ h.next → X ≠ A ∧ h.get X = some ox := by
    intro X ox hx hne
    rw [AH.new_get, AH.del_next, if_neg hne, AH.del_get] at hx
    split at hx
    · cases hx
    · rename_i e; exact ⟨e, hx⟩
  refine ⟨⟨fun B p hp => ?_, fun B C ob oc rb rc h1 h2 h3 h4 hne how => ?_, fun B q h1 => ?_⟩, ⟨hle, Nat.le_of_eq hsz.symm, fun b hb' hn => ?_, fun b hb' => ?_, sd⟩⟩
  · by_cases e : B = h.next
    · subst e
      rw [AH.new_get, AH.del_next, if_pos rfl] at hp; cases hp
      exact ⟨r', Ren.put_same _ _ _, ho _ hle⟩
    · obtain ⟨hne, hp'⟩ := old B p hp e
      obtain ⟨q, eq, hor⟩ := hr.obj B p hp'
      exact ⟨q, hle _ _ eq, hor.move hle (hb _ (hr.inj B A p o q r hp' ha eq hq hne (.inr hown)))⟩
  · by_cases eb : B = h.next
    · have ec : C ≠ h.next := fun x => hne (eb.trans x.symm)
      obtain ⟨hcA, hc⟩ := old C oc h2 ec
      rw [Ren.put_ne _ _ ec] at h4
      subst eb; rw [Ren.put_same] at h3; cases h3
      rw [hr']
      exact hr.inj A C o oc r rc ha hc hq h4 (fun x => hcA x.symm) (.inl hown)
    · obtain ⟨hbA, hbb⟩ := old B ob h1 eb
      rw [Ren.put_ne _ _ eb] at h3
      by_cases ec : C = h.next
      · subst ec; rw [Ren.put_same] at h4; cases h4
        rw [hr']
        exact hr.inj B A ob o rb r hbb ha h3 hq hbA (.inr hown)
      · obtain ⟨hcA, hc⟩ := old C oc h2 ec
        rw [Ren.put_ne _ _ ec] at h4
        exact hr.inj B C ob oc rb rc hbb hc h3 h4 hne how
  · by_cases e : B = h.next
    · subst e; simp
    · rw [Ren.put_ne _ _ e] at h1; have := hr.dom B q h1; simp; omega
  · exact hb b (fun e => hn ⟨A, o, r, ha, hown, hq, e.symm⟩)
  · obtain ⟨B, p, q, hp, hown'', hqq, rfl⟩ := hb'
    by_cases e : B = h.next
    · subst e; rw [Ren.put_same] at hqq; cases hqq; rw [hr']; exact .inl ⟨A, o, r, ha, hown, hq, rfl⟩
    · obtain ⟨hne, hp'⟩ := old B p hp e
      rw [Ren.put_ne _ _ e] at hqq
      exact .inl ⟨B, p, q, hp', hown'', hqq, rfl⟩

/-- A block is forgotten. -/
theorem HR.forget {ρ : Ren} {h : AH} {w : World} (hr : HR ρ h w) (A : Nat) : HR ρ (h.del A) w ∧ Frm ρ h w ρ (h.del A) w := by
  have old : ∀ X ox, (h.del A).get X = some ox → h.get X = some ox := by
    intro X ox hx
    rw [AH.del_get] at hx
    split at hx
    · cases hx
    · exact hx
  refine ⟨⟨fun B p hp => hr.obj B p (old B p hp), fun B C ob oc rb rc h1 h2 h3 h4 hne how => hr.inj B C ob oc rb rc (old _ _ h1) (old _ _ h2) h3 h4 hne how, fun B q h1 => hr.dom B q h1⟩,
    ⟨Ren.le_refl _, Nat.le_refl _, fun _ _ _ => rfl, fun b hb => ?_, Side.refl _⟩⟩
  obtain ⟨B, p, q, hp, a, b', c⟩ := hb
  exact .inl ⟨B, p, q, old B p hp, a, b', c⟩

end Go.Ab

namespace Go.Ab

/-- An operation of the model comes to a related value and heap. -/
def Snd (P : Program) (ρ : Ren) (h : AH) (w : World) (s : Sem Value) (v : Value) (h' : AH) : Prop :=
  ∃ ρ' v' w', s.run P w = .ok v' w' ∧ VR ρ' v v' ∧ HR ρ' h' w' ∧ Frm ρ h w ρ' h' w'
def SndU (P : Program) (ρ : Ren) (h : AH) (w : World) (s : Sem Unit) (h' : AH) : Prop :=
  ∃ ρ' w', s.run P w = .ok () w' ∧ HR ρ' h' w' ∧ Frm ρ h w ρ' h' w'

theorem Snd.pure {P : Program} {ρ : Ren} {h : AH} {w : World} {s : Sem Value} {v v' : Value} (hr : HR ρ h w) (hs : s.run P w = .ok v' w) (hv : VR ρ v v') : Snd P ρ h w s v h :=
  ⟨ρ, v', w, hs, hv, hr, Frm.refl _ _ _⟩

/-! ### The tables -/
section tables
variable {P : Program} (w : World)
theorem r_under {t : TypeId} {d : TypeDesc} (h : P.underlying t = some d) : (underlying t).run P w = .ok d w := run_underlying h w
theorem r_info {t : TypeId} {i : TypeInfo} (h : P.info? t = some i) : (typeInfo t).run P w = .ok i w := by
  simp [typeInfo, h]
theorem r_size {t : TypeId} {i : TypeInfo} (h : P.info? t = some i) : (sizeOf t).run P w = .ok i.size w := by
  simp [sizeOf, r_info w h]
theorem r_zero {t : TypeId} {i : TypeInfo} {z : Value} (h : P.info? t = some i) (hz : i.zero = some z) : (zeroValue t).run P w = .ok z w := by
  simp [zeroValue, r_info w h, hz]
end tables

def aggT : TypeDesc → Bool
  | .struct _ | .array _ _ => true
  | _ => false

theorem r_isAgg {P : Program} (w : World) {t : TypeId} {d : TypeDesc} (h : P.underlying t = some d) : (isAgg t).run P w = .ok (aggT d) w := by
  unfold isAgg
  simp only [Sem.run_bind, r_under w h, Result.andThen_ok]
  cases d <;> rfl

/-! ### Cells -/

def AObj.cells? : AObj → Option (List Value)
  | .row c _ _ => some c
  | .grow c _ => some c
  | _ => none

theorem OR.rowAt {ρ : Ren} {r : RE} {w : World} {o : AObj} {c : List Value} (h : OR ρ r w o) (hc : o.cells? = some c) :
    ∃ e wr cc fr, RowAt ρ r w c e wr cc fr := by
  cases o with
  | row c' e wr => simp only [AObj.cells?, Option.some.injEq] at hc; subst hc; obtain ⟨cc, fr, h⟩ := h; exact ⟨_, _, _, _, h⟩
  | grow c' e => simp only [AObj.cells?, Option.some.injEq] at hc; subst hc; obtain ⟨cc, fr, h, _⟩ := h; exact ⟨_, _, _, _, h⟩
  | _ => simp [AObj.cells?] at hc

theorem RowAt.cell? {ρ : Ren} {r : RE} {w : World} {c : List Value} {e : TypeId} {wr : Bool} {cc : Array Value} {fr : Nat × Nat} (h : RowAt ρ r w c e wr cc fr) {i : Nat} {v : Value}
    (hv : c[i]? = some v) : ∃ v', w.cell? ⟨r.blk, r.base + i, none⟩ = some v' ∧ VR ρ v v' := by
  obtain ⟨v', a, b⟩ := h.cell i v hv
  exact ⟨v', by simp [World.cell?, h.heap, a], b⟩

/-- The concrete cells behind n abstract ones. -/
theorem RowAt.many {ρ : Ren} {r : RE} {w : World} {c : List Value} {e : TypeId} {wr : Bool} {cc : Array Value} {fr : Nat × Nat} (h : RowAt ρ r w c e wr cc fr) (off n : Nat) (hn : off + n ≤ c.length) :
    ∃ cs : List Value, cs.length = n ∧ LR ρ ((c.drop off).take n) cs ∧ (∀ (P : Program) (w' : World), w'.heap[r.blk]? = w.heap[r.blk]? → (loadCells ⟨r.blk, r.base + off, none⟩ n).run P w' = .ok cs.toArray w') ∧
      (∀ j v, cs[j]? = some v → cc[r.base + off + j]? = some v) := by
  have hf := h.fits
  refine ⟨(cc.toList.drop (r.base + off)).take n, ?_, ⟨?_, ?_⟩, ?_, ?_⟩
  · simp; omega
  · simp; omega
  · intro i v v' a b
    rw [List.getElem?_take] at a b
    split at a
    · rename_i hi
      rw [if_pos hi] at b
      rw [List.getElem?_drop] at a b
      obtain ⟨u, hu, hvr⟩ := h.cell _ _ a
      rw [Array.getElem?_toList, show r.base + off + i = r.base + (off + i) by omega, hu] at b
      cases b; exact hvr
    · cases a
  · intro P w' hw'
    have hh := hw'.trans h.heap
    have hl : ((cc.toList.drop (r.base + off)).take n).length = n := by simp; omega
    have := run_loadCells_list (P := P) w' ⟨r.blk, r.base + off, none⟩ ((cc.toList.drop (r.base + off)).take n) ?_
    · rw [hl] at this; exact this
    · intro j v hj
      rw [List.getElem?_take] at hj
      split at hj
      · rw [List.getElem?_drop, Array.getElem?_toList] at hj
        unfold Addr.add
        split
        · rename_i h0; subst h0; simpa [World.cell?, hh] using hj
        · simpa [World.cell?, hh] using hj
      · cases hj
  · intro j v hj
    rw [List.getElem?_take] at hj
    split at hj
    · rw [List.getElem?_drop, Array.getElem?_toList] at hj; exact hj
    · cases hj

def aLoad (P : Program) (t : TypeId) (p : Value) (h : AH) : Option Value :=
  match p with
  | .pointer (some ⟨A, off, none⟩) =>
    match (h.get A).bind AObj.cells? with
    | none => none
    | some c =>
      match P.underlying t with
      | none => none
      | some d =>
        if aggT d then
          match P.info? t with
          | none => none
          | some i => if off + i.size ≤ c.length then some (.agg ((c.drop off).take i.size).toArray) else none
        else c[off]?
  | _ => none

theorem aLoad_rd {P : Program} {ρ : Ren} {h : AH} {w : World} {t : TypeId} {p p' v : Value} (hr : HR ρ h w) (hp : VR ρ p p') (hv : aLoad P t p h = some v) :
    ∃ v', (Instr.loadAt t p').run P w = .ok v' w ∧ VR ρ v v' := by
  unfold aLoad at hv
  split at hv
  case h_2 => cases hv
  case h_1 A off =>
    cases hp with
    | ptr hq =>
      rename_i r
      cases hc : (h.get A).bind AObj.cells? with
      | none => simp [hc] at hv
      | some c =>
        simp only [hc] at hv
        cases hd : P.underlying t with
        | none => simp [hd] at hv
        | some d =>
          simp only [hd] at hv
          obtain ⟨o, ho, hoc⟩ := Option.bind_eq_some_iff.1 hc
          obtain ⟨q, eq, hor⟩ := hr.obj A o ho
          rw [hq] at eq; cases eq
          obtain ⟨e, wr, cc, fr, hrow⟩ := hor.rowAt hoc
          by_cases hagg : aggT d = true
          · simp only [hagg, if_true] at hv
            cases hi : P.info? t with
            | none => simp [hi] at hv
            | some i =>
              simp only [hi] at hv
              split at hv
              · rename_i hle
                cases hv
                obtain ⟨cs, hl, hlr, hload, _⟩ := hrow.many off i.size hle
                refine ⟨.agg cs.toArray, ?_, hlr.toAgg⟩
                simp only [Instr.loadAt, Instr.sureAddr, loadVar, Sem.run_bind, Sem.run_pure, Result.andThen_ok, r_isAgg w hd, hagg, if_true, r_size w hi, hload P w rfl]
              · cases hv
          · simp only [hagg, if_false, Bool.false_eq_true] at hv
            obtain ⟨v', hv', hvr⟩ := hrow.cell? hv
            refine ⟨v', ?_, hvr⟩
            simp only [Instr.loadAt, Instr.sureAddr, loadVar, Sem.run_bind, Sem.run_pure, Result.andThen_ok, r_isAgg w hd, hagg, if_false, Bool.false_eq_true, run_load, hv']

theorem aLoad_snd {P : Program} {ρ : Ren} {h : AH} {w : World} {t : TypeId} {p p' v : Value} (hr : HR ρ h w) (hp : VR ρ p p') (hv : aLoad P t p h = some v) :
    Snd P ρ h w (Instr.loadAt t p') v h := let ⟨_, a, b⟩ := aLoad_rd hr hp hv; Snd.pure hr a b

/-- Cells laid from a place on. -/
def setL (c : List Value) (off : Nat) : List Value → List Value
  | [] => c
  | x :: xs => setL (c.set off x) (off + 1) xs

@[simp] theorem setL_length (c : List Value) (off : Nat) (xs : List Value) : (setL c off xs).length = c.length := by
  induction xs generalizing c off with
  | nil => rfl
  | cons x xs ih => simp [setL, ih]

theorem oneC_oneCell' (v : Value) : v.oneCell' = oneC v := by cases v <;> rfl

/-- One store. -/
theorem RowAt.store1 {ρ : Ren} {r : RE} {w : World} {c : List Value} {e : TypeId} {cc : Array Value} {fr : Nat × Nat} (h : RowAt ρ r w c e true cc fr) {i : Nat} {x x' : Value}
    (hx : VR ρ x x') (ho : oneC x = true) (hi : i < c.length) (P : Program) :
    ∃ w', (Go.store ⟨r.blk, r.base + i, none⟩ x').run P w = .ok () w' ∧ RowAt ρ r w' (c.set i x) e true (cc.setIfInBounds (r.base + i) x') fr ∧ w'.heap.size = w.heap.size ∧
      (∀ b, b ≠ r.blk → w'.heap[b]? = w.heap[b]?) ∧ Side w w' := by
  have hf := h.fits
  obtain ⟨v0, hv0, _⟩ := h.cell? (i := i) (v := c[i]) (List.getElem?_eq_getElem hi)
  have hfree := h.free rfl (r.base + i) (by omega)
  refine ⟨w.setCell ⟨r.blk, r.base + i, none⟩ x', ?_, ⟨?_, ?_, ?_, ?_, ?_⟩, by simp, ?_, ⟨rfl, rfl, rfl⟩⟩
  · rw [run_store P w _ x' _ (by rw [oneC_oneCell', hx.one]; exact ho), hv0]
    simp only []
    rw [if_neg]
    simp only [World.frozen?, h.heap]
    simpa using hfree
  · simp [World.setCell, Array.getElem?_modify, h.heap]
  · simpa using hf
  · intro j v hj
    rw [List.getElem?_set] at hj
    by_cases e : i = j
    · subst e
      rw [if_pos rfl, if_pos hi] at hj; cases hj
      exact ⟨x', by rw [Array.getElem?_setIfInBounds_self_of_lt (by omega)], hx⟩
    · rw [if_neg e] at hj
      obtain ⟨v', a, b⟩ := h.cell j v hj
      exact ⟨v', by rw [Array.getElem?_setIfInBounds_ne (by omega)]; exact a, b⟩
  · intro _ j hj; exact h.free rfl j (by simpa using hj)
  · intro v hv
    rcases List.mem_or_eq_of_mem_set hv with hv | rfl
    · exact h.one v hv
    · exact ho
  · intro b hb
    simp only [World.setCell, Array.getElem?_modify]
    rw [if_neg (fun x => hb x.symm)]

theorem add_add (b o i : Nat) : (Addr.add ⟨b, o, none⟩ i) = ⟨b, o + i, none⟩ := by
  unfold Addr.add; split <;> simp_all

theorem AllR.set {ρ : Ren} {cc : Array Value} (h : AllR ρ cc) (i : Nat) {x x' : Value} (hx : VR ρ x x') (ho : oneC x = true) : AllR ρ (cc.setIfInBounds i x') := by
  intro j v' hj
  rw [Array.getElem?_setIfInBounds] at hj
  split at hj
  · split at hj
    · cases hj; exact ⟨by rw [hx.one]; exact ho, x, hx⟩
    · cases hj
  · exact h j v' hj

theorem RowAt.stores {ρ : Ren} {r : RE} {e : TypeId} {fr : Nat × Nat} (P : Program) (b : Nat) : ∀ (xs xs' : List Value) (w : World) (c : List Value) (cc : Array Value) (i off : Nat),
    RowAt ρ r w c e true cc fr → LR ρ xs xs' → (∀ x ∈ xs, oneC x = true) → b + i = r.base + off → off + xs.length ≤ c.length →
    ∃ w' cc', (storeCells ⟨r.blk, b, none⟩ xs' i).run P w = .ok () w' ∧ RowAt ρ r w' (setL c off xs) e true cc' fr ∧ cc'.size = cc.size ∧ w'.heap.size = w.heap.size ∧
      (∀ b, b ≠ r.blk → w'.heap[b]? = w.heap[b]?) ∧ Side w w' ∧ (AllR ρ cc → AllR ρ cc') := by
  intro xs
  induction xs with
  | nil =>
    intro xs' w c cc i off h hl _ _ _
    have : xs' = [] := List.eq_nil_of_length_eq_zero hl.1.symm
    subst this
    exact ⟨w, cc, by simp [storeCells], by simpa [setL] using h, rfl, rfl, fun _ _ => rfl, Side.refl _, id⟩
  | cons x xs ih =>
    intro xs' w c cc i off h hl ho hbi hlen
    cases xs' with
    | nil => have := hl.1; simp at this
    | cons x' xs' =>
      simp only [List.length_cons] at hlen
      have hx : VR ρ x x' := hl.2 0 x x' rfl rfl
      have ht : LR ρ xs xs' := ⟨by simpa using hl.1, fun j v v' a b => hl.2 (j + 1) v v' (by simpa using a) (by simpa using b)⟩
      obtain ⟨w1, hw1, hrow1, hs1, hb1, sd1⟩ := h.store1 hx (ho x (by simp)) (by omega : off < c.length) P
      obtain ⟨w2, cc2, hw2, hrow2, hcs2, hs2, hb2, sd2, hal⟩ := ih xs' w1 (c.set off x) _ (i + 1) (off + 1) hrow1 ht (fun y hy => ho y (by simp [hy])) (by omega) (by simp; omega)
      refine ⟨w2, cc2, ?_, hrow2, by rw [hcs2]; simp, hs2.trans hs1, fun b' hb' => (hb2 b' hb').trans (hb1 b' hb'), sd1.trans sd2, fun ha => hal (ha.set _ hx (ho x (by simp)))⟩
      have hadd : (Addr.add ⟨r.blk, b, none⟩ i) = ⟨r.blk, r.base + off, none⟩ := by rw [add_add, hbi]
      simp only [storeCells, Sem.run_bind, hadd, hw1, Result.andThen_ok]
      exact hw2

def AObj.setCells (o : AObj) (off : Nat) (xs : List Value) : Option AObj :=
  match o with
  | .row c e true => if off + xs.length ≤ c.length then some (.row (setL c off xs) e true) else none
  | .grow c e => if off + xs.length ≤ c.length then some (.grow (setL c off xs) e) else none
  | _ => none

/-- A run of stores into an abstract block. -/
theorem HR.stores {ρ : Ren} {h : AH} {w : World} (hr : HR ρ h w) {A off : Nat} {o o' : AObj} {r : RE} {xs xs' : List Value} (P : Program) (ha : h.get A = some o) (hq : ρ A = some r)
    (hl : LR ρ xs xs') (ho : ∀ x ∈ xs, oneC x = true) (hs : o.setCells off xs = some o') :
    ∃ w', (storeCells ⟨r.blk, r.base + off, none⟩ xs').run P w = .ok () w' ∧ HR ρ (h.set A o') w' ∧ Frm ρ h w ρ (h.set A o') w' := by
  obtain ⟨q, eq, hor⟩ := hr.obj A o ha
  rw [hq] at eq; cases eq
  unfold AObj.setCells at hs
  split at hs
  · rename_i c e
    split at hs
    · rename_i hle
      cases hs
      obtain ⟨cc, fr, hrow⟩ := hor
      obtain ⟨w', cc', hrun, hrow', _, hsz, hb, sd, _⟩ := RowAt.stores P (r.base + off) xs xs' w c cc 0 off hrow hl ho (by omega) hle
      exact ⟨w', hrun, hr.store ha rfl hq hsz hb ⟨cc', fr, hrow'⟩ sd⟩
    · cases hs
  · rename_i c e
    split at hs
    · rename_i hle
      cases hs
      obtain ⟨cc, fr, hrow, hlim, hall⟩ := hor
      obtain ⟨w', cc', hrun, hrow', hcs, hsz, hb, sd, hal⟩ := RowAt.stores P (r.base + off) xs xs' w c cc 0 off hrow hl ho (by omega) hle
      exact ⟨w', hrun, hr.store ha rfl hq hsz hb ⟨cc', fr, hrow', hcs.trans hlim, hal hall⟩ sd⟩
    · cases hs
  · cases hs

def aStore (P : Program) (t : TypeId) (p x : Value) (h : AH) : Option AH :=
  match p with
  | .pointer (some ⟨A, off, none⟩) =>
    match P.info? t with
    | none => none
    | some i =>
      if x.cells.size = i.size ∧ x.cells.toList.all oneC = true then
        match h.get A with
        | none => none
        | some o => (o.setCells off x.cells.toList).map (h.set A)
      else none
  | _ => none

theorem aStore_snd {P : Program} {ρ : Ren} {h h' : AH} {w : World} {t : TypeId} {p p' x x' : Value} (hr : HR ρ h w) (hp : VR ρ p p') (hx : VR ρ x x') (hv : aStore P t p x h = some h') :
    SndU P ρ h w (Instr.storeAt t p' x') h' := by
  unfold aStore at hv
  split at hv
  case h_2 => cases hv
  case h_1 A off =>
    cases hp with
    | ptr hq =>
      rename_i r
      cases hi : P.info? t with
      | none => simp [hi] at hv
      | some i =>
        simp only [hi] at hv
        split at hv
        · rename_i hc
          obtain ⟨hsz, hone⟩ := hc
          cases ho : h.get A with
          | none => simp [ho] at hv
          | some o =>
            simp only [ho, Option.map_eq_some_iff] at hv
            obtain ⟨o', hs, rfl⟩ := hv
            have hl := hx.cells
            obtain ⟨w', hrun, hr', hf⟩ := hr.stores P ho hq hl (List.all_eq_true.1 hone) hs
            refine ⟨ρ, w', ?_, hr', hf⟩
            have hsz' : x'.cells.size = i.size := by have := hl.1; simp at this; omega
            simp only [Instr.storeAt, Instr.sureAddr, storeVar, Sem.run_bind, Sem.run_pure, Result.andThen_ok, r_size w hi, hsz', ne_eq, not_true_eq_false, if_false]
            exact hrun
        · cases hv

/-! ### New rows -/

theorem rowAt_new {ρ : Ren} {w w' : World} {c c' : List Value} {e : TypeId} (hw : w'.heap = w.heap.push (.cells c'.toArray e)) (hl : LR ρ c c') (ho : ∀ v ∈ c, oneC v = true) (lim : Nat) :
    RowAt ρ ⟨w.heap.size, 0, lim⟩ w' c e true c'.toArray (0, 0) := by
  refine ⟨by simp [hw], by simp [hl.1], fun i v hi => ?_, fun _ i _ h => by omega, ho⟩
  obtain ⟨v', a, b⟩ := hl.get hi
  exact ⟨v', by simpa using a, b⟩

/-- A new row of known cells. -/
theorem HR.newRow {ρ : Ren} {h : AH} {w : World} (hr : HR ρ h w) (P : Program) {c c' : List Value} {e : TypeId} (hl : LR ρ c c') (ho : ∀ v ∈ c, oneC v = true) :
    ∃ ρ' w', (Go.newRow e c'.toArray).run P w = .ok ⟨w.heap.size, 0, none⟩ w' ∧ ρ' h.next = some ⟨w.heap.size, 0, 0⟩ ∧ HR ρ' (h.new (.row c e true)) w' ∧ Frm ρ h w ρ' (h.new (.row c e true)) w' := by
  obtain ⟨a, b⟩ := hr.alloc (x := .cells c'.toArray e) (o := .row c e true) (w' := { w with heap := w.heap.push (.cells c'.toArray e) }) (base := 0) (lim := 0) rfl
    (fun ρ' hle _ => ⟨_, _, rowAt_new rfl (hl.mono hle) ho 0⟩)
  exact ⟨_, _, rfl, Ren.put_same _ _ _, a, b⟩

def aAlloc (P : Program) (t : TypeId) (h : AH) : Option (Value × AH) :=
  match P.info? t with
  | none => none
  | some i =>
    match i.zero with
    | none => none
    | some z => if z.cells.toList.all oneC = true ∧ plain 9 z = true then some (.pointer (some ⟨h.next, 0, none⟩), h.new (.row z.cells.toList t true)) else none

theorem aAlloc_snd {P : Program} {ρ : Ren} {h h' : AH} {w : World} {t : TypeId} {v : Value} (hr : HR ρ h w) (hv : aAlloc P t h = some (v, h')) :
    Snd P ρ h w (Instr.alloc t true (.tuple #[])) v h' := by
  unfold aAlloc at hv
  cases hi : P.info? t with
  | none => simp [hi] at hv
  | some i =>
    simp only [hi] at hv
    cases hz : i.zero with
    | none => simp [hz] at hv
    | some z =>
      simp only [hz] at hv
      split at hv
      · rename_i hc
        cases hv
        obtain ⟨ρ', w', hrun, hq, hr', hf⟩ := hr.newRow P (e := t) (plain_VR ρ _ z hc.2).cells (List.all_eq_true.1 hc.1)
        refine ⟨ρ', .pointer (some ⟨w.heap.size, 0, none⟩), w', ?_, ?_, hr', hf⟩
        · simp only [Instr.alloc, Sem.run_bind, r_zero w hi hz, Result.andThen_ok, newVar]
          rw [show (z.cells) = (z.cells.toList.toArray) by simp, hrun]; rfl
        · have := VR.ptr (ρ := ρ') (off := 0) hq; simpa using this
      · cases hv

def aBox (t : TypeId) (x : Value) (h : AH) : Option (Value × AH) :=
  if x.cells.toList.all oneC = true then some (.pointer (some ⟨h.next, 0, none⟩), h.new (.row x.cells.toList t true)) else none

theorem aBox_snd {P : Program} {ρ : Ren} {h h' : AH} {w : World} {t : TypeId} {x x' v : Value} (hr : HR ρ h w) (hx : VR ρ x x') (hv : aBox t x h = some (v, h')) :
    Snd P ρ h w (Instr.box t x') v h' := by
  unfold aBox at hv
  split at hv
  · rename_i hc
    cases hv
    obtain ⟨ρ', w', hrun, hq, hr', hf⟩ := hr.newRow P (e := t) hx.cells (List.all_eq_true.1 hc)
    refine ⟨ρ', .pointer (some ⟨w.heap.size, 0, none⟩), w', ?_, ?_, hr', hf⟩
    · simp only [Instr.box, Sem.run_bind, newVar]
      rw [show (x'.cells) = (x'.cells.toList.toArray) by simp, hrun]; rfl
    · have := VR.ptr (ρ := ρ') (off := 0) hq; simpa using this
  · cases hv

end Go.Ab

namespace Go.Ab

/-! ### Comparison -/

def aPart (P : Program) (t : TypeId) (cs : Array Value) (off : Nat) : Option Value :=
  match P.underlying t with
  | none => none
  | some d =>
    if aggT d then
      match P.info? t with
      | none => none
      | some i => some (.agg (cs.extract off (off + i.size)))
    else cs[off]?

theorem aPart_run {P : Program} {t : TypeId} {cs : Array Value} {off : Nat} {v : Value} (h : aPart P t cs off = some v) (w : World) : (part t cs off).run P w = .ok v w := by
  unfold aPart at h
  cases hd : P.underlying t with
  | none => simp [hd] at h
  | some d =>
    simp only [hd] at h
    simp only [part, Sem.run_bind, r_isAgg w hd, Result.andThen_ok]
    split at h
    · rename_i ha
      cases hi : P.info? t with
      | none => simp [hi] at h
      | some i => simp only [hi] at h; cases h; simp [ha, r_size w hi]
    · rename_i ha
      simp [ha, h]

theorem aPart_VR {P : Program} {ρ : Ren} {t : TypeId} {cs cs' : Array Value} {off : Nat} {v : Value} (hl : LR ρ cs.toList cs'.toList) (h : aPart P t cs off = some v) :
    ∃ v', aPart P t cs' off = some v' ∧ VR ρ v v' := by
  unfold aPart at h ⊢
  cases hd : P.underlying t with
  | none => simp [hd] at h
  | some d =>
    simp only [hd] at h ⊢
    split at h
    · rename_i ha
      rw [if_pos ha]
      cases hi : P.info? t with
      | none => simp [hi] at h
      | some i =>
        simp only [hi] at h ⊢; cases h
        refine ⟨_, rfl, ?_⟩
        have := ((hl.drop off).take i.size).toAgg
        have e : ∀ x : Array Value, ((x.toList.drop off).take i.size).toArray = x.extract off (off + i.size) := by
          intro x; apply Array.ext'; simp [Array.toList_extract, List.extract]
        rw [e, e] at this; exact this
    · rename_i ha
      rw [if_neg ha]
      obtain ⟨v', a, b⟩ := hl.get (i := off) (v := v) (by simpa using h)
      exact ⟨v', by simpa using a, b⟩

def eqAll (f : Field → Option Bool) : List Field → Option Bool
  | [] => some true
  | x :: xs => if x.name ≠ "_" then (match f x with | some true => eqAll f xs | some false => some false | none => none) else eqAll f xs

/-- '==' on values without addresses. -/
def aEq (P : Program) : Nat → TypeId → Value → Value → Option Bool
  | 0, _, _, _ => none
  | d + 1, t, x, y =>
    match P.underlying t, x, y with
    | some .bool, .bool a, .bool b => some (a == b)
    | some (.int _), .int k a, .int k' b => if k = k' then some (a == b) else none
    | some .string, .string a, .string b => some (a.toList == b.toList)
    | some (.struct fs), .agg xs, .agg ys =>
      if P.stoodInHeld t then none else
      eqAll (fun f => match aPart P f.type xs f.offset, aPart P f.type ys f.offset with
        | some a, some b => aEq P d f.type a b
        | _, _ => none) fs.toList
    | some (.pointer _), .pointer none, .pointer b => some b.isNone
    | some (.pointer _), .pointer (some _), .pointer none => some false
    | some (.slice _), .slice none _ _, .slice b _ _ => some b.isNone
    | some (.slice _), .slice (some _) _ _, .slice none _ _ => some false
    | some (.map _ _), .map none, .map b => some b.isNone
    | some (.map _ _), .map (some _), .map none => some false
    | some (.func _ _ _), .nilFunc, .nilFunc => some true
    | some (.func _ _ _), .nilFunc, .func _ _ _ => some false
    | some (.func _ _ _), .func _ _ _, .nilFunc => some false
    | _, _, _ => none

theorem eqAll_run {P : Program} {d : Nat} {xs ys : Array Value} {f : Field → Option Bool} (w : World)
    (hf : ∀ x b, f x = some b → ∃ u v, (part x.type xs x.offset).run P w = .ok u w ∧ (part x.type ys x.offset).run P w = .ok v w ∧ (Op.equalIn d x.type u v).run P w = .ok b w) :
    ∀ (l : List Field) (b : Bool), eqAll f l = some b → (Op.eqFields d xs ys l).run P w = .ok b w := by
  intro l
  induction l with
  | nil => intro b h; simp [eqAll] at h; subst h; simp [Op.eqFields]
  | cons x l ih =>
    intro b h
    unfold eqAll at h
    unfold Op.eqFields
    split at h
    · rename_i hn
      rw [if_pos hn]
      cases hx : f x with
      | none => simp [hx] at h
      | some c =>
        obtain ⟨u, v, h1, h2, h3⟩ := hf x c hx
        simp only [Sem.run_bind, h1, h2, h3, Result.andThen_ok]
        cases c with
        | true => simp only [hx] at h; simpa using ih b h
        | false => simp only [hx] at h; cases h; simp
    · rename_i hn
      rw [if_neg hn]; exact ih b h

set_option maxHeartbeats 2000000 in
theorem aEq_run {P : Program} {ρ : Ren} : ∀ (n : Nat) (t : TypeId) (x y x' y' : Value) (b : Bool) (w : World) (m : Nat), aEq P n t x y = some b → n ≤ m → VR ρ x x' → VR ρ y y' →
    (Op.equalIn m t x' y').run P w = .ok b w := by
  intro n
  induction n with
  | zero => intro t x y x' y' b w m h; simp [aEq] at h
  | succ n ih =>
    intro t x y x' y' b w m h hm hx hy
    obtain ⟨m, rfl⟩ : ∃ k, m = k + 1 := ⟨m - 1, by omega⟩
    unfold aEq at h
    split at h
    · rename_i hd; cases hx; cases hy; cases h; exact run_equalIn_bool w m t _ _ hd
    · rename_i hd
      cases hx; cases hy
      split at h
      · rename_i e; subst e; cases h; exact run_equalIn_int w m t _ _ _ _ hd
      · cases h
    · rename_i hd; cases hx; cases hy; cases h; exact run_equalIn_string w m t _ _ hd
    · rename_i fs xs ys hd
      split at h
      · cases h
      · rename_i hp
        obtain ⟨xs', rfl, hlx⟩ := hx.ofAgg
        obtain ⟨ys', rfl, hly⟩ := hy.ofAgg
        have hfs : P.fieldsOf t = fs := by simp [Program.fieldsOf, hd]
        rw [run_equalIn_struct w m t xs' ys' (by rw [hfs]; exact hd) (by simpa using hp), hfs]
        refine eqAll_run w (fun f c hc => ?_) fs.toList b h
        cases ha : aPart P f.type xs f.offset with
        | none => simp [ha] at hc
        | some u =>
          cases hb : aPart P f.type ys f.offset with
          | none => simp [ha, hb] at hc
          | some v =>
            simp only [ha, hb] at hc
            obtain ⟨u', hu, hru⟩ := aPart_VR hlx ha
            obtain ⟨v', hv, hrv⟩ := aPart_VR hly hb
            exact ⟨u', v', aPart_run hu w, aPart_run hv w, ih f.type u v u' v' c w m hc (by omega) hru hrv⟩
    all_goals (rename_i hd; cases hx <;> cases hy <;> cases h <;> simp [Op.equalIn, r_under w hd] <;> done)
    all_goals cases h

def intBin (op : BinOp) (k : IntKind) (a b : Int) : Option Value :=
  match op with
  | .add => some (.int k (k.wrap (a + b)))
  | .sub => some (.int k (k.wrap (a - b)))
  | .mul => some (.int k (k.wrap (a * b)))
  | .quo => if b = 0 then none else some (.int k (k.wrap (a.tdiv b)))
  | .rem => if b = 0 then none else some (.int k (a.tmod b))
  | .and => some (.int k (k.wrap (BitVec.ofInt k.bits a &&& BitVec.ofInt k.bits b).toNat))
  | .or => some (.int k (k.wrap (BitVec.ofInt k.bits a ||| BitVec.ofInt k.bits b).toNat))
  | .xor => some (.int k (k.wrap (BitVec.ofInt k.bits a ^^^ BitVec.ofInt k.bits b).toNat))
  | .andNot => some (.int k (k.wrap (BitVec.ofInt k.bits a &&& ~~~BitVec.ofInt k.bits b).toNat))
  | .eql => some (.bool (a == b))
  | .neq => some (.bool (a != b))
  | .lss => some (.bool (decide (a < b)))
  | .leq => some (.bool (decide (a ≤ b)))
  | .gtr => some (.bool (decide (a > b)))
  | .geq => some (.bool (decide (a ≥ b)))
  | _ => none

def shBin (op : BinOp) (k : IntKind) (a b : Int) : Option Value :=
  if b < 0 then none else
  match op with
  | .shl => some (.int k (k.wrap (a * 2 ^ min b.toNat k.bits)))
  | .shr => some (.int k (a.fdiv (2 ^ min b.toNat k.bits)))
  | _ => none

def strBin (op : BinOp) (a b : ByteArray) : Option Value :=
  match op with
  | .add => if a.size + b.size ≤ 9223372036854775807 then some (.string (a ++ b)) else none
  | .eql => some (.bool (a.toList == b.toList))
  | .neq => some (.bool (!(a.toList == b.toList)))
  | .lss => some (.bool (Op.bytesLess a.toList b.toList))
  | .leq => some (.bool (Op.bytesLess a.toList b.toList || a.toList == b.toList))
  | .gtr => some (.bool (!(Op.bytesLess a.toList b.toList || a.toList == b.toList)))
  | .geq => some (.bool (!(Op.bytesLess a.toList b.toList)))
  | _ => none

def guardOn (P : Program) (t : TypeId) : Value → Value → Bool
  | .agg _, .agg _ => P.eqGuardType P.depth t
  | .nilIface, .nilIface => true
  | _, _ => false

def eqBin (P : Program) (op : BinOp) (t : TypeId) (a b : Value) : Option Value :=
  if guardOn P t a b = true then none else
  match op with
  | .eql => (aEq P 6 t a b).map .bool
  | .neq => (aEq P 6 t a b).map fun c => .bool (!c)
  | _ => none

def aBin (P : Program) (op : BinOp) (t : TypeId) (a b : Value) : Option Value :=
  match a, b with
  | .int k x, .int k' y =>
    match op with
    | .shl => shBin .shl k x y
    | .shr => shBin .shr k x y
    | op => if k = k' then intBin op k x y else none
  | .string x, .string y => strBin op x y
  | a, b => eqBin P op t a b

theorem eqGuard_skip {P : Program} {ρ : Ren} {op : BinOp} {t : TypeId} {x y : Operand} {a b a' b' : Value} (ha : VR ρ a a') (hb : VR ρ b b')
    (h : guardOn P t a b = false) (w : World) : (eqGuard op t x y a' b').run P w = .ok () w := by
  unfold eqGuard
  cases ha <;> cases hb <;> simp_all [guardOn]

theorem aBin_run {P : Program} {ρ : Ren} {op : BinOp} {t : TypeId} {x y : Operand} {a b a' b' v : Value} (ha : VR ρ a a') (hb : VR ρ b b') (h : aBin P op t a b = some v) (w : World) :
    ∃ v', (do eqGuard op t x y a' b'; binOp op t a' b').run P w = .ok v' w ∧ VR ρ v v' := by
  unfold aBin at h
  split at h
  · rename_i k n k' m
    have hg : ∀ w, (eqGuard op t x y a' b').run P w = .ok () w := fun w => eqGuard_skip ha hb rfl w
    simp only [Sem.run_bind, hg, Result.andThen_ok]
    cases ha; cases hb
    split at h
    · unfold shBin at h
      split at h
      · cases h
      · rename_i hb0
        cases h
        exact ⟨_, by simp [binOp, Op.shift, hb0], .int _ _⟩
    · unfold shBin at h
      split at h
      · cases h
      · rename_i hb0
        cases h
        exact ⟨_, by simp [binOp, Op.shift, hb0], .int _ _⟩
    · split at h
      · rename_i hk; subst hk
        unfold intBin at h
        cases op <;> simp only [Option.some.injEq, reduceCtorEq] at h
        case quo =>
          split at h
          · cases h
          · rename_i hb0; cases h; exact ⟨_, by simp [binOp, Op.intDiv, hb0], .int _ _⟩
        case rem =>
          split at h
          · cases h
          · rename_i hb0; cases h; exact ⟨_, by simp [binOp, Op.intDiv, hb0], .int _ _⟩
        all_goals (subst h; exact ⟨_, by simp only [binOp, ne_eq, not_true_eq_false, if_false, Op.intArith, Op.intBits, Op.intCmp]; rfl, by first | exact .int _ _ | exact .bool _⟩)
      · cases h
  · rename_i n m
    have hg : ∀ w, (eqGuard op t x y a' b').run P w = .ok () w := fun w => eqGuard_skip ha hb rfl w
    simp only [Sem.run_bind, hg, Result.andThen_ok]
    cases ha; cases hb
    unfold strBin at h
    cases op <;> simp only [Option.some.injEq, reduceCtorEq] at h
    case add =>
      split at h
      · rename_i hle; cases h
        refine ⟨_, ?_, .string _⟩
        have : ¬ ((n.size + m.size : Nat) : Int) > IntKind.i64.max := by
          have : IntKind.i64.max = 9223372036854775807 := by decide
          omega
        simp only [binOp, Op.stringOp]; rw [if_neg this]; rfl
      · cases h
    all_goals (subst h; exact ⟨_, by simp [binOp, Op.stringOp], .bool _⟩)
  · rename_i hni hns
    unfold eqBin at h
    split at h
    · cases h
    · rename_i hgu
      have hg : ∀ w, (eqGuard op t x y a' b').run P w = .ok () w := fun w => eqGuard_skip ha hb (by simpa using hgu) w
      simp only [Sem.run_bind, hg, Result.andThen_ok]
      have key : ∀ c, aEq P 6 t a b = some c → (Op.equal t a' b').run P w = .ok c w := fun c hc => aEq_run 6 t a b a' b' c w 10000 hc (by omega) ha hb
      have hb1 : binOp .eql t a' b' = (do pure (.bool (← Op.equal t a' b'))) := by
        cases ha <;> cases hb <;> first | rfl | exact (hni _ _ _ _ rfl rfl).elim | exact (hns _ _ rfl rfl).elim
      have hb2 : binOp .neq t a' b' = (do pure (.bool (!(← Op.equal t a' b')))) := by
        cases ha <;> cases hb <;> first | rfl | exact (hni _ _ _ _ rfl rfl).elim | exact (hns _ _ rfl rfl).elim
      split at h
      · simp only [Option.map_eq_some_iff] at h
        obtain ⟨c, hc, rfl⟩ := h
        exact ⟨.bool c, by rw [hb1]; simp [key c hc], .bool _⟩
      · simp only [Option.map_eq_some_iff] at h
        obtain ⟨c, hc, rfl⟩ := h
        exact ⟨.bool (!c), by rw [hb2]; simp [key c hc], .bool _⟩
      · cases h

end Go.Ab

namespace Go.Ab

/-- 's.run' comes to a related value and leaves the world. -/
def Rd (P : Program) (ρ : Ren) (w : World) (s : Sem Value) (v : Value) : Prop := ∃ v', s.run P w = .ok v' w ∧ VR ρ v v'

theorem Rd.snd {P : Program} {ρ : Ren} {h : AH} {w : World} {s : Sem Value} {v : Value} (hr : HR ρ h w) (a : Rd P ρ w s v) : Snd P ρ h w s v h :=
  let ⟨_, x, y⟩ := a; Snd.pure hr x y

def aNil (x : Value) : Option Value :=
  match x with
  | .pointer none | .nilIface | .nilFunc => none
  | .func (.func f) a b => some (.func (.func f) a b)
  | .func (.yield l) a b => some (.func (.yield l) a b)
  | .func _ _ _ => none
  | x => some x

def aUn (op : UnOp) (x : Value) : Option Value :=
  match op, x with
  | .not, .bool b => some (.bool (!b))
  | .neg, .int k n => some (.int k (k.wrap (0 - n)))
  | .xor, .int k n => some (.int k (k.wrap (BitVec.ofInt k.bits (if k.signed then -1 else k.max) ^^^ BitVec.ofInt k.bits n).toNat))
  | _, _ => none

theorem aUn_run {P : Program} {ρ : Ren} {op : UnOp} {x x' v : Value} (hx : VR ρ x x') (h : aUn op x = some v) (w : World) : Rd P ρ w (Op.unary op x') v := by
  unfold aUn at h
  split at h <;> (try cases h) <;> cases hx
  · exact ⟨_, rfl, .bool _⟩
  · exact ⟨_, rfl, .int _ _⟩
  · exact ⟨_, rfl, .int _ _⟩

def aConv (P : Program) (s d : TypeId) (x : Value) : Option Value :=
  match P.underlying s, P.underlying d, x with
  | some _, some (.int k), .int _ n => some (.int k (k.wrap n))
  | some .string, some .string, .string b => some (.string b)
  | _, _, _ => none

theorem aConv_run {P : Program} {ρ : Ren} {s d : TypeId} {x x' v : Value} (hx : VR ρ x x') (h : aConv P s d x = some v) (w : World) : Rd P ρ w (convert s d x') v := by
  unfold aConv at h
  split at h
  · rename_i ds k k' n hs hd
    cases hx; cases h
    refine ⟨.int k (k.wrap n), ?_, .int _ _⟩
    simp only [convert, Sem.run_bind, r_under w hs, r_under w hd, Result.andThen_ok, Conv.intToInt, Sem.run_pure]
  · rename_i b hs hd
    cases hx; cases h
    refine ⟨.string b, ?_, .string _⟩
    simp only [convert, Sem.run_bind, r_under w hs, r_under w hd, Result.andThen_ok, Sem.run_pure]
  · cases h

/-- The offset of a field, where the field has a cell. -/
def fOff (P : Program) (s : TypeId) (f : Nat) : Option Nat :=
  match P.underlying s with
  | some (.struct fs) =>
    match fs[f]? with
    | some fd => match P.info? fd.type with
      | some i => if i.size = 0 then none else some fd.offset
      | none => none
    | none => none
  | _ => none

def aFieldAddr (P : Program) (s : TypeId) (f : Nat) (p : Value) : Option Value :=
  match p with
  | .pointer (some ⟨A, off, none⟩) =>
    match fOff P s f with
    | some k => some (.pointer (some ⟨A, off + k, none⟩))
    | none => none
  | _ => none

theorem aFieldAddr_run {P : Program} {ρ : Ren} {s : TypeId} {f : Nat} {p p' v : Value} (hp : VR ρ p p') (h : aFieldAddr P s f p = some v) (w : World) : Rd P ρ w (Instr.fieldAt s p' f) v := by
  unfold aFieldAddr at h
  split at h
  case h_2 => cases h
  case h_1 A off =>
    cases hp with
    | ptr hq =>
      rename_i r
      cases hk : fOff P s f with
      | none => simp [hk] at h
      | some k =>
        simp only [hk] at h; cases h
        unfold fOff at hk
        split at hk
        case h_2 => cases hk
        case h_1 fs hs =>
          split at hk
          case h_2 => cases hk
          case h_1 fd hfd =>
            split at hk
            case h_2 => cases hk
            case h_1 i hi =>
              split at hk
              · cases hk
              · rename_i hz
                cases hk
                refine ⟨.pointer (some ⟨r.blk, r.base + (off + fd.offset), none⟩), ?_, .ptr hq⟩
                simp only [Instr.fieldAt, Sem.run_bind, r_under w hs, Result.andThen_ok, hfd, Instr.sureAddr, Sem.run_pure, fieldPlace, r_size w hi, hz, if_false, add_add, Nat.add_assoc]

def aField (P : Program) (s : TypeId) (x : Value) (f : Nat) : Option Value :=
  match P.underlying s with
  | some (.struct fs) =>
    match fs[f]?, x with
    | some fd, .agg cs => aPart P fd.type cs fd.offset
    | _, _ => none
  | _ => none

theorem aField_run {P : Program} {ρ : Ren} {s : TypeId} {f : Nat} {x x' v : Value} (hx : VR ρ x x') (h : aField P s x f = some v) (w : World) : Rd P ρ w (Instr.field s x' f) v := by
  unfold aField at h
  split at h
  case h_2 => cases h
  case h_1 fs hs =>
    split at h
    · rename_i fd cs hfd
      obtain ⟨cs', rfl, hl⟩ := hx.ofAgg
      obtain ⟨v', hv, hvr⟩ := aPart_VR hl h
      refine ⟨v', ?_, hvr⟩
      simp only [Instr.field, Sem.run_bind, r_under w hs, Result.andThen_ok, hfd, asAgg, Sem.run_pure, aPart_run hv w]
    · cases h

def aIndexAddr (P : Program) (t : TypeId) (x i : Value) : Option Value :=
  match i with
  | .int _ n =>
    match P.underlying t, x with
    | some (.array len e), .pointer (some ⟨A, off, none⟩) =>
      match P.info? e with
      | some ie => if 0 ≤ n ∧ n < (len : Int) then some (.pointer (some ⟨A, off + n.toNat * ie.size, none⟩)) else none
      | none => none
    | some (.slice e), .slice (some ⟨A, off, none⟩) len _ =>
      match P.info? e with
      | some ie => if 0 ≤ n ∧ n < (len : Int) then some (.pointer (some ⟨A, off + n.toNat * ie.size, none⟩)) else none
      | none => none
    | _, _ => none
  | _ => none

theorem aIndexAddr_run {P : Program} {ρ : Ren} {t : TypeId} {x i x' i' v : Value} (hx : VR ρ x x') (hi : VR ρ i i') (h : aIndexAddr P t x i = some v) (w : World) : Rd P ρ w (Instr.indexAt t x' i') v := by
  unfold aIndexAddr at h
  split at h
  case h_2 => cases h
  case h_1 k n =>
    cases hi
    split at h
    · rename_i len e A off ht
      cases hx with
      | ptr hq =>
        rename_i r
        cases he : P.info? e with
        | none => simp [he] at h
        | some ie =>
          simp only [he] at h
          split at h
          · rename_i hb; cases h
            refine ⟨.pointer (some ⟨r.blk, r.base + (off + n.toNat * ie.size), none⟩), ?_, .ptr hq⟩
            simp only [Instr.indexAt, asIntOf, Sem.run_bind, Sem.run_pure, Result.andThen_ok, r_under w ht, Instr.sureAddr, hb, and_self, if_true, r_size w he, add_add, Nat.add_assoc]
          · cases h
    · rename_i e A off len c ht
      cases he : P.info? e with
      | none => simp [he] at h
      | some ie =>
        simp only [he] at h
        split at h
        · rename_i hb; cases h
          cases hx with
          | slice hq hc =>
            rename_i r
            refine ⟨.pointer (some ⟨r.blk, r.base + (off + n.toNat * ie.size), none⟩), ?_, .ptr hq⟩
            simp only [Instr.indexAt, asIntOf, Sem.run_bind, Sem.run_pure, Result.andThen_ok, r_under w ht, hb, and_self, if_true, r_size w he, add_add, Nat.add_assoc]
          | slack hq hl hlim hc =>
            rename_i c' s r
            refine ⟨.pointer (some ⟨r.blk, r.base + (off + n.toNat * ie.size), none⟩), ?_, .ptr hq⟩
            simp only [Instr.indexAt, asIntOf, Sem.run_bind, Sem.run_pure, Result.andThen_ok, r_under w ht, hb, and_self, if_true, r_size w he, add_add, Nat.add_assoc]
          | slack0 hq => omega
          | slip => omega
        · cases h
    · cases h

def aIndex (P : Program) (t : TypeId) (x i : Value) : Option Value :=
  match i with
  | .int _ n =>
    match P.underlying t, x with
    | some (.array len e), .agg cs =>
      match P.info? e with
      | some ie => if 0 ≤ n ∧ n < (len : Int) then aPart P e cs (n.toNat * ie.size) else none
      | none => none
    | some .string, .string s => if 0 ≤ n then (match s[n.toNat]? with | some b => some (.int .u8 b.toNat) | none => none) else none
    | _, _ => none
  | _ => none

theorem aIndex_run {P : Program} {ρ : Ren} {t : TypeId} {x i x' i' v : Value} (hx : VR ρ x x') (hi : VR ρ i i') (h : aIndex P t x i = some v) (w : World) : Rd P ρ w (Instr.index t x' i') v := by
  unfold aIndex at h
  split at h
  case h_2 => cases h
  case h_1 k n =>
    cases hi
    split at h
    · rename_i len e cs ht
      obtain ⟨cs', rfl, hl⟩ := hx.ofAgg
      cases he : P.info? e with
      | none => simp [he] at h
      | some ie =>
        simp only [he] at h
        split at h
        · rename_i hb
          obtain ⟨v', hv, hvr⟩ := aPart_VR hl h
          refine ⟨v', ?_, hvr⟩
          simp only [Instr.index, asIntOf, Sem.run_bind, Sem.run_pure, Result.andThen_ok, r_under w ht, hb, and_self, if_true, r_size w he, aPart_run hv w]
        · cases h
    · rename_i s ht
      cases hx
      split at h
      · rename_i hn
        cases hs : s[n.toNat]? with
        | none => simp [hs] at h
        | some b =>
          simp only [hs] at h; cases h
          refine ⟨.int .u8 b.toNat, ?_, .int _ _⟩
          simp only [Instr.index, asIntOf, Sem.run_bind, Sem.run_pure, Result.andThen_ok, r_under w ht, hn, if_true, hs]
      · cases h
    · cases h

/-- The value of a bound. -/
def bnd (v : Option Value) (d : Nat) : Option Nat :=
  match v with
  | none => some d
  | some (.int _ n) => if 0 ≤ n then some n.toNat else none
  | _ => none

theorem bnd_run {P : Program} {ρ : Ren} {v : Value} {v' : Value} {d k y : Nat} {code : BoundsCode} (hv : VR ρ v v') (h : bnd (some v) d = some k) (hk : k ≤ y) (w : World) :
    (Instr.sliceBound v' y code).run P w = .ok k w := by
  unfold bnd at h
  split at h
  · rename_i e; cases e
  · rename_i q n e
    cases e
    cases hv
    split at h
    · cases h
      simp only [Instr.sliceBound, asIntOf, Sem.run_bind, Sem.run_pure, Result.andThen_ok]
      rw [if_pos ⟨by assumption, by omega⟩]; rfl
    · cases h
  · cases h

/-- Optional operands, one by one. -/
def OV (ρ : Ren) : Option Value → Option Value → Prop
  | none, none => True
  | some a, some b => VR ρ a b
  | _, _ => False

theorem bounds_run {P : Program} {ρ : Ren} {b : Bool} {len cap l h : Nat} {lo hi lo' hi' : Option Value} (hlo : OV ρ lo lo') (hhi : OV ρ hi hi') (hl : bnd lo 0 = some l) (hh : bnd hi len = some h)
    (h1 : l ≤ h) (h2 : h ≤ cap) (w : World) : (Instr.sliceBounds b len cap lo' hi' none).run P w = .ok (l, h, cap) w := by
  unfold Instr.sliceBounds
  cases hi with
  | none =>
    cases hi' with
    | some _ => exact hhi.elim
    | none =>
      simp only [bnd, Option.some.injEq] at hh; subst hh
      cases lo with
      | none =>
        cases lo' with
        | some _ => exact hlo.elim
        | none => simp only [bnd, Option.some.injEq] at hl; subst hl; simp
      | some x =>
        cases lo' with
        | none => exact hlo.elim
        | some x' => simp [bnd_run (P := P) hlo hl h1 w]
  | some y =>
    cases hi' with
    | none => exact hhi.elim
    | some y' =>
      have hy := fun code => bnd_run (P := P) (code := code) hhi hh h2 w
      cases lo with
      | none =>
        cases lo' with
        | some _ => exact hlo.elim
        | none => simp only [bnd, Option.some.injEq] at hl; subst hl; simp [hy]
      | some x =>
        cases lo' with
        | none => exact hlo.elim
        | some x' => simp [hy, bnd_run (P := P) hlo hl h1 w]

def aSlice (P : Program) (t : TypeId) (x : Value) (lo hi : Option Value) : Option Value :=
  match P.underlying t, x with
  | some .string, .string s =>
    match bnd lo 0, bnd hi s.size with
    | some l, some h => if l ≤ h ∧ h ≤ s.size then some (.string (s.extract l h)) else none
    | _, _ => none
  | some (.slice e), .slice none len cap =>
    match bnd lo 0, bnd hi len, P.info? e with
    | some l, some h, some _ => if l ≤ h ∧ h ≤ cap then some (.slice none (h - l) (cap - l)) else none
    | _, _, _ => none
  | some (.slice e), .slice (some ⟨A, off, none⟩) len cap =>
    match bnd lo 0, bnd hi len, P.info? e with
    | some l, some h, some ie =>
      if cap < SL then
        if l ≤ h ∧ h ≤ cap then some (.slice (some ⟨A, if cap = l then off else off + l * ie.size, none⟩) (h - l) (cap - l)) else none
      else if cap = SL + ie.size ∧ l ≤ h ∧ h ≤ len then some (.slice (some ⟨A, off + l * ie.size, none⟩) (h - l) cap) else none
    | _, _, _ => none
  | some (.array n e), .pointer (some ⟨A, off, none⟩) =>
    match bnd lo 0, bnd hi n, P.info? e with
    | some l, some h, some ie =>
      if l ≤ h ∧ h ≤ n ∧ n < SL then some (.slice (some ⟨A, if n = l then off else off + l * ie.size, none⟩) (h - l) (n - l)) else none
    | _, _, _ => none
  | _, _ => none

theorem aSlice_run {P : Program} {ρ : Ren} {t : TypeId} {x x' v : Value} {lo hi lo' hi' : Option Value} (hx : VR ρ x x') (hlo : OV ρ lo lo') (hhi : OV ρ hi hi')
    (h : aSlice P t x lo hi = some v) (w : World) : Rd P ρ w (Instr.sliceAt t x' lo' hi' none) v := by
  unfold aSlice at h
  split at h
  · rename_i s ht
    cases hx
    split at h
    · rename_i l u hl hu
      split at h
      · rename_i hb; cases h
        refine ⟨_, ?_, .string _⟩
        simp only [Instr.sliceAt, Instr.slice, Sem.run_bind, r_under w ht, Result.andThen_ok, Option.isSome_none, Bool.false_eq_true, if_false, bounds_run hlo hhi hl hu hb.1 hb.2 w, Sem.run_pure]
      · cases h
    · cases h
  · rename_i e len cap ht
    cases hx
    split at h
    · rename_i l u ie hl hu he
      split at h
      · rename_i hb; cases h
        refine ⟨_, ?_, .nilSlice _ _⟩
        simp only [Instr.sliceAt, Instr.slice, Sem.run_bind, r_under w ht, Result.andThen_ok, bounds_run hlo hhi hl hu hb.1 hb.2 w, Sem.run_pure, r_size w he, Option.map_none, ite_self]
      · cases h
    · cases h
  · rename_i e A off len cap ht
    split at h
    · rename_i l u ie hl hu he
      split at h
      · rename_i hcap
        split at h
        · rename_i hb; cases h
          cases hx with
          | slice hq hc =>
            rename_i r
            refine ⟨.slice (some ⟨r.blk, r.base + (if cap = l then off else off + l * ie.size), none⟩) (u - l) (cap - l), ?_, .slice hq (by omega)⟩
            simp only [Instr.sliceAt, Instr.slice, Sem.run_bind, r_under w ht, Result.andThen_ok, bounds_run hlo hhi hl hu hb.1 hb.2 w, Sem.run_pure, r_size w he, Option.map_some, add_add]
            congr 2
            split <;> simp [Nat.add_assoc]
          | slack hq hl hlim hc => omega
          | slack0 hq => omega
          | slip =>
            rename_i p
            have hl0 : l = 0 := by omega
            have hu0 : u = 0 := by omega
            subst hl0; subst hu0
            refine ⟨.slice (some p) 0 0, ?_, by simpa using VR.slip⟩
            simp only [Instr.sliceAt, Instr.slice, Sem.run_bind, r_under w ht, Result.andThen_ok, bounds_run (len := 0) (cap := 0) hlo hhi hl hu (Nat.le_refl _) (Nat.le_refl _) w, Sem.run_pure, r_size w he, if_true, Nat.sub_self]
        · cases h
      · rename_i hcap
        split at h
        · rename_i hb; cases h
          obtain ⟨hce, hb⟩ := hb
          cases hx with
          | slice hq hc => exact absurd hc hcap
          | slack hq hle hlim hc =>
            rename_i c s r
            have hs : s = ie.size := by omega
            subst hs
            have hrun : (Instr.sliceAt t (.slice (some ⟨r.blk, r.base + off, none⟩) len c) lo' hi' none).run P w =
                .ok (.slice (if c = l then some ⟨r.blk, r.base + off, none⟩ else some ⟨r.blk, r.base + (off + l * ie.size), none⟩) (u - l) (c - l)) w := by
              simp only [Instr.sliceAt, Instr.slice, Sem.run_bind, r_under w ht, Result.andThen_ok, bounds_run hlo hhi hl hu hb.1 (Nat.le_trans hb.2 hle) w, Sem.run_pure, r_size w he, Option.map_some, add_add, Nat.add_assoc]
            by_cases hcl : c = l
            · refine ⟨_, hrun, ?_⟩
              rw [if_pos hcl, show u - l = 0 by omega, show c - l = 0 by omega]
              exact .slack0 hq
            · refine ⟨_, hrun, ?_⟩
              rw [if_neg hcl]
              refine .slack hq (by omega) ?_ (by omega)
              have : (c - l) * ie.size + l * ie.size = c * ie.size := by rw [← Nat.add_mul]; congr 1; omega
              omega
          | slack0 hq =>
            rename_i off' s r
            have hs : s = ie.size := by omega
            subst hs
            have hl0 : l = 0 := by omega
            have hu0 : u = 0 := by omega
            subst hl0; subst hu0
            refine ⟨.slice (some ⟨r.blk, off', none⟩) 0 0, ?_, by simpa using VR.slack0 hq⟩
            simp only [Instr.sliceAt, Instr.slice, Sem.run_bind, r_under w ht, Result.andThen_ok, bounds_run (len := 0) (cap := 0) hlo hhi hl hu (Nat.le_refl _) (Nat.le_refl _) w, Sem.run_pure, r_size w he, if_true, Nat.sub_self]
          | slip => exact absurd (by unfold SL; omega) hcap
        · cases h
    · cases h
  · rename_i n e A off ht
    split at h
    · rename_i l u ie hl hu he
      split at h
      · rename_i hb; cases h
        cases hx with
        | ptr hq =>
          rename_i r
          refine ⟨.slice (some ⟨r.blk, r.base + (if n = l then off else off + l * ie.size), none⟩) (u - l) (n - l), ?_, .slice hq (by omega)⟩
          simp only [Instr.sliceAt, Instr.sureAddr, Sem.run_bind, r_under w ht, Result.andThen_ok, bounds_run hlo hhi hl hu hb.1 hb.2.1 w, Sem.run_pure, r_size w he, add_add]
          congr 3
          split <;> simp
      · cases h
    · cases h
  · cases h

def aExtract (x : Value) (i : Nat) : Option Value :=
  match x with
  | .tuple vs => vs[i]?
  | _ => none

theorem aExtract_run {P : Program} {ρ : Ren} {x x' v : Value} {i : Nat} (hx : VR ρ x x') (h : aExtract x i = some v) (w : World) : Rd P ρ w (Instr.extract x' i) v := by
  unfold aExtract at h
  split at h
  · rename_i vs
    obtain ⟨vs', rfl, hl⟩ := hx.ofTuple
    obtain ⟨v', a, b⟩ := hl.get (i := i) (v := v) (by simpa using h)
    exact ⟨v', by simp only [Instr.extract]; rw [show vs'[i]? = some v' by simpa using a]; rfl, b⟩
  · cases h

end Go.Ab

namespace Go.Ab

/-- Stores into a block of cells, whatever is known of what they held. -/
theorem storesRaw (P : Program) (b : Nat) (e : TypeId) (fr : Nat × Nat) : ∀ (xs : List Value) (w : World) (cc : Array Value) (a i : Nat), w.heap[b]? = some (.cells cc e fr) → (∀ j, j < cc.size → ¬ (fr.1 ≤ j ∧ j < fr.2)) →
    (∀ x ∈ xs, oneC x = true) → a + i + xs.length ≤ cc.size →
    ∃ w' cc', (storeCells ⟨b, a, none⟩ xs i).run P w = .ok () w' ∧ w'.heap[b]? = some (.cells cc' e fr) ∧ cc'.size = cc.size ∧ w'.heap.size = w.heap.size ∧
      (∀ k, k ≠ b → w'.heap[k]? = w.heap[k]?) ∧ (∀ j v, xs[j]? = some v → cc'[a + i + j]? = some v) ∧ (∀ j, j < a + i → cc'[j]? = cc[j]?) ∧ Side w w' ∧ (∀ j, a + i + xs.length ≤ j → cc'[j]? = cc[j]?) := by
  intro xs
  induction xs with
  | nil => intro w cc a i h _ _ _; exact ⟨w, cc, by simp [storeCells], h, rfl, rfl, fun _ _ => rfl, (fun j v hj => by simp at hj), fun _ _ => rfl, Side.refl _, fun _ _ => rfl⟩
  | cons x xs ih =>
    intro w cc a i h hfr hone hle
    simp only [List.length_cons] at hle
    have hlt : a + i < cc.size := by omega
    have hcell : w.cell? ⟨b, a + i, none⟩ = some cc[a + i] := by simp [World.cell?, h, hlt]
    have hfro : w.frozen? ⟨b, a + i, none⟩ = false := by simp only [World.frozen?, h]; simpa using hfr (a + i) hlt
    have h1 : (Go.store ⟨b, a + i, none⟩ x).run P w = .ok () (w.setCell ⟨b, a + i, none⟩ x) := by
      rw [run_store P w _ x _ (by rw [oneC_oneCell']; exact hone x (by simp)), hcell]
      simp [hfro]
    have hb1 : (w.setCell ⟨b, a + i, none⟩ x).heap[b]? = some (.cells (cc.setIfInBounds (a + i) x) e fr) := by simp [World.setCell, Array.getElem?_modify, h]
    obtain ⟨w', cc', hrun, hb', hsz, hws, hoth, hin, hout, sd, hpast⟩ := ih (w.setCell ⟨b, a + i, none⟩ x) (cc.setIfInBounds (a + i) x) a (i + 1) hb1 (fun j hj => hfr j (by simpa using hj)) (fun y hy => hone y (by simp [hy])) (by simp; omega)
    refine ⟨w', cc', ?_, hb', by rw [hsz]; simp, by rw [hws]; simp, fun k hk => ?_, fun j v hj => ?_, fun j hj => ?_, Side.trans (⟨rfl, rfl, rfl⟩ : Side w (w.setCell ⟨b, a + i, none⟩ x)) sd, fun j hj => by
      simp only [List.length_cons] at hj
      rw [hpast j (by omega), Array.getElem?_setIfInBounds_ne (by omega)]⟩
    · simp only [storeCells, Sem.run_bind, add_add, h1, Result.andThen_ok]; exact hrun
    · rw [hoth k hk]; simp only [World.setCell, Array.getElem?_modify]; rw [if_neg (fun x => hk x.symm)]
    · cases j with
      | zero =>
        simp at hj; subst hj
        rw [Nat.add_zero, hout (a + i) (by omega), Array.getElem?_setIfInBounds_self_of_lt hlt]
      | succ j =>
        have := hin j v (by simpa using hj)
        rw [show a + i + (j + 1) = a + (i + 1) + j by omega]; exact this
    · rw [hout j (by omega), Array.getElem?_setIfInBounds_ne (by omega)]

theorem growBy_le (need : Nat) : ∀ (k c : Nat), c < need ∨ c ≤ 2 * need + 192 → Builtin.growBy need k c ≤ 2 * need + 192 := by
  intro k
  induction k with
  | zero => intro c h; simp only [Builtin.growBy]; omega
  | succ k ih =>
    intro c h
    simp only [Builtin.growBy]
    split
    · omega
    · exact ih _ (by omega)

theorem nextcap_le {need c : Nat} (h : c < need) : Builtin.nextslicecap need c ≤ 2 * need + 192 := by
  unfold Builtin.nextslicecap
  split
  · omega
  · split
    · omega
    · exact growBy_le need 4 c (.inl h)

/-- The elements that a source hands over. -/
def srcCells (sz : Nat) (x : Value) (h : AH) : Option (Nat × List Value) :=
  match x with
  | .slice none n _ => if n = 0 then some (0, []) else none
  | .slice (some ⟨B, o, none⟩) n _ =>
    if n = 0 then some (0, []) else
    match (h.get B).bind AObj.cells? with
    | some c => if o + n * sz ≤ c.length then some (n, (c.drop o).take (n * sz)) else none
    | none => none
  | _ => none

theorem srcCells_one {ρ : Ren} {h : AH} {w : World} {sz n : Nat} {x : Value} {ys : List Value} (hr : HR ρ h w) (hs : srcCells sz x h = some (n, ys)) : ∀ y ∈ ys, oneC y = true := by
  unfold srcCells at hs
  split at hs
  · split at hs
    · cases hs; simp
    · cases hs
  · split at hs
    · cases hs; simp
    · split at hs
      · rename_i c hc
        split at hs
        · cases hs
          obtain ⟨o, ho, hoc⟩ := Option.bind_eq_some_iff.1 hc
          obtain ⟨r, _, hor⟩ := hr.obj _ o ho
          obtain ⟨_, _, _, _, hrow⟩ := hor.rowAt hoc
          intro y hy
          exact hrow.one y (List.mem_of_mem_drop (List.mem_of_mem_take hy))
        · cases hs
      · cases hs
  · cases hs

theorem srcCells_run {P : Program} {ρ : Ren} {h : AH} {w : World} {sz n : Nat} {x x' : Value} {ys : List Value} (hr : HR ρ h w) (hx : VR ρ x x') (hs : srcCells sz x h = some (n, ys)) :
    ys.length = n * sz ∧ (∀ w, (Builtin.lenOf x').run P w = .ok n w) ∧ ∃ ys' : List Value, LR ρ ys ys' ∧ ∀ w', w'.heap = w.heap → (Builtin.firstCells sz n x').run P w' = .ok ys'.toArray w' := by
  unfold srcCells at hs
  split at hs
  · split at hs
    · rename_i e; cases hs; subst e; cases hx
      exact ⟨by simp, fun _ => rfl, [], LR.nil _, fun _ _ => rfl⟩
    · cases hs
  · rename_i B o n' cap
    have hlen : ∀ w, (Builtin.lenOf x').run P w = .ok n' w := by intro w; cases hx <;> rfl
    split at hs
    · rename_i e; cases hs; subst e
      refine ⟨by simp, hlen, [], LR.nil _, fun w' _ => ?_⟩
      cases hx <;> simp [Builtin.firstCells, loadCells, loadCellsFrom]
    · rename_i hn0
      split at hs
      · rename_i c hc
        split at hs
        · rename_i hle
          simp only [Option.some.injEq, Prod.mk.injEq] at hs
          obtain ⟨e1, e2⟩ := hs
          subst e2; subst e1
          obtain ⟨ob, hob, hoc⟩ := Option.bind_eq_some_iff.1 hc
          obtain ⟨r, hq, hor⟩ := hr.obj _ ob hob
          obtain ⟨_, _, cc, fr, hrow⟩ := hor.rowAt hoc
          obtain ⟨cs, hl, hlr, hload, _⟩ := hrow.many o (n' * sz) hle
          refine ⟨by simp; omega, hlen, cs, hlr, fun w' hw' => ?_⟩
          cases hx with
          | slice hq' hcap => rw [hq] at hq'; cases hq'; simpa [Builtin.firstCells] using hload P w' (by rw [hw'])
          | slack hq' hl' hlim hc' => rw [hq] at hq'; cases hq'; simpa [Builtin.firstCells] using hload P w' (by rw [hw'])
          | slack0 hq' => exact absurd rfl hn0
          | slip => exact absurd rfl hn0
        · cases hs
      · cases hs
  · cases hs

/-- A new row that may grow: known cells, and whatever room behind them. -/
theorem HR.newGrow {ρ : Ren} {h : AH} {w : World} (hr : HR ρ h w) (P : Program) {c c' rest : List Value} {e : TypeId} {need cap sz : Nat} (hl : LR ρ c c') (ho : ∀ v ∈ c, oneC v = true) (hc : c.length = need * sz)
    (hrest : rest.length = (cap - need) * sz) (hcap : need ≤ cap) (hcS : cap ≤ 9223372036854775807) (hra : ∀ v ∈ rest, plain 9 v = true ∧ oneC v = true) :
    ∃ ρ' w', (Go.newRow e (c' ++ rest).toArray).run P w = .ok ⟨w.heap.size, 0, none⟩ w' ∧ VR ρ' (.slice (some ⟨h.next, 0, none⟩) need (SL + sz)) (.slice (some ⟨w.heap.size, 0, none⟩) need cap) ∧
      HR ρ' (h.new (.grow c e)) w' ∧ Frm ρ h w ρ' (h.new (.grow c e)) w' := by
  have hlen : (c' ++ rest).length = cap * sz := by
    rw [List.length_append, ← hl.1, hc, hrest, ← Nat.add_mul]; congr 1; omega
  obtain ⟨a, b⟩ := hr.alloc (x := .cells (c' ++ rest).toArray e) (o := .grow c e) (w' := { w with heap := w.heap.push (.cells (c' ++ rest).toArray e) }) (base := 0) (lim := cap * sz) rfl
    (fun ρ' hle _ => ⟨(c' ++ rest).toArray, (0, 0), ⟨by simp, by simp [hl.1], fun i v hi => by
      obtain ⟨v', x, y⟩ := hl.get hi
      refine ⟨v', ?_, y.mono hle⟩
      have hlt : i < c'.length := by rw [← hl.1]; exact (List.getElem?_eq_some_iff.1 hi).1
      simp only [Nat.zero_add, List.getElem?_toArray]
      rw [List.getElem?_append_left hlt]; exact x, fun _ i _ hi => by omega, ho⟩, by simpa using hlen, fun i v' hi => by
      have hi' : (c' ++ rest)[i]? = some v' := by simpa using hi
      by_cases hlt : i < c'.length
      · rw [List.getElem?_append_left hlt] at hi'
        have hltc : i < c.length := by rw [hl.1]; exact hlt
        have hv := hl.2 i _ _ (List.getElem?_eq_getElem hltc) hi'
        exact ⟨by rw [hv.one]; exact ho _ (List.getElem_mem hltc), _, hv.mono hle⟩
      · rw [List.getElem?_append_right (by omega)] at hi'
        obtain ⟨a1, a2⟩ := hra v' (List.mem_of_getElem? hi')
        exact ⟨a2, v', plain_VR _ 9 v' a1⟩⟩)
  refine ⟨_, _, rfl, ?_, a, b⟩
  have := VR.slack (ρ := ρ.put h.next ⟨w.heap.size, 0, cap * sz⟩) (A := h.next) (off := 0) (l := need) (c := cap) (s := sz) (Ren.put_same _ _ _) hcap (by simp) hcS
  simpa using this

def isIntT : TypeDesc → Bool
  | .int _ => true
  | _ => false

/-- A zero whose cells bear no address. -/
def zOK (z : Value) : Bool := z.cells.toList.all fun v => plain 9 v && oneC v

/-- The greatest length that is followed. -/
def ML : Nat := 4611686018427387904

def aAppend (P : Program) (ts : Array TypeId) (s x : Value) (h : AH) : Option (Value × AH) :=
  match ts[0]?, ts[1]? with
  | some t0, some t1 =>
    match P.underlying t0, P.underlying t1 with
    | some (.slice e), some d1 =>
      match P.info? e with
      | some ie =>
        match ie.zero with
        | some z =>
          if isIntT d1 = true ∨ z.cells.size ≠ ie.size ∨ zOK z = false then none else
          match srcCells ie.size x h with
          | none => none
          | some (n, ys) =>
            match s with
            | .slice none len cap =>
              if len = 0 ∧ cap = 0 then
                if n = 0 then some (.slice none 0 0, h)
                else if (2 * n + 192) * ie.bytes ≤ 281474976710656 ∧ n < ML then some (.slice (some ⟨h.next, 0, none⟩) n (SL + ie.size), h.new (.grow ys e)) else none
              else none
            | .slice (some ⟨A, off, none⟩) len cap =>
              if n = 0 then (if len ≤ cap then some (s, h) else none)
              else if cap < SL then
                match h.get A with
                | none => none
                | some o =>
                  if len + n ≤ cap then (o.setCells (off + len * ie.size) ys).map fun o' => (.slice (some ⟨A, off, none⟩) (len + n) cap, h.set A o')
                  else
                    match o.cells? with
                    | none => none
                    | some c =>
                      if off + len * ie.size ≤ c.length ∧ (2 * (len + n) + 192) * ie.bytes ≤ 281474976710656 ∧ len + n < ML then
                        some (.slice (some ⟨h.next, 0, none⟩) (len + n) (SL + ie.size), h.new (.grow ((c.drop off).take (len * ie.size) ++ ys) e))
                      else none
              else
                match h.get A with
                | some (.grow c e') =>
                  if e' = e ∧ cap = SL + ie.size ∧ off + len * ie.size ≤ c.length ∧ (2 * (len + n) + 192) * ie.bytes ≤ 281474976710656 ∧ len + n < ML then
                    some (.slice (some ⟨h.next, 0, none⟩) (len + n) (SL + ie.size), (h.del A).new (.grow ((c.drop off).take (len * ie.size) ++ ys) e'))
                  else none
                | _ => none
            | _ => none
        | none => none
      | none => none
    | _, _ => none
  | _, _ => none

/-- What append does, by its two ways. -/
theorem append_run {P : Program} {w : World} {ts : Array TypeId} {ty t0 t1 e : TypeId} {d1 : TypeDesc} {ie : TypeInfo} {z : Value} {base : Option Addr} {len cap n : Nat} {x : Value} {ys : Array Value}
    (h0 : ts[0]? = some t0) (h1 : ts[1]? = some t1) (u0 : P.underlying t0 = some (.slice e)) (u1 : P.underlying t1 = some d1) (hd : isIntT d1 = false)
    (hi : P.info? e = some ie) (hz : ie.zero = some z) (hlen : ∀ w, (Builtin.lenOf x).run P w = .ok n w) (hys : (Builtin.firstCells ie.size n x).run P w = .ok ys w) :
    (len + n ≤ cap → (Builtin.append_ ts ty #[.slice base len cap, x]).run P w =
      ((match base with | some a => storeCells (a.add (len * ie.size)) ys.toList | none => Pure.pure ()).run P w).andThen fun _ w' => .ok (.slice base (len + n) cap) w') ∧
    (cap < len + n → len + n < ML → (2 * (len + n) + 192) * ie.bytes ≤ 281474976710656 → 0 < len + n → ∀ old : Array Value, (∀ w', w'.heap = w.heap → (Builtin.firstCells ie.size len (.slice base len cap)).run P w' = .ok old w') →
      (∀ w', w'.heap = w.heap → (Builtin.firstCells ie.size n x).run P w' = .ok ys w') →
      ∃ newCap w1, len + n ≤ newCap ∧ newCap ≤ 9223372036854775807 ∧ (w1.heap = w.heap ∧ Side w w1) ∧ (Builtin.append_ ts ty #[.slice base len cap, x]).run P w =
        ((Go.newRow e (old ++ ys ++ Builtin.zeroCells z.cells (newCap - (len + n)))).run P w1).andThen fun a w' => .ok (.slice (some a) (len + n) newCap) w') := by
  constructor
  · intro hle
    unfold Builtin.append_
    simp only [h0, h1, List.getElem?_toArray, List.getElem?_cons_zero, List.getElem?_cons_succ, Sem.run_bind, r_under w u0, r_under w u1, Result.andThen_ok, r_size w hi, Sem.run_pure]
    cases d1 <;> simp only [isIntT, Bool.true_eq_false] at hd <;>
      (simp only [Bool.false_eq_true, if_false, hlen, Result.andThen_ok, Bool.not_false, if_true, hle, Sem.run_bind, hys]
       cases base <;> simp)
  · intro hgt hsl hby hpos old hold hys'
    have hforced : (Question.appendCap (len + n) cap e).forced = false := rfl
    refine ⟨len + n + (w.tape w.drawn (.appendCap (len + n) cap e)) % (2 ^ 63 - (len + n)), { w with drawn := w.drawn + 1 }, by omega, ?_, ⟨rfl, ⟨rfl, rfl, rfl⟩⟩, ?_⟩
    · have hm : (w.tape w.drawn (.appendCap (len + n) cap e)) % (2 ^ 63 - (len + n)) < 2 ^ 63 - (len + n) := Nat.mod_lt _ (by unfold ML at hsl; omega)
      unfold ML at hsl; omega
    have hnc : ¬ Builtin.nextslicecap (len + n) cap * ie.bytes > 2 ^ 48 := by
      have h1 := nextcap_le hgt
      have h2 : Builtin.nextslicecap (len + n) cap * ie.bytes ≤ (2 * (len + n) + 192) * ie.bytes := Nat.mul_le_mul_right _ h1
      omega
    have hmax : ¬ (((len + n : Nat) : Int) > IntKind.i64.max ∧ ie.bytes = 0) := by
      have : IntKind.i64.max = 9223372036854775807 := by decide
      unfold ML at hsl
      omega
    unfold Builtin.append_
    simp only [h0, h1, List.getElem?_toArray, List.getElem?_cons_zero, List.getElem?_cons_succ, Sem.run_bind, r_under w u0, r_under w u1, Result.andThen_ok, r_size w hi, Sem.run_pure]
    have hnle : ¬ (len + n ≤ cap) := by omega
    cases d1 <;> simp only [isIntT, Bool.true_eq_false] at hd <;>
      (simp only [Bool.false_eq_true, if_false, hlen, Result.andThen_ok, Bool.not_false, if_true, hnle, Sem.run_bind, r_info w hi, false_or, hmax, hnc, run_choose, hforced, Question.cut, run_askRoom]
       rw [r_info _ hi, Result.andThen_ok, hold { w with drawn := w.drawn + 1 } rfl, Result.andThen_ok, hys' { w with drawn := w.drawn + 1 } rfl, Result.andThen_ok, r_zero _ hi hz, Result.andThen_ok]
       rfl)

theorem zeroCells_length (z : Array Value) (n : Nat) : (Builtin.zeroCells z n).toList.length = n * z.size := by simp [Builtin.zeroCells]

theorem zeroCells_ok {z : Value} (hz : zOK z = true) {n : Nat} : ∀ v ∈ (Builtin.zeroCells z.cells n).toList, plain 9 v = true ∧ oneC v = true := by
  intro v hv
  have hall : ∀ x ∈ z.cells.toList, plain 9 x = true ∧ oneC x = true := fun x hx => by
    have := List.all_eq_true.1 hz x hx
    simpa [Bool.and_eq_true] using this
  simp only [Builtin.zeroCells, Array.toList_map, List.mem_map] at hv
  obtain ⟨k, hk, rfl⟩ := hv
  have hk' : k < n * z.cells.size := by simpa using hk
  have hpos : 0 < z.cells.size := by
    rcases Nat.eq_zero_or_pos z.cells.size with e | e
    · rw [e, Nat.mul_zero] at hk'; omega
    · exact e
  have hlt := Nat.mod_lt k hpos
  have e : z.cells[k % z.cells.size]! = z.cells[k % z.cells.size] := getElem!_pos z.cells _ hlt
  rw [e]
  exact hall _ (by simp)

theorem aAppend_snd {P : Program} {ρ : Ren} {h h' : AH} {w : World} {ts : Array TypeId} {ty : TypeId} {s x s' x' v : Value} (hr : HR ρ h w) (hs : VR ρ s s') (hx : VR ρ x x')
    (hv : aAppend P ts s x h = some (v, h')) : Snd P ρ h w (Builtin.append_ ts ty #[s', x']) v h' := by
  unfold aAppend at hv
  split at hv
  case h_2 => cases hv
  rename_i t0 t1 h0 h1
  split at hv
  case h_2 => cases hv
  rename_i e d1 u0 u1
  split at hv
  case h_2 => cases hv
  rename_i ie hi
  split at hv
  case h_2 => cases hv
  rename_i z hz
  split at hv
  · cases hv
  rename_i hcond
  have hd : isIntT d1 = false := by cases hb : isIntT d1 <;> simp_all
  have hzs : z.cells.size = ie.size := by
    apply Classical.byContradiction; intro hn; exact hcond (.inr (.inl hn))
  have hzo : zOK z = true := by cases hb : zOK z <;> simp_all
  cases hsrc : srcCells ie.size x h with
  | none => simp [hsrc] at hv
  | some p =>
    obtain ⟨n, ys⟩ := p
    simp only [hsrc] at hv
    obtain ⟨hyl, hlen, ys', hlr, hfirst⟩ := srcCells_run (P := P) hr hx hsrc
    have hone := srcCells_one hr hsrc
    have ways := fun base len cap => append_run (P := P) (w := w) (ty := ty) (base := base) (len := len) (cap := cap) h0 h1 u0 u1 hd hi hz hlen (hfirst w rfl)
    have mk : ∀ (ρ₁ : Ren) (h₁ : AH) (base : Option Addr) (len cap : Nat) (old old' : List Value) (e₂ : TypeId), HR ρ₁ h₁ w → Frm ρ h w ρ₁ h₁ w → cap < len + n → len + n < ML → (2 * (len + n) + 192) * ie.bytes ≤ 281474976710656 → 0 < len + n →
        old.length = len * ie.size → LR ρ₁ old old' → (∀ v ∈ old, oneC v = true) → LR ρ₁ ys ys' →
        (∀ w', w'.heap = w.heap → (Builtin.firstCells ie.size len (.slice base len cap)).run P w' = .ok old'.toArray w') → e₂ = e →
        Snd P ρ h w (Builtin.append_ ts ty #[.slice base len cap, x']) (.slice (some ⟨h₁.next, 0, none⟩) (len + n) (SL + ie.size)) (h₁.new (.grow (old ++ ys) e₂)) := by
      intro ρ₁ h₁ base len cap old old' e₂ hr₁ hf₁ hgt hml hby hpos hol hlro hoo hlry hold he
      subst he
      obtain ⟨nc, w1, hnc, hncS, ⟨hw1, sd1⟩, hrun⟩ := (ways base len cap).2 hgt hml hby hpos old'.toArray hold hfirst
      have hrest : (Builtin.zeroCells z.cells (nc - (len + n))).toList.length = (nc - (len + n)) * ie.size := by rw [zeroCells_length, hzs]
      obtain ⟨ρ', w', hnew, hvr, hr', hf'⟩ := (hr₁.same hw1).newGrow P (e := e₂) (need := len + n) (cap := nc) (sz := ie.size) (hlro.append hlry) (fun v hv => by
        rcases List.mem_append.1 hv with hv | hv
        · exact hoo v hv
        · exact hone v hv) (by rw [List.length_append, hol, hyl, ← Nat.add_mul]) hrest hnc hncS (zeroCells_ok hzo)
      refine ⟨ρ', _, w', ?_, hvr, hr', (hf₁.trans (Frm.same hw1 sd1)).trans hf'⟩
      rw [hrun]
      have e1 : (old'.toArray ++ ys'.toArray ++ Builtin.zeroCells z.cells (nc - (len + n))) = ((old' ++ ys') ++ (Builtin.zeroCells z.cells (nc - (len + n))).toList).toArray := by
        apply Array.ext'; simp
      rw [e1, hnew]; rfl
    split at hv
    · -- a nil slice
      rename_i len cap
      split at hv
      case isFalse => cases hv
      rename_i hlc
      obtain ⟨rfl, rfl⟩ := hlc
      cases hs
      split at hv
      · rename_i hn
        cases hv; subst hn
        refine Snd.pure (v' := .slice none 0 0) hr ?_ (.nilSlice _ _)
        rw [(ways none 0 0).1 (by omega)]; rfl
      · rename_i hn
        split at hv
        · rename_i hb
          cases hv
          have := mk ρ h none 0 0 [] [] e hr (Frm.refl _ _ _) (by omega) (by omega) (by simpa using hb.1) (by omega) (by simp) (LR.nil _) (by simp) hlr (fun w' _ => rfl) rfl
          simpa using this
        · cases hv
    · rename_i A off len cap
      split at hv
      · -- nothing to append
        rename_i hn
        split at hv
        · rename_i hle
          cases hv; subst hn
          have hys0 : ys' = [] := List.eq_nil_of_length_eq_zero (by rw [← hlr.1, hyl]; simp)
          subst hys0
          have key : ∀ a c, len ≤ c → (Builtin.append_ ts ty #[.slice (some a) len c, x']).run P w = .ok (.slice (some a) len c) w := by
            intro a c hc
            rw [(ways (some a) len c).1 (by omega)]
            simp [storeCells]
          cases hs with
          | slice hq hc => exact Snd.pure hr (key _ _ hle) (.slice hq hc)
          | slack hq hl hlim hc => exact Snd.pure hr (key _ _ hl) (.slack hq hl hlim hc)
          | slack0 hq => exact Snd.pure hr (key _ _ (Nat.le_refl _)) (.slack0 hq)
          | slip => exact Snd.pure hr (key _ _ (Nat.le_refl _)) .slip
        · cases hv
      · rename_i hn
        split at hv
        · -- the room is known
          rename_i hcap
          cases ho : h.get A with
          | none => simp [ho] at hv
          | some o =>
            simp only [ho] at hv
            cases hs with
            | slack hq hl hlim hc => omega
            | slack0 hq => omega
            | slip =>
              rename_i p
              split at hv
              · omega
              · cases hcs : o.cells? with
                | none => simp [hcs] at hv
                | some c =>
                  simp only [hcs] at hv
                  split at hv
                  · rename_i hb
                    cases hv
                    have := mk ρ h (some p) 0 0 [] [] e hr (Frm.refl _ _ _) (by omega) hb.2.2 hb.2.1 (by omega) (by simp) (LR.nil _) (by simp) hlr (fun w' _ => by simp [Builtin.firstCells, loadCells, loadCellsFrom]) rfl
                    simpa using this
                  · cases hv
            | slice hq hc =>
              rename_i r
              split at hv
              · rename_i hle
                simp only [Option.map_eq_some_iff, Prod.mk.injEq] at hv
                obtain ⟨o', hset, rfl, rfl⟩ := hv
                obtain ⟨w', hrun, hr', hf'⟩ := hr.stores P (off := off + len * ie.size) ho hq hlr hone hset
                refine ⟨ρ, _, w', ?_, .slice hq hc, hr', hf'⟩
                rw [(ways (some _) len cap).1 hle]
                simp only [add_add]
                rw [Nat.add_assoc, hrun]; rfl
              · rename_i hnle
                cases hcs : o.cells? with
                | none => simp [hcs] at hv
                | some c =>
                  simp only [hcs] at hv
                  split at hv
                  · rename_i hb
                    cases hv
                    obtain ⟨q, eq, hor⟩ := hr.obj A o ho
                    rw [hq] at eq; cases eq
                    obtain ⟨_, _, cc, fr, hrow⟩ := hor.rowAt hcs
                    obtain ⟨cs, hl, hlr2, hload, _⟩ := hrow.many off (len * ie.size) hb.1
                    exact mk ρ h (some _) len cap _ cs e hr (Frm.refl _ _ _) (by omega) hb.2.2 hb.2.1 (by omega) (by simp; omega) hlr2 (fun v hv => hrow.one v (List.mem_of_mem_drop (List.mem_of_mem_take hv))) hlr
                      (fun w' hw' => by simpa [Builtin.firstCells] using hload P w' (by rw [hw'])) rfl
                  · cases hv
        · -- a row that may grow
          rename_i hcap
          split at hv
          case h_2 => cases hv
          rename_i c e' ho
          split at hv
          case isFalse => cases hv
          rename_i hb
          cases hv
          obtain ⟨rfl, hce, hle, hby, hml⟩ := hb
          cases hs with
          | slice hq hc => exact absurd hc hcap
          | slack hq hl hlim hcS =>
            rename_i cc0 s r
            have hse : s = ie.size := by omega
            subst hse
            obtain ⟨q, eq, hor⟩ := hr.obj A _ ho
            rw [hq] at eq; cases eq
            obtain ⟨cc, fr, hrow, hsz, hall⟩ := hor
            obtain ⟨cs, hcl, hlr2, hload, hcs⟩ := hrow.many off (len * ie.size) hle
            by_cases hfit : len + n ≤ cc0
            · -- in place
              have hmul : (len + n) * ie.size ≤ cc0 * ie.size := Nat.mul_le_mul_right _ hfit
              have hdist : (len + n) * ie.size = len * ie.size + n * ie.size := Nat.add_mul _ _ _
              have hyl' : ys'.length = n * ie.size := by rw [← hlr.1, hyl]
              have hone' : ∀ x ∈ ys', oneC x = true := by
                intro x hx'
                obtain ⟨i, hi'⟩ := List.getElem?_of_mem hx'
                have hlt : i < ys.length := by rw [hlr.1]; exact (List.getElem?_eq_some_iff.1 hi').1
                rw [(hlr.2 i _ _ (List.getElem?_eq_getElem hlt) hi').one]
                exact hone _ (List.getElem_mem hlt)
              obtain ⟨w', cc', hrun, hb', hcsz, hwsz, hoth, hin, hout, sd, hpast⟩ := storesRaw P r.blk e' fr ys' w cc (r.base + off + len * ie.size) 0 hrow.heap (fun j hj => hrow.free rfl j (Nat.le_of_lt hj)) hone' (by omega)
              obtain ⟨hr', hf'⟩ := hr.moved (r' := ⟨r.blk, r.base + off, r.lim⟩) (o' := .grow ((c.drop off).take (len * ie.size) ++ ys) e') ho rfl hq rfl hwsz hoth (fun ρ' hle' => by
                refine ⟨cc', fr, ⟨hb', ?_, fun i u hu => ?_, fun _ j hj => hrow.free rfl j (by omega), fun u hu => ?_⟩, by rw [hcsz, hsz], fun j v' hj => ?_⟩
                · simp only [List.length_append, List.length_take, List.length_drop, hyl]; omega
                · by_cases hi' : i < len * ie.size
                  · rw [List.getElem?_append_left (by simp; omega), List.getElem?_take, if_pos hi', List.getElem?_drop] at hu
                    obtain ⟨u', hu1, hu2⟩ := hrow.cell _ _ hu
                    refine ⟨u', ?_, hu2.mono hle'⟩
                    show cc'[r.base + off + i]? = some u'
                    rw [hout _ (by omega), Nat.add_assoc]; exact hu1
                  · rw [List.getElem?_append_right (by simp; omega)] at hu
                    have hl' : ((c.drop off).take (len * ie.size)).length = len * ie.size := by simp; omega
                    rw [hl'] at hu
                    obtain ⟨u', hu1, hu2⟩ := hlr.get hu
                    refine ⟨u', ?_, hu2.mono hle'⟩
                    have := hin _ _ hu1
                    show cc'[r.base + off + i]? = some u'
                    rw [show r.base + off + i = r.base + off + len * ie.size + 0 + (i - len * ie.size) by omega]; exact this
                · rcases List.mem_append.1 hu with hu | hu
                  · exact hrow.one u (List.mem_of_mem_drop (List.mem_of_mem_take hu))
                  · exact hone u hu
                · by_cases h1 : j < r.base + off + len * ie.size + 0
                  · rw [hout j h1] at hj; exact (hall j v' hj).imp id fun ⟨v, hv⟩ => ⟨v, hv.mono hle'⟩
                  · by_cases h2 : r.base + off + len * ie.size + 0 + ys'.length ≤ j
                    · rw [hpast j h2] at hj; exact (hall j v' hj).imp id fun ⟨v, hv⟩ => ⟨v, hv.mono hle'⟩
                    · have hk : j - (r.base + off + len * ie.size + 0) < ys'.length := by omega
                      have h3 := hin _ _ (List.getElem?_eq_getElem hk)
                      rw [show r.base + off + len * ie.size + 0 + (j - (r.base + off + len * ie.size + 0)) = j by omega, hj] at h3
                      cases h3
                      have hky : j - (r.base + off + len * ie.size + 0) < ys.length := by rw [hlr.1]; exact hk
                      have hvr := hlr.2 _ _ _ (List.getElem?_eq_getElem hky) (List.getElem?_eq_getElem hk)
                      exact ⟨hone' _ (List.getElem_mem hk), _, hvr.mono hle'⟩) sd
              refine ⟨_, .slice (some ⟨r.blk, r.base + off, none⟩) (len + n) cc0, w', ?_, ?_, hr', hf'⟩
              · rw [(ways (some _) len cc0).1 hfit]
                simp only [add_add]
                rw [hrun]; rfl
              · have := VR.slack (ρ := ρ.put h.next ⟨r.blk, r.base + off, r.lim⟩) (A := h.next) (off := 0) (l := len + n) (c := cc0) (s := ie.size) (Ren.put_same _ _ _) hfit hlim hcS
                simpa using this
            · obtain ⟨hr₁, hf₁⟩ := hr.forget A
              exact mk ρ (h.del A) (some _) len cc0 _ cs e' hr₁ hf₁ (by omega) hml hby (by omega) (by simp; omega) hlr2 (fun v hv => hrow.one v (List.mem_of_mem_drop (List.mem_of_mem_take hv))) hlr
                (fun w' hw' => by simpa [Builtin.firstCells] using hload P w' (by rw [hw'])) rfl
          | slack0 hq =>
            rename_i off' s r
            obtain ⟨hr₁, hf₁⟩ := hr.forget A
            have := mk ρ (h.del A) (some ⟨r.blk, off', none⟩) 0 0 [] [] e' hr₁ hf₁ (by omega) hml hby (by omega) (by simp) (LR.nil _) (by simp) hlr
              (fun w' _ => by simp [Builtin.firstCells, loadCells, loadCellsFrom]) rfl
            simpa using this
          | slip => exact absurd (by unfold SL; omega) hcap
    · cases hv

end Go.Ab
