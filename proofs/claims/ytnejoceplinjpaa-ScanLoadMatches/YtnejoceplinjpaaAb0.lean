/- Own layer 'Ab': an abstract heap, and its relation to the world of the model. Generic over the program. -/
import Derived.OrdersIn
import Derived.RangeFuncLeaves
import Derived.LoopNIn
import Derived.WalkKit
namespace Go.Ab

/-- Where an abstract block lies: its block in the world, the offset at which it begins there, the end of its room. -/
structure RE where
  blk : Nat
  base : Nat
  lim : Nat

abbrev Ren := Nat → Option RE

def Ren.le (ρ ρ' : Ren) : Prop := ∀ i r, ρ i = some r → ρ' i = some r

theorem Ren.le_refl (ρ : Ren) : ρ.le ρ := fun _ _ h => h
theorem Ren.le_trans {a b c : Ren} (h : a.le b) (g : b.le c) : a.le c := fun i r x => g i r (h i r x)

def Ren.put (ρ : Ren) (A : Nat) (r : RE) : Ren := fun i => if i = A then some r else ρ i

theorem Ren.put_same (ρ : Ren) (A : Nat) (r : RE) : ρ.put A r A = some r := by simp [Ren.put]
theorem Ren.put_ne (ρ : Ren) {A i : Nat} (r : RE) (h : i ≠ A) : ρ.put A r i = ρ i := by simp [Ren.put, h]
theorem Ren.le_put {ρ : Ren} {A : Nat} {r : RE} (h : ρ A = none) : ρ.le (ρ.put A r) := by
  intro i q hi
  by_cases e : i = A
  · subst e; rw [h] at hi; cases hi
  · rw [Ren.put_ne _ _ e]; exact hi

/-- The capacity of a slice whose room is not known: this number and the cells of an element. -/
def SL : Nat := 18446744073709551616

inductive FR (ρ : Ren) : Fn → Fn → Prop
  | func (f : FuncId) : FR ρ (.func f) (.func f)
  | yield {A : Nat} {r : RE} (h : ρ A = some r) : FR ρ (.yield A) (.yield r.blk)

inductive VR (ρ : Ren) : Value → Value → Prop
  | bool (b : Bool) : VR ρ (.bool b) (.bool b)
  | int (k : IntKind) (n : Int) : VR ρ (.int k n) (.int k n)
  | string (s : ByteArray) : VR ρ (.string s) (.string s)
  | nilPtr : VR ρ (.pointer none) (.pointer none)
  | ptr {A off : Nat} {r : RE} (h : ρ A = some r) : VR ρ (.pointer (some ⟨A, off, none⟩)) (.pointer (some ⟨r.blk, r.base + off, none⟩))
  | nilSlice (l c : Nat) : VR ρ (.slice none l c) (.slice none l c)
  | slice {A off l c : Nat} {r : RE} (h : ρ A = some r) (hc : c < SL) :
      VR ρ (.slice (some ⟨A, off, none⟩) l c) (.slice (some ⟨r.blk, r.base + off, none⟩) l c)
  | slack {A off l c s : Nat} {r : RE} (h : ρ A = some r) (hl : l ≤ c) (hlim : r.base + off + c * s ≤ r.lim) :
      VR ρ (.slice (some ⟨A, off, none⟩) l (SL + s)) (.slice (some ⟨r.blk, r.base + off, none⟩) l c)
  | slack0 {A off off' s : Nat} {r : RE} (h : ρ A = some r) :
      VR ρ (.slice (some ⟨A, off, none⟩) 0 (SL + s)) (.slice (some ⟨r.blk, off', none⟩) 0 0)
  | nilMap : VR ρ (.map none) (.map none)
  | map {A : Nat} {r : RE} (h : ρ A = some r) : VR ρ (.map (some A)) (.map (some r.blk))
  | nilFunc : VR ρ .nilFunc .nilFunc
  | func {f g : Fn} {xs xs' ys ys' : Array Value} (hf : FR ρ f g) (h1 : xs.size = xs'.size)
      (h2 : ∀ (i : Nat) (v v' : Value), xs[i]? = some v → xs'[i]? = some v' → VR ρ v v') (h3 : ys.size = ys'.size)
      (h4 : ∀ (i : Nat) (v v' : Value), ys[i]? = some v → ys'[i]? = some v' → VR ρ v v') : VR ρ (.func f xs ys) (.func g xs' ys')
  | nilIface : VR ρ .nilIface .nilIface
  | iface {t : TypeId} {v v' : Value} (h : VR ρ v v') : VR ρ (.iface t v) (.iface t v')
  | agg {xs xs' : Array Value} (h1 : xs.size = xs'.size)
      (h2 : ∀ (i : Nat) (v v' : Value), xs[i]? = some v → xs'[i]? = some v' → VR ρ v v') : VR ρ (.agg xs) (.agg xs')
  | tuple {xs xs' : Array Value} (h1 : xs.size = xs'.size)
      (h2 : ∀ (i : Nat) (v v' : Value), xs[i]? = some v → xs'[i]? = some v' → VR ρ v v') : VR ρ (.tuple xs) (.tuple xs')

theorem FR.mono {ρ ρ' : Ren} (hle : ρ.le ρ') {f g : Fn} (h : FR ρ f g) : FR ρ' f g := by
  cases h with
  | func f => exact .func f
  | yield h => exact .yield (hle _ _ h)

theorem VR.mono {ρ ρ' : Ren} (hle : ρ.le ρ') {v v' : Value} (h : VR ρ v v') : VR ρ' v v' := by
  induction h with
  | bool b => exact .bool b
  | int k n => exact .int k n
  | string s => exact .string s
  | nilPtr => exact .nilPtr
  | ptr h => exact .ptr (hle _ _ h)
  | nilSlice l c => exact .nilSlice l c
  | slice h hc => exact .slice (hle _ _ h) hc
  | slack h hl hlim => exact .slack (hle _ _ h) hl hlim
  | slack0 h => exact .slack0 (hle _ _ h)
  | nilMap => exact .nilMap
  | map h => exact .map (hle _ _ h)
  | nilFunc => exact .nilFunc
  | func hf h1 h2 h3 h4 i2 i4 => exact .func (hf.mono hle) h1 (fun i v v' a b => i2 i v v' a b) h3 (fun i v v' a b => i4 i v v' a b)
  | nilIface => exact .nilIface
  | iface h ih => exact .iface ih
  | agg h1 h2 i2 => exact .agg h1 (fun i v v' a b => i2 i v v' a b)
  | tuple h1 h2 i2 => exact .tuple h1 (fun i v v' a b => i2 i v v' a b)

/-- Two lists of values, one by one. -/
def LR (ρ : Ren) (xs ys : List Value) : Prop := xs.length = ys.length ∧ ∀ (i : Nat) (v v' : Value), xs[i]? = some v → ys[i]? = some v' → VR ρ v v'

theorem LR.mono {ρ ρ' : Ren} (hle : ρ.le ρ') {xs ys : List Value} (h : LR ρ xs ys) : LR ρ' xs ys :=
  ⟨h.1, fun i v v' a b => (h.2 i v v' a b).mono hle⟩
theorem LR.nil (ρ : Ren) : LR ρ [] [] := ⟨rfl, fun i v v' a _ => by simp at a⟩
theorem LR.cons {ρ : Ren} {x y : Value} {xs ys : List Value} (h : VR ρ x y) (t : LR ρ xs ys) : LR ρ (x :: xs) (y :: ys) := by
  refine ⟨by simp [t.1], fun i v v' a b => ?_⟩
  cases i with
  | zero => simp at a b; subst a; subst b; exact h
  | succ i => simp at a b; exact t.2 i v v' a b
theorem LR.single {ρ : Ren} {x y : Value} (h : VR ρ x y) : LR ρ [x] [y] := (LR.nil ρ).cons h
theorem LR.get {ρ : Ren} {xs ys : List Value} (h : LR ρ xs ys) {i : Nat} {v : Value} (hv : xs[i]? = some v) : ∃ v', ys[i]? = some v' ∧ VR ρ v v' := by
  have hlt : i < ys.length := by rw [← h.1]; exact (List.getElem?_eq_some_iff.1 hv).1
  exact ⟨ys[i], List.getElem?_eq_getElem hlt, h.2 i v _ hv (List.getElem?_eq_getElem hlt)⟩
theorem LR.append {ρ : Ren} {a b c d : List Value} (h : LR ρ a b) (g : LR ρ c d) : LR ρ (a ++ c) (b ++ d) := by
  refine ⟨by simp [h.1, g.1], fun i v v' p q => ?_⟩
  by_cases hi : i < a.length
  · rw [List.getElem?_append_left hi] at p
    rw [List.getElem?_append_left (by rw [← h.1]; exact hi)] at q
    exact h.2 i v v' p q
  · rw [List.getElem?_append_right (by omega)] at p
    rw [List.getElem?_append_right (by rw [← h.1]; omega)] at q
    rw [← h.1] at q
    exact g.2 _ v v' p q
theorem LR.take {ρ : Ren} {a b : List Value} (h : LR ρ a b) (n : Nat) : LR ρ (a.take n) (b.take n) := by
  refine ⟨by simp [h.1], fun i v v' p q => ?_⟩
  rw [List.getElem?_take] at p q
  split at p
  · rename_i hi; rw [if_pos hi] at q; exact h.2 i v v' p q
  · cases p
theorem LR.drop {ρ : Ren} {a b : List Value} (h : LR ρ a b) (n : Nat) : LR ρ (a.drop n) (b.drop n) := by
  refine ⟨by simp [h.1], fun i v v' p q => ?_⟩
  rw [List.getElem?_drop] at p q
  exact h.2 _ v v' p q
theorem LR.set {ρ : Ren} {a b : List Value} (h : LR ρ a b) (n : Nat) {x y : Value} (hx : VR ρ x y) : LR ρ (a.set n x) (b.set n y) := by
  refine ⟨by simp [h.1], fun i v v' p q => ?_⟩
  rw [List.getElem?_set] at p q
  by_cases hn : n = i
  · subst hn
    simp only [if_true] at p q
    split at p
    · split at q
      · cases p; cases q; exact hx
      · cases q
    · cases p
  · rw [if_neg hn] at p q; exact h.2 i v v' p q
theorem LR.of_refl {ρ : Ren} {a : List Value} (h : ∀ v ∈ a, VR ρ v v) : LR ρ a a :=
  ⟨rfl, fun i v v' p q => by rw [p] at q; cases q; exact h v (List.mem_of_getElem? p)⟩
theorem LR.map {ρ : Ren} {α : Type} {l : List α} {f g : α → Value} (h : ∀ x ∈ l, VR ρ (f x) (g x)) : LR ρ (l.map f) (l.map g) := by
  refine ⟨by simp, fun i v v' p q => ?_⟩
  simp only [List.getElem?_map, Option.map_eq_some_iff] at p q
  obtain ⟨x, hx, rfl⟩ := p
  obtain ⟨y, hy, rfl⟩ := q
  rw [hx] at hy; cases hy
  exact h x (List.mem_of_getElem? hx)

theorem VR.ofAgg {ρ : Ren} {xs : Array Value} {v : Value} (h : VR ρ (.agg xs) v) : ∃ ys, v = .agg ys ∧ LR ρ xs.toList ys.toList := by
  cases h with
  | agg h1 h2 => exact ⟨_, rfl, by simpa using h1, fun i v v' a b => h2 i v v' (by simpa using a) (by simpa using b)⟩
theorem VR.ofTuple {ρ : Ren} {xs : Array Value} {v : Value} (h : VR ρ (.tuple xs) v) : ∃ ys, v = .tuple ys ∧ LR ρ xs.toList ys.toList := by
  cases h with
  | tuple h1 h2 => exact ⟨_, rfl, by simpa using h1, fun i v v' a b => h2 i v v' (by simpa using a) (by simpa using b)⟩
theorem LR.toAgg {ρ : Ren} {xs ys : List Value} (h : LR ρ xs ys) : VR ρ (.agg xs.toArray) (.agg ys.toArray) :=
  .agg (by simpa using h.1) (fun i v v' a b => h.2 i v v' (by simpa using a) (by simpa using b))
theorem LR.toTuple {ρ : Ren} {xs ys : List Value} (h : LR ρ xs ys) : VR ρ (.tuple xs.toArray) (.tuple ys.toArray) :=
  .tuple (by simpa using h.1) (fun i v v' a b => h.2 i v v' (by simpa using a) (by simpa using b))
theorem VR.undef (ρ : Ren) : VR ρ Go.undef Go.undef := .tuple rfl (fun i v v' a _ => by simp at a)

theorem VR.cells {ρ : Ren} {v v' : Value} (h : VR ρ v v') : LR ρ v.cells.toList v'.cells.toList := by
  cases h with
  | agg h1 h2 => exact (VR.ofAgg (.agg h1 h2)).elim fun ys h => by obtain ⟨e, hl⟩ := h; cases e; exact hl
  | bool b => exact LR.single (.bool b)
  | int k n => exact LR.single (.int k n)
  | string s => exact LR.single (.string s)
  | nilPtr => exact LR.single .nilPtr
  | ptr h => exact LR.single (.ptr h)
  | nilSlice l c => exact LR.single (.nilSlice l c)
  | slice h hc => exact LR.single (.slice h hc)
  | slack h hl hlim => exact LR.single (.slack h hl hlim)
  | slack0 h => exact LR.single (.slack0 h)
  | nilMap => exact LR.single .nilMap
  | map h => exact LR.single (.map h)
  | nilFunc => exact LR.single .nilFunc
  | func hf h1 h2 h3 h4 => exact LR.single (.func hf h1 h2 h3 h4)
  | nilIface => exact LR.single .nilIface
  | iface h => exact LR.single (.iface h)
  | tuple h1 h2 => exact LR.single (.tuple h1 h2)

/-- The value of one cell. -/
def oneC : Value → Bool
  | .agg _ | .tuple _ => false
  | _ => true

theorem VR.one {ρ : Ren} {v v' : Value} (h : VR ρ v v') : oneC v' = oneC v := by
  cases h <;> rfl

/-- Values that bear no address: each is its own. -/
def plain : Nat → Value → Bool
  | 0, _ => false
  | n + 1, v => match v with
    | .bool _ | .int _ _ | .string _ | .pointer none | .slice none _ _ | .map none | .nilFunc | .nilIface => true
    | .iface _ v => plain n v
    | .agg xs => xs.toList.all (plain n)
    | .tuple xs => xs.toList.all (plain n)
    | _ => false

theorem plain_VR (ρ : Ren) : ∀ (n : Nat) (v : Value), plain n v = true → VR ρ v v := by
  intro n
  induction n with
  | zero => intro v h; simp [plain] at h
  | succ n ih =>
    intro v h
    unfold plain at h
    split at h
    case h_1 => exact .bool _
    case h_2 => exact .int _ _
    case h_3 => exact .string _
    case h_4 => exact .nilPtr
    case h_5 => exact .nilSlice _ _
    case h_6 => exact .nilMap
    case h_7 => exact .nilFunc
    case h_8 => exact .nilIface
    case h_9 => exact .iface (ih _ h)
    case h_10 xs =>
      refine .agg rfl fun i v v' a b => ?_
      rw [a] at b; cases b
      exact ih v (List.all_eq_true.1 h v (by simpa using Array.mem_of_getElem? a))
    case h_11 xs =>
      refine .tuple rfl fun i v v' a b => ?_
      rw [a] at b; cases b
      exact ih v (List.all_eq_true.1 h v (by simpa using Array.mem_of_getElem? a))
    case h_12 => cases h

/-! ### The abstract heap -/

structure ALoop where
  state : LoopState
  pending : Option Code
  fn : FuncId
  n : Nat
  tm : Nat → Value
  params : Array Tmp
  assign : Code
  body : Code
  defers : Nat

inductive AObj where
  | row (c : List Value) (elem : TypeId) (wr : Bool)
  | grow (c : List Value) (elem : TypeId)
  | map (es : List MapEntry) (clk : Nat)
  | iter (m : Option Nat) (since : Nat) (seen : List Nat) (stepped : Nat)
  | loop (l : ALoop)
  | dfr (live : Bool)

def AObj.own : AObj → Bool
  | .row _ _ wr => wr
  | _ => true

structure AH where
  next : Nat
  get : Nat → Option AObj

def AH.set (h : AH) (A : Nat) (o : AObj) : AH := { next := h.next, get := fun i => if i = A then some o else h.get i }
def AH.del (h : AH) (A : Nat) : AH := { next := h.next, get := fun i => if i = A then none else h.get i }
def AH.new (h : AH) (o : AObj) : AH := { next := h.next + 1, get := fun i => if i = h.next then some o else h.get i }

@[simp] theorem AH.set_next (h : AH) (A : Nat) (o : AObj) : (h.set A o).next = h.next := rfl
@[simp] theorem AH.del_next (h : AH) (A : Nat) : (h.del A).next = h.next := rfl
@[simp] theorem AH.new_next (h : AH) (o : AObj) : (h.new o).next = h.next + 1 := rfl
theorem AH.set_get (h : AH) (A : Nat) (o : AObj) (i : Nat) : (h.set A o).get i = if i = A then some o else h.get i := rfl
theorem AH.del_get (h : AH) (A : Nat) (i : Nat) : (h.del A).get i = if i = A then none else h.get i := rfl
theorem AH.new_get (h : AH) (o : AObj) (i : Nat) : (h.new o).get i = if i = h.next then some o else h.get i := rfl

/-- A row of cells, as it lies in the world. -/
structure RowAt (ρ : Ren) (r : RE) (w : World) (c : List Value) (elem : TypeId) (wr : Bool) (cc : Array Value) (fr : Nat × Nat) : Prop where
  heap : w.heap[r.blk]? = some (.cells cc elem fr)
  fits : r.base + c.length ≤ cc.size
  cell : ∀ (i : Nat) (v : Value), c[i]? = some v → ∃ v', cc[r.base + i]? = some v' ∧ VR ρ v v'
  free : wr = true → ∀ i, i < cc.size → ¬ (fr.1 ≤ i ∧ i < fr.2)
  one : ∀ v ∈ c, oneC v = true

def ER (ρ : Ren) (es es' : List MapEntry) : Prop :=
  es.length = es'.length ∧ ∀ (i : Nat) (e e' : MapEntry), es[i]? = some e → es'[i]? = some e' → e.born = e'.born ∧ VR ρ e.key e'.key ∧ VR ρ e.val e'.val

theorem ER.mono {ρ ρ' : Ren} (hle : ρ.le ρ') {es es' : List MapEntry} (h : ER ρ es es') : ER ρ' es es' :=
  ⟨h.1, fun i e e' a b => let ⟨x, y, z⟩ := h.2 i e e' a b; ⟨x, y.mono hle, z.mono hle⟩⟩

def MRel (ρ : Ren) : Option Nat → Option Nat → Prop
  | none, m' => m' = none
  | some M, m' => ∃ q, ρ M = some q ∧ m' = some q.blk

def OR (ρ : Ren) (r : RE) (w : World) : AObj → Prop
  | .row c elem wr => ∃ cc fr, RowAt ρ r w c elem wr cc fr
  | .grow c elem => ∃ cc fr, RowAt ρ r w c elem true cc fr ∧ cc.size = r.lim
  | .map es clk => ∃ es', w.heap[r.blk]? = some (.map es' clk) ∧ ER ρ es es'.toList
  | .iter m since seen stepped => ∃ m', w.heap[r.blk]? = some (.mapIter m' since seen.toArray stepped) ∧ r.base = 0 ∧ MRel ρ m m'
  | .loop l => ∃ l' q, w.heap[r.blk]? = some (.loop l') ∧ l'.state = l.state ∧ l'.pending = l.pending ∧ True ∧ l'.params = l.params ∧
      l'.assign = l.assign ∧ l'.body = l.body ∧ ρ l.defers = some q ∧ l'.defers = q.blk ∧ l'.tmps.size = l.n ∧ ∀ i, VR ρ (l.tm i) (l'.tmps.getD i undef)
  | .dfr live => w.heap[r.blk]? = some (.deferred (if live then some [] else none))

theorem OR.heap_some {ρ : Ren} {r : RE} {w : World} {o : AObj} (h : OR ρ r w o) : ∃ x, w.heap[r.blk]? = some x := by
  cases o with
  | row c e wr => obtain ⟨cc, fr, h⟩ := h; exact ⟨_, h.heap⟩
  | grow c e => obtain ⟨cc, fr, h, _⟩ := h; exact ⟨_, h.heap⟩
  | map es clk => obtain ⟨es', h, _⟩ := h; exact ⟨_, h⟩
  | iter m a b c => obtain ⟨m', h, _⟩ := h; exact ⟨_, h⟩
  | loop l => obtain ⟨l', q, h, _⟩ := h; exact ⟨_, h⟩
  | dfr l => exact ⟨_, h⟩

theorem OR.lt {ρ : Ren} {r : RE} {w : World} {o : AObj} (h : OR ρ r w o) : r.blk < w.heap.size := by
  obtain ⟨x, hx⟩ := h.heap_some
  exact (Array.getElem?_eq_some_iff.1 hx).1

/-- An object's relation hangs on its own block alone, and grows with the renaming. -/
theorem OR.move {ρ ρ' : Ren} {r : RE} {w w' : World} {o : AObj} (hle : ρ.le ρ') (hb : w'.heap[r.blk]? = w.heap[r.blk]?) (h : OR ρ r w o) : OR ρ' r w' o := by
  cases o with
  | row c e wr =>
    obtain ⟨cc, fr, h⟩ := h
    exact ⟨cc, fr, ⟨hb.trans h.heap, h.fits, fun i v hi => let ⟨v', a, b⟩ := h.cell i v hi; ⟨v', a, b.mono hle⟩, h.free, h.one⟩⟩
  | grow c e =>
    obtain ⟨cc, fr, h, hl⟩ := h
    exact ⟨cc, fr, ⟨hb.trans h.heap, h.fits, fun i v hi => let ⟨v', a, b⟩ := h.cell i v hi; ⟨v', a, b.mono hle⟩, h.free, h.one⟩, hl⟩
  | map es clk => obtain ⟨es', h, he⟩ := h; exact ⟨es', hb.trans h, he.mono hle⟩
  | iter m a b c =>
    obtain ⟨m', h, h0, hm⟩ := h
    refine ⟨m', hb.trans h, h0, ?_⟩
    cases m with
    | none => exact hm
    | some M => obtain ⟨q, hq, e⟩ := hm; exact ⟨q, hle _ _ hq, e⟩
  | loop l =>
    obtain ⟨l', q, h, h1, h2, h3, h4, h5, h6, h7, h8, h9, h10⟩ := h
    exact ⟨l', q, hb.trans h, h1, h2, h3, h4, h5, h6, hle _ _ h7, h8, h9, fun i => (h10 i).mono hle⟩
  | dfr l => exact hb.trans h

structure HR (ρ : Ren) (h : AH) (w : World) : Prop where
  obj : ∀ A o, h.get A = some o → ∃ r, ρ A = some r ∧ OR ρ r w o
  inj : ∀ A B o p r q, h.get A = some o → h.get B = some p → ρ A = some r → ρ B = some q → A ≠ B → (o.own = true ∨ p.own = true) → r.blk ≠ q.blk
  dom : ∀ A r, ρ A = some r → A < h.next

theorem HR.fresh {ρ : Ren} {h : AH} {w : World} (hr : HR ρ h w) : ρ h.next = none := by
  cases e : ρ h.next with
  | none => rfl
  | some r => exact absurd (hr.dom _ _ e) (Nat.lt_irrefl _)

/-- The blocks that an abstract heap may write. -/
def Own (ρ : Ren) (h : AH) (b : Nat) : Prop := ∃ A o r, h.get A = some o ∧ o.own = true ∧ ρ A = some r ∧ r.blk = b

/-- What lies beside the heap stays. -/
structure Side (w w' : World) : Prop where
  os : w'.os = w.os
  tape : w'.tape = w.tape
  output : w'.output = w.output

theorem Side.refl (w : World) : Side w w := ⟨rfl, rfl, rfl⟩
theorem Side.trans {a b c : World} (x : Side a b) (y : Side b c) : Side a c := ⟨y.os.trans x.os, y.tape.trans x.tape, y.output.trans x.output⟩

structure Frm (ρ : Ren) (h : AH) (w : World) (ρ' : Ren) (h' : AH) (w' : World) : Prop where
  le : ρ.le ρ'
  size : w.heap.size ≤ w'.heap.size
  rest : ∀ b, b < w.heap.size → ¬ Own ρ h b → w'.heap[b]? = w.heap[b]?
  own : ∀ b, Own ρ' h' b → Own ρ h b ∨ w.heap.size ≤ b
  side : Side w w'

theorem Frm.refl (ρ : Ren) (h : AH) (w : World) : Frm ρ h w ρ h w := ⟨Ren.le_refl _, Nat.le_refl _, fun _ _ _ => rfl, fun _ h => .inl h, Side.refl _⟩

theorem Frm.trans {ρ ρ₁ ρ₂ : Ren} {h h₁ h₂ : AH} {w w₁ w₂ : World} (a : Frm ρ h w ρ₁ h₁ w₁) (b : Frm ρ₁ h₁ w₁ ρ₂ h₂ w₂) : Frm ρ h w ρ₂ h₂ w₂ := by
  refine ⟨Ren.le_trans a.le b.le, Nat.le_trans a.size b.size, fun x hx hn => ?_, fun x hx => ?_, a.side.trans b.side⟩
  · refine (b.rest x (Nat.lt_of_lt_of_le hx a.size) fun ho => ?_).trans (a.rest x hx hn)
    rcases a.own x ho with h | h
    · exact hn h
    · omega
  · rcases b.own x hx with h | h
    · exact a.own x h
    · exact .inr (Nat.le_trans a.size h)

/-- A step that leaves the heap's blocks as they are. -/
theorem HR.same {ρ : Ren} {h : AH} {w w' : World} (e : w'.heap = w.heap) (hr : HR ρ h w) : HR ρ h w' :=
  ⟨fun A o ho => let ⟨r, a, b⟩ := hr.obj A o ho; ⟨r, a, b.move (Ren.le_refl _) (by rw [e])⟩, hr.inj, hr.dom⟩
theorem Frm.same {ρ : Ren} {h : AH} {w w' : World} (e : w'.heap = w.heap) (sd : Side w w' := by exact ⟨rfl, rfl, rfl⟩) : Frm ρ h w ρ h w' :=
  ⟨Ren.le_refl _, by rw [e]; exact Nat.le_refl _, fun _ _ _ => by rw [e], fun _ h => .inl h, sd⟩

/-- One block more: a new abstract block for it. -/
theorem HR.alloc {ρ : Ren} {h : AH} {w : World} (hr : HR ρ h w) {x : Obj} {o : AObj} {w' : World} {base lim : Nat} (hw : w'.heap = w.heap.push x)
    (ho : ∀ ρ', ρ.le ρ' → ρ' h.next = some ⟨w.heap.size, base, lim⟩ → OR ρ' ⟨w.heap.size, base, lim⟩ w' o) (sd : Side w w' := by exact ⟨rfl, rfl, rfl⟩) :
    HR (ρ.put h.next ⟨w.heap.size, base, lim⟩) (h.new o) w' ∧ Frm ρ h w (ρ.put h.next ⟨w.heap.size, base, lim⟩) (h.new o) w' := by
  have hle : ρ.le (ρ.put h.next ⟨w.heap.size, base, lim⟩) := Ren.le_put hr.fresh
  have hold : ∀ b, b < w.heap.size → w'.heap[b]? = w.heap[b]? := fun b hb => by rw [hw, Array.getElem?_push_lt hb, Array.getElem?_eq_getElem hb]
  have hlt : ∀ A o r, h.get A = some o → ρ A = some r → r.blk < w.heap.size := fun A o r ha hq => by
    obtain ⟨r', e, hor⟩ := hr.obj A o ha
    rw [hq] at e; cases e; exact hor.lt
  refine ⟨⟨fun A o' ha => ?_, fun A B oa ob ra rb ha hb hra hrb hne hown => ?_, fun A r ha => ?_⟩, ⟨hle, by rw [hw]; simp, fun b hb _ => hold b hb, fun b hb => ?_, sd⟩⟩
  · rw [AH.new_get] at ha
    split at ha
    · rename_i e; cases ha; subst e
      exact ⟨_, Ren.put_same _ _ _, ho _ hle (Ren.put_same _ _ _)⟩
    · obtain ⟨r, e, hor⟩ := hr.obj A o' ha
      exact ⟨r, hle _ _ e, hor.move hle (hold _ hor.lt)⟩
  · rw [AH.new_get] at ha hb
    by_cases ea : A = h.next
    · have eb : B ≠ h.next := fun e => hne (ea.trans e.symm)
      rw [if_neg eb] at hb
      rw [Ren.put_ne _ _ eb] at hrb
      subst ea; rw [Ren.put_same] at hra; cases hra
      have := hlt B ob rb hb hrb
      simp; omega
    · rw [if_neg ea] at ha
      rw [Ren.put_ne _ _ ea] at hra
      by_cases eb : B = h.next
      · subst eb; rw [Ren.put_same] at hrb; cases hrb
        have := hlt A oa ra ha hra
        simp; omega
      · rw [if_neg eb] at hb
        rw [Ren.put_ne _ _ eb] at hrb
        exact hr.inj A B oa ob ra rb ha hb hra hrb hne hown
  · by_cases ea : A = h.next
    · subst ea; simp
    · rw [Ren.put_ne _ _ ea] at ha; have := hr.dom A r ha; simp; omega
  · obtain ⟨A, o', r, ha, hown, hq, rfl⟩ := hb
    rw [AH.new_get] at ha
    by_cases ea : A = h.next
    · subst ea; rw [Ren.put_same] at hq; cases hq; exact .inr (Nat.le_refl _)
    · rw [if_neg ea] at ha; rw [Ren.put_ne _ _ ea] at hq; exact .inl ⟨A, o', r, ha, hown, hq, rfl⟩

/-- One block of one's own turned. -/
theorem HR.store {ρ : Ren} {h : AH} {w : World} (hr : HR ρ h w) {A : Nat} {o o' : AObj} {r : RE} {w' : World} (ha : h.get A = some o) (hown : o.own = true) (hq : ρ A = some r)
    (hsz : w'.heap.size = w.heap.size) (hb : ∀ b, b ≠ r.blk → w'.heap[b]? = w.heap[b]?) (ho : OR ρ r w' o') (sd : Side w w' := by exact ⟨rfl, rfl, rfl⟩) :
    HR ρ (h.set A o') w' ∧ Frm ρ h w ρ (h.set A o') w' := by
  refine ⟨⟨fun B p hp => ?_, fun B C ob oc rb rc h1 h2 h3 h4 hne how => ?_, fun B q h1 => hr.dom B q h1⟩, ⟨Ren.le_refl _, Nat.le_of_eq hsz.symm, fun b hb' hn => ?_, fun b hb' => ?_, sd⟩⟩
  · rw [AH.set_get] at hp
    split at hp
    · rename_i e; cases hp; subst e; exact ⟨r, hq, ho⟩
    · rename_i e
      obtain ⟨q, eq, hor⟩ := hr.obj B p hp
      exact ⟨q, eq, hor.move (Ren.le_refl _) (hb _ (hr.inj B A p o q r hp ha eq hq e (.inr hown)))⟩
  · rw [AH.set_get] at h1 h2
    have key : ∀ X ox, (if X = A then some o' else h.get X) = some ox → ∃ px, h.get X = some px ∧ (ox.own = true → px.own = true) := by
      intro X ox hx
      split at hx
      · rename_i e; subst e; exact ⟨o, ha, fun _ => hown⟩
      · exact ⟨ox, hx, id⟩
    obtain ⟨pb, hpb, hib⟩ := key B ob h1
    obtain ⟨pc, hpc, hic⟩ := key C oc h2
    exact hr.inj B C pb pc rb rc hpb hpc h3 h4 hne (how.imp hib hic)
  · exact hb b (fun e => hn ⟨A, o, r, ha, hown, hq, e.symm⟩)
  · obtain ⟨B, p, q, hp, hown'', hqq, rfl⟩ := hb'
    rw [AH.set_get] at hp
    split at hp
    · rename_i e; subst e; exact .inl ⟨B, o, q, ha, hown, hqq, rfl⟩
    · exact .inl ⟨B, p, q, hp, hown'', hqq, rfl⟩

/-- A block of one's own is moved: given up under its old name, held under a new one (in the same block of the world, or a new one). -/
theorem HR.moved {ρ : Ren} {h : AH} {w : World} (hr : HR ρ h w) {A : Nat} {o o' : AObj} {r r' : RE} {w' : World} (ha : h.get A = some o) (hown : o.own = true) (hq : ρ A = some r)
    (hr' : r'.blk = r.blk) (hsz : w'.heap.size = w.heap.size) (hb : ∀ b, b ≠ r.blk → w'.heap[b]? = w.heap[b]?)
    (ho : ∀ ρ', ρ.le ρ' → OR ρ' r' w' o') (sd : Side w w' := by exact ⟨rfl, rfl, rfl⟩) :
    HR (ρ.put h.next r') ((h.del A).new o') w' ∧ Frm ρ h w (ρ.put h.next r') ((h.del A).new o') w' := by
  have hle : ρ.le (ρ.put h.next r') := Ren.le_put hr.fresh
  have hA : A < h.next := hr.dom A r hq
  have old : ∀ X ox, ((h.del A).new o').get X = some ox → X ≠ h.next → X ≠ A ∧ h.get X = some ox := by
    intro X ox hx hne
    rw [AH.new_get, AH.del_next, if_neg hne, AH.del_get] at hx
    split at hx
    · cases hx
    · rename_i e; exact ⟨e, hx⟩
  refine ⟨⟨fun B p hp => ?_, fun B C ob oc rb rc h1 h2 h3 h4 hne how => ?_, fun B q h1 => ?_⟩, ⟨hle, Nat.le_of_eq hsz.symm, fun b hb' hn => ?_, fun b hb' => ?_, sd⟩⟩
  · by_cases e : B = h.next
    · subst e
      rw [AH.new_get, AH.del_next, if_pos rfl] at hp; cases hp
      exact ⟨r', Ren.put_same _ _ _, ho _ hle⟩
    · obtain ⟨hne, hp'⟩ := old B p hp e
      obtain ⟨q, eq, hor⟩ := hr.obj B p hp'
      exact ⟨q, hle _ _ eq, hor.move hle (hb _ (hr.inj B A p o q r hp' ha eq hq hne (.inr hown)))⟩
  · by_cases eb : B = h.next
    · have ec : C ≠ h.next := fun x => hne (eb.trans x.symm)
      obtain ⟨hcA, hc⟩ := old C oc h2 ec
      rw [Ren.put_ne _ _ ec] at h4
      subst eb; rw [Ren.put_same] at h3; cases h3
      rw [hr']
      exact hr.inj A C o oc r rc ha hc hq h4 (fun x => hcA x.symm) (.inl hown)
    · obtain ⟨hbA, hbb⟩ := old B ob h1 eb
      rw [Ren.put_ne _ _ eb] at h3
      by_cases ec : C = h.next
      · subst ec; rw [Ren.put_same] at h4; cases h4
        rw [hr']
        exact hr.inj B A ob o rb r hbb ha h3 hq hbA (.inr hown)
      · obtain ⟨hcA, hc⟩ := old C oc h2 ec
        rw [Ren.put_ne _ _ ec] at h4
        exact hr.inj B C ob oc rb rc hbb hc h3 h4 hne how
  · by_cases e : B = h.next
    · subst e; simp
    · rw [Ren.put_ne _ _ e] at h1; have := hr.dom B q h1; simp; omega
  · exact hb b (fun e => hn ⟨A, o, r, ha, hown, hq, e.symm⟩)
  · obtain ⟨B, p, q, hp, hown'', hqq, rfl⟩ := hb'
    by_cases e : B = h.next
    · subst e; rw [Ren.put_same] at hqq; cases hqq; rw [hr']; exact .inl ⟨A, o, r, ha, hown, hq, rfl⟩
    · obtain ⟨hne, hp'⟩ := old B p hp e
      rw [Ren.put_ne _ _ e] at hqq
      exact .inl ⟨B, p, q, hp', hown'', hqq, rfl⟩

/-- A block is forgotten. -/
theorem HR.forget {ρ : Ren} {h : AH} {w : World} (hr : HR ρ h w) (A : Nat) : HR ρ (h.del A) w ∧ Frm ρ h w ρ (h.del A) w := by
  have old : ∀ X ox, (h.del A).get X = some ox → h.get X = some ox := by
    intro X ox hx
    rw [AH.del_get] at hx
    split at hx
    · cases hx
    · exact hx
  refine ⟨⟨fun B p hp => hr.obj B p (old B p hp), fun B C ob oc rb rc h1 h2 h3 h4 hne how => hr.inj B C ob oc rb rc (old _ _ h1) (old _ _ h2) h3 h4 hne how, fun B q h1 => hr.dom B q h1⟩,
    ⟨Ren.le_refl _, Nat.le_refl _, fun _ _ _ => rfl, fun b hb => ?_, Side.refl _⟩⟩
  obtain ⟨B, p, q, hp, a, b', c⟩ := hb
  exact .inl ⟨B, p, q, old B p hp, a, b', c⟩

end Go.Ab
