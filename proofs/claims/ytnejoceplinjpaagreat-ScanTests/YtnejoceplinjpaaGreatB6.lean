/- Own layer 'Ab': slices of one's own whose elements take several cells. Own layer 'Ab': a drawn region by a plan with any branches; an append of several elements. Permutations by marks; netlabref21.Order, netlabref31.chain on the abstract heap. Netlists as data; table.limited, .Mask, .Valid; cell.validName and cell.check on the abstract heap. Looking for an element; cell.check and cell.Check on the abstract heap. cell.Check on the abstract heap. -/
import Derived.Test.YtnejoceplinjpaaGreatB5
import Derived.Laws.Strings
set_option linter.unusedSimpArgs false
set_option linter.unusedVariables false
namespace Go.Ab

section
variable {P : Program}

/-- A slice type whose elements take sz cells. -/
structure SlM (P : Program) (t e : TypeId) (sz B : Nat) : Prop where
  sl : P.underlying t = some (.slice e)
  info : ∃ i z, P.info? e = some i ∧ i.size = sz ∧ i.bytes = B ∧ i.zero = some z ∧ z.cells.size = sz ∧ zOK z = true ∧ plain 9 z = true
  pos : 0 < sz

/-- A slice of one's own, from a block's begin, of n elements: nil, or empty, or of a growing row. -/
def VecM (sz : Nat) (e : TypeId) (v : Value) (ob : Option AObj) (A n : Nat) (zs : List Value) : Prop :=
  zs.length = n * sz ∧
  ((n = 0 ∧ v = .slice none 0 0 ∧ ob = none) ∨
   (n = 0 ∧ v = .slice (some ⟨A, 0, none⟩) 0 0 ∧ ob = some (.row [] e true)) ∨
   (v = .slice (some ⟨A, 0, none⟩) n (SL + sz) ∧ ob = some (.grow zs e)))

theorem VecM.one {sz : Nat} {e : TypeId} {v : Value} {ob : Option AObj} {A n : Nat} {zs : List Value} (hv : VecM sz e v ob A n zs) : oneC v = true ∧ v.cells.toList = [v] := by
  obtain ⟨_, ⟨_, rfl, _⟩ | ⟨_, rfl, _⟩ | ⟨rfl, _⟩⟩ := hv <;> exact ⟨rfl, rfl⟩

theorem VecM.row {α : Type} {L : Lay α} {h : AH} {e : TypeId} {v : Value} {ob : Option AObj} {A : Nat} {zs : List Value} {xs : List α} (hv : VecM L.sz e v ob A xs.length zs) (hg : ∀ o, ob = some o → h.get A = some o) (hb : xs.length ≤ 4294967296)
    (hx : ∀ (i : Nat) (x : α), xs[i]? = some x → L.rel h ((zs.drop (i * L.sz)).take L.sz) x) : RowOf L h v xs := by
  have hp := L.pos
  obtain ⟨hl, ⟨h0, rfl, _⟩ | ⟨h0, rfl, rfl⟩ | ⟨rfl, rfl⟩⟩ := hv
  · exact ⟨none, 0, 0, rfl, h0.symm, ⟨fun q e => (nomatch e), Nat.le_refl _, .inl (by unfold SL; omega)⟩, .inl (List.eq_nil_of_length_eq_zero h0)⟩
  · exact ⟨_, 0, 0, rfl, h0.symm, ⟨fun q e => by cases e; rfl, Nat.le_refl _, .inl (by unfold SL; omega)⟩, .inl (List.eq_nil_of_length_eq_zero h0)⟩
  · exact ⟨_, _, _, rfl, rfl, ⟨fun q e => by cases e; rfl, by unfold SL; omega, .inr rfl⟩, .inr ⟨A, 0, _, zs, rfl, hg _ rfl, rfl, fun i x hi => by rw [Nat.zero_add]; exact hx i x hi⟩⟩

theorem appendM {t t2 e : TypeId} {sz B : Nat} (ht : SlM P t e sz B) (ht2 : ∃ e2, P.underlying t2 = some (.slice e2)) {h : AH} (hw : WFH h) {v : Value} {ob : Option AObj} {A n : Nat} {zs : List Value} (hv : VecM sz e v ob A n zs) (hg : ∀ o, ob = some o → h.get A = some o)
    {x : Value} {k : Nat} {ys : List Value} (hsrc : srcCells sz x h = some (k, ys)) (hk : k ≠ 0) (hys : ys.length = k * sz) (hb : (2 * (n + k) + 192) * B ≤ 281474976710656) (hm : n + k < 4611686018427387904) :
    ∃ r h', aAppend P #[t, t2] v x h = some (r, h') ∧ (∃ A' o', VecM sz e r (some o') A' (n + k) (zs ++ ys) ∧ h'.get A' = some o' ∧ h.next ≤ A') ∧ (∀ C o, h.get C = some o → (C = A → ob = none) → h'.get C = some o) ∧ WFH h' ∧ h.next ≤ h'.next := by
  obtain ⟨i, z, hi, h1, hbb, hzz, hc, hzk, _⟩ := ht.info
  obtain ⟨e2, ht2⟩ := ht2
  have hm' : n + k < ML := by unfold ML; omega
  have hlen : (zs ++ ys).length = (n + k) * sz := by rw [List.length_append, hv.1, hys, Nat.add_mul]
  obtain ⟨hl, ⟨rfl, rfl, rfl⟩ | ⟨rfl, rfl, rfl⟩ | ⟨rfl, rfl⟩⟩ := hv
  · have hz : zs = [] := List.eq_nil_of_length_eq_zero (by rw [hl, Nat.zero_mul])
    subst hz
    rw [Nat.zero_add] at hb hm' hlen
    refine ⟨.slice (some ⟨h.next, 0, none⟩) k (SL + sz), h.new (.grow ys e), ?_, ⟨h.next, _, ⟨by rw [Nat.zero_add]; exact hlen, .inr (.inr ⟨by rw [Nat.zero_add], rfl⟩)⟩, by simp [AH.new_get], Nat.le_refl _⟩, fun C o hC _ => Sub.new hw _ C o hC, hw.new _, by simp⟩
    simp [aAppend, ht.sl, ht2, hi, hzz, h1, hc, isIntT, hsrc, hbb, hb, hm', hzk, hk]
  · have hz : zs = [] := List.eq_nil_of_length_eq_zero (by rw [hl, Nat.zero_mul])
    subst hz
    rw [Nat.zero_add] at hb hm' hlen
    have hA := hg _ rfl
    refine ⟨.slice (some ⟨h.next, 0, none⟩) k (SL + sz), h.new (.grow ys e), ?_, ⟨h.next, _, ⟨by rw [Nat.zero_add]; exact hlen, .inr (.inr ⟨by rw [Nat.zero_add], rfl⟩)⟩, by simp [AH.new_get], Nat.le_refl _⟩, fun C o hC _ => Sub.new hw _ C o hC, hw.new _, by simp⟩
    have h0 : 0 < SL := by unfold SL; omega
    simp [aAppend, ht.sl, ht2, hi, hzz, h1, hc, isIntT, hsrc, hbb, hb, hm', hzk, hk, hA, AObj.cells?, h0]
  · have hA := hg _ rfl
    have hAn := AH.get_lt hw hA
    refine ⟨.slice (some ⟨h.next, 0, none⟩) (n + k) (SL + sz), (h.del A).new (.grow (zs ++ ys) e), ?_, ⟨h.next, _, ⟨hlen, .inr (.inr ⟨rfl, rfl⟩)⟩, by simp [AH.new_get], Nat.le_refl _⟩, fun C o hC hCA => ?_, (hw.del A).new _, by simp⟩
    · have hcap : ¬ (SL + sz < SL) := by omega
      have htk : zs.take (n * sz) = zs := by rw [← hl]; exact List.take_length
      simp [aAppend, ht.sl, ht2, hi, hzz, h1, hc, isIntT, hsrc, hbb, hA, hcap, hb, hm', hzk, hk, hl, htk]
    · have hne : C ≠ A := fun e => by have := hCA e; cases this
      have hCn := AH.get_lt hw hC
      rw [AH.new_get, AH.del_next, if_neg (by omega), AH.del_get, if_neg hne]; exact hC

/-- Of a role's block. -/
theorem Owns.vecM {b h h' : AH} {nm : Nat → Nat} {ob : Nat → Option AObj} (w0 : WFH b) (ho : Owns b h nm ob) {r A' : Nat} {o' : AObj} (hg : h'.get A' = some o') (hA : h.next ≤ A')
    (frx : ∀ C o, h.get C = some o → (C = nm r → ob r = none) → h'.get C = some o) (wf : WFH h') (nx : h.next ≤ h'.next) : Owns b h' (upd nm r A') (upd ob r (some o')) :=
  ho.up w0 hg (.inr hA) frx wf nx

/-- A slice of one element, laid. -/
theorem aBuildM {t e : TypeId} {sz B : Nat} (ht : SlM P t e sz B) (hs : sz ≤ 16777216) (h : AH) {xs : List Value} (hx : xs.length = sz) (ho : xs.all oneC = true) :
    aBuildSlice P t 1 [(0, .agg xs.toArray)] h = some (.slice (some ⟨h.next, 0, none⟩) 1 1, h.new (.row xs e true)) := by
  obtain ⟨i, z, hi, h1, hb, hz, hc, hzk, hp⟩ := ht.info
  have hzl : (zeros z.cells.toList 1).length = sz := by simp [zeros, hc]
  have hset := setL_all xs (zeros z.cells.toList 1) [] (by rw [hzl, hx])
  simp only [List.nil_append, List.length_nil] at hset
  have hcx : (Value.agg xs.toArray).cells = xs.toArray := rfl
  have hxs : xs.toArray.size = sz := by simp [hx]
  have hnl : ¬ ((zeros z.cells.toList 1).length < sz) := by omega
  have h01 : 1 < SL := by unfold SL; omega
  simp only [aBuildSlice, ht.sl, hi, hz, h1, hp, hc, fillL]
  simp only [Nat.one_mul, hs, h01, true_and, and_true, if_true, hcx, hxs, Nat.zero_mul, Nat.zero_add, hnl, if_false, if_true, hset, ne_eq, not_true_eq_false, or_self]
  rw [if_pos ho]

theorem srcNew {h : AH} {xs : List Value} {e : TypeId} {sz : Nat} (hx : xs.length = sz) : srcCells sz (.slice (some ⟨h.next, 0, none⟩) 1 1) (h.new (.row xs e true)) = some (1, xs) := by
  subst hx
  simp [srcCells, AH.new_get, AObj.cells?]

/-- The cells of a row, as an append reads them. -/
theorem RowOf.src {α : Type} {L : Lay α} {h : AH} {v : Value} {xs : List α} (hs : RowOf L h v xs) : ∃ ys, srcCells L.sz v h = some (xs.length, ys) ∧ ys.length = xs.length * L.sz ∧
    ∀ (i : Nat) (x : α), xs[i]? = some x → L.rel h ((ys.drop (i * L.sz)).take L.sz) x := by
  obtain ⟨p, l, c, rfl, rfl, ⟨hsp, _⟩, hcs⟩ := hs
  have hpos := L.pos
  by_cases hz : xs = []
  · subst hz
    refine ⟨[], ?_, by simp, fun i x hx => by simp at hx⟩
    cases p with
    | none => rfl
    | some q =>
      obtain ⟨A, off, sp⟩ := q
      have : sp = none := hsp _ rfl
      subst this; rfl
  · rcases hcs with e | ⟨A, off, o, cs, rfl, hg, hc, hall⟩
    · exact absurd e hz
    · have hn : xs.length ≠ 0 := fun e => hz (List.eq_nil_of_length_eq_zero e)
      have hlast : off + xs.length * L.sz ≤ cs.length := by
        have hx : xs[xs.length - 1]? = some xs[xs.length - 1] := List.getElem?_eq_getElem (by omega)
        have hl := L.len (hall _ _ hx)
        simp only [List.length_take, List.length_drop] at hl
        have : (xs.length - 1) * L.sz + L.sz = xs.length * L.sz := by
          rw [← Nat.succ_mul]; congr 1; omega
        omega
      refine ⟨(cs.drop off).take (xs.length * L.sz), ?_, by simp; omega, fun i x hx => ?_⟩
      · simp only [srcCells, if_neg hn, hg, Option.bind_some, hc, if_pos hlast]
      · have hi : i < xs.length := (List.getElem?_eq_some_iff.1 hx).1
        have := hall i x hx
        have hle : i * L.sz + L.sz ≤ xs.length * L.sz := by
          rw [← Nat.succ_mul]; exact Nat.mul_le_mul_right _ hi
        rw [List.drop_take, List.drop_drop, List.take_take, Nat.min_eq_left (by omega)]
        exact this

/-- One element of a slice of one's own written over. -/
theorem Vec.store {e : TypeId} {h : AH} {v : Value} {ob : Option AObj} {A : Nat} {zs : List Value} (hv : Vec e v ob A zs) (hg : ∀ o, ob = some o → h.get A = some o) (he : ∃ i, P.info? e = some i ∧ i.size = 1) {i : Nat} (hi : i < zs.length)
    {x : Value} (hx : x.cells.toList = [x]) (ho : oneC x = true) : ∃ o', aStore P e (slAt 1 v i) x h = some (h.set A o') ∧ Vec e v (some o') A (zs.set i x) ∧ ob ≠ none := by
  obtain ⟨ie, hie, h1⟩ := he
  have hc : x.cells.size = 1 := by
    have := congrArg List.length hx
    simpa using this
  have key : ∀ cs : List Value, cs.take zs.length = zs → (cs.set i x).take zs.length = zs.set i x := by
    intro cs ht
    rw [List.take_set, ht]
  rcases hv with ⟨rfl, rfl, _⟩ | ⟨cs, rfl, rfl, hle, ht⟩ | ⟨cs, C, rfl, h2, h3, h4, rfl, ht⟩
  · simp at hi
  · have hA := hg _ rfl
    refine ⟨.grow (cs.set i x) e, ?_, .inr (.inl ⟨cs.set i x, by simp, rfl, by simpa using hle, by simpa using key cs ht⟩), by simp⟩
    have hlt : i + 1 ≤ cs.length := by omega
    simp [slAt, aStore, hie, h1, hc, hx, ho, hA, AObj.setCells, hlt, setL_one]
  · have hA := hg _ rfl
    refine ⟨.row (cs.set i x) e true, ?_, .inr (.inr ⟨cs.set i x, C, by simp, h2, by simpa using h3, by simpa using h4, rfl, by simpa using key cs ht⟩), by simp⟩
    have hlt : i + 1 ≤ cs.length := by omega
    simp [slAt, aStore, hie, h1, hc, hx, ho, hA, AObj.setCells, hlt, setL_one]

end
end Go.Ab

namespace Go.Ab

section
variable {P : Program}

/-- A plan, by the operations' places. -/
inductive OT where
  | nil
  | step (k i : Nat) (t : OT)
  | two (i : Nat) (t : OT) (j : Nat) (u : OT)

def treeOf : Plan → Option OT
  | .done => some .nil
  | .take i _ k => (treeOf k).map (.step 0 i)
  | .watch i _ k => (treeOf k).map (.step 1 i)
  | .only i k => (treeOf k).map (.step 2 i)
  | .two i k j l => match treeOf k, treeOf l with
    | some t, some u => some (.two i t j u)
    | _, _ => none
  | .three .. => none

def stepX (P : Program) (F : List (Oper × Value) → AAct → AH → Prop) (ops : Array Oper) (k : Nat) (o : Oper) (R : List (Oper × Value)) (a : AAct) (h : AH) : Prop :=
  match k with
  | 0 => (match dop P a.ev o.op h with
    | some (v, h') => andK (h' = h) (F R) (a.put o.dst v) h
    | none => False)
  | 1 => (match dop P a.ev o.op h with
    | some (v, h') => andK (h' = h) (F ((o, v) :: R)) (a.put o.dst v) h
    | none => False)
  | _ => match o.op with
    | .call { callee := .value f, args, .. } => callR P (a.ev f) (args.toList.map a.ev) h (contK (fun a h => andK (Keeps P ops R a h) (F R) a h) o.dst a)
    | .next it false => NextW (a.ev it) h (contK (fun a h => andK (Keeps P ops R a h) (F R) a h) o.dst a)
    | op => match dop P a.ev op h with
      | some (v, h') => andK (Keeps P ops R (a.put o.dst v) h') (F R) (a.put o.dst v) h'
      | none => False

def skipX (P : Program) (F : List (Oper × Value) → AAct → AH → Prop) (ops : Array Oper) (k : Nat) (o : Oper) (R : List (Oper × Value)) (a : AAct) (h : AH) : Prop :=
  match k with
  | 0 => F R (a.put o.dst undef) h
  | 1 => F ((o, undef) :: R) (a.put o.dst undef) h
  | _ => andK (Keeps P ops R (a.put o.dst undef) h) (F R) (a.put o.dst undef) h

def wantX (w : Bool) (P : Program) (F : List (Oper × Value) → AAct → AH → Prop) (ops : Array Oper) (k : Nat) (o : Oper) (R : List (Oper × Value)) (a : AAct) (h : AH) : Prop :=
  match w with
  | false => skipX P F ops k o R a h
  | true => stepX P F ops k o R a h

def okX (b : Bool) (P : Program) (F : List (Oper × Value) → AAct → AH → Prop) (ops : Array Oper) (k : Nat) (o : Oper) (R : List (Oper × Value)) (a : AAct) (h : AH) : Prop :=
  match b with
  | false => False
  | true => wantX (Region.wanted o (yieldedA ops a)) P F ops k o R a h

theorem okX_true {F : List (Oper × Value) → AAct → AH → Prop} {ops : Array Oper} {k : Nat} {o : Oper} {R : List (Oper × Value)} {a : AAct} {h : AH} : okX true P F ops k o R a h = wantX (Region.wanted o (yieldedA ops a)) P F ops k o R a h := rfl
theorem wantX_true {F : List (Oper × Value) → AAct → AH → Prop} {ops : Array Oper} {k : Nat} {o : Oper} {R : List (Oper × Value)} {a : AAct} {h : AH} : wantX true P F ops k o R a h = stepX P F ops k o R a h := rfl
theorem wantX_false {F : List (Oper × Value) → AAct → AH → Prop} {ops : Array Oper} {k : Nat} {o : Oper} {R : List (Oper × Value)} {a : AAct} {h : AH} : wantX false P F ops k o R a h = skipX P F ops k o R a h := rfl

def treeM (P : Program) (ops : Array Oper) (N : AAct → AH → Prop) : OT → List (Oper × Value) → AAct → AH → Prop
  | .nil, _, a, h => N a h
  | .step k i t, R, a, h => okX (okB (ops.toList.getD i op0) a) P (treeM P ops N t) ops k (ops.toList.getD i op0) R a h
  | .two i t j u, R, a, h => okX (okB (ops.toList.getD i op0) a) P (treeM P ops N t) ops 2 (ops.toList.getD i op0) R a h ∧ okX (okB (ops.toList.getD j op0) a) P (treeM P ops N u) ops 2 (ops.toList.getD j op0) R a h

theorem treeM_nil {ops : Array Oper} {N : AAct → AH → Prop} {R : List (Oper × Value)} {a : AAct} {h : AH} : treeM P ops N .nil R a h = N a h := rfl
theorem treeM_step {ops : Array Oper} {N : AAct → AH → Prop} {k i : Nat} {t : OT} {R : List (Oper × Value)} {a : AAct} {h : AH} :
    treeM P ops N (.step k i t) R a h = okX (okB (ops.toList.getD i op0) a) P (treeM P ops N t) ops k (ops.toList.getD i op0) R a h := rfl
theorem treeM_two {ops : Array Oper} {N : AAct → AH → Prop} {i j : Nat} {t u : OT} {R : List (Oper × Value)} {a : AAct} {h : AH} :
    treeM P ops N (.two i t j u) R a h = (treeM P ops N (.step 2 i t) R a h ∧ treeM P ops N (.step 2 j u) R a h) := rfl

def inB (n : Nat) : Plan → Bool
  | .done => true
  | .take i _ k => decide (i < n) && inB n k
  | .watch i _ k => decide (i < n) && inB n k
  | .only i k => decide (i < n) && inB n k
  | .two i k j l => decide (i < n) && inB n k && decide (j < n) && inB n l
  | .three .. => false

theorem getD_ops {ops : Array Oper} {i : Nat} (hi : i < ops.size) : ops[i]? = some (ops.toList.getD i op0) := by
  rw [List.getD_eq_getElem?_getD, Array.getElem?_toList, Array.getElem?_eq_getElem hi, Option.getD_some]

theorem onlyX {F : List (Oper × Value) → AAct → AH → Prop} {ops : Array Oper} {o : Oper} {R : List (Oper × Value)} {a : AAct} {h : AH} {K : List (Oper × Value) → AAct → AH → Prop} (hF : ∀ R a h, F R a h → K R a h)
    (hk : okX (okB o a) P F ops 2 o R a h) : opW P ops o a h (fun a h => Keeps P ops R a h ∧ K R a h) := by
  cases hok : okB o a with
  | false => rw [hok] at hk; exact hk.elim
  | true =>
    rw [hok, okX_true] at hk
    obtain ⟨h1, h2⟩ := okB_spec hok
    refine ⟨h1, h2, ?_⟩
    cases hw : Region.wanted o (yieldedA ops a) with
    | false => rw [hw] at hk; exact ⟨hk.1, hF _ _ _ hk.2⟩
    | true =>
      rw [hw, wantX_true] at hk
      rw [if_pos rfl]
      simp only [stepX] at hk
      split at hk
      · rename_i f args _ hop
        rw [hop]
        exact callR.mono (fun v h (hk : _ ∧ _) => ⟨hk.1, hF _ _ _ hk.2⟩) hk
      · rename_i it hop
        rw [hop]
        exact opR.mono (op := .next it false) (K := contK (fun a h => andK (Keeps P ops R a h) (F R) a h) o.dst a) (fun v h hk => ⟨hk.1, hF _ _ _ hk.2⟩) hk
      · split at hk
        · rename_i v h' hd
          exact opR_of_dop hd ⟨hk.1, hF _ _ _ hk.2⟩
        · exact hk.elim

theorem takeX {F : List (Oper × Value) → AAct → AH → Prop} {ops : Array Oper} {o : Oper} {R : List (Oper × Value)} {a : AAct} {h : AH}
    (hk : okX (okB o a) P F ops 0 o R a h) : ∃ v, Still P ops o v a h ∧ F R (a.put o.dst v) h := by
  cases hok : okB o a with
  | false => rw [hok] at hk; exact hk.elim
  | true =>
    rw [hok, okX_true] at hk
    obtain ⟨h1, h2⟩ := okB_spec hok
    cases hw : Region.wanted o (yieldedA ops a) with
    | false => rw [hw] at hk; exact ⟨undef, ⟨h1, h2, by rw [hw]; simp⟩, hk⟩
    | true =>
      rw [hw, wantX_true] at hk
      simp only [stepX] at hk
      split at hk
      · rename_i v h' hd
        obtain ⟨rfl, hk⟩ := hk
        exact ⟨v, ⟨h1, h2, by rw [hw]; exact hd⟩, hk⟩
      · exact hk.elim

theorem watchX {F : List (Oper × Value) → AAct → AH → Prop} {ops : Array Oper} {o : Oper} {R : List (Oper × Value)} {a : AAct} {h : AH}
    (hk : okX (okB o a) P F ops 1 o R a h) : ∃ v, Still P ops o v a h ∧ F ((o, v) :: R) (a.put o.dst v) h := by
  cases hok : okB o a with
  | false => rw [hok] at hk; exact hk.elim
  | true =>
    rw [hok, okX_true] at hk
    obtain ⟨h1, h2⟩ := okB_spec hok
    cases hw : Region.wanted o (yieldedA ops a) with
    | false => rw [hw] at hk; exact ⟨undef, ⟨h1, h2, by rw [hw]; simp⟩, hk⟩
    | true =>
      rw [hw, wantX_true] at hk
      simp only [stepX] at hk
      split at hk
      · rename_i v h' hd
        obtain ⟨rfl, hk⟩ := hk
        exact ⟨v, ⟨h1, h2, by rw [hw]; exact hd⟩, hk⟩
      · exact hk.elim

theorem treeM_sound {ops : Array Oper} {Q : Exit → AAct → AH → Prop} : ∀ (p : Plan) (t : OT) (R : List (Oper × Value)) (a : AAct) (h : AH), treeOf p = some t → inB ops.size p = true → treeM P ops (Q .normal) t R a h → planW P ops Q p R a h := by
  intro p
  induction p with
  | done => intro t R a h hp _ hk; cases hp; exact hk
  | take i D k ih =>
    intro t R a h hp hb hk
    simp only [treeOf, Option.map_eq_some_iff] at hp
    obtain ⟨t', hp, rfl⟩ := hp
    simp only [inB, Bool.and_eq_true, decide_eq_true_eq] at hb
    obtain ⟨v, hs, hk⟩ := takeX hk
    exact ⟨_, v, getD_ops hb.1, hs, ih _ _ _ _ hp hb.2 hk⟩
  | watch i D k ih =>
    intro t R a h hp hb hk
    simp only [treeOf, Option.map_eq_some_iff] at hp
    obtain ⟨t', hp, rfl⟩ := hp
    simp only [inB, Bool.and_eq_true, decide_eq_true_eq] at hb
    obtain ⟨v, hs, hk⟩ := watchX hk
    exact ⟨_, v, getD_ops hb.1, hs, ih _ _ _ _ hp hb.2 hk⟩
  | only i k ih =>
    intro t R a h hp hb hk
    simp only [treeOf, Option.map_eq_some_iff] at hp
    obtain ⟨t', hp, rfl⟩ := hp
    simp only [inB, Bool.and_eq_true, decide_eq_true_eq] at hb
    show opI P ops i a h _
    unfold opI
    rw [getD_ops hb.1]
    exact onlyX (fun R a h hk => ih _ _ _ _ hp hb.2 hk) hk
  | two i k j l ih1 ih2 =>
    intro t R a h hp hb hk
    simp only [treeOf] at hp
    split at hp
    · rename_i t' u hk' hl'
      cases hp
      simp only [inB, Bool.and_eq_true, decide_eq_true_eq] at hb
      obtain ⟨⟨⟨b1, b2⟩, b3⟩, b4⟩ := hb
      refine ⟨?_, ?_⟩
      · unfold opI
        rw [getD_ops b1]
        exact onlyX (fun R a h hk => ih1 _ _ _ _ hk' b2 hk) hk.1
      · unfold opI
        rw [getD_ops b3]
        exact onlyX (fun R a h hk => ih2 _ _ _ _ hl' b4 hk) hk.2
    · cases hp
  | three => intro t R a h hp; cases hp

theorem AW.drawX {rd : Option Nat} {id : Nat} {ops : Array Oper} {Q : Exit → AAct → AH → Prop} {a : AAct} {h : AH} (p : Plan) (t : OT) (hm : P.follows .mixedOrders = true)
    (hp : (planOK ops (Array.replicate ops.size false) [] p && (decide (p.len ≤ ops.size) && inB ops.size p)) = true) (hk : treeOf p = some t)
    (hx : treeM P ops (Q .normal) t [] a h) : AW P rd (.region id ops true) Q a h := by
  rw [Bool.and_eq_true, Bool.and_eq_true] at hp
  exact AW.plan p hm hp.1 (of_decide_eq_true hp.2.1) (treeM_sound p t [] a h hk hp.2.2 hx)

/-! ### An append of several elements -/

theorem setL_mid : ∀ (xs cs pre post : List Value), cs.length = xs.length → setL (pre ++ cs ++ post) pre.length xs = pre ++ xs ++ post := by
  intro xs
  induction xs with
  | nil => intro cs pre post h; rw [List.eq_nil_of_length_eq_zero h]; rfl
  | cons x xs ih =>
    intro cs pre post h
    cases cs with
    | nil => simp at h
    | cons c cs =>
      rw [setL]
      have e1 : (pre ++ c :: cs ++ post).set pre.length x = (pre ++ [x]) ++ cs ++ post := by simp [List.set_append]
      rw [e1]
      have := ih cs (pre ++ [x]) post (by simpa using h)
      rw [List.length_append, List.length_singleton] at this
      rw [this]; simp

theorem appendVs {t t2 e : TypeId} {B : Nat} {z : Value} (ht : SlT P t e B z) (ht2 : ∃ e2, P.underlying t2 = some (.slice e2)) {h : AH} (hw : WFH h) {v : Value} {ob : Option AObj} {A : Nat} {zs : List Value} (hv : Vec e v ob A zs) (hg : ∀ o, ob = some o → h.get A = some o)
    {x : Value} {ys : List Value} (hsrc : srcCells 1 x h = some (ys.length, ys)) (hne : ys ≠ []) (hx : ys.all oneC = true) (hb : (2 * (zs.length + ys.length) + 192) * B ≤ 281474976710656) (hm : zs.length + ys.length < 4611686018427387904) :
    ∃ r h', aAppend P #[t, t2] v x h = some (r, h') ∧ VecUp e h ob A r (zs ++ ys) h' := by
  obtain ⟨i, hi, h1, hbb, hzz⟩ := ht.info
  have hc : z.cells.size = 1 := by
    have := congrArg List.length ht.zc
    simpa using this
  obtain ⟨e2, ht2⟩ := ht2
  have hk0 : ys.length ≠ 0 := fun e => hne (List.eq_nil_of_length_eq_zero e)
  have hm' : zs.length + ys.length < ML := by unfold ML; omega
  rcases hv with ⟨rfl, rfl, rfl⟩ | ⟨cs, rfl, rfl, hle, htk⟩ | ⟨cs, C, rfl, hCm, hnC, hCl, rfl, htk⟩
  · simp only [List.length_nil, Nat.zero_add] at hb hm'
    refine ⟨.slice (some ⟨h.next, 0, none⟩) ys.length (SL + 1), h.new (.grow ys e), ?_, ⟨⟨h.next, _, .inr (.inl ⟨ys, rfl, rfl, by simp, List.take_length⟩), by simp [AH.new_get], .inr (Nat.le_refl _)⟩, fun B o hB _ => ?_, hw.new _, by simp⟩⟩
    · simp [aAppend, ht.sl, ht2, hi, hzz, h1, hc, isIntT, hsrc, hbb, hb, hm', ht.zk, hk0]
    · exact Sub.new hw _ B o hB
  · have hA := hg _ rfl
    have hAn : A < h.next := AH.get_lt hw hA
    refine ⟨.slice (some ⟨h.next, 0, none⟩) (zs.length + ys.length) (SL + 1), (h.del A).new (.grow (zs ++ ys) e), ?_, ⟨⟨h.next, _, .inr (.inl ⟨zs ++ ys, by simp, rfl, by simp, List.take_length⟩), by simp [AH.new_get], .inr (Nat.le_refl _)⟩, fun B o hB hBA => ?_, (hw.del A).new _, by simp⟩⟩
    · have hcap : ¬ (SL + 1 < SL) := by omega
      simp [aAppend, ht.sl, ht2, hi, hzz, h1, hc, isIntT, hsrc, hbb, hA, hcap, hle, hb, hm', htk, ht.zk, hk0]
    · have hne : B ≠ A := fun x => by have := hBA x; simp at this
      have hBn := AH.get_lt hw hB
      rw [AH.new_get, AH.del_next, if_neg (by omega), AH.del_get, if_neg hne]; exact hB
  · have hA := hg _ rfl
    have hAn : A < h.next := AH.get_lt hw hA
    have hcap : C < SL := by unfold SL; omega
    have hsplit : zs.length ≤ cs.length := by omega
    by_cases hfit : zs.length + ys.length ≤ C
    · have hset : zs.length + ys.length ≤ cs.length := by omega
      have hcs : cs = zs ++ (cs.drop zs.length).take ys.length ++ cs.drop (zs.length + ys.length) := by
        rw [List.append_assoc]
        conv => lhs; rw [← List.take_append_drop zs.length cs, htk]
        congr 1
        rw [← List.drop_drop, List.take_append_drop]
      have hml : ((cs.drop zs.length).take ys.length).length = ys.length := by simp; omega
      have hst : setL cs zs.length ys = zs ++ ys ++ cs.drop (zs.length + ys.length) := by
        conv => lhs; rw [hcs]
        exact setL_mid ys _ zs _ hml
      refine ⟨.slice (some ⟨A, 0, none⟩) (zs.length + ys.length) C, h.set A (.row (setL cs zs.length ys) e true), ?_, ⟨⟨A, _, .inr (.inr ⟨setL cs zs.length ys, C, by simp, hCm, by simpa using hfit, by simpa using hCl, rfl, ?_⟩), by simp [AH.set_get], .inl ⟨rfl, by simp⟩⟩, fun B o hB hBA => ?_, hw.set hAn _, by simp⟩⟩
      · simp [aAppend, ht.sl, ht2, hi, hzz, h1, hc, isIntT, hsrc, hcap, hA, hfit, AObj.setCells, hset, ht.zk, hk0]
      · rw [hst, List.take_append_of_le_length (by simp), List.take_of_length_le (by simp)]
      · rw [AH.set_get, if_neg (fun x => by have := hBA x; simp at this)]; exact hB
    · refine ⟨.slice (some ⟨h.next, 0, none⟩) (zs.length + ys.length) (SL + 1), h.new (.grow (zs ++ ys) e), ?_, ⟨⟨h.next, _, .inr (.inl ⟨zs ++ ys, by simp, rfl, by simp, List.take_length⟩), by simp [AH.new_get], .inr (Nat.le_refl _)⟩, fun B o hB _ => ?_, hw.new _, by simp⟩⟩
      · simp [aAppend, ht.sl, ht2, hi, hzz, h1, hc, isIntT, hsrc, hcap, hA, hfit, AObj.cells?, hsplit, hbb, hb, hm', htk, ht.zk, hk0]
      · exact Sub.new hw _ B o hB
end
end Go.Ab

namespace Go.Ab.S1
open Go.Proofs
set_option linter.unusedSimpArgs false
set_option linter.unusedVariables false
set_option maxRecDepth 100000
set_option maxHeartbeats 4000000
attribute [local push_cast] wpA_skip wpA_ret wpA_exit wpA_seq wpA_block wpA_cond2 andK_true wpA_region wpA_draw wpA_loop thenQ_normal thenQ_ret thenQ_exit blockQ_normal blockQ_ret blockQ_exit condV_true condV_false opsM_nil opsM_cons2 okM_true wantM_true wantM_false stepM seqM_cons2 seqM_nil2 okS_true wantS_true wantS_false stepS skipS okB Keeps_nil contK_app List.zip_cons_cons List.zip_nil_left List.zip_nil_right Op.operands Call.operands Array.toList_append List.append_nil List.nil_append List.all_cons List.all_nil cOK plain put_n put_tm put_none put_df ev_tmp ev_const ev_func wanted_none wanted_some callR_func dop ex_some1 aBuiltin aBin intBin aUn Option.map_some Bool.and_true Bool.true_and Bool.and_self List.map_cons List.map_nil List.toList_toArray List.getElem?_toArray List.getElem?_cons_zero List.getElem?_cons_succ Option.getD_some Option.getD_none Bool.false_eq_true eq_self_iff_true decide_true decide_false List.cons_append aExtract resL resV List.getD_cons_zero List.getD_cons_succ List.getD_nil Nat.succ_ne_self g1 g2 yieldedA2 isB_bool isB_undef g3 Option.bind_some Option.bind_none bne_self_eq_false beq_self_eq_true Bool.not_true Bool.not_false Int.toNat_natCast List.length_map List.mem_cons List.not_mem_nil or_false not_false_eq_true decide_not Bool.not_not bodyR_ret2 bodyR_normal2 closeMarks_nil ex_some0 Nat.zero_add Nat.add_zero ieq ine List.map_toArray Option.toArray_none Option.toArray_some oev Keeps_cons Still_eq selL wpX_skip wpX_ret wpX_exit wpX_seq wpX_block wpX_cond wpX_region wpX_draw wpX_loop List.take_succ_cons List.take_zero List.drop_succ_cons List.drop_zero Int.zero_add Int.add_zero aNil

theorem sortL_sorted (zs : List Int) : (sortL zs).Pairwise (fun x y => x ≤ y) := by
  have := List.pairwise_mergeSort (le := fun x y : Int => decide (x ≤ y)) (by intro a b c; simp; omega) (by intro a b; simp; omega) zs
  simpa [sortL] using this

/-- In range, and none twice. -/
def Marks (zs : List Int) (n : Nat) (i : Nat) : Prop := (∀ z ∈ zs.take i, 0 ≤ z ∧ z < n) ∧ (zs.take i).Nodup

theorem IsPerm.marks {zs : List Int} (hp : IsPerm zs) (i : Nat) : Marks zs zs.length i :=
  ⟨fun z hz => by obtain ⟨k, hk, rfl⟩ := hp.range (List.mem_of_mem_take hz); omega, (List.take_sublist i zs).nodup hp.nodup⟩

theorem climb {l : List Int} (hs : l.Pairwise (· < ·)) (h0 : ∀ z ∈ l, 0 ≤ z) : ∀ (i : Nat) (hi : i < l.length), (i : Int) ≤ l[i] := by
  rw [List.pairwise_iff_getElem] at hs
  intro i
  induction i with
  | zero => intro hi; exact h0 _ (List.getElem_mem hi)
  | succ i ih => intro hi; have := ih (by omega); have := hs i (i + 1) (by omega) hi (by omega); omega

theorem climb' {l : List Int} (hs : l.Pairwise (· < ·)) (h1 : ∀ z ∈ l, z < l.length) : ∀ (j i : Nat) (hi : i < l.length), i + j + 1 = l.length → l[i] ≤ (i : Int) := by
  have hs' := List.pairwise_iff_getElem.1 hs
  intro j
  induction j with
  | zero => intro i hi e; have := h1 _ (List.getElem_mem hi); omega
  | succ j ih => intro i hi e; have := ih (i + 1) (by omega) (by omega); have := hs' i (i + 1) hi (by omega) (by omega); omega

theorem IsPerm.of_marks {zs : List Int} (h : Marks zs zs.length zs.length) : IsPerm zs := by
  obtain ⟨hr, hn⟩ := h
  rw [List.take_length] at hr hn
  have hperm := sortL_perm zs
  have hn' : (sortL zs).Nodup := hperm.nodup_iff.2 hn
  have hs : (sortL zs).Pairwise (fun x y => x < y) := by
    have h1 := sortL_sorted zs
    rw [List.nodup_iff_pairwise_ne] at hn'
    exact (h1.and hn').imp (fun ⟨a, b⟩ => by omega)
  intro i hi
  have hi' : i < (sortL zs).length := by rw [sortL_len]; exact hi
  have a := climb hs (fun z hz => (hr z (hperm.mem_iff.1 hz)).1) i hi'
  have b := climb' hs (fun z hz => by rw [sortL_len]; exact (hr z (hperm.mem_iff.1 hz)).2) (zs.length - i - 1) i hi' (by rw [sortL_len]; omega)
  rw [List.getElem?_eq_getElem hi']
  congr 1; omega

theorem Marks.succ {zs : List Int} {n i : Nat} (h : Marks zs n i) (hi : i < zs.length) (h0 : 0 ≤ zs.getD i 0) (h1 : zs.getD i 0 < n) (h2 : zs.getD i 0 ∉ zs.take i) : Marks zs n (i + 1) := by
  have e : zs.take (i + 1) = zs.take i ++ [zs.getD i 0] := by
    rw [List.take_add_one]
    simp [List.getD_eq_getElem?_getD, hi]
  refine ⟨fun z hz => ?_, ?_⟩
  · rw [e] at hz
    rcases List.mem_append.1 hz with hz | hz
    · exact h.1 z hz
    · simp at hz; subst hz; exact ⟨by simpa using h0, by simpa using h1⟩
  · rw [e, List.nodup_append]
    exact ⟨h.2, by simp, fun a ha b hb => by simp at hb; subst hb; rintro rfl; exact h2 (by simpa using ha)⟩

theorem Marks.out {zs : List Int} {n i : Nat} (hi : i < zs.length) (h : zs.getD i 0 < 0 ∨ (n : Int) ≤ zs.getD i 0 ∨ zs.getD i 0 ∈ zs.take i) : ¬ Marks zs n (i + 1) := by
  have e : zs.take (i + 1) = zs.take i ++ [zs.getD i 0] := by
    rw [List.take_add_one]
    simp [List.getD_eq_getElem?_getD, hi]
  rintro ⟨a, b⟩
  rw [e] at a b
  have := a (zs.getD i 0) (by simp)
  rcases h with h | h | h
  · omega
  · omega
  · rw [List.nodup_append] at b
    exact b.2.2 _ h _ (by simp) rfl

theorem marks_set {zs : List Int} {seen : List Bool} {i j : Nat} (hi : i < zs.length) (h0 : 0 ≤ zs.getD i 0) (hj : j < seen.length) (hs : seen.getD j false = decide ((j : Int) ∈ zs.take i)) :
    (seen.set (zs.getD i 0).toNat true).getD j false = decide ((j : Int) ∈ zs.take (i + 1)) := by
  have e : zs.take (i + 1) = zs.take i ++ [zs.getD i 0] := by
    rw [List.take_add_one]
    simp [List.getD_eq_getElem?_getD, hi]
  rw [e]
  generalize zs.getD i 0 = z at *
  by_cases e : z.toNat = j
  · subst e
    have : ((z.toNat : Nat) : Int) = z := by omega
    simp [List.getD_eq_getElem?_getD, hj, this]
  · have hne : (j : Int) ≠ z := by omega
    simp only [List.getD_eq_getElem?_getD, List.getElem?_set_ne e] at hs ⊢
    rw [hs]
    simp [hne]

set_option maxRecDepth 100000 in
theorem orderR0 {h : AH} {v : Value} {zs : List Int} {n : Int} (hv : SlOf h v (zs.map (.int .i64))) (hb : zs.length ≤ 17592186043904) :
    ACall Tryz.prog 29 [v, .int .i64 n] h (fun r _ => r = .bool (decide (IsPerm zs ∧ (zs.length : Int) = n))) := by
  refine ACall.wf ⟨_, Tryz.func29, rfl, by kernel_rfl⟩ fun hwf => ?_
  refine ACall.of_wp 46 [.tmp 4] Tryz.func29 rfl (by kernel_rfl) rfl rfl fun a hn hd ha => ?_
  simp (disch := first | omega | decide | (simp only [List.length_cons, List.length_nil] <;> omega)) only [push_cast, ↓reduceIte, Nat.reduceLT, Nat.reduceEqDiff, reduceCtorEq, Nat.reduceAdd, if_true, if_false, true_and, and_true, hn, hd, ha, hv.lenM Tryz.underlying25]
  refine condV_of (fun hne => ?_) (fun heq => ?_)
  · have hf : ¬ (zs.length : Int) = n := by simpa using hne
    simp (disch := first | omega | decide | (simp only [List.length_cons, List.length_nil] <;> omega)) only [push_cast, ↓reduceIte, Nat.reduceLT, Nat.reduceEqDiff, reduceCtorEq, Nat.reduceAdd, if_true, if_false, true_and, and_true, hn, hd, ha, hf, and_false]
  · have hl : n = (zs.length : Int) := by have := heq; simp at this; omega
    subst hl
    simp (disch := first | omega | decide | (simp only [List.length_cons, List.length_nil] <;> omega)) only [push_cast, ↓reduceIte, Nat.reduceLT, Nat.reduceEqDiff, reduceCtorEq, Nat.reduceAdd, if_true, if_false, true_and, and_true, hn, hd, ha, aMakeSlice_at t23 h zs.length (by omega) (by omega)]
    have hs1 := Sub.new hwf (.row (List.replicate zs.length (.bool false)) 4 true)
    refine AW.loopK 13 [6] (fun m a' h' => Sub h h' ∧ ∃ (i : Nat) (seen : List Bool), a'.tm 6 = .int .i64 i ∧ i + m = zs.length ∧ h'.get h.next = some (.row (seen.map .bool) 4 true) ∧ seen.length = zs.length ∧ Marks zs zs.length i ∧
        ∀ j : Nat, j < zs.length → seen.getD j false = decide ((j : Int) ∈ zs.take i)) zs.length ?_ ?_
    · refine ⟨hs1, 0, List.replicate zs.length false, by simp (disch := first | omega | decide | (simp only [List.length_cons, List.length_nil] <;> omega)) only [push_cast, ↓reduceIte, Nat.reduceLT, Nat.reduceEqDiff, reduceCtorEq, Nat.reduceAdd, if_true, if_false, true_and, and_true], by omega, by simp [AH.new_get], by simp, ⟨by simp, by simp⟩, fun j hj => by simp [List.getD_eq_getElem?_getD, hj]⟩
    · rintro m a' h' hk ⟨hs, i, seen, h6, him, hg, hsl, hmk, hseen⟩
      simp (disch := first | omega | decide | (simp only [List.length_cons, List.length_nil] <;> omega)) only [push_cast, ↓reduceIte, Nat.reduceLT, Nat.reduceEqDiff, reduceCtorEq, Nat.reduceAdd, if_true, if_false, true_and, and_true, hk.n, hk.df, hk.tm, hn, hd, ha, h6]
      refine condV_of (fun hlt => ?_) (fun hge => ?_)
      · have hi : i < zs.length := by simpa using hlt
        have hv' := hv.sub hs
        have hst := fun b i' (hi' : i' < seen.length) => stRow sl23 hg one_bool i' b hi'
        simp (disch := first | omega | decide | (simp only [List.length_cons, List.length_nil] <;> omega)) only [push_cast, ↓reduceIte, Nat.reduceLT, Nat.reduceEqDiff, reduceCtorEq, Nat.reduceAdd, if_true, if_false, true_and, and_true, hk.n, hk.df, hk.tm, hn, hd, ha, h6, hv'.idxI sl22, hv'.ldI sl22]
        refine wantM_not (fun h0 => ?_) (fun h0 => ?_)
        · have hz : zs.getD i 0 < 0 := by simpa using h0
          have hf : ¬ IsPerm zs := fun hp => Marks.out (n := zs.length) hi (.inl hz) (hp.marks _)
          simp (disch := first | omega | decide | (simp only [List.length_cons, List.length_nil] <;> omega)) only [push_cast, ↓reduceIte, Nat.reduceLT, Nat.reduceEqDiff, reduceCtorEq, Nat.reduceAdd, if_true, if_false, true_and, and_true, hk.n, hk.df, hk.tm, hn, hd, ha, h6, h0, hf, false_and]
        · have hz0 : 0 ≤ zs.getD i 0 := by simpa using h0
          simp (disch := first | omega | decide | (simp only [List.length_cons, List.length_nil] <;> omega)) only [push_cast, ↓reduceIte, Nat.reduceLT, Nat.reduceEqDiff, reduceCtorEq, Nat.reduceAdd, if_true, if_false, true_and, and_true, hk.n, hk.df, hk.tm, hn, hd, ha, h6, h0, hv'.idxI sl22, hv'.ldI sl22]
          refine wantM_not (fun h1 => ?_) (fun h1 => ?_)
          · have hz : (zs.length : Int) ≤ zs.getD i 0 := by simpa using h1
            have hf : ¬ IsPerm zs := fun hp => Marks.out (n := zs.length) hi (.inr (.inl hz)) (hp.marks _)
            simp (disch := first | omega | decide | (simp only [List.length_cons, List.length_nil] <;> omega)) only [push_cast, ↓reduceIte, Nat.reduceLT, Nat.reduceEqDiff, reduceCtorEq, Nat.reduceAdd, if_true, if_false, true_and, and_true, hk.n, hk.df, hk.tm, hn, hd, ha, h6, h0, h1, hf, false_and]
          · have hz1 : zs.getD i 0 < zs.length := by simpa using h1
            simp (disch := first | omega | decide | (simp only [List.length_cons, List.length_nil] <;> omega)) only [push_cast, ↓reduceIte, Nat.reduceLT, Nat.reduceEqDiff, reduceCtorEq, Nat.reduceAdd, if_true, if_false, true_and, and_true, hk.n, hk.df, hk.tm, hn, hd, ha, h6, h0, h1, hv'.idxI sl22, hv'.ldI sl22, idxL sl23, ldRow sl23 false hg rfl]
            refine condV_of (fun h2 => ?_) (fun h2 => ?_)
            · have hz : zs.getD i 0 ∈ zs.take i := by
                have := hseen (zs.getD i 0).toNat (by omega)
                rw [h2, Int.toNat_of_nonneg hz0] at this
                simpa using this.symm
              have hf : ¬ IsPerm zs := fun hp => Marks.out (n := zs.length) hi (.inr (.inr hz)) (hp.marks _)
              simp (disch := first | omega | decide | (simp only [List.length_cons, List.length_nil] <;> omega)) only [push_cast, ↓reduceIte, Nat.reduceLT, Nat.reduceEqDiff, reduceCtorEq, Nat.reduceAdd, if_true, if_false, true_and, and_true, hk.n, hk.df, hk.tm, hn, hd, ha, h6, h0, h1, h2, hf, false_and]
            · have hz : zs.getD i 0 ∉ zs.take i := by
                have := hseen (zs.getD i 0).toNat (by omega)
                rw [h2, Int.toNat_of_nonneg hz0] at this
                simpa using this.symm
              simp (disch := first | omega | decide | (simp only [List.length_cons, List.length_nil] <;> omega)) only [push_cast, ↓reduceIte, Nat.reduceLT, Nat.reduceEqDiff, reduceCtorEq, Nat.reduceAdd, if_true, if_false, true_and, and_true, hk.n, hk.df, hk.tm, hn, hd, ha, h6, h0, h1, h2, hv'.idxI sl22, hv'.ldI sl22, idxL sl23, Nat.zero_add, hst, wrapI]
              refine ⟨m - 1, by omega, (by simp (disch := decide) only [Kp_put, put_none, hk]), hs.set (hwf _ (Nat.le_refl _)) _, i + 1, seen.set (zs.getD i 0).toNat true, by simp (disch := first | omega | decide | (simp only [List.length_cons, List.length_nil] <;> omega)) only [push_cast, ↓reduceIte, Nat.reduceLT, Nat.reduceEqDiff, reduceCtorEq, Nat.reduceAdd, if_true, if_false, true_and, and_true], by omega, by simp [AH.set_get], by simp [hsl], hmk.succ hi hz0 hz1 hz, fun j hj => ?_⟩
              rw [marks_set hi hz0 (by omega : j < seen.length) (hseen j hj)]
      · have hge : zs.length ≤ i := by simpa using hge
        have e : i = zs.length := by omega
        subst e
        have hp := IsPerm.of_marks hmk
        simp (disch := first | omega | decide | (simp only [List.length_cons, List.length_nil] <;> omega)) only [push_cast, ↓reduceIte, Nat.reduceLT, Nat.reduceEqDiff, reduceCtorEq, Nat.reduceAdd, if_true, if_false, true_and, and_true, hk.n, hk.df, hk.tm, hn, hd, ha, h6, hp, and_self]

theorem order {h : AH} {v : Value} {zs : List Int} {n : Int} (hv : SlOf h v (zs.map (.int .i64))) (hb : zs.length ≤ 17592186043904) :
    ACall Tryz.prog 29 [v, .int .i64 n] h (fun r h' => r = .bool (decide (IsPerm zs ∧ (zs.length : Int) = n)) ∧ h' = h) :=
  ACall.viewed rfl (orderR0 hv.view hb)

set_option maxRecDepth 100000 in
theorem chainR {h : AH} {v : Value} {zs : List Int} {k : Nat} (hv : SlOf h v (zs.map (.int .i64))) (hb : zs.length ≤ 17592186043904) :
    ACall Tryz.prog 65 [v, .int .i64 k] h (fun r h' => r = .int .i64 (chainE zs k) ∧ h' = h) := by
  refine ACall.of_wp 14 [.tmp 4] Tryz.func65 rfl (by kernel_rfl) rfl rfl fun a hn hd ha => ?_
  simp (disch := first | omega | decide | (simp only [List.length_cons, List.length_nil] <;> omega)) only [push_cast, ↓reduceIte, Nat.reduceLT, Nat.reduceEqDiff, reduceCtorEq, Nat.reduceAdd, if_true, if_false, true_and, and_true, hn, hd, ha, hv.lenM Tryz.underlying25]
  refine ACall.mono ?_ (order hv hb)
  rintro _ _ ⟨rfl, rfl⟩
  simp (disch := first | omega | decide | (simp only [List.length_cons, List.length_nil] <;> omega)) only [push_cast, ↓reduceIte, Nat.reduceLT, Nat.reduceEqDiff, reduceCtorEq, Nat.reduceAdd, if_true, if_false, true_and, and_true, hn, hd, ha, hv.lenM Tryz.underlying25]
  refine condV_of (fun h0 => ?_) (fun h0 => ?_)
  · have hp : ¬ IsPerm zs := by simpa using h0
    simp (disch := first | omega | decide | (simp only [List.length_cons, List.length_nil] <;> omega)) only [push_cast, ↓reduceIte, Nat.reduceLT, Nat.reduceEqDiff, reduceCtorEq, Nat.reduceAdd, if_true, if_false, true_and, and_true, hn, hd, ha, chainE, hp]
  · have hp : IsPerm zs := by simpa using h0
    simp (disch := first | omega | decide | (simp only [List.length_cons, List.length_nil] <;> omega)) only [push_cast, ↓reduceIte, Nat.reduceLT, Nat.reduceEqDiff, reduceCtorEq, Nat.reduceAdd, if_true, if_false, true_and, and_true, hn, hd, ha, hv.lenM Tryz.underlying25]
    refine condV_of (fun h1 => ?_) (fun h1 => ?_)
    · have : k ≠ zs.length := fun e => by subst e; simp at h1
      simp (disch := first | omega | decide | (simp only [List.length_cons, List.length_nil] <;> omega)) only [push_cast, ↓reduceIte, Nat.reduceLT, Nat.reduceEqDiff, reduceCtorEq, Nat.reduceAdd, if_true, if_false, true_and, and_true, hn, hd, ha, chainE, hp, this]
    · have : k = zs.length := by have := h1; simp at this; omega
      simp (disch := first | omega | decide | (simp only [List.length_cons, List.length_nil] <;> omega)) only [push_cast, ↓reduceIte, Nat.reduceLT, Nat.reduceEqDiff, reduceCtorEq, Nat.reduceAdd, if_true, if_false, true_and, and_true, hn, hd, ha, chainE, hp, this]


structure Cell where
  name : ByteArray
  pins : Int
  table : Int
  area : Int
  delay : List Int
structure Inst where
  cell : Int
  pins : List Int
structure Flop where
  next : Int
  init : Int
structure Net where
  cells : List Cell
  inputs : Int
  flops : List Flop
  insts : List Inst
  outs : List Int

instance : Inhabited Cell := ⟨⟨ByteArray.empty, 0, 0, 0, []⟩⟩
instance : Inhabited Inst := ⟨⟨0, []⟩⟩
instance : Inhabited Flop := ⟨⟨0, 0⟩⟩

def ints (zs : List Int) : List Value := zs.map (.int .i64)

def cellL : Lay Cell where
  sz := 5
  pos := by decide
  rel h cs c := ∃ dv, cs = [.string c.name, .int .i64 c.pins, .int .u64 c.table, .int .i64 c.area, dv] ∧ SlOf h dv (c.delay.map (.int .i64))
  mono := by rintro h h' cs x hs ⟨dv, rfl, hd⟩; exact ⟨dv, rfl, hd.sub hs⟩
  view := by rintro h cs x ⟨dv, rfl, hd⟩; exact ⟨dv, rfl, hd.view⟩
  len := by rintro h cs x ⟨dv, rfl, hd⟩; rfl
  one := by rintro h cs x ⟨dv, rfl, hd⟩ v hv; simp only [List.mem_cons, List.not_mem_nil, or_false] at hv; rcases hv with rfl | rfl | rfl | rfl | rfl <;> first | rfl | exact hd.one
def instL : Lay Inst where
  sz := 2
  pos := by decide
  rel h cs c := ∃ dv, cs = [.int .i64 c.cell, dv] ∧ SlOf h dv (c.pins.map (.int .i64))
  mono := by rintro h h' cs x hs ⟨dv, rfl, hd⟩; exact ⟨dv, rfl, hd.sub hs⟩
  view := by rintro h cs x ⟨dv, rfl, hd⟩; exact ⟨dv, rfl, hd.view⟩
  len := by rintro h cs x ⟨dv, rfl, hd⟩; rfl
  one := by rintro h cs x ⟨dv, rfl, hd⟩ v hv; simp only [List.mem_cons, List.not_mem_nil, or_false] at hv; rcases hv with rfl | rfl <;> first | rfl | exact hd.one
def flopL : Lay Flop where
  sz := 2
  pos := by decide
  rel h cs c := cs = [.int .i64 c.next, .int .u8 c.init]
  mono := by rintro h h' cs x hs rfl; rfl
  view := by rintro h cs x rfl; rfl
  len := by rintro h cs x rfl; rfl
  one := by rintro h cs x rfl v hv; simp only [List.mem_cons, List.not_mem_nil, or_false] at hv; rcases hv with rfl | rfl <;> rfl

theorem fl3 : Fl Tryz.prog 3 := ⟨_, Tryz.underlying3, rfl⟩
theorem fl2 : Fl Tryz.prog 2 := ⟨_, Tryz.underlying2, rfl⟩
theorem fl4 : Fl Tryz.prog 4 := ⟨_, Tryz.underlying4, rfl⟩
theorem fl5 : Fl Tryz.prog 5 := ⟨_, Tryz.underlying5, rfl⟩
theorem fl9 : Fl Tryz.prog 9 := ⟨_, Tryz.underlying9, rfl⟩
theorem flI : Fl Tryz.prog 25 := ⟨_, Tryz.underlying25, rfl⟩
theorem flL : Fl Tryz.prog 38 := ⟨_, Tryz.underlying38, rfl⟩
theorem flU : Fl Tryz.prog 37 := ⟨_, Tryz.underlying37, rfl⟩
theorem flC : Fl Tryz.prog 22 := ⟨_, Tryz.underlying22, rfl⟩
theorem flF : Fl Tryz.prog 23 := ⟨_, Tryz.underlying23, rfl⟩
theorem flN : Fl Tryz.prog 24 := ⟨_, Tryz.underlying24, rfl⟩
theorem agC : Ag Tryz.prog 40 5 := ⟨⟨_, Tryz.underlying40, rfl⟩, ⟨(Tryz.prog.info? 40).get (by kernel_rfl), by kernel_rfl, by kernel_rfl⟩⟩
theorem agI : Ag Tryz.prog 36 2 := ⟨⟨_, Tryz.underlying36, rfl⟩, ⟨(Tryz.prog.info? 36).get (by kernel_rfl), by kernel_rfl, by kernel_rfl⟩⟩
theorem agF : Ag Tryz.prog 65 2 := ⟨⟨_, Tryz.underlying65, rfl⟩, ⟨(Tryz.prog.info? 65).get (by kernel_rfl), by kernel_rfl, by kernel_rfl⟩⟩
theorem agN : Ag Tryz.prog 27 5 := ⟨⟨_, Tryz.underlying27, rfl⟩, ⟨(Tryz.prog.info? 27).get (by kernel_rfl), by kernel_rfl, by kernel_rfl⟩⟩
theorem foC0 : fOff Tryz.prog 40 0 = some 0 := by kernel_rfl
theorem foC1 : fOff Tryz.prog 40 1 = some 1 := by kernel_rfl
theorem foC2 : fOff Tryz.prog 40 2 = some 2 := by kernel_rfl
theorem foC3 : fOff Tryz.prog 40 3 = some 3 := by kernel_rfl
theorem foC4 : fOff Tryz.prog 40 4 = some 4 := by kernel_rfl
theorem foI0 : fOff Tryz.prog 36 0 = some 0 := by kernel_rfl
theorem foI1 : fOff Tryz.prog 36 1 = some 1 := by kernel_rfl
theorem foF0 : fOff Tryz.prog 65 0 = some 0 := by kernel_rfl
theorem foF1 : fOff Tryz.prog 65 1 = some 1 := by kernel_rfl
theorem foN0 : fOff Tryz.prog 27 0 = some 0 := by kernel_rfl
theorem foN1 : fOff Tryz.prog 27 1 = some 1 := by kernel_rfl
theorem foN2 : fOff Tryz.prog 27 2 = some 2 := by kernel_rfl
theorem foN3 : fOff Tryz.prog 27 3 = some 3 := by kernel_rfl
theorem foN4 : fOff Tryz.prog 27 4 = some 4 := by kernel_rfl
theorem zrC : Zr Tryz.prog 40 [.string ByteArray.empty, .int .i64 0, .int .u64 0, .int .i64 0, .slice none 0 0] := ⟨(Tryz.prog.info? 40).get (by kernel_rfl), .agg #[.string ByteArray.empty, .int .i64 0, .int .u64 0, .int .i64 0, .slice none 0 0], by kernel_rfl, by kernel_rfl, rfl, rfl, rfl⟩
theorem zrI : Zr Tryz.prog 36 [.int .i64 0, .slice none 0 0] := ⟨(Tryz.prog.info? 36).get (by kernel_rfl), .agg #[.int .i64 0, .slice none 0 0], by kernel_rfl, by kernel_rfl, rfl, rfl, rfl⟩
theorem zrF : Zr Tryz.prog 65 [.int .i64 0, .int .u8 0] := ⟨(Tryz.prog.info? 65).get (by kernel_rfl), .agg #[.int .i64 0, .int .u8 0], by kernel_rfl, by kernel_rfl, rfl, rfl, rfl⟩

/-! ### Tables -/

def lim (n : Int) : Int := if (if n < 0 then 0 else n) > 6 then 6 else (if n < 0 then 0 else n)

theorem lim_range (n : Int) : lim n = 0 ∨ lim n = 1 ∨ lim n = 2 ∨ lim n = 3 ∨ lim n = 4 ∨ lim n = 5 ∨ lim n = 6 := by
  unfold lim; omega

theorem limited {h : AH} {n : Int} : ACall Tryz.prog 83 [.int .i64 n] h (fun r h' => r = .int .i64 (lim n) ∧ h' = h) := by
  refine ACall.of_wp 6 [.tmp 2] Tryz.func83 rfl (by kernel_rfl) rfl rfl fun a hn hd ha => ?_
  simp (disch := first | omega | decide | (simp only [List.length_cons, List.length_nil] <;> omega)) only [push_cast, ↓reduceIte, Nat.reduceLT, Nat.reduceEqDiff, reduceCtorEq, Nat.reduceAdd, if_true, if_false, true_and, and_true, hn, hd, ha, aFold, aMax2, aMin2, gt_iff_lt]
  simp only [lim, gt_iff_lt]
  repeat' split
  all_goals first | rfl | omega | (congr 1; omega)

/-- All bits, for n variables. -/
def maskE (n : Int) : Int := 2 ^ (2 ^ (lim n).toNat) - 1

theorem mask {h : AH} {n : Int} : ACall Tryz.prog 84 [.int .i64 n] h (fun r h' => r = .int .u64 (maskE n) ∧ h' = h) := by
  refine ACall.of_wp 8 [.tmp 2] Tryz.func84 rfl (by kernel_rfl) rfl rfl fun a hn hd ha => ?_
  simp (disch := first | omega | decide | (simp only [List.length_cons, List.length_nil] <;> omega)) only [push_cast, ↓reduceIte, Nat.reduceLT, Nat.reduceEqDiff, reduceCtorEq, Nat.reduceAdd, if_true, if_false, true_and, and_true, hn, hd, ha]
  refine ACall.mono ?_ limited
  rintro _ _ ⟨rfl, rfl⟩
  rcases lim_range n with e | e | e | e | e | e | e <;> (simp (disch := first | omega | decide | (simp only [List.length_cons, List.length_nil] <;> omega)) only [push_cast, ↓reduceIte, Nat.reduceLT, Nat.reduceEqDiff, reduceCtorEq, Nat.reduceAdd, if_true, if_false, true_and, and_true, hn, hd, ha, e, shlR, shrR, maskE]; try rfl)

theorem _root_.Nat.lt_of_testBit_false' {t k n : Nat} (ht : t < 2 ^ n) (h : ∀ i, i < n → ¬ i < k → t.testBit i = false) : t < 2 ^ k := by
  apply Nat.lt_pow_two_of_testBit
  intro i hi
  by_cases hn : i < n
  · exact h i hn (by omega)
  · exact Nat.testBit_lt_two_pow (Nat.lt_of_lt_of_le ht (Nat.pow_le_pow_right (by omega) (by omega)))

theorem and_not_mask (t k : Nat) (ht : t < 2 ^ 64) (hk : k ≤ 64) : ((BitVec.ofInt 64 (t : Int) &&& ~~~(BitVec.ofInt 64 ((2 : Int) ^ k - 1))).toNat = 0) ↔ t < 2 ^ k := by
  have h1 : BitVec.ofInt 64 (t : Int) = BitVec.ofNat 64 t := by simp
  have h2 : BitVec.ofInt 64 ((2 : Int) ^ k - 1) = BitVec.ofNat 64 (2 ^ k - 1) := by
    have : ((2 : Int) ^ k - 1) = ((2 ^ k - 1 : Nat) : Int) := by
      have := Nat.one_le_two_pow (n := k)
      rw [Int.natCast_sub this]; simp
    rw [this]; simp
  rw [h1, h2]
  have key : ∀ i, (BitVec.ofNat 64 t &&& ~~~(BitVec.ofNat 64 (2 ^ k - 1))).getLsbD i = (decide (i < 64) && (t.testBit i && !decide (i < k))) := by
    intro i
    simp only [BitVec.getLsbD_and, BitVec.getLsbD_not, BitVec.getLsbD_ofNat, Nat.testBit_two_pow_sub_one]
    by_cases h : i < 64 <;> simp [h]
  constructor
  · intro h
    apply Nat.lt_of_testBit_false' ht
    intro i hi hik
    have h0 : BitVec.ofNat 64 t &&& ~~~(BitVec.ofNat 64 (2 ^ k - 1)) = 0#64 := BitVec.eq_of_toNat_eq (by rw [h]; rfl)
    have := key i
    rw [h0] at this
    simp [hi, hik] at this
    simpa using this
  · intro h
    have : BitVec.ofNat 64 t &&& ~~~(BitVec.ofNat 64 (2 ^ k - 1)) = 0#64 := by
      apply BitVec.eq_of_getLsbD_eq
      intro i hi
      rw [key i]
      by_cases hik : i < k
      · simp [hik]
      · have : t.testBit i = false := Nat.testBit_lt_two_pow (Nat.lt_of_lt_of_le h (Nat.pow_le_pow_right (by omega) (by omega)))
        simp [this]
    rw [this]; rfl

def validE (t n : Int) : Bool := decide (n = lim n) && decide (t ≤ maskE n)

theorem maskE_and {t n : Int} (h0 : 0 ≤ t) (h1 : t < 18446744073709551616) : (IntKind.u64.wrap ((BitVec.ofInt 64 t &&& ~~~BitVec.ofInt 64 (maskE n)).toNat : Int) == 0) = decide (t ≤ maskE n) := by
  obtain ⟨m, rfl⟩ : ∃ m : Nat, t = m := ⟨t.toNat, by omega⟩
  have hk : 2 ^ (lim n).toNat ≤ 64 := by rcases lim_range n with e | e | e | e | e | e | e <;> rw [e] <;> decide
  have := and_not_mask m (2 ^ (lim n).toNat) (by omega) hk
  unfold maskE
  generalize hx : (BitVec.ofInt 64 (m : Int) &&& ~~~BitVec.ofInt 64 ((2 : Int) ^ 2 ^ (lim n).toNat - 1)) = x at this ⊢
  have hlt := x.isLt
  have hw : IntKind.u64.wrap (x.toNat : Int) = x.toNat := by
    unfold IntKind.wrap
    simp [IntKind.bits, IntKind.signed]
    omega
  rw [hw]
  have hp : ((m : Int) ≤ 2 ^ 2 ^ (lim n).toNat - 1) ↔ m < 2 ^ 2 ^ (lim n).toNat := by
    have : ((2 : Int) ^ 2 ^ (lim n).toNat) = ((2 ^ 2 ^ (lim n).toNat : Nat) : Int) := by simp
    rw [this]; omega
  by_cases hm : m < 2 ^ 2 ^ (lim n).toNat
  · have := this.2 hm
    simp [hp.2 hm, this]
  · have h2 : ¬ x.toNat = 0 := fun e => hm (this.1 e)
    have h3 : ¬ ((m : Int) ≤ 2 ^ 2 ^ (lim n).toNat - 1) := fun e => hm (hp.1 e)
    rw [decide_eq_false h3]
    simp; omega

theorem valid {h : AH} {t n : Int} (h0 : 0 ≤ t) (h1 : t < 18446744073709551616) : ACall Tryz.prog 62 [.int .u64 t, .int .i64 n] h (fun r h' => r = .bool (validE t n) ∧ h' = h) := by
  refine ACall.of_wp 16 [.tmp 4] Tryz.func62 rfl (by kernel_rfl) rfl rfl fun a hn hd ha => ?_
  simp (disch := first | omega | decide | (simp only [List.length_cons, List.length_nil] <;> omega)) only [push_cast, ↓reduceIte, Nat.reduceLT, Nat.reduceEqDiff, reduceCtorEq, Nat.reduceAdd, if_true, if_false, true_and, and_true, hn, hd, ha]
  refine ACall.mono ?_ limited
  rintro _ _ ⟨rfl, rfl⟩
  simp (disch := first | omega | decide | (simp only [List.length_cons, List.length_nil] <;> omega)) only [push_cast, ↓reduceIte, Nat.reduceLT, Nat.reduceEqDiff, reduceCtorEq, Nat.reduceAdd, if_true, if_false, true_and, and_true, hn, hd, ha]
  refine wantM_of (fun e => ?_) (fun e => ?_)
  · simp (disch := first | omega | decide | (simp only [List.length_cons, List.length_nil] <;> omega)) only [push_cast, ↓reduceIte, Nat.reduceLT, Nat.reduceEqDiff, reduceCtorEq, Nat.reduceAdd, if_true, if_false, true_and, and_true, hn, hd, ha, e]
    refine ACall.mono ?_ mask
    rintro _ _ ⟨rfl, rfl⟩
    have e' : n = lim n := by simpa using e
    simp (disch := first | omega | decide | (simp only [List.length_cons, List.length_nil] <;> omega)) only [push_cast, ↓reduceIte, Nat.reduceLT, Nat.reduceEqDiff, reduceCtorEq, Nat.reduceAdd, if_true, if_false, true_and, and_true, hn, hd, ha, e, IntKind.bits, validE, decide_eq_true e', Bool.true_and]
    exact congrArg Value.bool (maskE_and h0 h1)
  · have e' : ¬ n = lim n := by simpa using e
    simp (disch := first | omega | decide | (simp only [List.length_cons, List.length_nil] <;> omega)) only [push_cast, ↓reduceIte, Nat.reduceLT, Nat.reduceEqDiff, reduceCtorEq, Nat.reduceAdd, if_true, if_false, true_and, and_true, hn, hd, ha, e, validE, decide_eq_false e', Bool.false_and]

/-! ### Names -/

def letterE (c : Int) : Bool := (decide (97 ≤ c) && decide (c ≤ 122)) || (decide (65 ≤ c) && decide (c ≤ 90))
def digitE (c : Int) : Bool := decide (48 ≤ c) && decide (c ≤ 57)
def nameGo : Bool → List Int → Bool
  | _, [] => true
  | first, c :: cs => (letterE c || (!first && (decide (c = 95) || digitE c))) && nameGo false cs
def nameE (s : ByteArray) : Bool := decide (s.size ≠ 0) && decide (s.size ≤ 16) && nameGo true (bytesI s)

theorem sl5 : Sl1 Tryz.prog 154 5 := ⟨Tryz.underlying154, ⟨(Tryz.prog.info? 5).get (by kernel_rfl), by kernel_rfl, by kernel_rfl⟩, ⟨_, Tryz.underlying5, rfl⟩⟩

theorem toList_len (s : ByteArray) : s.toList.length = s.size := by
  rw [ByteArray.toList_eq, Array.length_toList]; rfl

theorem toList_empty (s : ByteArray) : (s.toList == (⟨#[]⟩ : ByteArray).toList) = decide (s.size = 0) := by
  have e : (⟨#[]⟩ : ByteArray).toList = [] := List.eq_nil_of_length_eq_zero (toList_len _)
  rw [e]
  have := toList_len s
  cases h : s.toList with
  | nil => rw [h, List.length_nil] at this; simp [← this]
  | cons a l =>
    rw [h, List.length_cons] at this
    have h0 : s.size ≠ 0 := by omega
    simp [h0]

theorem lenStr {t : TypeId} (ht : Tryz.prog.underlying t = some .string) (s : ByteArray) (h : AH) : aLen Tryz.prog t (.string s) h = some (.int .i64 s.size) := by
  simp only [aLen, ht]

set_option maxHeartbeats 1000000 in
theorem validNameR {h : AH} {s : ByteArray} : ACall Tryz.prog 101 [.string s] h (fun r _ => r = .bool (nameE s)) := by
  refine ACall.wf ⟨_, Tryz.func101, rfl, by kernel_rfl⟩ fun hwf => ?_
  refine ACall.of_wp 49 [.tmp 2] Tryz.func101 rfl (by kernel_rfl) rfl rfl fun a hn hd ha => ?_
  simp (disch := first | omega | decide | (simp only [List.length_cons, List.length_nil] <;> omega)) only [push_cast, ↓reduceIte, Nat.reduceLT, Nat.reduceEqDiff, reduceCtorEq, Nat.reduceAdd, if_true, if_false, true_and, and_true, hn, hd, ha, strBin, toList_empty]
  refine wantM_not (fun h0 => ?_) (fun h0 => ?_)
  · have e : s.size = 0 := by simpa using h0
    simp (disch := first | omega | decide | (simp only [List.length_cons, List.length_nil] <;> omega)) only [push_cast, ↓reduceIte, Nat.reduceLT, Nat.reduceEqDiff, reduceCtorEq, Nat.reduceAdd, if_true, if_false, true_and, and_true, decide_eq_true, decide_eq_false, hn, hd, ha, e, nameE, ne_eq, not_true_eq_false, Bool.false_and]
  simp (disch := first | omega | decide | (simp only [List.length_cons, List.length_nil] <;> omega)) only [push_cast, ↓reduceIte, Nat.reduceLT, Nat.reduceEqDiff, reduceCtorEq, Nat.reduceAdd, if_true, if_false, true_and, and_true, hn, hd, ha, h0, lenStr Tryz.underlying9]
  have h0' : s.size ≠ 0 := by simpa using h0
  refine condV_of (fun h1 => ?_) (fun h1 => ?_)
  · have e : ¬ s.size ≤ 16 := by simp at h1; omega
    simp (disch := first | omega | decide | (simp only [List.length_cons, List.length_nil] <;> omega)) only [push_cast, ↓reduceIte, Nat.reduceLT, Nat.reduceEqDiff, reduceCtorEq, Nat.reduceAdd, if_true, if_false, true_and, and_true, decide_eq_true, decide_eq_false, hn, hd, ha, nameE, Bool.and_false, Bool.false_and]
  have h1' : s.size ≤ 16 := by simp at h1; omega
  simp (disch := first | omega | decide | (simp only [List.length_cons, List.length_nil] <;> omega)) only [push_cast, ↓reduceIte, Nat.reduceLT, Nat.reduceEqDiff, reduceCtorEq, Nat.reduceAdd, if_true, if_false, true_and, and_true, hn, hd, ha, aBytesAt Tryz.underlying9 Tryz.underlying154 Tryz.underlying5, lenS Tryz.underlying154]
  have hN : nameE s = nameGo true (bytesI s) := by simp only [nameE, ne_eq, h0', h1', not_false_eq_true, decide_true, Bool.true_and]
  have hsz := bytesI_len s
  refine AW.loopN 16 [3, 4, 15] (fun m a' h' => h' = h.new (.row ((bytesI s).map (.int .u8)) 5 false) ∧ ∃ i : Nat, a'.tm 15 = .int .i64 i ∧ i + m = s.size ∧ nameGo (decide (i = 0)) ((bytesI s).drop i) = nameE s) s.size ?_ ?_
  · refine ⟨rfl, 0, by simp (disch := first | omega | decide | (simp only [List.length_cons, List.length_nil] <;> omega)) only [push_cast, ↓reduceIte, Nat.reduceLT, Nat.reduceEqDiff, reduceCtorEq, Nat.reduceAdd, if_true, if_false, true_and, and_true], by omega, ?_⟩
    rw [hN]; rfl
  · rintro a1 m a' h' hk kn kd kt ⟨rfl, i, h15, him, hgo⟩
    simp (disch := first | omega | decide | (simp only [List.length_cons, List.length_nil] <;> omega)) only [push_cast, ↓reduceIte, Nat.reduceLT, Nat.reduceEqDiff, reduceCtorEq, Nat.reduceAdd, if_true, if_false, true_and, and_true, kn, kd, kt, hn, hd, ha, h15]
    refine condV_of (fun hlt => ?_) (fun hge => ?_)
    · have hi : i < s.size := by have := hlt; simp at this; omega
      have hrow : (h.new (.row ((bytesI s).map (.int .u8)) 5 false)).get h.next = some (.row ((bytesI s).map (.int .u8)) 5 false) := by simp [AH.new_get]
      have hdrop : (bytesI s).drop i = (bytesI s).getD i 0 :: (bytesI s).drop (i + 1) := by
        rw [List.drop_eq_getElem_cons (by omega)]
        simp [List.getD_eq_getElem?_getD, hsz, hi]
      have hD : decide (i + 1 = 0) = false := by simp
      rw [hdrop] at hgo
      simp (disch := first | omega | decide | (simp only [List.length_cons, List.length_nil] <;> omega)) only [push_cast, ↓reduceIte, Nat.reduceLT, Nat.reduceEqDiff, reduceCtorEq, Nat.reduceAdd, if_true, if_false, true_and, and_true, kn, kd, kt, hn, hd, ha, h15, idxL sl5, ldRow sl5 0 hrow rfl]
      generalize (bytesI s).getD i 0 = c at *
      have hi0 : decide (i = 0) = true ↔ i = 0 := by simp
      by_cases good : (97 ≤ c ∧ c ≤ 122) ∨ (65 ≤ c ∧ c ≤ 90) ∨ (0 < i ∧ c = 95) ∨ (0 < i ∧ 48 ≤ c ∧ c ≤ 57)
      · have hnext : nameGo (decide (i + 1 = 0)) ((bytesI s).drop (i + 1)) = nameE s := by
          rw [hD, ← hgo]
          simp only [nameGo, letterE, digitE]
          rcases good with ⟨a1, a2⟩ | ⟨a1, a2⟩ | ⟨a1, a2⟩ | ⟨a1, a2, a3⟩
          · simp [a1, a2]
          · simp [a1, a2]
          · have : i ≠ 0 := by omega
            simp [a2, this]
          · have : i ≠ 0 := by omega
            simp [a2, a3, this]
        rcases good with ⟨a1, a2⟩ | ⟨a1, a2⟩ | ⟨a1, a2⟩ | ⟨a1, a2, a3⟩ <;> simp (disch := first | omega | decide | (simp only [List.length_cons, List.length_nil] <;> omega)) only [push_cast, ↓reduceIte, Nat.reduceLT, Nat.reduceEqDiff, reduceCtorEq, Nat.reduceAdd, if_true, if_false, true_and, and_true, decide_eq_true, decide_eq_false, ge_iff_le, gt_iff_lt, kn, kd, kt, hn, hd, ha, h15, wrapI]
        all_goals exact ⟨m - 1, by omega, (by simp (disch := decide) only [Kp_put, put_none, hk]), rfl, i + 1, by simp (disch := first | omega | decide | (simp only [List.length_cons, List.length_nil] <;> omega)) only [push_cast, ↓reduceIte, Nat.reduceLT, Nat.reduceEqDiff, reduceCtorEq, Nat.reduceAdd, if_true, if_false, true_and, and_true], by omega, hnext⟩
      · have hb : nameE s = false := by
          rw [← hgo]
          simp only [nameGo, letterE, digitE, Bool.and_eq_false_iff, Bool.or_eq_false_iff, decide_eq_false_iff_not]
          left
          refine ⟨⟨by omega, by omega⟩, ?_⟩
          by_cases h0 : i = 0
          · left; simp [h0]
          · right; omega
        have bad : c < 48 ∨ (i = 0 ∧ 48 ≤ c ∧ c ≤ 57) ∨ (57 < c ∧ c < 65) ∨ (90 < c ∧ c < 95) ∨ (i = 0 ∧ c = 95) ∨ c = 96 ∨ 122 < c := by omega
        rcases Nat.eq_zero_or_pos i with i0 | i0 <;> rcases bad with a1 | ⟨a1, a2, a3⟩ | ⟨a1, a2⟩ | ⟨a1, a2⟩ | ⟨a1, a2⟩ | a1 | a1 <;> first | (exfalso; omega) | simp (disch := first | omega | decide | (simp only [List.length_cons, List.length_nil] <;> omega)) only [push_cast, ↓reduceIte, Nat.reduceLT, Nat.reduceEqDiff, reduceCtorEq, Nat.reduceAdd, if_true, if_false, true_and, and_true, decide_eq_true, decide_eq_false, ge_iff_le, gt_iff_lt, kn, kd, kt, hn, hd, ha, h15, hb]
    · have hi : i = s.size := by have := hge; simp at this; omega
      subst hi
      rw [List.drop_of_length_le (by omega)] at hgo
      simp (disch := first | omega | decide | (simp only [List.length_cons, List.length_nil] <;> omega)) only [push_cast, ↓reduceIte, Nat.reduceLT, Nat.reduceEqDiff, reduceCtorEq, Nat.reduceAdd, if_true, if_false, true_and, and_true, kn, kd, kt, hn, hd, ha, ← hgo, nameGo]

theorem validName {h : AH} {s : ByteArray} : ACall Tryz.prog 101 [.string s] h (fun r h' => r = .bool (nameE s) ∧ h' = h) :=
  ACall.viewed rfl validNameR


/-! ### Looking for an element -/

def Asks (f : Value) (h : AH) (p : Int → Bool) (zs : List Int) : Prop := ∀ x ∈ zs, callR Tryz.prog f [.int .i64 x] h (fun r h' => r = .bool (p x) ∧ h' = h)

theorem any_drop {α : Type} {p : α → Bool} {zs : List α} {i : Nat} (hi : i < zs.length) (d : α) : (zs.drop i).any p = (p (zs.getD i d) || (zs.drop (i + 1)).any p) := by
  rw [List.drop_eq_getElem_cons hi, List.any_cons]
  simp [List.getD_eq_getElem?_getD, hi]

theorem getD_mem {α : Type} {zs : List α} {i : Nat} (hi : i < zs.length) (d : α) : zs.getD i d ∈ zs := by
  simp [List.getD_eq_getElem?_getD, hi]

def IdxPost {α : Type} (p : α → Bool) (zs : List α) (h : AH) (r : Value) (h' : AH) : Prop := h' = h ∧ ∃ k : Int, r = .int .i64 k ∧ decide (k ≥ 0) = zs.any p

theorem slL : Sl1 Tryz.prog 38 2 := ⟨Tryz.underlying38, ⟨(Tryz.prog.info? 2).get (by kernel_rfl), by kernel_rfl, by kernel_rfl⟩, ⟨_, Tryz.underlying2, rfl⟩⟩

theorem indexL {h : AH} {v f : Value} {zs : List Int} {p : Int → Bool} (hv : SlOf h v (zs.map (.int .i64))) (hf : Asks f h p zs) (hb : zs.length ≤ 4611686018427387904) :
    ACall Tryz.prog 124 [v, f] h (IdxPost p zs h) := by
  refine ACall.of_wp 19 [.tmp 4] Tryz.func124 rfl (by kernel_rfl) rfl rfl fun a hn hd ha => ?_
  simp (disch := first | omega | decide | (simp only [List.length_cons, List.length_nil] <;> omega)) only [push_cast, ↓reduceIte, Nat.reduceLT, Nat.reduceEqDiff, reduceCtorEq, Nat.reduceAdd, if_true, if_false, true_and, and_true, hn, hd, ha, hv.lenA Tryz.underlying38]
  refine AW.loopN 8 [4, 5, 8] (fun m a' h' => h' = h ∧ ∃ i : Nat, a'.tm 8 = .int .i64 i ∧ i + m = zs.length ∧ a'.tm 7 = .int .i64 zs.length ∧ (zs.drop i).any p = zs.any p) zs.length ?_ ?_
  · exact ⟨rfl, 0, by simp (disch := first | omega | decide | (simp only [List.length_cons, List.length_nil] <;> omega)) only [push_cast, ↓reduceIte, Nat.reduceLT, Nat.reduceEqDiff, reduceCtorEq, Nat.reduceAdd, if_true, if_false, true_and, and_true], by omega, by simp (disch := first | omega | decide | (simp only [List.length_cons, List.length_nil] <;> omega)) only [push_cast, ↓reduceIte, Nat.reduceLT, Nat.reduceEqDiff, reduceCtorEq, Nat.reduceAdd, if_true, if_false, true_and, and_true], rfl⟩
  · rintro a1 m a' h' hk kn kd kt ⟨rfl, i, h8, him, h7, hany⟩
    simp (disch := first | omega | decide | (simp only [List.length_cons, List.length_nil] <;> omega)) only [push_cast, ↓reduceIte, Nat.reduceLT, Nat.reduceEqDiff, reduceCtorEq, Nat.reduceAdd, if_true, if_false, true_and, and_true, kn, kd, kt, hn, hd, ha, h8, h7]
    refine condV_of (fun hlt => ?_) (fun hge => ?_)
    · have hi : i < zs.length := by have := hlt; simp at this; omega
      simp (disch := first | omega | decide | (simp only [List.length_cons, List.length_nil] <;> omega)) only [push_cast, ↓reduceIte, Nat.reduceLT, Nat.reduceEqDiff, reduceCtorEq, Nat.reduceAdd, if_true, if_false, true_and, and_true, kn, kd, kt, hn, hd, ha, h8, h7, hv.idxI slL, hv.ldI slL]
      refine callR.mono ?_ (hf _ (getD_mem hi 0))
      rintro _ _ ⟨rfl, rfl⟩
      simp (disch := first | omega | decide | (simp only [List.length_cons, List.length_nil] <;> omega)) only [push_cast, ↓reduceIte, Nat.reduceLT, Nat.reduceEqDiff, reduceCtorEq, Nat.reduceAdd, if_true, if_false, true_and, and_true, kn, kd, kt, hn, hd, ha, h8, h7]
      rw [any_drop hi 0] at hany
      refine condV_of (fun hp => ?_) (fun hp => ?_)
      · simp (disch := first | omega | decide | (simp only [List.length_cons, List.length_nil] <;> omega)) only [push_cast, ↓reduceIte, Nat.reduceLT, Nat.reduceEqDiff, reduceCtorEq, Nat.reduceAdd, if_true, if_false, true_and, and_true, kn, kd, kt, hn, hd, ha, h8, h7]
        exact ⟨rfl, i, rfl, by rw [← hany, hp]; simp⟩
      · simp (disch := first | omega | decide | (simp only [List.length_cons, List.length_nil] <;> omega)) only [push_cast, ↓reduceIte, Nat.reduceLT, Nat.reduceEqDiff, reduceCtorEq, Nat.reduceAdd, if_true, if_false, true_and, and_true, kn, kd, kt, hn, hd, ha, h8, h7, wrapI]
        exact ⟨m - 1, by omega, (by simp (disch := decide) only [Kp_put, put_none, hk]), rfl, i + 1, by simp (disch := first | omega | decide | (simp only [List.length_cons, List.length_nil] <;> omega)) only [push_cast, ↓reduceIte, Nat.reduceLT, Nat.reduceEqDiff, reduceCtorEq, Nat.reduceAdd, if_true, if_false, true_and, and_true], by omega, by simp (disch := first | omega | decide | (simp only [List.length_cons, List.length_nil] <;> omega)) only [push_cast, ↓reduceIte, Nat.reduceLT, Nat.reduceEqDiff, reduceCtorEq, Nat.reduceAdd, if_true, if_false, true_and, and_true, h7], by rw [← hany, hp]; simp⟩
    · have hi : zs.length ≤ i := by have := hge; simp at this; omega
      rw [List.drop_of_length_le hi] at hany
      simp (disch := first | omega | decide | (simp only [List.length_cons, List.length_nil] <;> omega)) only [push_cast, ↓reduceIte, Nat.reduceLT, Nat.reduceEqDiff, reduceCtorEq, Nat.reduceAdd, if_true, if_false, true_and, and_true, kn, kd, kt, hn, hd, ha, h8, h7]
      exact ⟨rfl, -1, rfl, by rw [← hany]; rfl⟩

theorem containsL {h : AH} {v f : Value} {zs : List Int} {p : Int → Bool} (hv : SlOf h v (zs.map (.int .i64))) (hf : Asks f h p zs) (hb : zs.length ≤ 4611686018427387904) :
    ACall Tryz.prog 102 [v, f] h (fun r h' => r = .bool (zs.any p) ∧ h' = h) := by
  refine ACall.of_wp 9 [.tmp 4] Tryz.func102 rfl (by kernel_rfl) rfl rfl fun a hn hd ha => ?_
  simp (disch := first | omega | decide | (simp only [List.length_cons, List.length_nil] <;> omega)) only [push_cast, ↓reduceIte, Nat.reduceLT, Nat.reduceEqDiff, reduceCtorEq, Nat.reduceAdd, if_true, if_false, true_and, and_true, hn, hd, ha]
  refine ACall.mono ?_ (indexL hv hf hb)
  rintro _ _ ⟨rfl, k, rfl, hk⟩
  simp (disch := first | omega | decide | (simp only [List.length_cons, List.length_nil] <;> omega)) only [push_cast, ↓reduceIte, Nat.reduceLT, Nat.reduceEqDiff, reduceCtorEq, Nat.reduceAdd, if_true, if_false, true_and, and_true, hn, hd, ha, hk]

theorem indexI {h : AH} {v f : Value} {zs : List Int} {p : Int → Bool} (hv : SlOf h v (zs.map (.int .i64))) (hf : Asks f h p zs) (hb : zs.length ≤ 4611686018427387904) :
    ACall Tryz.prog 117 [v, f] h (IdxPost p zs h) := by
  refine ACall.of_wp 19 [.tmp 4] Tryz.func117 rfl (by kernel_rfl) rfl rfl fun a hn hd ha => ?_
  simp (disch := first | omega | decide | (simp only [List.length_cons, List.length_nil] <;> omega)) only [push_cast, ↓reduceIte, Nat.reduceLT, Nat.reduceEqDiff, reduceCtorEq, Nat.reduceAdd, if_true, if_false, true_and, and_true, hn, hd, ha, hv.lenA Tryz.underlying25]
  refine AW.loopN 8 [4, 5, 8] (fun m a' h' => h' = h ∧ ∃ i : Nat, a'.tm 8 = .int .i64 i ∧ i + m = zs.length ∧ a'.tm 7 = .int .i64 zs.length ∧ (zs.drop i).any p = zs.any p) zs.length ?_ ?_
  · exact ⟨rfl, 0, by simp (disch := first | omega | decide | (simp only [List.length_cons, List.length_nil] <;> omega)) only [push_cast, ↓reduceIte, Nat.reduceLT, Nat.reduceEqDiff, reduceCtorEq, Nat.reduceAdd, if_true, if_false, true_and, and_true], by omega, by simp (disch := first | omega | decide | (simp only [List.length_cons, List.length_nil] <;> omega)) only [push_cast, ↓reduceIte, Nat.reduceLT, Nat.reduceEqDiff, reduceCtorEq, Nat.reduceAdd, if_true, if_false, true_and, and_true], rfl⟩
  · rintro a1 m a' h' hk kn kd kt ⟨rfl, i, h8, him, h7, hany⟩
    simp (disch := first | omega | decide | (simp only [List.length_cons, List.length_nil] <;> omega)) only [push_cast, ↓reduceIte, Nat.reduceLT, Nat.reduceEqDiff, reduceCtorEq, Nat.reduceAdd, if_true, if_false, true_and, and_true, kn, kd, kt, hn, hd, ha, h8, h7]
    refine condV_of (fun hlt => ?_) (fun hge => ?_)
    · have hi : i < zs.length := by have := hlt; simp at this; omega
      simp (disch := first | omega | decide | (simp only [List.length_cons, List.length_nil] <;> omega)) only [push_cast, ↓reduceIte, Nat.reduceLT, Nat.reduceEqDiff, reduceCtorEq, Nat.reduceAdd, if_true, if_false, true_and, and_true, kn, kd, kt, hn, hd, ha, h8, h7, hv.idxI sl22, hv.ldI sl22]
      refine callR.mono ?_ (hf _ (getD_mem hi 0))
      rintro _ _ ⟨rfl, rfl⟩
      simp (disch := first | omega | decide | (simp only [List.length_cons, List.length_nil] <;> omega)) only [push_cast, ↓reduceIte, Nat.reduceLT, Nat.reduceEqDiff, reduceCtorEq, Nat.reduceAdd, if_true, if_false, true_and, and_true, kn, kd, kt, hn, hd, ha, h8, h7]
      rw [any_drop hi 0] at hany
      refine condV_of (fun hp => ?_) (fun hp => ?_)
      · simp (disch := first | omega | decide | (simp only [List.length_cons, List.length_nil] <;> omega)) only [push_cast, ↓reduceIte, Nat.reduceLT, Nat.reduceEqDiff, reduceCtorEq, Nat.reduceAdd, if_true, if_false, true_and, and_true, kn, kd, kt, hn, hd, ha, h8, h7]
        exact ⟨rfl, i, rfl, by rw [← hany, hp]; simp⟩
      · simp (disch := first | omega | decide | (simp only [List.length_cons, List.length_nil] <;> omega)) only [push_cast, ↓reduceIte, Nat.reduceLT, Nat.reduceEqDiff, reduceCtorEq, Nat.reduceAdd, if_true, if_false, true_and, and_true, kn, kd, kt, hn, hd, ha, h8, h7, wrapI]
        exact ⟨m - 1, by omega, (by simp (disch := decide) only [Kp_put, put_none, hk]), rfl, i + 1, by simp (disch := first | omega | decide | (simp only [List.length_cons, List.length_nil] <;> omega)) only [push_cast, ↓reduceIte, Nat.reduceLT, Nat.reduceEqDiff, reduceCtorEq, Nat.reduceAdd, if_true, if_false, true_and, and_true], by omega, by simp (disch := first | omega | decide | (simp only [List.length_cons, List.length_nil] <;> omega)) only [push_cast, ↓reduceIte, Nat.reduceLT, Nat.reduceEqDiff, reduceCtorEq, Nat.reduceAdd, if_true, if_false, true_and, and_true, h7], by rw [← hany, hp]; simp⟩
    · have hi : zs.length ≤ i := by have := hge; simp at this; omega
      rw [List.drop_of_length_le hi] at hany
      simp (disch := first | omega | decide | (simp only [List.length_cons, List.length_nil] <;> omega)) only [push_cast, ↓reduceIte, Nat.reduceLT, Nat.reduceEqDiff, reduceCtorEq, Nat.reduceAdd, if_true, if_false, true_and, and_true, kn, kd, kt, hn, hd, ha, h8, h7]
      exact ⟨rfl, -1, rfl, by rw [← hany]; rfl⟩

theorem containsI {h : AH} {v f : Value} {zs : List Int} {p : Int → Bool} (hv : SlOf h v (zs.map (.int .i64))) (hf : Asks f h p zs) (hb : zs.length ≤ 4611686018427387904) :
    ACall Tryz.prog 92 [v, f] h (fun r h' => r = .bool (zs.any p) ∧ h' = h) := by
  refine ACall.of_wp 9 [.tmp 4] Tryz.func92 rfl (by kernel_rfl) rfl rfl fun a hn hd ha => ?_
  simp (disch := first | omega | decide | (simp only [List.length_cons, List.length_nil] <;> omega)) only [push_cast, ↓reduceIte, Nat.reduceLT, Nat.reduceEqDiff, reduceCtorEq, Nat.reduceAdd, if_true, if_false, true_and, and_true, hn, hd, ha]
  refine ACall.mono ?_ (indexI hv hf hb)
  rintro _ _ ⟨rfl, k, rfl, hk⟩
  simp (disch := first | omega | decide | (simp only [List.length_cons, List.length_nil] <;> omega)) only [push_cast, ↓reduceIte, Nat.reduceLT, Nat.reduceEqDiff, reduceCtorEq, Nat.reduceAdd, if_true, if_false, true_and, and_true, hn, hd, ha, hk]

/-! ### A cell by itself -/

def delayBad (d : Int) : Bool := decide (d < 0) || decide (d > 1000000)

theorem check1 {h : AH} {x : Int} : ACall Tryz.prog 103 [.int .i64 x] h (fun r h' => r = .bool (delayBad x) ∧ h' = h) := by
  refine ACall.of_wp 9 [.tmp 2] Tryz.func103 rfl (by kernel_rfl) rfl rfl fun a hn hd ha => ?_
  simp (disch := first | omega | decide | (simp only [List.length_cons, List.length_nil] <;> omega)) only [push_cast, ↓reduceIte, Nat.reduceLT, Nat.reduceEqDiff, reduceCtorEq, Nat.reduceAdd, if_true, if_false, true_and, and_true, hn, hd, ha]
  refine wantM_not (fun h0 => ?_) (fun h0 => ?_)
  · simp (disch := first | omega | decide | (simp only [List.length_cons, List.length_nil] <;> omega)) only [push_cast, ↓reduceIte, Nat.reduceLT, Nat.reduceEqDiff, reduceCtorEq, Nat.reduceAdd, if_true, if_false, true_and, and_true, hn, hd, ha, h0, delayBad, Bool.true_or]
  · simp (disch := first | omega | decide | (simp only [List.length_cons, List.length_nil] <;> omega)) only [push_cast, ↓reduceIte, Nat.reduceLT, Nat.reduceEqDiff, reduceCtorEq, Nat.reduceAdd, if_true, if_false, true_and, and_true, hn, hd, ha, h0, delayBad, Bool.false_or]

def checkE (c : Cell) : Int :=
  if nameE c.name = false then 3
  else if (decide (c.pins < 1) || (decide (c.pins > 4) || (!validE c.table c.pins || (decide (c.area < 1) || decide (c.area > 1000000))))) = true then 1
  else if (c.delay.length : Int) ≠ c.pins then 12
  else if c.delay.any delayBad = true then 1
  else 0

def cellV (c : Cell) (dv : Value) : Value := .agg #[.string c.name, .int .i64 c.pins, .int .u64 c.table, .int .i64 c.area, dv]

theorem checkR {h : AH} {c : Cell} {dv : Value} (hd : SlOf h dv (c.delay.map (.int .i64))) (h0 : 0 ≤ c.table) (h1 : c.table < 18446744073709551616) (hb : c.delay.length ≤ 4611686018427387904) :
    ACall Tryz.prog 80 [cellV c dv] h (fun r _ => r = .int .i64 (checkE c)) := by
  refine ACall.wf ⟨_, Tryz.func80, rfl, by kernel_rfl⟩ fun hwf => ?_
  refine ACall.of_wp 46 [.tmp 2] Tryz.func80 rfl (by kernel_rfl) rfl rfl fun a hn hdf ha => ?_
  have hbox := boxA 40 h [.string c.name, .int .i64 c.pins, .int .u64 c.table, .int .i64 c.area, dv] (by simp only [List.all_cons, List.all_nil, hd.one]; rfl)
  have hB : (h.new (.row [.string c.name, .int .i64 c.pins, .int .u64 c.table, .int .i64 c.area, dv] 40 true)).get h.next = some (.row [.string c.name, .int .i64 c.pins, .int .u64 c.table, .int .i64 c.area, dv] 40 true) := by simp [AH.new_get]
  have hs : Sub h (h.new (.row [.string c.name, .int .i64 c.pins, .int .u64 c.table, .int .i64 c.area, dv] 40 true)) := Sub.new hwf _
  simp (disch := first | omega | decide | (simp only [List.length_cons, List.length_nil] <;> omega)) only [push_cast, ↓reduceIte, Nat.reduceLT, Nat.reduceEqDiff, reduceCtorEq, Nat.reduceAdd, if_true, if_false, true_and, and_true, hn, hdf, ha, cellV, hbox, faL foC0, ldN fl9, List.length_cons, List.length_nil]
  generalize h.new (.row [.string c.name, .int .i64 c.pins, .int .u64 c.table, .int .i64 c.area, dv] 40 true) = h1 at hB hs ⊢
  have hl2 := ldL hB rfl fl2
  have hl3 := ldL hB rfl fl3
  have hlU := ldL hB rfl flU
  have hlL := ldL hB rfl flL
  simp only [List.length_cons, List.length_nil] at hl2 hl3 hlU hlL
  refine ACall.mono ?_ validName
  rintro _ _ ⟨rfl, rfl⟩
  simp (disch := first | omega | decide | (simp only [List.length_cons, List.length_nil] <;> omega)) only [push_cast, ↓reduceIte, Nat.reduceLT, Nat.reduceEqDiff, reduceCtorEq, Nat.reduceAdd, if_true, if_false, true_and, and_true, hn, hdf, ha]
  refine condV_of (fun e0 => ?_) (fun e0 => ?_)
  · have e : nameE c.name = false := by simpa using e0
    simp (disch := first | omega | decide | (simp only [List.length_cons, List.length_nil] <;> omega)) only [push_cast, ↓reduceIte, Nat.reduceLT, Nat.reduceEqDiff, reduceCtorEq, Nat.reduceAdd, if_true, if_false, true_and, and_true, hn, hdf, ha, checkE, e]
  have e0' : ¬ nameE c.name = false := by simpa using e0
  simp (disch := first | omega | decide | (simp only [List.length_cons, List.length_nil] <;> omega)) only [push_cast, ↓reduceIte, Nat.reduceLT, Nat.reduceEqDiff, reduceCtorEq, Nat.reduceAdd, if_true, if_false, true_and, and_true, hn, hdf, ha, faL foC1, hl3]
  refine wantM_not (fun e1 => ?_) (fun e1 => ?_)
  · simp (disch := first | omega | decide | (simp only [List.length_cons, List.length_nil] <;> omega)) only [push_cast, ↓reduceIte, Nat.reduceLT, Nat.reduceEqDiff, reduceCtorEq, Nat.reduceAdd, if_true, if_false, true_and, and_true, hn, hdf, ha, e1, checkE, e0', Bool.true_or]
  simp (disch := first | omega | decide | (simp only [List.length_cons, List.length_nil] <;> omega)) only [push_cast, ↓reduceIte, Nat.reduceLT, Nat.reduceEqDiff, reduceCtorEq, Nat.reduceAdd, if_true, if_false, true_and, and_true, hn, hdf, ha, e1, faL foC1, hl3]
  refine wantM_not (fun e2 => ?_) (fun e2 => ?_)
  · simp (disch := first | omega | decide | (simp only [List.length_cons, List.length_nil] <;> omega)) only [push_cast, ↓reduceIte, Nat.reduceLT, Nat.reduceEqDiff, reduceCtorEq, Nat.reduceAdd, if_true, if_false, true_and, and_true, hn, hdf, ha, e1, e2, checkE, e0', Bool.true_or, Bool.false_or]
  simp (disch := first | omega | decide | (simp only [List.length_cons, List.length_nil] <;> omega)) only [push_cast, ↓reduceIte, Nat.reduceLT, Nat.reduceEqDiff, reduceCtorEq, Nat.reduceAdd, if_true, if_false, true_and, and_true, hn, hdf, ha, e1, e2, faL foC1, faL foC2, hl3, hlU]
  refine ACall.mono ?_ (valid h0 h1)
  rintro _ _ ⟨rfl, rfl⟩
  simp (disch := first | omega | decide | (simp only [List.length_cons, List.length_nil] <;> omega)) only [push_cast, ↓reduceIte, Nat.reduceLT, Nat.reduceEqDiff, reduceCtorEq, Nat.reduceAdd, if_true, if_false, true_and, and_true, hn, hdf, ha, e1, e2]
  refine wantM_of (fun e3 => ?_) (fun e3 => ?_)
  case refine_2 => simp (disch := first | omega | decide | (simp only [List.length_cons, List.length_nil] <;> omega)) only [push_cast, ↓reduceIte, Nat.reduceLT, Nat.reduceEqDiff, reduceCtorEq, Nat.reduceAdd, if_true, if_false, true_and, and_true, hn, hdf, ha, e1, e2, e3, checkE, e0', Bool.true_or, Bool.false_or]
  simp (disch := first | omega | decide | (simp only [List.length_cons, List.length_nil] <;> omega)) only [push_cast, ↓reduceIte, Nat.reduceLT, Nat.reduceEqDiff, reduceCtorEq, Nat.reduceAdd, if_true, if_false, true_and, and_true, hn, hdf, ha, e1, e2, e3, faL foC3, hl2]
  refine wantM_not (fun e4 => ?_) (fun e4 => ?_)
  · simp (disch := first | omega | decide | (simp only [List.length_cons, List.length_nil] <;> omega)) only [push_cast, ↓reduceIte, Nat.reduceLT, Nat.reduceEqDiff, reduceCtorEq, Nat.reduceAdd, if_true, if_false, true_and, and_true, hn, hdf, ha, e1, e2, e3, e4, checkE, e0', Bool.true_or, Bool.false_or]
  simp (disch := first | omega | decide | (simp only [List.length_cons, List.length_nil] <;> omega)) only [push_cast, ↓reduceIte, Nat.reduceLT, Nat.reduceEqDiff, reduceCtorEq, Nat.reduceAdd, if_true, if_false, true_and, and_true, hn, hdf, ha, e1, e2, e3, e4, faL foC3, hl2]
  refine condV_of (fun e5 => ?_) (fun e5 => ?_)
  · simp (disch := first | omega | decide | (simp only [List.length_cons, List.length_nil] <;> omega)) only [push_cast, ↓reduceIte, Nat.reduceLT, Nat.reduceEqDiff, reduceCtorEq, Nat.reduceAdd, if_true, if_false, true_and, and_true, hn, hdf, ha, e1, e2, e3, e4, e5, checkE, e0', Bool.true_or, Bool.false_or]
  simp (disch := first | omega | decide | (simp only [List.length_cons, List.length_nil] <;> omega)) only [push_cast, ↓reduceIte, Nat.reduceLT, Nat.reduceEqDiff, reduceCtorEq, Nat.reduceAdd, if_true, if_false, true_and, and_true, hn, hdf, ha, faL foC4, faL foC1, hlL, hl3, hd.lenA Tryz.underlying38]
  refine condV_not (fun e6 => ?_) (fun e6 => ?_)
  case refine_1 =>
    have : ¬ (c.delay.length : Int) = c.pins := by simpa using e6
    simp (disch := first | omega | decide | (simp only [List.length_cons, List.length_nil] <;> omega)) only [push_cast, ↓reduceIte, Nat.reduceLT, Nat.reduceEqDiff, reduceCtorEq, Nat.reduceAdd, if_true, if_false, true_and, and_true, hn, hdf, ha, e1, e2, e3, e4, e5, checkE, e0', ne_eq, this, Bool.false_or]
  have e6' : (c.delay.length : Int) = c.pins := by simpa using e6
  simp (disch := first | omega | decide | (simp only [List.length_cons, List.length_nil] <;> omega)) only [push_cast, ↓reduceIte, Nat.reduceLT, Nat.reduceEqDiff, reduceCtorEq, Nat.reduceAdd, if_true, if_false, true_and, and_true, hn, hdf, ha, faL foC4, hlL]
  refine ACall.mono ?_ (containsL (p := delayBad) (hd.sub hs) (fun x _ => check1) hb)
  rintro _ _ ⟨rfl, rfl⟩
  simp (disch := first | omega | decide | (simp only [List.length_cons, List.length_nil] <;> omega)) only [push_cast, ↓reduceIte, Nat.reduceLT, Nat.reduceEqDiff, reduceCtorEq, Nat.reduceAdd, if_true, if_false, true_and, and_true, hn, hdf, ha]
  refine condV_of (fun e7 => ?_) (fun e7 => ?_)
  · simp (disch := first | omega | decide | (simp only [List.length_cons, List.length_nil] <;> omega)) only [push_cast, ↓reduceIte, Nat.reduceLT, Nat.reduceEqDiff, reduceCtorEq, Nat.reduceAdd, if_true, if_false, true_and, and_true, hn, hdf, ha, checkE, e0', e1, e2, e3, e4, e5, e6', e7, ne_eq, not_true_eq_false, Bool.false_or]
  · simp (disch := first | omega | decide | (simp only [List.length_cons, List.length_nil] <;> omega)) only [push_cast, ↓reduceIte, Nat.reduceLT, Nat.reduceEqDiff, reduceCtorEq, Nat.reduceAdd, if_true, if_false, true_and, and_true, hn, hdf, ha, checkE, e0', e1, e2, e3, e4, e5, e6', e7, ne_eq, not_true_eq_false, Bool.false_or]

theorem check {h : AH} {c : Cell} {dv : Value} (hd : SlOf h dv (c.delay.map (.int .i64))) (h0 : 0 ≤ c.table) (h1 : c.table < 18446744073709551616) (hb : c.delay.length ≤ 4611686018427387904) :
    ACall Tryz.prog 80 [cellV c dv] h (fun r h' => r = .int .i64 (checkE c) ∧ h' = h) :=
  ACall.viewed rfl (checkR hd.view h0 h1 hb)


def AsksC (f : Value) (h : AH) (p : Cell → Bool) (cs : List Cell) : Prop := ∀ x ∈ cs, ∀ dv, SlOf h dv (x.delay.map (.int .i64)) → callR Tryz.prog f [cellV x dv] h (fun r h' => r = .bool (p x) ∧ h' = h)

theorem infC : ∃ i, Tryz.prog.info? 40 = some i ∧ i.size = cellL.sz := agC.size
theorem infI : ∃ i, Tryz.prog.info? 36 = some i ∧ i.size = instL.sz := agI.size
theorem infF : ∃ i, Tryz.prog.info? 65 = some i ∧ i.size = flopL.sz := agF.size

theorem indexC {h : AH} {v f : Value} {zs : List Cell} {p : Cell → Bool} (hv : RowOf cellL h v zs) (hf : AsksC f h p zs) (hb : zs.length ≤ 4611686018427387904) :
    ACall Tryz.prog 104 [v, f] h (IdxPost p zs h) := by
  refine ACall.of_wp 19 [.tmp 4] Tryz.func104 rfl (by kernel_rfl) rfl rfl fun a hn hd ha => ?_
  simp (disch := first | omega | decide | (simp only [List.length_cons, List.length_nil] <;> omega)) only [push_cast, ↓reduceIte, Nat.reduceLT, Nat.reduceEqDiff, reduceCtorEq, Nat.reduceAdd, if_true, if_false, true_and, and_true, hn, hd, ha, hv.len Tryz.underlying22]
  refine AW.loopN 8 [4, 5, 8] (fun m a' h' => h' = h ∧ ∃ i : Nat, a'.tm 8 = .int .i64 i ∧ i + m = zs.length ∧ a'.tm 7 = .int .i64 zs.length ∧ (zs.drop i).any p = zs.any p) zs.length ?_ ?_
  · exact ⟨rfl, 0, by simp (disch := first | omega | decide | (simp only [List.length_cons, List.length_nil] <;> omega)) only [push_cast, ↓reduceIte, Nat.reduceLT, Nat.reduceEqDiff, reduceCtorEq, Nat.reduceAdd, if_true, if_false, true_and, and_true], by omega, by simp (disch := first | omega | decide | (simp only [List.length_cons, List.length_nil] <;> omega)) only [push_cast, ↓reduceIte, Nat.reduceLT, Nat.reduceEqDiff, reduceCtorEq, Nat.reduceAdd, if_true, if_false, true_and, and_true], rfl⟩
  · rintro a1 m a' h' hk kn kd kt ⟨rfl, i, h8, him, h7, hany⟩
    simp (disch := first | omega | decide | (simp only [List.length_cons, List.length_nil] <;> omega)) only [push_cast, ↓reduceIte, Nat.reduceLT, Nat.reduceEqDiff, reduceCtorEq, Nat.reduceAdd, if_true, if_false, true_and, and_true, kn, kd, kt, hn, hd, ha, h8, h7]
    refine condV_of (fun hlt => ?_) (fun hge => ?_)
    · have hi : i < zs.length := by have := hlt; simp at this; omega
      obtain ⟨cs, ⟨dv, rfl, hdv⟩, hld, -, -⟩ := hv.get hi default
      replace hld := hld _ agC
      simp (disch := first | omega | decide | (simp only [List.length_cons, List.length_nil] <;> omega)) only [push_cast, ↓reduceIte, Nat.reduceLT, Nat.reduceEqDiff, reduceCtorEq, Nat.reduceAdd, if_true, if_false, true_and, and_true, kn, kd, kt, hn, hd, ha, h8, h7, hv.idx Tryz.underlying22 infC, hld]
      refine callR.mono ?_ (hf _ (getD_mem hi default) dv hdv)
      rintro _ _ ⟨rfl, rfl⟩
      simp (disch := first | omega | decide | (simp only [List.length_cons, List.length_nil] <;> omega)) only [push_cast, ↓reduceIte, Nat.reduceLT, Nat.reduceEqDiff, reduceCtorEq, Nat.reduceAdd, if_true, if_false, true_and, and_true, kn, kd, kt, hn, hd, ha, h8, h7]
      rw [any_drop hi default] at hany
      refine condV_of (fun hp => ?_) (fun hp => ?_)
      · simp (disch := first | omega | decide | (simp only [List.length_cons, List.length_nil] <;> omega)) only [push_cast, ↓reduceIte, Nat.reduceLT, Nat.reduceEqDiff, reduceCtorEq, Nat.reduceAdd, if_true, if_false, true_and, and_true, kn, kd, kt, hn, hd, ha, h8, h7]
        exact ⟨rfl, i, rfl, by rw [← hany, hp]; simp⟩
      · simp (disch := first | omega | decide | (simp only [List.length_cons, List.length_nil] <;> omega)) only [push_cast, ↓reduceIte, Nat.reduceLT, Nat.reduceEqDiff, reduceCtorEq, Nat.reduceAdd, if_true, if_false, true_and, and_true, kn, kd, kt, hn, hd, ha, h8, h7, wrapI]
        exact ⟨m - 1, by omega, (by simp (disch := decide) only [Kp_put, put_none, hk]), rfl, i + 1, by simp (disch := first | omega | decide | (simp only [List.length_cons, List.length_nil] <;> omega)) only [push_cast, ↓reduceIte, Nat.reduceLT, Nat.reduceEqDiff, reduceCtorEq, Nat.reduceAdd, if_true, if_false, true_and, and_true], by omega, by simp (disch := first | omega | decide | (simp only [List.length_cons, List.length_nil] <;> omega)) only [push_cast, ↓reduceIte, Nat.reduceLT, Nat.reduceEqDiff, reduceCtorEq, Nat.reduceAdd, if_true, if_false, true_and, and_true, h7], by rw [← hany, hp]; simp⟩
    · have hi : zs.length ≤ i := by have := hge; simp at this; omega
      rw [List.drop_of_length_le hi] at hany
      simp (disch := first | omega | decide | (simp only [List.length_cons, List.length_nil] <;> omega)) only [push_cast, ↓reduceIte, Nat.reduceLT, Nat.reduceEqDiff, reduceCtorEq, Nat.reduceAdd, if_true, if_false, true_and, and_true, kn, kd, kt, hn, hd, ha, h8, h7]
      exact ⟨rfl, -1, rfl, by rw [← hany]; rfl⟩

theorem containsC {h : AH} {v f : Value} {zs : List Cell} {p : Cell → Bool} (hv : RowOf cellL h v zs) (hf : AsksC f h p zs) (hb : zs.length ≤ 4611686018427387904) :
    ACall Tryz.prog 81 [v, f] h (fun r h' => r = .bool (zs.any p) ∧ h' = h) := by
  refine ACall.of_wp 9 [.tmp 4] Tryz.func81 rfl (by kernel_rfl) rfl rfl fun a hn hd ha => ?_
  simp (disch := first | omega | decide | (simp only [List.length_cons, List.length_nil] <;> omega)) only [push_cast, ↓reduceIte, Nat.reduceLT, Nat.reduceEqDiff, reduceCtorEq, Nat.reduceAdd, if_true, if_false, true_and, and_true, hn, hd, ha]
  refine ACall.mono ?_ (indexC hv hf hb)
  rintro _ _ ⟨rfl, k, rfl, hk⟩
  simp (disch := first | omega | decide | (simp only [List.length_cons, List.length_nil] <;> omega)) only [push_cast, ↓reduceIte, Nat.reduceLT, Nat.reduceEqDiff, reduceCtorEq, Nat.reduceAdd, if_true, if_false, true_and, and_true, hn, hd, ha, hk]

def sameName (s : ByteArray) (d : Cell) : Bool := d.name.toList == s.toList

theorem checkC1R {h : AH} {x : Cell} {dv : Value} {B : Nat} {o : AObj} {s : ByteArray} {rest : List Value} (hdv : SlOf h dv (x.delay.map (.int .i64))) (hB : h.get B = some o) (hc : o.cells? = some (.string s :: rest)) :
    ACall Tryz.prog 82 [cellV x dv, .pointer (some ⟨B, 0, none⟩)] h (fun r _ => r = .bool (sameName s x)) := by
  refine ACall.wf ⟨_, Tryz.func82, rfl, by kernel_rfl⟩ fun hwf => ?_
  refine ACall.of_wp 9 [.tmp 3] Tryz.func82 rfl (by kernel_rfl) rfl rfl fun a hn hdf ha => ?_
  have hbox := boxA 40 h [.string x.name, .int .i64 x.pins, .int .u64 x.table, .int .i64 x.area, dv] (by simp only [List.all_cons, List.all_nil, hdv.one]; rfl)
  have hl := fun ob => ldL (Sub.new hwf ob _ _ hB) hc fl9
  simp (disch := first | omega | decide | (simp only [List.length_cons, List.length_nil] <;> omega)) only [push_cast, ↓reduceIte, Nat.reduceLT, Nat.reduceEqDiff, reduceCtorEq, Nat.reduceAdd, if_true, if_false, true_and, and_true, hn, hdf, ha, cellV, hbox, faL foC0, ldN fl9, hl, strBin, sameName]

theorem checkC1 {h : AH} {x : Cell} {dv : Value} {B : Nat} {o : AObj} {s : ByteArray} {rest : List Value} (hdv : SlOf h dv (x.delay.map (.int .i64))) (hB : h.get B = some o) (hc : o.cells? = some (.string s :: rest)) :
    ACall Tryz.prog 82 [cellV x dv, .pointer (some ⟨B, 0, none⟩)] h (fun r h' => r = .bool (sameName s x) ∧ h' = h) := by
  obtain ⟨o', h1, h2⟩ := viewCells hB hc
  exact ACall.viewed rfl (checkC1R hdv.view h1 h2)

def cellsGo (pre : List Cell) (i : Nat) : List Cell → Int × Int
  | [] => (0, 0)
  | c :: cs => if checkE c ≠ 0 then (i, checkE c) else if pre.any (sameName c.name) = true then (i, 10) else cellsGo (pre ++ [c]) (i + 1) cs
def cellsE (l : List Cell) : Int × Int := if l.length > 32 then (0, 5) else cellsGo [] 0 l

/-- The numbers of a cell are in range. -/
def CellOK (c : Cell) : Prop := 0 ≤ c.table ∧ c.table < 18446744073709551616 ∧ c.delay.length ≤ 4611686018427387904

theorem cellsR {h : AH} {v : Value} {l : List Cell} (hv : RowOf cellL h v l) (hok : ∀ c ∈ l, CellOK c) : ACall Tryz.prog 61 [v] h (fun r _ => r = .tuple #[.int .i64 (cellsE l).1, .int .i64 (cellsE l).2]) := by
  refine ACall.wf ⟨_, Tryz.func61, rfl, by kernel_rfl⟩ fun hwf => ?_
  refine ACall.of_wp 30 [.tmp 2, .tmp 3] Tryz.func61 rfl (by kernel_rfl) rfl rfl fun a hn hd ha => ?_
  simp (disch := first | omega | decide | (simp only [List.length_cons, List.length_nil] <;> omega)) only [push_cast, ↓reduceIte, Nat.reduceLT, Nat.reduceEqDiff, reduceCtorEq, Nat.reduceAdd, if_true, if_false, true_and, and_true, hn, hd, ha, hv.len Tryz.underlying22]
  refine condV_of (fun h0 => ?_) (fun h0 => ?_)
  · have : l.length > 32 := by simp at h0; omega
    simp (disch := first | omega | decide | (simp only [List.length_cons, List.length_nil] <;> omega)) only [push_cast, ↓reduceIte, Nat.reduceLT, Nat.reduceEqDiff, reduceCtorEq, Nat.reduceAdd, if_true, if_false, true_and, and_true, hn, hd, ha, cellsE, this]
  have hle : ¬ l.length > 32 := by simp at h0; omega
  simp (disch := first | omega | decide | (simp only [List.length_cons, List.length_nil] <;> omega)) only [push_cast, ↓reduceIte, Nat.reduceLT, Nat.reduceEqDiff, reduceCtorEq, Nat.reduceAdd, if_true, if_false, true_and, and_true, hn, hd, ha, hv.len Tryz.underlying22]
  have hE : cellsE l = cellsGo [] 0 l := by simp only [cellsE, if_neg hle]
  refine AW.loopN 13 [2, 3, 4, 5, 6, 12] (fun m a' h' => Gr h h' ∧ ∃ i : Nat, a'.tm 12 = .int .i64 i ∧ i + m = l.length ∧ cellsGo (l.take i) i (l.drop i) = cellsE l) l.length ?_ ?_
  · exact ⟨Gr.refl hwf, 0, by simp (disch := first | omega | decide | (simp only [List.length_cons, List.length_nil] <;> omega)) only [push_cast, ↓reduceIte, Nat.reduceLT, Nat.reduceEqDiff, reduceCtorEq, Nat.reduceAdd, if_true, if_false, true_and, and_true], by omega, by rw [hE]; rfl⟩
  · rintro a1 m a' h' hk kn kd kt ⟨hg, i, h12, him, hgo⟩
    simp (disch := first | omega | decide | (simp only [List.length_cons, List.length_nil] <;> omega)) only [push_cast, ↓reduceIte, Nat.reduceLT, Nat.reduceEqDiff, reduceCtorEq, Nat.reduceAdd, if_true, if_false, true_and, and_true, kn, kd, kt, hn, hd, ha, h12]
    refine condV_of (fun hlt => ?_) (fun hge => ?_)
    · have hi : i < l.length := by have := hlt; simp at this; omega
      have hv' := hv.sub hg.sub
      obtain ⟨cs, ⟨dv, rfl, hdv⟩, hld, -, -⟩ := hv'.get hi default
      replace hld := hld _ agC
      have hc := hok _ (getD_mem hi default)
      have hdrop : l.drop i = l.getD i default :: l.drop (i + 1) := by
        rw [List.drop_eq_getElem_cons hi]
        simp [List.getD_eq_getElem?_getD, hi]
      have htake : l.take (i + 1) = l.take i ++ [l.getD i default] := by
        rw [List.take_add_one]
        simp [List.getD_eq_getElem?_getD, hi]
      rw [hdrop] at hgo
      generalize l.getD i default = c at *
      have hone : [Value.string c.name, .int .i64 c.pins, .int .u64 c.table, .int .i64 c.area, dv].all oneC = true := by simp only [List.all_cons, List.all_nil, hdv.one]; rfl
      have hst := fun (hh : AH) cs e hl => stN agC hh cs e [Value.string c.name, .int .i64 c.pins, .int .u64 c.table, .int .i64 c.area, dv] hl rfl hone
      have hB : (h'.new (.row [.string c.name, .int .i64 c.pins, .int .u64 c.table, .int .i64 c.area, dv] 40 true)).get h'.next = some (.row [.string c.name, .int .i64 c.pins, .int .u64 c.table, .int .i64 c.area, dv] 40 true) := by simp [AH.new_get]
      have hg2 := hg.new (.row [.string c.name, .int .i64 c.pins, .int .u64 c.table, .int .i64 c.area, dv] 40 true)
      have hs2 := Sub.new hg.wf (.row [.string c.name, .int .i64 c.pins, .int .u64 c.table, .int .i64 c.area, dv] 40 true)
      simp (disch := first | omega | decide | (simp only [List.length_cons, List.length_nil] <;> omega)) only [push_cast, ↓reduceIte, Nat.reduceLT, Nat.reduceEqDiff, reduceCtorEq, Nat.reduceAdd, if_true, if_false, true_and, and_true, kn, kd, kt, hn, hd, ha, h12, hv'.idx Tryz.underlying22 infC, hld, alL zrC, hst, ldNA agC]
      generalize h'.new (.row [.string c.name, .int .i64 c.pins, .int .u64 c.table, .int .i64 c.area, dv] 40 true) = h2 at hB hg2 hs2 ⊢
      refine ACall.mono ?_ (check (hdv.sub hs2) hc.1 hc.2.1 hc.2.2)
      rintro _ h2 ⟨rfl, rfl⟩
      simp (disch := first | omega | decide | (simp only [List.length_cons, List.length_nil] <;> omega)) only [push_cast, ↓reduceIte, Nat.reduceLT, Nat.reduceEqDiff, reduceCtorEq, Nat.reduceAdd, if_true, if_false, true_and, and_true, kn, kd, kt, hn, hd, ha, h12]
      refine condV_not (fun h1 => ?_) (fun h1 => ?_)
      · have e : ¬ checkE c = 0 := by simpa using h1
        simp (disch := first | omega | decide | (simp only [List.length_cons, List.length_nil] <;> omega)) only [push_cast, ↓reduceIte, Nat.reduceLT, Nat.reduceEqDiff, reduceCtorEq, Nat.reduceAdd, if_true, if_false, true_and, and_true, kn, kd, kt, hn, hd, ha, h12, ← hgo, cellsGo, ne_eq, e]
      have e1 : checkE c = 0 := by simpa using h1
      obtain ⟨v', hsl, hpre⟩ := hv.pre (k := .i64) Tryz.underlying22 infC (Nat.le_of_lt hi)
      simp (disch := first | omega | decide | (simp only [List.length_cons, List.length_nil] <;> omega)) only [push_cast, ↓reduceIte, Nat.reduceLT, Nat.reduceEqDiff, reduceCtorEq, Nat.reduceAdd, if_true, if_false, true_and, and_true, kn, kd, kt, hn, hd, ha, h12, oev, hsl]
      refine ACall.mono ?_ (containsC (h := h2) (f := .func (.func 82) #[] #[.pointer (some ⟨h'.next, 0, none⟩)]) (p := sameName c.name) (hpre.sub hg2.sub) (fun x _ dv' hdv' => checkC1 hdv' hB rfl) (by rw [List.length_take]; omega))
      rintro _ _ ⟨rfl, rfl⟩
      simp (disch := first | omega | decide | (simp only [List.length_cons, List.length_nil] <;> omega)) only [push_cast, ↓reduceIte, Nat.reduceLT, Nat.reduceEqDiff, reduceCtorEq, Nat.reduceAdd, if_true, if_false, true_and, and_true, kn, kd, kt, hn, hd, ha, h12]
      refine condV_of (fun h2 => ?_) (fun h2 => ?_)
      · simp (disch := first | omega | decide | (simp only [List.length_cons, List.length_nil] <;> omega)) only [push_cast, ↓reduceIte, Nat.reduceLT, Nat.reduceEqDiff, reduceCtorEq, Nat.reduceAdd, if_true, if_false, true_and, and_true, kn, kd, kt, hn, hd, ha, h12, ← hgo, cellsGo, ne_eq, e1, h2, not_true_eq_false]
      · simp (disch := first | omega | decide | (simp only [List.length_cons, List.length_nil] <;> omega)) only [push_cast, ↓reduceIte, Nat.reduceLT, Nat.reduceEqDiff, reduceCtorEq, Nat.reduceAdd, if_true, if_false, true_and, and_true, kn, kd, kt, hn, hd, ha, h12, wrapI]
        refine ⟨m - 1, by omega, (by simp (disch := decide) only [Kp_put, put_none, hk]), hg2, i + 1, by simp (disch := first | omega | decide | (simp only [List.length_cons, List.length_nil] <;> omega)) only [push_cast, ↓reduceIte, Nat.reduceLT, Nat.reduceEqDiff, reduceCtorEq, Nat.reduceAdd, if_true, if_false, true_and, and_true], by omega, ?_⟩
        rw [htake, ← hgo]
        simp only [cellsGo, ne_eq, e1, h2, not_true_eq_false, if_false, Bool.false_eq_true]
    · have hi : l.length ≤ i := by have := hge; simp at this; omega
      rw [List.drop_of_length_le hi] at hgo
      simp (disch := first | omega | decide | (simp only [List.length_cons, List.length_nil] <;> omega)) only [push_cast, ↓reduceIte, Nat.reduceLT, Nat.reduceEqDiff, reduceCtorEq, Nat.reduceAdd, if_true, if_false, true_and, and_true, kn, kd, kt, hn, hd, ha, ← hgo, cellsGo]

theorem cells {h : AH} {v : Value} {l : List Cell} (hv : RowOf cellL h v l) (hok : ∀ c ∈ l, CellOK c) : ACall Tryz.prog 61 [v] h (fun r h' => r = .tuple #[.int .i64 (cellsE l).1, .int .i64 (cellsE l).2] ∧ h' = h) :=
  ACall.viewed rfl (cellsR hv.view hok)

end Go.Ab.S1
