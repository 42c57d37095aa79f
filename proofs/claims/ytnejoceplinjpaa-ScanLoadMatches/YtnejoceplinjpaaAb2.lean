/- Own layer 'Ab': the operations that only reckon. -/
import Derived.Test.YtnejoceplinjpaaAb1
import Derived.Laws.StructEq
namespace Go.Ab

/-! ### Comparison -/

def aPart (P : Program) (t : TypeId) (cs : Array Value) (off : Nat) : Option Value :=
  match P.underlying t with
  | none => none
  | some d =>
    if aggT d then
      match P.info? t with
      | none => none
      | some i => some (.agg (cs.extract off (off + i.size)))
    else cs[off]?

theorem aPart_run {P : Program} {t : TypeId} {cs : Array Value} {off : Nat} {v : Value} (h : aPart P t cs off = some v) (w : World) : (part t cs off).run P w = .ok v w := by
  unfold aPart at h
  cases hd : P.underlying t with
  | none => simp [hd] at h
  | some d =>
    simp only [hd] at h
    simp only [part, Sem.run_bind, r_isAgg w hd, Result.andThen_ok]
    split at h
    · rename_i ha
      cases hi : P.info? t with
      | none => simp [hi] at h
      | some i => simp only [hi] at h; cases h; simp [ha, r_size w hi]
    · rename_i ha
      simp [ha, h]

theorem aPart_VR {P : Program} {ρ : Ren} {t : TypeId} {cs cs' : Array Value} {off : Nat} {v : Value} (hl : LR ρ cs.toList cs'.toList) (h : aPart P t cs off = some v) :
    ∃ v', aPart P t cs' off = some v' ∧ VR ρ v v' := by
  unfold aPart at h ⊢
  cases hd : P.underlying t with
  | none => simp [hd] at h
  | some d =>
    simp only [hd] at h ⊢
    split at h
    · rename_i ha
      rw [if_pos ha]
      cases hi : P.info? t with
      | none => simp [hi] at h
      | some i =>
        simp only [hi] at h ⊢; cases h
        refine ⟨_, rfl, ?_⟩
        have := ((hl.drop off).take i.size).toAgg
        have e : ∀ x : Array Value, ((x.toList.drop off).take i.size).toArray = x.extract off (off + i.size) := by
          intro x; apply Array.ext'; simp [Array.toList_extract, List.extract]
        rw [e, e] at this; exact this
    · rename_i ha
      rw [if_neg ha]
      obtain ⟨v', a, b⟩ := hl.get (i := off) (v := v) (by simpa using h)
      exact ⟨v', by simpa using a, b⟩

def eqAll (f : Field → Option Bool) : List Field → Option Bool
  | [] => some true
  | x :: xs => if x.name ≠ "_" then (match f x with | some true => eqAll f xs | some false => some false | none => none) else eqAll f xs

/-- '==' on values without addresses. -/
def aEq (P : Program) : Nat → TypeId → Value → Value → Option Bool
  | 0, _, _, _ => none
  | d + 1, t, x, y =>
    match P.underlying t, x, y with
    | some .bool, .bool a, .bool b => some (a == b)
    | some (.int _), .int k a, .int k' b => if k = k' then some (a == b) else none
    | some .string, .string a, .string b => some (a.toList == b.toList)
    | some (.struct fs), .agg xs, .agg ys =>
      if P.stoodInHeld t then none else
      eqAll (fun f => match aPart P f.type xs f.offset, aPart P f.type ys f.offset with
        | some a, some b => aEq P d f.type a b
        | _, _ => none) fs.toList
    | some (.pointer _), .pointer none, .pointer b => some b.isNone
    | some (.pointer _), .pointer (some _), .pointer none => some false
    | some (.slice _), .slice none _ _, .slice b _ _ => some b.isNone
    | some (.slice _), .slice (some _) _ _, .slice none _ _ => some false
    | some (.map _ _), .map none, .map b => some b.isNone
    | some (.map _ _), .map (some _), .map none => some false
    | some (.func _ _ _), .nilFunc, .nilFunc => some true
    | some (.func _ _ _), .nilFunc, .func _ _ _ => some false
    | some (.func _ _ _), .func _ _ _, .nilFunc => some false
    | _, _, _ => none

theorem eqAll_run {P : Program} {d : Nat} {xs ys : Array Value} {f : Field → Option Bool} (w : World)
    (hf : ∀ x b, f x = some b → ∃ u v, (part x.type xs x.offset).run P w = .ok u w ∧ (part x.type ys x.offset).run P w = .ok v w ∧ (Op.equalIn d x.type u v).run P w = .ok b w) :
    ∀ (l : List Field) (b : Bool), eqAll f l = some b → (Op.eqFields d xs ys l).run P w = .ok b w := by
  intro l
  induction l with
  | nil => intro b h; simp [eqAll] at h; subst h; simp [Op.eqFields]
  | cons x l ih =>
    intro b h
    unfold eqAll at h
    unfold Op.eqFields
    split at h
    · rename_i hn
      rw [if_pos hn]
      cases hx : f x with
      | none => simp [hx] at h
      | some c =>
        obtain ⟨u, v, h1, h2, h3⟩ := hf x c hx
        simp only [Sem.run_bind, h1, h2, h3, Result.andThen_ok]
        cases c with
        | true => simp only [hx] at h; simpa using ih b h
        | false => simp only [hx] at h; cases h; simp
    · rename_i hn
      rw [if_neg hn]; exact ih b h

theorem aEq_run {P : Program} {ρ : Ren} : ∀ (n : Nat) (t : TypeId) (x y x' y' : Value) (b : Bool) (w : World) (m : Nat), aEq P n t x y = some b → n ≤ m → VR ρ x x' → VR ρ y y' →
    (Op.equalIn m t x' y').run P w = .ok b w := by
  intro n
  induction n with
  | zero => intro t x y x' y' b w m h; simp [aEq] at h
  | succ n ih =>
    intro t x y x' y' b w m h hm hx hy
    obtain ⟨m, rfl⟩ : ∃ k, m = k + 1 := ⟨m - 1, by omega⟩
    unfold aEq at h
    split at h
    · rename_i hd; cases hx; cases hy; cases h; exact run_equalIn_bool w m t _ _ hd
    · rename_i hd
      cases hx; cases hy
      split at h
      · rename_i e; subst e; cases h; exact run_equalIn_int w m t _ _ _ _ hd
      · cases h
    · rename_i hd; cases hx; cases hy; cases h; exact run_equalIn_string w m t _ _ hd
    · rename_i fs xs ys hd
      split at h
      · cases h
      · rename_i hp
        obtain ⟨xs', rfl, hlx⟩ := hx.ofAgg
        obtain ⟨ys', rfl, hly⟩ := hy.ofAgg
        have hfs : P.fieldsOf t = fs := by simp [Program.fieldsOf, hd]
        rw [run_equalIn_struct w m t xs' ys' (by rw [hfs]; exact hd) (by simpa using hp), hfs]
        refine eqAll_run w (fun f c hc => ?_) fs.toList b h
        cases ha : aPart P f.type xs f.offset with
        | none => simp [ha] at hc
        | some u =>
          cases hb : aPart P f.type ys f.offset with
          | none => simp [ha, hb] at hc
          | some v =>
            simp only [ha, hb] at hc
            obtain ⟨u', hu, hru⟩ := aPart_VR hlx ha
            obtain ⟨v', hv, hrv⟩ := aPart_VR hly hb
            exact ⟨u', v', aPart_run hu w, aPart_run hv w, ih f.type u v u' v' c w m hc (by omega) hru hrv⟩
    all_goals (rename_i hd; cases hx <;> cases hy <;> cases h <;> simp [Op.equalIn, r_under w hd] <;> done)
    all_goals cases h

def intBin (op : BinOp) (k : IntKind) (a b : Int) : Option Value :=
  match op with
  | .add => some (.int k (k.wrap (a + b)))
  | .sub => some (.int k (k.wrap (a - b)))
  | .mul => some (.int k (k.wrap (a * b)))
  | .quo => if b = 0 then none else some (.int k (k.wrap (a.tdiv b)))
  | .rem => if b = 0 then none else some (.int k (a.tmod b))
  | .and => some (.int k (k.wrap (BitVec.ofInt k.bits a &&& BitVec.ofInt k.bits b).toNat))
  | .or => some (.int k (k.wrap (BitVec.ofInt k.bits a ||| BitVec.ofInt k.bits b).toNat))
  | .xor => some (.int k (k.wrap (BitVec.ofInt k.bits a ^^^ BitVec.ofInt k.bits b).toNat))
  | .andNot => some (.int k (k.wrap (BitVec.ofInt k.bits a &&& ~~~BitVec.ofInt k.bits b).toNat))
  | .eql => some (.bool (a == b))
  | .neq => some (.bool (a != b))
  | .lss => some (.bool (decide (a < b)))
  | .leq => some (.bool (decide (a ≤ b)))
  | .gtr => some (.bool (decide (a > b)))
  | .geq => some (.bool (decide (a ≥ b)))
  | _ => none

def shBin (op : BinOp) (k : IntKind) (a b : Int) : Option Value :=
  if b < 0 then none else
  match op with
  | .shl => some (.int k (k.wrap (a * 2 ^ min b.toNat k.bits)))
  | .shr => some (.int k (a.fdiv (2 ^ min b.toNat k.bits)))
  | _ => none

def strBin (op : BinOp) (a b : ByteArray) : Option Value :=
  match op with
  | .add => if a.size + b.size ≤ 9223372036854775807 then some (.string (a ++ b)) else none
  | .eql => some (.bool (a.toList == b.toList))
  | .neq => some (.bool (!(a.toList == b.toList)))
  | .lss => some (.bool (Op.bytesLess a.toList b.toList))
  | .leq => some (.bool (Op.bytesLess a.toList b.toList || a.toList == b.toList))
  | .gtr => some (.bool (!(Op.bytesLess a.toList b.toList || a.toList == b.toList)))
  | .geq => some (.bool (!(Op.bytesLess a.toList b.toList)))
  | _ => none

def guardOn (P : Program) (t : TypeId) : Value → Value → Bool
  | .agg _, .agg _ => P.eqGuardType P.depth t
  | .nilIface, .nilIface => true
  | _, _ => false

def eqBin (P : Program) (op : BinOp) (t : TypeId) (a b : Value) : Option Value :=
  if guardOn P t a b = true then none else
  match op with
  | .eql => (aEq P 6 t a b).map .bool
  | .neq => (aEq P 6 t a b).map fun c => .bool (!c)
  | _ => none

def aBin (P : Program) (op : BinOp) (t : TypeId) (a b : Value) : Option Value :=
  match a, b with
  | .int k x, .int k' y =>
    match op with
    | .shl => shBin .shl k x y
    | .shr => shBin .shr k x y
    | op => if k = k' then intBin op k x y else none
  | .string x, .string y => strBin op x y
  | a, b => eqBin P op t a b

theorem eqGuard_skip {P : Program} {ρ : Ren} {op : BinOp} {t : TypeId} {x y : Operand} {a b a' b' : Value} (ha : VR ρ a a') (hb : VR ρ b b')
    (h : guardOn P t a b = false) (w : World) : (eqGuard op t x y a' b').run P w = .ok () w := by
  unfold eqGuard
  cases ha <;> cases hb <;> simp_all [guardOn]

theorem aBin_run {P : Program} {ρ : Ren} {op : BinOp} {t : TypeId} {x y : Operand} {a b a' b' v : Value} (ha : VR ρ a a') (hb : VR ρ b b') (h : aBin P op t a b = some v) (w : World) :
    ∃ v', (do eqGuard op t x y a' b'; binOp op t a' b').run P w = .ok v' w ∧ VR ρ v v' := by
  unfold aBin at h
  split at h
  · rename_i k n k' m
    have hg : ∀ w, (eqGuard op t x y a' b').run P w = .ok () w := fun w => eqGuard_skip ha hb rfl w
    simp only [Sem.run_bind, hg, Result.andThen_ok]
    cases ha; cases hb
    split at h
    · unfold shBin at h
      split at h
      · cases h
      · rename_i hb0
        cases h
        exact ⟨_, by simp [binOp, Op.shift, hb0], .int _ _⟩
    · unfold shBin at h
      split at h
      · cases h
      · rename_i hb0
        cases h
        exact ⟨_, by simp [binOp, Op.shift, hb0], .int _ _⟩
    · split at h
      · rename_i hk; subst hk
        unfold intBin at h
        cases op <;> simp only [Option.some.injEq, reduceCtorEq] at h
        case quo =>
          split at h
          · cases h
          · rename_i hb0; cases h; exact ⟨_, by simp [binOp, Op.intDiv, hb0], .int _ _⟩
        case rem =>
          split at h
          · cases h
          · rename_i hb0; cases h; exact ⟨_, by simp [binOp, Op.intDiv, hb0], .int _ _⟩
        all_goals (subst h; exact ⟨_, by simp only [binOp, ne_eq, not_true_eq_false, if_false, Op.intArith, Op.intBits, Op.intCmp]; rfl, by first | exact .int _ _ | exact .bool _⟩)
      · cases h
  · rename_i n m
    have hg : ∀ w, (eqGuard op t x y a' b').run P w = .ok () w := fun w => eqGuard_skip ha hb rfl w
    simp only [Sem.run_bind, hg, Result.andThen_ok]
    cases ha; cases hb
    unfold strBin at h
    cases op <;> simp only [Option.some.injEq, reduceCtorEq] at h
    case add =>
      split at h
      · rename_i hle; cases h
        refine ⟨_, ?_, .string _⟩
        have : ¬ ((n.size + m.size : Nat) : Int) > IntKind.i64.max := by
          have : IntKind.i64.max = 9223372036854775807 := by decide
          omega
        simp only [binOp, Op.stringOp]; rw [if_neg this]; rfl
      · cases h
    all_goals (subst h; exact ⟨_, by simp [binOp, Op.stringOp], .bool _⟩)
  · rename_i hni hns
    unfold eqBin at h
    split at h
    · cases h
    · rename_i hgu
      have hg : ∀ w, (eqGuard op t x y a' b').run P w = .ok () w := fun w => eqGuard_skip ha hb (by simpa using hgu) w
      simp only [Sem.run_bind, hg, Result.andThen_ok]
      have key : ∀ c, aEq P 6 t a b = some c → (Op.equal t a' b').run P w = .ok c w := fun c hc => aEq_run 6 t a b a' b' c w 10000 hc (by omega) ha hb
      have hb1 : binOp .eql t a' b' = (do pure (.bool (← Op.equal t a' b'))) := by
        cases ha <;> cases hb <;> first | rfl | exact (hni _ _ _ _ rfl rfl).elim | exact (hns _ _ rfl rfl).elim
      have hb2 : binOp .neq t a' b' = (do pure (.bool (!(← Op.equal t a' b')))) := by
        cases ha <;> cases hb <;> first | rfl | exact (hni _ _ _ _ rfl rfl).elim | exact (hns _ _ rfl rfl).elim
      split at h
      · simp only [Option.map_eq_some_iff] at h
        obtain ⟨c, hc, rfl⟩ := h
        exact ⟨.bool c, by rw [hb1]; simp [key c hc], .bool _⟩
      · simp only [Option.map_eq_some_iff] at h
        obtain ⟨c, hc, rfl⟩ := h
        exact ⟨.bool (!c), by rw [hb2]; simp [key c hc], .bool _⟩
      · cases h

end Go.Ab
