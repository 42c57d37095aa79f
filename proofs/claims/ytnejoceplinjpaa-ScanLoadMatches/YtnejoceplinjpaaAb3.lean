/- Own layer 'Ab': addresses, slices, parts. -/
import Derived.Test.YtnejoceplinjpaaAb2
namespace Go.Ab

/-- 's.run' comes to a related value and leaves the world. -/
def Rd (P : Program) (ρ : Ren) (w : World) (s : Sem Value) (v : Value) : Prop := ∃ v', s.run P w = .ok v' w ∧ VR ρ v v'

theorem Rd.snd {P : Program} {ρ : Ren} {h : AH} {w : World} {s : Sem Value} {v : Value} (hr : HR ρ h w) (a : Rd P ρ w s v) : Snd P ρ h w s v h :=
  let ⟨_, x, y⟩ := a; Snd.pure hr x y

def aNil (x : Value) : Option Value :=
  match x with
  | .pointer none | .nilIface | .nilFunc => none
  | .func (.func f) a b => some (.func (.func f) a b)
  | .func (.yield l) a b => some (.func (.yield l) a b)
  | .func _ _ _ => none
  | x => some x

def aUn (op : UnOp) (x : Value) : Option Value :=
  match op, x with
  | .not, .bool b => some (.bool (!b))
  | .neg, .int k n => some (.int k (k.wrap (0 - n)))
  | .xor, .int k n => some (.int k (k.wrap (BitVec.ofInt k.bits (if k.signed then -1 else k.max) ^^^ BitVec.ofInt k.bits n).toNat))
  | _, _ => none

theorem aUn_run {P : Program} {ρ : Ren} {op : UnOp} {x x' v : Value} (hx : VR ρ x x') (h : aUn op x = some v) (w : World) : Rd P ρ w (Op.unary op x') v := by
  unfold aUn at h
  split at h <;> (try cases h) <;> cases hx
  · exact ⟨_, rfl, .bool _⟩
  · exact ⟨_, rfl, .int _ _⟩
  · exact ⟨_, rfl, .int _ _⟩

def aConv (P : Program) (s d : TypeId) (x : Value) : Option Value :=
  match P.underlying s, P.underlying d, x with
  | some _, some (.int k), .int _ n => some (.int k (k.wrap n))
  | some .string, some .string, .string b => some (.string b)
  | _, _, _ => none

theorem aConv_run {P : Program} {ρ : Ren} {s d : TypeId} {x x' v : Value} (hx : VR ρ x x') (h : aConv P s d x = some v) (w : World) : Rd P ρ w (convert s d x') v := by
  unfold aConv at h
  split at h
  · rename_i ds k k' n hs hd
    cases hx; cases h
    refine ⟨.int k (k.wrap n), ?_, .int _ _⟩
    simp only [convert, Sem.run_bind, r_under w hs, r_under w hd, Result.andThen_ok, Conv.intToInt, Sem.run_pure]
  · rename_i b hs hd
    cases hx; cases h
    refine ⟨.string b, ?_, .string _⟩
    simp only [convert, Sem.run_bind, r_under w hs, r_under w hd, Result.andThen_ok, Sem.run_pure]
  · cases h

/-- The offset of a field, where the field has a cell. -/
def fOff (P : Program) (s : TypeId) (f : Nat) : Option Nat :=
  match P.underlying s with
  | some (.struct fs) =>
    match fs[f]? with
    | some fd => match P.info? fd.type with
      | some i => if i.size = 0 then none else some fd.offset
      | none => none
    | none => none
  | _ => none

def aFieldAddr (P : Program) (s : TypeId) (f : Nat) (p : Value) : Option Value :=
  match p with
  | .pointer (some ⟨A, off, none⟩) =>
    match fOff P s f with
    | some k => some (.pointer (some ⟨A, off + k, none⟩))
    | none => none
  | _ => none

theorem aFieldAddr_run {P : Program} {ρ : Ren} {s : TypeId} {f : Nat} {p p' v : Value} (hp : VR ρ p p') (h : aFieldAddr P s f p = some v) (w : World) : Rd P ρ w (Instr.fieldAt s p' f) v := by
  unfold aFieldAddr at h
  split at h
  case h_2 => cases h
  case h_1 A off =>
    cases hp with
    | ptr hq =>
      rename_i r
      cases hk : fOff P s f with
      | none => simp [hk] at h
      | some k =>
        simp only [hk] at h; cases h
        unfold fOff at hk
        split at hk
        case h_2 => cases hk
        case h_1 fs hs =>
          split at hk
          case h_2 => cases hk
          case h_1 fd hfd =>
            split at hk
            case h_2 => cases hk
            case h_1 i hi =>
              split at hk
              · cases hk
              · rename_i hz
                cases hk
                refine ⟨.pointer (some ⟨r.blk, r.base + (off + fd.offset), none⟩), ?_, .ptr hq⟩
                simp only [Instr.fieldAt, Sem.run_bind, r_under w hs, Result.andThen_ok, hfd, Instr.sureAddr, Sem.run_pure, fieldPlace, r_size w hi, hz, if_false, add_add, Nat.add_assoc]

def aField (P : Program) (s : TypeId) (x : Value) (f : Nat) : Option Value :=
  match P.underlying s with
  | some (.struct fs) =>
    match fs[f]?, x with
    | some fd, .agg cs => aPart P fd.type cs fd.offset
    | _, _ => none
  | _ => none

theorem aField_run {P : Program} {ρ : Ren} {s : TypeId} {f : Nat} {x x' v : Value} (hx : VR ρ x x') (h : aField P s x f = some v) (w : World) : Rd P ρ w (Instr.field s x' f) v := by
  unfold aField at h
  split at h
  case h_2 => cases h
  case h_1 fs hs =>
    split at h
    · rename_i fd cs hfd
      obtain ⟨cs', rfl, hl⟩ := hx.ofAgg
      obtain ⟨v', hv, hvr⟩ := aPart_VR hl h
      refine ⟨v', ?_, hvr⟩
      simp only [Instr.field, Sem.run_bind, r_under w hs, Result.andThen_ok, hfd, asAgg, Sem.run_pure, aPart_run hv w]
    · cases h

def aIndexAddr (P : Program) (t : TypeId) (x i : Value) : Option Value :=
  match i with
  | .int _ n =>
    match P.underlying t, x with
    | some (.array len e), .pointer (some ⟨A, off, none⟩) =>
      match P.info? e with
      | some ie => if 0 ≤ n ∧ n < (len : Int) then some (.pointer (some ⟨A, off + n.toNat * ie.size, none⟩)) else none
      | none => none
    | some (.slice e), .slice (some ⟨A, off, none⟩) len _ =>
      match P.info? e with
      | some ie => if 0 ≤ n ∧ n < (len : Int) then some (.pointer (some ⟨A, off + n.toNat * ie.size, none⟩)) else none
      | none => none
    | _, _ => none
  | _ => none

theorem aIndexAddr_run {P : Program} {ρ : Ren} {t : TypeId} {x i x' i' v : Value} (hx : VR ρ x x') (hi : VR ρ i i') (h : aIndexAddr P t x i = some v) (w : World) : Rd P ρ w (Instr.indexAt t x' i') v := by
  unfold aIndexAddr at h
  split at h
  case h_2 => cases h
  case h_1 k n =>
    cases hi
    split at h
    · rename_i len e A off ht
      cases hx with
      | ptr hq =>
        rename_i r
        cases he : P.info? e with
        | none => simp [he] at h
        | some ie =>
          simp only [he] at h
          split at h
          · rename_i hb; cases h
            refine ⟨.pointer (some ⟨r.blk, r.base + (off + n.toNat * ie.size), none⟩), ?_, .ptr hq⟩
            simp only [Instr.indexAt, asIntOf, Sem.run_bind, Sem.run_pure, Result.andThen_ok, r_under w ht, Instr.sureAddr, hb, and_self, if_true, r_size w he, add_add, Nat.add_assoc]
          · cases h
    · rename_i e A off len c ht
      cases he : P.info? e with
      | none => simp [he] at h
      | some ie =>
        simp only [he] at h
        split at h
        · rename_i hb; cases h
          cases hx with
          | slice hq hc =>
            rename_i r
            refine ⟨.pointer (some ⟨r.blk, r.base + (off + n.toNat * ie.size), none⟩), ?_, .ptr hq⟩
            simp only [Instr.indexAt, asIntOf, Sem.run_bind, Sem.run_pure, Result.andThen_ok, r_under w ht, hb, and_self, if_true, r_size w he, add_add, Nat.add_assoc]
          | slack hq hl hlim =>
            rename_i c' s r
            refine ⟨.pointer (some ⟨r.blk, r.base + (off + n.toNat * ie.size), none⟩), ?_, .ptr hq⟩
            simp only [Instr.indexAt, asIntOf, Sem.run_bind, Sem.run_pure, Result.andThen_ok, r_under w ht, hb, and_self, if_true, r_size w he, add_add, Nat.add_assoc]
          | slack0 hq => omega
        · cases h
    · cases h

def aIndex (P : Program) (t : TypeId) (x i : Value) : Option Value :=
  match i with
  | .int _ n =>
    match P.underlying t, x with
    | some (.array len e), .agg cs =>
      match P.info? e with
      | some ie => if 0 ≤ n ∧ n < (len : Int) then aPart P e cs (n.toNat * ie.size) else none
      | none => none
    | some .string, .string s => if 0 ≤ n then (match s[n.toNat]? with | some b => some (.int .u8 b.toNat) | none => none) else none
    | _, _ => none
  | _ => none

theorem aIndex_run {P : Program} {ρ : Ren} {t : TypeId} {x i x' i' v : Value} (hx : VR ρ x x') (hi : VR ρ i i') (h : aIndex P t x i = some v) (w : World) : Rd P ρ w (Instr.index t x' i') v := by
  unfold aIndex at h
  split at h
  case h_2 => cases h
  case h_1 k n =>
    cases hi
    split at h
    · rename_i len e cs ht
      obtain ⟨cs', rfl, hl⟩ := hx.ofAgg
      cases he : P.info? e with
      | none => simp [he] at h
      | some ie =>
        simp only [he] at h
        split at h
        · rename_i hb
          obtain ⟨v', hv, hvr⟩ := aPart_VR hl h
          refine ⟨v', ?_, hvr⟩
          simp only [Instr.index, asIntOf, Sem.run_bind, Sem.run_pure, Result.andThen_ok, r_under w ht, hb, and_self, if_true, r_size w he, aPart_run hv w]
        · cases h
    · rename_i s ht
      cases hx
      split at h
      · rename_i hn
        cases hs : s[n.toNat]? with
        | none => simp [hs] at h
        | some b =>
          simp only [hs] at h; cases h
          refine ⟨.int .u8 b.toNat, ?_, .int _ _⟩
          simp only [Instr.index, asIntOf, Sem.run_bind, Sem.run_pure, Result.andThen_ok, r_under w ht, hn, if_true, hs]
      · cases h
    · cases h

/-- The value of a bound. -/
def bnd (v : Option Value) (d : Nat) : Option Nat :=
  match v with
  | none => some d
  | some (.int _ n) => if 0 ≤ n then some n.toNat else none
  | _ => none

theorem bnd_run {P : Program} {ρ : Ren} {v : Value} {v' : Value} {d k y : Nat} {code : BoundsCode} (hv : VR ρ v v') (h : bnd (some v) d = some k) (hk : k ≤ y) (w : World) :
    (Instr.sliceBound v' y code).run P w = .ok k w := by
  unfold bnd at h
  split at h
  · rename_i e; cases e
  · rename_i q n e
    cases e
    cases hv
    split at h
    · cases h
      simp only [Instr.sliceBound, asIntOf, Sem.run_bind, Sem.run_pure, Result.andThen_ok]
      rw [if_pos ⟨by assumption, by omega⟩]; rfl
    · cases h
  · cases h

/-- Optional operands, one by one. -/
def OV (ρ : Ren) : Option Value → Option Value → Prop
  | none, none => True
  | some a, some b => VR ρ a b
  | _, _ => False

theorem bounds_run {P : Program} {ρ : Ren} {b : Bool} {len cap l h : Nat} {lo hi lo' hi' : Option Value} (hlo : OV ρ lo lo') (hhi : OV ρ hi hi') (hl : bnd lo 0 = some l) (hh : bnd hi len = some h)
    (h1 : l ≤ h) (h2 : h ≤ cap) (w : World) : (Instr.sliceBounds b len cap lo' hi' none).run P w = .ok (l, h, cap) w := by
  unfold Instr.sliceBounds
  cases hi with
  | none =>
    cases hi' with
    | some _ => exact hhi.elim
    | none =>
      simp only [bnd, Option.some.injEq] at hh; subst hh
      cases lo with
      | none =>
        cases lo' with
        | some _ => exact hlo.elim
        | none => simp only [bnd, Option.some.injEq] at hl; subst hl; simp
      | some x =>
        cases lo' with
        | none => exact hlo.elim
        | some x' => simp [bnd_run (P := P) hlo hl h1 w]
  | some y =>
    cases hi' with
    | none => exact hhi.elim
    | some y' =>
      have hy := fun code => bnd_run (P := P) (code := code) hhi hh h2 w
      cases lo with
      | none =>
        cases lo' with
        | some _ => exact hlo.elim
        | none => simp only [bnd, Option.some.injEq] at hl; subst hl; simp [hy]
      | some x =>
        cases lo' with
        | none => exact hlo.elim
        | some x' => simp [hy, bnd_run (P := P) hlo hl h1 w]

def aSlice (P : Program) (t : TypeId) (x : Value) (lo hi : Option Value) : Option Value :=
  match P.underlying t, x with
  | some .string, .string s =>
    match bnd lo 0, bnd hi s.size with
    | some l, some h => if l ≤ h ∧ h ≤ s.size then some (.string (s.extract l h)) else none
    | _, _ => none
  | some (.slice e), .slice none len cap =>
    match bnd lo 0, bnd hi len, P.info? e with
    | some l, some h, some _ => if l ≤ h ∧ h ≤ cap then some (.slice none (h - l) (cap - l)) else none
    | _, _, _ => none
  | some (.slice e), .slice (some ⟨A, off, none⟩) len cap =>
    match bnd lo 0, bnd hi len, P.info? e with
    | some l, some h, some ie =>
      if cap < SL then
        if l ≤ h ∧ h ≤ cap then some (.slice (some ⟨A, if cap = l then off else off + l * ie.size, none⟩) (h - l) (cap - l)) else none
      else if cap = SL + ie.size ∧ l ≤ h ∧ h ≤ len then some (.slice (some ⟨A, off + l * ie.size, none⟩) (h - l) cap) else none
    | _, _, _ => none
  | some (.array n e), .pointer (some ⟨A, off, none⟩) =>
    match bnd lo 0, bnd hi n, P.info? e with
    | some l, some h, some ie =>
      if l ≤ h ∧ h ≤ n ∧ n < SL then some (.slice (some ⟨A, if n = l then off else off + l * ie.size, none⟩) (h - l) (n - l)) else none
    | _, _, _ => none
  | _, _ => none

theorem aSlice_run {P : Program} {ρ : Ren} {t : TypeId} {x x' v : Value} {lo hi lo' hi' : Option Value} (hx : VR ρ x x') (hlo : OV ρ lo lo') (hhi : OV ρ hi hi')
    (h : aSlice P t x lo hi = some v) (w : World) : Rd P ρ w (Instr.sliceAt t x' lo' hi' none) v := by
  unfold aSlice at h
  split at h
  · rename_i s ht
    cases hx
    split at h
    · rename_i l u hl hu
      split at h
      · rename_i hb; cases h
        refine ⟨_, ?_, .string _⟩
        simp only [Instr.sliceAt, Instr.slice, Sem.run_bind, r_under w ht, Result.andThen_ok, Option.isSome_none, Bool.false_eq_true, if_false, bounds_run hlo hhi hl hu hb.1 hb.2 w, Sem.run_pure]
      · cases h
    · cases h
  · rename_i e len cap ht
    cases hx
    split at h
    · rename_i l u ie hl hu he
      split at h
      · rename_i hb; cases h
        refine ⟨_, ?_, .nilSlice _ _⟩
        simp only [Instr.sliceAt, Instr.slice, Sem.run_bind, r_under w ht, Result.andThen_ok, bounds_run hlo hhi hl hu hb.1 hb.2 w, Sem.run_pure, r_size w he, Option.map_none, ite_self]
      · cases h
    · cases h
  · rename_i e A off len cap ht
    split at h
    · rename_i l u ie hl hu he
      split at h
      · rename_i hcap
        split at h
        · rename_i hb; cases h
          cases hx with
          | slice hq hc =>
            rename_i r
            refine ⟨.slice (some ⟨r.blk, r.base + (if cap = l then off else off + l * ie.size), none⟩) (u - l) (cap - l), ?_, .slice hq (by omega)⟩
            simp only [Instr.sliceAt, Instr.slice, Sem.run_bind, r_under w ht, Result.andThen_ok, bounds_run hlo hhi hl hu hb.1 hb.2 w, Sem.run_pure, r_size w he, Option.map_some, add_add]
            congr 2
            split <;> simp [Nat.add_assoc]
          | slack hq hl hlim => omega
          | slack0 hq => omega
        · cases h
      · rename_i hcap
        split at h
        · rename_i hb; cases h
          obtain ⟨hce, hb⟩ := hb
          cases hx with
          | slice hq hc => exact absurd hc hcap
          | slack hq hle hlim =>
            rename_i c s r
            have hs : s = ie.size := by omega
            subst hs
            have hrun : (Instr.sliceAt t (.slice (some ⟨r.blk, r.base + off, none⟩) len c) lo' hi' none).run P w =
                .ok (.slice (if c = l then some ⟨r.blk, r.base + off, none⟩ else some ⟨r.blk, r.base + (off + l * ie.size), none⟩) (u - l) (c - l)) w := by
              simp only [Instr.sliceAt, Instr.slice, Sem.run_bind, r_under w ht, Result.andThen_ok, bounds_run hlo hhi hl hu hb.1 (Nat.le_trans hb.2 hle) w, Sem.run_pure, r_size w he, Option.map_some, add_add, Nat.add_assoc]
            by_cases hcl : c = l
            · refine ⟨_, hrun, ?_⟩
              rw [if_pos hcl, show u - l = 0 by omega, show c - l = 0 by omega]
              exact .slack0 hq
            · refine ⟨_, hrun, ?_⟩
              rw [if_neg hcl]
              refine .slack hq (by omega) ?_
              have : (c - l) * ie.size + l * ie.size = c * ie.size := by rw [← Nat.add_mul]; congr 1; omega
              omega
          | slack0 hq =>
            rename_i off' s r
            have hs : s = ie.size := by omega
            subst hs
            have hl0 : l = 0 := by omega
            have hu0 : u = 0 := by omega
            subst hl0; subst hu0
            refine ⟨.slice (some ⟨r.blk, off', none⟩) 0 0, ?_, by simpa using VR.slack0 hq⟩
            simp only [Instr.sliceAt, Instr.slice, Sem.run_bind, r_under w ht, Result.andThen_ok, bounds_run (len := 0) (cap := 0) hlo hhi hl hu (Nat.le_refl _) (Nat.le_refl _) w, Sem.run_pure, r_size w he, if_true, Nat.sub_self]
        · cases h
    · cases h
  · rename_i n e A off ht
    split at h
    · rename_i l u ie hl hu he
      split at h
      · rename_i hb; cases h
        cases hx with
        | ptr hq =>
          rename_i r
          refine ⟨.slice (some ⟨r.blk, r.base + (if n = l then off else off + l * ie.size), none⟩) (u - l) (n - l), ?_, .slice hq (by omega)⟩
          simp only [Instr.sliceAt, Instr.sureAddr, Sem.run_bind, r_under w ht, Result.andThen_ok, bounds_run hlo hhi hl hu hb.1 hb.2.1 w, Sem.run_pure, r_size w he, add_add]
          congr 3
          split <;> simp
      · cases h
    · cases h
  · cases h

def aExtract (x : Value) (i : Nat) : Option Value :=
  match x with
  | .tuple vs => vs[i]?
  | _ => none

theorem aExtract_run {P : Program} {ρ : Ren} {x x' v : Value} {i : Nat} (hx : VR ρ x x') (h : aExtract x i = some v) (w : World) : Rd P ρ w (Instr.extract x' i) v := by
  unfold aExtract at h
  split at h
  · rename_i vs
    obtain ⟨vs', rfl, hl⟩ := hx.ofTuple
    obtain ⟨v', a, b⟩ := hl.get (i := i) (v := v) (by simpa using h)
    exact ⟨v', by simp only [Instr.extract]; rw [show vs'[i]? = some v' by simpa using a]; rfl, b⟩
  · cases h

end Go.Ab
