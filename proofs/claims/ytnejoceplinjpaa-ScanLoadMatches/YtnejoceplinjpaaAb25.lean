/- Own layer 'Ab': rules for a walk whose side conditions are reckoned: guards, loops, slices read, numbers in range, appends. -/
import Derived.Test.YtnejoceplinjpaaAb24
namespace Go.Ab

section
variable {P : Program}

theorem g1 (b : Bool) : ((some b : Option Bool) == some false) = !b := by cases b <;> rfl
theorem g2 (b : Bool) : ((some b : Option Bool) == some true) = b := by cases b <;> rfl

/-- One operation, behind its guard. -/
def stepM (P : Program) (ops : Array Oper) (N : AAct → AH → Prop) (o : Oper) (l : List Oper) (a : AAct) (h : AH) : Prop :=
  match o.op with
  | .call { callee := .value f, args, .. } => callR P (a.ev f) (args.toList.map a.ev) h (contK (opsM P ops N l) o.dst a)
  | .next it false => NextW (a.ev it) h (contK (opsM P ops N l) o.dst a)
  | op => match dop P a.ev op h with
    | some (v, h') => opsM P ops N l (a.put o.dst v) h'
    | none => False

def wantM (w : Bool) (P : Program) (ops : Array Oper) (N : AAct → AH → Prop) (o : Oper) (l : List Oper) (a : AAct) (h : AH) : Prop :=
  match w with
  | false => opsM P ops N l (a.put o.dst undef) h
  | true => stepM P ops N o l a h

def okM (k : Bool) (P : Program) (ops : Array Oper) (N : AAct → AH → Prop) (o : Oper) (l : List Oper) (a : AAct) (h : AH) : Prop :=
  match k with
  | false => False
  | true => wantM (Region.wanted o (yieldedA ops a)) P ops N o l a h

theorem okM_true {ops : Array Oper} {N : AAct → AH → Prop} {o : Oper} {l : List Oper} {a : AAct} {h : AH} : okM true P ops N o l a h = wantM (Region.wanted o (yieldedA ops a)) P ops N o l a h := rfl

theorem opsM_cons2 {ops : Array Oper} {N : AAct → AH → Prop} {o : Oper} {l : List Oper} {a : AAct} {h : AH} : opsM P ops N (o :: l) a h = okM (okB o a) P ops N o l a h := by
  rw [opsM_cons]
  cases okB o a
  · rfl
  · simp only [okM_true, wantM]
    cases Region.wanted o (yieldedA ops a)
    · rfl
    · simp only [stepM]
      obtain ⟨dst, op, ty, pos, after, guard⟩ := o
      cases op with
      | call c => obtain ⟨f, args, at'⟩ := c; cases f <;> rfl
      | next it b => cases b <;> rfl
      | _ => rfl

theorem wantM_true {ops : Array Oper} {N : AAct → AH → Prop} {o : Oper} {l : List Oper} {a : AAct} {h : AH} : wantM true P ops N o l a h = stepM P ops N o l a h := rfl
theorem wantM_false {ops : Array Oper} {N : AAct → AH → Prop} {o : Oper} {l : List Oper} {a : AAct} {h : AH} : wantM false P ops N o l a h = opsM P ops N l (a.put o.dst undef) h := rfl
theorem wantM_of {b : Bool} {ops : Array Oper} {N : AAct → AH → Prop} {o : Oper} {l : List Oper} {a : AAct} {h : AH} (ht : b = true → stepM P ops N o l a h) (hf : b = false → opsM P ops N l (a.put o.dst undef) h) : wantM b P ops N o l a h := by
  cases b
  · exact hf rfl
  · exact ht rfl
theorem wantM_not {b : Bool} {ops : Array Oper} {N : AAct → AH → Prop} {o : Oper} {l : List Oper} {a : AAct} {h : AH} (ht : b = true → opsM P ops N l (a.put o.dst undef) h) (hf : b = false → stepM P ops N o l a h) : wantM (!b) P ops N o l a h := by
  cases b
  · exact hf rfl
  · exact ht rfl

theorem ex_some0 {α : Type} {x : α} : (∃ v, some x = some v) = True := by simp
/-- Both; the second unapplied, so that it is looked at once. -/
def andK (A : Prop) (F : AAct → AH → Prop) (a : AAct) (h : AH) : Prop := A ∧ F a h
theorem andK_true {F : AAct → AH → Prop} {a : AAct} {h : AH} : andK True F a h = F a h := by simp [andK]

theorem wpA_cond2 {rd : Option Nat} {Q : Exit → AAct → AH → Prop} {a : AAct} {h : AH} {c : Operand} {x y : Code} : wpA P rd (.cond c x y) Q a h = andK (cOK c = true) (condV (a.ev c) (wpA P rd x Q) (wpA P rd y Q)) a h := rfl

theorem closeMarks_nil (h : AH) : closeMarks [] h = some h := rfl
theorem bodyR_ret2 {rs : List ResultVar} {K : Value → AH → Prop} {a : AAct} {h : AH} : bodyR P rs K .ret a h = ∃ h', closeMarks a.df h = some h' ∧ ∃ vs, resL P a.tm h' rs = some vs ∧ K (resV vs) h' := by
  apply propext
  constructor
  · rintro ⟨_, h', vs, e, x, y⟩; exact ⟨h', e, vs, x, y⟩
  · rintro ⟨h', e, vs, x, y⟩; exact ⟨.inr rfl, h', vs, e, x, y⟩
theorem bodyR_normal2 {rs : List ResultVar} {K : Value → AH → Prop} {a : AAct} {h : AH} : bodyR P rs K .normal a h = ∃ h', closeMarks a.df h = some h' ∧ ∃ vs, resL P a.tm h' rs = some vs ∧ K (resV vs) h' := by
  apply propext
  constructor
  · rintro ⟨_, h', vs, e, x, y⟩; exact ⟨h', e, vs, x, y⟩
  · rintro ⟨h', e, vs, x, y⟩; exact ⟨.inl rfl, h', vs, e, x, y⟩

/-! ### Drawn regions -/

def stepS (P : Program) (ops : Array Oper) (N : AAct → AH → Prop) (k : Nat) (o : Oper) (l : List (Nat × Oper)) (R : List (Oper × Value)) (a : AAct) (h : AH) : Prop :=
  match k with
  | 0 => (match dop P a.ev o.op h with
    | some (v, h') => andK (h' = h) (seqM P ops N l R) (a.put o.dst v) h
    | none => False)
  | 1 => (match dop P a.ev o.op h with
    | some (v, h') => andK (h' = h) (seqM P ops N l ((o, v) :: R)) (a.put o.dst v) h
    | none => False)
  | _ => match o.op with
    | .call { callee := .value f, args, .. } => callR P (a.ev f) (args.toList.map a.ev) h (contK (fun a h => andK (Keeps P ops R a h) (seqM P ops N l R) a h) o.dst a)
    | .next it false => NextW (a.ev it) h (contK (fun a h => andK (Keeps P ops R a h) (seqM P ops N l R) a h) o.dst a)
    | op => match dop P a.ev op h with
      | some (v, h') => andK (Keeps P ops R (a.put o.dst v) h') (seqM P ops N l R) (a.put o.dst v) h'
      | none => False

def skipS (P : Program) (ops : Array Oper) (N : AAct → AH → Prop) (k : Nat) (o : Oper) (l : List (Nat × Oper)) (R : List (Oper × Value)) (a : AAct) (h : AH) : Prop :=
  match k with
  | 0 => seqM P ops N l R (a.put o.dst undef) h
  | 1 => seqM P ops N l ((o, undef) :: R) (a.put o.dst undef) h
  | _ => andK (Keeps P ops R (a.put o.dst undef) h) (seqM P ops N l R) (a.put o.dst undef) h

def wantS (w : Bool) (P : Program) (ops : Array Oper) (N : AAct → AH → Prop) (k : Nat) (o : Oper) (l : List (Nat × Oper)) (R : List (Oper × Value)) (a : AAct) (h : AH) : Prop :=
  match w with
  | false => skipS P ops N k o l R a h
  | true => stepS P ops N k o l R a h

def okS (b : Bool) (P : Program) (ops : Array Oper) (N : AAct → AH → Prop) (k : Nat) (o : Oper) (l : List (Nat × Oper)) (R : List (Oper × Value)) (a : AAct) (h : AH) : Prop :=
  match b with
  | false => False
  | true => wantS (Region.wanted o (yieldedA ops a)) P ops N k o l R a h

theorem okS_true {ops : Array Oper} {N : AAct → AH → Prop} {k : Nat} {o : Oper} {l : List (Nat × Oper)} {R : List (Oper × Value)} {a : AAct} {h : AH} : okS true P ops N k o l R a h = wantS (Region.wanted o (yieldedA ops a)) P ops N k o l R a h := rfl
theorem seqM_nil2 {ops : Array Oper} {N : AAct → AH → Prop} {R : List (Oper × Value)} {a : AAct} {h : AH} : seqM P ops N [] R a h = N a h := rfl
theorem seqM_cons2 {ops : Array Oper} {N : AAct → AH → Prop} {k : Nat} {o : Oper} {l : List (Nat × Oper)} {R : List (Oper × Value)} {a : AAct} {h : AH} :
    seqM P ops N ((k, o) :: l) R a h = okS (okB o a) P ops N k o l R a h := by
  cases hk : okB o a
  · simp [seqM, hk, okS]
  · simp only [seqM, hk, okS_true, wantS]
    rcases k with _ | _ | k
    · cases Region.wanted o (yieldedA ops a) <;> rfl
    · cases Region.wanted o (yieldedA ops a) <;> rfl
    · cases Region.wanted o (yieldedA ops a)
      · rfl
      · simp only [stepS]
        obtain ⟨dst, op, ty, pos, after, guard⟩ := o
        cases op with
        | call c => obtain ⟨f, args, at'⟩ := c; cases f <;> rfl
        | next it b => cases b <;> rfl
        | _ => rfl

theorem wantS_true {ops : Array Oper} {N : AAct → AH → Prop} {k : Nat} {o : Oper} {l : List (Nat × Oper)} {R : List (Oper × Value)} {a : AAct} {h : AH} : wantS true P ops N k o l R a h = stepS P ops N k o l R a h := rfl
theorem wantS_false {ops : Array Oper} {N : AAct → AH → Prop} {k : Nat} {o : Oper} {l : List (Nat × Oper)} {R : List (Oper × Value)} {a : AAct} {h : AH} : wantS false P ops N k o l R a h = skipS P ops N k o l R a h := rfl
theorem wantS_of {b : Bool} {ops : Array Oper} {N : AAct → AH → Prop} {k : Nat} {o : Oper} {l : List (Nat × Oper)} {R : List (Oper × Value)} {a : AAct} {h : AH} (ht : b = true → stepS P ops N k o l R a h) (hf : b = false → skipS P ops N k o l R a h) : wantS b P ops N k o l R a h := by
  cases b
  · exact hf rfl
  · exact ht rfl
theorem wantS_not {b : Bool} {ops : Array Oper} {N : AAct → AH → Prop} {k : Nat} {o : Oper} {l : List (Nat × Oper)} {R : List (Oper × Value)} {a : AAct} {h : AH} (ht : b = true → skipS P ops N k o l R a h) (hf : b = false → stepS P ops N k o l R a h) : wantS (!b) P ops N k o l R a h := by
  cases b
  · exact hf rfl
  · exact ht rfl

/-! ### Loops -/

/-- The temporaries that a loop leaves: those below 'lo', but for X. -/
def Kp (lo : Nat) (X : List Nat) (a0 a : AAct) : Prop := a.n = a0.n ∧ a.df = a0.df ∧ ∀ i, i < lo → i ∉ X → a.tm i = a0.tm i

theorem Kp.refl (lo : Nat) (X : List Nat) (a : AAct) : Kp lo X a a := ⟨rfl, rfl, fun _ _ _ => rfl⟩
theorem Kp.put {lo : Nat} {X : List Nat} {a0 a : AAct} (h : Kp lo X a0 a) {t : Tmp} {v : Value} (ht : (decide (lo ≤ t) || X.contains t) = true) : Kp lo X a0 (a.put (some t) v) := by
  refine ⟨h.1, h.2.1, fun i hi hx => ?_⟩
  rw [put_tm, if_neg]
  · exact h.2.2 i hi hx
  · rintro rfl
    simp at ht
    rcases ht with ht | ht
    · omega
    · exact hx ht
theorem Kp_put {lo : Nat} {X : List Nat} {a0 a : AAct} {t : Tmp} {v : Value} (ht : (decide (lo ≤ t) || X.contains t) = true) : Kp lo X a0 (a.put (some t) v) = Kp lo X a0 a := by
  apply propext
  constructor
  · intro h
    refine ⟨h.1, (put_df a (some t) v).symm.trans h.2.1, fun i hi hx => ?_⟩
    have := h.2.2 i hi hx
    rw [put_tm, if_neg] at this
    · exact this
    · rintro rfl
      simp at ht
      rcases ht with ht | ht
      · omega
      · exact hx ht
  · exact fun h => h.put ht
theorem Kp.none {lo : Nat} {X : List Nat} {a0 a : AAct} (h : Kp lo X a0 a) {v : Value} : Kp lo X a0 (a.put none v) := h
theorem Kp.trans {lo lo' : Nat} {X X' : List Nat} {a0 a1 a : AAct} (h : Kp lo X a0 a1) (g : Kp lo' X' a1 a) (hl : lo ≤ lo') (hX : ∀ i ∈ X', i < lo → i ∈ X) : Kp lo X a0 a :=
  ⟨g.1.trans h.1, g.2.1.trans h.2.1, fun i hi hx => (g.2.2 i (by omega) (fun hm => hx (hX i hm hi))).trans (h.2.2 i hi hx)⟩
theorem Kp.n {lo : Nat} {X : List Nat} {a0 a : AAct} (h : Kp lo X a0 a) : a.n = a0.n := h.1
theorem Kp.df {lo : Nat} {X : List Nat} {a0 a : AAct} (h : Kp lo X a0 a) : a.df = a0.df := h.2.1
theorem Kp.tm {lo : Nat} {X : List Nat} {a0 a : AAct} (h : Kp lo X a0 a) : ∀ i, i < lo → i ∉ X → a.tm i = a0.tm i := h.2.2

/-- Behind a round. -/
def loopQ (lo : Nat) (X : List Nat) (a0 : AAct) (I : Nat → AAct → AH → Prop) (m : Nat) (a : AAct) (h : AH) : Prop := ∃ m', m' < m ∧ Kp lo X a0 a ∧ I m' a h

theorem AW.loopK {rd : Option Nat} {c : Code} {Q : Exit → AAct → AH → Prop} {a0 : AAct} {h : AH} (lo : Nat) (X : List Nat) (I : Nat → AAct → AH → Prop) (m : Nat) (h0 : I m a0 h)
    (round : ∀ m a h, Kp lo X a0 a → I m a h → wpA P rd c (thenQ (loopQ lo X a0 I m) Q) a h) : AW P rd (.loop c) Q a0 h := by
  refine AW.loop (fun m a h => Kp lo X a0 a ∧ I m a h) m ⟨Kp.refl _ _ _, h0⟩ ?_
  rintro m a h ⟨hk, hI⟩
  refine AW.mono ?_ (wpA_sound _ _ _ _ (round m a h hk hI))
  intro e a h hq
  cases e with
  | normal => obtain ⟨m', h1, h2, h3⟩ := hq; exact ⟨m', h1, h2, h3⟩
  | _ => exact hq

/-! ### Numbers -/

theorem wrapI {x : Int} (h0 : -9223372036854775808 ≤ x) (h1 : x < 9223372036854775808) : IntKind.i64.wrap x = x := Go.IntWalk.i64_in _ (by omega)

/-! ### Slices, read -/

/-- The address of a slice's element. -/
def slAt (sz : Nat) (v : Value) (i : Nat) : Value :=
  match v with
  | .slice (some ⟨A, off, none⟩) _ _ => .pointer (some ⟨A, off + i * sz, none⟩)
  | _ => undef

theorem SlOf.idx {h : AH} {v : Value} {vs : List Value} (hs : SlOf h v vs) {t e : TypeId} (ht : Sl1 P t e) : ∀ (k : IntKind) (n : Int), 0 ≤ n → n < vs.length → aIndexAddr P t v (.int k n) = some (slAt 1 v n.toNat) := by
  intro k n h0 hn
  obtain ⟨p, l, c, rfl, rfl, hsp, hcs⟩ := hs
  rcases hcs with rfl | ⟨A, off, o, cs, rfl, hg, hc, hall⟩
  · simp at hn; omega
  · obtain ⟨ie, hi, h1⟩ := ht.one
    simp only [aIndexAddr, ht.sl, hi]
    rw [if_pos ⟨by omega, by omega⟩, h1]; rfl

theorem SlOf.ld {h : AH} {v : Value} {vs : List Value} (hs : SlOf h v vs) {t e : TypeId} (ht : Sl1 P t e) : ∀ (n : Nat), n < vs.length → aLoad P e (slAt 1 v n) h = some (vs.getD n undef) := by
  intro n hn
  obtain ⟨p, l, c, rfl, rfl, hsp, hcs⟩ := hs
  rcases hcs with rfl | ⟨A, off, o, cs, rfl, hg, hc, hall⟩
  · simp at hn
  · obtain ⟨d, hd, hagg⟩ := ht.flat
    simp only [slAt, aLoad, hg, Option.bind_some, hc, hd, hagg, Bool.false_eq_true, if_false, Nat.mul_one]
    rw [hall n vs[n] (List.getElem?_eq_getElem hn)]
    simp [List.getD_eq_getElem?_getD, hn]

/-- Slices of integers. -/
theorem SlOf.idxI {h : AH} {v : Value} {zs : List Int} {k0 : IntKind} (hs : SlOf h v (zs.map (.int k0))) {t e : TypeId} (ht : Sl1 P t e) : ∀ (k : IntKind) (n : Int), 0 ≤ n → n < zs.length → aIndexAddr P t v (.int k n) = some (slAt 1 v n.toNat) :=
  fun k n h0 hn => hs.idx ht k n h0 (by simpa using hn)
theorem SlOf.ldI {h : AH} {v : Value} {zs : List Int} {k0 : IntKind} (hs : SlOf h v (zs.map (.int k0))) {t e : TypeId} (ht : Sl1 P t e) : ∀ (n : Nat), n < zs.length → aLoad P e (slAt 1 v n) h = some (.int k0 (zs.getD n 0)) := by
  intro n hn
  rw [hs.ld ht n (by simpa using hn)]
  simp [List.getD_eq_getElem?_getD, hn]
theorem SlOf.idxB {h : AH} {v : Value} {bs : List Bool} (hs : SlOf h v (bs.map .bool)) {t e : TypeId} (ht : Sl1 P t e) : ∀ (k : IntKind) (n : Int), 0 ≤ n → n < bs.length → aIndexAddr P t v (.int k n) = some (slAt 1 v n.toNat) :=
  fun k n h0 hn => hs.idx ht k n h0 (by simpa using hn)
theorem SlOf.ldB {h : AH} {v : Value} {bs : List Bool} (hs : SlOf h v (bs.map .bool)) {t e : TypeId} (ht : Sl1 P t e) : ∀ (n : Nat), n < bs.length → aLoad P e (slAt 1 v n) h = some (.bool (bs.getD n false)) := by
  intro n hn
  rw [hs.ld ht n (by simpa using hn)]
  simp [List.getD_eq_getElem?_getD, hn]
theorem SlOf.lenM {h : AH} {v : Value} {α : Type} {f : α → Value} {xs : List α} (hs : SlOf h v (xs.map f)) {t e : TypeId} (ht : P.underlying t = some (.slice e)) : aLen P t v h = some (.int .i64 xs.length) := by
  rw [hs.len ht]; simp

/-! ### Rows of one's own -/

theorem lenS {t e : TypeId} (ht : P.underlying t = some (.slice e)) : ∀ (p : Option Addr) (n c : Nat) (h : AH), aLen P t (.slice p n c) h = some (.int .i64 n) := by
  intro p n c h
  simp only [aLen, ht]
theorem SlOf.lit {h : AH} {A cap n : Nat} {o : AObj} {vs : List Value} (hg : h.get A = some o) (ho : o.cells? = some vs) (hn : n = vs.length) : SlOf h (.slice (some ⟨A, 0, none⟩) n cap) vs :=
  ⟨_, _, _, rfl, hn, (fun q x => by cases x; rfl), .inr ⟨A, 0, o, vs, rfl, hg, ho, fun i x hx => by rw [Nat.zero_add]; exact hx⟩⟩

theorem idxL {t e : TypeId} (ht : Sl1 P t e) : ∀ (A off len cap : Nat) (k : IntKind) (n : Int), 0 ≤ n → n < len → aIndexAddr P t (.slice (some ⟨A, off, none⟩) len cap) (.int k n) = some (.pointer (some ⟨A, off + n.toNat, none⟩)) := by
  intro A off len cap k n h0 hn
  obtain ⟨ie, hi, h1⟩ := ht.one
  simp only [aIndexAddr, ht.sl, hi]
  rw [if_pos ⟨h0, hn⟩, h1, Nat.mul_one]

theorem ldRow {t e : TypeId} (ht : Sl1 P t e) {h : AH} {A : Nat} {o : AObj} {α : Type} {f : α → Value} {xs : List α} (d : α) (hg : h.get A = some o) (ho : o.cells? = some (xs.map f)) : ∀ (i : Nat), i < xs.length → aLoad P e (.pointer (some ⟨A, i, none⟩)) h = some (f (xs.getD i d)) := by
  intro i hi
  obtain ⟨D, hd, hagg⟩ := ht.flat
  simp only [aLoad, hg, Option.bind_some, ho, hd, hagg, Bool.false_eq_true, if_false]
  simp [List.getD_eq_getElem?_getD, hi]

theorem stRow {t e : TypeId} (ht : Sl1 P t e) {h : AH} {A : Nat} {α : Type} {f : α → Value} {xs : List α} (hg : h.get A = some (.row (xs.map f) e true)) (hf : ∀ x, (f x).cells.toList = [f x] ∧ oneC (f x) = true) : ∀ (i : Nat) (x : α), i < xs.length →
    aStore P e (.pointer (some ⟨A, i, none⟩)) (f x) h = some (h.set A (.row ((xs.set i x).map f) e true)) := by
  intro i x hi
  obtain ⟨ie, hie, h1⟩ := ht.one
  obtain ⟨hx, ho1⟩ := hf x
  have hc : (f x).cells.size = 1 := by
    have := congrArg List.length hx
    simpa using this
  have hle : i + 1 ≤ xs.length := hi
  simp only [aStore, hie, hc, h1, hx, List.all_cons, List.all_nil, ho1, Bool.and_self, and_self, if_true, hg, AObj.setCells]
  simp [setL, hle, List.map_set]

theorem one_bool : ∀ b : Bool, (Value.bool b).cells.toList = [Value.bool b] ∧ oneC (Value.bool b) = true := fun _ => ⟨rfl, rfl⟩
theorem one_int (k : IntKind) : ∀ b : Int, (Value.int k b).cells.toList = [Value.int k b] ∧ oneC (Value.int k b) = true := fun _ => ⟨rfl, rfl⟩

/-! ### The heap's view, and what grows -/

theorem SlOf.view {h : AH} {v : Value} {vs : List Value} (hs : SlOf h v vs) : SlOf (AH.view h) v vs := by
  obtain ⟨p, l, c, rfl, rfl, hsp, hcs⟩ := hs
  refine ⟨p, _, c, rfl, rfl, hsp, ?_⟩
  rcases hcs with e | ⟨A, off, o, cs, rfl, hg, hc, hall⟩
  · exact .inl e
  · cases o with
    | row c e wr => exact .inr ⟨A, off, .row c e false, cs, rfl, by simp [AH.view, hg, AObj.view], hc, hall⟩
    | grow c e => exact .inr ⟨A, off, .row c e false, cs, rfl, by simp [AH.view, hg, AObj.view], hc, hall⟩
    | _ => simp [AObj.cells?] at hc

/-- Nothing but the blocks of X changes. -/
def FrX (X : List Nat) (h h' : AH) : Prop := ∀ A o, h.get A = some o → A ∉ X → h'.get A = some o

theorem Sub.frx {h0 h h' : AH} {X : List Nat} (hs : Sub h0 h) (hf : FrX X h h') (hX : ∀ B ∈ X, h0.get B = none) : Sub h0 h' :=
  fun A o ha => hf A o (hs A o ha) (fun hm => by rw [hX A hm] at ha; cases ha)
theorem Sub.set {h0 h : AH} (hs : Sub h0 h) {A : Nat} (hA : h0.get A = none) (o : AObj) : Sub h0 (h.set A o) := by
  intro B p hB
  rw [AH.set_get, if_neg]
  · exact hs B p hB
  · rintro rfl; rw [hA] at hB; cases hB
theorem Sub.trans {h0 h h' : AH} (a : Sub h0 h) (b : Sub h h') : Sub h0 h' := fun A o x => b A o (a A o x)
theorem Sub.refl (h : AH) : Sub h h := fun _ _ x => x

theorem AH.get_lt {h : AH} (hw : WFH h) {A : Nat} {o : AObj} (hg : h.get A = some o) : A < h.next := by
  apply Classical.byContradiction
  intro hn
  rw [hw A (by omega)] at hg; cases hg

theorem WFH.new {h : AH} (hw : WFH h) (o : AObj) : WFH (h.new o) := by
  intro A hA
  simp only [AH.new_next] at hA
  rw [AH.new_get, if_neg (by omega)]
  exact hw A (by omega)
theorem WFH.set {h : AH} (hw : WFH h) {A : Nat} (hA : A < h.next) (o : AObj) : WFH (h.set A o) := by
  intro B hB
  simp only [AH.set_next] at hB
  rw [AH.set_get, if_neg (by omega)]
  exact hw B hB
theorem WFH.del {h : AH} (hw : WFH h) (A : Nat) : WFH (h.del A) := by
  intro B hB
  simp only [AH.del_next] at hB
  rw [AH.del_get]; split
  · rfl
  · exact hw B hB

/-- A slice of one's own that is appended to: nil, or the whole of a growing row. 'B' is its row. -/
def OwnSl (e : TypeId) (h : AH) (v : Value) (B : Nat) (vs : List Value) : Prop :=
  (vs = [] ∧ v = .slice none 0 0) ∨ (vs ≠ [] ∧ v = .slice (some ⟨B, 0, none⟩) vs.length (SL + 1) ∧ h.get B = some (.grow vs e))

theorem OwnSl.sl {e : TypeId} {h : AH} {v : Value} {B : Nat} {vs : List Value} (ho : OwnSl e h v B vs) : SlOf h v vs := by
  rcases ho with ⟨rfl, rfl⟩ | ⟨_, rfl, hg⟩
  · exact ⟨none, 0, 0, rfl, rfl, (fun q x => by cases x), .inl rfl⟩
  · exact ⟨_, _, _, rfl, rfl, (fun q x => by cases x; rfl), .inr ⟨B, 0, _, _, rfl, hg, rfl, fun i x hx => by rw [Nat.zero_add]; exact hx⟩⟩

theorem OwnSl.keep {e : TypeId} {h h' : AH} {v : Value} {B : Nat} {vs : List Value} (ho : OwnSl e h v B vs) (hg : vs ≠ [] → h'.get B = h.get B) : OwnSl e h' v B vs := by
  rcases ho with ⟨rfl, rfl⟩ | ⟨hn, rfl, h1⟩
  · exact .inl ⟨rfl, rfl⟩
  · exact .inr ⟨hn, rfl, (hg hn).trans h1⟩

theorem OwnSl.nil (e : TypeId) (h : AH) (B : Nat) : OwnSl e h (.slice none 0 0) B [] := .inl ⟨rfl, rfl⟩

/-- The slice of one element that append is handed. -/
theorem aBuild1 {t e : TypeId} {B : Nat} {z : Value} (ht : SlT P t e B z) (h : AH) {x : Value} (hx : x.cells.toList = [x]) (ho : oneC x = true) :
    aBuildSlice P t 1 [(0, x)] h = some (.slice (some ⟨h.next, 0, none⟩) 1 1, h.new (.row [x] e true)) := by
  obtain ⟨i, hi, h1, hb, hz⟩ := ht.info
  have hc : z.cells.size = 1 := by
    have := congrArg List.length ht.zc
    simpa using this
  have hx1 : x.cells.size = 1 := by
    have := congrArg List.length hx
    simpa using this
  simp only [aBuildSlice, ht.sl, hi, hz, h1, ht.zp, hc, fillL, ht.zc, zeros_one]
  simp [SL, hx, hx1, setL, ho, List.replicate]

/-- What an append of one element makes of the heap. -/
def app1H (e : TypeId) (h : AH) (v x : Value) (vs : List Value) : AH :=
  match v with
  | .slice (some ⟨B, _, _⟩) _ _ => ((h.new (.row [x] e true)).del B).new (.grow (vs ++ [x]) e)
  | _ => (h.new (.row [x] e true)).new (.grow (vs ++ [x]) e)

theorem aAppend1 {t e : TypeId} {B : Nat} {z : Value} (ht : SlT P t e B z) {h : AH} (hw : WFH h) {v x : Value} {A : Nat} {vs : List Value} (ho : OwnSl e h v A vs) (hb : (2 * vs.length + 194) * B ≤ 281474976710656) (hm : vs.length < 4611686018427387903) :
    aAppend P #[t, t] v (.slice (some ⟨h.next, 0, none⟩) 1 1) (h.new (.row [x] e true)) = some (.slice (some ⟨h.next + 1, 0, none⟩) (vs.length + 1) (SL + 1), app1H e h v x vs) := by
  obtain ⟨i, hi, h1, hbb, hzz⟩ := ht.info
  have hc : z.cells.size = 1 := by
    have := congrArg List.length ht.zc
    simpa using this
  have hsrc : srcCells 1 (.slice (some ⟨h.next, 0, none⟩) 1 1) (h.new (.row [x] e true)) = some (1, [x]) := by
    simp [srcCells, AH.new_get, AObj.cells?]
  rcases ho with ⟨rfl, rfl⟩ | ⟨hn, rfl, hg⟩
  · simp only [List.length_nil] at hb
    have hb' : (2 * 1 + 192) * B ≤ 281474976710656 := by omega
    simp [aAppend, ht.sl, hi, hzz, h1, hc, isIntT, hsrc, hbb, hb', ML, app1H]
  · have hA : A < h.next := AH.get_lt hw hg
    have hb' : (2 * (vs.length + 1) + 192) * B ≤ 281474976710656 := by
      have : 2 * (vs.length + 1) + 192 = 2 * vs.length + 194 := by omega
      rw [this]; exact hb
    have hm' : vs.length + 1 < 4611686018427387904 := by omega
    have hne : A ≠ h.next := by omega
    have hcap : ¬ (SL + 1 < SL) := by omega
    simp only [aAppend, ht.sl, hi, hzz, h1, hc, isIntT, hsrc, hbb, AH.new_get, if_neg hne, hg, ML, app1H, List.getElem?_toArray, List.getElem?_cons_zero, List.getElem?_cons_succ, if_neg hcap, Nat.mul_one, Nat.zero_add, Nat.le_refl, hb', hm', List.drop_zero, List.take_length, AH.new_next]
    simp

theorem app1_next {e : TypeId} {h : AH} {v x : Value} {vs : List Value} : (app1H e h v x vs).next = h.next + 2 := by
  unfold app1H; split <;> simp
theorem app1_wf {e : TypeId} {h : AH} {v x : Value} {vs : List Value} (hw : WFH h) : WFH (app1H e h v x vs) := by
  unfold app1H; split
  · exact (((hw.new _).del _).new _)
  · exact ((hw.new _).new _)
theorem app1_own {e : TypeId} {h : AH} {v x : Value} {vs : List Value} : OwnSl e (app1H e h v x vs) (.slice (some ⟨h.next + 1, 0, none⟩) (vs.length + 1) (SL + 1)) (h.next + 1) (vs ++ [x]) := by
  refine .inr ⟨by simp, by simp, ?_⟩
  unfold app1H; split <;> simp [AH.new_get]
theorem app1_frx {e : TypeId} {h : AH} {v x : Value} {A : Nat} {vs : List Value} (hw : WFH h) (ho : OwnSl e h v A vs) : FrX (if vs = [] then [] else [A]) h (app1H e h v x vs) := by
  intro C o hC hX
  have hlt := AH.get_lt hw hC
  rcases ho with ⟨rfl, rfl⟩ | ⟨hn, rfl, hg⟩
  · show ((h.new (.row [x] e true)).new _).get C = _
    rw [AH.new_get, if_neg (by simp; omega), AH.new_get, if_neg (by omega)]; exact hC
  · rw [if_neg hn] at hX
    have hne : C ≠ A := fun x => hX (by simp [x])
    show (((h.new (.row [x] e true)).del A).new _).get C = _
    rw [AH.new_get, if_neg (by simp; omega), AH.del_get, if_neg hne, AH.new_get, if_neg (by omega)]; exact hC

/-- A heap that has grown out of another one. -/
structure Gr (h0 h : AH) : Prop where
  wf : WFH h
  sub : Sub h0 h
  nx : h0.next ≤ h.next

theorem Gr.refl {h : AH} (hw : WFH h) : Gr h h := ⟨hw, Sub.refl h, Nat.le_refl _⟩
theorem Gr.trans {a b c : AH} (x : Gr a b) (y : Gr b c) : Gr a c := ⟨y.wf, x.sub.trans y.sub, Nat.le_trans x.nx y.nx⟩
theorem Gr.new {h0 h : AH} (g : Gr h0 h) (o : AObj) : Gr h0 (h.new o) := ⟨g.wf.new o, g.sub.trans (Sub.new g.wf o), Nat.le_succ_of_le g.nx⟩
theorem Gr.set {h0 h : AH} (g : Gr h0 h) (w0 : WFH h0) {A : Nat} (hA : h0.next ≤ A) (hlt : A < h.next) (o : AObj) : Gr h0 (h.set A o) := ⟨g.wf.set hlt o, g.sub.set (w0 A hA) o, g.nx⟩
theorem Gr.fresh {h0 h : AH} (g : Gr h0 h) (w0 : WFH h0) : h0.get h.next = none := w0 _ g.nx

/-- A slice of one's own, laid since h0. -/
def FrSl (e : TypeId) (h0 h : AH) (v : Value) (vs : List Value) : Prop := ∃ B, OwnSl e h v B vs ∧ (vs ≠ [] → h0.next ≤ B)

theorem FrSl.nil (e : TypeId) (h0 h : AH) : FrSl e h0 h (.slice none 0 0) [] := ⟨0, OwnSl.nil e h 0, fun h => absurd rfl h⟩
theorem FrSl.sl {e : TypeId} {h0 h : AH} {v : Value} {vs : List Value} (ho : FrSl e h0 h v vs) : SlOf h v vs := let ⟨_, h, _⟩ := ho; h.sl

def app1V (h : AH) (n : Nat) : Value := .slice (some ⟨h.next + 1, 0, none⟩) (n + 1) (SL + 1)

theorem app1 {t e : TypeId} {B : Nat} {z : Value} (ht : SlT P t e B z) {h0 h : AH} (g : Gr h0 h) {v : Value} {vs : List Value} (ho : FrSl e h0 h v vs) (hb : (2 * vs.length + 194) * B ≤ 281474976710656) (hm : vs.length < 4611686018427387903) (x : Value) :
    aAppend P #[t, t] v (.slice (some ⟨h.next, 0, none⟩) 1 1) (h.new (.row [x] e true)) = some (app1V h vs.length, app1H e h v x vs) := by
  obtain ⟨A, ho, _⟩ := ho
  exact aAppend1 ht g.wf ho hb hm
theorem app1_gr {e : TypeId} {h0 h : AH} (w0 : WFH h0) (g : Gr h0 h) {v x : Value} {vs : List Value} (ho : FrSl e h0 h v vs) : Gr h0 (app1H e h v x vs) := by
  obtain ⟨A, ho, hf⟩ := ho
  refine ⟨app1_wf g.wf, g.sub.frx (app1_frx g.wf ho) ?_, by rw [app1_next]; have := g.nx; omega⟩
  intro B hB
  split at hB
  · simp at hB
  · rename_i hn
    simp at hB; subst hB
    exact w0 _ (hf hn)
theorem app1_fr {e : TypeId} {h0 h : AH} (g : Gr h0 h) {v x : Value} {vs : List Value} : FrSl e h0 (app1H e h v x vs) (app1V h vs.length) (vs ++ [x]) :=
  ⟨_, app1_own, fun _ => by have := g.nx; omega⟩

end
end Go.Ab
