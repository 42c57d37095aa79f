/- Own layer 'Ab': code, walked with values that are not known. -/
import Derived.Test.YtnejoceplinjpaaAb15
namespace Go.Ab

section
variable {P : Program}

/-- An operation whose outcome leaves the heap. -/
def stillW (P : Program) (ops : Array Oper) (o : Oper) (a : AAct) (h : AH) (K : Value → Prop) : Prop :=
  o.op.operands.toList.all cOK = true ∧ dstOK a o.dst ∧ if Region.wanted o (yieldedA ops a) then ∃ v, dop P a.ev o.op h = some (v, h) ∧ K v else K undef

def opsL (P : Program) (ops : Array Oper) (N : AAct → AH → Prop) : List Oper → AAct → AH → Prop
  | [], a, h => N a h
  | o :: l, a, h => opW P ops o a h (opsL P ops N l)

theorem opsL_sound {ops : Array Oper} {Q : Exit → AAct → AH → Prop} : ∀ (l : List Nat) (os : List Oper) (a : AAct) (h : AH), l.map (ops[·]?) = os.map some → opsL P ops (Q .normal) os a h → opsW P ops Q l a h := by
  intro l
  induction l with
  | nil =>
    intro os a h hl he
    cases os with
    | nil => exact he
    | cons => cases hl
  | cons i l ih =>
    intro os a h hl he
    cases os with
    | nil => cases hl
    | cons o os =>
      simp only [List.map_cons, List.cons.injEq] at hl
      simp only [opsW, hl.1]
      exact opW.mono (fun a h hk => ih os a h hl.2 hk) he

theorem AW.regionL {rd : Option Nat} {id : Nat} {ops : Array Oper} {Q : Exit → AAct → AH → Prop} {a : AAct} {h : AH} (hx : opsL P ops (Q .normal) ops.toList a h) : AW P rd (.region id ops false) Q a h := by
  refine AW.region (opsL_sound _ ops.toList a h ?_ hx)
  apply List.ext_getElem?
  intro i
  simp only [List.getElem?_map]
  by_cases hi : i < ops.size
  · rw [List.getElem?_range hi]
    simp [Array.getElem?_eq_getElem hi]
  · rw [List.getElem?_eq_none (by simpa using hi), List.getElem?_eq_none (by simpa using hi)]; rfl

/-- A plan, as operations. -/
def planL (P : Program) (ops : Array Oper) (N : AAct → AH → Prop) : Plan → List (Oper × Value) → AAct → AH → Prop
  | .done, _, a, h => N a h
  | .take i _ k, R, a, h => ∃ o, ops[i]? = some o ∧ stillW P ops o a h (fun v => planL P ops N k R (a.put o.dst v) h)
  | .watch i _ k, R, a, h => ∃ o, ops[i]? = some o ∧ stillW P ops o a h (fun v => planL P ops N k ((o, v) :: R) (a.put o.dst v) h)
  | .only i k, R, a, h => ∃ o, ops[i]? = some o ∧ opW P ops o a h (fun a h => Keeps P ops R a h ∧ planL P ops N k R a h)
  | .two i k j l, R, a, h => (∃ o, ops[i]? = some o ∧ opW P ops o a h (fun a h => Keeps P ops R a h ∧ planL P ops N k R a h)) ∧ (∃ o, ops[j]? = some o ∧ opW P ops o a h (fun a h => Keeps P ops R a h ∧ planL P ops N l R a h))
  | .three i k j l x m, R, a, h => (∃ o, ops[i]? = some o ∧ opW P ops o a h (fun a h => Keeps P ops R a h ∧ planL P ops N k R a h)) ∧ (∃ o, ops[j]? = some o ∧ opW P ops o a h (fun a h => Keeps P ops R a h ∧ planL P ops N l R a h)) ∧
      (∃ o, ops[x]? = some o ∧ opW P ops o a h (fun a h => Keeps P ops R a h ∧ planL P ops N m R a h))

theorem stillW_use {ops : Array Oper} {o : Oper} {a : AAct} {h : AH} {K : Value → Prop} (hs : stillW P ops o a h K) : ∃ v, Still P ops o v a h ∧ K v := by
  obtain ⟨h1, h2, h3⟩ := hs
  by_cases hw : Region.wanted o (yieldedA ops a) = true
  · rw [if_pos hw] at h3
    obtain ⟨v, hd, hk⟩ := h3
    exact ⟨v, ⟨h1, h2, by rw [if_pos hw]; exact hd⟩, hk⟩
  · rw [if_neg hw] at h3
    exact ⟨undef, ⟨h1, h2, by rw [if_neg hw]⟩, h3⟩

theorem planL_sound {ops : Array Oper} {Q : Exit → AAct → AH → Prop} : ∀ (p : Plan) (R : List (Oper × Value)) (a : AAct) (h : AH), planL P ops (Q .normal) p R a h → planW P ops Q p R a h := by
  intro p
  have opi : ∀ {i : Nat} {a : AAct} {h : AH} {K K' : AAct → AH → Prop}, (∃ o, ops[i]? = some o ∧ opW P ops o a h K) → (∀ a h, K a h → K' a h) → opI P ops i a h K' := by
    rintro i a h K K' ⟨o, ho, hk⟩ hm
    unfold opI; rw [ho]; exact opW.mono hm hk
  induction p with
  | done => intro R a h hp; exact hp
  | take i D k ih =>
    rintro R a h ⟨o, ho, hs⟩
    obtain ⟨v, hs, hk⟩ := stillW_use hs
    exact ⟨o, v, ho, hs, ih _ _ _ hk⟩
  | watch i D k ih =>
    rintro R a h ⟨o, ho, hs⟩
    obtain ⟨v, hs, hk⟩ := stillW_use hs
    exact ⟨o, v, ho, hs, ih _ _ _ hk⟩
  | only i k ih => intro R a h hp; exact opi hp fun a h hk => ⟨hk.1, ih _ _ _ hk.2⟩
  | two i k j l ih1 ih2 => intro R a h hp; exact ⟨opi hp.1 fun a h hk => ⟨hk.1, ih1 _ _ _ hk.2⟩, opi hp.2 fun a h hk => ⟨hk.1, ih2 _ _ _ hk.2⟩⟩
  | three i k j l x m ih1 ih2 ih3 => intro R a h hp; exact ⟨opi hp.1 fun a h hk => ⟨hk.1, ih1 _ _ _ hk.2⟩, opi hp.2.1 fun a h hk => ⟨hk.1, ih2 _ _ _ hk.2⟩, opi hp.2.2 fun a h hk => ⟨hk.1, ih3 _ _ _ hk.2⟩⟩

theorem AW.planL {rd : Option Nat} {id : Nat} {ops : Array Oper} {Q : Exit → AAct → AH → Prop} {a : AAct} {h : AH} (p : Plan) (hm : P.follows .mixedOrders = true) (hp : planOK ops (Array.replicate ops.size false) [] p = true) (hl : p.len ≤ ops.size)
    (hx : planL P ops (Q .normal) p [] a h) : AW P rd (.region id ops true) Q a h := AW.plan p hm hp hl (planL_sound p [] a h hx)

theorem AW.cond' {rd : Option Nat} {Q : Exit → AAct → AH → Prop} {a : AAct} {h : AH} {c : Operand} {x y : Code} (hk : cOK c = true) (t : Bool) (hc : a.ev c = .bool t) (hx : t = true → AW P rd x Q a h) (hy : t = false → AW P rd y Q a h) : AW P rd (.cond c x y) Q a h := by
  refine AW.cond (t := t) hk hc ?_
  cases t
  · exact hy rfl
  · exact hx rfl

def okB (o : Oper) (a : AAct) : Bool := o.op.operands.toList.all cOK && (match o.dst with
  | some t => decide (t < a.n)
  | none => true)

theorem okB_spec {o : Oper} {a : AAct} (h : okB o a = true) : o.op.operands.toList.all cOK = true ∧ dstOK a o.dst := by
  simp only [okB, Bool.and_eq_true] at h
  refine ⟨h.1, ?_⟩
  cases hd : o.dst with
  | none => trivial
  | some t => rw [hd] at h; exact (of_decide_eq_true h.2 : t < a.n)

def contK (F : AAct → AH → Prop) (d : Option Tmp) (a : AAct) (v : Value) (h : AH) : Prop := F (a.put d v) h

/-- Operations, one behind the other. -/
def opsM (P : Program) (ops : Array Oper) (N : AAct → AH → Prop) : List Oper → AAct → AH → Prop
  | [], a, h => N a h
  | o :: l, a, h => match okB o a with
    | false => False
    | true => match Region.wanted o (yieldedA ops a) with
      | false => opsM P ops N l (a.put o.dst undef) h
      | true => match o.op with
        | .call { callee := .value f, args, .. } => callR P (a.ev f) (args.toList.map a.ev) h (contK (opsM P ops N l) o.dst a)
        | .next it false => NextW (a.ev it) h (contK (opsM P ops N l) o.dst a)
        | op => match dop P a.ev op h with
          | some (v, h') => opsM P ops N l (a.put o.dst v) h'
          | none => False

theorem opsM_sound {ops : Array Oper} {N : AAct → AH → Prop} : ∀ (l : List Oper) (a : AAct) (h : AH), opsM P ops N l a h → opsL P ops N l a h := by
  intro l
  induction l with
  | nil => intro a h hk; exact hk
  | cons o l ih =>
    intro a h hk
    simp only [opsM] at hk
    split at hk
    · exact hk.elim
    · rename_i hok
      obtain ⟨h1, h2⟩ := okB_spec hok
      refine ⟨h1, h2, ?_⟩
      split at hk
      · rename_i hw; rw [hw]; exact ih _ _ hk
      · rename_i hw
        rw [hw]
        split at hk
        · rename_i f args _ hop
          rw [if_pos rfl, hop]
          exact callR.mono (fun v h hk => ih _ _ hk) hk
        · rename_i it hop
          rw [if_pos rfl, hop]
          exact opR.mono (op := .next it false) (K := contK (opsM P ops N l) o.dst a) (fun v h hk => ih _ _ hk) hk
        · split at hk
          · rename_i v h' hd
            rw [if_pos rfl]
            exact opR_of_dop hd (ih _ _ hk)
          · exact hk.elim

/-- The operations of a drawn region, as a plan lays them: 0 taken, 1 taken and watched, 2 alone. -/
def seqM (P : Program) (ops : Array Oper) (N : AAct → AH → Prop) : List (Nat × Oper) → List (Oper × Value) → AAct → AH → Prop
  | [], _, a, h => N a h
  | (k, o) :: l, R, a, h => match okB o a with
    | false => False
    | true => match k with
      | 0 => (match Region.wanted o (yieldedA ops a) with
        | false => seqM P ops N l R (a.put o.dst undef) h
        | true => match dop P a.ev o.op h with
          | some (v, h') => h' = h ∧ seqM P ops N l R (a.put o.dst v) h
          | none => False)
      | 1 => (match Region.wanted o (yieldedA ops a) with
        | false => seqM P ops N l ((o, undef) :: R) (a.put o.dst undef) h
        | true => match dop P a.ev o.op h with
          | some (v, h') => h' = h ∧ seqM P ops N l ((o, v) :: R) (a.put o.dst v) h
          | none => False)
      | _ => match Region.wanted o (yieldedA ops a) with
        | false => Keeps P ops R (a.put o.dst undef) h ∧ seqM P ops N l R (a.put o.dst undef) h
        | true => match o.op with
          | .call { callee := .value f, args, .. } => callR P (a.ev f) (args.toList.map a.ev) h (contK (fun a h => Keeps P ops R a h ∧ seqM P ops N l R a h) o.dst a)
          | .next it false => NextW (a.ev it) h (contK (fun a h => Keeps P ops R a h ∧ seqM P ops N l R a h) o.dst a)
          | op => match dop P a.ev op h with
            | some (v, h') => Keeps P ops R (a.put o.dst v) h' ∧ seqM P ops N l R (a.put o.dst v) h'
            | none => False

def planK (ops : Array Oper) : Plan → Option (List (Nat × Oper))
  | .done => some []
  | .take i _ k => match ops[i]?, planK ops k with
    | some o, some l => some ((0, o) :: l)
    | _, _ => none
  | .watch i _ k => match ops[i]?, planK ops k with
    | some o, some l => some ((1, o) :: l)
    | _, _ => none
  | .only i k => match ops[i]?, planK ops k with
    | some o, some l => some ((2, o) :: l)
    | _, _ => none
  | _ => none

theorem seqM_sound {ops : Array Oper} {Q : Exit → AAct → AH → Prop} : ∀ (p : Plan) (l : List (Nat × Oper)) (R : List (Oper × Value)) (a : AAct) (h : AH), planK ops p = some l → seqM P ops (Q .normal) l R a h → planW P ops Q p R a h := by
  intro p
  induction p with
  | done => intro l R a h hp hk; cases hp; exact hk
  | take i D k ih =>
    intro l R a h hp hk
    simp only [planK] at hp
    split at hp
    · rename_i o l' ho hl
      cases hp
      simp only [seqM] at hk
      split at hk
      · exact hk.elim
      · rename_i hok
        obtain ⟨h1, h2⟩ := okB_spec hok
        split at hk
        · rename_i hw
          exact ⟨o, undef, ho, ⟨h1, h2, by rw [hw]; simp⟩, ih _ _ _ _ hl hk⟩
        · rename_i hw
          split at hk
          · rename_i v h' hd
            obtain ⟨rfl, hk⟩ := hk
            exact ⟨o, v, ho, ⟨h1, h2, by rw [hw]; exact hd⟩, ih _ _ _ _ hl hk⟩
          · exact hk.elim
    · cases hp
  | watch i D k ih =>
    intro l R a h hp hk
    simp only [planK] at hp
    split at hp
    · rename_i o l' ho hl
      cases hp
      simp only [seqM] at hk
      split at hk
      · exact hk.elim
      · rename_i hok
        obtain ⟨h1, h2⟩ := okB_spec hok
        split at hk
        · rename_i hw
          exact ⟨o, undef, ho, ⟨h1, h2, by rw [hw]; simp⟩, ih _ _ _ _ hl hk⟩
        · rename_i hw
          split at hk
          · rename_i v h' hd
            obtain ⟨rfl, hk⟩ := hk
            exact ⟨o, v, ho, ⟨h1, h2, by rw [hw]; exact hd⟩, ih _ _ _ _ hl hk⟩
          · exact hk.elim
    · cases hp
  | only i k ih =>
    intro l R a h hp hk
    simp only [planK] at hp
    split at hp
    · rename_i o l' ho hl
      cases hp
      simp only [seqM] at hk
      split at hk
      · exact hk.elim
      · rename_i hok
        obtain ⟨h1, h2⟩ := okB_spec hok
        show opI P ops i a h _
        unfold opI
        rw [ho]
        refine ⟨h1, h2, ?_⟩
        split at hk
        · rename_i hw; rw [hw]; exact ⟨hk.1, ih _ _ _ _ hl hk.2⟩
        · rename_i hw
          rw [hw, if_pos rfl]
          split at hk
          · rename_i f args _ hop
            rw [hop]
            exact callR.mono (fun v h (hk : _ ∧ _) => ⟨hk.1, ih _ _ _ _ hl hk.2⟩) hk
          · rename_i it hop
            rw [hop]
            exact opR.mono (op := .next it false) (K := contK (fun a h => Keeps P ops R a h ∧ seqM P ops (Q .normal) l' R a h) o.dst a) (fun v h hk => ⟨hk.1, ih _ _ _ _ hl hk.2⟩) hk
          · split at hk
            · rename_i v h' hd
              exact opR_of_dop hd ⟨hk.1, ih _ _ _ _ hl hk.2⟩
            · exact hk.elim
    · cases hp
  | two => intro l R a h hp; cases hp
  | three => intro l R a h hp; cases hp

/-- A drawn region, whose plan takes the operations in the order of the text. -/
theorem AW.drawT {rd : Option Nat} {id : Nat} {ops : Array Oper} {Q : Exit → AAct → AH → Prop} {a : AAct} {h : AH} (p : Plan) (fl : List Nat) (hm : P.follows .mixedOrders = true)
    (hp : (planOK ops (Array.replicate ops.size false) [] p && decide (p.len ≤ ops.size)) = true) (hk : planK ops p = some (fl.zip ops.toList))
    (hx : seqM P ops (Q .normal) (fl.zip ops.toList) [] a h) : AW P rd (.region id ops true) Q a h := by
  rw [Bool.and_eq_true] at hp
  exact AW.plan p hm hp.1 (of_decide_eq_true hp.2) (seqM_sound p _ [] a h hk hx)

/-- A condition, at a value. -/
def condV (v : Value) (F G : AAct → AH → Prop) (a : AAct) (h : AH) : Prop :=
  match v with
  | .bool true => F a h
  | .bool false => G a h
  | _ => False

theorem condV_true {F G : AAct → AH → Prop} {a : AAct} {h : AH} : condV (.bool true) F G a h = F a h := rfl
theorem condV_false {F G : AAct → AH → Prop} {a : AAct} {h : AH} : condV (.bool false) F G a h = G a h := rfl

theorem condV_of {b : Bool} {F G : AAct → AH → Prop} {a : AAct} {h : AH} (ht : b = true → F a h) (hf : b = false → G a h) : condV (.bool b) F G a h := by
  cases b
  · exact hf rfl
  · exact ht rfl

/-- AW, straight on: loops, drawn regions, and ranges over functions, stand as they are. -/
def wpA (P : Program) (rd : Option Nat) : Code → (Exit → AAct → AH → Prop) → AAct → AH → Prop
  | .skip, Q, a, h => Q .normal a h
  | .ret, Q, a, h => Q .ret a h
  | .exit id, Q, a, h => Q (.exit id) a h
  | .goto l, Q, a, h => Q (.goto l) a h
  | .label _, Q, a, h => Q .normal a h
  | .seq x y, Q, a, h => wpA P rd x (thenQ (wpA P rd y Q) Q) a h
  | .block id c, Q, a, h => wpA P rd c (blockQ id Q) a h
  | .cond c x y, Q, a, h => cOK c = true ∧ condV (a.ev c) (wpA P rd x Q) (wpA P rd y Q) a h
  | .region _ ops false, Q, a, h => opsM P ops (Q .normal) ops.toList a h
  | c, Q, a, h => AW P rd c Q a h

theorem wpA_sound {rd : Option Nat} : ∀ (c : Code) (Q : Exit → AAct → AH → Prop) (a : AAct) (h : AH), wpA P rd c Q a h → AW P rd c Q a h := by
  intro c
  induction c with
  | skip => intro Q a h hq; exact AW.skip hq
  | ret => intro Q a h hq; exact AW.ret hq
  | exit id => intro Q a h hq; exact AW.exit hq
  | goto l => intro Q a h hq; exact AW.goto hq
  | label l => intro Q a h hq; exact AW.label hq
  | seq x y ihx ihy =>
    intro Q a h hq
    refine AW.seq ((ihx _ _ _ hq).mono ?_)
    intro e a h hk
    cases e <;> first | exact ihy _ _ _ hk | exact hk
  | block id c ih => intro Q a h hq; exact AW.block (ih _ _ _ hq)
  | cond c x y ihx ihy =>
    intro Q a h hq
    obtain ⟨hc, hk⟩ := hq
    generalize hv : a.ev c = v at hk
    unfold condV at hk
    split at hk
    · exact AW.cond (t := true) hc hv (ihx _ _ _ hk)
    · exact AW.cond (t := false) hc hv (ihy _ _ _ hk)
    · exact hk.elim
  | region id ops draw =>
    intro Q a h hq
    cases draw with
    | false => exact AW.regionL (opsM_sound _ _ _ hq)
    | true => exact hq
  | _ => intro Q a h hq; exact hq

theorem contK_app (F : AAct → AH → Prop) (d : Option Tmp) (a : AAct) (v : Value) (h : AH) : contK F d a v h = F (a.put d v) h := rfl
theorem Keeps_nil (ops : Array Oper) (a : AAct) (h : AH) : Keeps P ops [] a h = True := by
  apply propext; simp [Keeps]
theorem thenQ_normal (N : AAct → AH → Prop) (Q : Exit → AAct → AH → Prop) (a : AAct) (h : AH) : thenQ N Q .normal a h = N a h := rfl
theorem thenQ_ret (N : AAct → AH → Prop) (Q : Exit → AAct → AH → Prop) (a : AAct) (h : AH) : thenQ N Q .ret a h = Q .ret a h := rfl
theorem thenQ_exit (N : AAct → AH → Prop) (Q : Exit → AAct → AH → Prop) (i : Nat) (a : AAct) (h : AH) : thenQ N Q (.exit i) a h = Q (.exit i) a h := rfl
theorem thenQ_goto (N : AAct → AH → Prop) (Q : Exit → AAct → AH → Prop) (i : Nat) (a : AAct) (h : AH) : thenQ N Q (.goto i) a h = Q (.goto i) a h := rfl
theorem blockQ_normal (i : Nat) (Q : Exit → AAct → AH → Prop) (a : AAct) (h : AH) : blockQ i Q .normal a h = Q .normal a h := rfl
theorem blockQ_ret (i : Nat) (Q : Exit → AAct → AH → Prop) (a : AAct) (h : AH) : blockQ i Q .ret a h = Q .ret a h := rfl
theorem blockQ_goto (i j : Nat) (Q : Exit → AAct → AH → Prop) (a : AAct) (h : AH) : blockQ i Q (.goto j) a h = Q (.goto j) a h := rfl
theorem blockQ_exit (i j : Nat) (Q : Exit → AAct → AH → Prop) (a : AAct) (h : AH) : blockQ i Q (.exit j) a h = if j = i then Q .normal a h else Q (.exit j) a h := rfl
theorem ex_some {x : Value} {y : AH} {K : Value → AH → Prop} : (∃ v h, some (x, y) = some (v, h) ∧ K v h) = K x y := by
  apply propext
  constructor
  · rintro ⟨v, h, e, k⟩; cases e; exact k
  · exact fun k => ⟨x, y, rfl, k⟩
theorem ex_still {x : Value} {y : AH} {K : Value → Prop} : (∃ v, some (x, y) = some (v, y) ∧ K v) = K x := by
  apply propext
  constructor
  · rintro ⟨v, e, k⟩; cases e; exact k
  · exact fun k => ⟨x, rfl, k⟩
theorem ex_bool {b : Bool} {K : Bool → Prop} : (∃ t, Value.bool b = .bool t ∧ K t) = K b := by
  apply propext
  constructor
  · rintro ⟨v, e, k⟩; cases e; exact k
  · exact fun k => ⟨b, rfl, k⟩
theorem ev_func (a : AAct) (f : FuncId) : a.ev (.func f) = .func (.func f) #[] #[] := rfl
theorem wanted_none (dst : Option Tmp) (op : Op) (ty : TypeId) (pos : String) (after : Array Edge) (y : Nat → Option Bool) : Region.wanted { dst := dst, op := op, type := ty, pos := pos, after := after, guard := none } y = true := rfl
theorem wanted_some (dst : Option Tmp) (op : Op) (ty : TypeId) (pos : String) (after : Array Edge) (j : Nat) (b : Bool) (y : Nat → Option Bool) : Region.wanted { dst := dst, op := op, type := ty, pos := pos, after := after, guard := some (j, b) } y = (y j == some b) := rfl
theorem callR_func (P : Program) (g : FuncId) (xs ys : Array Value) (args : List Value) (h : AH) (K : Value → AH → Prop) : callR P (.func (.func g) xs ys) args h K = ACall P g (xs.toList ++ args ++ ys.toList) h K := rfl
theorem put_tm (a : AAct) (t : Tmp) (v : Value) (i : Nat) : (a.put (some t) v).tm i = if i = t then v else a.tm i := rfl
theorem put_none (a : AAct) (v : Value) : a.put none v = a := rfl
theorem put_df (a : AAct) (d : Option Tmp) (v : Value) : (a.put d v).df = a.df := by cases d <;> rfl
theorem ev_tmp (a : AAct) (t : Nat) : a.ev (.tmp t) = a.tm t := rfl
theorem ev_const (a : AAct) (v : Value) : a.ev (.const v) = v := rfl
theorem dst_some (a : AAct) (t : Nat) : dstOK a (some t) = (t < a.n) := rfl
theorem dst_none (a : AAct) : dstOK a none = True := rfl


def bodyR (P : Program) (rs : List ResultVar) (K : Value → AH → Prop) (e : Exit) (a : AAct) (h : AH) : Prop :=
  (e = .normal ∨ e = .ret) ∧ ∃ h' vs, closeMarks a.df h = some h' ∧ resL P a.tm h' rs = some vs ∧ K (resV vs) h'

theorem bodyR_ret {rs : List ResultVar} {K : Value → AH → Prop} {a : AAct} {h : AH} (hd : a.df = []) : bodyR P rs K .ret a h = ∃ vs, resL P a.tm h rs = some vs ∧ K (resV vs) h := by
  apply propext
  unfold bodyR
  rw [hd]
  constructor
  · rintro ⟨_, h', vs, e, x, y⟩; cases e; exact ⟨vs, x, y⟩
  · rintro ⟨vs, x, y⟩; exact ⟨.inr rfl, h, vs, rfl, x, y⟩

theorem bodyR_normal {rs : List ResultVar} {K : Value → AH → Prop} {a : AAct} {h : AH} (hd : a.df = []) : bodyR P rs K .normal a h = ∃ vs, resL P a.tm h rs = some vs ∧ K (resV vs) h := by
  apply propext
  unfold bodyR
  rw [hd]
  constructor
  · rintro ⟨_, h', vs, e, x, y⟩; cases e; exact ⟨vs, x, y⟩
  · rintro ⟨vs, x, y⟩; exact ⟨.inl rfl, h, vs, rfl, x, y⟩

theorem ex_some1 {α : Type} {x : α} {K : α → Prop} : (∃ v, some x = some v ∧ K v) = K x := by
  apply propext
  constructor
  · rintro ⟨v, e, k⟩; cases e; exact k
  · exact fun k => ⟨x, rfl, k⟩

theorem ACall.of_wp {g : FuncId} {fn : Func} {c : Code} {args : List Value} {h : AH} {K : Value → AH → Prop} (N : Nat) (rs : List ResultVar) (hf : P.funcs[g]? = some fn) (hb : fn.body = some c) (hn : (fn.name == "runtime.NumGoroutine") = false)
    (hN : args.length + (fn.ntmps - args.length) = N) (hrs : fn.results.toList = rs)
    (hw : ∀ a : AAct, a.n = N → a.df = [] → (∀ i, a.tm i = args.getD i undef) → wpA P none c (bodyR P rs K) a h) : ACall P g args h K := by
  refine ACall.of_body hf hb hn (wpA_sound _ _ _ _ ?_)
  have := hw (enterA fn args) hN rfl (fun _ => rfl)
  subst hrs
  exact this

theorem aEq_bool {t : TypeId} (ht : P.underlying t = some .bool) (x y : Bool) (n : Nat) : aEq P (n + 1) t (.bool x) (.bool y) = some (x == y) := by
  unfold aEq; rw [ht]

theorem eqBin_bool_neq {t : TypeId} (ht : P.underlying t = some .bool) (x y : Bool) : eqBin P .neq t (.bool x) (.bool y) = some (.bool (!(x == y))) := by
  unfold eqBin; rw [aEq_bool ht]; simp [guardOn]
theorem eqBin_bool_eql {t : TypeId} (ht : P.underlying t = some .bool) (x y : Bool) : eqBin P .eql t (.bool x) (.bool y) = some (.bool (x == y)) := by
  unfold eqBin; rw [aEq_bool ht]; simp [guardOn]


section eqs
variable {rd : Option Nat} {Q : Exit → AAct → AH → Prop} {a : AAct} {h : AH}
theorem wpA_skip : wpA P rd .skip Q a h = Q .normal a h := rfl
theorem wpA_ret : wpA P rd .ret Q a h = Q .ret a h := rfl
theorem wpA_exit {i : Nat} : wpA P rd (.exit i) Q a h = Q (.exit i) a h := rfl
theorem wpA_seq {x y : Code} : wpA P rd (.seq x y) Q a h = wpA P rd x (thenQ (wpA P rd y Q) Q) a h := rfl
theorem wpA_block {i : Nat} {c : Code} : wpA P rd (.block i c) Q a h = wpA P rd c (blockQ i Q) a h := rfl
theorem wpA_cond {c : Operand} {x y : Code} : wpA P rd (.cond c x y) Q a h = (cOK c = true ∧ condV (a.ev c) (wpA P rd x Q) (wpA P rd y Q) a h) := rfl
theorem wpA_region {i : Nat} {ops : Array Oper} : wpA P rd (.region i ops false) Q a h = opsM P ops (Q .normal) ops.toList a h := rfl
theorem wpA_draw {i : Nat} {ops : Array Oper} : wpA P rd (.region i ops true) Q a h = AW P rd (.region i ops true) Q a h := rfl
theorem wpA_loop {c : Code} : wpA P rd (.loop c) Q a h = AW P rd (.loop c) Q a h := rfl
theorem opsM_nil {ops : Array Oper} {N : AAct → AH → Prop} : opsM P ops N [] a h = N a h := rfl
theorem opsM_cons {ops : Array Oper} {N : AAct → AH → Prop} {o : Oper} {l : List Oper} : opsM P ops N (o :: l) a h = (match okB o a with
    | false => False
    | true => match Region.wanted o (yieldedA ops a) with
      | false => opsM P ops N l (a.put o.dst undef) h
      | true => match o.op with
        | .call { callee := .value f, args, .. } => callR P (a.ev f) (args.toList.map a.ev) h (contK (opsM P ops N l) o.dst a)
        | .next it false => NextW (a.ev it) h (contK (opsM P ops N l) o.dst a)
        | op => match dop P a.ev op h with
          | some (v, h') => opsM P ops N l (a.put o.dst v) h'
          | none => False) := rfl
end eqs

end
end Go.Ab
