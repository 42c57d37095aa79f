/- Own layer 'Ab': the evaluated run is a run: the theorem. -/
import Derived.Test.YtnejoceplinjpaaAb17
namespace Go.Ab

mutual
theorem sameV_eq : ∀ (a b : Value), sameV a b = true → a = b := by
  intro a b h
  unfold sameV at h
  split at h <;> (try simp only [Bool.and_eq_true, beq_iff_eq, decide_eq_true_eq] at h) <;> (try cases h; done)
  · rw [h]
  · rw [h.1, h.2]
  · rfl
  · rw [h.1, h.2]
  · rw [h.1, h.2]
  · obtain ⟨⟨⟨h1, h2⟩, h3⟩, h4⟩ := h; rw [h1, h2, h3, h4]
  · rfl
  · rw [h]
  · rfl
  · rfl
  · rw [sameVs_eq _ _ h]
  · rw [sameVs_eq _ _ h]
  · obtain ⟨⟨h1, h2⟩, h3⟩ := h; rw [h1, sameVs_eq _ _ h2, sameVs_eq _ _ h3]
  · obtain ⟨⟨h1, h2⟩, h3⟩ := h; rw [h1, sameVs_eq _ _ h2, sameVs_eq _ _ h3]
theorem sameVs_eq : ∀ (a b : List Value), sameVs a b = true → a = b := by
  intro a b h
  unfold sameVs at h
  split at h
  · rfl
  · simp only [Bool.and_eq_true] at h
    rw [sameV_eq _ _ h.1, sameVs_eq _ _ h.2]
  · cases h
end

def KQ (k : Exit → EA → EH → Bool) (e : Exit) (a : AAct) (h : AH) : Prop := ∃ ea eh, ea.den = a ∧ eh.den = h ∧ k e ea eh = true
def KV (k : Value → EH → Bool) (v : Value) (h : AH) : Prop := ∃ eh, eh.den = h ∧ k v eh = true
def KA (k : EA → EH → Bool) (a : AAct) (h : AH) : Prop := ∃ ea eh, ea.den = a ∧ eh.den = h ∧ k ea eh = true

def CallS (P : Program) (call : CallK) : Prop := ∀ g args h k, call g args h k = true → ACall P g args h.den (KV k)
def YieldS (P : Program) (yield : YieldK) : Prop := ∀ L args h k, yield L args h k = true → AYield P L args h.den (KV k)
def CodeS (P : Program) (ec : CodeK) : Prop := ∀ rd c a h k, ec rd c a h k = true → AW P rd c (KQ k) a.den h.den

section
variable {P : Program} {call : CallK} {yield : YieldK} {ec : CodeK}

theorem stays_same {ev : Operand → Value} {op : Op} {h h1 : AH} {v : Value} (hs : stays P ev op h = true) (hd : dop P ev op h = some (v, h1)) : h1 = h := by
  unfold stays at hs
  split at hs
  · rename_i s d x
    simp only [dop] at hd
    rw [Option.isNone_iff_eq_none] at hs
    rw [hs] at hd
    exact (mapS hd).1
  · rename_i hne
    rw [Bool.or_eq_true] at hs
    rcases hs with hp | hr
    · rcases dop_pure' hp hd with ⟨e, _⟩ | ⟨ob, e⟩
      · exact e
      · exfalso
        subst e
        have key : ∀ {x : Option Value}, (x.map fun v => (v, h)) = some (v, h.new ob) → False := fun e => new_ne (mapS e).1.symm
        unfold pureK at hp
        split at hp <;> (try cases hp; done) <;> simp only [dop] at hd <;> (try exact key hd)
        · injection hd with hd; injection hd with _ e; exact new_ne e
        · injection hd with hd; injection hd with _ e; exact new_ne e
        · split at hd
          · injection hd with hd; injection hd with _ e; exact new_ne e
          · cases hd
        · exact hne _ _ _ rfl
        · split at hd
          · injection hd with hd; injection hd with _ e; exact new_ne e
          · cases hd
        · rename_i f a b
          cases f <;> simp only at hd <;> first | (injection hd with hd; injection hd with _ e; exact new_ne e) | cases hd
        · rename_i t x lo hi mx
          cases mx with
          | some _ => simp only at hd; cases hd
          | none => simp only at hd; exact key hd
        all_goals
          unfold aBuiltin at hd
          rename_i args at'
          cases hm : args.toList.map ev with
          | nil => rw [hm] at hd; cases hd
          | cons x xs => rw [hm] at hd; exact key hd
    · exact (dop_read hr hd).1

theorem evD_sound {ev : Operand → Value} {op : Op} {h : EH} {k : Value → EH → Bool} (he : evD P ev op h k = true) : ∃ v h', dop P ev op h.den = some (v, h') ∧ KV k v h' := by
  unfold evD at he
  rw [dopF_eq] at he
  split at he
  · rename_i v h' hd
    refine ⟨v, h', hd, ?_⟩
    split at he
    · rename_i hs
      rw [force_eq] at he
      exact ⟨h, (stays_same hs hd).symm, he⟩
    · split at he
      · rename_i h2 hr
        rw [force_eq] at he
        exact ⟨h2, relay_den _ _ _ hr (dop_touch hd), he⟩
      · cases he
  · cases he

theorem evNext_sound {p : Value} {h : EH} {k : Value → EH → Bool} (he : evNext p h k = true) : NextW p h.den (KV k) := by
  unfold evNext at he
  split at he
  · rename_i I
    refine ⟨I, rfl, ?_⟩
    split at he
    · rename_i a b c hg
      exact .inl ⟨_, _, _, hg, h, rfl, he⟩
    · rename_i M since seen stepped hg
      split at he
      · rename_i es clk hgm
        simp only [Bool.and_eq_true, Bool.not_eq_true'] at he
        refine .inr ⟨M, since, seen, stepped, es, clk, hg, hgm, he.1, fun x hx => ?_⟩
        have := List.all_eq_true.1 he.2 x hx
        cases x with
        | none => exact ⟨h, rfl, this⟩
        | some e =>
          simp only at this
          split at this
          · rename_i h' hs; exact ⟨h', setE_den hs, this⟩
          · cases this
      · cases he
    · cases he
  · cases he

theorem evR_sound (hc : CallS P call) (hy : YieldS P yield) {ev : Operand → Value} {op : Op} {h : EH} {k : Value → EH → Bool} (he : evR P call yield ev op h k = true) : opR P ev op h.den (KV k) := by
  unfold evR at he
  split at he
  · rename_i f args at'
    simp only [opR]
    split at he
    · rename_i hf; rw [hf]; exact hc _ _ _ _ he
    · rename_i hf; rw [hf]; exact hy _ _ _ _ he
    · cases he
  · exact evNext_sound he
  · obtain ⟨v, h', hd, hk⟩ := evD_sound he
    exact opR_of_dop hd hk

theorem dstB_ok {a : EA} {d : Option Tmp} (h : dstB a.n d = true) : dstOK a.den d := by
  cases d with
  | none => trivial
  | some t => exact (of_decide_eq_true h : t < a.n)

theorem evOp_sound (hc : CallS P call) (hy : YieldS P yield) {ops : Array Oper} {o : Oper} {a : EA} {h : EH} {k : EA → EH → Bool} (he : evOp P call yield ops o a h k = true) : opW P ops o a.den h.den (KA k) := by
  unfold evOp at he
  simp only [Bool.and_eq_true] at he
  obtain ⟨⟨h1, h2⟩, h3⟩ := he
  refine ⟨h1, dstB_ok h2, ?_⟩
  have fin : ∀ {v : Value} {h' : AH}, KV (fun v h' => match a.put? o.dst v with | some a' => k a' h' | none => false) v h' → KA k (a.den.put o.dst v) h' := by
    rintro v h' ⟨eh, rfl, hk⟩
    simp only at hk
    split at hk
    · rename_i a' ha; exact ⟨a', eh, (EA.den_ev _ _ _ _ ha).1, rfl, hk⟩
    · cases hk
  split at h3
  · rename_i hg
    have : Region.wanted o (yieldedA ops a.den) = true := by unfold Region.wanted; rw [hg]
    rw [if_pos this]
    exact (evR_sound hc hy h3).mono fun _ _ => fin
  · split at h3
    · rename_i hw
      rw [if_pos hw]
      exact (evR_sound hc hy h3).mono fun _ _ => fin
    · rename_i hw
      rw [if_neg hw]
      exact fin ⟨h, rfl, h3⟩

theorem evTake_sound {ops : Array Oper} {o : Oper} {a : EA} {h : EH} {k : Value → EA → Bool} (he : evTake P ops o a h k = true) : ∃ v a', Still P ops o v a.den h.den ∧ a'.den = a.den.put o.dst v ∧ k v a' = true := by
  unfold evTake at he
  simp only [Bool.and_eq_true, dopF_eq] at he
  obtain ⟨⟨h1, h2⟩, h3⟩ := he
  split at h3
  · rename_i hw
    split at h3
    · rename_i v h' hd
      simp only [Bool.and_eq_true, force_eq] at h3
      obtain ⟨hs, h3⟩ := h3
      split at h3
      · rename_i a' ha
        refine ⟨v, a', ⟨h1, dstB_ok h2, ?_⟩, (EA.den_ev _ _ _ _ ha).1, h3⟩
        rw [if_pos hw, hd, stays_same hs hd]
      · cases h3
    · cases h3
  · rename_i hw
    split at h3
    · rename_i a' ha
      refine ⟨undef, a', ⟨h1, dstB_ok h2, ?_⟩, (EA.den_ev _ _ _ _ ha).1, h3⟩
      rw [if_neg hw]
    · cases h3

theorem keepsE_sound {ops : Array Oper} {R : List (Oper × Value)} {a : EA} {h : EH} (he : keepsE P ops R a h = true) : Keeps P ops R a.den h.den := by
  intro p hp
  have := List.all_eq_true.1 he p hp
  simp only [Bool.and_eq_true, dopF_eq] at this
  obtain ⟨⟨h1, h2⟩, h3⟩ := this
  refine ⟨h1, dstB_ok h2, ?_⟩
  split at h3
  · rename_i hw
    rw [if_pos hw]
    split at h3
    · rename_i v h' hd
      simp only [Bool.and_eq_true] at h3
      rw [hd, stays_same h3.2 hd, sameV_eq _ _ h3.1]
    · cases h3
  · rename_i hw
    rw [if_neg hw]; exact sameV_eq _ _ h3

theorem evOps_sound (hc : CallS P call) (hy : YieldS P yield) {ops : Array Oper} {Q : Exit → AAct → AH → Prop} {k : EA → EH → Bool} (hq : ∀ a h, k a h = true → Q .normal a.den h.den) : ∀ (l : List Nat) (os : List Oper) (a : EA) (h : EH),
    l.map (ops[·]?) = os.map some → evOps P call yield ops os a h k = true → opsW P ops Q l a.den h.den := by
  intro l
  induction l with
  | nil =>
    intro os a h hl he
    cases os with
    | nil => exact hq _ _ he
    | cons => cases hl
  | cons i l ih =>
    intro os a h hl he
    cases os with
    | nil => cases hl
    | cons o os =>
      simp only [List.map_cons, List.cons.injEq] at hl
      simp only [opsW, hl.1]
      simp only [evOps] at he
      refine (evOp_sound hc hy he).mono ?_
      rintro a' h' ⟨ea, eh, rfl, rfl, hk⟩
      exact ih os ea eh hl.2 hk

theorem evI_sound (hc : CallS P call) (hy : YieldS P yield) {ops : Array Oper} {i : Nat} {a : EA} {h : EH} {k : EA → EH → Bool} {K : AAct → AH → Prop} (hk : ∀ a h, k a h = true → K a.den h.den) (he : evI P call yield ops i a h k = true) : opI P ops i a.den h.den K := by
  unfold evI at he
  unfold opI
  split at he
  · rename_i o ho
    rw [ho]
    refine (evOp_sound hc hy he).mono ?_
    rintro a' h' ⟨ea, eh, rfl, rfl, x⟩
    exact hk _ _ x
  · cases he

theorem evPlan_sound (hc : CallS P call) (hy : YieldS P yield) {ops : Array Oper} {Q : Exit → AAct → AH → Prop} {k : EA → EH → Bool} (hq : ∀ a h, k a h = true → Q .normal a.den h.den) : ∀ (p : Plan) (R : List (Oper × Value)) (a : EA) (h : EH),
    evPlan P call yield ops p R a h k = true → planW P ops Q p R a.den h.den := by
  intro p
  induction p with
  | done => intro R a h he; exact hq _ _ he
  | take i D p ih =>
    intro R a h he
    simp only [evPlan] at he
    split at he
    · rename_i o ho
      obtain ⟨v, a', hs, ha, hk⟩ := evTake_sound he
      exact ⟨o, v, ho, hs, by rw [← ha]; exact ih R a' h hk⟩
    · cases he
  | watch i D p ih =>
    intro R a h he
    simp only [evPlan] at he
    split at he
    · rename_i o ho
      obtain ⟨v, a', hs, ha, hk⟩ := evTake_sound he
      exact ⟨o, v, ho, hs, by rw [← ha]; exact ih _ a' h hk⟩
    · cases he
  | only i p ih =>
    intro R a h he
    exact evI_sound hc hy (fun a h hk => by simp only [Bool.and_eq_true] at hk; exact ⟨keepsE_sound hk.1, ih R a h hk.2⟩) he
  | two i p j q ih1 ih2 =>
    intro R a h he
    simp only [evPlan, Bool.and_eq_true] at he
    exact ⟨evI_sound hc hy (fun a h hk => by simp only [Bool.and_eq_true] at hk; exact ⟨keepsE_sound hk.1, ih1 R a h hk.2⟩) he.1,
      evI_sound hc hy (fun a h hk => by simp only [Bool.and_eq_true] at hk; exact ⟨keepsE_sound hk.1, ih2 R a h hk.2⟩) he.2⟩
  | three i p j q x r ih1 ih2 ih3 =>
    intro R a h he
    simp only [evPlan, Bool.and_eq_true] at he
    exact ⟨evI_sound hc hy (fun a h hk => by simp only [Bool.and_eq_true] at hk; exact ⟨keepsE_sound hk.1, ih1 R a h hk.2⟩) he.1.1,
      evI_sound hc hy (fun a h hk => by simp only [Bool.and_eq_true] at hk; exact ⟨keepsE_sound hk.1, ih2 R a h hk.2⟩) he.1.2,
      evI_sound hc hy (fun a h hk => by simp only [Bool.and_eq_true] at hk; exact ⟨keepsE_sound hk.1, ih3 R a h hk.2⟩) he.2⟩

theorem findPlan_spec {id : Nat} {ops : Array Oper} {p : Plan} : ∀ {l : List (Nat × Nat × Plan)}, findPlan id ops l = some p → planOK ops (Array.replicate ops.size false) [] p = true ∧ p.len ≤ ops.size := by
  intro l
  induction l with
  | nil => intro h; cases h
  | cons x l ih =>
    obtain ⟨i, s, q⟩ := x
    intro h
    simp only [findPlan] at h
    split at h
    · split at h
      · rename_i hk
        simp only [Bool.and_eq_true, decide_eq_true_eq] at hk
        cases h; exact hk
      · exact ih h
    · exact ih h

theorem putL_den : ∀ (vs : List Value) (t t' : T Value) (i : Nat), putL t i vs = some t' → ∀ j, t'.get j = if i ≤ j ∧ j < i + vs.length then vs[j - i]? else t.get j := by
  intro vs
  induction vs with
  | nil => intro t t' i h j; cases h; rw [if_neg (by simp)]
  | cons v vs ih =>
    intro t t' i h j
    simp only [putL] at h
    split at h
    · rename_i t1 ht
      rw [ih _ _ _ h j, T.get_put ht]
      by_cases e : j = i
      · subst e
        rw [if_neg (by omega), if_pos rfl, if_pos (by simp)]; simp
      · by_cases c : i + 1 ≤ j ∧ j < i + 1 + vs.length
        · rw [if_pos c, if_pos (by simp; omega)]
          have : j - i = (j - (i + 1)) + 1 := by omega
          rw [this, List.getElem?_cons_succ]
        · rw [if_neg c, if_neg e, if_neg (by simp; omega)]
    · cases h

theorem full_get {α : Type} : ∀ (d k : Nat), (T.full d : T α).get k = none := by
  intro d
  induction d with
  | zero => intro k; rfl
  | succ d ih =>
    intro k
    cases k with
    | zero => rfl
    | succ k => simp only [T.full, T.get]; split <;> exact ih _

theorem enterE_den {fn : Func} {args : List Value} {a : EA} (h : enterE fn args = some a) : a.den = enterA fn args := by
  unfold enterE at h
  split at h
  · rename_i t ht
    cases h
    simp only [EA.den, enterA]
    congr 1
    funext i
    simp only [EA.at, putL_den _ _ _ _ ht i, Nat.zero_le, Nat.zero_add, true_and, Nat.sub_zero, full_get]
    rw [List.getD_eq_getElem?_getD]
    split
    · rename_i v hv
      split at hv
      · rw [hv]; rfl
      · cases hv
    · rename_i hv
      split at hv
      · rw [hv]; rfl
      · rename_i hlt; rw [List.getElem?_eq_none (by omega)]; rfl
  · cases h

theorem closeE_den : ∀ {as : List Nat} {h h' : EH}, closeE as h = some h' → closeMarks as h.den = some h'.den := by
  intro as
  induction as with
  | nil => intro h h' e; cases e; rfl
  | cons A as ih =>
    intro h h' e
    simp only [closeE] at e
    split at e
    · rename_i hg
      split at e
      · rename_i h1 hs
        have hg' : h.den.get A = some (.dfr true) := hg
        simp only [closeMarks, hg', ← setE_den hs]
        exact ih e
      · cases e
    · cases e

theorem puts_den : ∀ (l : List (Tmp × Value)) (a a' : EA), a.puts? l = some a' → a'.den = { a.den with tm := l.foldl (fun tm (p : Tmp × Value) => fun i => if i = p.1 then p.2 else tm i) a.den.tm } ∧ (∀ p ∈ l, p.1 < a.n) := by
  intro l
  induction l with
  | nil => intro a a' h; cases h; exact ⟨rfl, fun _ h => by cases h⟩
  | cons p l ih =>
    obtain ⟨t, v⟩ := p
    intro a a' h
    simp only [EA.puts?] at h
    split at h
    · rename_i a1 h1
      obtain ⟨e1, e2⟩ := EA.den_ev _ _ _ _ h1
      obtain ⟨e3, e4⟩ := ih _ _ h
      have hn : a1.n = a.n := by have := congrArg AAct.n e1; simpa [EA.den, AAct.put] using this
      refine ⟨?_, fun p hp => ?_⟩
      · rw [e3, e1]; rfl
      · rcases List.mem_cons.1 hp with rfl | hp
        · exact e2
        · rw [← hn]; exact e4 p hp
    · cases h

theorem roundK_sound {L : Nat} {k : Value → EH → Bool} {e : Exit} {a : AAct} {h : EH} (he : roundK L k e h = true) : roundQ L (KV k) e a h.den := by
  unfold roundK at he
  split at he
  · rename_i l hg
    refine ⟨l, hg, ?_⟩
    cases e <;> simp only at he ⊢ <;> (try cases he; done) <;>
      (split at he
       · rename_i h' hs; exact ⟨h', setE_den hs, he⟩
       · cases he)
  · cases he

theorem evYield_sound (hec : CodeS P ec) : YieldS P (fun L args h k => evYield ec L args h k) := by
  intro L args h k he
  simp only [evYield] at he
  split at he
  · rename_i l hg
    simp only [Bool.and_eq_true, decide_eq_true_eq] at he
    obtain ⟨hlen, he⟩ := he
    split at he
    · rename_i a ha
      obtain ⟨e1, e2⟩ := puts_den _ _ _ ha
      have hden : a.den = l.act args := by
        rw [e1]
        simp only [ALoop.act, EA.den]
        congr 1
        have : (EA.at { n := l.n, base := l.tm, tm := T.full 8, df := [] }) = l.tm := by
          funext i; simp only [EA.at, full_get]
        rw [this]
      refine ⟨l, hg, hlen, fun p hp => ?_, ?_⟩
      · obtain ⟨i, hi, hpi⟩ := List.getElem_of_mem hp
        have hia : i < args.length := by rw [hlen]; simpa using hi
        have : (p, args[i]) ∈ l.params.toList.zip args := by
          rw [List.mem_iff_getElem]
          exact ⟨i, by simp; omega, by simp [← hpi]⟩
        exact e2 _ this
      · rw [← hden]
        refine (hec _ _ _ _ _ he).mono ?_
        rintro e a' h' ⟨ea, eh, rfl, rfl, hk⟩
        simp only at hk
        split at hk
        · refine ⟨rfl, ?_⟩
          split at hk
          · rename_i l1 hg1
            simp only [Bool.and_eq_true] at hk
            obtain ⟨hst, hk⟩ := hk
            have hst' : l1.state = .ready := by
              unfold isReady at hst; split at hst
              · assumption
              · cases hst
            split at hk
            · rename_i h2 hs
              refine ⟨l1, hg1, hst', ?_⟩
              rw [← setE_den hs]
              refine (hec _ _ _ _ _ hk).mono ?_
              rintro e a2 h3 ⟨ea2, eh2, rfl, rfl, hk2⟩
              exact roundK_sound hk2
            · cases hk
          · cases hk
        · cases hk
    · cases he
  · cases he

theorem evCall_sound (hec : CodeS P ec) : CallS P (fun g args h k => evCall P ec g args h k) := by
  intro g args h k he
  simp only [evCall] at he
  split at he
  · rename_i fn hf
    split at he
    · rename_i c hb
      simp only [Bool.and_eq_true, Bool.not_eq_true'] at he
      obtain ⟨hn, he⟩ := he
      split at he
      · rename_i a ha
        refine ACall.of_body hf hb hn ?_
        rw [← enterE_den ha]
        refine (hec _ _ _ _ _ he).mono ?_
        rintro e a1 h1 ⟨ea, eh, rfl, rfl, hk⟩
        simp only [Bool.and_eq_true] at hk
        obtain ⟨hx, hk⟩ := hk
        split at hk
        · rename_i h2 hc
          split at hk
          · rename_i vs hv
            refine ⟨?_, h2.den, vs, closeE_den hc, hv, h2, rfl, hk⟩
            cases e <;> first | exact .inl rfl | exact .inr rfl | cases hx
          · cases hk
        · cases hk
      · cases he
    · cases he
  · cases he

def AH.view (h : AH) : AH := { next := h.next, get := fun A => (h.get A).bind AObj.view }

theorem view_den (h : EH) : h.view.den = AH.view h.den := by
  simp only [EH.view, EH.den, AH.view]
  congr 1; funext i; exact T.get_mapO _ _ _

theorem view_ro {o o' : AObj} (h : o.view = some o') : o'.own = false := by
  cases o <;> simp only [AObj.view] at h <;> cases h <;> rfl

theorem HR.view {ρ : Ren} {h : AH} {w : World} (hr : HR ρ h w) : HR ρ (AH.view h) w := by
  refine ⟨fun A o ha => ?_, fun A B o p r q h1 h2 _ _ _ how => ?_, hr.dom⟩
  · obtain ⟨o0, h0, hv⟩ := Option.bind_eq_some_iff.1 ha
    obtain ⟨r, hq, hor⟩ := hr.obj A o0 h0
    refine ⟨r, hq, ?_⟩
    cases o0 <;> simp only [AObj.view] at hv <;> cases hv
    · obtain ⟨cc, fr, hrow⟩ := hor
      exact ⟨cc, fr, hrow.heap, hrow.fits, hrow.cell, (fun hw => by cases hw), hrow.one⟩
    · obtain ⟨cc, fr, hrow, _⟩ := hor
      exact ⟨cc, fr, hrow.heap, hrow.fits, hrow.cell, (fun hw => by cases hw), hrow.one⟩
  · obtain ⟨_, _, e1⟩ := Option.bind_eq_some_iff.1 h1
    obtain ⟨_, _, e2⟩ := Option.bind_eq_some_iff.1 h2
    rw [view_ro e1, view_ro e2] at how; simp at how

theorem plain_only {ρ : Ren} : ∀ (n : Nat) (v v' : Value), plain n v = true → VR ρ v v' → v' = v := by
  intro n
  induction n with
  | zero => intro v v' h; cases h
  | succ n ih =>
    have arr : ∀ (xs xs' : Array Value), xs.toList.all (plain n) = true → xs.size = xs'.size → (∀ (i : Nat) (v v' : Value), xs[i]? = some v → xs'[i]? = some v' → VR ρ v v') → xs' = xs := by
      intro xs xs' hp hs hv
      apply Array.ext hs.symm
      intro i h1 h2
      have hx : xs[i]? = some xs[i] := Array.getElem?_eq_getElem h2
      have hx' : xs'[i]? = some xs'[i] := Array.getElem?_eq_getElem h1
      exact ih _ _ (List.all_eq_true.1 hp _ (by simp)) (hv i _ _ hx hx')
    intro v v' h hv
    cases hv with
    | bool b => rfl
    | int k n => rfl
    | string s => rfl
    | nilPtr => rfl
    | ptr h' => cases h
    | nilSlice l c => rfl
    | slice h' hc => cases h
    | slack h' hl hlim => cases h
    | slack0 h' => cases h
    | nilMap => rfl
    | map h' => cases h
    | nilFunc => rfl
    | func hf h1 h2 h3 h4 => cases h
    | nilIface => rfl
    | iface h' => rw [ih _ _ h h']
    | agg h1 h2 => rw [arr _ _ h h1 h2]
    | tuple h1 h2 => rw [arr _ _ h h1 h2]

/-- A run on a view of the heap, whose result holds no address: it leaves the heap as it is. -/
theorem ACall.viewed {g : FuncId} {args : List Value} {V : Value} {h : AH} (hV : plain 9 V = true) (hc : ACall P g args (AH.view h) (fun v _ => v = V)) : ACall P g args h (fun v h' => v = V ∧ h' = h) := by
  refine ⟨hc.1, fun ρ cargs w hl hr => (hc.2 ρ cargs w hl hr.view).mono ?_⟩
  rintro e w' ⟨ρ', v, v', h', rfl, rfl, hv, hr', hf⟩
  have hrest : ∀ b, b < w.heap.size → w'.heap[b]? = w.heap[b]? := fun b hb => hf.rest b hb (by
    rintro ⟨A, o, r, x, hown, _⟩
    obtain ⟨_, _, e1⟩ := Option.bind_eq_some_iff.1 x
    rw [view_ro e1] at hown; cases hown)
  have hv' : v' = v := plain_only 9 v v' hV hv
  refine ⟨ρ, v, v', h, rfl, ⟨rfl, rfl⟩, by rw [hv']; exact plain_VR ρ 9 v hV, ?_, ?_⟩
  · exact ⟨fun A o ha => let ⟨r, q, hor⟩ := hr.obj A o ha; ⟨r, q, hor.move (Ren.le_refl _) (hrest _ hor.lt)⟩, hr.inj, hr.dom⟩
  · exact ⟨Ren.le_refl _, hf.size, fun b hb _ => hrest b hb, fun b hb => .inl hb, hf.side⟩

theorem evCallV_sound {E : Env} {ec : CodeK} (hec : CodeS E.P ec) : CallS E.P (fun g args h k => evCallV E ec g args h k) := by
  intro g args h k he
  simp only [evCallV] at he
  split at he
  · rename_i V hV
    simp only [Bool.and_eq_true] at he
    obtain ⟨hp, he, hk⟩ := he
    have h1 := evCall_sound hec _ _ _ _ he
    rw [view_den] at h1
    refine ACall.mono ?_ (ACall.viewed hp (ACall.mono ?_ h1))
    · rintro v h' ⟨rfl, rfl⟩; exact ⟨h, rfl, hk⟩
    · rintro v h' ⟨eh, _, hs⟩; exact sameV_eq _ _ hs
  · exact evCall_sound hec _ _ _ _ he

theorem rangeK_sound (hec : CodeS P ec) {rd : Option Nat} {L : Nat} {a : EA} {k : Exit → EA → EH → Bool} {v : Value} {h : EH} (he : rangeK ec rd L a k v h = true) : rangeQ P rd L a.den (KQ k) v h.den := by
  unfold rangeK at he
  split at he
  · rename_i l hg
    simp only [Bool.and_eq_true, Bool.not_eq_true'] at he
    obtain ⟨hb, he⟩ := he
    split at he
    · rename_i h' hs
      refine ⟨l, hg, (fun e => by rw [e] at hb; cases hb), ?_⟩
      rw [← setE_den hs]
      split at he
      · rename_i hp; simp only [hp]; exact ⟨a, h', rfl, rfl, he⟩
      · rename_i c hp; simp only [hp]; exact hec _ _ _ _ _ he
    · cases he
  · cases he

theorem evRange_sound (hec : CodeS P ec) {rd : Option Nat} {g : Operand} {ps : Array Tmp} {assign body : Code} {a : EA} {h : EH} {k : Exit → EA → EH → Bool} (he : evRange P ec rd g ps assign body a h k = true) :
    rangeW P rd g ps assign body (KQ k) a.den h.den := by
  unfold evRange at he
  simp only [Bool.and_eq_true] at he
  obtain ⟨hc, he⟩ := he
  split at he
  · rename_i gf first cap hev
    refine ⟨gf, first, cap, hc, hev, ?_⟩
    cases rd with
    | none =>
      simp only at he ⊢
      split at he
      · rename_i h1 hn1
        split at he
        · rename_i h2 hn2
          have := evCall_sound hec _ _ _ _ he
          rw [newE_den hn2, newE_den hn1] at this
          refine ACall.mono ?_ this
          rintro v h' ⟨eh, rfl, hk⟩
          exact rangeK_sound hec hk
        · cases he
      · cases he
    | some L0 =>
      simp only at he ⊢
      split at he
      · rename_i l0 hg0
        split at he
        · rename_i h2 hn2
          refine ⟨l0, hg0, ?_⟩
          have := evCall_sound hec _ _ _ _ he
          rw [newE_den hn2] at this
          refine ACall.mono ?_ this
          rintro v h' ⟨eh, rfl, hk⟩
          exact rangeK_sound hec hk
        · cases he
      · cases he
  · cases he

theorem evC_sound {E : Env} (hm : E.P.follows .mixedOrders = true) : ∀ f, CodeS E.P (evC E f) := by
  intro f
  induction f using Nat.strongRecOn with
  | _ f ihs =>
  cases f with
  | zero => intro rd c a h k he; cases he
  | succ f =>
    have ih : CodeS E.P (evC E f) := ihs f (Nat.lt_succ_self f)
    intro rd c a h k he
    have he0 := he
    cases c <;> simp only [evC] at he <;> (try cases he; done)
    case skip => exact AW.skip ⟨a, h, rfl, rfl, he⟩
    case ret => exact AW.ret ⟨a, h, rfl, rfl, he⟩
    case exit id => exact AW.exit ⟨a, h, rfl, rfl, he⟩
    case goto l => exact AW.goto ⟨a, h, rfl, rfl, he⟩
    case label l => exact AW.label ⟨a, h, rfl, rfl, he⟩
    case seq x y =>
      refine AW.seq ((ih _ _ _ _ _ he).mono ?_)
      rintro e a' h' ⟨ea, eh, rfl, rfl, hk⟩
      cases e <;> simp only at hk
      · exact ih _ _ _ _ _ hk
      all_goals exact ⟨ea, eh, rfl, rfl, hk⟩
    case cond c x y =>
      simp only [Bool.and_eq_true] at he
      obtain ⟨hc, he⟩ := he
      split at he
      · rename_i hv; exact AW.cond (t := true) hc hv (ih _ _ _ _ _ he)
      · rename_i hv; exact AW.cond (t := false) hc hv (ih _ _ _ _ _ he)
      · cases he
    case block id c =>
      refine AW.block ((ih _ _ _ _ _ he).mono ?_)
      rintro e a' h' ⟨ea, eh, rfl, rfl, hk⟩
      cases e <;> simp only at hk
      case exit i =>
        simp only [blockQ]
        split at hk
        · rename_i e; rw [if_pos e]; exact ⟨ea, eh, rfl, rfl, hk⟩
        · rename_i e; rw [if_neg e]; exact ⟨ea, eh, rfl, rfl, hk⟩
      all_goals exact ⟨ea, eh, rfl, rfl, hk⟩
    case loop c =>
      refine AW.loop (fun m a h => m ≤ f + 1 ∧ ∃ ea eh, ea.den = a ∧ eh.den = h ∧ evC E m rd (.loop c) ea eh k = true) (f + 1) ⟨Nat.le_refl _, a, h, rfl, rfl, he0⟩ ?_
      rintro m a' h' ⟨hm, ea, eh, rfl, rfl, hk⟩
      cases m with
      | zero => cases hk
      | succ m =>
        simp only [evC] at hk
        refine (ihs m (by omega) _ _ _ _ _ hk).mono ?_
        rintro e a2 h2 ⟨ea2, eh2, rfl, rfl, hk2⟩
        cases e <;> simp only at hk2
        · exact ⟨m, Nat.lt_succ_self m, by omega, ea2, eh2, rfl, rfl, hk2⟩
        all_goals exact ⟨ea2, eh2, rfl, rfl, hk2⟩
    case region id ops draw =>
      cases draw with
      | false =>
        simp only at he
        refine AW.region (evOps_sound (evCallV_sound (E := E) ih) (evYield_sound ih) (fun a h hk => ⟨a, h, rfl, rfl, hk⟩) _ ops.toList a h ?_ he)
        apply List.ext_getElem?
        intro i
        simp only [List.getElem?_map]
        by_cases hi : i < ops.size
        · rw [List.getElem?_range hi]
          simp [Array.getElem?_eq_getElem hi]
        · rw [List.getElem?_eq_none (by simpa using hi), List.getElem?_eq_none (by simpa using hi)]; rfl
      | true =>
        simp only at he
        split at he
        · rename_i p hp
          obtain ⟨h1, h2⟩ := findPlan_spec hp
          exact AW.plan p hm h1 h2 (evPlan_sound (evCallV_sound (E := E) ih) (evYield_sound ih) (fun a h hk => ⟨a, h, rfl, rfl, hk⟩) p [] a h he)
        · cases he
    case rangeFunc g ps assign body => exact AW.rangeFunc (evRange_sound ih he)

end
end Go.Ab
