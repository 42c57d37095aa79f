/- Own layer 'Ab': the evaluated run is a run. -/
import Derived.Test.YtnejoceplinjpaaAb16
namespace Go.Ab

theorem EA.den_ev (a : EA) (d : Option Tmp) (v : Value) (a' : EA) (h : a.put? d v = some a') : a'.den = a.den.put d v ∧ dstOK a.den d := by
  unfold EA.put? at h
  cases d with
  | none => cases h; exact ⟨rfl, trivial⟩
  | some t =>
    simp only at h
    split at h
    · rename_i hlt
      split at h
      · rename_i tm htm
        cases h
        refine ⟨?_, hlt⟩
        simp only [EA.den, AAct.put]
        congr 1
        funext i
        simp only [EA.at, T.get_put htm]
        by_cases e : i = t
        · subst e; simp
        · simp [e]
      · cases h
    · cases h

theorem setE_den {h h' : EH} {A : Nat} {o : AObj} (e : setE h A o = some h') : h'.den = h.den.set A o := by
  unfold setE at e
  split at e
  · rename_i t ht; cases e
    simp only [EH.den, AH.set]; congr 1; funext i; rw [T.get_put ht]
  · cases e

theorem newE_den {h h' : EH} {o : AObj} (e : newE h o = some h') : h'.den = h.den.new o := by
  unfold newE at e
  split at e
  · rename_i t ht; cases e
    simp only [EH.den, AH.new]; congr 1; funext i; rw [T.get_put ht]; rfl
  · cases e

theorem relay_den {h' : AH} : ∀ (l : List Nat) (h h2 : EH), h.relay h' l = some h2 → (∀ A, A ∉ l → h'.get A = h.hp.get A) → h2.den = h' := by
  intro l
  induction l with
  | nil =>
    intro h h2 e hag
    simp only [EH.relay, forceN_eq] at e
    cases e
    obtain ⟨n, g⟩ := h'
    simp only [EH.den]; congr 1; funext i; exact (hag i (by simp)).symm
  | cons A as ih =>
    intro h h2 e hag
    simp only [EH.relay, forceO_eq] at e
    split at e
    · rename_i t ht
      refine ih _ _ e fun B hB => ?_
      simp only [T.get_put ht]
      by_cases eb : B = A
      · subst eb; simp
      · rw [if_neg eb]; exact hag B (by simp [eb, hB])
    · cases e

def keptBut (l : List Nat) (h h' : AH) : Prop := ∀ A, A ∉ l → h'.get A = h.get A

theorem keptBut.same (l : List Nat) (h : AH) : keptBut l h h := fun _ _ => rfl
theorem keptBut.new {l : List Nat} {h : AH} {o : AObj} (hm : h.next ∈ l) : keptBut l h (h.new o) := fun A hA => by rw [AH.new_get, if_neg (fun e => hA (by rw [e]; exact hm))]
theorem keptBut.set {l : List Nat} {h : AH} {A : Nat} {o : AObj} (hm : A ∈ l) : keptBut l h (h.set A o) := fun B hB => by rw [AH.set_get, if_neg (fun e => hB (by rw [e]; exact hm))]
theorem keptBut.delNew {l : List Nat} {h : AH} {A : Nat} {o : AObj} (hm : A ∈ l) (hn : h.next ∈ l) : keptBut l h ((h.del A).new o) := fun B hB => by
  rw [AH.new_get, AH.del_next, if_neg (fun e => hB (by rw [e]; exact hn)), AH.del_get, if_neg (fun e => hB (by rw [e]; exact hm))]

theorem map_kept {x : Option Value} {v : Value} {h h1 : AH} {l : List Nat} (hd : (x.map fun v => (v, h)) = some (v, h1)) : keptBut l h h1 := by
  obtain ⟨rfl, _⟩ := mapS hd; exact keptBut.same _ _

theorem mapAt_root {h : AH} {m : Value} {r : List MapEntry × Nat} (e : mapAt h m = some r) : ∃ M, m = .map (some M) := by
  unfold mapAt at e
  split at e
  · exact ⟨_, rfl⟩
  · cases e

theorem dop_touch {P : Program} {ev : Operand → Value} {op : Op} {h h' : AH} {v : Value} (hd : dop P ev op h = some (v, h')) : keptBut (h.next :: touched ev op) h h' := by
  have hn : ∀ {l : List Nat}, h.next ∈ h.next :: l := List.mem_cons_self ..
  have viaAlloc : allocK op = true → keptBut (h.next :: touched ev op) h h' := fun hk => by
    rcases dop_alloc hk hd with e | ⟨ob, e⟩ <;> subst e
    · exact keptBut.same _ _
    · exact keptBut.new hn
  have upd : ∀ {t : TypeId} {m k x : Value} {l : List Nat} {h2 : AH}, aUpdate P t m k x h = some h2 → (∀ M, m = .map (some M) → M ∈ l) → keptBut l h h2 := by
    intro t m k x l h2 hs hm
    unfold aUpdate at hs
    split at hs
    · split at hs
      · split at hs
        · cases hs
        · simp only [Option.map_eq_some_iff] at hs
          obtain ⟨o', _, rfl⟩ := hs
          exact keptBut.set (hm _ rfl)
      · cases hs
    · cases hs
  cases op <;> simp only [dop] at hd <;> (try cases hd; done) <;> (try exact map_kept hd)
  case move x => cases hd; exact keptBut.same _ _
  case assign x => cases hd; exact keptBut.same _ _
  case pick c x y => split at hd <;> cases hd; exact keptBut.same _ _
  case alloc => exact viaAlloc rfl
  case box => exact viaAlloc rfl
  case buildSlice => exact viaAlloc rfl
  case makeSlice => exact viaAlloc rfl
  case makeMap t r => exact viaAlloc rfl
  case makeInterface t x => split at hd <;> cases hd; exact keptBut.same _ _
  case makeFunc f a b =>
    cases f <;> simp only at hd <;> cases hd
    exact keptBut.same _ _
  case convert s d x =>
    split at hd
    · rename_i r hb; cases hd
      obtain ⟨ob, rfl⟩ := aBytes_next hb
      exact keptBut.new hn
    · exact map_kept hd
  case slice t x lo hi mx =>
    cases mx with
    | some _ => simp only at hd; cases hd
    | none => simp only at hd; exact map_kept hd
  case store t x y =>
    simp only [Option.map_eq_some_iff, Prod.mk.injEq] at hd
    obtain ⟨h2, hs, _, rfl⟩ := hd
    unfold aStore at hs
    split at hs
    · rename_i A off hx
      split at hs
      · cases hs
      · split at hs
        · split at hs
          · cases hs
          · simp only [Option.map_eq_some_iff] at hs
            obtain ⟨o', _, rfl⟩ := hs
            exact keptBut.set (by simp [touched, hx, roots])
        · cases hs
    · cases hs
  case mapUpdate t m k x =>
    simp only [Option.map_eq_some_iff, Prod.mk.injEq] at hd
    obtain ⟨h2, hs, _, rfl⟩ := hd
    exact upd hs (by simp only [touched]; exact fun M e => by rw [e]; simp [roots])
  case insert t m k x =>
    simp only [Option.map_eq_some_iff, Prod.mk.injEq] at hd
    obtain ⟨h2, hs, _, rfl⟩ := hd
    exact upd hs (by simp only [touched]; exact fun M e => by rw [e]; simp [roots])
  case mapEntry t m k =>
    unfold aEntry at hd
    split at hd
    · rename_i M _ hm
      repeat' split at hd
      all_goals first | (cases hd; done) | (cases hd; exact keptBut.set (by simp [touched, hm, roots]))
    · cases hd
  case entryStore t m s x =>
    simp only [Option.map_eq_some_iff, Prod.mk.injEq] at hd
    obtain ⟨h2, hs, _, rfl⟩ := hd
    unfold aEntryStore at hs
    split at hs
    · rename_i M _ _ hm _
      repeat' split at hs
      all_goals first | (cases hs; done) | (cases hs; exact keptBut.set (by simp [touched, hm, roots]))
    · cases hs
  case range t x =>
    unfold aRange at hd
    repeat' split at hd
    all_goals first | (cases hd; done) | (cases hd; exact keptBut.new hn)
  case call c =>
    obtain ⟨callee, args, at'⟩ := c
    cases callee <;> simp only at hd <;> first | cases hd; done | skip
    rename_i b
    unfold aBuiltin at hd
    have first : ∀ {x xs}, args.toList.map ev = x :: xs → touched ev (.call { callee := .builtin b, args, argTypes := at' }) = roots x := by
      intro x xs e
      simp only [touched]
      cases hl : args.toList with
      | nil => rw [hl] at e; cases e
      | cons y ys => rw [hl] at e; simp only [List.map_cons, List.cons.injEq] at e; rw [← e.1]
    split at hd
    · split at hd
      · exact map_kept hd
      · cases hd
    · rename_i s x hl
      rw [first hl]
      unfold aAppend at hd
      repeat' split at hd
      all_goals first
        | (cases hd; done)
        | (cases hd; exact keptBut.same _ _)
        | (cases hd; exact keptBut.new hn)
        | (cases hd; exact keptBut.delNew (by simp [roots]) hn)
        | (simp only [Option.map_eq_some_iff, Prod.mk.injEq] at hd
           obtain ⟨o', _, _, rfl⟩ := hd
           exact keptBut.set (by simp [roots]))
    · rename_i m k hl
      rw [first hl]
      split at hd
      · simp only [Option.map_eq_some_iff, Prod.mk.injEq] at hd
        obtain ⟨h2, hs, _, rfl⟩ := hd
        unfold aDelete at hs
        repeat' split at hs
        all_goals first
          | (cases hs; done)
          | (cases hs; exact keptBut.same _ _)
          | (cases hs; exact keptBut.set (by simp [roots]))
      · cases hd
    · rename_i d s hl
      rw [first hl]
      split at hd
      · unfold aCopy at hd
        repeat' split at hd
        all_goals first
          | (cases hd; done)
          | (cases hd; exact keptBut.same _ _)
          | (simp only [Option.map_eq_some_iff, Prod.mk.injEq] at hd
             obtain ⟨o', _, _, rfl⟩ := hd
             exact keptBut.set (by simp [roots]))
      · cases hd
    · exact map_kept hd
    · exact map_kept hd
    · cases hd
end Go.Ab
