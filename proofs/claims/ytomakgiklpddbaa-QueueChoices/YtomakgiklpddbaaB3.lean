/- The queue: gives, over. The queue: the later times, plainly and laid. The queue: slot, trim, undrive, unwake. The queue: undrive, unwake, slot. The queue: slot. The queue: At's checks. The queue: what At makes of it, plainly. The queue: At, drives and threads. The queue: At, updates. The queue: At, Update, Pending, Cancel. The queue: First. The queue: Left. The queue: Advance, plainly; its checks; its loops. The queue: Advance's loops. The queue: Advance. The queue: Advance, joined. The queue: New, Choices. The queue: New, Choices. The queue: a list's order, computed; the chapter's examples, plainly. The queue: awake returns true. -/
import Derived.Test.YtomakgiklpddbaaB2
set_option linter.unusedSimpArgs false
set_option linter.unusedVariables false
namespace Go.Ab.Q
open Go.Proofs
set_option linter.unusedSimpArgs false
set_option linter.unusedVariables false
set_option maxRecDepth 100000
set_option maxHeartbeats 4000000
attribute [local push_cast] wpA_skip wpA_ret wpA_exit wpA_seq wpA_block wpA_cond2 andK_true wpA_region wpA_draw wpA_loop thenQ_normal thenQ_ret thenQ_exit blockQ_normal blockQ_ret blockQ_exit condV_true condV_false opsM_nil opsM_cons2 okM_true wantM_true wantM_false stepM seqM_cons2 seqM_nil2 okS_true wantS_true wantS_false stepS skipS okB Keeps_nil contK_app List.zip_cons_cons List.zip_nil_left List.zip_nil_right Op.operands Call.operands Array.toList_append List.append_nil List.nil_append List.all_cons List.all_nil cOK plain put_n put_tm put_none put_df ev_tmp ev_const ev_func wanted_none wanted_some callR_func dop ex_some1 aBuiltin aBin intBin aUn Option.map_some Bool.and_true Bool.true_and Bool.and_self List.map_cons List.map_nil List.toList_toArray List.getElem?_toArray List.getElem?_cons_zero List.getElem?_cons_succ Option.getD_some Option.getD_none Bool.false_eq_true eq_self_iff_true decide_true decide_false List.cons_append aExtract resL resV List.getD_cons_zero List.getD_cons_succ List.getD_nil Nat.succ_ne_self g1 g2 yieldedA2 isB_bool isB_undef g3 Option.bind_some Option.bind_none bne_self_eq_false beq_self_eq_true Bool.not_true Bool.not_false Int.toNat_natCast List.length_map List.mem_cons List.not_mem_nil or_false not_false_eq_true decide_not Bool.not_not bodyR_ret2 bodyR_normal2 closeMarks_nil ex_some0 Nat.zero_add Nat.add_zero ieq ine List.map_toArray Option.toArray_none Option.toArray_some oev Keeps_cons Still_eq selL wpX_skip wpX_ret wpX_exit wpX_seq wpX_block wpX_cond wpX_region wpX_draw wpX_loop List.take_succ_cons List.take_zero List.drop_succ_cons List.drop_zero Int.zero_add Int.add_zero aNil if_true if_false true_and and_true

theorem evEql (x y : Ev) : eqBin Try.prog .eql 33 (.agg (evC x).toArray) (.agg (evC y).toArray) = some (.bool (decide (x = y))) := by
  have hs : Try.prog.stoodInHeld 33 = false := by kernel_rfl
  have hg : Try.prog.eqGuardType Try.prog.depth 33 = false := by kernel_rfl
  have e : decide (x = y) = (x.kind == y.kind && (x.index == y.index && x.tag == y.tag)) := by
    cases x; cases y
    simp only [Ev.mk.injEq, Bool.decide_and, ieq]
  rw [e]
  simp [eqBin, guardOn, hg, aEq, Try.underlying33, hs, eqAll, aPart, aggT, Try.underlying3, Try.underlying5, evC]
  cases (x.kind == y.kind) <;> cases (x.index == y.index) <;> cases (x.tag == y.tag) <;> rfl

theorem givesN {b h : AH} {s : QS} {nm : Nat → Nat} {ob : Nat → Option AObj} (w0 : WFH b) (r : QR b h s nm ob) (k i t : Int) :
    ACall Try.prog 17 [vA (nm 0), .int .u8 k, .int .i64 i, .int .i64 t] h (fun v h' => v = .bool ((nextS s).2.1 && decide ((nextS s).1 = ⟨k, i, t⟩)) ∧ ∃ nm' ob', QR b h' (nextS s).2.2 nm' ob' ∧ Rest h h' nm nm' ob ob') := by
  refine ACall.of_wp 25 [.tmp 8] Try.func17 rfl (by kernel_rfl) rfl rfl fun a hn hd ha => ?_
  simp (disch := first | omega | decide) only [push_cast, ↓reduceIte, Nat.reduceLT, Nat.reduceEqDiff, reduceCtorEq, Nat.reduceAdd, hn, hd, ha]
  refine ACall.mono ?_ (nextN w0 r)
  rintro _ h1 ⟨rfl, nm1, ob1, r1, rs⟩
  generalize nextS s = n at r1 ⊢
  obtain ⟨x, is, s'⟩ := n
  have g2 := (Gr.refl r1.own.gr.wf).new (.row (evC x) 33 true)
  have hst := stN agV (P := Try.prog) h1 [.int .u8 0, .int .i64 0, .int .i64 0] 33 (evC x) rfl rfl rfl
  have c2 := CsAt.new h1 (evC x) 33 true
  have hla : aLoad Try.prog 33 (.pointer (some ⟨h1.next, 0, none⟩)) (h1.new (.row (evC x) 33 true)) = some (.agg (evC x).toArray) := c2.la agV rfl
  cases is with
  | false =>
    simp (disch := first | omega | decide) only [push_cast, ↓reduceIte, Nat.reduceLT, Nat.reduceEqDiff, reduceCtorEq, Nat.reduceAdd, hn, hd, ha, alL zrV, hst]
    first | exact ⟨rfl, nm1, ob1, r1.gr g2, rs.trans (Rest.gr r1.own.gr.wf g2 nm1 ob1)⟩ | exact ⟨nm1, ob1, r1.gr g2, rs.trans (Rest.gr r1.own.gr.wf g2 nm1 ob1)⟩
  | true =>
    simp (disch := first | omega | decide) only [push_cast, ↓reduceIte, Nat.reduceLT, Nat.reduceEqDiff, reduceCtorEq, Nat.reduceAdd, hn, hd, ha, alL zrV, hst, hla, buildV3, evEql]
    first | exact ⟨rfl, nm1, ob1, r1.gr g2, rs.trans (Rest.gr r1.own.gr.wf g2 nm1 ob1)⟩ | exact ⟨nm1, ob1, r1.gr g2, rs.trans (Rest.gr r1.own.gr.wf g2 nm1 ob1)⟩

theorem overN {b h : AH} {s : QS} {nm : Nat → Nat} {ob : Nat → Option AObj} (w0 : WFH b) (r : QR b h s nm ob) :
    ACall Try.prog 18 [vA (nm 0)] h (fun v h' => v = .bool (!(nextS s).2.1 && decide ((nextS s).1 = v0)) ∧ ∃ nm' ob', QR b h' (nextS s).2.2 nm' ob' ∧ Rest h h' nm nm' ob ob') := by
  refine ACall.of_wp 17 [.tmp 2] Try.func18 rfl (by kernel_rfl) rfl rfl fun a hn hd ha => ?_
  simp (disch := first | omega | decide) only [push_cast, ↓reduceIte, Nat.reduceLT, Nat.reduceEqDiff, reduceCtorEq, Nat.reduceAdd, hn, hd, ha]
  refine ACall.mono ?_ (nextN w0 r)
  rintro _ h1 ⟨rfl, nm1, ob1, r1, rs⟩
  generalize nextS s = n at r1 ⊢
  obtain ⟨x, is, s'⟩ := n
  have g2 := (Gr.refl r1.own.gr.wf).new (.row (evC x) 33 true)
  have hst := stN agV (P := Try.prog) h1 [.int .u8 0, .int .i64 0, .int .i64 0] 33 (evC x) rfl rfl rfl
  have c2 := CsAt.new h1 (evC x) 33 true
  have hla : aLoad Try.prog 33 (.pointer (some ⟨h1.next, 0, none⟩)) (h1.new (.row (evC x) 33 true)) = some (.agg (evC x).toArray) := c2.la agV rfl
  cases is with
  | true =>
    simp (disch := first | omega | decide) only [push_cast, ↓reduceIte, Nat.reduceLT, Nat.reduceEqDiff, reduceCtorEq, Nat.reduceAdd, hn, hd, ha, alL zrV, hst]
    first | exact ⟨rfl, nm1, ob1, r1.gr g2, rs.trans (Rest.gr r1.own.gr.wf g2 nm1 ob1)⟩ | exact ⟨nm1, ob1, r1.gr g2, rs.trans (Rest.gr r1.own.gr.wf g2 nm1 ob1)⟩
  | false =>
    simp (disch := first | omega | decide) only [push_cast, ↓reduceIte, Nat.reduceLT, Nat.reduceEqDiff, reduceCtorEq, Nat.reduceAdd, hn, hd, ha, alL zrV, hst, hla, buildV0, evEql]
    first | exact ⟨rfl, nm1, ob1, r1.gr g2, rs.trans (Rest.gr r1.own.gr.wf g2 nm1 ob1)⟩ | exact ⟨nm1, ob1, r1.gr g2, rs.trans (Rest.gr r1.own.gr.wf g2 nm1 ob1)⟩


/-! ### Pairs -/

theorem aget_mem {α : Type} {k : Int} {x : α} : ∀ {l : List (Int × α)}, aget k l = some x → (k, x) ∈ l := by
  intro l
  induction l with
  | nil => intro h; cases h
  | cons p l ih =>
    intro h
    by_cases hp : p.1 = k
    · simp only [aget, if_pos hp, Option.some.injEq] at h
      rw [← hp, ← h]; exact List.mem_cons_self ..
    · simp only [aget, if_neg hp] at h
      exact List.mem_cons_of_mem _ (ih h)
theorem mem_aget {α : Type} {p : Int × α} : ∀ {l : List (Int × α)}, (l.map (·.1)).Nodup → p ∈ l → aget p.1 l = some p.2 := by
  intro l
  induction l with
  | nil => intro _ h; cases h
  | cons q l ih =>
    intro hn h
    simp only [List.map_cons, List.nodup_cons] at hn
    rcases List.mem_cons.1 h with rfl | h
    · simp [aget]
    · have : q.1 ≠ p.1 := fun e => hn.1 (e ▸ List.mem_map.2 ⟨p, h, rfl⟩)
      simp only [aget, if_neg this]
      exact ih hn.2 h
theorem mem_aput2 {α : Type} {k : Int} {x : α} {p : Int × α} : ∀ {l : List (Int × α)}, (l.map (·.1)).Nodup → p ∈ aput k x l → p = (k, x) ∨ (p ∈ l ∧ p.1 ≠ k) := by
  intro l
  induction l with
  | nil => intro _ h; simp only [aput, List.mem_cons, List.not_mem_nil, or_false] at h; exact .inl h
  | cons q l ih =>
    intro hn h
    simp only [List.map_cons, List.nodup_cons] at hn
    by_cases hq : q.1 = k
    · simp only [aput, if_pos hq, List.mem_cons] at h
      rcases h with h | h
      · exact .inl h
      · refine .inr ⟨List.mem_cons_of_mem _ h, fun e => hn.1 ?_⟩
        rw [hq, ← e]; exact List.mem_map.2 ⟨p, h, rfl⟩
    · simp only [aput, if_neg hq, List.mem_cons] at h
      rcases h with rfl | h
      · exact .inr ⟨List.mem_cons_self .., hq⟩
      · rcases ih hn.2 h with h | h
        · exact .inl h
        · exact .inr ⟨List.mem_cons_of_mem _ h.1, h.2⟩
theorem mem_adel2 {α : Type} {k : Int} {p : Int × α} : ∀ {l : List (Int × α)}, (l.map (·.1)).Nodup → p ∈ adel k l → p ∈ l ∧ p.1 ≠ k := by
  intro l
  induction l with
  | nil => intro _ h; cases h
  | cons q l ih =>
    intro hn h
    simp only [List.map_cons, List.nodup_cons] at hn
    by_cases hq : q.1 = k
    · simp only [adel, if_pos hq] at h
      refine ⟨List.mem_cons_of_mem _ h, fun e => hn.1 ?_⟩
      rw [hq, ← e]; exact List.mem_map.2 ⟨p, h, rfl⟩
    · simp only [adel, if_neg hq, List.mem_cons] at h
      rcases h with rfl | h
      · exact ⟨List.mem_cons_self .., hq⟩
      · have := ih hn.2 h
        exact ⟨List.mem_cons_of_mem _ this.1, this.2⟩
theorem aget_map {α β : Type} (f : Int → α → β) (k : Int) : ∀ (l : List (Int × α)), aget k (l.map fun p => (p.1, f p.1 p.2)) = (aget k l).map (f k) := by
  intro l
  induction l with
  | nil => rfl
  | cons p l ih =>
    by_cases hp : p.1 = k
    · simp [aget, hp]
    · simp only [List.map_cons, aget, if_neg hp]; exact ih
theorem adel_map {α β : Type} (f : Int → α → β) (k : Int) : ∀ (l : List (Int × α)), (adel k l).map (fun p => (p.1, f p.1 p.2)) = adel k (l.map fun p => (p.1, f p.1 p.2)) := by
  intro l
  induction l with
  | nil => rfl
  | cons p l ih =>
    by_cases hp : p.1 = k
    · simp [adel, hp]
    · simp only [adel, if_neg hp, List.map_cons]; rw [ih]
theorem aput_map {α β : Type} (f : Int → α → β) (k : Int) (x : α) : ∀ (l : List (Int × α)), (aput k x l).map (fun p => (p.1, f p.1 p.2)) = aput k (f k x) (l.map fun p => (p.1, f p.1 p.2)) := by
  intro l
  induction l with
  | nil => rfl
  | cons p l ih =>
    by_cases hp : p.1 = k
    · simp [aput, hp]
    · simp only [aput, if_neg hp, List.map_cons]; rw [ih]
theorem aput_keep {α : Type} {k : Int} {x : α} : ∀ {l : List (Int × α)}, aget k l = some x → aput k x l = l := by
  intro l
  induction l with
  | nil => intro h; cases h
  | cons p l ih =>
    intro h
    by_cases hp : p.1 = k
    · simp only [aget, if_pos hp, Option.some.injEq] at h
      simp only [aput, if_pos hp]; rw [← h, ← hp]
    · simp only [aget, if_neg hp] at h
      simp only [aput, if_neg hp, ih h]
theorem aget_adel {α : Type} {k j : Int} (hkj : j ≠ k) : ∀ {l : List (Int × α)}, aget j (adel k l) = aget j l := by
  intro l
  induction l with
  | nil => rfl
  | cons p l ih =>
    by_cases hp : p.1 = k
    · have : p.1 ≠ j := by omega
      simp only [adel, if_pos hp, aget, if_neg this]
    · by_cases hj : p.1 = j
      · simp only [adel, if_neg hp, aget, if_pos hj]
      · simp only [adel, if_neg hp, aget, if_neg hj]; exact ih
theorem aget_aput {α : Type} {k : Int} {x : α} : ∀ {l : List (Int × α)}, aget k (aput k x l) = some x := by
  intro l
  induction l with
  | nil => simp [aput, aget]
  | cons p l ih =>
    by_cases hp : p.1 = k
    · simp [aput, hp, aget]
    · simp only [aput, if_neg hp, aget]; exact ih
theorem aget_aput2 {α : Type} {k j : Int} {x : α} (hkj : j ≠ k) : ∀ {l : List (Int × α)}, aget j (aput k x l) = aget j l := by
  intro l
  induction l with
  | nil => have : ¬ (k = j) := fun e => hkj e.symm; simp [aput, aget, this]
  | cons p l ih =>
    by_cases hp : p.1 = k
    · have h1 : p.1 ≠ j := by omega
      have h2 : ¬ (k = j) := fun e => hkj e.symm
      simp only [aput, if_pos hp, aget, if_neg h1, if_neg h2]
    · by_cases hj : p.1 = j
      · simp only [aput, if_neg hp, aget, if_pos hj]
      · simp only [aput, if_neg hp, aget, if_neg hj]; exact ih
theorem sumL_aput {α : Type} (f : Int × α → Nat) {k : Int} {x y : α} : ∀ {l : List (Int × α)}, aget k l = some x → sumL f (aput k y l) + f (k, x) = sumL f l + f (k, y) := by
  intro l
  induction l with
  | nil => intro h; cases h
  | cons p l ih =>
    intro h
    by_cases hp : p.1 = k
    · simp only [aget, if_pos hp, Option.some.injEq] at h
      have : p = (k, x) := by rw [← hp, ← h]
      simp only [aput, if_pos hp, sumL]; rw [this]; omega
    · simp only [aget, if_neg hp] at h
      have := ih h
      simp only [aput, if_neg hp, sumL]; omega
theorem sumL_append {α : Type} (f : α → Nat) : ∀ (l m : List α), sumL f (l ++ m) = sumL f l + sumL f m := by
  intro l
  induction l with
  | nil => intro m; simp [sumL]
  | cons x l ih => intro m; simp only [List.cons_append, sumL, ih]; omega
theorem sumL_adel {α : Type} (f : Int × α → Nat) {k : Int} {x : α} : ∀ {l : List (Int × α)}, aget k l = some x → sumL f (adel k l) + f (k, x) = sumL f l := by
  intro l
  induction l with
  | nil => intro h; cases h
  | cons p l ih =>
    intro h
    by_cases hp : p.1 = k
    · simp only [aget, if_pos hp, Option.some.injEq] at h
      have : p = (k, x) := by rw [← hp, ← h]
      simp only [adel, if_pos hp, sumL]; rw [this]; omega
    · simp only [aget, if_neg hp] at h
      have := ih h
      simp only [adel, if_neg hp, sumL]; omega

/-! ### Plainly -/

def lsize (l : Lat) : Nat := l.drives.length + l.threads.length + l.updates.length
def trimS (t : Int) (s : QS) : QS := match aget t s.later with
  | some l => if lsize l = 0 then { s with later := adel t s.later } else s
  | none => s
def lat0 : Lat := ⟨[], [], []⟩
def slotS (t : Int) (s : QS) : QS := match aget t s.later with
  | some _ => s
  | none => { s with later := aput t lat0 s.later }
def undrive1 (i t : Int) (l : Lat) (s : QS) : QS := { s with later := aput t { l with drives := adel i l.drives } s.later, drive := adel i s.drive }
def undriveS (i : Int) (s : QS) : QS := match aget i s.drive with
  | none => { s with drives := adel i s.drives }
  | some t => trimS t (undrive1 i t ((aget t s.later).getD lat0) { s with drives := adel i s.drives })
def unwake1 (i t : Int) (l : Lat) (s : QS) : QS := { s with later := aput t { l with threads := adel i l.threads } s.later, wake := adel i s.wake }
def unwakeS (i : Int) (s : QS) : QS := match aget i s.wake with
  | none => s
  | some t => trimS t (unwake1 i t ((aget t s.later).getD lat0) s)

/-! ### The map of the later times, turned -/

theorem QRl.relater {b h h2 : AH} {s : QS} {nm nm2 : Nat → Nat} {ob ob2 : Nat → Option AObj} (r : QRl b h s nm ob) (own2 : Owns b h2 nm2 ob2) (t : Nat) (e : ∀ i, i ≠ 6 → ¬ (100 + 4 * t ≤ i ∧ i < 104 + 4 * t) → nm2 i = nm i ∧ ob2 i = ob i) (e6 : nm2 6 = nm 6) {later' : List (Int × Lat)}
    (m6 : ∃ o, ob2 6 = some o ∧ MapO vA o (later'.map fun p => (p.1, nm2 (100 + 4 * p.1.toNat)))) (lat : ∀ p ∈ later', (p ∈ s.later ∧ p.1.toNat ≠ t) ∨ LatR nm2 ob2 p.1.toNat p.2) : QRl b h2 { s with later := later' } nm2 ob2 := by
  have eo : ∀ i, i ≠ 6 → i < 100 → ob2 i = ob i := fun i h1 h2 => (e i h1 (by omega)).2
  have en : ∀ i, i < 100 → nm2 i = nm i := fun i h2 => if h : i = 6 then h ▸ e6 else (e i h (by omega)).1
  refine ⟨own2, ?_, by rw [eo 2 (by decide) (by decide)]; exact r.m2, by rw [eo 3 (by decide) (by decide)]; exact r.m3, by rw [eo 4 (by decide) (by decide)]; exact r.m4, by rw [eo 5 (by decide) (by decide)]; exact r.m5, m6, by rw [eo 7 (by decide) (by decide)]; exact r.m7, by rw [eo 8 (by decide) (by decide)]; exact r.m8, fun p hp => ?_⟩
  · obtain ⟨lv, rv, wv, h0, h1, h2, h3, h4⟩ := r.q
    refine ⟨lv, rv, wv, ?_, by rw [eo 1 (by decide) (by decide), en 1 (by decide)]; exact h1, h2, fun i hi => by rw [eo _ (by omega) (by omega), en _ (by omega)]; exact h3 i hi, by rw [eo 9 (by decide) (by decide), en 9 (by decide)]; exact h4⟩
    rw [eo 0 (by decide) (by decide), h0]
    unfold qC
    rw [en 2 (by decide), en 3 (by decide), en 4 (by decide), en 5 (by decide), en 6 (by decide), en 7 (by decide), en 8 (by decide)]
  · rcases lat p hp with ⟨hm, hne⟩ | h
    · obtain ⟨⟨uv, a, c⟩, d, th⟩ := r.lat p hm
      have eo2 : ∀ j, j < 4 → ob2 (100 + j + 4 * p.1.toNat) = ob (100 + j + 4 * p.1.toNat) := fun j hj => (e _ (by omega) (by omega)).2
      have en2 : ∀ j, j < 4 → nm2 (100 + j + 4 * p.1.toNat) = nm (100 + j + 4 * p.1.toNat) := fun j hj => (e _ (by omega) (by omega)).1
      exact ⟨⟨uv, by rw [eo2 0 (by decide), en2 1 (by decide), en2 2 (by decide)]; exact a, by rw [eo2 3 (by decide), en2 3 (by decide)]; exact c⟩, by rw [eo2 1 (by decide)]; exact d, by rw [eo2 2 (by decide)]; exact th⟩
    · exact h

theorem QRl.set2 {b h : AH} {s : QS} {nm : Nat → Nat} {ob : Nat → Option AObj} (w0 : WFH b) (r : QRl b h s nm ob) {l : List (Int × Int)} {o' : AObj} (m : MapO vI o' l) : QRl b (h.set (nm 2) o') { s with drives := l } nm (upd ob 2 (some o')) where
  own := by
    obtain ⟨o, ho, _⟩ := r.m2
    exact r.own.set w0 ho
  q := by
    obtain ⟨lv, rv, wv, h0, h1, h2, h3, h4⟩ := r.q
    exact ⟨lv, rv, wv, by rw [upd_ne _ _ (by decide)]; exact h0, by rw [upd_ne _ _ (by decide)]; exact h1, h2, fun i hi => by rw [upd_ne _ _ (by omega)]; exact h3 i hi, by rw [upd_ne _ _ (by decide)]; exact h4⟩
  m3 := by rw [upd_ne _ _ (by decide)]; exact r.m3
  m4 := by rw [upd_ne _ _ (by decide)]; exact r.m4
  m5 := by rw [upd_ne _ _ (by decide)]; exact r.m5
  m6 := by rw [upd_ne _ _ (by decide)]; exact r.m6
  m7 := by rw [upd_ne _ _ (by decide)]; exact r.m7
  m8 := by rw [upd_ne _ _ (by decide)]; exact r.m8
  m2 := ⟨o', by rw [upd_same], m⟩
  lat := fun p hp => (r.lat p hp).ob (fun i hi => upd_ne _ _ (by omega))
theorem QRl.set7 {b h : AH} {s : QS} {nm : Nat → Nat} {ob : Nat → Option AObj} (w0 : WFH b) (r : QRl b h s nm ob) {l : List (Int × Int)} {o' : AObj} (m : MapO vI o' l) : QRl b (h.set (nm 7) o') { s with drive := l } nm (upd ob 7 (some o')) where
  own := by
    obtain ⟨o, ho, _⟩ := r.m7
    exact r.own.set w0 ho
  q := by
    obtain ⟨lv, rv, wv, h0, h1, h2, h3, h4⟩ := r.q
    exact ⟨lv, rv, wv, by rw [upd_ne _ _ (by decide)]; exact h0, by rw [upd_ne _ _ (by decide)]; exact h1, h2, fun i hi => by rw [upd_ne _ _ (by omega)]; exact h3 i hi, by rw [upd_ne _ _ (by decide)]; exact h4⟩
  m2 := by rw [upd_ne _ _ (by decide)]; exact r.m2
  m3 := by rw [upd_ne _ _ (by decide)]; exact r.m3
  m4 := by rw [upd_ne _ _ (by decide)]; exact r.m4
  m5 := by rw [upd_ne _ _ (by decide)]; exact r.m5
  m6 := by rw [upd_ne _ _ (by decide)]; exact r.m6
  m8 := by rw [upd_ne _ _ (by decide)]; exact r.m8
  m7 := ⟨o', by rw [upd_same], m⟩
  lat := fun p hp => (r.lat p hp).ob (fun i hi => upd_ne _ _ (by omega))
theorem QRl.set8 {b h : AH} {s : QS} {nm : Nat → Nat} {ob : Nat → Option AObj} (w0 : WFH b) (r : QRl b h s nm ob) {l : List (Int × Int)} {o' : AObj} (m : MapO vI o' l) : QRl b (h.set (nm 8) o') { s with wake := l } nm (upd ob 8 (some o')) where
  own := by
    obtain ⟨o, ho, _⟩ := r.m8
    exact r.own.set w0 ho
  q := by
    obtain ⟨lv, rv, wv, h0, h1, h2, h3, h4⟩ := r.q
    exact ⟨lv, rv, wv, by rw [upd_ne _ _ (by decide)]; exact h0, by rw [upd_ne _ _ (by decide)]; exact h1, h2, fun i hi => by rw [upd_ne _ _ (by omega)]; exact h3 i hi, by rw [upd_ne _ _ (by decide)]; exact h4⟩
  m2 := by rw [upd_ne _ _ (by decide)]; exact r.m2
  m3 := by rw [upd_ne _ _ (by decide)]; exact r.m3
  m4 := by rw [upd_ne _ _ (by decide)]; exact r.m4
  m5 := by rw [upd_ne _ _ (by decide)]; exact r.m5
  m6 := by rw [upd_ne _ _ (by decide)]; exact r.m6
  m7 := by rw [upd_ne _ _ (by decide)]; exact r.m7
  m8 := ⟨o', by rw [upd_same], m⟩
  lat := fun p hp => (r.lat p hp).ob (fun i hi => upd_ne _ _ (by omega))

/-! ### A slot, read -/

theorem QRl.nd6 {b h : AH} {s : QS} {nm : Nat → Nat} {ob : Nat → Option AObj} (r : QRl b h s nm ob) : (s.later.map (·.1)).Nodup := by
  obtain ⟨o, _, m⟩ := r.m6
  have := m.nd
  simpa [List.map_map, Function.comp_def] using this

/-- Where the slot of a time lies. -/
theorem QRl.look6 {b h : AH} {s : QS} {nm : Nat → Nat} {ob : Nat → Option AObj} (r : QRl b h s nm ob) (t : Int) : aLookup Try.prog 56 (.map (some (nm 6))) (.int .i64 t) false h = some (match aget t s.later with
    | some _ => vA (nm (100 + 4 * t.toNat))
    | none => .pointer none) := by
  obtain ⟨o, ho, m⟩ := r.m6
  have mp : MapL vA h (nm 6) (s.later.map fun p => (p.1, nm (100 + 4 * p.1.toNat))) := ⟨o, r.own.get _ _ ho, m⟩
  rw [mp.look mtA t, aget_map (fun k _ => nm (100 + 4 * k.toNat))]
  cases aget t s.later <;> rfl

structure SlL (h : AH) (nm : Nat → Nat) (t : Nat) (uv : Value) : Prop where
  l0 : aLoad Try.prog 54 (.pointer (some ⟨nm (100 + 4 * t), 0, none⟩)) h = some (.map (some (nm (101 + 4 * t))))
  l1 : aLoad Try.prog 55 (.pointer (some ⟨nm (100 + 4 * t), 1, none⟩)) h = some (.map (some (nm (102 + 4 * t))))
  l2 : aLoad Try.prog 34 (.pointer (some ⟨nm (100 + 4 * t), 2, none⟩)) h = some uv

theorem QRl.slot {b h : AH} {s : QS} {nm : Nat → Nat} {ob : Nat → Option AObj} (r : QRl b h s nm ob) {t : Int} {l : Lat} (hl : aget t s.later = some l) : ∃ uv, SlL h nm t.toNat uv ∧ ob (100 + 4 * t.toNat) = some (.row [.map (some (nm (101 + 4 * t.toNat))), .map (some (nm (102 + 4 * t.toNat))), uv] 64 true) ∧ EvV uv (ob (103 + 4 * t.toNat)) (nm (103 + 4 * t.toNat)) l.updates ∧
    (∃ o, ob (101 + 4 * t.toNat) = some o ∧ MapO vI o l.drives) ∧ (∃ o, ob (102 + 4 * t.toNat) = some o ∧ MapO vB o l.threads) := by
  obtain ⟨⟨uv, a, c⟩, d, th⟩ := r.lat _ (aget_mem hl)
  have hg := r.own.get _ _ a
  exact ⟨uv, ⟨ldL (P := Try.prog) hg rfl flMD 0 (by show 0 < 3; decide), ldL (P := Try.prog) hg rfl flMB 1 (by show 1 < 3; decide), ldL (P := Try.prog) hg rfl flE 2 (by show 2 < 3; decide)⟩, a, c, d, th⟩


/-! ### What holds, kept -/

theorem QOK.trim {s : QS} (o : QOK s) (t : Int) : QOK (trimS t s) := by
  unfold trimS
  cases hl : aget t s.later with
  | none => exact o
  | some l =>
    show QOK (if lsize l = 0 then _ else _)
    by_cases hz : lsize l = 0
    · rw [if_pos hz]
      have hd : l.drives = [] := List.eq_nil_of_length_eq_zero (by unfold lsize at hz; omega)
      have ht : l.threads = [] := List.eq_nil_of_length_eq_zero (by unfold lsize at hz; omega)
      have hu : l.updates.length = 0 := by unfold lsize at hz; omega
      have hs := sumL_adel (fun p : Int × Lat => p.2.updates.length) (k := t) (x := l) hl
      simp only at hs
      have hh := o.held
      refine { o with held := ?_, kl := fun p hp => o.kl p (mem_adel hp), ll := ?_, kld := fun p hp => o.kld p (mem_adel hp), klt := fun p hp => o.klt p (mem_adel hp), kr := fun p hp => ?_, kw := fun p hp => ?_, ui := fun p hp => o.ui p (mem_adel hp) }
      · show s.held = s.waiting.length + (sumL List.length s.ready : Nat) + (sumL (fun p => p.2.updates.length) (adel t s.later) : Nat); omega
      · have := (adel_sub t s.later).length_le; have := o.ll; show (adel t s.later).length ≤ _; omega
      · obtain ⟨l', h1, h2⟩ := o.kr p hp
        have hne : p.2 ≠ t := fun e => by rw [e, hl] at h1; cases h1; rw [hd] at h2; cases h2
        exact ⟨l', (aget_adel hne).trans h1, h2⟩
      · obtain ⟨l', h1, h2⟩ := o.kw p hp
        have hne : p.2 ≠ t := fun e => by rw [e, hl] at h1; cases h1; rw [ht] at h2; cases h2
        exact ⟨l', (aget_adel hne).trans h1, h2⟩
    · rw [if_neg hz]; exact o

theorem aput_len {α : Type} {k : Int} {x y : α} {l : List (Int × α)} (h : aget k l = some x) : (aput k y l).length = l.length := by
  have := congrArg List.length (aput_keys k y l)
  rw [if_pos (List.mem_map.2 ⟨_, aget_mem h, rfl⟩)] at this
  simpa using this

/-- A slot turned, but for its updates. -/
theorem QOK.turn {s : QS} (o : QOK s) {t : Int} {l l' : Lat} (nd : (s.later.map (·.1)).Nodup) (hl : aget t s.later = some l) (hu : l'.updates = l.updates) (hd : ∀ q ∈ l'.drives, 0 ≤ q.1 ∧ q.1 < 64) (ht : ∀ q ∈ l'.threads, 0 ≤ q.1 ∧ q.1 < 64) {dr wk : List (Int × Int)}
    (kr : ∀ p ∈ dr, ∃ m, aget p.2 (aput t l' s.later) = some m ∧ (aget p.1 m.drives).isSome) (kw : ∀ p ∈ wk, ∃ m, aget p.2 (aput t l' s.later) = some m ∧ (aget p.1 m.threads).isSome) : QOK { s with later := aput t l' s.later, drive := dr, wake := wk } := by
  have hs := sumL_aput (fun p : Int × Lat => p.2.updates.length) (k := t) (x := l) (y := l') hl
  simp only [hu] at hs
  have hh := o.held
  have hm := aget_mem hl
  refine { o with held := ?_, kl := fun p hp => ?_, ll := ?_, kld := fun p hp => ?_, klt := fun p hp => ?_, kr := kr, kw := kw, ui := fun p hp => ?_ }
  · show s.held = s.waiting.length + (sumL List.length s.ready : Nat) + (sumL (fun p => p.2.updates.length) (aput t l' s.later) : Nat); omega
  · rcases mem_aput2 nd hp with rfl | ⟨hp, _⟩
    · exact o.kl (t, l) hm
    · exact o.kl p hp
  · show (aput t l' s.later).length ≤ _; rw [aput_len hl]; exact o.ll
  · rcases mem_aput2 nd hp with rfl | ⟨hp, _⟩
    · exact hd
    · exact o.kld p hp
  · rcases mem_aput2 nd hp with rfl | ⟨hp, _⟩
    · exact ht
    · exact o.klt p hp
  · rcases mem_aput2 nd hp with rfl | ⟨hp, _⟩
    · rw [hu]; exact o.ui _ hm
    · exact o.ui p hp

theorem QOK.undrive1 {s : QS} (o : QOK s) {i t : Int} {l : Lat} (nd : (s.later.map (·.1)).Nodup) (ndd : (s.drive.map (·.1)).Nodup) (hl : aget t s.later = some l) : QOK (undrive1 i t l s) := by
  have hm := aget_mem hl
  refine o.turn (l' := { l with drives := adel i l.drives }) (wk := s.wake) nd hl rfl (fun q hq => o.kld _ hm q (mem_adel hq)) (o.klt _ hm) (fun p hp => ?_) (fun p hp => ?_)
  · obtain ⟨hp, hne⟩ := mem_adel2 ndd hp
    obtain ⟨m, h1, h2⟩ := o.kr p hp
    by_cases e : p.2 = t
    · rw [e, hl] at h1; cases h1
      exact ⟨_, by rw [e]; exact aget_aput, by show (aget p.1 (adel i l.drives)).isSome; rw [aget_adel hne]; exact h2⟩
    · exact ⟨m, by rw [aget_aput2 e]; exact h1, h2⟩
  · obtain ⟨m, h1, h2⟩ := o.kw p hp
    by_cases e : p.2 = t
    · rw [e, hl] at h1; cases h1
      exact ⟨{ l with drives := adel i l.drives }, by rw [e]; exact aget_aput, h2⟩
    · exact ⟨m, by rw [aget_aput2 e]; exact h1, h2⟩

theorem QOK.unwake1 {s : QS} (o : QOK s) {i t : Int} {l : Lat} (nd : (s.later.map (·.1)).Nodup) (ndd : (s.wake.map (·.1)).Nodup) (hl : aget t s.later = some l) : QOK (unwake1 i t l s) := by
  have hm := aget_mem hl
  refine o.turn (l' := { l with threads := adel i l.threads }) (dr := s.drive) nd hl rfl (o.kld _ hm) (fun q hq => o.klt _ hm q (mem_adel hq)) (fun p hp => ?_) (fun p hp => ?_)
  · obtain ⟨m, h1, h2⟩ := o.kr p hp
    by_cases e : p.2 = t
    · rw [e, hl] at h1; cases h1
      exact ⟨{ l with threads := adel i l.threads }, by rw [e]; exact aget_aput, h2⟩
    · exact ⟨m, by rw [aget_aput2 e]; exact h1, h2⟩
  · obtain ⟨hp, hne⟩ := mem_adel2 ndd hp
    obtain ⟨m, h1, h2⟩ := o.kw p hp
    by_cases e : p.2 = t
    · rw [e, hl] at h1; cases h1
      exact ⟨_, by rw [e]; exact aget_aput, by show (aget p.1 (adel i l.threads)).isSome; rw [aget_adel hne]; exact h2⟩
    · exact ⟨m, by rw [aget_aput2 e]; exact h1, h2⟩

theorem QOK.slot {s : QS} (o : QOK s) {t : Int} (h1 : s.now < t) (h2 : t ≤ 1000000000000) (hl : s.later.length + 1 ≤ 100000) : QOK (slotS t s) := by
  unfold slotS
  cases ht : aget t s.later with
  | some l => exact o
  | none =>
    show QOK { s with later := aput t lat0 s.later }
    have hh := o.held
    have hap := aput_new lat0 ht
    have hmem : ∀ p ∈ aput t lat0 s.later, p = (t, lat0) ∨ p ∈ s.later := fun p hp => mem_aput hp
    refine { o with held := ?_, kl := fun p hp => ?_, ll := ?_, kld := fun p hp => ?_, klt := fun p hp => ?_, kr := fun p hp => ?_, kw := fun p hp => ?_, ui := fun p hp => ?_ }
    · show s.held = s.waiting.length + (sumL List.length s.ready : Nat) + (sumL (fun p => p.2.updates.length) (aput t lat0 s.later) : Nat)
      rw [hap, sumL_append]; exact hh
    · rcases hmem p hp with rfl | hp
      · exact ⟨h1, h2⟩
      · exact o.kl p hp
    · show (aput t lat0 s.later).length ≤ _
      rw [hap, List.length_append]; exact hl
    · rcases hmem p hp with rfl | hp
      · intro q hq; cases hq
      · exact o.kld p hp
    · rcases hmem p hp with rfl | hp
      · intro q hq; cases hq
      · exact o.klt p hp
    · obtain ⟨m, g1, g2⟩ := o.kr p hp
      have hne : p.2 ≠ t := fun e => by rw [e, ht] at g1; cases g1
      exact ⟨m, (aget_aput2 hne).trans g1, g2⟩
    · obtain ⟨m, g1, g2⟩ := o.kw p hp
      have hne : p.2 ≠ t := fun e => by rw [e, ht] at g1; cases g1
      exact ⟨m, (aget_aput2 hne).trans g1, g2⟩
    · rcases hmem p hp with rfl | hp
      · intro q hq; cases hq
      · exact o.ui p hp

/-- A slot's sizes. -/
theorem QR.slot64 {b h : AH} {s : QS} {nm : Nat → Nat} {ob : Nat → Option AObj} (r : QR b h s nm ob) {t : Int} {l : Lat} (hl : aget t s.later = some l) : l.drives.length ≤ 64 ∧ l.threads.length ≤ 64 ∧ l.updates.length ≤ 20000 := by
  obtain ⟨uv, -, -, -, ⟨o1, -, m1⟩, ⟨o2, -, m2⟩⟩ := r.toQRl.slot hl
  have hm := aget_mem hl
  refine ⟨keys64 m1.nd (r.ok.kld _ hm), keys64 m2.nd (r.ok.klt _ hm), ?_⟩
  have := sumL_mem (fun p : Int × Lat => p.2.updates.length) s.later _ hm
  have h1 := r.ok.held
  have h2 := r.ok.hb
  simp only at this
  omega

theorem neqP (A : Nat) : eqBin Try.prog .neq 65 (.pointer (some ⟨A, 0, none⟩)) (.pointer none) = some (.bool true) := by
  have hg : Try.prog.eqGuardType Try.prog.depth 65 = false := by kernel_rfl
  simp [eqBin, guardOn, hg, aEq, Try.underlying65]
theorem neqN : eqBin Try.prog .neq 65 (.pointer none) (.pointer none) = some (.bool false) := by
  have hg : Try.prog.eqGuardType Try.prog.depth 65 = false := by kernel_rfl
  simp [eqBin, guardOn, hg, aEq, Try.underlying65]
theorem eqlP (A : Nat) : eqBin Try.prog .eql 65 (.pointer (some ⟨A, 0, none⟩)) (.pointer none) = some (.bool false) := by
  have hg : Try.prog.eqGuardType Try.prog.depth 65 = false := by kernel_rfl
  simp [eqBin, guardOn, hg, aEq, Try.underlying65]
theorem eqlN : eqBin Try.prog .eql 65 (.pointer none) (.pointer none) = some (.bool true) := by
  have hg : Try.prog.eqGuardType Try.prog.depth 65 = false := by kernel_rfl
  simp [eqBin, guardOn, hg, aEq, Try.underlying65]

theorem trimN {b h : AH} {s : QS} {nm : Nat → Nat} {ob : Nat → Option AObj} (w0 : WFH b) (r : QR b h s nm ob) (t : Int) :
    ACall Try.prog 36 [vA (nm 0), .int .i64 t] h (fun _ h' => ∃ ob', QR b h' (trimS t s) nm ob' ∧ Rest h h' nm nm ob ob') := by
  obtain ⟨lv, rv, wv, ql, hg, hl, h0, hlv, hrv, hw⟩ := r.ql
  have wf := r.own.gr.wf
  refine ACall.of_wp 38 [] Try.func36 rfl (by kernel_rfl) rfl rfl fun a hn hd ha => ?_
  have hlk := r.toQRl.look6 t
  have hok := r.ok.trim t
  cases ht : aget t s.later with
  | none =>
    rw [ht] at hlk
    have hlk : aLookup Try.prog 56 (.map (some (nm 6))) (.int .i64 t) false h = some (.pointer none) := hlk
    have e : trimS t s = s := by unfold trimS; rw [ht]
    simp (disch := first | omega | decide) only [push_cast, ↓reduceIte, Nat.reduceLT, Nat.reduceEqDiff, reduceCtorEq, Nat.reduceAdd, hn, hd, ha, vA, faL foQ0, faL foQ1, faL foQ2, faL foQ3, faL foQ4, faL foQ5, faL foQ6, faL foQ7, faL foQ8, faL foQ9, faL foQ10, faL foQ11, faL foQ12, ql.l0, ql.l1, ql.l2, ql.l3, ql.l4, ql.l5, ql.l6, ql.l7, ql.l9, ql.l10, ql.l11, ql.l12, hlk]
    refine AW.drawP (.take 0 [21, 20, 19, 18, 17, 16, 15, 14, 13, 12, 11, 10, 9, 8, 7, 6, 5, 4, 3, 2, 1] (.take 1 [21, 20, 19, 18, 17, 16, 15, 14, 13, 12, 11, 10, 9, 8, 7, 6, 5, 4, 3, 2] (.take 2 [21, 20, 19, 18, 17, 16, 15, 14, 13, 12, 11, 10, 9, 8, 7, 6, 5, 4, 3] (.take 3 [21, 20, 19, 13, 12, 7, 6, 5, 4] (.take 4 [21, 20, 19, 13, 12, 7, 6, 5] (.take 5 [21, 20, 19, 13, 12, 7, 6] (.take 6 [21, 20, 19, 13, 12, 7] (.take 7 [21, 20, 19, 13, 12] (.take 8 [21, 20, 19, 13, 12, 11, 10, 9] (.take 9 [21, 20, 19, 13, 12, 11, 10] (.take 10 [21, 20, 19, 13, 12, 11] (.take 11 [21, 20, 19, 13, 12] (.take 12 [21, 20, 19, 13] (.take 13 [21, 20, 19] (.take 14 [21, 20, 19, 18, 17, 16, 15] (.take 15 [21, 20, 19, 18, 17, 16] (.take 16 [21, 20, 19, 18, 17] (.take 17 [21, 20, 19, 18] (.take 18 [21, 20, 19] (.take 19 [21, 20] (.take 20 [21] (.take 21 [] .done)))))))))))))))))))))) [(0, 0), (0, 1), (0, 2), (0, 3), (0, 4), (0, 5), (0, 6), (0, 7), (0, 8), (0, 9), (0, 10), (0, 11), (0, 12), (0, 13), (0, 14), (0, 15), (0, 16), (0, 17), (0, 18), (0, 19), (0, 20), (0, 21)] mixed (by kernel_rfl) (by kernel_rfl) ?_
    simp (disch := first | omega | decide) only [push_cast, ↓reduceIte, Nat.reduceLT, Nat.reduceEqDiff, reduceCtorEq, Nat.reduceAdd, hn, hd, ha, vA, neqN]
    rw [e]
    exact ⟨ob, r, Rest.refl wf _ _⟩
  | some l =>
    rw [ht] at hlk
    have hlk : aLookup Try.prog 56 (.map (some (nm 6))) (.int .i64 t) false h = some (.pointer (some ⟨nm (100 + 4 * t.toNat), 0, none⟩)) := hlk
    obtain ⟨uv, sl, hso, huv, ⟨o1, ho1, m1⟩, ⟨o2, ho2, m2⟩⟩ := r.toQRl.slot ht
    obtain ⟨b1, b2, b3⟩ := r.slot64 ht
    have mp1 : MapL vI h (nm (101 + 4 * t.toNat)) l.drives := ⟨o1, r.own.get _ _ ho1, m1⟩
    have mp2 : MapL vB h (nm (102 + 4 * t.toNat)) l.threads := ⟨o2, r.own.get _ _ ho2, m2⟩
    have hl1 := mp1.len mtD
    have hl2 := mp2.len mtB
    have hrow : RowOf evL h uv l.updates := huv.row (fun o ho => r.own.get _ _ ho) (by omega)
    have hl3 : ∀ h', aLen Try.prog 34 uv h' = some (.int .i64 l.updates.length) := hrow.len Try.underlying34
    have w1 : IntKind.i64.wrap ((l.drives.length : Int) + l.threads.length) = (l.drives.length : Int) + l.threads.length := wrapI (by omega) (by omega)
    have w2 : IntKind.i64.wrap ((l.drives.length : Int) + l.threads.length + l.updates.length) = (l.drives.length : Int) + l.threads.length + l.updates.length := wrapI (by omega) (by omega)
    by_cases hz : lsize l = 0
    · have e : trimS t s = { s with later := adel t s.later } := by unfold trimS; rw [ht]; exact if_pos hz
      have hd0 : decide ((l.drives.length : Int) + l.threads.length + l.updates.length = 0) = true := by unfold lsize at hz; simp; omega
      obtain ⟨o6, ho6, m6⟩ := r.m6
      have mp6 : MapL vA h (nm 6) (s.later.map fun p => (p.1, nm (100 + 4 * p.1.toNat))) := ⟨o6, r.own.get _ _ ho6, m6⟩
      obtain ⟨o6', hdel, m6'⟩ := mp6.del mtA t
      simp (disch := first | omega | decide) only [push_cast, ↓reduceIte, Nat.reduceLT, Nat.reduceEqDiff, reduceCtorEq, Nat.reduceAdd, hn, hd, ha, vA, faL foQ0, faL foQ1, faL foQ2, faL foQ3, faL foQ4, faL foQ5, faL foQ6, faL foQ7, faL foQ8, faL foQ9, faL foQ10, faL foQ11, faL foQ12, ql.l0, ql.l1, ql.l2, ql.l3, ql.l4, ql.l5, ql.l6, ql.l7, ql.l9, ql.l10, ql.l11, ql.l12, hlk]
      refine AW.drawP (.take 0 [21, 20, 19, 18, 17, 16, 15, 14, 13, 12, 11, 10, 9, 8, 7, 6, 5, 4, 3, 2, 1] (.take 1 [21, 20, 19, 18, 17, 16, 15, 14, 13, 12, 11, 10, 9, 8, 7, 6, 5, 4, 3, 2] (.take 2 [21, 20, 19, 18, 17, 16, 15, 14, 13, 12, 11, 10, 9, 8, 7, 6, 5, 4, 3] (.take 3 [21, 20, 19, 13, 12, 7, 6, 5, 4] (.take 4 [21, 20, 19, 13, 12, 7, 6, 5] (.take 5 [21, 20, 19, 13, 12, 7, 6] (.take 6 [21, 20, 19, 13, 12, 7] (.take 7 [21, 20, 19, 13, 12] (.take 8 [21, 20, 19, 13, 12, 11, 10, 9] (.take 9 [21, 20, 19, 13, 12, 11, 10] (.take 10 [21, 20, 19, 13, 12, 11] (.take 11 [21, 20, 19, 13, 12] (.take 12 [21, 20, 19, 13] (.take 13 [21, 20, 19] (.take 14 [21, 20, 19, 18, 17, 16, 15] (.take 15 [21, 20, 19, 18, 17, 16] (.take 16 [21, 20, 19, 18, 17] (.take 17 [21, 20, 19, 18] (.take 18 [21, 20, 19] (.take 19 [21, 20] (.take 20 [21] (.take 21 [] .done)))))))))))))))))))))) [(0, 0), (0, 1), (0, 2), (0, 3), (0, 4), (0, 5), (0, 6), (0, 7), (0, 8), (0, 9), (0, 10), (0, 11), (0, 12), (0, 13), (0, 14), (0, 15), (0, 16), (0, 17), (0, 18), (0, 19), (0, 20), (0, 21)] mixed (by kernel_rfl) (by kernel_rfl) ?_
      simp (disch := first | omega | decide) only [push_cast, ↓reduceIte, Nat.reduceLT, Nat.reduceEqDiff, reduceCtorEq, Nat.reduceAdd, hn, hd, ha, vA, neqP, faL foR0, faL foR1, faL foR2, sl.l0, sl.l1, sl.l2, hl1, hl2, hl3, w1, w2, hd0, faL foQ0, faL foQ1, faL foQ2, faL foQ3, faL foQ4, faL foQ5, faL foQ6, faL foQ7, faL foQ8, faL foQ9, faL foQ10, faL foQ11, faL foQ12, ql.l0, ql.l1, ql.l2, ql.l3, ql.l4, ql.l5, ql.l6, ql.l7, ql.l9, ql.l10, ql.l11, ql.l12, hdel]
      rw [e] at hok ⊢
      refine ⟨upd ob 6 (some o6'), ⟨r.toQRl.relater (r.own.set w0 ho6 (o' := o6')) t.toNat (fun i hi _ => ⟨rfl, upd_ne _ _ hi⟩) rfl ⟨o6', by rw [upd_same], by rw [adel_map (fun k _ => nm (100 + 4 * k.toNat))]; exact m6'⟩ (fun p hp => .inl ?_), hok⟩, Rest.set wf _ ho6⟩
      obtain ⟨hp, hne⟩ := mem_adel2 r.nd6 hp
      have k1 := r.ok.kl p hp
      have k2 := r.ok.kl _ (aget_mem ht)
      have k3 := r.ok.now0
      simp only at k2
      exact ⟨hp, by omega⟩
    · have e : trimS t s = s := by unfold trimS; rw [ht]; exact if_neg hz
      have hd0 : decide ((l.drives.length : Int) + l.threads.length + l.updates.length = 0) = false := by unfold lsize at hz; simp; omega
      simp (disch := first | omega | decide) only [push_cast, ↓reduceIte, Nat.reduceLT, Nat.reduceEqDiff, reduceCtorEq, Nat.reduceAdd, hn, hd, ha, vA, faL foQ0, faL foQ1, faL foQ2, faL foQ3, faL foQ4, faL foQ5, faL foQ6, faL foQ7, faL foQ8, faL foQ9, faL foQ10, faL foQ11, faL foQ12, ql.l0, ql.l1, ql.l2, ql.l3, ql.l4, ql.l5, ql.l6, ql.l7, ql.l9, ql.l10, ql.l11, ql.l12, hlk]
      refine AW.drawP (.take 0 [21, 20, 19, 18, 17, 16, 15, 14, 13, 12, 11, 10, 9, 8, 7, 6, 5, 4, 3, 2, 1] (.take 1 [21, 20, 19, 18, 17, 16, 15, 14, 13, 12, 11, 10, 9, 8, 7, 6, 5, 4, 3, 2] (.take 2 [21, 20, 19, 18, 17, 16, 15, 14, 13, 12, 11, 10, 9, 8, 7, 6, 5, 4, 3] (.take 3 [21, 20, 19, 13, 12, 7, 6, 5, 4] (.take 4 [21, 20, 19, 13, 12, 7, 6, 5] (.take 5 [21, 20, 19, 13, 12, 7, 6] (.take 6 [21, 20, 19, 13, 12, 7] (.take 7 [21, 20, 19, 13, 12] (.take 8 [21, 20, 19, 13, 12, 11, 10, 9] (.take 9 [21, 20, 19, 13, 12, 11, 10] (.take 10 [21, 20, 19, 13, 12, 11] (.take 11 [21, 20, 19, 13, 12] (.take 12 [21, 20, 19, 13] (.take 13 [21, 20, 19] (.take 14 [21, 20, 19, 18, 17, 16, 15] (.take 15 [21, 20, 19, 18, 17, 16] (.take 16 [21, 20, 19, 18, 17] (.take 17 [21, 20, 19, 18] (.take 18 [21, 20, 19] (.take 19 [21, 20] (.take 20 [21] (.take 21 [] .done)))))))))))))))))))))) [(0, 0), (0, 1), (0, 2), (0, 3), (0, 4), (0, 5), (0, 6), (0, 7), (0, 8), (0, 9), (0, 10), (0, 11), (0, 12), (0, 13), (0, 14), (0, 15), (0, 16), (0, 17), (0, 18), (0, 19), (0, 20), (0, 21)] mixed (by kernel_rfl) (by kernel_rfl) ?_
      simp (disch := first | omega | decide) only [push_cast, ↓reduceIte, Nat.reduceLT, Nat.reduceEqDiff, reduceCtorEq, Nat.reduceAdd, hn, hd, ha, vA, neqP, faL foR0, faL foR1, faL foR2, sl.l0, sl.l1, sl.l2, hl1, hl2, hl3, w1, w2, hd0]
      rw [e]
      exact ⟨ob, r, Rest.refl wf _ _⟩


theorem QOK.kpos {s : QS} (o : QOK s) : ∀ p ∈ s.later, 0 ≤ p.1 := fun p hp => by have := o.kl p hp; have := o.now0; omega

theorem QRl.slotTurn {b h h2 : AH} {s : QS} {nm nm2 : Nat → Nat} {ob ob2 : Nat → Option AObj} (r : QRl b h s nm ob) (hpos : ∀ p ∈ s.later, 0 ≤ p.1) {t : Int} {l l' : Lat} (hl : aget t s.later = some l) (own2 : Owns b h2 nm2 ob2) (e : ∀ i, ¬ (100 + 4 * t.toNat ≤ i ∧ i < 104 + 4 * t.toNat) → nm2 i = nm i ∧ ob2 i = ob i)
    (e100 : nm2 (100 + 4 * t.toNat) = nm (100 + 4 * t.toNat)) (lt : LatR nm2 ob2 t.toNat l') : QRl b h2 { s with later := aput t l' s.later } nm2 ob2 := by
  have ht0 := hpos _ (aget_mem hl)
  simp only at ht0
  have enm : ∀ p ∈ s.later, nm2 (100 + 4 * p.1.toNat) = nm (100 + 4 * p.1.toNat) := fun p hp => by
    by_cases hpt : p.1.toNat = t.toNat
    · rw [hpt]; exact e100
    · exact (e _ (by omega)).1
  refine r.relater own2 t.toNat (fun i _ hi => e i hi) (e 6 (by omega)).1 ?_ (fun p hp => ?_)
  · obtain ⟨o, ho, m⟩ := r.m6
    refine ⟨o, by rw [(e 6 (by omega)).2]; exact ho, ?_⟩
    have e1 : (aput t l' s.later).map (fun p => (p.1, nm2 (100 + 4 * p.1.toNat))) = s.later.map (fun p => (p.1, nm (100 + 4 * p.1.toNat))) := by
      rw [aput_map (fun k _ => nm2 (100 + 4 * k.toNat)) t l' s.later]
      have e2 : s.later.map (fun p => (p.1, nm2 (100 + 4 * p.1.toNat))) = s.later.map (fun p => (p.1, nm (100 + 4 * p.1.toNat))) := List.map_congr_left (fun p hp => by rw [enm p hp])
      rw [← e2]
      exact aput_keep (by rw [aget_map (fun k _ => nm2 (100 + 4 * k.toNat)), hl]; rfl)
    rw [e1]; exact m
  · rcases mem_aput2 r.nd6 hp with rfl | ⟨hp, hne⟩
    · exact .inr lt
    · have := hpos p hp
      exact .inl ⟨hp, by omega⟩

theorem QRl.slotD {b h : AH} {s : QS} {nm : Nat → Nat} {ob : Nat → Option AObj} (w0 : WFH b) (r : QRl b h s nm ob) (hpos : ∀ p ∈ s.later, 0 ≤ p.1) {t : Int} {l : Lat} (hl : aget t s.later = some l) {d' : List (Int × Int)} {o o' : AObj} (ho : ob (101 + 4 * t.toNat) = some o) (m : MapO vI o' d') :
    QRl b (h.set (nm (101 + 4 * t.toNat)) o') { s with later := aput t { l with drives := d' } s.later } nm (upd ob (101 + 4 * t.toNat) (some o')) := by
  obtain ⟨uv, -, a, c, -, d2⟩ := r.slot hl
  exact r.slotTurn hpos hl (r.own.set w0 ho) (fun i hi => ⟨rfl, upd_ne _ _ (by omega)⟩) rfl ⟨⟨uv, by rw [upd_ne _ _ (by omega)]; exact a, by rw [upd_ne _ _ (by omega)]; exact c⟩, ⟨o', upd_same _ _ _, m⟩, by rw [upd_ne _ _ (by omega)]; exact d2⟩
theorem QRl.slotT {b h : AH} {s : QS} {nm : Nat → Nat} {ob : Nat → Option AObj} (w0 : WFH b) (r : QRl b h s nm ob) (hpos : ∀ p ∈ s.later, 0 ≤ p.1) {t : Int} {l : Lat} (hl : aget t s.later = some l) {d' : List (Int × Bool)} {o o' : AObj} (ho : ob (102 + 4 * t.toNat) = some o) (m : MapO vB o' d') :
    QRl b (h.set (nm (102 + 4 * t.toNat)) o') { s with later := aput t { l with threads := d' } s.later } nm (upd ob (102 + 4 * t.toNat) (some o')) := by
  obtain ⟨uv, -, a, c, d1, -⟩ := r.slot hl
  exact r.slotTurn hpos hl (r.own.set w0 ho) (fun i hi => ⟨rfl, upd_ne _ _ (by omega)⟩) rfl ⟨⟨uv, by rw [upd_ne _ _ (by omega)]; exact a, by rw [upd_ne _ _ (by omega)]; exact c⟩, by rw [upd_ne _ _ (by omega)]; exact d1, ⟨o', upd_same _ _ _, m⟩⟩

theorem undriveN {b h : AH} {s : QS} {nm : Nat → Nat} {ob : Nat → Option AObj} (w0 : WFH b) (r : QR b h s nm ob) (i : Int) :
    ACall Try.prog 23 [vA (nm 0), .int .i64 i] h (fun _ h' => ∃ ob', QR b h' (undriveS i s) nm ob' ∧ Rest h h' nm nm ob ob') := by
  obtain ⟨lv, rv, wv, ql, hg, hl, h0, hlv, hrv, hw⟩ := r.ql
  have wf := r.own.gr.wf
  refine ACall.of_wp 39 [] Try.func23 rfl (by kernel_rfl) rfl rfl fun a hn hd ha => ?_
  obtain ⟨o2, ho2, m2⟩ := r.m2
  have mp2 : MapL vI h (nm 2) s.drives := ⟨o2, r.own.get _ _ ho2, m2⟩
  obtain ⟨o2', hdel2, m2'⟩ := mp2.del mtD i
  have r1 := r.set2 w0 m2' (fun p hp => r.ok.kd p (mem_adel hp))
  have rs1 := Rest.set (nm := nm) wf o2' ho2
  have wf1 := r1.own.gr.wf
  simp (disch := first | omega | decide) only [push_cast, ↓reduceIte, Nat.reduceLT, Nat.reduceEqDiff, reduceCtorEq, Nat.reduceAdd, hn, hd, ha, vA, faL foQ0, faL foQ1, faL foQ2, faL foQ3, faL foQ4, faL foQ5, faL foQ6, faL foQ7, faL foQ8, faL foQ9, faL foQ10, faL foQ11, faL foQ12, ql.l0, ql.l1, ql.l2, ql.l3, ql.l4, ql.l5, ql.l6, ql.l7, ql.l9, ql.l10, ql.l11, ql.l12, hdel2]
  generalize h.set (nm 2) o2' = h1 at r1 rs1 wf1 ⊢
  generalize upd ob 2 (some o2') = ob1 at r1 rs1
  clear hdel2 ql hg hlv hrv hw
  obtain ⟨lv, rv, wv, ql, hg, hl, h0, hlv, hrv, hw⟩ := r1.ql
  obtain ⟨o7, ho7, m7⟩ := r1.m7
  have mp7 : MapL vI h1 (nm 7) s.drive := ⟨o7, r1.own.get _ _ ho7, m7⟩
  have hlk7 := mp7.look mtT i true
  cases hi : aget i s.drive with
  | none =>
    rw [hi] at hlk7
    have hlk7 : aLookup Try.prog 57 (.map (some (nm 7))) (.int .i64 i) true h1 = some (.tuple #[.int .i64 0, .bool false]) := hlk7
    have e : undriveS i s = { s with drives := adel i s.drives } := by unfold undriveS; rw [hi]
    simp (disch := first | omega | decide) only [push_cast, ↓reduceIte, Nat.reduceLT, Nat.reduceEqDiff, reduceCtorEq, Nat.reduceAdd, hn, hd, ha, vA, faL foQ0, faL foQ1, faL foQ2, faL foQ3, faL foQ4, faL foQ5, faL foQ6, faL foQ7, faL foQ8, faL foQ9, faL foQ10, faL foQ11, faL foQ12, ql.l0, ql.l1, ql.l2, ql.l3, ql.l4, ql.l5, ql.l6, ql.l7, ql.l9, ql.l10, ql.l11, ql.l12, hlk7]
    rw [e]
    exact ⟨ob1, r1, rs1⟩
  | some t =>
    rw [hi] at hlk7
    have hlk7 : aLookup Try.prog 57 (.map (some (nm 7))) (.int .i64 i) true h1 = some (.tuple #[.int .i64 t, .bool true]) := hlk7
    obtain ⟨l, hl6, hld⟩ := r1.ok.kr _ (aget_mem hi)
    have hl6 : aget t s.later = some l := hl6
    have e : undriveS i s = trimS t (undrive1 i t l { s with drives := adel i s.drives }) := by unfold undriveS; rw [hi]; simp only [hl6, Option.getD_some]
    obtain ⟨uv, sl, hso, huv, ⟨o1, ho1, m1⟩, -⟩ := r1.toQRl.slot hl6
    have hlk := r1.toQRl.look6 t
    have hlk : aLookup Try.prog 56 (.map (some (nm 6))) (.int .i64 t) false h1 = some (match aget t s.later with
      | some _ => vA (nm (100 + 4 * t.toNat))
      | none => .pointer none) := hlk
    rw [hl6] at hlk
    have hlk : aLookup Try.prog 56 (.map (some (nm 6))) (.int .i64 t) false h1 = some (.pointer (some ⟨nm (100 + 4 * t.toNat), 0, none⟩)) := hlk
    have mp1 : MapL vI h1 (nm (101 + 4 * t.toNat)) l.drives := ⟨o1, r1.own.get _ _ ho1, m1⟩
    obtain ⟨o1', hdel1, m1'⟩ := mp1.del mtD i
    have r2 := r1.toQRl.slotD w0 r1.ok.kpos hl6 ho1 m1'
    have rs2 := rs1.trans (Rest.set (nm := nm) wf1 o1' ho1)
    have ho7' : upd ob1 (101 + 4 * t.toNat) (some o1') 7 = some o7 := by rw [upd_ne _ _ (by omega)]; exact ho7
    have hok := r1.ok.undrive1 (i := i) (t := t) (l := l) r1.nd6 m7.nd hl6
    have wf2 := r2.own.gr.wf
    generalize hh2 : h1.set (nm (101 + 4 * t.toNat)) o1' = h2 at r2 rs2 wf2 hdel1
    generalize upd ob1 (101 + 4 * t.toNat) (some o1') = ob2 at r2 rs2 ho7'
    have mp7' : MapL vI h2 (nm 7) s.drive := ⟨o7, r2.own.get _ _ ho7', m7⟩
    obtain ⟨o7', hdel7, m7'⟩ := mp7'.del mtT i
    have r3 : QR b (h2.set (nm 7) o7') (undrive1 i t l { s with drives := adel i s.drives }) nm (upd ob2 7 (some o7')) := ⟨r2.set7 w0 m7', hok⟩
    have rs3 := rs2.trans (Rest.set (nm := nm) wf2 o7' ho7')
    obtain ⟨lv2, rv2, wv2, ql2, -⟩ := r2.ql
    simp (disch := first | omega | decide) only [push_cast, ↓reduceIte, Nat.reduceLT, Nat.reduceEqDiff, reduceCtorEq, Nat.reduceAdd, hn, hd, ha, vA, faL foQ0, faL foQ1, faL foQ2, faL foQ3, faL foQ4, faL foQ5, faL foQ6, faL foQ7, faL foQ8, faL foQ9, faL foQ10, faL foQ11, faL foQ12, ql.l0, ql.l1, ql.l2, ql.l3, ql.l4, ql.l5, ql.l6, ql.l7, ql.l9, ql.l10, ql.l11, ql.l12, hlk7, hlk, faL foR0, faL foR1, faL foR2, sl.l0, hdel1, ql2.l0, ql2.l1, ql2.l2, ql2.l3, ql2.l4, ql2.l5, ql2.l6, ql2.l7, ql2.l9, ql2.l10, ql2.l11, ql2.l12, hdel7]
    refine ACall.mono ?_ (trimN w0 r3 t)
    rintro _ h4 ⟨ob4, r4, rs4⟩
    simp (disch := first | omega | decide) only [push_cast, ↓reduceIte, Nat.reduceLT, Nat.reduceEqDiff, reduceCtorEq, Nat.reduceAdd, hn, hd, ha]
    rw [e]
    exact ⟨ob4, r4, rs3.trans rs4⟩

theorem unwakeN {b h : AH} {s : QS} {nm : Nat → Nat} {ob : Nat → Option AObj} (w0 : WFH b) (r : QR b h s nm ob) (i : Int) :
    ACall Try.prog 25 [vA (nm 0), .int .i64 i] h (fun _ h' => ∃ ob', QR b h' (unwakeS i s) nm ob' ∧ Rest h h' nm nm ob ob') := by
  obtain ⟨lv, rv, wv, ql, hg, hl, h0, hlv, hrv, hw⟩ := r.ql
  have wf := r.own.gr.wf
  refine ACall.of_wp 34 [] Try.func25 rfl (by kernel_rfl) rfl rfl fun a hn hd ha => ?_
  obtain ⟨o8, ho8, m8⟩ := r.m8
  have mp8 : MapL vI h (nm 8) s.wake := ⟨o8, r.own.get _ _ ho8, m8⟩
  have hlk8 := mp8.look mtT i true
  cases hi : aget i s.wake with
  | none =>
    rw [hi] at hlk8
    have hlk8 : aLookup Try.prog 57 (.map (some (nm 8))) (.int .i64 i) true h = some (.tuple #[.int .i64 0, .bool false]) := hlk8
    have e : unwakeS i s = s := by unfold unwakeS; rw [hi]
    simp (disch := first | omega | decide) only [push_cast, ↓reduceIte, Nat.reduceLT, Nat.reduceEqDiff, reduceCtorEq, Nat.reduceAdd, hn, hd, ha, vA, faL foQ0, faL foQ1, faL foQ2, faL foQ3, faL foQ4, faL foQ5, faL foQ6, faL foQ7, faL foQ8, faL foQ9, faL foQ10, faL foQ11, faL foQ12, ql.l0, ql.l1, ql.l2, ql.l3, ql.l4, ql.l5, ql.l6, ql.l7, ql.l9, ql.l10, ql.l11, ql.l12, hlk8]
    rw [e]
    exact ⟨ob, r, Rest.refl wf _ _⟩
  | some t =>
    rw [hi] at hlk8
    have hlk8 : aLookup Try.prog 57 (.map (some (nm 8))) (.int .i64 i) true h = some (.tuple #[.int .i64 t, .bool true]) := hlk8
    obtain ⟨l, hl6, hld⟩ := r.ok.kw _ (aget_mem hi)
    have hl6 : aget t s.later = some l := hl6
    have e : unwakeS i s = trimS t (unwake1 i t l s) := by unfold unwakeS; rw [hi]; simp only [hl6, Option.getD_some]
    obtain ⟨uv, sl, hso, huv, -, ⟨o1, ho1, m1⟩⟩ := r.toQRl.slot hl6
    have hlk := r.toQRl.look6 t
    rw [hl6] at hlk
    have hlk : aLookup Try.prog 56 (.map (some (nm 6))) (.int .i64 t) false h = some (.pointer (some ⟨nm (100 + 4 * t.toNat), 0, none⟩)) := hlk
    have mp1 : MapL vB h (nm (102 + 4 * t.toNat)) l.threads := ⟨o1, r.own.get _ _ ho1, m1⟩
    obtain ⟨o1', hdel1, m1'⟩ := mp1.del mtB i
    have r2 := r.toQRl.slotT w0 r.ok.kpos hl6 ho1 m1'
    have rs2 := Rest.set (nm := nm) wf o1' ho1
    have ho8' : upd ob (102 + 4 * t.toNat) (some o1') 8 = some o8 := by rw [upd_ne _ _ (by omega)]; exact ho8
    have hok := r.ok.unwake1 (i := i) (t := t) (l := l) r.nd6 m8.nd hl6
    have wf2 := r2.own.gr.wf
    generalize hh2 : h.set (nm (102 + 4 * t.toNat)) o1' = h2 at r2 rs2 wf2 hdel1
    generalize upd ob (102 + 4 * t.toNat) (some o1') = ob2 at r2 rs2 ho8'
    have mp8' : MapL vI h2 (nm 8) s.wake := ⟨o8, r2.own.get _ _ ho8', m8⟩
    obtain ⟨o8', hdel8, m8'⟩ := mp8'.del mtT i
    have r3 : QR b (h2.set (nm 8) o8') (unwake1 i t l s) nm (upd ob2 8 (some o8')) := ⟨r2.set8 w0 m8', hok⟩
    have rs3 := rs2.trans (Rest.set (nm := nm) wf2 o8' ho8')
    obtain ⟨lv2, rv2, wv2, ql2, -⟩ := r2.ql
    simp (disch := first | omega | decide) only [push_cast, ↓reduceIte, Nat.reduceLT, Nat.reduceEqDiff, reduceCtorEq, Nat.reduceAdd, hn, hd, ha, vA, faL foQ0, faL foQ1, faL foQ2, faL foQ3, faL foQ4, faL foQ5, faL foQ6, faL foQ7, faL foQ8, faL foQ9, faL foQ10, faL foQ11, faL foQ12, ql.l0, ql.l1, ql.l2, ql.l3, ql.l4, ql.l5, ql.l6, ql.l7, ql.l9, ql.l10, ql.l11, ql.l12, hlk8, hlk, faL foR0, faL foR1, faL foR2, sl.l1, hdel1, ql2.l0, ql2.l1, ql2.l2, ql2.l3, ql2.l4, ql2.l5, ql2.l6, ql2.l7, ql2.l9, ql2.l10, ql2.l11, ql2.l12, hdel8]
    refine ACall.mono ?_ (trimN w0 r3 t)
    rintro _ h4 ⟨ob4, r4, rs4⟩
    simp (disch := first | omega | decide) only [push_cast, ↓reduceIte, Nat.reduceLT, Nat.reduceEqDiff, reduceCtorEq, Nat.reduceAdd, hn, hd, ha]
    rw [e]
    exact ⟨ob4, r4, rs3.trans rs4⟩


theorem infR : ∃ i, Try.prog.info? 64 = some i ∧ i.zero = some (.agg #[.map none, .map none, .slice none 0 0]) := ⟨(Try.prog.info? 64).get (by kernel_rfl), by kernel_rfl, by kernel_rfl⟩
theorem buildR (A B : Nat) : aBuild Try.prog 64 [(0, .map (some A)), (1, .map (some B))] = some (.agg ([.map (some A), .map (some B), .slice none 0 0] : List Value).toArray) := by
  have h1 : ∀ k, (Value.map k).cells = #[.map k] := fun _ => rfl
  rw [buildS (zs := [.map none, .map none, .slice none 0 0]) (pl := [(0, 1), (1, 1), (2, 1)]) infR rfl ⟨_, Try.underlying64, by kernel_rfl⟩]
  simp [fillL, h1, setL]

theorem QRl.gr {b h h' : AH} {s : QS} {nm : Nat → Nat} {ob : Nat → Option AObj} (r : QRl b h s nm ob) (g : Gr h h') : QRl b h' s nm ob := { r with own := r.own.grown g }

theorem slotNl {b h : AH} {s : QS} {nm : Nat → Nat} {ob : Nat → Option AObj} (w0 : WFH b) (r : QRl b h s nm ob) (hpos : ∀ p ∈ s.later, 0 ≤ p.1) {t : Int} (ht0 : 0 ≤ t) :
    ACall Try.prog 24 [vA (nm 0), .int .i64 t] h (fun v h' => ∃ nm' ob', v = vA (nm' (100 + 4 * t.toNat)) ∧ QRl b h' (slotS t s) nm' ob' ∧ Rest h h' nm nm' ob ob' ∧ ∀ i, i < 100 → nm' i = nm i) := by
  obtain ⟨lv, rv, wv, ql, hg, hl, h0, hlv, hrv, hw⟩ := r.ql
  have wf := r.own.gr.wf
  refine ACall.of_wp 25 [.tmp 4] Try.func24 rfl (by kernel_rfl) rfl rfl fun a hn hd ha => ?_
  have hlk := r.look6 t
  cases ht : aget t s.later with
  | some l =>
    rw [ht] at hlk
    have hlk : aLookup Try.prog 56 (.map (some (nm 6))) (.int .i64 t) false h = some (.pointer (some ⟨nm (100 + 4 * t.toNat), 0, none⟩)) := hlk
    have e : slotS t s = s := by unfold slotS; rw [ht]
    simp (disch := first | omega | decide) only [push_cast, ↓reduceIte, Nat.reduceLT, Nat.reduceEqDiff, reduceCtorEq, Nat.reduceAdd, hn, hd, ha, vA, faL foQ0, faL foQ1, faL foQ2, faL foQ3, faL foQ4, faL foQ5, faL foQ6, faL foQ7, faL foQ8, faL foQ9, faL foQ10, faL foQ11, faL foQ12, ql.l0, ql.l1, ql.l2, ql.l3, ql.l4, ql.l5, ql.l6, ql.l7, ql.l9, ql.l10, ql.l11, ql.l12, hlk, eqlP]
    exact ⟨nm, ob, rfl, by rw [e]; exact r, Rest.refl wf _ _, fun _ _ => rfl⟩
  | none =>
    rw [ht] at hlk
    have hlk : aLookup Try.prog 56 (.map (some (nm 6))) (.int .i64 t) false h = some (.pointer none) := hlk
    have e : slotS t s = { s with later := aput t lat0 s.later } := by unfold slotS; rw [ht]
    -- the new blocks
    have hbox : ∀ k, aBox 64 (.agg ([.map (some h.next), .map (some (h.next + 1)), .slice none 0 0] : List Value).toArray) k = some (.pointer (some ⟨k.next, 0, none⟩), k.new (.row [.map (some h.next), .map (some (h.next + 1)), .slice none 0 0] 64 true)) := fun k => boxA _ k _ rfl
    have own1 := r.own.up w0 (r := 101 + 4 * t.toNat) (h' := h.new (.map [] 0)) (A' := h.next) (o' := .map [] 0) (by rw [AH.new_get, if_pos rfl]) (.inr (Nat.le_refl _)) (fun B o hB _ => Sub.new wf _ B o hB) (wf.new _) (Nat.le_succ _)
    have rs1 := Rest.up (nm := nm) (ob := ob) wf (r := 101 + 4 * t.toNat) (h' := h.new (.map [] 0)) (A' := h.next) (o' := .map [] 0) (by omega) (.inr (Nat.le_refl _)) (fun B o hB _ => Sub.new wf _ B o hB) (Nat.le_succ _)
    have n1 : (h.new (.map [] 0)).next = h.next + 1 := rfl
    have wf1 := own1.gr.wf
    have own2 := own1.up w0 (r := 102 + 4 * t.toNat) (h' := (h.new (.map [] 0)).new (.map [] 0)) (A' := h.next + 1) (o' := .map [] 0) (by rw [AH.new_get]; exact if_pos rfl) (.inr (Nat.le_refl _)) (fun B o hB _ => Sub.new wf1 _ B o hB) (wf1.new _) (Nat.le_succ _)
    have rs2 := rs1.trans (Rest.up wf1 (r := 102 + 4 * t.toNat) (h' := (h.new (.map [] 0)).new (.map [] 0)) (A' := h.next + 1) (o' := .map [] 0) (by omega) (.inr (Nat.le_refl _)) (fun B o hB _ => Sub.new wf1 _ B o hB) (Nat.le_succ _))
    have n2 : ((h.new (.map [] 0)).new (.map [] 0)).next = h.next + 2 := rfl
    have g2 : Gr h ((h.new (.map [] 0)).new (.map [] 0)) := ((Gr.refl wf).new _).new _
    have wf2 := own2.gr.wf
    generalize hk2 : (h.new (.map [] 0)).new (.map [] 0) = k2 at own2 rs2 n2 g2 wf2
    have own3 := own2.up w0 (r := 100 + 4 * t.toNat) (h' := k2.new (.row [.map (some h.next), .map (some (h.next + 1)), .slice none 0 0] 64 true)) (A' := h.next + 2) (o' := .row [.map (some h.next), .map (some (h.next + 1)), .slice none 0 0] 64 true) (by rw [AH.new_get, n2, if_pos rfl]) (.inr (by omega)) (fun B o hB _ => Sub.new wf2 _ B o hB) (wf2.new _) (Nat.le_succ _)
    have rs3 := rs2.trans (Rest.up wf2 (r := 100 + 4 * t.toNat) (h' := k2.new (.row [.map (some h.next), .map (some (h.next + 1)), .slice none 0 0] 64 true)) (A' := h.next + 2) (o' := .row [.map (some h.next), .map (some (h.next + 1)), .slice none 0 0] 64 true) (by omega) (.inr (by omega)) (fun B o hB _ => Sub.new wf2 _ B o hB) (Nat.le_succ _))
    have g3 : Gr h (k2.new (.row [.map (some h.next), .map (some (h.next + 1)), .slice none 0 0] 64 true)) := g2.new _
    have hbox2 := hbox k2
    rw [n2] at hbox2
    have n3 : (k2.new (.row [.map (some h.next), .map (some (h.next + 1)), .slice none 0 0] 64 true)).next = h.next + 3 := by rw [AH.new_next, n2]
    generalize k2.new (.row [.map (some h.next), .map (some (h.next + 1)), .slice none 0 0] 64 true) = k3 at own3 rs3 g3 hbox2 n3
    have wf3 := g3.wf
    have own4 := own3.drop (103 + 4 * t.toNat)
    have rs4 := rs3.trans (Rest.drop wf3 (upd (upd (upd nm (101 + 4 * t.toNat) h.next) (102 + 4 * t.toNat) (h.next + 1)) (100 + 4 * t.toNat) (h.next + 2)) _ (103 + 4 * t.toNat))
    obtain ⟨lv3, rv3, wv3, ql3, -⟩ := (r.gr g3).ql
    obtain ⟨o6, ho6, m6⟩ := r.m6
    have mp6 : MapL vA k3 (nm 6) (s.later.map fun p => (p.1, nm (100 + 4 * p.1.toNat))) := ⟨o6, g3.sub _ _ (r.own.get _ _ ho6), m6⟩
    obtain ⟨o6', hup, m6'⟩ := mp6.put mtA t (h.next + 2)
    have hup : aUpdate Try.prog 56 (.map (some (nm 6))) (.int .i64 t) (.pointer (some ⟨h.next + 2, 0, none⟩)) k3 = some (k3.set (nm 6) o6') := hup
    have hnm : ∀ i, ¬ (100 + 4 * t.toNat ≤ i ∧ i < 104 + 4 * t.toNat) → upd (upd (upd nm (101 + 4 * t.toNat) h.next) (102 + 4 * t.toNat) (h.next + 1)) (100 + 4 * t.toNat) (h.next + 2) i = nm i := fun i hi => by rw [upd_ne _ _ (by omega), upd_ne _ _ (by omega), upd_ne _ _ (by omega)]
    have hn0 : upd (upd (upd nm (101 + 4 * t.toNat) h.next) (102 + 4 * t.toNat) (h.next + 1)) (100 + 4 * t.toNat) (h.next + 2) (100 + 4 * t.toNat) = h.next + 2 := upd_same _ _ _
    have hn1 : upd (upd (upd nm (101 + 4 * t.toNat) h.next) (102 + 4 * t.toNat) (h.next + 1)) (100 + 4 * t.toNat) (h.next + 2) (101 + 4 * t.toNat) = h.next := by rw [upd_ne _ _ (by omega), upd_ne _ _ (by omega), upd_same]
    have hn2 : upd (upd (upd nm (101 + 4 * t.toNat) h.next) (102 + 4 * t.toNat) (h.next + 1)) (100 + 4 * t.toNat) (h.next + 2) (102 + 4 * t.toNat) = h.next + 1 := by rw [upd_ne _ _ (by omega), upd_same]
    have hob : ∀ i, ¬ (100 + 4 * t.toNat ≤ i ∧ i < 104 + 4 * t.toNat) → upd (upd (upd (upd ob (101 + 4 * t.toNat) (some (.map [] 0))) (102 + 4 * t.toNat) (some (.map [] 0))) (100 + 4 * t.toNat) (some (.row [.map (some h.next), .map (some (h.next + 1)), .slice none 0 0] 64 true))) (103 + 4 * t.toNat) none i = ob i := fun i hi => by rw [upd_ne _ _ (by omega), upd_ne _ _ (by omega), upd_ne _ _ (by omega), upd_ne _ _ (by omega)]
    have ho0 : upd (upd (upd (upd ob (101 + 4 * t.toNat) (some (.map [] 0))) (102 + 4 * t.toNat) (some (.map [] 0))) (100 + 4 * t.toNat) (some (.row [.map (some h.next), .map (some (h.next + 1)), .slice none 0 0] 64 true))) (103 + 4 * t.toNat) none (100 + 4 * t.toNat) = some (.row [.map (some h.next), .map (some (h.next + 1)), .slice none 0 0] 64 true) := by rw [upd_ne _ _ (by omega), upd_same]
    have ho1 : upd (upd (upd (upd ob (101 + 4 * t.toNat) (some (.map [] 0))) (102 + 4 * t.toNat) (some (.map [] 0))) (100 + 4 * t.toNat) (some (.row [.map (some h.next), .map (some (h.next + 1)), .slice none 0 0] 64 true))) (103 + 4 * t.toNat) none (101 + 4 * t.toNat) = some (.map [] 0) := by rw [upd_ne _ _ (by omega), upd_ne _ _ (by omega), upd_ne _ _ (by omega), upd_same]
    have ho2 : upd (upd (upd (upd ob (101 + 4 * t.toNat) (some (.map [] 0))) (102 + 4 * t.toNat) (some (.map [] 0))) (100 + 4 * t.toNat) (some (.row [.map (some h.next), .map (some (h.next + 1)), .slice none 0 0] 64 true))) (103 + 4 * t.toNat) none (102 + 4 * t.toNat) = some (.map [] 0) := by rw [upd_ne _ _ (by omega), upd_ne _ _ (by omega), upd_same]
    have ho3 : upd (upd (upd (upd ob (101 + 4 * t.toNat) (some (.map [] 0))) (102 + 4 * t.toNat) (some (.map [] 0))) (100 + 4 * t.toNat) (some (.row [.map (some h.next), .map (some (h.next + 1)), .slice none 0 0] 64 true))) (103 + 4 * t.toNat) none (103 + 4 * t.toNat) = none := upd_same _ _ _
    generalize upd (upd (upd (upd ob (101 + 4 * t.toNat) (some (.map [] 0))) (102 + 4 * t.toNat) (some (.map [] 0))) (100 + 4 * t.toNat) (some (.row [.map (some h.next), .map (some (h.next + 1)), .slice none 0 0] 64 true))) (103 + 4 * t.toNat) none = ob4 at own4 rs4 hob ho0 ho1 ho2 ho3
    generalize upd (upd (upd nm (101 + 4 * t.toNat) h.next) (102 + 4 * t.toNat) (h.next + 1)) (100 + 4 * t.toNat) (h.next + 2) = nm4 at own4 rs4 hnm hn0 hn1 hn2
    have ho6' : ob4 6 = some o6 := (hob 6 (by omega)).trans ho6
    have hn6 : nm4 6 = nm 6 := hnm 6 (by omega)
    have own5 := own4.set w0 ho6' (o' := o6')
    have rs5 := rs4.trans (Rest.set wf3 o6' ho6')
    rw [hn6] at own5 rs5
    have hne : ∀ p ∈ s.later, p.1.toNat ≠ t.toNat := fun p hp e => by
      have h1 := hpos p hp
      have : p.1 = t := by omega
      exact aget_none.1 ht (List.mem_map.2 ⟨p, hp, this⟩)
    have r5 : QRl b (k3.set (nm 6) o6') { s with later := aput t lat0 s.later } nm4 (upd ob4 6 (some o6')) := by
      refine r.relater own5 t.toNat (fun i h6 hi => ⟨hnm i hi, by rw [upd_ne _ _ h6]; exact hob i hi⟩) hn6 ⟨o6', upd_same _ _ _, ?_⟩ (fun p hp => ?_)
      · rw [aput_map (fun k _ => nm4 (100 + 4 * k.toNat)) t lat0, hn0]
        have e2 : s.later.map (fun p => (p.1, nm4 (100 + 4 * p.1.toNat))) = s.later.map (fun p => (p.1, nm (100 + 4 * p.1.toNat))) := List.map_congr_left (fun p hp => by
          have := hne p hp
          rw [hnm _ (by omega)])
        rw [e2]; exact m6'
      · rcases mem_aput hp with rfl | hp
        · refine .inr ⟨⟨.slice none 0 0, ?_, ?_⟩, ⟨_, by rw [upd_ne _ _ (by omega)]; exact ho1, MapO.nil _⟩, ⟨_, by rw [upd_ne _ _ (by omega)]; exact ho2, MapO.nil _⟩⟩
          · rw [upd_ne _ _ (by omega), hn1, hn2]; exact ho0
          · rw [upd_ne _ _ (by omega)]
            show EvV _ (ob4 (103 + 4 * t.toNat)) _ []
            rw [ho3]; exact OffV.nil _ _ _
        · exact .inl ⟨hp, hne p hp⟩
    rw [e]
    simp (disch := first | omega | decide) only [push_cast, ↓reduceIte, Nat.reduceLT, Nat.reduceEqDiff, reduceCtorEq, Nat.reduceAdd, hn, hd, ha, vA, faL foQ0, faL foQ1, faL foQ2, faL foQ3, faL foQ4, faL foQ5, faL foQ6, faL foQ7, faL foQ8, faL foQ9, faL foQ10, faL foQ11, faL foQ12, ql.l0, ql.l1, ql.l2, ql.l3, ql.l4, ql.l5, ql.l6, ql.l7, ql.l9, ql.l10, ql.l11, ql.l12, hlk, eqlN, n1, buildR, hk2, hbox2, n2, ql3.l0, ql3.l1, ql3.l2, ql3.l3, ql3.l4, ql3.l5, ql3.l6, ql3.l7, ql3.l9, ql3.l10, ql3.l11, ql3.l12, hup]
    exact ⟨nm4, _, by rw [hn0], r5, rs5, fun i hi => hnm i (by omega)⟩

theorem slotN {b h : AH} {s : QS} {nm : Nat → Nat} {ob : Nat → Option AObj} (w0 : WFH b) (r : QR b h s nm ob) {t : Int} (ht1 : s.now < t) (ht2 : t ≤ 1000000000000) (hll : s.later.length + 1 ≤ 100000) :
    ACall Try.prog 24 [vA (nm 0), .int .i64 t] h (fun v h' => ∃ nm' ob', v = vA (nm' (100 + 4 * t.toNat)) ∧ QR b h' (slotS t s) nm' ob' ∧ Rest h h' nm nm' ob ob' ∧ ∀ i, i < 100 → nm' i = nm i) := by
  refine ACall.mono ?_ (slotNl w0 r.toQRl r.ok.kpos (by have := r.ok.now0; omega))
  rintro v h' ⟨nm', ob', e, r', rs, hi⟩
  exact ⟨nm', ob', e, ⟨r', r.ok.slot ht1 ht2 hll⟩, rs, hi⟩


def kOK (k : Int) : Bool := decide (k = 1 ∨ k = 3 ∨ k = 4)
def atBad (s : QS) (t : Int) (x : Ev) : Bool := decide (¬ (0 ≤ x.index ∧ x.index < 64) ∨ t < s.now ∨ 1000000000000 < t)
def atFull (s : QS) (x : Ev) : Bool := decide (x.kind = 4 ∧ 20000 ≤ s.held)
def atE (s : QS) (t : Int) (x : Ev) : Int := if kOK x.kind = false then 11 else if atBad s t x = true then 1 else if atFull s x = true then 5 else 0

/-- What At's regions lean on. -/
structure AtA (a : AAct) (nm : Nat → Nat) (t : Int) (A5 : Nat) : Prop where
  n : a.n = 161
  df : a.df = []
  t0 : a.tm 0 = vA (nm 0)
  t1 : a.tm 1 = .int .i64 t
  t5 : a.tm 5 = vA A5
theorem AtA.to {a a' : AAct} {nm : Nat → Nat} {t : Int} {A5 : Nat} (A : AtA a nm t A5) (hn : a'.n = a.n) (hd : a'.df = a.df) (ht : ∀ i, i < 9 → a'.tm i = a.tm i) : AtA a' nm t A5 := ⟨hn.trans A.n, hd.trans A.df, (ht 0 (by decide)).trans A.t0, (ht 1 (by decide)).trans A.t1, (ht 5 (by decide)).trans A.t5⟩

theorem atR3 {a : AAct} {h : AH} {nm : Nat → Nat} {t : Int} {A5 : Nat} {x : Ev} {N : AAct → AH → Prop} (A : AtA a nm t A5) (c5 : CsAt h A5 (evC x)) (hN : ∀ a', a'.n = a.n → a'.df = a.df → (∀ i, i < 9 → a'.tm i = a.tm i) → a'.tm 12 = .bool (!kOK x.kind) → N a' h) :
    opsM Try.prog (opsOf Try.f8 3) N (opsOf Try.f8 3).toList a h := by
  refine opsM.at (rfl : #[_, _, _, _, _, _, _, _, _, _, _, _, _, _] = _) (rfl : [_, _, _, _, _, _, _, _, _, _, _, _, _, _] = _) ?_
  have hk : aLoad Try.prog 5 (.pointer (some ⟨A5, 0, none⟩)) h = some (.int .u8 x.kind) := c5.ld flK 0 (by show 0 < 3; decide)
  by_cases e1 : x.kind = 1
  · have d1 : decide (x.kind = 1) = true := by simp [e1]
    have ek : kOK x.kind = true := by simp [kOK, e1]
    simp (disch := first | omega | decide) only [push_cast, ↓reduceIte, Nat.reduceLT, Nat.reduceEqDiff, reduceCtorEq, Nat.reduceAdd, A.n, A.df, A.t5, vA, faL foV0, faL foV1, faL foV2, hk, d1]
    exact hN _ (by simp (disch := first | omega | decide) only [push_cast, ↓reduceIte, Nat.reduceLT, Nat.reduceEqDiff, reduceCtorEq, Nat.reduceAdd]) (by simp (disch := first | omega | decide) only [push_cast, ↓reduceIte, Nat.reduceLT, Nat.reduceEqDiff, reduceCtorEq, Nat.reduceAdd]) (fun i hi => by simp only [put_tm, put_none]; repeat rw [if_neg (by omega)]) (by simp (disch := first | omega | decide) only [push_cast, ↓reduceIte, Nat.reduceLT, Nat.reduceEqDiff, reduceCtorEq, Nat.reduceAdd, ek])
  by_cases e3 : x.kind = 3
  · have d1 : decide (x.kind = 1) = false := by simp [e1]
    have d3 : decide (x.kind = 3) = true := by simp [e3]
    have ek : kOK x.kind = true := by simp [kOK, e3]
    simp (disch := first | omega | decide) only [push_cast, ↓reduceIte, Nat.reduceLT, Nat.reduceEqDiff, reduceCtorEq, Nat.reduceAdd, A.n, A.df, A.t5, vA, faL foV0, faL foV1, faL foV2, hk, d1, d3]
    exact hN _ (by simp (disch := first | omega | decide) only [push_cast, ↓reduceIte, Nat.reduceLT, Nat.reduceEqDiff, reduceCtorEq, Nat.reduceAdd]) (by simp (disch := first | omega | decide) only [push_cast, ↓reduceIte, Nat.reduceLT, Nat.reduceEqDiff, reduceCtorEq, Nat.reduceAdd]) (fun i hi => by simp only [put_tm, put_none]; repeat rw [if_neg (by omega)]) (by simp (disch := first | omega | decide) only [push_cast, ↓reduceIte, Nat.reduceLT, Nat.reduceEqDiff, reduceCtorEq, Nat.reduceAdd, ek])
  have d1 : decide (x.kind = 1) = false := by simp [e1]
  have d3 : decide (x.kind = 3) = false := by simp [e3]
  have ek : kOK x.kind = decide (x.kind = 4) := by simp [kOK, e1, e3]
  simp (disch := first | omega | decide) only [push_cast, ↓reduceIte, Nat.reduceLT, Nat.reduceEqDiff, reduceCtorEq, Nat.reduceAdd, A.n, A.df, A.t5, vA, faL foV0, faL foV1, faL foV2, hk, d1, d3]
  exact hN _ (by simp (disch := first | omega | decide) only [push_cast, ↓reduceIte, Nat.reduceLT, Nat.reduceEqDiff, reduceCtorEq, Nat.reduceAdd]) (by simp (disch := first | omega | decide) only [push_cast, ↓reduceIte, Nat.reduceLT, Nat.reduceEqDiff, reduceCtorEq, Nat.reduceAdd]) (fun i hi => by simp only [put_tm, put_none]; repeat rw [if_neg (by omega)]) (by simp (disch := first | omega | decide) only [push_cast, ↓reduceIte, Nat.reduceLT, Nat.reduceEqDiff, reduceCtorEq, Nat.reduceAdd, ek])

theorem atR5 {b h : AH} {s : QS} {nm : Nat → Nat} {ob : Nat → Option AObj} {a : AAct} {t : Int} {A5 : Nat} {x : Ev} {N : AAct → AH → Prop} (r : QR b h s nm ob) (A : AtA a nm t A5) (c5 : CsAt h A5 (evC x)) (hN : ∀ a', a'.n = a.n → a'.df = a.df → (∀ i, i < 9 → a'.tm i = a.tm i) → a'.tm 26 = .bool (atBad s t x) → N a' h) :
    opsM Try.prog (opsOf Try.f8 5) N (opsOf Try.f8 5).toList a h := by
  refine opsM.at (rfl : #[_, _, _, _, _, _, _, _, _, _, _, _, _, _, _, _, _] = _) (rfl : [_, _, _, _, _, _, _, _, _, _, _, _, _, _, _, _, _] = _) ?_
  obtain ⟨lv, rv, wv, ql, -⟩ := r.ql
  have hi : aLoad Try.prog 3 (.pointer (some ⟨A5, 1, none⟩)) h = some (.int .i64 x.index) := c5.ld flI 1 (by show 1 < 3; decide)
  simp (disch := first | omega | decide) only [push_cast, ↓reduceIte, Nat.reduceLT, Nat.reduceEqDiff, reduceCtorEq, Nat.reduceAdd, A.n, A.df, A.t5, vA, faL foV0, faL foV1, faL foV2, hi]
  refine ACall.mono ?_ existsN
  rintro _ _ ⟨rfl, rfl⟩
  by_cases e1 : 0 ≤ x.index ∧ x.index < 64
  · have d1 : decide (0 ≤ x.index ∧ x.index < 64) = true := by simp [e1]
    by_cases e2 : t < s.now
    · have d2 : decide (t < s.now) = true := by simp [e2]
      have eb : atBad s t x = true := by simp [atBad, e2]
      simp (disch := first | omega | decide) only [push_cast, ↓reduceIte, Nat.reduceLT, Nat.reduceEqDiff, reduceCtorEq, Nat.reduceAdd, A.n, A.df, A.t0, A.t1, A.t5, vA, faL foQ0, faL foQ1, faL foQ2, faL foQ3, faL foQ4, faL foQ5, faL foQ6, faL foQ7, faL foQ8, faL foQ9, faL foQ10, faL foQ11, faL foQ12, ql.l0, ql.l1, ql.l2, ql.l3, ql.l4, ql.l5, ql.l6, ql.l7, ql.l9, ql.l10, ql.l11, ql.l12, d1, d2]
      exact hN _ (by simp (disch := first | omega | decide) only [push_cast, ↓reduceIte, Nat.reduceLT, Nat.reduceEqDiff, reduceCtorEq, Nat.reduceAdd]) (by simp (disch := first | omega | decide) only [push_cast, ↓reduceIte, Nat.reduceLT, Nat.reduceEqDiff, reduceCtorEq, Nat.reduceAdd]) (fun i hi => by simp only [put_tm, put_none]; repeat rw [if_neg (by omega)]) (by simp (disch := first | omega | decide) only [push_cast, ↓reduceIte, Nat.reduceLT, Nat.reduceEqDiff, reduceCtorEq, Nat.reduceAdd, eb])
    · have d2 : decide (t < s.now) = false := by simp [e2]
      have eb : atBad s t x = decide (t > 1000000000000) := by simp [atBad, e1, e2]
      simp (disch := first | omega | decide) only [push_cast, ↓reduceIte, Nat.reduceLT, Nat.reduceEqDiff, reduceCtorEq, Nat.reduceAdd, A.n, A.df, A.t0, A.t1, A.t5, vA, faL foQ0, faL foQ1, faL foQ2, faL foQ3, faL foQ4, faL foQ5, faL foQ6, faL foQ7, faL foQ8, faL foQ9, faL foQ10, faL foQ11, faL foQ12, ql.l0, ql.l1, ql.l2, ql.l3, ql.l4, ql.l5, ql.l6, ql.l7, ql.l9, ql.l10, ql.l11, ql.l12, d1, d2]
      exact hN _ (by simp (disch := first | omega | decide) only [push_cast, ↓reduceIte, Nat.reduceLT, Nat.reduceEqDiff, reduceCtorEq, Nat.reduceAdd]) (by simp (disch := first | omega | decide) only [push_cast, ↓reduceIte, Nat.reduceLT, Nat.reduceEqDiff, reduceCtorEq, Nat.reduceAdd]) (fun i hi => by simp only [put_tm, put_none]; repeat rw [if_neg (by omega)]) (by simp (disch := first | omega | decide) only [push_cast, ↓reduceIte, Nat.reduceLT, Nat.reduceEqDiff, reduceCtorEq, Nat.reduceAdd, eb])
  · have d1 : decide (0 ≤ x.index ∧ x.index < 64) = false := by simp; omega
    have eb : atBad s t x = true := by unfold atBad; exact decide_eq_true (.inl e1)
    simp (disch := first | omega | decide) only [push_cast, ↓reduceIte, Nat.reduceLT, Nat.reduceEqDiff, reduceCtorEq, Nat.reduceAdd, A.n, A.df, A.t0, A.t1, A.t5, vA, faL foQ0, faL foQ1, faL foQ2, faL foQ3, faL foQ4, faL foQ5, faL foQ6, faL foQ7, faL foQ8, faL foQ9, faL foQ10, faL foQ11, faL foQ12, ql.l0, ql.l1, ql.l2, ql.l3, ql.l4, ql.l5, ql.l6, ql.l7, ql.l9, ql.l10, ql.l11, ql.l12, d1]
    exact hN _ (by simp (disch := first | omega | decide) only [push_cast, ↓reduceIte, Nat.reduceLT, Nat.reduceEqDiff, reduceCtorEq, Nat.reduceAdd]) (by simp (disch := first | omega | decide) only [push_cast, ↓reduceIte, Nat.reduceLT, Nat.reduceEqDiff, reduceCtorEq, Nat.reduceAdd]) (fun i hi => by simp only [put_tm, put_none]; repeat rw [if_neg (by omega)]) (by simp (disch := first | omega | decide) only [push_cast, ↓reduceIte, Nat.reduceLT, Nat.reduceEqDiff, reduceCtorEq, Nat.reduceAdd, eb])

theorem atR7 {b h : AH} {s : QS} {nm : Nat → Nat} {ob : Nat → Option AObj} {a : AAct} {t : Int} {A5 : Nat} {x : Ev} {N : AAct → AH → Prop} (r : QR b h s nm ob) (A : AtA a nm t A5) (c5 : CsAt h A5 (evC x)) (hN : ∀ a', a'.n = a.n → a'.df = a.df → (∀ i, i < 9 → a'.tm i = a.tm i) → a'.tm 43 = .bool (atFull s x) → N a' h) :
    opsM Try.prog (opsOf Try.f8 7) N (opsOf Try.f8 7).toList a h := by
  refine opsM.at (rfl : #[_, _, _, _, _, _, _, _, _, _, _] = _) (rfl : [_, _, _, _, _, _, _, _, _, _, _] = _) ?_
  obtain ⟨lv, rv, wv, ql, -⟩ := r.ql
  have hk : aLoad Try.prog 5 (.pointer (some ⟨A5, 0, none⟩)) h = some (.int .u8 x.kind) := c5.ld flK 0 (by show 0 < 3; decide)
  by_cases e1 : x.kind = 4
  · have d1 : decide (x.kind = 4) = true := by simp [e1]
    have eb : atFull s x = decide (s.held ≥ 20000) := by simp [atFull, e1]
    simp (disch := first | omega | decide) only [push_cast, ↓reduceIte, Nat.reduceLT, Nat.reduceEqDiff, reduceCtorEq, Nat.reduceAdd, A.n, A.df, A.t0, A.t5, vA, faL foV0, faL foV1, faL foV2, faL foQ0, faL foQ1, faL foQ2, faL foQ3, faL foQ4, faL foQ5, faL foQ6, faL foQ7, faL foQ8, faL foQ9, faL foQ10, faL foQ11, faL foQ12, ql.l0, ql.l1, ql.l2, ql.l3, ql.l4, ql.l5, ql.l6, ql.l7, ql.l9, ql.l10, ql.l11, ql.l12, hk, d1]
    exact hN _ (by simp (disch := first | omega | decide) only [push_cast, ↓reduceIte, Nat.reduceLT, Nat.reduceEqDiff, reduceCtorEq, Nat.reduceAdd]) (by simp (disch := first | omega | decide) only [push_cast, ↓reduceIte, Nat.reduceLT, Nat.reduceEqDiff, reduceCtorEq, Nat.reduceAdd]) (fun i hi => by simp only [put_tm, put_none]; repeat rw [if_neg (by omega)]) (by simp (disch := first | omega | decide) only [push_cast, ↓reduceIte, Nat.reduceLT, Nat.reduceEqDiff, reduceCtorEq, Nat.reduceAdd, eb])
  · have d1 : decide (x.kind = 4) = false := by simp [e1]
    have eb : atFull s x = false := by simp [atFull, e1]
    simp (disch := first | omega | decide) only [push_cast, ↓reduceIte, Nat.reduceLT, Nat.reduceEqDiff, reduceCtorEq, Nat.reduceAdd, A.n, A.df, A.t0, A.t5, vA, faL foV0, faL foV1, faL foV2, faL foQ0, faL foQ1, faL foQ2, faL foQ3, faL foQ4, faL foQ5, faL foQ6, faL foQ7, faL foQ8, faL foQ9, faL foQ10, faL foQ11, faL foQ12, ql.l0, ql.l1, ql.l2, ql.l3, ql.l4, ql.l5, ql.l6, ql.l7, ql.l9, ql.l10, ql.l11, ql.l12, hk, d1]
    exact hN _ (by simp (disch := first | omega | decide) only [push_cast, ↓reduceIte, Nat.reduceLT, Nat.reduceEqDiff, reduceCtorEq, Nat.reduceAdd]) (by simp (disch := first | omega | decide) only [push_cast, ↓reduceIte, Nat.reduceLT, Nat.reduceEqDiff, reduceCtorEq, Nat.reduceAdd]) (fun i hi => by simp only [put_tm, put_none]; repeat rw [if_neg (by omega)]) (by simp (disch := first | omega | decide) only [push_cast, ↓reduceIte, Nat.reduceLT, Nat.reduceEqDiff, reduceCtorEq, Nat.reduceAdd, eb])

theorem atB0 {b h : AH} {s : QS} {nm : Nat → Nat} {ob : Nat → Option AObj} {a : AAct} {t : Int} {A5 : Nat} {x : Ev} {Q : Exit → AAct → AH → Prop} (r : QR b h s nm ob) (A : AtA a nm t A5) (c5 : CsAt h A5 (evC x))
    (hOK : atE s t x = 0 → ∀ a', AtA a' nm t A5 → Q .normal a' h) (hBad : atE s t x ≠ 0 → ∀ a', a'.n = 161 → a'.df = [] → a'.tm 6 = .int .i64 (atE s t x) → Q .ret a' h) :
    wpA Try.prog none (.seq (.region 1 (opsOf Try.f8 1) false) (.cond (.tmp 9) (.seq (.region 2 (opsOf Try.f8 2) false) .ret) (.seq (.region 3 (opsOf Try.f8 3) false) (.cond (.tmp 12) (.seq (.region 4 (opsOf Try.f8 4) false) .ret) (.seq (.region 5 (opsOf Try.f8 5) false) (.cond (.tmp 26) (.seq (.region 6 (opsOf Try.f8 6) false) .ret) (.seq (.region 7 (opsOf Try.f8 7) false) (.cond (.tmp 43) (.seq (.region 8 (opsOf Try.f8 8) false) .ret) .skip)))))))) Q a h := by
  rw [wpA_seq, wpA_region]
  refine opsM.at (rfl : #[_, _, _] = _) (rfl : [_, _, _] = _) ?_
  simp (disch := first | omega | decide) only [push_cast, ↓reduceIte, Nat.reduceLT, Nat.reduceEqDiff, reduceCtorEq, Nat.reduceAdd, A.n, A.df, A.t0]
  refine ACall.mono ?_ (noneN r)
  rintro _ _ ⟨rfl, rfl⟩
  simp (disch := first | omega | decide) only [push_cast, ↓reduceIte, Nat.reduceLT, Nat.reduceEqDiff, reduceCtorEq, Nat.reduceAdd, A.n, A.df]
  have A1 : AtA ((((a.put (some 10) (vA (nm 0))).put (some 11) (.bool false))).put (some 9) (.bool false)) nm t A5 := A.to (by simp (disch := first | omega | decide) only [push_cast, ↓reduceIte, Nat.reduceLT, Nat.reduceEqDiff, reduceCtorEq, Nat.reduceAdd]) (by simp (disch := first | omega | decide) only [push_cast, ↓reduceIte, Nat.reduceLT, Nat.reduceEqDiff, reduceCtorEq, Nat.reduceAdd]) (fun i hi => by simp only [put_tm, put_none]; repeat rw [if_neg (by omega)])
  refine atR3 A1 c5 fun a2 n2 d2 t2 h12 => ?_
  have A2 := A1.to n2 d2 t2
  clear n2 d2 t2 A1
  cases hk : kOK x.kind with
  | false =>
    rw [hk] at h12
    have e : atE s t x = 11 := by unfold atE; rw [if_pos hk]
    rw [thenQ_normal, wpA_cond2]
    simp (disch := first | omega | decide) only [push_cast, ↓reduceIte, Nat.reduceLT, Nat.reduceEqDiff, reduceCtorEq, Nat.reduceAdd, A2.n, A2.df, h12]
    refine opsM.at (rfl : #[_] = _) (rfl : [_] = _) ?_
    simp (disch := first | omega | decide) only [push_cast, ↓reduceIte, Nat.reduceLT, Nat.reduceEqDiff, reduceCtorEq, Nat.reduceAdd, A2.n, A2.df]
    exact hBad (by rw [e]; decide) _ (by simp (disch := first | omega | decide) only [push_cast, ↓reduceIte, Nat.reduceLT, Nat.reduceEqDiff, reduceCtorEq, Nat.reduceAdd, A2.n]) (by simp (disch := first | omega | decide) only [push_cast, ↓reduceIte, Nat.reduceLT, Nat.reduceEqDiff, reduceCtorEq, Nat.reduceAdd, A2.df]) (by simp (disch := first | omega | decide) only [push_cast, ↓reduceIte, Nat.reduceLT, Nat.reduceEqDiff, reduceCtorEq, Nat.reduceAdd, e])
  | true =>
    rw [hk] at h12
    simp (disch := first | omega | decide) only [push_cast, ↓reduceIte, Nat.reduceLT, Nat.reduceEqDiff, reduceCtorEq, Nat.reduceAdd, A2.n, A2.df, h12]
    refine atR5 r A2 c5 fun a3 n3 d3 t3 h26 => ?_
    have A3 := A2.to n3 d3 t3
    clear n3 d3 t3 A2 h12
    cases hb : atBad s t x with
    | true =>
      rw [hb] at h26
      have e : atE s t x = 1 := by unfold atE; rw [if_neg (by rw [hk]; simp), if_pos hb]
      simp (disch := first | omega | decide) only [push_cast, ↓reduceIte, Nat.reduceLT, Nat.reduceEqDiff, reduceCtorEq, Nat.reduceAdd, A3.n, A3.df, h26]
      refine opsM.at (rfl : #[_] = _) (rfl : [_] = _) ?_
      simp (disch := first | omega | decide) only [push_cast, ↓reduceIte, Nat.reduceLT, Nat.reduceEqDiff, reduceCtorEq, Nat.reduceAdd, A3.n, A3.df]
      exact hBad (by rw [e]; decide) _ (by simp (disch := first | omega | decide) only [push_cast, ↓reduceIte, Nat.reduceLT, Nat.reduceEqDiff, reduceCtorEq, Nat.reduceAdd, A3.n]) (by simp (disch := first | omega | decide) only [push_cast, ↓reduceIte, Nat.reduceLT, Nat.reduceEqDiff, reduceCtorEq, Nat.reduceAdd, A3.df]) (by simp (disch := first | omega | decide) only [push_cast, ↓reduceIte, Nat.reduceLT, Nat.reduceEqDiff, reduceCtorEq, Nat.reduceAdd, e])
    | false =>
      rw [hb] at h26
      simp (disch := first | omega | decide) only [push_cast, ↓reduceIte, Nat.reduceLT, Nat.reduceEqDiff, reduceCtorEq, Nat.reduceAdd, A3.n, A3.df, h26]
      refine atR7 r A3 c5 fun a4 n4 d4 t4 h43 => ?_
      have A4 := A3.to n4 d4 t4
      clear n4 d4 t4 A3 h26
      cases hf : atFull s x with
      | true =>
        rw [hf] at h43
        have e : atE s t x = 5 := by unfold atE; rw [if_neg (by rw [hk]; simp), if_neg (by rw [hb]; simp), if_pos hf]
        simp (disch := first | omega | decide) only [push_cast, ↓reduceIte, Nat.reduceLT, Nat.reduceEqDiff, reduceCtorEq, Nat.reduceAdd, A4.n, A4.df, h43]
        refine opsM.at (rfl : #[_] = _) (rfl : [_] = _) ?_
        simp (disch := first | omega | decide) only [push_cast, ↓reduceIte, Nat.reduceLT, Nat.reduceEqDiff, reduceCtorEq, Nat.reduceAdd, A4.n, A4.df]
        exact hBad (by rw [e]; decide) _ (by simp (disch := first | omega | decide) only [push_cast, ↓reduceIte, Nat.reduceLT, Nat.reduceEqDiff, reduceCtorEq, Nat.reduceAdd, A4.n]) (by simp (disch := first | omega | decide) only [push_cast, ↓reduceIte, Nat.reduceLT, Nat.reduceEqDiff, reduceCtorEq, Nat.reduceAdd, A4.df]) (by simp (disch := first | omega | decide) only [push_cast, ↓reduceIte, Nat.reduceLT, Nat.reduceEqDiff, reduceCtorEq, Nat.reduceAdd, e])
      | false =>
        rw [hf] at h43
        have e : atE s t x = 0 := by unfold atE; rw [if_neg (by rw [hk]; simp), if_neg (by rw [hb]; simp), if_neg (by rw [hf]; simp)]
        simp (disch := first | omega | decide) only [push_cast, ↓reduceIte, Nat.reduceLT, Nat.reduceEqDiff, reduceCtorEq, Nat.reduceAdd, A4.n, A4.df, h43]
        exact hOK e _ A4


def putD (t : Int) (x : Ev) (l : Lat) (s : QS) : QS := { s with later := aput t { l with drives := aput x.index x.tag l.drives } s.later, drive := aput x.index t s.drive }
def putT (t : Int) (x : Ev) (l : Lat) (s : QS) : QS := { s with later := aput t { l with threads := aput x.index true l.threads } s.later, wake := aput x.index t s.wake }
def putU (t : Int) (x : Ev) (l : Lat) (s : QS) : QS := { s with later := aput t { l with updates := l.updates ++ [x] } s.later }
def at1 (s : QS) (t : Int) (x : Ev) : QS :=
  if x.kind = 1 then
    if t = s.now then { undriveS x.index s with drives := aput x.index x.tag (undriveS x.index s).drives }
    else putD t x ((aget t (slotS t (undriveS x.index s)).later).getD lat0) (slotS t (undriveS x.index s))
  else if x.kind = 3 then
    if t = s.now then { unwakeS x.index s with threads := aput x.index true (unwakeS x.index s).threads }
    else putT t x ((aget t (slotS t (unwakeS x.index s)).later).getD lat0) (slotS t (unwakeS x.index s))
  else if t = s.now then { s with held := s.held + 1, waiting := s.waiting ++ [x] }
  else putU t x ((aget t (slotS t { s with held := s.held + 1 }).later).getD lat0) (slotS t { s with held := s.held + 1 })
def atS (s : QS) (t : Int) (x : Ev) : QS := if atE s t x = 0 then at1 s t x else s

theorem trimS_now (t : Int) (s : QS) : (trimS t s).now = s.now := by
  unfold trimS; split
  · split <;> rfl
  · rfl
theorem trimS_len (t : Int) (s : QS) : (trimS t s).later.length ≤ s.later.length := by
  unfold trimS; split
  · split
    · exact (adel_sub t s.later).length_le
    · exact Nat.le_refl _
  · exact Nat.le_refl _
theorem undriveS_now (i : Int) (s : QS) : (undriveS i s).now = s.now := by
  unfold undriveS; split
  · rfl
  · rw [trimS_now]; rfl
theorem unwakeS_now (i : Int) (s : QS) : (unwakeS i s).now = s.now := by
  unfold unwakeS; split
  · rfl
  · rw [trimS_now]; rfl
theorem undriveS_len {s : QS} (o : QOK s) (i : Int) : (undriveS i s).later.length ≤ s.later.length := by
  unfold undriveS; split
  · exact Nat.le_refl _
  · rename_i t ht
    obtain ⟨l, hl, _⟩ := o.kr _ (aget_mem ht)
    refine Nat.le_trans (trimS_len _ _) ?_
    show (aput t _ s.later).length ≤ _
    rw [aput_len hl]; exact Nat.le_refl _
theorem unwakeS_len {s : QS} (o : QOK s) (i : Int) : (unwakeS i s).later.length ≤ s.later.length := by
  unfold unwakeS; split
  · exact Nat.le_refl _
  · rename_i t ht
    obtain ⟨l, hl, _⟩ := o.kw _ (aget_mem ht)
    refine Nat.le_trans (trimS_len _ _) ?_
    show (aput t _ s.later).length ≤ _
    rw [aput_len hl]; exact Nat.le_refl _
theorem slotS_get (t : Int) (s : QS) : ∃ l, aget t (slotS t s).later = some l := by
  unfold slotS
  cases h : aget t s.later with
  | some l => exact ⟨l, h⟩
  | none => exact ⟨lat0, aget_aput⟩
theorem slotS_held (t : Int) (s : QS) (n : Int) : slotS t { s with held := n } = { slotS t s with held := n } := by
  unfold slotS
  show (match aget t s.later with | some _ => _ | none => _) = _
  cases aget t s.later <;> rfl
theorem slotS_held2 (t : Int) (s : QS) : (slotS t s).held = s.held := by
  unfold slotS; split <;> rfl

theorem QOK.putD {s : QS} (o : QOK s) (nd : (s.later.map (·.1)).Nodup) {t : Int} {x : Ev} {l : Lat} (hl : aget t s.later = some l) (hx : 0 ≤ x.index ∧ x.index < 64) : QOK (putD t x l s) := by
  have hm := aget_mem hl
  refine o.turn (l' := { l with drives := aput x.index x.tag l.drives }) (wk := s.wake) nd hl rfl (fun q hq => ?_) (o.klt _ hm) (fun p hp => ?_) (fun p hp => ?_)
  · rcases mem_aput hq with rfl | hq
    · exact hx
    · exact o.kld _ hm q hq
  · by_cases e1 : p.1 = x.index
    · rcases mem_aput hp with rfl | hp
      · exact ⟨_, aget_aput, by simp [aget_aput]⟩
      · obtain ⟨m, h1, h2⟩ := o.kr p hp
        by_cases e : p.2 = t
        · exact ⟨_, by rw [e]; exact aget_aput, by simp [e1, aget_aput]⟩
        · exact ⟨m, by rw [aget_aput2 e]; exact h1, h2⟩
    · rcases mem_aput hp with rfl | hp
      · exact absurd rfl e1
      · obtain ⟨m, h1, h2⟩ := o.kr p hp
        by_cases e : p.2 = t
        · rw [e, hl] at h1; cases h1
          exact ⟨{ l with drives := aput x.index x.tag l.drives }, by rw [e]; exact aget_aput, by show (aget p.1 (aput x.index x.tag l.drives)).isSome; rw [aget_aput2 e1]; exact h2⟩
        · exact ⟨m, by rw [aget_aput2 e]; exact h1, h2⟩
  · obtain ⟨m, h1, h2⟩ := o.kw p hp
    by_cases e : p.2 = t
    · rw [e, hl] at h1; cases h1
      exact ⟨{ l with drives := aput x.index x.tag l.drives }, by rw [e]; exact aget_aput, h2⟩
    · exact ⟨m, by rw [aget_aput2 e]; exact h1, h2⟩

theorem QOK.putT {s : QS} (o : QOK s) (nd : (s.later.map (·.1)).Nodup) {t : Int} {x : Ev} {l : Lat} (hl : aget t s.later = some l) (hx : 0 ≤ x.index ∧ x.index < 64) : QOK (putT t x l s) := by
  have hm := aget_mem hl
  refine o.turn (l' := { l with threads := aput x.index true l.threads }) (dr := s.drive) nd hl rfl (o.kld _ hm) (fun q hq => ?_) (fun p hp => ?_) (fun p hp => ?_)
  · rcases mem_aput hq with rfl | hq
    · exact hx
    · exact o.klt _ hm q hq
  · obtain ⟨m, h1, h2⟩ := o.kr p hp
    by_cases e : p.2 = t
    · rw [e, hl] at h1; cases h1
      exact ⟨{ l with threads := aput x.index true l.threads }, by rw [e]; exact aget_aput, h2⟩
    · exact ⟨m, by rw [aget_aput2 e]; exact h1, h2⟩
  · by_cases e1 : p.1 = x.index
    · rcases mem_aput hp with rfl | hp
      · exact ⟨_, aget_aput, by simp [aget_aput]⟩
      · obtain ⟨m, h1, h2⟩ := o.kw p hp
        by_cases e : p.2 = t
        · exact ⟨_, by rw [e]; exact aget_aput, by simp [e1, aget_aput]⟩
        · exact ⟨m, by rw [aget_aput2 e]; exact h1, h2⟩
    · rcases mem_aput hp with rfl | hp
      · exact absurd rfl e1
      · obtain ⟨m, h1, h2⟩ := o.kw p hp
        by_cases e : p.2 = t
        · rw [e, hl] at h1; cases h1
          exact ⟨{ l with threads := aput x.index true l.threads }, by rw [e]; exact aget_aput, by show (aget p.1 (aput x.index true l.threads)).isSome; rw [aget_aput2 e1]; exact h2⟩
        · exact ⟨m, by rw [aget_aput2 e]; exact h1, h2⟩

theorem QOK.putU {s : QS} (o : QOK s) (nd : (s.later.map (·.1)).Nodup) {t : Int} {x : Ev} {l : Lat} (hl : aget t s.later = some l) (hx : 0 ≤ x.index ∧ x.index < 64 ∧ x.kind = 4) (hh : s.held < 20000) : QOK (putU t x l { s with held := s.held + 1 }) := by
  have hs := sumL_aput (fun p : Int × Lat => p.2.updates.length) (k := t) (x := l) (y := { l with updates := l.updates ++ [x] }) hl
  simp only [List.length_append, List.length_singleton] at hs
  have hd := o.held
  have hm := aget_mem hl
  refine { o with held := ?_, hb := ?_, kl := fun p hp => ?_, ll := ?_, kld := fun p hp => ?_, klt := fun p hp => ?_, kr := fun p hp => ?_, kw := fun p hp => ?_, ui := fun p hp => ?_ }
  · show s.held + 1 = s.waiting.length + (sumL List.length s.ready : Nat) + (sumL (fun p => p.2.updates.length) (aput t { l with updates := l.updates ++ [x] } s.later) : Nat); omega
  · show s.held + 1 ≤ _; omega
  · rcases mem_aput2 nd hp with rfl | ⟨hp, _⟩
    · exact o.kl (t, l) hm
    · exact o.kl p hp
  · show (aput t _ s.later).length ≤ _; rw [aput_len hl]; exact o.ll
  · rcases mem_aput2 nd hp with rfl | ⟨hp, _⟩
    · exact o.kld (t, l) hm
    · exact o.kld p hp
  · rcases mem_aput2 nd hp with rfl | ⟨hp, _⟩
    · exact o.klt (t, l) hm
    · exact o.klt p hp
  · obtain ⟨m, h1, h2⟩ := o.kr p hp
    by_cases e : p.2 = t
    · rw [e, hl] at h1; cases h1
      exact ⟨{ l with updates := l.updates ++ [x] }, by rw [e]; exact aget_aput, h2⟩
    · exact ⟨m, (aget_aput2 e).trans h1, h2⟩
  · obtain ⟨m, h1, h2⟩ := o.kw p hp
    by_cases e : p.2 = t
    · rw [e, hl] at h1; cases h1
      exact ⟨{ l with updates := l.updates ++ [x] }, by rw [e]; exact aget_aput, h2⟩
    · exact ⟨m, (aget_aput2 e).trans h1, h2⟩
  · rcases mem_aput2 nd hp with rfl | ⟨hp, _⟩
    · intro y hy
      rcases List.mem_append.1 hy with hy | hy
      · exact o.ui (t, l) hm y hy
      · simp only [List.mem_cons, List.not_mem_nil, or_false] at hy; subst hy; exact hx
    · exact o.ui p hp

theorem QOK.wait {s : QS} (o : QOK s) {x : Ev} (hx : 0 ≤ x.index ∧ x.index < 64 ∧ x.kind = 4) (hh : s.held < 20000) : QOK { s with held := s.held + 1, waiting := s.waiting ++ [x] } := by
  have hd := o.held
  refine { o with held := ?_, hb := ?_, wi := fun y hy => ?_ }
  · show s.held + 1 = ((s.waiting ++ [x]).length : Nat) + (sumL List.length s.ready : Nat) + (sumL (fun p => p.2.updates.length) s.later : Nat)
    rw [List.length_append, List.length_singleton]; omega
  · show s.held + 1 ≤ _; omega
  · rcases List.mem_append.1 hy with hy | hy
    · exact o.wi y hy
    · simp only [List.mem_cons, List.not_mem_nil, or_false] at hy; subst hy; exact hx


theorem aLoad_congr {P : Program} {t : TypeId} {A off : Nat} {h h' : AH} (e : h'.get A = h.get A) : aLoad P t (.pointer (some ⟨A, off, none⟩)) h' = aLoad P t (.pointer (some ⟨A, off, none⟩)) h := by
  simp only [aLoad, e]

/-- What the watched loads give. -/
structure LdA (k : AH) (A5 A0 : Nat) (x : Ev) (M7 M8 : Nat) : Prop where
  i : aLoad Try.prog 3 (.pointer (some ⟨A5, 1, none⟩)) k = some (.int .i64 x.index)
  t : aLoad Try.prog 3 (.pointer (some ⟨A5, 2, none⟩)) k = some (.int .i64 x.tag)
  d : aLoad Try.prog 57 (.pointer (some ⟨A0, 74, none⟩)) k = some (.map (some M7))
  w : aLoad Try.prog 57 (.pointer (some ⟨A0, 75, none⟩)) k = some (.map (some M8))
theorem LdA.of {k : AH} {A5 : Nat} {nm : Nat → Nat} {s : QS} {x : Ev} {lv : Value} {rv : List Value} {wv : Value} (c : CsAt k A5 (evC x)) (ql : QL k nm s lv rv wv) : LdA k A5 (nm 0) x (nm 7) (nm 8) :=
  ⟨c.ld flI 1 (by show 1 < 3; decide), c.ld flI 2 (by show 2 < 3; decide), ql.l11, ql.l12⟩
theorem LdA.set {k : AH} {A5 A0 : Nat} {x : Ev} {M7 M8 : Nat} (L : LdA k A5 A0 x M7 M8) {M : Nat} (o : AObj) (h5 : M ≠ A5) (h0 : M ≠ A0) : LdA (k.set M o) A5 A0 x M7 M8 := by
  have e5 : (k.set M o).get A5 = k.get A5 := by rw [AH.set_get, if_neg (fun e => h5 e.symm)]
  have e0 : (k.set M o).get A0 = k.get A0 := by rw [AH.set_get, if_neg (fun e => h0 e.symm)]
  exact ⟨(aLoad_congr e5).trans L.i, (aLoad_congr e5).trans L.t, (aLoad_congr e0).trans L.d, (aLoad_congr e0).trans L.w⟩

theorem atDrive {b h : AH} {s : QS} {nm : Nat → Nat} {ob : Nat → Option AObj} {a : AAct} {t : Int} {A5 : Nat} {x : Ev} {Q : Exit → AAct → AH → Prop} (w0 : WFH b) (r : QR b h s nm ob) (A : AtA a nm t A5) (h7 : a.tm 7 = .bool (decide (t = s.now))) (g5 : h.get A5 = some (.row (evC x) 33 true)) (u5 : Un nm ob A5)
    (hk : x.kind = 1) (hx : 0 ≤ x.index ∧ x.index < 64) (ht1 : s.now ≤ t) (ht2 : t ≤ 1000000000000) (hll : s.later.length + 1 ≤ 100000)
    (hQ : ∀ a' h' nm' ob', a'.n = 161 → a'.df = [] → QR b h' (at1 s t x) nm' ob' → Rest h h' nm nm' ob ob' → Q .normal a' h') :
    wpA Try.prog none (.seq (.region 17 (opsOf Try.f8 17) false) (.seq (.region 18 (opsOf Try.f8 18) false) (.cond (.tmp 99) (.region 19 (opsOf Try.f8 19) true) (.region 20 (opsOf Try.f8 20) true)))) Q a h := by
  have wf := r.own.gr.wf
  have l5 := AH.get_lt wf g5
  rw [wpA_seq, wpA_region]
  refine opsM.at (rfl : #[_, _, _, _] = _) (rfl : [_, _, _, _] = _) ?_
  have hi : aLoad Try.prog 3 (.pointer (some ⟨A5, 1, none⟩)) h = some (.int .i64 x.index) := (CsAt.ld ⟨_, g5, rfl⟩ flI 1 (by show 1 < 3; decide))
  simp (disch := first | omega | decide) only [push_cast, ↓reduceIte, Nat.reduceLT, Nat.reduceEqDiff, reduceCtorEq, Nat.reduceAdd, A.n, A.df, A.t0, A.t5, vA, faL foV0, faL foV1, faL foV2, hi]
  refine ACall.mono ?_ (undriveN w0 r x.index)
  rintro _ h1 ⟨ob1, r1, rs1⟩
  have g5 := rs1.keep _ _ g5 u5
  have u5 := rs1.un l5 u5
  have n1 := rs1.nx
  have en := undriveS_now x.index s
  have el := undriveS_len r.ok x.index
  simp (disch := first | omega | decide) only [push_cast, ↓reduceIte, Nat.reduceLT, Nat.reduceEqDiff, reduceCtorEq, Nat.reduceAdd, A.n, A.df, A.t0, A.t5, h7]
  refine opsM.at (rfl : #[_] = _) (rfl : [_] = _) ?_
  obtain ⟨lv, rv, wv, ql, -⟩ := r1.ql
  by_cases e : t = s.now
  · have ed : decide (t = s.now) = true := by simp [e]
    have e1 : at1 s t x = { undriveS x.index s with drives := aput x.index x.tag (undriveS x.index s).drives } := by unfold at1; rw [if_pos hk, if_pos e]
    simp (disch := first | omega | decide) only [push_cast, ↓reduceIte, Nat.reduceLT, Nat.reduceEqDiff, reduceCtorEq, Nat.reduceAdd, A.n, A.df, A.t0, A.t5, h7, ed]
    refine AW.at (rfl : _ = Code.region 19 #[_, _, _, _, _, _, _, _, _] true) ?_
    refine AW.drawP (.take 0 [8, 3, 2, 1] (.take 1 [8, 3, 2] (.take 2 [8, 3] (.take 3 [8] (.take 4 [8, 5] (.take 5 [8] (.take 6 [8, 7] (.take 7 [8] (.only 8 .done))))))))) [(0, 0), (0, 1), (0, 2), (0, 3), (0, 4), (0, 5), (0, 6), (0, 7), (2, 8)] mixed (by kernel_rfl) (by kernel_rfl) ?_
    obtain ⟨o2, ho2, m2⟩ := r1.m2
    have mp2 : MapL vI h1 (nm 2) (undriveS x.index s).drives := ⟨o2, r1.own.get _ _ ho2, m2⟩
    obtain ⟨o2', hup, m2'⟩ := mp2.put mtD x.index x.tag
    have hup : aUpdate Try.prog 54 (.map (some (nm 2))) (.int .i64 x.index) (.int .i64 x.tag) h1 = some (h1.set (nm 2) o2') := hup
    have c5 : CsAt h1 A5 (evC x) := ⟨_, g5, rfl⟩
    have hi1 : aLoad Try.prog 3 (.pointer (some ⟨A5, 1, none⟩)) h1 = some (.int .i64 x.index) := c5.ld flI 1 (by show 1 < 3; decide)
    have ht1' : aLoad Try.prog 3 (.pointer (some ⟨A5, 2, none⟩)) h1 = some (.int .i64 x.tag) := c5.ld flI 2 (by show 2 < 3; decide)
    simp (disch := first | omega | decide) only [push_cast, ↓reduceIte, Nat.reduceLT, Nat.reduceEqDiff, reduceCtorEq, Nat.reduceAdd, A.n, A.df, A.t0, A.t5, vA, faL foQ0, faL foQ1, faL foQ2, faL foQ3, faL foQ4, faL foQ5, faL foQ6, faL foQ7, faL foQ8, faL foQ9, faL foQ10, faL foQ11, faL foQ12, faL foV0, faL foV1, faL foV2, ql.l0, ql.l1, ql.l2, ql.l3, ql.l4, ql.l5, ql.l6, ql.l7, ql.l9, ql.l10, ql.l11, ql.l12, hi1, ht1', hup]
    refine hQ _ _ nm (upd ob1 2 (some o2')) (by simp (disch := first | omega | decide) only [push_cast, ↓reduceIte, Nat.reduceLT, Nat.reduceEqDiff, reduceCtorEq, Nat.reduceAdd, A.n]) (by simp (disch := first | omega | decide) only [push_cast, ↓reduceIte, Nat.reduceLT, Nat.reduceEqDiff, reduceCtorEq, Nat.reduceAdd, A.df]) ?_ (rs1.trans (Rest.set r1.own.gr.wf o2' ho2))
    rw [e1]
    exact r1.set2 w0 m2' (fun p hp => by
      rcases mem_aput hp with rfl | hp
      · exact hx
      · exact r1.ok.kd p hp)
  · have ed : decide (t = s.now) = false := by simp [e]
    have e1 : at1 s t x = putD t x ((aget t (slotS t (undriveS x.index s)).later).getD lat0) (slotS t (undriveS x.index s)) := by unfold at1; rw [if_pos hk, if_neg e]
    simp (disch := first | omega | decide) only [push_cast, ↓reduceIte, Nat.reduceLT, Nat.reduceEqDiff, reduceCtorEq, Nat.reduceAdd, A.n, A.df, A.t0, A.t5, h7, ed]
    refine AW.at (rfl : _ = Code.region 20 #[_, _, _, _, _, _, _, _, _, _, _, _, _, _, _, _, _, _, _, _, _, _, _] true) ?_
    refine AW.drawP (.take 0 [22, 21, 20, 19, 18, 17, 5, 4, 3, 2] (.take 1 [22, 21, 20, 19, 18, 17, 5, 4, 3, 2] (.take 6 [22, 21, 20, 19, 18, 17, 7] (.take 8 [22, 21, 20, 19, 18, 17, 11, 10, 9] (.take 9 [22, 21, 20, 19, 18, 17, 11, 10] (.take 10 [22, 21, 20, 19, 18, 17, 11] (.take 12 [22, 21, 20, 13] (.take 14 [22, 21, 20, 19, 15] (.take 16 [22] (.watch 7 [22, 21, 20, 19, 18, 17] (.watch 11 [22, 21, 20, 19, 18, 17] (.watch 13 [22, 21, 20] (.watch 15 [22, 21, 20, 19] (.only 2 (.take 3 [22, 21, 20, 19, 18, 17, 5, 4] (.take 4 [22, 21, 20, 19, 18, 17, 5] (.take 5 [22, 21, 20, 19, 18, 17] (.only 17 (.take 18 [22, 21, 20, 19] (.only 19 (.only 20 (.take 21 [22] (.only 22 .done))))))))))))))))))))))) [(0, 0), (0, 1), (0, 6), (0, 8), (0, 9), (0, 10), (0, 12), (0, 14), (0, 16), (1, 7), (1, 11), (1, 13), (1, 15), (2, 2), (0, 3), (0, 4), (0, 5), (2, 17), (0, 18), (2, 19), (2, 20), (0, 21), (2, 22)] mixed (by kernel_rfl) (by kernel_rfl) ?_
    have L1 := LdA.of (x := x) (A5 := A5) ⟨_, g5, rfl⟩ ql
    have hsl := slotN w0 r1 (t := t) (by omega) ht2 (by omega)
    obtain ⟨l, hl⟩ := slotS_get t (undriveS x.index s)
    rw [hl] at e1
    generalize slotS t (undriveS x.index s) = S at hsl hl e1
    simp (disch := first | omega | decide) only [push_cast, ↓reduceIte, Nat.reduceLT, Nat.reduceEqDiff, reduceCtorEq, Nat.reduceAdd, A.n, A.df, A.t0, A.t1, A.t5, vA, faL foQ0, faL foQ1, faL foQ2, faL foQ3, faL foQ4, faL foQ5, faL foQ6, faL foQ7, faL foQ8, faL foQ9, faL foQ10, faL foQ11, faL foQ12, faL foV0, faL foV1, faL foV2, L1.i, L1.t, L1.d]
    refine ACall.mono ?_ hsl
    rintro _ h2 ⟨nm2, ob2, rfl, r2, rs2, hnm⟩
    have g5 := rs2.keep _ _ g5 u5
    have u5 := rs2.un (by omega) u5
    obtain ⟨lv2, rv2, wv2, ql2, hg2, hl2, h02, -⟩ := r2.ql
    have L2 := LdA.of (x := x) (A5 := A5) ⟨_, g5, rfl⟩ ql2
    rw [hnm 0 (by decide), hnm 7 (by decide), hnm 8 (by decide)] at L2
    obtain ⟨uv, sl, hso, huv, ⟨o1, ho1, m1⟩, -⟩ := r2.toQRl.slot hl
    have mp1 : MapL vI h2 (nm2 (101 + 4 * t.toNat)) l.drives := ⟨o1, r2.own.get _ _ ho1, m1⟩
    obtain ⟨v1, c1, o1a, hen1, hst1⟩ := mp1.entry mtD x.index x.tag
    obtain ⟨o1b, hst1, m1b⟩ := hst1 (h2.set (nm2 (101 + 4 * t.toNat)) o1a) (by rw [AH.set_get, if_pos rfl])
    rw [AH.set_set] at hst1
    have hst1 : aEntryStore (.map (some (nm2 (101 + 4 * t.toNat)))) (.int .i64 c1) (.int .i64 x.tag) _ = _ := hst1
    have hM15 : nm2 (101 + 4 * t.toNat) ≠ A5 := u5 _ _ ho1
    have hM10 : nm2 (101 + 4 * t.toNat) ≠ nm 0 := by rw [← hnm 0 (by decide)]; exact r2.own.dis _ _ _ _ ho1 h02 (by omega)
    have L3 := L2.set o1a hM15 hM10
    have L4 := L2.set o1b hM15 hM10
    have r3 := r2.toQRl.slotD w0 r2.ok.kpos hl ho1 m1b
    have rs3 := Rest.set (nm := nm2) r2.own.gr.wf o1b ho1
    obtain ⟨o7, ho7, m7⟩ := r3.m7
    have hM75 : nm 7 ≠ A5 := by
      obtain ⟨o, ho, -⟩ := r2.m7
      rw [← hnm 7 (by decide)]; exact u5 _ _ ho
    have hM70 : nm 7 ≠ nm 0 := by
      obtain ⟨o, ho, -⟩ := r2.m7
      rw [← hnm 7 (by decide), ← hnm 0 (by decide)]; exact r2.own.dis _ _ _ _ ho h02 (by decide)
    have wf3 := r3.own.gr.wf
    generalize h2.set (nm2 (101 + 4 * t.toNat)) o1b = h3 at hst1 L4 r3 rs3 wf3
    have mp7 : MapL vI h3 (nm2 7) S.drive := ⟨o7, r3.own.get _ _ ho7, m7⟩
    obtain ⟨v7, c7, o7a, hen7, hst7⟩ := mp7.entry mtT x.index t
    obtain ⟨o7b, hst7, m7b⟩ := hst7 (h3.set (nm2 7) o7a) (by rw [AH.set_get, if_pos rfl])
    rw [AH.set_set] at hst7
    have r4 := r3.set7 w0 m7b
    have rs4 := ((rs1.trans rs2).trans rs3).trans (Rest.set (nm := nm2) wf3 o7b ho7)
    rw [hnm 7 (by decide)] at hen7 hst7 r4 rs4
    have hst7 : aEntryStore (.map (some (nm 7))) (.int .i64 c7) (.int .i64 t) _ = _ := hst7
    have L5 := L4.set o7a hM75 hM70
    have L6 := L4.set o7b hM75 hM70
    have hok : QOK (putD t x l S) := r2.ok.putD r2.nd6 hl hx
    simp (disch := first | omega | decide) only [push_cast, ↓reduceIte, Nat.reduceLT, Nat.reduceEqDiff, reduceCtorEq, Nat.reduceAdd, A.n, A.df, A.t0, A.t1, A.t5, vA, faL foR0, faL foR1, faL foR2, sl.l0, faL foQ0, faL foQ1, faL foQ2, faL foQ3, faL foQ4, faL foQ5, faL foQ6, faL foQ7, faL foQ8, faL foQ9, faL foQ10, faL foQ11, faL foQ12, faL foV0, faL foV1, faL foV2, L2.i, L2.t, L2.d, hen1, L3.i, L3.t, L3.d, hst1, L4.i, L4.t, L4.d, hen7, L5.i, L5.t, L5.d, hst7, L6.i, L6.t, L6.d]
    refine hQ _ _ nm2 _ (by simp (disch := first | omega | decide) only [push_cast, ↓reduceIte, Nat.reduceLT, Nat.reduceEqDiff, reduceCtorEq, Nat.reduceAdd, A.n]) (by simp (disch := first | omega | decide) only [push_cast, ↓reduceIte, Nat.reduceLT, Nat.reduceEqDiff, reduceCtorEq, Nat.reduceAdd, A.df]) ?_ rs4
    rw [e1]
    exact ⟨r4, hok⟩

theorem atThread {b h : AH} {s : QS} {nm : Nat → Nat} {ob : Nat → Option AObj} {a : AAct} {t : Int} {A5 : Nat} {x : Ev} {Q : Exit → AAct → AH → Prop} (w0 : WFH b) (r : QR b h s nm ob) (A : AtA a nm t A5) (h7 : a.tm 7 = .bool (decide (t = s.now))) (g5 : h.get A5 = some (.row (evC x) 33 true)) (u5 : Un nm ob A5)
    (hk : x.kind = 3) (hx : 0 ≤ x.index ∧ x.index < 64) (ht1 : s.now ≤ t) (ht2 : t ≤ 1000000000000) (hll : s.later.length + 1 ≤ 100000)
    (hQ : ∀ a' h' nm' ob', a'.n = 161 → a'.df = [] → QR b h' (at1 s t x) nm' ob' → Rest h h' nm nm' ob ob' → Q .normal a' h') :
    wpA Try.prog none (.seq (.region 22 (opsOf Try.f8 22) false) (.seq (.region 23 (opsOf Try.f8 23) false) (.cond (.tmp 135) (.region 24 (opsOf Try.f8 24) true) (.region 25 (opsOf Try.f8 25) true)))) Q a h := by
  have wf := r.own.gr.wf
  have l5 := AH.get_lt wf g5
  rw [wpA_seq, wpA_region]
  refine opsM.at (rfl : #[_, _, _, _] = _) (rfl : [_, _, _, _] = _) ?_
  have hi : aLoad Try.prog 3 (.pointer (some ⟨A5, 1, none⟩)) h = some (.int .i64 x.index) := (CsAt.ld ⟨_, g5, rfl⟩ flI 1 (by show 1 < 3; decide))
  simp (disch := first | omega | decide) only [push_cast, ↓reduceIte, Nat.reduceLT, Nat.reduceEqDiff, reduceCtorEq, Nat.reduceAdd, A.n, A.df, A.t0, A.t5, vA, faL foV0, faL foV1, faL foV2, hi]
  refine ACall.mono ?_ (unwakeN w0 r x.index)
  rintro _ h1 ⟨ob1, r1, rs1⟩
  have g5 := rs1.keep _ _ g5 u5
  have u5 := rs1.un l5 u5
  have n1 := rs1.nx
  have en := unwakeS_now x.index s
  have el := unwakeS_len r.ok x.index
  simp (disch := first | omega | decide) only [push_cast, ↓reduceIte, Nat.reduceLT, Nat.reduceEqDiff, reduceCtorEq, Nat.reduceAdd, A.n, A.df, A.t0, A.t5, h7]
  refine opsM.at (rfl : #[_] = _) (rfl : [_] = _) ?_
  obtain ⟨lv, rv, wv, ql, -⟩ := r1.ql
  by_cases e : t = s.now
  · have ed : decide (t = s.now) = true := by simp [e]
    have e1 : at1 s t x = { unwakeS x.index s with threads := aput x.index true (unwakeS x.index s).threads } := by unfold at1; rw [if_neg (by omega), if_pos hk, if_pos e]
    simp (disch := first | omega | decide) only [push_cast, ↓reduceIte, Nat.reduceLT, Nat.reduceEqDiff, reduceCtorEq, Nat.reduceAdd, A.n, A.df, A.t0, A.t5, h7, ed]
    refine AW.at (rfl : _ = Code.region 24 #[_, _, _, _, _, _, _] true) ?_
    refine AW.drawP (.take 0 [6, 3, 2, 1] (.take 1 [6, 3, 2] (.take 2 [6, 3] (.take 3 [6] (.take 4 [6, 5] (.take 5 [6] (.only 6 .done))))))) [(0, 0), (0, 1), (0, 2), (0, 3), (0, 4), (0, 5), (2, 6)] mixed (by kernel_rfl) (by kernel_rfl) ?_
    obtain ⟨o2, ho2, m2⟩ := r1.m4
    have mp2 : MapL vB h1 (nm 4) (unwakeS x.index s).threads := ⟨o2, r1.own.get _ _ ho2, m2⟩
    obtain ⟨o2', hup, m2'⟩ := mp2.put mtB x.index true
    have hup : aUpdate Try.prog 55 (.map (some (nm 4))) (.int .i64 x.index) (.bool true) h1 = some (h1.set (nm 4) o2') := hup
    have c5 : CsAt h1 A5 (evC x) := ⟨_, g5, rfl⟩
    have hi1 : aLoad Try.prog 3 (.pointer (some ⟨A5, 1, none⟩)) h1 = some (.int .i64 x.index) := c5.ld flI 1 (by show 1 < 3; decide)
    simp (disch := first | omega | decide) only [push_cast, ↓reduceIte, Nat.reduceLT, Nat.reduceEqDiff, reduceCtorEq, Nat.reduceAdd, A.n, A.df, A.t0, A.t5, vA, faL foQ0, faL foQ1, faL foQ2, faL foQ3, faL foQ4, faL foQ5, faL foQ6, faL foQ7, faL foQ8, faL foQ9, faL foQ10, faL foQ11, faL foQ12, faL foV0, faL foV1, faL foV2, ql.l0, ql.l1, ql.l2, ql.l3, ql.l4, ql.l5, ql.l6, ql.l7, ql.l9, ql.l10, ql.l11, ql.l12, hi1, hup]
    refine hQ _ _ nm (upd ob1 4 (some o2')) (by simp (disch := first | omega | decide) only [push_cast, ↓reduceIte, Nat.reduceLT, Nat.reduceEqDiff, reduceCtorEq, Nat.reduceAdd, A.n]) (by simp (disch := first | omega | decide) only [push_cast, ↓reduceIte, Nat.reduceLT, Nat.reduceEqDiff, reduceCtorEq, Nat.reduceAdd, A.df]) ?_ (rs1.trans (Rest.set r1.own.gr.wf o2' ho2))
    rw [e1]
    exact r1.set4 w0 m2' (fun p hp => by
      rcases mem_aput hp with rfl | hp
      · exact hx
      · exact r1.ok.kt p hp)
  · have ed : decide (t = s.now) = false := by simp [e]
    have e1 : at1 s t x = putT t x ((aget t (slotS t (unwakeS x.index s)).later).getD lat0) (slotS t (unwakeS x.index s)) := by unfold at1; rw [if_neg (by omega), if_pos hk, if_neg e]
    simp (disch := first | omega | decide) only [push_cast, ↓reduceIte, Nat.reduceLT, Nat.reduceEqDiff, reduceCtorEq, Nat.reduceAdd, A.n, A.df, A.t0, A.t5, h7, ed]
    refine AW.at (rfl : _ = Code.region 25 #[_, _, _, _, _, _, _, _, _, _, _, _, _, _, _, _, _, _, _, _, _] true) ?_
    refine AW.drawP (.take 0 [20, 19, 18, 17, 16, 15, 5, 4, 3, 2] (.take 1 [20, 19, 18, 17, 16, 15, 5, 4, 3, 2] (.take 6 [20, 19, 18, 17, 16, 15, 7] (.take 8 [20, 19, 18, 17, 16, 15, 11, 10, 9] (.take 9 [20, 19, 18, 17, 16, 15, 11, 10] (.take 10 [20, 19, 18, 17, 16, 15, 11] (.take 12 [20, 19, 18, 13] (.take 14 [20] (.watch 7 [20, 19, 18, 17, 16, 15] (.watch 11 [20, 19, 18, 17, 16, 15] (.watch 13 [20, 19, 18] (.only 2 (.take 3 [20, 19, 18, 17, 16, 15, 5, 4] (.take 4 [20, 19, 18, 17, 16, 15, 5] (.take 5 [20, 19, 18, 17, 16, 15] (.only 15 (.take 16 [20, 19, 18, 17] (.only 17 (.only 18 (.take 19 [20] (.only 20 .done))))))))))))))))))))) [(0, 0), (0, 1), (0, 6), (0, 8), (0, 9), (0, 10), (0, 12), (0, 14), (1, 7), (1, 11), (1, 13), (2, 2), (0, 3), (0, 4), (0, 5), (2, 15), (0, 16), (2, 17), (2, 18), (0, 19), (2, 20)] mixed (by kernel_rfl) (by kernel_rfl) ?_
    have L1 := LdA.of (x := x) (A5 := A5) ⟨_, g5, rfl⟩ ql
    have hsl := slotN w0 r1 (t := t) (by omega) ht2 (by omega)
    obtain ⟨l, hl⟩ := slotS_get t (unwakeS x.index s)
    rw [hl] at e1
    generalize slotS t (unwakeS x.index s) = S at hsl hl e1
    simp (disch := first | omega | decide) only [push_cast, ↓reduceIte, Nat.reduceLT, Nat.reduceEqDiff, reduceCtorEq, Nat.reduceAdd, A.n, A.df, A.t0, A.t1, A.t5, vA, faL foQ0, faL foQ1, faL foQ2, faL foQ3, faL foQ4, faL foQ5, faL foQ6, faL foQ7, faL foQ8, faL foQ9, faL foQ10, faL foQ11, faL foQ12, faL foV0, faL foV1, faL foV2, L1.i, L1.w]
    refine ACall.mono ?_ hsl
    rintro _ h2 ⟨nm2, ob2, rfl, r2, rs2, hnm⟩
    have g5 := rs2.keep _ _ g5 u5
    have u5 := rs2.un (by omega) u5
    obtain ⟨lv2, rv2, wv2, ql2, hg2, hl2, h02, -⟩ := r2.ql
    have L2 := LdA.of (x := x) (A5 := A5) ⟨_, g5, rfl⟩ ql2
    rw [hnm 0 (by decide), hnm 7 (by decide), hnm 8 (by decide)] at L2
    obtain ⟨uv, sl, hso, huv, -, ⟨o1, ho1, m1⟩⟩ := r2.toQRl.slot hl
    have mp1 : MapL vB h2 (nm2 (102 + 4 * t.toNat)) l.threads := ⟨o1, r2.own.get _ _ ho1, m1⟩
    obtain ⟨v1, c1, o1a, hen1, hst1⟩ := mp1.entry mtB x.index true
    obtain ⟨o1b, hst1, m1b⟩ := hst1 (h2.set (nm2 (102 + 4 * t.toNat)) o1a) (by rw [AH.set_get, if_pos rfl])
    rw [AH.set_set] at hst1
    have hst1 : aEntryStore (.map (some (nm2 (102 + 4 * t.toNat)))) (.int .i64 c1) (.bool true) _ = _ := hst1
    have hM15 : nm2 (102 + 4 * t.toNat) ≠ A5 := u5 _ _ ho1
    have hM10 : nm2 (102 + 4 * t.toNat) ≠ nm 0 := by rw [← hnm 0 (by decide)]; exact r2.own.dis _ _ _ _ ho1 h02 (by omega)
    have L3 := L2.set o1a hM15 hM10
    have L4 := L2.set o1b hM15 hM10
    have r3 := r2.toQRl.slotT w0 r2.ok.kpos hl ho1 m1b
    have rs3 := Rest.set (nm := nm2) r2.own.gr.wf o1b ho1
    obtain ⟨o8, ho8, m8⟩ := r3.m8
    have hM75 : nm 8 ≠ A5 := by
      obtain ⟨o, ho, -⟩ := r2.m8
      rw [← hnm 8 (by decide)]; exact u5 _ _ ho
    have hM70 : nm 8 ≠ nm 0 := by
      obtain ⟨o, ho, -⟩ := r2.m8
      rw [← hnm 8 (by decide), ← hnm 0 (by decide)]; exact r2.own.dis _ _ _ _ ho h02 (by decide)
    have wf3 := r3.own.gr.wf
    generalize h2.set (nm2 (102 + 4 * t.toNat)) o1b = h3 at hst1 L4 r3 rs3 wf3
    have mp7 : MapL vI h3 (nm2 8) S.wake := ⟨o8, r3.own.get _ _ ho8, m8⟩
    obtain ⟨v7, c7, o7a, hen7, hst7⟩ := mp7.entry mtT x.index t
    obtain ⟨o7b, hst7, m7b⟩ := hst7 (h3.set (nm2 8) o7a) (by rw [AH.set_get, if_pos rfl])
    rw [AH.set_set] at hst7
    have r4 := r3.set8 w0 m7b
    have rs4 := ((rs1.trans rs2).trans rs3).trans (Rest.set (nm := nm2) wf3 o7b ho8)
    rw [hnm 8 (by decide)] at hen7 hst7 r4 rs4
    have hst7 : aEntryStore (.map (some (nm 8))) (.int .i64 c7) (.int .i64 t) _ = _ := hst7
    have L5 := L4.set o7a hM75 hM70
    have L6 := L4.set o7b hM75 hM70
    have hok : QOK (putT t x l S) := r2.ok.putT r2.nd6 hl hx
    simp (disch := first | omega | decide) only [push_cast, ↓reduceIte, Nat.reduceLT, Nat.reduceEqDiff, reduceCtorEq, Nat.reduceAdd, A.n, A.df, A.t0, A.t1, A.t5, vA, faL foR0, faL foR1, faL foR2, sl.l1, faL foQ0, faL foQ1, faL foQ2, faL foQ3, faL foQ4, faL foQ5, faL foQ6, faL foQ7, faL foQ8, faL foQ9, faL foQ10, faL foQ11, faL foQ12, faL foV0, faL foV1, faL foV2, L2.i, L2.w, hen1, L3.i, L3.w, hst1, L4.i, L4.w, hen7, L5.i, L5.w, hst7, L6.i, L6.w]
    refine hQ _ _ nm2 _ (by simp (disch := first | omega | decide) only [push_cast, ↓reduceIte, Nat.reduceLT, Nat.reduceEqDiff, reduceCtorEq, Nat.reduceAdd, A.n]) (by simp (disch := first | omega | decide) only [push_cast, ↓reduceIte, Nat.reduceLT, Nat.reduceEqDiff, reduceCtorEq, Nat.reduceAdd, A.df]) ?_ rs4
    rw [e1]
    exact ⟨r4, hok⟩


/-- The waiting events, others. -/
theorem QRl.putWait {b h h2 : AH} {s : QS} {nm nm2 : Nat → Nat} {ob ob2 : Nat → Option AObj} (w0 : WFH b) (r : QRl b h s nm ob) (own2 : Owns b h2 nm2 ob2) (e : ∀ i, i ≠ 9 → nm2 i = nm i ∧ ob2 i = ob i) {lv : Value} {rv : List Value} {wv : Value} (h0 : ob 0 = some (.row (qC nm s lv rv wv) 60 true)) (hl : rv.length = 64) (hlv : OffV 1 48 lv (ob 1) (nm 1) s.left.length (s.left.map (.int .u32)))
    (hrv : ∀ i, i < 64 → EvV (rv.getD i undef) (ob (10 + i)) (nm (10 + i)) (s.ready.getD i [])) {v : Value} {l' : List Ev} (hv : EvV v (ob2 9) (nm2 9) l') :
    QRl b (h2.set (nm 0) (.row (qC nm s lv rv v) 60 true)) { s with waiting := l' } nm2 (upd ob2 0 (some (.row (qC nm s lv rv v) 60 true))) := by
  have e0 := e 0 (by omega)
  have h02 : ob2 0 = some (.row (qC nm s lv rv wv) 60 true) := e0.2.trans h0
  have eo : ∀ i, i ≠ 0 → i ≠ 9 → upd ob2 0 (some (.row (qC nm s lv rv v) 60 true)) i = ob i := fun i h1 h2 => by rw [upd_ne _ _ h1]; exact (e i h2).2
  have own3 := own2.set w0 h02 (o' := .row (qC nm s lv rv v) 60 true)
  rw [e0.1] at own3
  refine ⟨own3, ?_, ?_, ?_, ?_, ?_, ?_, ?_, ?_, fun p hp => ?_⟩
  · refine ⟨lv, rv, v, ?_, ?_, hl, fun i hi => ?_, ?_⟩
    · rw [upd_same]
      have : qC nm2 { s with waiting := l' } lv rv v = qC nm s lv rv v := by
        unfold qC
        rw [(e 2 (by omega)).1, (e 3 (by omega)).1, (e 4 (by omega)).1, (e 5 (by omega)).1, (e 6 (by omega)).1, (e 7 (by omega)).1, (e 8 (by omega)).1]
      rw [this]
    · rw [eo 1 (by decide) (by omega), (e 1 (by omega)).1]; exact hlv
    · rw [eo _ (by omega) (by omega), (e _ (by omega)).1]; exact hrv i hi
    · rw [upd_ne _ _ (by decide)]; exact hv
  · rw [eo 2 (by decide) (by omega)]; exact r.m2
  · rw [eo 3 (by decide) (by omega)]; exact r.m3
  · rw [eo 4 (by decide) (by omega)]; exact r.m4
  · rw [eo 5 (by decide) (by omega)]; exact r.m5
  · rw [eo 6 (by decide) (by omega)]
    have e' : s.later.map (fun p => (p.1, nm2 (100 + 4 * p.1.toNat))) = s.later.map (fun p => (p.1, nm (100 + 4 * p.1.toNat))) := List.map_congr_left (fun p _ => by rw [(e _ (by omega)).1])
    show ∃ o, ob 6 = some o ∧ MapO vA o (s.later.map fun p => (p.1, nm2 (100 + 4 * p.1.toNat)))
    rw [e']; exact r.m6
  · rw [eo 7 (by decide) (by omega)]; exact r.m7
  · rw [eo 8 (by decide) (by omega)]; exact r.m8
  · obtain ⟨⟨uv, a, c⟩, d, th⟩ := r.lat p hp
    exact ⟨⟨uv, by rw [eo _ (by omega) (by omega), (e _ (by omega)).1, (e _ (by omega)).1]; exact a, by rw [eo _ (by omega) (by omega), (e _ (by omega)).1]; exact c⟩, by rw [eo _ (by omega) (by omega)]; exact d, by rw [eo _ (by omega) (by omega)]; exact th⟩

theorem atUpd {b h : AH} {s : QS} {nm : Nat → Nat} {ob : Nat → Option AObj} {a : AAct} {t : Int} {A5 : Nat} {x : Ev} {Q : Exit → AAct → AH → Prop} (w0 : WFH b) (r : QR b h s nm ob) (A : AtA a nm t A5) (h7 : a.tm 7 = .bool (decide (t = s.now))) (g5 : h.get A5 = some (.row (evC x) 33 true)) (u5 : Un nm ob A5)
    (hx : 0 ≤ x.index ∧ x.index < 64 ∧ x.kind = 4) (hh : s.held < 20000) (ht1 : s.now ≤ t) (ht2 : t ≤ 1000000000000) (hll : s.later.length + 1 ≤ 100000)
    (hQ : ∀ a' h' nm' ob', a'.n = 161 → a'.df = [] → QR b h' (at1 s t x) nm' ob' → Rest h h' nm nm' ob ob' → Q .normal a' h') :
    wpA Try.prog none (.seq (.region 11 (opsOf Try.f8 11) false) (.seq (.region 12 (opsOf Try.f8 12) false) (.cond (.tmp 69) (.region 13 (opsOf Try.f8 13) true) (.seq (.region 14 (opsOf Try.f8 14) false) (.region 15 (opsOf Try.f8 15) true))))) Q a h := by
  have wf := r.own.gr.wf
  have l5 := AH.get_lt wf g5
  rw [wpA_seq, wpA_region]
  refine opsM.at (rfl : #[_, _, _, _, _, _, _, _] = _) (rfl : [_, _, _, _, _, _, _, _] = _) ?_
  obtain ⟨lv, rv, wv, ql, hg, hl, h0, hlv, hrv, hw⟩ := r.ql
  have hld0 := r.ok.held
  have hwr : IntKind.i64.wrap (s.held + 1) = s.held + 1 := wrapI (by omega) (by omega)
  have hst := stC (P := Try.prog) one1I hg 3 (.int .i64 (s.held + 1)) (by rw [qC_len hl]; decide) rfl rfl
  have r1 := r.toQRl.setNum w0 h0 hl hlv hrv hw s.now (s.held + 1)
  have rs1 := Rest.set (nm := nm) wf (.row (qC nm { s with now := s.now, held := s.held + 1 } lv rv wv) 60 true) h0
  have hst : aStore Try.prog 3 (.pointer (some ⟨nm 0, 3, none⟩)) (.int .i64 (s.held + 1)) h = some (h.set (nm 0) (.row (qC nm { s with now := s.now, held := s.held + 1 } lv rv wv) 60 true)) := hst
  have es : ({ s with now := s.now, held := s.held + 1 } : QS) = { s with held := s.held + 1 } := rfl
  rw [es] at r1 rs1 hst
  simp (disch := first | omega | decide) only [push_cast, ↓reduceIte, Nat.reduceLT, Nat.reduceEqDiff, reduceCtorEq, Nat.reduceAdd, A.n, A.df, A.t0, vA, faL foQ0, faL foQ1, faL foQ2, faL foQ3, faL foQ4, faL foQ5, faL foQ6, faL foQ7, faL foQ8, faL foQ9, faL foQ10, faL foQ11, faL foQ12, ql.l3, hwr, hst]
  have g5 := rs1.keep _ _ g5 u5
  have u5 := rs1.un l5 u5
  have wf1 := r1.own.gr.wf
  have n1 := rs1.nx
  generalize h.set (nm 0) (.row (qC nm { s with held := s.held + 1 } lv rv wv) 60 true) = h1 at r1 rs1 g5 wf1 n1 ⊢
  generalize upd ob 0 (some (.row (qC nm { s with held := s.held + 1 } lv rv wv) 60 true)) = ob1 at r1 rs1 u5
  clear hst ql hg hlv hrv hw
  obtain ⟨lv, rv, wv, ql, hg, hl, h0, hlv, hrv, hw⟩ := r1.ql
  refine opsM.at (rfl : #[_] = _) (rfl : [_] = _) ?_
  have c5 : CsAt h1 A5 (evC x) := ⟨_, g5, rfl⟩
  have hev1 : aLoad Try.prog 33 (.pointer (some ⟨A5, 0, none⟩)) h1 = some (.agg (evC x).toArray) := c5.la agV rfl
  have hbl : ∀ k, aBuildSlice Try.prog 34 1 [(0, .agg (evC x).toArray)] k = some (.slice (some ⟨k.next, 0, none⟩) 1 1, k.new (.row (evC x) 33 true)) := fun k => aBuildM sV (by decide) k (xs := evC x) rfl rfl
  by_cases e : t = s.now
  · have ed : decide (t = s.now) = true := by simp [e]
    have e1 : at1 s t x = { s with held := s.held + 1, waiting := s.waiting ++ [x] } := by unfold at1; rw [if_neg (by omega), if_neg (by omega), if_pos e]
    have hwl : s.waiting.length ≤ 20000 := by have := r.ok.held; have := r.ok.hb; omega
    obtain ⟨v', h2, hap, ⟨A', o', hv', hgA, hA'⟩, hfr, w2, n2⟩ := appEv wf1 hw (fun o ho => r1.own.get 9 _ ho) x hwl
    have own2 := r1.own.up w0 (r := 9) hgA (.inr hA') (fun C o hC hn => hfr C o hC hn) w2 n2
    have rs2 := rs1.trans (Rest.up (o' := o') wf1 (r := 9) (by decide) (.inr hA') (fun C o hC hn => hfr C o hC hn) n2)
    have hne2 : ∀ i', i' ≠ 9 → upd nm 9 A' i' = nm i' ∧ upd ob1 9 (some o') i' = ob1 i' := fun i' h => ⟨upd_ne _ _ h, upd_ne _ _ h⟩
    have hg2 : h2.get (nm 0) = some (.row (qC nm { s with held := s.held + 1 } lv rv wv) 60 true) := by
      have := own2.get 0 _ ((hne2 0 (by omega)).2.trans h0)
      rwa [(hne2 0 (by omega)).1] at this
    have hst := stC (P := Try.prog) oneEs hg2 72 v' (by rw [qC_len hl]; decide) hv'.one.2 hv'.one.1
    rw [qC_setW hl] at hst
    have r3 := r1.putWait w0 own2 hne2 h0 hl hlv hrv (v := v') (l' := s.waiting ++ [x]) (by rw [upd_same, upd_same]; exact hv')
    have rs3 := rs2.trans (Rest.set w2 (.row (qC nm { s with held := s.held + 1 } lv rv v') 60 true) ((hne2 0 (by omega)).2.trans h0))
    rw [(hne2 0 (by omega)).1] at rs3
    have hok := r.ok.wait hx hh
    simp (disch := first | omega | decide) only [push_cast, ↓reduceIte, Nat.reduceLT, Nat.reduceEqDiff, reduceCtorEq, Nat.reduceAdd, A.n, A.df, A.t0, h7, ed]
    refine AW.at (rfl : _ = Code.region 13 #[_, _, _, _, _, _, _, _, _, _, _] true) ?_
    refine AW.drawP (.take 0 [10, 9, 8] (.take 1 [10, 9, 8, 7, 4, 3, 2] (.take 2 [10, 9, 8, 7, 4, 3] (.take 3 [10, 9, 8, 7, 4] (.take 4 [10, 9, 8, 7] (.take 5 [10, 9, 8, 7, 6] (.only 6 (.only 7 (.take 8 [10, 9] (.take 9 [10] (.only 10 .done))))))))))) [(0, 0), (0, 1), (0, 2), (0, 3), (0, 4), (0, 5), (2, 6), (2, 7), (0, 8), (0, 9), (2, 10)] mixed (by kernel_rfl) (by kernel_rfl) ?_
    simp (disch := first | omega | decide) only [push_cast, ↓reduceIte, Nat.reduceLT, Nat.reduceEqDiff, reduceCtorEq, Nat.reduceAdd, A.n, A.df, A.t0, A.t5, vA, faL foQ0, faL foQ1, faL foQ2, faL foQ3, faL foQ4, faL foQ5, faL foQ6, faL foQ7, faL foQ8, faL foQ9, faL foQ10, faL foQ11, faL foQ12, ql.l0, ql.l1, ql.l2, ql.l3, ql.l4, ql.l5, ql.l6, ql.l7, ql.l9, ql.l10, ql.l11, ql.l12, hev1, hbl, hap, hst]
    refine hQ _ _ _ _ (by simp (disch := first | omega | decide) only [push_cast, ↓reduceIte, Nat.reduceLT, Nat.reduceEqDiff, reduceCtorEq, Nat.reduceAdd, A.n]) (by simp (disch := first | omega | decide) only [push_cast, ↓reduceIte, Nat.reduceLT, Nat.reduceEqDiff, reduceCtorEq, Nat.reduceAdd, A.df]) ?_ rs3
    rw [e1]
    exact ⟨r3, hok⟩
  · have ed : decide (t = s.now) = false := by simp [e]
    have e1 : at1 s t x = putU t x ((aget t (slotS t { s with held := s.held + 1 }).later).getD lat0) (slotS t { s with held := s.held + 1 }) := by unfold at1; rw [if_neg (by omega), if_neg (by omega), if_neg e]
    have hsl := slotNl w0 r1 r.ok.kpos (t := t) (by have := r.ok.now0; omega)
    simp (disch := first | omega | decide) only [push_cast, ↓reduceIte, Nat.reduceLT, Nat.reduceEqDiff, reduceCtorEq, Nat.reduceAdd, A.n, A.df, A.t0, h7, ed]
    refine opsM.at (rfl : #[_, _, _, _] = _) (rfl : [_, _, _, _] = _) ?_
    simp (disch := first | omega | decide) only [push_cast, ↓reduceIte, Nat.reduceLT, Nat.reduceEqDiff, reduceCtorEq, Nat.reduceAdd, A.n, A.df, A.t0, A.t1]
    refine ACall.mono ?_ hsl
    rintro _ h2 ⟨nm2, ob2, rfl, r2, rs2, hnm⟩
    obtain ⟨l, hl6⟩ := slotS_get t s
    have hoS := r.ok.slot (t := t) (by omega) ht2 hll
    have ndS : ((slotS t s).later.map (·.1)).Nodup := by
      have := r2.nd6
      rw [slotS_held] at this
      exact this
    have hok := hoS.putU ndS hl6 hx (by rw [slotS_held2]; exact hh)
    rw [slotS_held2] at hok
    rw [slotS_held] at r2 e1
    have hl6' : aget t ({ slotS t s with held := s.held + 1 } : QS).later = some l := hl6
    rw [hl6', Option.getD_some] at e1
    have hu20 : l.updates.length ≤ 20000 := by
      have := sumL_mem (fun p : Int × Lat => p.2.updates.length) (slotS t s).later _ (aget_mem hl6)
      have h1 := hoS.held
      have h2 := hoS.hb
      simp only at this
      omega
    have g5 := rs2.keep _ _ g5 u5
    have u5 := rs2.un (by omega) u5
    have wf2 := r2.own.gr.wf
    have c5 : CsAt h2 A5 (evC x) := ⟨_, g5, rfl⟩
    have hev2 : aLoad Try.prog 33 (.pointer (some ⟨A5, 0, none⟩)) h2 = some (.agg (evC x).toArray) := c5.la agV rfl
    obtain ⟨uv, sl, hso, huv, hd1, hd2⟩ := r2.slot hl6'
    obtain ⟨v', h3, hap, ⟨A', o', hv', hgA, hA'⟩, hfr, w3, n3⟩ := appEv wf2 huv (fun o ho => r2.own.get _ _ ho) x hu20
    have own3 := r2.own.up w0 (r := 103 + 4 * t.toNat) hgA (.inr hA') (fun C o hC hn => hfr C o hC hn) w3 n3
    have rs3 := (rs1.trans rs2).trans (Rest.up (o' := o') wf2 (r := 103 + 4 * t.toNat) (by omega) (.inr hA') (fun C o hC hn => hfr C o hC hn) n3)
    have hso3 : upd ob2 (103 + 4 * t.toNat) (some o') (100 + 4 * t.toNat) = some (.row [.map (some (nm2 (101 + 4 * t.toNat))), .map (some (nm2 (102 + 4 * t.toNat))), uv] 64 true) := by rw [upd_ne _ _ (by omega)]; exact hso
    have hn3 : upd nm2 (103 + 4 * t.toNat) A' (100 + 4 * t.toNat) = nm2 (100 + 4 * t.toNat) := upd_ne _ _ (by omega)
    have hg3 : h3.get (nm2 (100 + 4 * t.toNat)) = some (.row [.map (some (nm2 (101 + 4 * t.toNat))), .map (some (nm2 (102 + 4 * t.toNat))), uv] 64 true) := by
      have := own3.get _ _ hso3
      rwa [hn3] at this
    have hst := stC (P := Try.prog) oneEs hg3 2 v' (by show 2 < 3; decide) hv'.one.2 hv'.one.1
    have hst : aStore Try.prog 34 (.pointer (some ⟨nm2 (100 + 4 * t.toNat), 2, none⟩)) v' h3 = some (h3.set (nm2 (100 + 4 * t.toNat)) (.row [.map (some (nm2 (101 + 4 * t.toNat))), .map (some (nm2 (102 + 4 * t.toNat))), v'] 64 true)) := hst
    have own4 := own3.set w0 hso3 (o' := .row [.map (some (nm2 (101 + 4 * t.toNat))), .map (some (nm2 (102 + 4 * t.toNat))), v'] 64 true)
    have rs4 := rs3.trans (Rest.set w3 (.row [.map (some (nm2 (101 + 4 * t.toNat))), .map (some (nm2 (102 + 4 * t.toNat))), v'] 64 true) hso3)
    rw [hn3] at own4 rs4
    have r4 : QRl b _ (putU t x l { slotS t s with held := s.held + 1 }) _ _ := r2.slotTurn (l' := { l with updates := l.updates ++ [x] }) hoS.kpos hl6' own4 (fun i hi => ⟨upd_ne _ _ (by omega), by rw [upd_ne _ _ (by omega), upd_ne _ _ (by omega)]⟩) hn3 (by
      refine ⟨⟨v', ?_, ?_⟩, ?_, ?_⟩
      · rw [upd_same, upd_ne _ _ (by omega), upd_ne _ _ (by omega)]
      · rw [upd_ne _ _ (by omega), upd_same, upd_same]; exact hv'
      · rw [upd_ne _ _ (by omega), upd_ne _ _ (by omega)]; exact hd1
      · rw [upd_ne _ _ (by omega), upd_ne _ _ (by omega)]; exact hd2)
    simp (disch := first | omega | decide) only [push_cast, ↓reduceIte, Nat.reduceLT, Nat.reduceEqDiff, reduceCtorEq, Nat.reduceAdd, A.n, A.df, A.t0]
    refine AW.at (rfl : _ = Code.region 15 #[_, _, _, _, _, _, _, _, _, _, _] true) ?_
    refine AW.drawP (.take 0 [10, 9, 8] (.take 1 [10, 9, 8, 7, 4, 3, 2] (.take 2 [10, 9, 8, 7, 4, 3] (.take 3 [10, 9, 8, 7, 4] (.take 4 [10, 9, 8, 7] (.take 5 [10, 9, 8, 7, 6] (.only 6 (.only 7 (.take 8 [10, 9] (.take 9 [10] (.only 10 .done))))))))))) [(0, 0), (0, 1), (0, 2), (0, 3), (0, 4), (0, 5), (2, 6), (2, 7), (0, 8), (0, 9), (2, 10)] mixed (by kernel_rfl) (by kernel_rfl) ?_
    simp (disch := first | omega | decide) only [push_cast, ↓reduceIte, Nat.reduceLT, Nat.reduceEqDiff, reduceCtorEq, Nat.reduceAdd, A.n, A.df, A.t0, A.t5, vA, faL foR0, faL foR1, faL foR2, sl.l2, hev2, hbl, hap, hst]
    refine hQ _ _ _ _ (by simp (disch := first | omega | decide) only [push_cast, ↓reduceIte, Nat.reduceLT, Nat.reduceEqDiff, reduceCtorEq, Nat.reduceAdd, A.n]) (by simp (disch := first | omega | decide) only [push_cast, ↓reduceIte, Nat.reduceLT, Nat.reduceEqDiff, reduceCtorEq, Nat.reduceAdd, A.df]) ?_ rs4
    rw [e1]
    exact ⟨r4, hok⟩


theorem atN {b h : AH} {s : QS} {nm : Nat → Nat} {ob : Nat → Option AObj} (w0 : WFH b) (r : QR b h s nm ob) (t : Int) (x : Ev) (hll : s.later.length + 1 ≤ 100000) :
    ACall Try.prog 8 [vA (nm 0), .int .i64 t, .agg (evC x).toArray] h (fun v h' => v = .int .i64 (atE s t x) ∧ ∃ nm' ob', QR b h' (atS s t x) nm' ob' ∧ Rest h h' nm nm' ob ob') := by
  refine ACall.of_wp (c := (.seq (.region 0 (opsOf Try.f8 0) false) (.seq (.block 0 (bodyBlk Try.f8 0)) (.seq (.region 9 (opsOf Try.f8 9) false) (.seq (.seq (.region 10 (opsOf Try.f8 10) false) (.block 1 (bodyBlk Try.f8 1))) (.seq (.region 26 (opsOf Try.f8 26) false) .ret)))))) 161 [.tmp 6] Try.func8 (by kernel_rfl) rfl rfl (by kernel_rfl) fun a hn hd ha => ?_
  have wf := r.own.gr.wf
  rw [wpA_seq, wpA_region]
  refine opsM.at (rfl : #[_, _] = _) (rfl : [_, _] = _) ?_
  have g1 := (Gr.refl wf).new (.row (evC x) 33 true)
  have hbox := boxA 33 h (evC x) rfl
  have r1 := r.gr g1
  have u5 : Un nm ob h.next := r.un (Nat.le_refl _)
  have g5 : (h.new (.row (evC x) 33 true)).get h.next = some (.row (evC x) 33 true) := by rw [AH.new_get, if_pos rfl]
  have rs1 := Rest.gr wf g1 nm ob
  simp (disch := first | omega | decide) only [push_cast, ↓reduceIte, Nat.reduceLT, Nat.reduceEqDiff, reduceCtorEq, Nat.reduceAdd, hn, hd, ha, hbox]
  generalize h.new (.row (evC x) 33 true) = h1 at g1 r1 g5 rs1 ⊢
  have A1 : AtA ((a.put (some 5) (.pointer (some ⟨h.next, 0, none⟩))).put (some 6) (.int .i64 0)) nm t h.next := ⟨by simp (disch := first | omega | decide) only [push_cast, ↓reduceIte, Nat.reduceLT, Nat.reduceEqDiff, reduceCtorEq, Nat.reduceAdd, hn], by simp (disch := first | omega | decide) only [push_cast, ↓reduceIte, Nat.reduceLT, Nat.reduceEqDiff, reduceCtorEq, Nat.reduceAdd, hd], by simp (disch := first | omega | decide) only [push_cast, ↓reduceIte, Nat.reduceLT, Nat.reduceEqDiff, reduceCtorEq, Nat.reduceAdd, ha], by simp (disch := first | omega | decide) only [push_cast, ↓reduceIte, Nat.reduceLT, Nat.reduceEqDiff, reduceCtorEq, Nat.reduceAdd, ha], by simp (disch := first | omega | decide) only [push_cast, ↓reduceIte, Nat.reduceLT, Nat.reduceEqDiff, reduceCtorEq, Nat.reduceAdd, vA]⟩
  have a6 : ((a.put (some 5) (.pointer (some ⟨h.next, 0, none⟩))).put (some 6) (.int .i64 0)).tm 6 = .int .i64 0 := by simp (disch := first | omega | decide) only [push_cast, ↓reduceIte, Nat.reduceLT, Nat.reduceEqDiff, reduceCtorEq, Nat.reduceAdd]
  generalize (a.put (some 5) (.pointer (some ⟨h.next, 0, none⟩))).put (some 6) (.int .i64 0) = a1 at A1 a6 ⊢
  refine atB0 r1 A1 ⟨_, g5, rfl⟩ (fun h0 a2 A2 => ?_) (fun h0 a2 n2 d2 t6 => ?_)
  · have hkk : kOK x.kind = true := by
      cases hk : kOK x.kind with
      | true => rfl
      | false => unfold atE at h0; rw [if_pos hk] at h0; cases h0
    have hbb : atBad s t x = false := by
      cases hb : atBad s t x with
      | false => rfl
      | true => unfold atE at h0; rw [if_neg (by rw [hkk]; simp), if_pos hb] at h0; cases h0
    have hff : atFull s x = false := by
      cases hf : atFull s x with
      | false => rfl
      | true => unfold atE at h0; rw [if_neg (by rw [hkk]; simp), if_neg (by rw [hbb]; simp), if_pos hf] at h0; cases h0
    have hb' : ¬ (¬ (0 ≤ x.index ∧ x.index < 64) ∨ t < s.now ∨ 1000000000000 < t) := of_decide_eq_false hbb
    have hf' : ¬ (x.kind = 4 ∧ 20000 ≤ s.held) := of_decide_eq_false hff
    have hk' : x.kind = 1 ∨ x.kind = 3 ∨ x.kind = 4 := of_decide_eq_true hkk
    have hx : 0 ≤ x.index ∧ x.index < 64 := by omega
    have es : atS s t x = at1 s t x := by unfold atS; rw [if_pos h0]
    rw [h0, es]
    rw [blockQ_normal, thenQ_normal, wpA_seq, wpA_region]
    refine opsM.at (rfl : #[_, _, _, _, _, _, _] = _) (rfl : [_, _, _, _, _, _, _] = _) ?_
    obtain ⟨lv, rv, wv, ql, -⟩ := r1.ql
    simp (disch := first | omega | decide) only [push_cast, ↓reduceIte, Nat.reduceLT, Nat.reduceEqDiff, reduceCtorEq, Nat.reduceAdd, A2.n, A2.df, A2.t0, A2.t1, vA, faL foQ0, faL foQ1, faL foQ2, faL foQ3, faL foQ4, faL foQ5, faL foQ6, faL foQ7, faL foQ8, faL foQ9, faL foQ10, faL foQ11, faL foQ12, ql.l0, ql.l1, ql.l2, ql.l3, ql.l4, ql.l5, ql.l6, ql.l7, ql.l9, ql.l10, ql.l11, ql.l12]
    refine opsM.at (rfl : #[_, _] = _) (rfl : [_, _] = _) ?_
    have hk0 : aLoad Try.prog 5 (.pointer (some ⟨h.next, 0, none⟩)) h1 = some (.int .u8 x.kind) := CsAt.ld ⟨_, g5, rfl⟩ flK 0 (by show 0 < 3; decide)
    simp (disch := first | omega | decide) only [push_cast, ↓reduceIte, Nat.reduceLT, Nat.reduceEqDiff, reduceCtorEq, Nat.reduceAdd, A2.n, A2.df, A2.t0, A2.t1, A2.t5, vA, faL foV0, faL foV1, faL foV2, hk0]
    have hfin : ∀ (Q : Exit → AAct → AH → Prop) a' h' nm' ob', a'.n = 161 → a'.df = [] → QR b h' (at1 s t x) nm' ob' → Rest h1 h' nm nm' ob ob' → 
        thenQ (wpA Try.prog none (.seq (.region 26 (opsOf Try.f8 26) false) .ret) (bodyR Try.prog [.tmp 6] fun v h' => v = .int .i64 0 ∧ ∃ nm' ob', QR b h' (at1 s t x) nm' ob' ∧ Rest h h' nm nm' ob ob')) Q .normal a' h' := by
      intro Q a' h' nm' ob' n' d' r' rs'
      rw [thenQ_normal, wpA_seq, wpA_region]
      refine opsM.at (rfl : #[_] = _) (rfl : [_] = _) ?_
      simp (disch := first | omega | decide) only [push_cast, ↓reduceIte, Nat.reduceLT, Nat.reduceEqDiff, reduceCtorEq, Nat.reduceAdd, n', d']
      exact ⟨nm', ob', r', rs1.trans rs'⟩
    rw [show bodyBlk Try.f8 1 = (.seq (.region 16 (opsOf Try.f8 16) false) (.cond (.tmp 93) (.seq (.region 17 (opsOf Try.f8 17) false) (.seq (.region 18 (opsOf Try.f8 18) false) (.cond (.tmp 99) (.region 19 (opsOf Try.f8 19) true) (.region 20 (opsOf Try.f8 20) true)))) (.seq (.region 21 (opsOf Try.f8 21) false) (.cond (.tmp 129) (.seq (.region 22 (opsOf Try.f8 22) false) (.seq (.region 23 (opsOf Try.f8 23) false) (.cond (.tmp 135) (.region 24 (opsOf Try.f8 24) true) (.region 25 (opsOf Try.f8 25) true)))) (.seq (.region 11 (opsOf Try.f8 11) false) (.seq (.region 12 (opsOf Try.f8 12) false) (.cond (.tmp 69) (.region 13 (opsOf Try.f8 13) true) (.seq (.region 14 (opsOf Try.f8 14) false) (.region 15 (opsOf Try.f8 15) true))))))))) by kernel_rfl]
    rw [wpA_seq, wpA_region]
    refine opsM.at (rfl : #[_, _] = _) (rfl : [_, _] = _) ?_
    rcases hk' with hk | hk | hk
    · have d1 : decide (x.kind = 1) = true := by simp [hk]
      simp (disch := first | omega | decide) only [push_cast, ↓reduceIte, Nat.reduceLT, Nat.reduceEqDiff, reduceCtorEq, Nat.reduceAdd, A2.n, A2.df, d1]
      exact atDrive (t := t) w0 r1 ⟨by simp (disch := first | omega | decide) only [push_cast, ↓reduceIte, Nat.reduceLT, Nat.reduceEqDiff, reduceCtorEq, Nat.reduceAdd, A2.n], by simp (disch := first | omega | decide) only [push_cast, ↓reduceIte, Nat.reduceLT, Nat.reduceEqDiff, reduceCtorEq, Nat.reduceAdd, A2.df], by simp (disch := first | omega | decide) only [push_cast, ↓reduceIte, Nat.reduceLT, Nat.reduceEqDiff, reduceCtorEq, Nat.reduceAdd, A2.t0], by simp (disch := first | omega | decide) only [push_cast, ↓reduceIte, Nat.reduceLT, Nat.reduceEqDiff, reduceCtorEq, Nat.reduceAdd, A2.t1], by simp (disch := first | omega | decide) only [push_cast, ↓reduceIte, Nat.reduceLT, Nat.reduceEqDiff, reduceCtorEq, Nat.reduceAdd, A2.t5]⟩ (by simp (disch := first | omega | decide) only [push_cast, ↓reduceIte, Nat.reduceLT, Nat.reduceEqDiff, reduceCtorEq, Nat.reduceAdd]) g5 u5 hk hx (by omega) (by omega) hll (fun a' h' nm' ob' n' d' r' rs' => by rw [blockQ_normal]; exact hfin _ a' h' nm' ob' n' d' r' rs')
    · have d1 : decide (x.kind = 1) = false := by simp [hk]
      have d3 : decide (x.kind = 3) = true := by simp [hk]
      simp (disch := first | omega | decide) only [push_cast, ↓reduceIte, Nat.reduceLT, Nat.reduceEqDiff, reduceCtorEq, Nat.reduceAdd, A2.n, A2.df, d1]
      refine opsM.at (rfl : #[_, _] = _) (rfl : [_, _] = _) ?_
      simp (disch := first | omega | decide) only [push_cast, ↓reduceIte, Nat.reduceLT, Nat.reduceEqDiff, reduceCtorEq, Nat.reduceAdd, A2.n, A2.df, d3]
      exact atThread (t := t) w0 r1 ⟨by simp (disch := first | omega | decide) only [push_cast, ↓reduceIte, Nat.reduceLT, Nat.reduceEqDiff, reduceCtorEq, Nat.reduceAdd, A2.n], by simp (disch := first | omega | decide) only [push_cast, ↓reduceIte, Nat.reduceLT, Nat.reduceEqDiff, reduceCtorEq, Nat.reduceAdd, A2.df], by simp (disch := first | omega | decide) only [push_cast, ↓reduceIte, Nat.reduceLT, Nat.reduceEqDiff, reduceCtorEq, Nat.reduceAdd, A2.t0], by simp (disch := first | omega | decide) only [push_cast, ↓reduceIte, Nat.reduceLT, Nat.reduceEqDiff, reduceCtorEq, Nat.reduceAdd, A2.t1], by simp (disch := first | omega | decide) only [push_cast, ↓reduceIte, Nat.reduceLT, Nat.reduceEqDiff, reduceCtorEq, Nat.reduceAdd, A2.t5]⟩ (by simp (disch := first | omega | decide) only [push_cast, ↓reduceIte, Nat.reduceLT, Nat.reduceEqDiff, reduceCtorEq, Nat.reduceAdd]) g5 u5 hk hx (by omega) (by omega) hll (fun a' h' nm' ob' n' d' r' rs' => by rw [blockQ_normal]; exact hfin _ a' h' nm' ob' n' d' r' rs')
    · have d1 : decide (x.kind = 1) = false := by simp [hk]
      have d3 : decide (x.kind = 3) = false := by simp [hk]
      simp (disch := first | omega | decide) only [push_cast, ↓reduceIte, Nat.reduceLT, Nat.reduceEqDiff, reduceCtorEq, Nat.reduceAdd, A2.n, A2.df, d1]
      refine opsM.at (rfl : #[_, _] = _) (rfl : [_, _] = _) ?_
      simp (disch := first | omega | decide) only [push_cast, ↓reduceIte, Nat.reduceLT, Nat.reduceEqDiff, reduceCtorEq, Nat.reduceAdd, A2.n, A2.df, d3]
      exact atUpd (t := t) w0 r1 ⟨by simp (disch := first | omega | decide) only [push_cast, ↓reduceIte, Nat.reduceLT, Nat.reduceEqDiff, reduceCtorEq, Nat.reduceAdd, A2.n], by simp (disch := first | omega | decide) only [push_cast, ↓reduceIte, Nat.reduceLT, Nat.reduceEqDiff, reduceCtorEq, Nat.reduceAdd, A2.df], by simp (disch := first | omega | decide) only [push_cast, ↓reduceIte, Nat.reduceLT, Nat.reduceEqDiff, reduceCtorEq, Nat.reduceAdd, A2.t0], by simp (disch := first | omega | decide) only [push_cast, ↓reduceIte, Nat.reduceLT, Nat.reduceEqDiff, reduceCtorEq, Nat.reduceAdd, A2.t1], by simp (disch := first | omega | decide) only [push_cast, ↓reduceIte, Nat.reduceLT, Nat.reduceEqDiff, reduceCtorEq, Nat.reduceAdd, A2.t5]⟩ (by simp (disch := first | omega | decide) only [push_cast, ↓reduceIte, Nat.reduceLT, Nat.reduceEqDiff, reduceCtorEq, Nat.reduceAdd]) g5 u5 ⟨hx.1, hx.2, hk⟩ (by omega) (by omega) (by omega) hll (fun a' h' nm' ob' n' d' r' rs' => by rw [blockQ_normal]; exact hfin _ a' h' nm' ob' n' d' r' rs')
  · have es : atS s t x = s := by unfold atS; rw [if_neg h0]
    rw [es, blockQ_ret, thenQ_ret]
    simp (disch := first | omega | decide) only [push_cast, ↓reduceIte, Nat.reduceLT, Nat.reduceEqDiff, reduceCtorEq, Nat.reduceAdd, n2, d2, t6]
    exact ⟨nm, ob, r1, rs1⟩

theorem buildV3' (y z : Int) : aBuild Try.prog 33 [(0, .int .u8 4), (1, .int .i64 y), (2, .int .i64 z)] = some (.agg (evC ⟨4, y, z⟩).toArray) := buildV3 4 y z

theorem updateN {b h : AH} {s : QS} {nm : Nat → Nat} {ob : Nat → Option AObj} (w0 : WFH b) (r : QR b h s nm ob) (i tag : Int) (hll : s.later.length + 1 ≤ 100000) :
    ACall Try.prog 11 [vA (nm 0), .int .i64 i, .int .i64 tag] h (fun v h' => v = .int .i64 (atE s s.now ⟨4, i, tag⟩) ∧ ∃ nm' ob', QR b h' (atS s s.now ⟨4, i, tag⟩) nm' ob' ∧ Rest h h' nm nm' ob ob') := by
  refine ACall.of_wp 18 [.tmp 6] Try.func11 rfl (by kernel_rfl) rfl rfl fun a hn hd ha => ?_
  simp (disch := first | omega | decide) only [push_cast, ↓reduceIte, Nat.reduceLT, Nat.reduceEqDiff, reduceCtorEq, Nat.reduceAdd, hn, hd, ha]
  refine ACall.mono ?_ (noneN r)
  rintro _ _ ⟨rfl, rfl⟩
  obtain ⟨lv, rv, wv, ql, -⟩ := r.ql
  have hat := atN w0 r s.now ⟨4, i, tag⟩ hll
  unfold vA at hat
  simp (disch := first | omega | decide) only [push_cast, ↓reduceIte, Nat.reduceLT, Nat.reduceEqDiff, reduceCtorEq, Nat.reduceAdd, hn, hd, ha, vA, faL foQ0, faL foQ1, faL foQ2, faL foQ3, faL foQ4, faL foQ5, faL foQ6, faL foQ7, faL foQ8, faL foQ9, faL foQ10, faL foQ11, faL foQ12, ql.l0, ql.l1, ql.l2, ql.l3, ql.l4, ql.l5, ql.l6, ql.l7, ql.l9, ql.l10, ql.l11, ql.l12, buildV3']
  refine ACall.mono ?_ hat
  rintro _ h1 ⟨rfl, nm1, ob1, r1, rs1⟩
  simp (disch := first | omega | decide) only [push_cast, ↓reduceIte, Nat.reduceLT, Nat.reduceEqDiff, reduceCtorEq, Nat.reduceAdd, hn, hd, ha]
  exact ⟨nm1, ob1, r1, rs1⟩

def pendS (s : QS) (i : Int) : Int × Int × Bool := match aget i s.drives with
  | some g => (s.now, g, true)
  | none => match aget i s.drive with
    | some t => (t, (aget i ((aget t s.later).getD lat0).drives).getD 0, true)
    | none => (0, 0, false)

theorem pendingN {b h : AH} {s : QS} {nm : Nat → Nat} {ob : Nat → Option AObj} (r : QR b h s nm ob) (i : Int) :
    ACall Try.prog 29 [vA (nm 0), .int .i64 i] h (fun v h' => v = .tuple #[.int .i64 (pendS s i).1, .int .i64 (pendS s i).2.1, .bool (pendS s i).2.2] ∧ h' = h) := by
  refine ACall.of_wp 50 [.tmp 4, .tmp 5, .tmp 6] Try.func29 rfl (by kernel_rfl) rfl rfl fun a hn hd ha => ?_
  simp (disch := first | omega | decide) only [push_cast, ↓reduceIte, Nat.reduceLT, Nat.reduceEqDiff, reduceCtorEq, Nat.reduceAdd, hn, hd, ha]
  refine ACall.mono ?_ (noneN r)
  rintro _ h ⟨rfl, rfl⟩
  obtain ⟨lv, rv, wv, ql, -⟩ := r.ql
  obtain ⟨o2, ho2, m2⟩ := r.m2
  have mp2 : MapL vI h (nm 2) s.drives := ⟨o2, r.own.get _ _ ho2, m2⟩
  have hlk2 := mp2.look mtD i true
  cases h2 : aget i s.drives with
  | some g =>
    rw [h2] at hlk2
    have hlk2 : aLookup Try.prog 54 (.map (some (nm 2))) (.int .i64 i) true h = some (.tuple #[.int .i64 g, .bool true]) := hlk2
    have e : pendS s i = (s.now, g, true) := by unfold pendS; rw [h2]
    simp (disch := first | omega | decide) only [push_cast, ↓reduceIte, Nat.reduceLT, Nat.reduceEqDiff, reduceCtorEq, Nat.reduceAdd, hn, hd, ha, vA, faL foQ0, faL foQ1, faL foQ2, faL foQ3, faL foQ4, faL foQ5, faL foQ6, faL foQ7, faL foQ8, faL foQ9, faL foQ10, faL foQ11, faL foQ12, ql.l0, ql.l1, ql.l2, ql.l3, ql.l4, ql.l5, ql.l6, ql.l7, ql.l9, ql.l10, ql.l11, ql.l12, hlk2]
    rw [e]
  | none =>
    rw [h2] at hlk2
    have hlk2 : aLookup Try.prog 54 (.map (some (nm 2))) (.int .i64 i) true h = some (.tuple #[.int .i64 0, .bool false]) := hlk2
    obtain ⟨o7, ho7, m7⟩ := r.m7
    have mp7 : MapL vI h (nm 7) s.drive := ⟨o7, r.own.get _ _ ho7, m7⟩
    have hlk7 := mp7.look mtT i true
    cases h7 : aget i s.drive with
    | none =>
      rw [h7] at hlk7
      have hlk7 : aLookup Try.prog 57 (.map (some (nm 7))) (.int .i64 i) true h = some (.tuple #[.int .i64 0, .bool false]) := hlk7
      have e : pendS s i = (0, 0, false) := by unfold pendS; rw [h2, h7]
      simp (disch := first | omega | decide) only [push_cast, ↓reduceIte, Nat.reduceLT, Nat.reduceEqDiff, reduceCtorEq, Nat.reduceAdd, hn, hd, ha, vA, faL foQ0, faL foQ1, faL foQ2, faL foQ3, faL foQ4, faL foQ5, faL foQ6, faL foQ7, faL foQ8, faL foQ9, faL foQ10, faL foQ11, faL foQ12, ql.l0, ql.l1, ql.l2, ql.l3, ql.l4, ql.l5, ql.l6, ql.l7, ql.l9, ql.l10, ql.l11, ql.l12, hlk2, hlk7]
      rw [e]
    | some t =>
      rw [h7] at hlk7
      have hlk7 : aLookup Try.prog 57 (.map (some (nm 7))) (.int .i64 i) true h = some (.tuple #[.int .i64 t, .bool true]) := hlk7
      obtain ⟨l, hl6, hld⟩ := r.ok.kr _ (aget_mem h7)
      have hl6 : aget t s.later = some l := hl6
      have e : pendS s i = (t, (aget i l.drives).getD 0, true) := by unfold pendS; rw [h2, h7]; simp only [hl6, Option.getD_some]
      obtain ⟨uv, sl, hso, huv, ⟨o1, ho1, m1⟩, -⟩ := r.toQRl.slot hl6
      have hlk := r.toQRl.look6 t
      rw [hl6] at hlk
      have hlk : aLookup Try.prog 56 (.map (some (nm 6))) (.int .i64 t) false h = some (.pointer (some ⟨nm (100 + 4 * t.toNat), 0, none⟩)) := hlk
      have mp1 : MapL vI h (nm (101 + 4 * t.toNat)) l.drives := ⟨o1, r.own.get _ _ ho1, m1⟩
      have hlk1 := mp1.look mtD i false
      have hlk1 : aLookup Try.prog 54 (.map (some (nm (101 + 4 * t.toNat)))) (.int .i64 i) false h = some (.int .i64 ((aget i l.drives).getD 0)) := by
        rw [hlk1]; cases aget i l.drives <;> rfl
      simp (disch := first | omega | decide) only [push_cast, ↓reduceIte, Nat.reduceLT, Nat.reduceEqDiff, reduceCtorEq, Nat.reduceAdd, hn, hd, ha, vA, faL foQ0, faL foQ1, faL foQ2, faL foQ3, faL foQ4, faL foQ5, faL foQ6, faL foQ7, faL foQ8, faL foQ9, faL foQ10, faL foQ11, faL foQ12, ql.l0, ql.l1, ql.l2, ql.l3, ql.l4, ql.l5, ql.l6, ql.l7, ql.l9, ql.l10, ql.l11, ql.l12, hlk2, hlk7]
      refine AW.drawP (.take 0 [14, 13, 12] (.take 1 [14, 13, 11, 9, 8, 7, 6, 4, 3, 2] (.take 2 [14, 13, 11, 9, 8, 7, 6, 4, 3] (.take 3 [14, 13, 11, 9, 8, 7, 6, 4] (.take 4 [14, 13, 11, 9, 8, 7, 6] (.take 5 [14, 13, 11, 9, 8, 7, 6] (.take 6 [14, 13, 11, 9, 8, 7] (.take 7 [14, 13, 11, 9, 8] (.take 8 [14, 13, 11, 9] (.take 9 [14, 13, 11] (.take 10 [14, 13, 11] (.take 11 [14, 13] (.take 12 [14, 13] (.take 13 [14] (.take 14 [] .done))))))))))))))) [(0, 0), (0, 1), (0, 2), (0, 3), (0, 4), (0, 5), (0, 6), (0, 7), (0, 8), (0, 9), (0, 10), (0, 11), (0, 12), (0, 13), (0, 14)] mixed (by kernel_rfl) (by kernel_rfl) ?_
      simp (disch := first | omega | decide) only [push_cast, ↓reduceIte, Nat.reduceLT, Nat.reduceEqDiff, reduceCtorEq, Nat.reduceAdd, hn, hd, ha, vA, faL foQ0, faL foQ1, faL foQ2, faL foQ3, faL foQ4, faL foQ5, faL foQ6, faL foQ7, faL foQ8, faL foQ9, faL foQ10, faL foQ11, faL foQ12, ql.l0, ql.l1, ql.l2, ql.l3, ql.l4, ql.l5, ql.l6, ql.l7, ql.l9, ql.l10, ql.l11, ql.l12, hlk, faL foR0, faL foR1, faL foR2, sl.l0, hlk1]
      rw [e]

def cancelS (s : QS) (i : Int) : Int × QS := if 0 ≤ i ∧ i < 64 then (if (pendS s i).2.2 then (0, undriveS i s) else (8, s)) else (1, s)

theorem cancelN {b h : AH} {s : QS} {nm : Nat → Nat} {ob : Nat → Option AObj} (w0 : WFH b) (r : QR b h s nm ob) (i : Int) :
    ACall Try.prog 31 [vA (nm 0), .int .i64 i] h (fun v h' => v = .int .i64 (cancelS s i).1 ∧ ∃ ob', QR b h' (cancelS s i).2 nm ob' ∧ Rest h h' nm nm ob ob') := by
  refine ACall.of_wp 27 [.tmp 4] Try.func31 rfl (by kernel_rfl) rfl rfl fun a hn hd ha => ?_
  have wf := r.own.gr.wf
  simp (disch := first | omega | decide) only [push_cast, ↓reduceIte, Nat.reduceLT, Nat.reduceEqDiff, reduceCtorEq, Nat.reduceAdd, hn, hd, ha]
  refine ACall.mono ?_ (checkN r)
  rintro _ _ ⟨rfl, rfl⟩
  by_cases e : 0 ≤ i ∧ i < 64
  · rw [if_pos e]
    simp (disch := first | omega | decide) only [push_cast, ↓reduceIte, Nat.reduceLT, Nat.reduceEqDiff, reduceCtorEq, Nat.reduceAdd, hn, hd, ha]
    refine ACall.mono ?_ (pendingN r i)
    rintro _ _ ⟨rfl, rfl⟩
    cases hp : (pendS s i).2.2 with
    | false =>
      have ec : cancelS s i = (8, s) := by unfold cancelS; rw [if_pos e, hp]; rfl
      simp (disch := first | omega | decide) only [push_cast, ↓reduceIte, Nat.reduceLT, Nat.reduceEqDiff, reduceCtorEq, Nat.reduceAdd, hn, hd, ha]
      rw [ec]
      exact ⟨rfl, ob, r, Rest.refl wf _ _⟩
    | true =>
      have ec : cancelS s i = (0, undriveS i s) := by unfold cancelS; rw [if_pos e, hp]; rfl
      simp (disch := first | omega | decide) only [push_cast, ↓reduceIte, Nat.reduceLT, Nat.reduceEqDiff, reduceCtorEq, Nat.reduceAdd, hn, hd, ha]
      refine ACall.mono ?_ (undriveN w0 r i)
      rintro _ h1 ⟨ob1, r1, rs1⟩
      simp (disch := first | omega | decide) only [push_cast, ↓reduceIte, Nat.reduceLT, Nat.reduceEqDiff, reduceCtorEq, Nat.reduceAdd, hn, hd, ha]
      rw [ec]
      exact ⟨rfl, ob1, r1, rs1⟩
  · have ec : cancelS s i = (1, s) := by unfold cancelS; rw [if_neg e]
    have hz : decide ((1 : Int) = 0) = false := rfl
    rw [if_neg e]
    simp (disch := first | omega | decide) only [push_cast, ↓reduceIte, Nat.reduceLT, Nat.reduceEqDiff, reduceCtorEq, Nat.reduceAdd, hn, hd, ha, hz]
    rw [ec]
    exact ⟨rfl, ob, r, Rest.refl wf _ _⟩


theorem sl1L : Sl1 Try.prog 26 2 := tL.sl1

def minL : Int → List Int → Int
  | m, [] => m
  | m, x :: l => minL (min m x) l
theorem minL_spec : ∀ (l : List Int) (m : Int), (minL m l = m ∨ minL m l ∈ l) ∧ minL m l ≤ m ∧ ∀ x ∈ l, minL m l ≤ x := by
  intro l
  induction l with
  | nil => intro m; exact ⟨.inl rfl, Int.le_refl _, fun x h => (nomatch h)⟩
  | cons y l ih =>
    intro m
    obtain ⟨h1, h2, h3⟩ := ih (min m y)
    refine ⟨?_, ?_, fun x hx => ?_⟩
    · rcases h1 with h1 | h1
      · show minL (min m y) l = m ∨ minL (min m y) l ∈ y :: l
        rw [h1]
        by_cases h : m ≤ y
        · exact .inl (Int.min_eq_left h)
        · exact .inr (by rw [Int.min_eq_right (by omega)]; exact List.mem_cons_self ..)
      · exact .inr (List.mem_cons_of_mem _ h1)
    · show minL (min m y) l ≤ m; omega
    · show minL (min m y) l ≤ x
      rcases List.mem_cons.1 hx with rfl | hx
      · omega
      · exact h3 x hx
theorem minL_snoc : ∀ (l : List Int) (m x : Int), minL m (l ++ [x]) = min (minL m l) x := by
  intro l
  induction l with
  | nil => intro m x; rfl
  | cons y l ih => intro m x; exact ih _ x
def minK (l : List Int) : Int := match l with
  | [] => 0
  | x :: l => minL x l
theorem minK_spec {l : List Int} (h : l ≠ []) : minK l ∈ l ∧ ∀ x ∈ l, minK l ≤ x := by
  cases l with
  | nil => exact absurd rfl h
  | cons y l =>
    obtain ⟨h1, h2, h3⟩ := minL_spec l y
    refine ⟨?_, fun x hx => ?_⟩
    · rcases h1 with h1 | h1
      · show minL y l ∈ _; rw [h1]; exact List.mem_cons_self ..
      · exact List.mem_cons_of_mem _ h1
    · rcases List.mem_cons.1 hx with rfl | hx
      · exact h2
      · exact h3 x hx
theorem minK_perm {l m : List Int} (h : l.Perm m) : minK l = minK m := by
  by_cases e : l = []
  · subst e; rw [List.nil_perm.1 h]
  · have e' : m ≠ [] := fun e2 => e (by subst e2; exact List.perm_nil.1 h)
    obtain ⟨a1, a2⟩ := minK_spec e
    obtain ⟨b1, b2⟩ := minK_spec e'
    have := a2 _ (h.mem_iff.2 b1)
    have := b2 _ (h.mem_iff.1 a1)
    omega

theorem minN {h : AH} {v : Value} {ks : List Int} (hs : SlOf h v (ks.map (.int .i64))) (hne : ks ≠ []) (hb : ks.length ≤ 4294967296) :
    ACall Try.prog 42 [v] h (fun r h' => r = .int .i64 (minK ks) ∧ h' = h) := by
  cases ks with
  | nil => exact absurd rfl hne
  | cons x l =>
  refine ACall.of_wp 25 [.tmp 2] Try.func42 rfl (by kernel_rfl) rfl rfl fun a hn hd ha => ?_
  have hlen : ∀ h', aLen Try.prog 26 v h' = some (.int .i64 (x :: l).length) := hs.lenA Try.underlying26
  have hz : decide (((x :: l).length : Int) < 1) = false := by simp; omega
  have hi0 : aIndexAddr Try.prog 26 v (.int .i64 0) = some (slAt 1 v 0) := hs.idxI sl1L .i64 0 (by omega) (by simp)
  have hl0 : aLoad Try.prog 2 (slAt 1 v 0) h = some (.int .i64 x) := hs.ldI sl1L 0 (by simp)
  simp (disch := first | omega | decide) only [push_cast, ↓reduceIte, Nat.reduceLT, Nat.reduceEqDiff, reduceCtorEq, Nat.reduceAdd, hn, hd, ha, hlen, hz, hi0, hl0]
  refine AW.loopN 3 [] (fun q a' k => k = h ∧ ∃ (i : Nat), a'.tm 4 = .int .i64 i ∧ a'.tm 3 = .int .i64 (minL x (l.take (i - 1))) ∧ 1 ≤ i ∧ i + q = (x :: l).length) l.length ?_ ?_
  · exact ⟨rfl, 1, by simp (disch := first | omega | decide) only [push_cast, ↓reduceIte, Nat.reduceLT, Nat.reduceEqDiff, reduceCtorEq, Nat.reduceAdd], by simp (disch := first | omega | decide) only [push_cast, ↓reduceIte, Nat.reduceLT, Nat.reduceEqDiff, reduceCtorEq, Nat.reduceAdd]; rfl, by omega, by simp; omega⟩
  rintro a1 q a' k hk kn kd kt ⟨rfl, i, h4, h3, hi1, hiq⟩
  simp (disch := first | omega | decide) only [push_cast, ↓reduceIte, Nat.reduceLT, Nat.reduceEqDiff, reduceCtorEq, Nat.reduceAdd, kn, kd, kt, hn, hd, ha, h3, h4, hlen]
  refine condV_of (fun hlt => ?_) (fun hge => ?_)
  · have hi : i < (x :: l).length := by have := of_decide_eq_true hlt; omega
    have hw : IntKind.i64.wrap ((i : Int) + 1) = i + 1 := wrapI (by omega) (by omega)
    have hidx : aIndexAddr Try.prog 26 v (.int .i64 i) = some (slAt 1 v i) := hs.idxI sl1L .i64 i (by omega) (by omega)
    have hld : aLoad Try.prog 2 (slAt 1 v i) k = some (.int .i64 ((x :: l).getD i 0)) := hs.ldI sl1L i hi
    simp (disch := first | omega | decide) only [push_cast, ↓reduceIte, Nat.reduceLT, Nat.reduceEqDiff, reduceCtorEq, Nat.reduceAdd, kn, kd, kt, hn, hd, ha, h3, h4, hidx, hld, aFold, aMin2R, hw]
    have hil : i - 1 < l.length := by rw [List.length_cons] at hi; omega
    refine ⟨q - 1, by omega, (by simp (disch := decide) only [Kp_put, put_none, hk]), rfl, i + 1, by simp (disch := first | omega | decide) only [push_cast, ↓reduceIte, Nat.reduceLT, Nat.reduceEqDiff, reduceCtorEq, Nat.reduceAdd], ?_, by omega, by omega⟩
    have e1 : l.take (i + 1 - 1) = l.take (i - 1) ++ [l.getD (i - 1) 0] := by
      have e0 : i + 1 - 1 = (i - 1) + 1 := by omega
      rw [e0]; exact take_getD hil 0
    have e2 : (x :: l).getD i 0 = l.getD (i - 1) 0 := by
      obtain ⟨j, rfl⟩ : ∃ j, i = j + 1 := ⟨i - 1, by omega⟩
      simp
    rw [e1, minL_snoc, e2]
    simp (disch := first | omega | decide) only [push_cast, ↓reduceIte, Nat.reduceLT, Nat.reduceEqDiff, reduceCtorEq, Nat.reduceAdd]
  · have hi : i = (x :: l).length := by have := of_decide_eq_false hge; omega
    simp (disch := first | omega | decide) only [push_cast, ↓reduceIte, Nat.reduceLT, Nat.reduceEqDiff, reduceCtorEq, Nat.reduceAdd, kn, kd, kt, hn, hd, ha, h3, h4]
    have e : i - 1 = l.length := by rw [hi, List.length_cons]; omega
    rw [e, List.take_length]; rfl

def firstS (s : QS) : Int := minK (s.later.map (·.1))

theorem firstN {b h : AH} {s : QS} {nm : Nat → Nat} {ob : Nat → Option AObj} (r : QR b h s nm ob) :
    ACall Try.prog 37 [vA (nm 0)] h (fun v h' => v = .tuple #[.int .i64 (firstS s), .bool (!decide (s.later.length = 0))] ∧ Gr h h') := by
  have wf := r.own.gr.wf
  refine ACall.of_wp 21 [.tmp 2, .tmp 3] Try.func37 rfl (by kernel_rfl) rfl rfl fun a hn hd ha => ?_
  simp (disch := first | omega | decide) only [push_cast, ↓reduceIte, Nat.reduceLT, Nat.reduceEqDiff, reduceCtorEq, Nat.reduceAdd, hn, hd, ha]
  refine ACall.mono ?_ (noneN r)
  rintro _ h ⟨rfl, rfl⟩
  obtain ⟨lv, rv, wv, ql, -⟩ := r.ql
  obtain ⟨o6, ho6, m6⟩ := r.m6
  have mp6 : MapL vA h (nm 6) (s.later.map fun p => (p.1, nm (100 + 4 * p.1.toNat))) := ⟨o6, r.own.get _ _ ho6, m6⟩
  have hlen := mp6.len mtA
  rw [List.length_map] at hlen
  by_cases e : s.later = []
  · have hz : decide ((s.later.length : Int) = 0) = true := by rw [e]; rfl
    have e1 : firstS s = 0 := by unfold firstS; rw [e]; rfl
    simp (disch := first | omega | decide) only [push_cast, ↓reduceIte, Nat.reduceLT, Nat.reduceEqDiff, reduceCtorEq, Nat.reduceAdd, hn, hd, ha, vA, faL foQ0, faL foQ1, faL foQ2, faL foQ3, faL foQ4, faL foQ5, faL foQ6, faL foQ7, faL foQ8, faL foQ9, faL foQ10, faL foQ11, faL foQ12, ql.l0, ql.l1, ql.l2, ql.l3, ql.l4, ql.l5, ql.l6, ql.l7, ql.l9, ql.l10, ql.l11, ql.l12, hlen, hz]
    rw [e1, e]
    exact ⟨rfl, Gr.refl wf⟩
  · have hl0 : 0 < s.later.length := by
      cases hE : s.later with
      | nil => exact absurd hE e
      | cons x l => simp
    have hz : decide ((s.later.length : Int) = 0) = false := by simp; omega
    have hz2 : decide (s.later.length = 0) = false := by simp; omega
    simp (disch := first | omega | decide) only [push_cast, ↓reduceIte, Nat.reduceLT, Nat.reduceEqDiff, reduceCtorEq, Nat.reduceAdd, hn, hd, ha, vA, faL foQ0, faL foQ1, faL foQ2, faL foQ3, faL foQ4, faL foQ5, faL foQ6, faL foQ7, faL foQ8, faL foQ9, faL foQ10, faL foQ11, faL foQ12, ql.l0, ql.l1, ql.l2, ql.l3, ql.l4, ql.l5, ql.l6, ql.l7, ql.l9, ql.l10, ql.l11, ql.l12, hlen, hz]
    refine ACall.mono ?_ keyFA
    rintro _ _ ⟨rfl, rfl⟩
    have g1 := (Gr.refl wf).new (.row [.map (some (nm 6))] 56 true)
    have hP := CsAt.new h [.map (some (nm 6))] 56 true
    have mp1 := mp6.sub g1.sub
    simp (disch := first | omega | decide) only [push_cast, ↓reduceIte, Nat.reduceLT, Nat.reduceEqDiff, reduceCtorEq, Nat.reduceAdd, hn, hd, ha]
    refine ACall.mono ?_ (collectL (walksA hP mp1) (let ⟨o, x, _⟩ := mp1; ⟨o, x⟩) (by rw [List.length_map, List.length_map]; have := r.ok.ll; omega))
    rintro v h2 ⟨g2, ks, ob', A, hp, hV, hob⟩
    have hkl : ks.length = s.later.length := by rw [hp.length_eq, List.length_map, List.length_map]
    have hks : ks ≠ [] := fun e => by rw [e] at hkl; simp at hkl; omega
    have hsl : SlOf h2 v (ks.map (.int .i64)) := by
      have hV' : VecM 1 2 v ob' A (ks.map (Value.int .i64)).length (ks.map (.int .i64)) := by rw [List.length_map]; exact hV
      exact VecM.sl hV' (fun o ho => (hob o ho).1)
    simp (disch := first | omega | decide) only [push_cast, ↓reduceIte, Nat.reduceLT, Nat.reduceEqDiff, reduceCtorEq, Nat.reduceAdd, hn, hd, ha]
    refine ACall.mono ?_ (minN hsl hks (by have := r.ok.ll; omega))
    rintro _ _ ⟨rfl, rfl⟩
    have e1 : minK ks = firstS s := by
      unfold firstS
      rw [minK_perm hp, List.map_map]; rfl
    simp (disch := first | omega | decide) only [push_cast, ↓reduceIte, Nat.reduceLT, Nat.reduceEqDiff, reduceCtorEq, Nat.reduceAdd, hn, hd, ha, e1]
    rw [hz2]
    exact ⟨rfl, g1.trans g2⟩


theorem sumL_perm {α : Type} (f : α → Nat) {l m : List α} (h : l.Perm m) : sumL f l = sumL f m := by
  induction h with
  | nil => rfl
  | cons x _ ih => simp only [sumL, ih]
  | swap x y l => simp only [sumL]; omega
  | trans _ _ i1 i2 => exact i1.trans i2
theorem sumL_map {α β : Type} (f : β → Nat) (g : α → β) : ∀ l : List α, sumL f (l.map g) = sumL (fun x => f (g x)) l := by
  intro l
  induction l with
  | nil => rfl
  | cons x l ih => simp only [List.map_cons, sumL, ih]
theorem sumL_le {α : Type} (f : α → Nat) (n : Nat) : ∀ l : List α, (∀ x ∈ l, f x ≤ n) → sumL f l ≤ l.length * n := by
  intro l
  induction l with
  | nil => intro _; exact Nat.zero_le _
  | cons x l ih =>
    intro h
    have h1 := h x (List.mem_cons_self ..)
    have h2 := ih (fun y hy => h y (List.mem_cons_of_mem _ hy))
    simp only [sumL, List.length_cons, Nat.add_mul, Nat.one_mul]; omega

def leftS (s : QS) : Nat := sumL (fun p : Int × Lat => lsize p.2) s.later

theorem leftN {b h : AH} {s : QS} {nm : Nat → Nat} {ob : Nat → Option AObj} (r : QR b h s nm ob) :
    ACall Try.prog 28 [vA (nm 0)] h (fun v h' => v = .int .i64 (leftS s) ∧ Gr h h') := by
  have wf := r.own.gr.wf
  refine ACall.of_wp 36 [.tmp 2] Try.func28 rfl (by kernel_rfl) rfl rfl fun a hn hd ha => ?_
  simp (disch := first | omega | decide) only [push_cast, ↓reduceIte, Nat.reduceLT, Nat.reduceEqDiff, reduceCtorEq, Nat.reduceAdd, hn, hd, ha]
  refine ACall.mono ?_ (noneN r)
  rintro _ h ⟨rfl, rfl⟩
  obtain ⟨lv, rv, wv, ql, -⟩ := r.ql
  obtain ⟨o6, ho6, m6⟩ := r.m6
  have mp6 : MapL vA h (nm 6) (s.later.map fun p => (p.1, nm (100 + 4 * p.1.toNat))) := ⟨o6, r.own.get _ _ ho6, m6⟩
  obtain ⟨oi, hr, it⟩ := mp6.range wf mtA
  simp (disch := first | omega | decide) only [push_cast, ↓reduceIte, Nat.reduceLT, Nat.reduceEqDiff, reduceCtorEq, Nat.reduceAdd, hn, hd, ha, vA, faL foQ0, faL foQ1, faL foQ2, faL foQ3, faL foQ4, faL foQ5, faL foQ6, faL foQ7, faL foQ8, faL foQ9, faL foQ10, faL foQ11, faL foQ12, ql.l0, ql.l1, ql.l2, ql.l3, ql.l4, ql.l5, ql.l6, ql.l7, ql.l9, ql.l10, ql.l11, ql.l12, hr]
  have g1 := (Gr.refl wf).new oi
  have hsz : ∀ p ∈ s.later, lsize p.2 ≤ 20128 := fun p hp => by
    obtain ⟨a1, a2, a3⟩ := r.slot64 (mem_aget r.nd6 hp)
    unfold lsize; omega
  have hll := r.ok.ll
  refine AW.loopN 2 [] (fun q a' h' => ∃ ix, IterAt vA h' h.next (nm 6) (s.later.map fun p => (p.1, nm (100 + 4 * p.1.toNat))) ix ∧ a'.tm 2 = .int .i64 (sumL (fun i => lsize (s.later.getD i (0, lat0)).2) ix) ∧ a'.tm 11 = .pointer (some ⟨h.next, 0, none⟩) ∧ Gr h h' ∧ ix.length + q = s.later.length) s.later.length ?_ ?_
  · exact ⟨[], it, by simp (disch := first | omega | decide) only [push_cast, ↓reduceIte, Nat.reduceLT, Nat.reduceEqDiff, reduceCtorEq, Nat.reduceAdd]; rfl, by simp (disch := first | omega | decide) only [push_cast, ↓reduceIte, Nat.reduceLT, Nat.reduceEqDiff, reduceCtorEq, Nat.reduceAdd], g1, by simp⟩
  rintro a1 q a' k hk kn kd kt ⟨ix, it, h2, h11, gk, hq⟩
  have hix : ∀ i ∈ ix, i < s.later.length := fun i hi => by
    obtain ⟨es, clk, _, _, e, hnd, hlt⟩ := it
    have := hlt i hi; rwa [List.length_map] at this
  have hsum : sumL (fun i => lsize (s.later.getD i (0, lat0)).2) ix ≤ ix.length * 20128 := sumL_le _ _ _ (fun i hi => by
    have hil := hix i hi
    rw [List.getD_eq_getElem?_getD, List.getElem?_eq_getElem hil]; exact hsz _ (List.getElem_mem hil))
  simp (disch := first | omega | decide) only [push_cast, ↓reduceIte, Nat.reduceLT, Nat.reduceEqDiff, reduceCtorEq, Nat.reduceAdd, kn, kd, kt, hn, hd, ha, h11]
  refine it.next (fun hall => ?_) (fun i p o hp hni it' => ?_)
  · simp (disch := first | omega | decide) only [push_cast, ↓reduceIte, Nat.reduceLT, Nat.reduceEqDiff, reduceCtorEq, Nat.reduceAdd, kn, kd, kt, hn, hd, ha, h2]
    obtain ⟨es, clk, _, _, e, hnd, hlt⟩ := it
    rw [List.length_map] at hlt hall
    have hpm := perm_all hnd hlt hall
    have e1 : sumL (fun i => lsize (s.later.getD i (0, lat0)).2) ix = leftS s := by
      rw [sumL_perm _ hpm]
      unfold leftS
      conv => rhs; rw [← range_map s.later (0, lat0)]
      rw [sumL_map]
    rw [e1]
    exact ⟨rfl, gk⟩
  · have hI : ∃ oi, k.get h.next = some oi := by obtain ⟨es, clk, x, _⟩ := it; exact ⟨_, x⟩
    obtain ⟨oi, hI⟩ := hI
    have gs := gk.set wf (Nat.le_refl _) (AH.get_lt gk.wf hI) o
    have hpl : (i : Nat) < s.later.length := by
      have := (List.getElem?_eq_some_iff.1 hp).1
      rwa [List.length_map] at this
    have hnd' : (ix ++ [i]).length ≤ s.later.length := by
      obtain ⟨es, clk, _, _, e, hnd, hlt⟩ := it'
      rw [List.length_map] at hlt
      exact nodup_le hnd hlt
    rw [List.length_append, List.length_singleton] at hnd'
    have hen := it'.entry hp
    have rk := r.gr gs
    generalize k.set h.next o = k2 at gs it' hen rk ⊢
    -- the slot
    have hpv : p = ((s.later[i]).1, nm (100 + 4 * (s.later[i]).1.toNat)) := by
      rw [List.getElem?_map, List.getElem?_eq_getElem hpl] at hp
      simpa using hp.symm
    have hgd : s.later.getD i (0, lat0) = s.later[i] := by rw [List.getD_eq_getElem?_getD, List.getElem?_eq_getElem hpl]; rfl
    have hmem := List.getElem_mem hpl
    generalize s.later[i] = pl at hpv hgd hmem
    subst hpv
    have hget := mem_aget r.nd6 hmem
    obtain ⟨uv, sl, hso, huv, ⟨o1, ho1, m1⟩, ⟨o2, ho2, m2⟩⟩ := rk.toQRl.slot hget
    obtain ⟨b1, b2, b3⟩ := rk.slot64 hget
    have mp1 : MapL vI k2 (nm (101 + 4 * pl.1.toNat)) pl.2.drives := ⟨o1, rk.own.get _ _ ho1, m1⟩
    have mp2 : MapL vB k2 (nm (102 + 4 * pl.1.toNat)) pl.2.threads := ⟨o2, rk.own.get _ _ ho2, m2⟩
    have hl1 := mp1.len mtD
    have hl2 := mp2.len mtB
    have hrow : RowOf evL k2 uv pl.2.updates := huv.row (fun o ho => rk.own.get _ _ ho) (by omega)
    have hl3 : ∀ h', aLen Try.prog 34 uv h' = some (.int .i64 pl.2.updates.length) := hrow.len Try.underlying34
    have w1 : IntKind.i64.wrap ((pl.2.drives.length : Int) + pl.2.threads.length) = (pl.2.drives.length : Int) + pl.2.threads.length := wrapI (by omega) (by omega)
    have w2 : IntKind.i64.wrap ((pl.2.drives.length : Int) + pl.2.threads.length + pl.2.updates.length) = (pl.2.drives.length : Int) + pl.2.threads.length + pl.2.updates.length := wrapI (by omega) (by omega)
    have hb : sumL (fun i => lsize (s.later.getD i (0, lat0)).2) ix ≤ 2012800000 := by
      have : ix.length * 20128 ≤ 100000 * 20128 := Nat.mul_le_mul_right _ (by omega)
      omega
    have w3 : IntKind.i64.wrap ((sumL (fun i => lsize (s.later.getD i (0, lat0)).2) ix : Nat) + ((pl.2.drives.length : Int) + pl.2.threads.length + pl.2.updates.length)) = (sumL (fun i => lsize (s.later.getD i (0, lat0)).2) ix : Nat) + ((pl.2.drives.length : Int) + pl.2.threads.length + pl.2.updates.length) := wrapI (by omega) (by omega)
    have hsn : sumL (fun i => lsize (s.later.getD i (0, lat0)).2) (ix ++ [i]) = sumL (fun i => lsize (s.later.getD i (0, lat0)).2) ix + lsize pl.2 := by
      rw [sumL_append]; simp only [sumL, hgd]; omega
    generalize sumL (fun i => lsize (s.later.getD i (0, lat0)).2) ix = S at h2 hsn w3
    simp (disch := first | omega | decide) only [push_cast, ↓reduceIte, Nat.reduceLT, Nat.reduceEqDiff, reduceCtorEq, Nat.reduceAdd, kn, kd, kt, hn, hd, ha, h2, h11, hen]
    refine AW.drawP (.take 0 [19, 18] (.take 1 [19, 18, 17, 11, 10, 5, 4, 3, 2] (.take 2 [19, 18, 17, 11, 10, 5, 4, 3] (.take 3 [19, 18, 17, 11, 10, 5, 4] (.take 4 [19, 18, 17, 11, 10, 5] (.take 5 [19, 18, 17, 11, 10] (.take 6 [19, 18, 17, 11, 10, 9, 8, 7] (.take 7 [19, 18, 17, 11, 10, 9, 8] (.take 8 [19, 18, 17, 11, 10, 9] (.take 9 [19, 18, 17, 11, 10] (.take 10 [19, 18, 17, 11] (.take 11 [19, 18, 17] (.take 12 [19, 18, 17, 16, 15, 14, 13] (.take 13 [19, 18, 17, 16, 15, 14] (.take 14 [19, 18, 17, 16, 15] (.take 15 [19, 18, 17, 16] (.take 16 [19, 18, 17] (.take 17 [19, 18] (.take 18 [19] (.take 19 [] .done)))))))))))))))))))) [(0, 0), (0, 1), (0, 2), (0, 3), (0, 4), (0, 5), (0, 6), (0, 7), (0, 8), (0, 9), (0, 10), (0, 11), (0, 12), (0, 13), (0, 14), (0, 15), (0, 16), (0, 17), (0, 18), (0, 19)] mixed (by kernel_rfl) (by kernel_rfl) ?_
    simp (disch := first | omega | decide) only [push_cast, ↓reduceIte, Nat.reduceLT, Nat.reduceEqDiff, reduceCtorEq, Nat.reduceAdd, kn, kd, kt, hn, hd, ha, h2, h11, vA, faL foR0, faL foR1, faL foR2, sl.l0, sl.l1, sl.l2, hl1, hl2, hl3, w1, w2, w3]
    refine ⟨q - 1, by omega, (by simp (disch := decide) only [Kp_put, put_none, hk]), ix ++ [i], it', ?_, by simp (disch := first | omega | decide) only [push_cast, ↓reduceIte, Nat.reduceLT, Nat.reduceEqDiff, reduceCtorEq, Nat.reduceAdd, h11], gs, by rw [List.length_append, List.length_singleton]; omega⟩
    rw [hsn]
    simp (disch := first | omega | decide) only [push_cast, ↓reduceIte, Nat.reduceLT, Nat.reduceEqDiff, reduceCtorEq, Nat.reduceAdd]
    congr 1


def delAll : List Int → List (Int × Int) → List (Int × Int)
  | [], l => l
  | k :: ks, l => delAll ks (adel k l)
theorem adel_comm {α : Type} (j k : Int) : ∀ l : List (Int × α), adel j (adel k l) = adel k (adel j l) := by
  intro l
  by_cases hjk : j = k
  · rw [hjk]
  induction l with
  | nil => rfl
  | cons p l ih =>
    by_cases hk : p.1 = k
    · have hj : p.1 ≠ j := by omega
      simp only [adel, if_pos hk, if_neg hj]
    · by_cases hj : p.1 = j
      · simp only [adel, if_neg hk, if_pos hj]
      · simp only [adel, if_neg hk, if_neg hj, ih]
theorem delAll_snoc : ∀ (ks : List Int) (k : Int) (l : List (Int × Int)), delAll (ks ++ [k]) l = adel k (delAll ks l) := by
  intro ks
  induction ks with
  | nil => intro k l; rfl
  | cons j ks ih => intro k l; exact ih k _
theorem delAll_perm {ks ks' : List Int} (h : ks.Perm ks') : ∀ l, delAll ks l = delAll ks' l := by
  induction h with
  | nil => intro l; rfl
  | cons x _ ih => intro l; exact ih _
  | swap x y m => intro l; simp only [delAll]; rw [adel_comm]
  | trans _ _ i1 i2 => intro l; exact (i1 l).trans (i2 l)
theorem mem_delAll {p : Int × Int} : ∀ (ks : List Int) (l : List (Int × Int)), (l.map (·.1)).Nodup → p ∈ delAll ks l → p ∈ l ∧ p.1 ∉ ks := by
  intro ks
  induction ks with
  | nil => intro l _ h; exact ⟨h, fun h => (nomatch h)⟩
  | cons k ks ih =>
    intro l hn h
    have hn' : ((adel k l).map (·.1)).Nodup := hn.sublist ((adel_sub k l).map _)
    obtain ⟨h1, h2⟩ := ih _ hn' h
    obtain ⟨h3, h4⟩ := mem_adel2 hn h1
    exact ⟨h3, fun hm => by rcases List.mem_cons.1 hm with e | hm; exact h4 e; exact h2 hm⟩
theorem aget_some {α : Type} {k : Int} {l : List (Int × α)} : (aget k l).isSome ↔ k ∈ l.map (·.1) := by
  cases h : aget k l with
  | none => simp only [Option.isSome_none]; exact ⟨fun h => (nomatch h), fun h2 => absurd h2 (aget_none.1 h)⟩
  | some x => simp only [Option.isSome_some]; exact ⟨fun _ => List.mem_map.2 ⟨_, aget_mem h, rfl⟩, fun _ => trivial⟩

def adv1 (s : QS) (l : Lat) : QS := { s with now := firstS s, later := adel (firstS s) s.later, drives := l.drives, threads := l.threads, waiting := l.updates, drive := delAll (l.drives.map (·.1)) s.drive, wake := delAll (l.threads.map (·.1)) s.wake }
def busyS (s : QS) : Bool := decide ((listE s).length + s.quiet.length + s.waiting.length > 0)
def advS (s : QS) : Int × Int × QS := if busyS s = true then (0, 22, s) else if s.later.length = 0 then (0, 8, s) else (firstS s, 0, adv1 s ((aget (firstS s) s.later).getD lat0))

theorem firstS_mem {s : QS} (h : s.later.length ≠ 0) : (∃ l, aget (firstS s) s.later = some l) ∧ ∀ p ∈ s.later, firstS s ≤ p.1 := by
  have hne : s.later.map (·.1) ≠ [] := fun e => h (by have := congrArg List.length e; simpa using this)
  obtain ⟨h1, h2⟩ := minK_spec hne
  refine ⟨?_, fun p hp => h2 _ (List.mem_map.2 ⟨p, hp, rfl⟩)⟩
  have := aget_some.2 h1
  exact Option.isSome_iff_exists.1 this

theorem QOK.adv {s : QS} (o : QOK s) (nd : (s.later.map (·.1)).Nodup) (ndd : (s.drive.map (·.1)).Nodup) (ndw : (s.wake.map (·.1)).Nodup) (hw : s.waiting = []) {l : Lat} (hl : aget (firstS s) s.later = some l) (hmin : ∀ p ∈ s.later, firstS s ≤ p.1) : QOK (adv1 s l) := by
  have hs := sumL_adel (fun p : Int × Lat => p.2.updates.length) (k := firstS s) (x := l) hl
  simp only at hs
  have hh := o.held
  rw [hw, List.length_nil] at hh
  have hm := aget_mem hl
  have hk := o.kl _ hm
  have h0 := o.now0
  simp only at hk
  refine { o with held := ?_, now0 := ?_, now1 := hk.2, kl := fun p hp => ?_, ll := ?_, kd := o.kld _ hm, kt := o.klt _ hm, kld := fun p hp => o.kld p (mem_adel hp), klt := fun p hp => o.klt p (mem_adel hp), kr := fun p hp => ?_, kw := fun p hp => ?_, wi := o.ui _ hm, ui := fun p hp => o.ui p (mem_adel hp) }
  · show s.held = l.updates.length + (sumL List.length s.ready : Nat) + (sumL (fun p => p.2.updates.length) (adel (firstS s) s.later) : Nat); omega
  · show 0 ≤ firstS s; omega
  · obtain ⟨h1, h2⟩ := mem_adel2 nd hp
    have := hmin p h1
    exact ⟨by show firstS s < p.1; omega, (o.kl p h1).2⟩
  · have := (adel_sub (firstS s) s.later).length_le; have := o.ll; show (adel (firstS s) s.later).length ≤ _; omega
  · obtain ⟨h1, h2⟩ := mem_delAll _ _ ndd hp
    obtain ⟨m, h3, h4⟩ := o.kr p h1
    have hne : p.2 ≠ firstS s := fun e => by rw [e, hl] at h3; cases h3; exact h2 (aget_some.1 h4)
    exact ⟨m, (aget_adel hne).trans h3, h4⟩
  · obtain ⟨h1, h2⟩ := mem_delAll _ _ ndw hp
    obtain ⟨m, h3, h4⟩ := o.kw p h1
    have hne : p.2 ≠ firstS s := fun e => by rw [e, hl] at h3; cases h3; exact h2 (aget_some.1 h4)
    exact ⟨m, (aget_adel hne).trans h3, h4⟩

/-! ### The checks -/

theorem advB0 {b h : AH} {s : QS} {nm : Nat → Nat} {ob : Nat → Option AObj} {a : AAct} {Q : Exit → AAct → AH → Prop} (w0 : WFH b) (r : QR b h s nm ob) (hn : a.n = 111) (hd : a.df = []) (h0 : a.tm 0 = vA (nm 0))
    (hOK : busyS s = false → s.later.length ≠ 0 → ∀ a' h', a'.n = 111 → a'.df = [] → a'.tm 0 = vA (nm 0) → Gr h h' → Q .normal a' h')
    (hBad : busyS s = true ∨ s.later.length = 0 → ∀ a' h', a'.n = 111 → a'.df = [] → a'.tm 2 = .int .i64 (advS s).1 → a'.tm 3 = .int .i64 (advS s).2.1 → Gr h h' → Q .ret a' h') :
    wpA Try.prog none (.seq (.region 1 (opsOf Try.f27 1) false) (.cond (.tmp 7) (.seq (.region 2 (opsOf Try.f27 2) false) .ret) (.seq (.region 3 (opsOf Try.f27 3) true) (.cond (.tmp 10) (.seq (.region 4 (opsOf Try.f27 4) false) .ret) (.seq (.region 5 (opsOf Try.f27 5) false) (.cond (.tmp 26) (.seq (.region 6 (opsOf Try.f27 6) false) .ret) .skip)))))) Q a h := by
  have wf := r.own.gr.wf
  rw [wpA_seq, wpA_region]
  refine opsM.at (rfl : #[_, _, _] = _) (rfl : [_, _, _] = _) ?_
  simp (disch := first | omega | decide) only [push_cast, ↓reduceIte, Nat.reduceLT, Nat.reduceEqDiff, reduceCtorEq, Nat.reduceAdd, hn, hd, h0]
  refine ACall.mono ?_ (noneN r)
  rintro _ h ⟨rfl, rfl⟩
  simp (disch := first | omega | decide) only [push_cast, ↓reduceIte, Nat.reduceLT, Nat.reduceEqDiff, reduceCtorEq, Nat.reduceAdd, hn, hd, h0]
  refine AW.at (rfl : _ = Code.region 3 #[_, _, _, _, _, _, _, _, _, _, _, _, _, _, _, _] true) ?_
  refine AW.drawP (.take 0 [15, 14, 13, 7, 6, 1] (.take 2 [15, 14, 13, 7, 6, 5, 4, 3] (.take 3 [15, 14, 13, 7, 6, 5, 4] (.take 4 [15, 14, 13, 7, 6, 5] (.take 8 [15, 14, 13, 12, 11, 10, 9] (.take 9 [15, 14, 13, 12, 11, 10] (.take 10 [15, 14, 13, 12, 11] (.watch 5 [15, 14, 13, 7, 6] (.watch 11 [15, 14, 13, 12] (.watch 12 [15, 14, 13] (.only 1 (.take 6 [15, 14, 13, 7] (.take 7 [15, 14, 13] (.take 13 [15, 14] (.take 14 [15] (.take 15 [] .done)))))))))))))))) [(0, 0), (0, 2), (0, 3), (0, 4), (0, 8), (0, 9), (0, 10), (1, 5), (1, 11), (1, 12), (2, 1), (0, 6), (0, 7), (0, 13), (0, 14), (0, 15)] mixed (by kernel_rfl) (by kernel_rfl) ?_
  obtain ⟨lv, rv, wv, ql, hg, hl, h00, hlv, hrv, hw⟩ := r.ql
  have hwl : s.waiting.length ≤ 20000 := by have := r.ok.held; have := r.ok.hb; omega
  have hrow : RowOf evL h wv s.waiting := hw.row (fun o ho => r.own.get 9 _ ho) (by omega)
  have hlen : ∀ h', aLen Try.prog 34 wv h' = some (.int .i64 s.waiting.length) := hrow.len Try.underlying34
  simp (disch := first | omega | decide) only [push_cast, ↓reduceIte, Nat.reduceLT, Nat.reduceEqDiff, reduceCtorEq, Nat.reduceAdd, hn, hd, h0, vA, faL foQ0, faL foQ1, faL foQ2, faL foQ3, faL foQ4, faL foQ5, faL foQ6, faL foQ7, faL foQ8, faL foQ9, faL foQ10, faL foQ11, faL foQ12, ql.l0, ql.l1, ql.l2, ql.l3, ql.l4, ql.l5, ql.l6, ql.l7, ql.l9, ql.l10, ql.l11, ql.l12, hlen]
  have hA := activeN' w0 r
  unfold vA at hA
  refine ACall.mono ?_ hA
  rintro _ h1 ⟨rfl, g1⟩
  have r1 := r.gr g1
  obtain ⟨lv1, rv1, wv1, ql1, hg1, hl1, h01, -⟩ := r1.ql
  have ewv : wv1 = wv := by
    have : (AObj.row (qC nm s lv rv wv) 60 true) = (AObj.row (qC nm s lv1 rv1 wv1) 60 true) := by
      have := h00.symm.trans h01; exact Option.some.inj this
    have e2 : qC nm s lv rv wv = qC nm s lv1 rv1 wv1 := by injection this
    have e3 : (qC nm s lv rv wv).getD (72 + 0) undef = (qC nm s lv1 rv1 wv1).getD (72 + 0) undef := by rw [e2]
    rw [qC_hi hl, qC_hi hl1] at e3
    exact e3.symm
  rw [ewv] at ql1
  obtain ⟨o5, ho5, m5⟩ := r1.m5
  have mp5 : MapL vB h1 (nm 5) s.quiet := ⟨o5, r1.own.get _ _ ho5, m5⟩
  have hlq := mp5.len mtB
  have hE := listE_len r
  have hq64 := r.l64
  have w1 : IntKind.i64.wrap (((listE s).length : Int) + s.quiet.length) = ((listE s).length : Int) + s.quiet.length := wrapI (by omega) (by omega)
  have w2 : IntKind.i64.wrap (((listE s).length : Int) + s.quiet.length + s.waiting.length) = ((listE s).length : Int) + s.quiet.length + s.waiting.length := wrapI (by omega) (by omega)
  cases hb : busyS s with
  | true =>
    have hb' : (listE s).length + s.quiet.length + s.waiting.length > 0 := of_decide_eq_true hb
    have hz : decide (((listE s).length : Int) + s.quiet.length + s.waiting.length > 0) = true := decide_eq_true (by omega)
    have e1 : advS s = (0, 22, s) := by unfold advS; rw [if_pos hb]
    simp (disch := first | omega | decide) only [push_cast, ↓reduceIte, Nat.reduceLT, Nat.reduceEqDiff, reduceCtorEq, Nat.reduceAdd, hn, hd, h0, vA, faL foQ0, faL foQ1, faL foQ2, faL foQ3, faL foQ4, faL foQ5, faL foQ6, faL foQ7, faL foQ8, faL foQ9, faL foQ10, faL foQ11, faL foQ12, ql1.l0, ql1.l1, ql1.l2, ql1.l3, ql1.l4, ql1.l5, ql1.l6, ql1.l7, ql1.l9, ql1.l10, ql1.l11, ql1.l12, hlen, hlq, w1, w2, hz]
    refine opsM.at (rfl : #[_, _] = _) (rfl : [_, _] = _) ?_
    simp (disch := first | omega | decide) only [push_cast, ↓reduceIte, Nat.reduceLT, Nat.reduceEqDiff, reduceCtorEq, Nat.reduceAdd, hn, hd, h0]
    exact hBad (.inl hb) _ _ (by simp (disch := first | omega | decide) only [push_cast, ↓reduceIte, Nat.reduceLT, Nat.reduceEqDiff, reduceCtorEq, Nat.reduceAdd, hn]) (by simp (disch := first | omega | decide) only [push_cast, ↓reduceIte, Nat.reduceLT, Nat.reduceEqDiff, reduceCtorEq, Nat.reduceAdd, hd]) (by simp (disch := first | omega | decide) only [push_cast, ↓reduceIte, Nat.reduceLT, Nat.reduceEqDiff, reduceCtorEq, Nat.reduceAdd, e1]) (by simp (disch := first | omega | decide) only [push_cast, ↓reduceIte, Nat.reduceLT, Nat.reduceEqDiff, reduceCtorEq, Nat.reduceAdd, e1]) g1
  | false =>
    have hb' : ¬ (listE s).length + s.quiet.length + s.waiting.length > 0 := of_decide_eq_false hb
    have hz : decide (((listE s).length : Int) + s.quiet.length + s.waiting.length > 0) = false := decide_eq_false (by omega)
    obtain ⟨o6, ho6, m6⟩ := r1.m6
    have mp6 : MapL vA h1 (nm 6) (s.later.map fun p => (p.1, nm (100 + 4 * p.1.toNat))) := ⟨o6, r1.own.get _ _ ho6, m6⟩
    have hl6 := mp6.len mtA
    rw [List.length_map] at hl6
    simp (disch := first | omega | decide) only [push_cast, ↓reduceIte, Nat.reduceLT, Nat.reduceEqDiff, reduceCtorEq, Nat.reduceAdd, hn, hd, h0, vA, faL foQ0, faL foQ1, faL foQ2, faL foQ3, faL foQ4, faL foQ5, faL foQ6, faL foQ7, faL foQ8, faL foQ9, faL foQ10, faL foQ11, faL foQ12, ql1.l0, ql1.l1, ql1.l2, ql1.l3, ql1.l4, ql1.l5, ql1.l6, ql1.l7, ql1.l9, ql1.l10, ql1.l11, ql1.l12, hlen, hlq, w1, w2, hz]
    refine opsM.at (rfl : #[_, _, _, _, _, _, _] = _) (rfl : [_, _, _, _, _, _, _] = _) ?_
    by_cases hll : s.later.length = 0
    · have hz6 : decide ((s.later.length : Int) = 0) = true := by rw [hll]; rfl
      have e1 : advS s = (0, 8, s) := by unfold advS; rw [if_neg (by rw [hb]; simp), if_pos hll]
      simp (disch := first | omega | decide) only [push_cast, ↓reduceIte, Nat.reduceLT, Nat.reduceEqDiff, reduceCtorEq, Nat.reduceAdd, hn, hd, h0, vA, faL foQ0, faL foQ1, faL foQ2, faL foQ3, faL foQ4, faL foQ5, faL foQ6, faL foQ7, faL foQ8, faL foQ9, faL foQ10, faL foQ11, faL foQ12, ql1.l0, ql1.l1, ql1.l2, ql1.l3, ql1.l4, ql1.l5, ql1.l6, ql1.l7, ql1.l9, ql1.l10, ql1.l11, ql1.l12, hl6, hz6]
      refine opsM.at (rfl : #[_, _] = _) (rfl : [_, _] = _) ?_
      simp (disch := first | omega | decide) only [push_cast, ↓reduceIte, Nat.reduceLT, Nat.reduceEqDiff, reduceCtorEq, Nat.reduceAdd, hn, hd, h0]
      exact hBad (.inr hll) _ _ (by simp (disch := first | omega | decide) only [push_cast, ↓reduceIte, Nat.reduceLT, Nat.reduceEqDiff, reduceCtorEq, Nat.reduceAdd, hn]) (by simp (disch := first | omega | decide) only [push_cast, ↓reduceIte, Nat.reduceLT, Nat.reduceEqDiff, reduceCtorEq, Nat.reduceAdd, hd]) (by simp (disch := first | omega | decide) only [push_cast, ↓reduceIte, Nat.reduceLT, Nat.reduceEqDiff, reduceCtorEq, Nat.reduceAdd, e1]) (by simp (disch := first | omega | decide) only [push_cast, ↓reduceIte, Nat.reduceLT, Nat.reduceEqDiff, reduceCtorEq, Nat.reduceAdd, e1]) g1
    · have hz6 : decide ((s.later.length : Int) = 0) = false := decide_eq_false (by omega)
      simp (disch := first | omega | decide) only [push_cast, ↓reduceIte, Nat.reduceLT, Nat.reduceEqDiff, reduceCtorEq, Nat.reduceAdd, hn, hd, h0, vA, faL foQ0, faL foQ1, faL foQ2, faL foQ3, faL foQ4, faL foQ5, faL foQ6, faL foQ7, faL foQ8, faL foQ9, faL foQ10, faL foQ11, faL foQ12, ql1.l0, ql1.l1, ql1.l2, ql1.l3, ql1.l4, ql1.l5, ql1.l6, ql1.l7, ql1.l9, ql1.l10, ql1.l11, ql1.l12, hl6, hz6]
      exact hOK hb hll _ _ (by simp (disch := first | omega | decide) only [push_cast, ↓reduceIte, Nat.reduceLT, Nat.reduceEqDiff, reduceCtorEq, Nat.reduceAdd, hn]) (by simp (disch := first | omega | decide) only [push_cast, ↓reduceIte, Nat.reduceLT, Nat.reduceEqDiff, reduceCtorEq, Nat.reduceAdd, hd]) (by simp (disch := first | omega | decide) only [push_cast, ↓reduceIte, Nat.reduceLT, Nat.reduceEqDiff, reduceCtorEq, Nat.reduceAdd, h0, vA]) g1


theorem QRl.tch {b h h' : AH} {s : QS} {nm : Nat → Nat} {ob : Nat → Option AObj} {X : Nat → Prop} (w0 : WFH b) (r : QRl b h s nm ob) (f : Off X b nm ob) (t : Tch X h h') : QRl b h' s nm ob :=
  { r with own := ⟨fun j o hj => t.keep _ _ (f.2 j o hj) (r.own.get j o hj), r.own.dis, r.own.lo, ⟨t.wf, fun C o hC => t.keep C o (fun hX => by
      have := f.1 C hX
      have := AH.get_lt w0 hC
      omega) (r.own.gr.sub C o hC), Nat.le_trans r.own.gr.nx t.nx⟩⟩ }
theorem QRl.t1 {b h h' : AH} {s : QS} {nm : Nat → Nat} {ob : Nat → Option AObj} {A : Nat} (w0 : WFH b) (r : QRl b h s nm ob) (u : Un nm ob A) (hb : b.next ≤ A) (t : Tch (fun C => C = A) h h') : QRl b h' s nm ob :=
  r.tch w0 ⟨fun C hC => by subst hC; exact hb, fun i o hi hC => u i o hi hC⟩ t
theorem Rest.then2 {h0 h1 h2 : AH} {n0 n1 : Nat → Nat} {o0 o1 o2 : Nat → Option AObj} (x : Rest h0 h1 n0 n1 o0 o1) {X : Nat → Prop} (t : Tch X h1 h2) (hX : ∀ C, X C → h0.next ≤ C ∨ ∃ r p, o1 r = some p ∧ n1 r = C) (hown : ∀ r p, o2 r = some p → ∃ p', o1 r = some p') : Rest h0 h2 n0 n1 o0 o2 where
  w := x.w
  keep := fun C o hC hn => t.keep C o (fun hx => by
    have hlt := AH.get_lt x.w hC
    rcases hX C hx with h | ⟨r, p, h1, h2⟩
    · omega
    · rcases x.own r p h1 with ⟨r', p', h3, h4⟩ | h3
      · exact hn r' p' h3 (h4.trans h2)
      · omega) (x.keep C o hC hn)
  own := fun r p hp => by
    obtain ⟨p', hp'⟩ := hown r p hp
    exact x.own r p' hp'
  nx := Nat.le_trans x.nx t.nx
  n0 := x.n0
theorem Tch.mono {X Y : Nat → Prop} {h h' : AH} (t : Tch X h h') (hXY : ∀ C, X C → Y C) : Tch Y h h' := ⟨t.wf, t.nx, fun C o hn hC => t.keep C o (fun hx => hn (hXY C hx)) hC⟩

theorem advL1 {b h : AH} {s : QS} {nm : Nat → Nat} {ob : Nat → Option AObj} {a : AAct} {I : Nat} (w0 : WFH b) (r : QRl b h s nm ob) (it : IterAt vI h I (nm 2) s.drives []) (hbI : b.next ≤ I) (uI : Un nm ob I)
    (hn : a.n = 111) (hd : a.df = []) (h0 : a.tm 0 = vA (nm 0)) (hit : a.tm 83 = .pointer (some ⟨I, 0, none⟩)) :
    AW Try.prog none (bodyBlk Try.f27 1) (fun e a' h' => e = .exit 1 ∧ a'.n = 111 ∧ a'.df = [] ∧ a'.tm 0 = vA (nm 0) ∧ a'.tm 4 = a.tm 4 ∧ ∃ ob', QRl b h' { s with drive := delAll (s.drives.map (·.1)) s.drive } nm ob' ∧ Tch (fun C => C = I ∨ C = nm 7) h h' ∧ ∀ i, i ≠ 7 → ob' i = ob i) a h := by
  refine AW.at (rfl : bodyBlk Try.f27 1 = .loop _) ?_
  have wf := r.own.gr.wf
  obtain ⟨oD, hoD, -⟩ := r.m7
  obtain ⟨oM, hoM, -⟩ := r.m2
  obtain ⟨lv0, rv0, wv0, h00, -⟩ := r.q
  have hDI : nm 7 ≠ I := uI _ _ hoD
  have hMI : nm 2 ≠ I := uI _ _ hoM
  have hMD : nm 2 ≠ nm 7 := r.own.dis _ _ _ _ hoM hoD (by decide)
  refine AW.loopN 5 [] (fun q a' k => ∃ ix ob', IterAt vI k I (nm 2) s.drives ix ∧ QRl b k { s with drive := delAll (ix.map fun i => (s.drives.getD i default).1) s.drive } nm ob' ∧ Tch (fun C => C = I ∨ C = nm 7) h k ∧ (∀ i, i ≠ 7 → ob' i = ob i) ∧ a'.tm 83 = .pointer (some ⟨I, 0, none⟩) ∧ ix.length + q = s.drives.length) s.drives.length ?_ ?_
  · exact ⟨[], ob, it, r, Tch.refl wf, fun _ _ => rfl, hit, by simp⟩
  rintro a1 q a' k hk kn kd kt ⟨ix, ob1, it, rk, t, ho, hit', hq⟩
  simp (disch := first | omega | decide) only [push_cast, ↓reduceIte, Nat.reduceLT, Nat.reduceEqDiff, reduceCtorEq, Nat.reduceAdd, kn, kd, kt, hn, hd, h0, hit']
  refine it.next (fun hall => ?_) (fun i p o hp hni it' => ?_)
  · simp (disch := first | omega | decide) only [push_cast, ↓reduceIte, Nat.reduceLT, Nat.reduceEqDiff, reduceCtorEq, Nat.reduceAdd, kn, kd, kt, hn, hd, h0, hit']
    obtain ⟨es, clk, _, _, e, hnd, hlt⟩ := it
    have hpm := (perm_all hnd hlt hall).map (fun i => (s.drives.getD i default).1)
    have h2 : (List.range s.drives.length).map (fun i => (s.drives.getD i default).1) = s.drives.map (·.1) := by
      have := congrArg (List.map (·.1)) (range_map s.drives default)
      rw [List.map_map] at this
      exact this
    rw [h2] at hpm
    rw [delAll_perm hpm] at rk
    exact ⟨ob1, rk, t, ho⟩
  · have hI : ∃ oi, k.get I = some oi := by obtain ⟨es, clk, x, _⟩ := it; exact ⟨_, x⟩
    obtain ⟨oi, hI⟩ := hI
    have hil : i < s.drives.length := (List.getElem?_eq_some_iff.1 hp).1
    have hnd' : (ix ++ [i]).length ≤ s.drives.length := by
      obtain ⟨es, clk, _, _, e, hnd, hlt⟩ := it'
      exact nodup_le hnd hlt
    rw [List.length_append, List.length_singleton] at hnd'
    have hen := it'.entry hp
    have uI1 : Un nm ob1 I := fun j p hj e => by
      by_cases hjd : j = 7
      · subst hjd; exact hDI e
      · rw [ho j hjd] at hj; exact uI j p hj e
    have t1 := Tch.set rk.own.gr.wf (AH.get_lt rk.own.gr.wf hI) o
    have rk1 := rk.t1 w0 uI1 hbI t1
    have t2 := t.trans (t1.mono (fun C hC => .inl hC))
    generalize k.set I o = k2 at it' hen rk1 t2 ⊢
    obtain ⟨lv, rv, wv, ql, -⟩ := rk1.ql
    obtain ⟨oD1, hoD1, mD⟩ := rk1.m7
    have mp : MapL vI k2 (nm 7) (delAll (ix.map fun i => (s.drives.getD i default).1) s.drive) := ⟨oD1, rk1.own.get _ _ hoD1, mD⟩
    obtain ⟨oD2, hdel, mD2⟩ := mp.del mtT p.1
    have rk2 := rk1.set7 w0 mD2
    have wf2 := rk1.own.gr.wf
    have t3 := t2.trans ((Tch.set wf2 (AH.get_lt wf2 (rk1.own.get _ _ hoD1)) oD2).mono (fun C hC => (.inr hC : C = I ∨ C = nm 7)))
    have it2 := it'.keep (h' := k2.set (nm 7) oD2) (by rw [AH.set_get, if_neg (fun e => hDI e.symm)]) (by rw [AH.set_get, if_neg hMD])
    have hpg : s.drives.getD i default = p := by rw [List.getD_eq_getElem?_getD, hp]; rfl
    simp (disch := first | omega | decide) only [push_cast, ↓reduceIte, Nat.reduceLT, Nat.reduceEqDiff, reduceCtorEq, Nat.reduceAdd, kn, kd, kt, hn, hd, h0, hit', hen, vA, faL foQ0, faL foQ1, faL foQ2, faL foQ3, faL foQ4, faL foQ5, faL foQ6, faL foQ7, faL foQ8, faL foQ9, faL foQ10, faL foQ11, faL foQ12, ql.l0, ql.l1, ql.l2, ql.l3, ql.l4, ql.l5, ql.l6, ql.l7, ql.l9, ql.l10, ql.l11, ql.l12, hdel]
    refine ⟨q - 1, by omega, (by simp (disch := decide) only [Kp_put, put_none, hk]), ix ++ [i], upd ob1 7 (some oD2), it2, ?_, t3, fun j hj => (upd_ne _ _ hj).trans (ho j hj), by simp (disch := first | omega | decide) only [push_cast, ↓reduceIte, Nat.reduceLT, Nat.reduceEqDiff, reduceCtorEq, Nat.reduceAdd, hit'], by rw [List.length_append, List.length_singleton]; omega⟩
    rw [List.map_append]
    simp only [List.map_cons, List.map_nil, hpg]
    rw [delAll_snoc]
    exact rk2

theorem advL3 {b h : AH} {s : QS} {nm : Nat → Nat} {ob : Nat → Option AObj} {a : AAct} {I : Nat} (w0 : WFH b) (r : QRl b h s nm ob) (it : IterAt vB h I (nm 4) s.threads []) (hbI : b.next ≤ I) (uI : Un nm ob I)
    (hn : a.n = 111) (hd : a.df = []) (h0 : a.tm 0 = vA (nm 0)) (hit : a.tm 97 = .pointer (some ⟨I, 0, none⟩)) :
    AW Try.prog none (bodyBlk Try.f27 3) (fun e a' h' => e = .exit 3 ∧ a'.n = 111 ∧ a'.df = [] ∧ a'.tm 0 = vA (nm 0) ∧ a'.tm 4 = a.tm 4 ∧ ∃ ob', QRl b h' { s with wake := delAll (s.threads.map (·.1)) s.wake } nm ob' ∧ Tch (fun C => C = I ∨ C = nm 8) h h' ∧ ∀ i, i ≠ 8 → ob' i = ob i) a h := by
  refine AW.at (rfl : bodyBlk Try.f27 3 = .loop _) ?_
  have wf := r.own.gr.wf
  obtain ⟨oD, hoD, -⟩ := r.m8
  obtain ⟨oM, hoM, -⟩ := r.m4
  obtain ⟨lv0, rv0, wv0, h00, -⟩ := r.q
  have hDI : nm 8 ≠ I := uI _ _ hoD
  have hMI : nm 4 ≠ I := uI _ _ hoM
  have hMD : nm 4 ≠ nm 8 := r.own.dis _ _ _ _ hoM hoD (by decide)
  refine AW.loopN 5 [] (fun q a' k => ∃ ix ob', IterAt vB k I (nm 4) s.threads ix ∧ QRl b k { s with wake := delAll (ix.map fun i => (s.threads.getD i default).1) s.wake } nm ob' ∧ Tch (fun C => C = I ∨ C = nm 8) h k ∧ (∀ i, i ≠ 8 → ob' i = ob i) ∧ a'.tm 97 = .pointer (some ⟨I, 0, none⟩) ∧ ix.length + q = s.threads.length) s.threads.length ?_ ?_
  · exact ⟨[], ob, it, r, Tch.refl wf, fun _ _ => rfl, hit, by simp⟩
  rintro a1 q a' k hk kn kd kt ⟨ix, ob1, it, rk, t, ho, hit', hq⟩
  simp (disch := first | omega | decide) only [push_cast, ↓reduceIte, Nat.reduceLT, Nat.reduceEqDiff, reduceCtorEq, Nat.reduceAdd, kn, kd, kt, hn, hd, h0, hit']
  refine it.next (fun hall => ?_) (fun i p o hp hni it' => ?_)
  · simp (disch := first | omega | decide) only [push_cast, ↓reduceIte, Nat.reduceLT, Nat.reduceEqDiff, reduceCtorEq, Nat.reduceAdd, kn, kd, kt, hn, hd, h0, hit']
    obtain ⟨es, clk, _, _, e, hnd, hlt⟩ := it
    have hpm := (perm_all hnd hlt hall).map (fun i => (s.threads.getD i default).1)
    have h2 : (List.range s.threads.length).map (fun i => (s.threads.getD i default).1) = s.threads.map (·.1) := by
      have := congrArg (List.map (·.1)) (range_map s.threads default)
      rw [List.map_map] at this
      exact this
    rw [h2] at hpm
    rw [delAll_perm hpm] at rk
    exact ⟨ob1, rk, t, ho⟩
  · have hI : ∃ oi, k.get I = some oi := by obtain ⟨es, clk, x, _⟩ := it; exact ⟨_, x⟩
    obtain ⟨oi, hI⟩ := hI
    have hil : i < s.threads.length := (List.getElem?_eq_some_iff.1 hp).1
    have hnd' : (ix ++ [i]).length ≤ s.threads.length := by
      obtain ⟨es, clk, _, _, e, hnd, hlt⟩ := it'
      exact nodup_le hnd hlt
    rw [List.length_append, List.length_singleton] at hnd'
    have hen := it'.entry hp
    have uI1 : Un nm ob1 I := fun j p hj e => by
      by_cases hjd : j = 8
      · subst hjd; exact hDI e
      · rw [ho j hjd] at hj; exact uI j p hj e
    have t1 := Tch.set rk.own.gr.wf (AH.get_lt rk.own.gr.wf hI) o
    have rk1 := rk.t1 w0 uI1 hbI t1
    have t2 := t.trans (t1.mono (fun C hC => .inl hC))
    generalize k.set I o = k2 at it' hen rk1 t2 ⊢
    obtain ⟨lv, rv, wv, ql, -⟩ := rk1.ql
    obtain ⟨oD1, hoD1, mD⟩ := rk1.m8
    have mp : MapL vI k2 (nm 8) (delAll (ix.map fun i => (s.threads.getD i default).1) s.wake) := ⟨oD1, rk1.own.get _ _ hoD1, mD⟩
    obtain ⟨oD2, hdel, mD2⟩ := mp.del mtT p.1
    have rk2 := rk1.set8 w0 mD2
    have wf2 := rk1.own.gr.wf
    have t3 := t2.trans ((Tch.set wf2 (AH.get_lt wf2 (rk1.own.get _ _ hoD1)) oD2).mono (fun C hC => (.inr hC : C = I ∨ C = nm 8)))
    have it2 := it'.keep (h' := k2.set (nm 8) oD2) (by rw [AH.set_get, if_neg (fun e => hDI e.symm)]) (by rw [AH.set_get, if_neg hMD])
    have hpg : s.threads.getD i default = p := by rw [List.getD_eq_getElem?_getD, hp]; rfl
    simp (disch := first | omega | decide) only [push_cast, ↓reduceIte, Nat.reduceLT, Nat.reduceEqDiff, reduceCtorEq, Nat.reduceAdd, kn, kd, kt, hn, hd, h0, hit', hen, vA, faL foQ0, faL foQ1, faL foQ2, faL foQ3, faL foQ4, faL foQ5, faL foQ6, faL foQ7, faL foQ8, faL foQ9, faL foQ10, faL foQ11, faL foQ12, ql.l0, ql.l1, ql.l2, ql.l3, ql.l4, ql.l5, ql.l6, ql.l7, ql.l9, ql.l10, ql.l11, ql.l12, hdel]
    refine ⟨q - 1, by omega, (by simp (disch := decide) only [Kp_put, put_none, hk]), ix ++ [i], upd ob1 8 (some oD2), it2, ?_, t3, fun j hj => (upd_ne _ _ hj).trans (ho j hj), by simp (disch := first | omega | decide) only [push_cast, ↓reduceIte, Nat.reduceLT, Nat.reduceEqDiff, reduceCtorEq, Nat.reduceAdd, hit'], by rw [List.length_append, List.length_singleton]; omega⟩
    rw [List.map_append]
    simp only [List.map_cons, List.map_nil, hpg]
    rw [delAll_snoc]
    exact rk2


theorem wpLoop {i : Nat} {c l : Code} {Q : Exit → AAct → AH → Prop} {a : AAct} {h : AH} (e : c = .loop l) (hx : AW Try.prog none c (blockQ i Q) a h) : wpA Try.prog none (.block i c) Q a h := by subst e; exact hx

/-- The roles of a slot's blocks become the queue's. -/
def advR (T r : Nat) : Nat := sw2 2 (101 + 4 * T) (sw2 4 (102 + 4 * T) (sw2 9 (103 + 4 * T) r))
theorem advR_inj (T : Nat) : ∀ r s, advR T r = advR T s → r = s := fun r s h => sw2_inj _ _ _ _ (sw2_inj _ _ _ _ (sw2_inj _ _ _ _ h))
theorem advR_ne {T r : Nat} (h2 : r ≠ 2) (h4 : r ≠ 4) (h9 : r ≠ 9) (h : ¬ (101 + 4 * T ≤ r ∧ r ≤ 103 + 4 * T)) : advR T r = r := by
  unfold advR
  rw [sw2_ne (r := r) h9 (by omega), sw2_ne h4 (by omega), sw2_ne h2 (by omega)]
theorem advR_2 (T : Nat) : advR T 2 = 101 + 4 * T := by
  unfold advR
  have e1 : sw2 9 (103 + 4 * T) 2 = 2 := sw2_ne (by decide) (by omega)
  have e2 : sw2 4 (102 + 4 * T) 2 = 2 := sw2_ne (by decide) (by omega)
  rw [e1, e2, sw2_l]
theorem advR_4 (T : Nat) : advR T 4 = 102 + 4 * T := by
  unfold advR
  have e1 : sw2 9 (103 + 4 * T) 4 = 4 := sw2_ne (by decide) (by omega)
  have e2 : sw2 2 (101 + 4 * T) (102 + 4 * T) = 102 + 4 * T := sw2_ne (by omega) (by omega)
  rw [e1, sw2_l, e2]
theorem advR_9 (T : Nat) : advR T 9 = 103 + 4 * T := by
  unfold advR
  have e1 : sw2 4 (102 + 4 * T) (103 + 4 * T) = 103 + 4 * T := sw2_ne (by omega) (by omega)
  have e2 : sw2 2 (101 + 4 * T) (103 + 4 * T) = 103 + 4 * T := sw2_ne (by omega) (by omega)
  rw [sw2_l, e1, e2]

/-- The slot moved into the queue. -/
theorem QRl.advTurn {b h : AH} {s : QS} {nm : Nat → Nat} {ob : Nat → Option AObj} (w0 : WFH b) (t : Int) (hpos : ∀ p ∈ s.later, 0 ≤ p.1 ∧ p.1 ≠ t) (ht0 : 0 ≤ t) (r : QRl b h s nm ob) {l : Lat} {lv : Value} {rv : List Value} {wv : Value} (h0 : ob 0 = some (.row (qC nm s lv rv wv) 60 true)) (hl : rv.length = 64) (hlv : OffV 1 48 lv (ob 1) (nm 1) s.left.length (s.left.map (.int .u32)))
    (hrv : ∀ i, i < 64 → EvV (rv.getD i undef) (ob (10 + i)) (nm (10 + i)) (s.ready.getD i [])) {uv : Value} (huv : EvV uv (ob (103 + 4 * t.toNat)) (nm (103 + 4 * t.toNat)) l.updates) (hd1 : ∃ o, ob (101 + 4 * t.toNat) = some o ∧ MapO vI o l.drives) (hd2 : ∃ o, ob (102 + 4 * t.toNat) = some o ∧ MapO vB o l.threads) :
    ∃ ob' row, row = (((qC nm s lv rv wv).set 4 (.map (some (nm (101 + 4 * t.toNat))))).set 6 (.map (some (nm (102 + 4 * t.toNat))))).set 72 uv ∧ QRl b (h.set (nm 0) (.row row 60 true)) { s with drives := l.drives, threads := l.threads, waiting := l.updates } (fun r => nm (advR t.toNat r)) ob' ∧
      Rest h (h.set (nm 0) (.row row 60 true)) nm (fun r => nm (advR t.toNat r)) ob ob' ∧ ob' (100 + 4 * t.toNat) = ob (100 + 4 * t.toNat) := by
  have en : ∀ i, i ≠ 2 → i ≠ 4 → i ≠ 9 → ¬ (101 + 4 * t.toNat ≤ i ∧ i ≤ 103 + 4 * t.toNat) → nm (advR t.toNat i) = nm i := fun i a b c d => by rw [advR_ne a b c d]
  have eqc : (((qC nm s lv rv wv).set 4 (.map (some (nm (101 + 4 * t.toNat))))).set 6 (.map (some (nm (102 + 4 * t.toNat))))).set 72 uv = qC (fun r => nm (advR t.toNat r)) { s with drives := l.drives, threads := l.threads, waiting := l.updates } lv rv uv := by
    have e1 : ((qC nm s lv rv wv).set 4 (.map (some (nm (101 + 4 * t.toNat))))).set 6 (.map (some (nm (102 + 4 * t.toNat)))) = qC (fun r => nm (advR t.toNat r)) { s with drives := l.drives, threads := l.threads, waiting := l.updates } lv rv wv := by
      unfold qC
      simp only [advR_2, advR_4]
      rw [en 3 (by decide) (by decide) (by decide) (by omega), en 5 (by decide) (by decide) (by decide) (by omega), en 6 (by decide) (by decide) (by decide) (by omega), en 7 (by decide) (by decide) (by decide) (by omega), en 8 (by decide) (by decide) (by decide) (by omega)]
      rfl
    rw [e1, qC_setW hl]
  have wf := r.own.gr.wf
  have own := (r.own.set w0 h0 (o' := .row (qC (fun r => nm (advR t.toNat r)) { s with drives := l.drives, threads := l.threads, waiting := l.updates } lv rv uv) 60 true)).via (advR t.toNat) (advR_inj t.toNat)
  have eo : ∀ i, i ≠ 0 → i ≠ 2 → i ≠ 4 → i ≠ 9 → ¬ (101 + 4 * t.toNat ≤ i ∧ i ≤ 103 + 4 * t.toNat) → upd ob 0 (some (.row (qC (fun r => nm (advR t.toNat r)) { s with drives := l.drives, threads := l.threads, waiting := l.updates } lv rv uv) 60 true)) (advR t.toNat i) = ob i := fun i z a b c d => by rw [advR_ne a b c d, upd_ne _ _ z]
  refine ⟨fun r => upd ob 0 (some (.row (qC (fun r => nm (advR t.toNat r)) { s with drives := l.drives, threads := l.threads, waiting := l.updates } lv rv uv) 60 true)) (advR t.toNat r), _, rfl, ?_, ?_, ?_⟩
  · rw [eqc]
    refine ⟨own, ?_, ?_, ?_, ?_, ?_, ?_, ?_, ?_, fun p hp => ?_⟩
    · exact ⟨lv, rv, uv, by rw [advR_ne (by decide) (by decide) (by decide) (by omega), upd_same], by rw [eo 1 (by decide) (by decide) (by decide) (by decide) (by omega), en 1 (by decide) (by decide) (by decide) (by omega)]; exact hlv, hl, fun i hi => by rw [eo _ (by omega) (by omega) (by omega) (by omega) (by omega), en _ (by omega) (by omega) (by omega) (by omega)]; exact hrv i hi, by rw [advR_9, upd_ne _ _ (by omega)]; exact huv⟩
    · rw [advR_2, upd_ne _ _ (by omega)]; exact hd1
    · rw [eo 3 (by decide) (by decide) (by decide) (by decide) (by omega)]; exact r.m3
    · rw [advR_4, upd_ne _ _ (by omega)]; exact hd2
    · rw [eo 5 (by decide) (by decide) (by decide) (by decide) (by omega)]; exact r.m5
    · rw [eo 6 (by decide) (by decide) (by decide) (by decide) (by omega)]
      have e' : s.later.map (fun p => (p.1, nm (advR t.toNat (100 + 4 * p.1.toNat)))) = s.later.map (fun p => (p.1, nm (100 + 4 * p.1.toNat))) := List.map_congr_left (fun p hp => by
        have := hpos p hp
        rw [en _ (by omega) (by omega) (by omega) (by omega)])
      show ∃ o, ob 6 = some o ∧ MapO vA o (s.later.map fun p => (p.1, nm (advR t.toNat (100 + 4 * p.1.toNat))))
      rw [e']; exact r.m6
    · rw [eo 7 (by decide) (by decide) (by decide) (by decide) (by omega)]; exact r.m7
    · rw [eo 8 (by decide) (by decide) (by decide) (by decide) (by omega)]; exact r.m8
    · have hp' := hpos p hp
      have hne : p.1.toNat ≠ t.toNat := by omega
      obtain ⟨⟨uv', a, c⟩, d, th⟩ := r.lat p hp
      refine ⟨⟨uv', ?_, ?_⟩, ?_, ?_⟩
      · rw [eo _ (by omega) (by omega) (by omega) (by omega) (by omega), en _ (by omega) (by omega) (by omega) (by omega), en _ (by omega) (by omega) (by omega) (by omega)]; exact a
      · rw [eo _ (by omega) (by omega) (by omega) (by omega) (by omega), en _ (by omega) (by omega) (by omega) (by omega)]; exact c
      · rw [eo _ (by omega) (by omega) (by omega) (by omega) (by omega)]; exact d
      · rw [eo _ (by omega) (by omega) (by omega) (by omega) (by omega)]; exact th
  · rw [eqc]
    exact (Rest.set wf _ h0).trans (Rest.via (wf.set (AH.get_lt wf (r.own.get _ _ h0)) _) nm _ (advR t.toNat) (advR_ne (by decide) (by decide) (by decide) (by omega)))
  · exact eo _ (by omega) (by omega) (by omega) (by omega) (by omega)


theorem advN {b h : AH} {s : QS} {nm : Nat → Nat} {ob : Nat → Option AObj} (w0 : WFH b) (r : QR b h s nm ob) :
    ACall Try.prog 27 [vA (nm 0)] h (fun v h' => v = .tuple #[.int .i64 (advS s).1, .int .i64 (advS s).2.1] ∧ ∃ nm' ob', QR b h' (advS s).2.2 nm' ob' ∧ Rest h h' nm nm' ob ob') := by
  refine ACall.of_wp (c := (.seq (.region 0 (opsOf Try.f27 0) false) (.seq (.block 0 (bodyBlk Try.f27 0)) (.seq (.region 7 (opsOf Try.f27 7) false) (.seq (.region 8 (opsOf Try.f27 8) true) (.seq (.region 9 (opsOf Try.f27 9) true) (.seq (.region 10 (opsOf Try.f27 10) true) (.seq (.seq (.region 11 (opsOf Try.f27 11) false) (.block 1 (bodyBlk Try.f27 1))) (.seq (.seq (.region 15 (opsOf Try.f27 15) false) (.block 3 (bodyBlk Try.f27 3))) (.seq (.region 19 (opsOf Try.f27 19) false) .ret)))))))))) 111 [.tmp 2, .tmp 3] Try.func27 (by kernel_rfl) rfl rfl (by kernel_rfl) fun a hn hd ha => ?_
  have wf := r.own.gr.wf
  have hbn := r.own.gr.nx
  rw [wpA_seq, wpA_region]
  refine opsM.at (rfl : #[_, _] = _) (rfl : [_, _] = _) ?_
  simp (disch := first | omega | decide) only [push_cast, ↓reduceIte, Nat.reduceLT, Nat.reduceEqDiff, reduceCtorEq, Nat.reduceAdd, hn, hd]
  refine advB0 w0 r (by simp (disch := first | omega | decide) only [push_cast, ↓reduceIte, Nat.reduceLT, Nat.reduceEqDiff, reduceCtorEq, Nat.reduceAdd, hn]) (by simp (disch := first | omega | decide) only [push_cast, ↓reduceIte, Nat.reduceLT, Nat.reduceEqDiff, reduceCtorEq, Nat.reduceAdd, hd]) (by simp (disch := first | omega | decide) only [push_cast, ↓reduceIte, Nat.reduceLT, Nat.reduceEqDiff, reduceCtorEq, Nat.reduceAdd, ha]) (fun hb hll a1 h1 n1 d1 t1 g1 => ?_) (fun hbad a1 h1 n1 d1 t2 t3 g1 => ?_)
  rotate_left
  · rw [blockQ_ret, thenQ_ret]
    have e : (advS s).2.2 = s := by
      unfold advS
      rcases hbad with h | h
      · rw [if_pos h]
      · by_cases hb : busyS s = true
        · rw [if_pos hb]
        · rw [if_neg hb, if_pos h]
    simp (disch := first | omega | decide) only [push_cast, ↓reduceIte, Nat.reduceLT, Nat.reduceEqDiff, reduceCtorEq, Nat.reduceAdd, n1, d1, t2, t3]
    rw [e]
    exact ⟨nm, ob, r.gr g1, Rest.gr wf g1 nm ob⟩
  clear hn hd ha
  rw [blockQ_normal, thenQ_normal, wpA_seq, wpA_region]
  obtain ⟨⟨l, hl6⟩, hmin⟩ := firstS_mem hll
  have eadv : advS s = (firstS s, 0, adv1 s l) := by unfold advS; rw [if_neg (by rw [hb]; simp), if_neg hll, hl6]; rfl
  rw [eadv]
  have hw0 : s.waiting = [] := by
    have : ¬ (listE s).length + s.quiet.length + s.waiting.length > 0 := of_decide_eq_false hb
    exact List.eq_nil_of_length_eq_zero (by omega)
  have hok : QOK (adv1 s l) := by
    obtain ⟨o7, _, m7⟩ := r.m7; obtain ⟨o8, _, m8⟩ := r.m8
    exact r.ok.adv r.nd6 m7.nd m8.nd hw0 hl6 hmin
  have hlen0 : decide (s.later.length = 0) = false := decide_eq_false hll
  have r1 := r.gr g1
  have rs1 := Rest.gr wf g1 nm ob
  have ht0 : 0 ≤ firstS s := r.ok.kpos _ (aget_mem hl6)
  -- First
  refine opsM.at (rfl : #[_, _, _, _, _, _, _, _, _] = _) (rfl : [_, _, _, _, _, _, _, _, _] = _) ?_
  have hF := firstN r1
  unfold vA at hF
  simp (disch := first | omega | decide) only [push_cast, ↓reduceIte, Nat.reduceLT, Nat.reduceEqDiff, reduceCtorEq, Nat.reduceAdd, n1, d1, t1, vA]
  refine ACall.mono ?_ hF
  rintro _ h2 ⟨rfl, g2⟩
  rw [hlen0]
  have r2 := r1.gr g2
  have rs2 := rs1.trans (Rest.gr r1.own.gr.wf g2 nm ob)
  obtain ⟨lv, rv, wv, ql, hg, hl, h0, hlv, hrv, hw⟩ := r2.ql
  have hst := stC (P := Try.prog) one1L hg 2 (.int .i64 (firstS s)) (by rw [qC_len hl]; decide) rfl rfl
  have r3 := r2.toQRl.setNum w0 h0 hl hlv hrv hw (firstS s) s.held
  have rs3 := rs2.trans (Rest.set (nm := nm) r2.own.gr.wf (.row (qC nm { s with now := firstS s, held := s.held } lv rv wv) 60 true) h0)
  have hst : aStore Try.prog 2 (.pointer (some ⟨nm 0, 2, none⟩)) (.int .i64 (firstS s)) h2 = some (h2.set (nm 0) (.row (qC nm { s with now := firstS s, held := s.held } lv rv wv) 60 true)) := hst
  have es : ({ s with now := firstS s, held := s.held } : QS) = { s with now := firstS s } := rfl
  rw [es] at r3 rs3 hst
  simp (disch := first | omega | decide) only [push_cast, ↓reduceIte, Nat.reduceLT, Nat.reduceEqDiff, reduceCtorEq, Nat.reduceAdd, n1, d1, t1, vA, faL foQ0, faL foQ1, faL foQ2, faL foQ3, faL foQ4, faL foQ5, faL foQ6, faL foQ7, faL foQ8, faL foQ9, faL foQ10, faL foQ11, faL foQ12, hst]
  generalize h2.set (nm 0) (.row (qC nm { s with now := firstS s } lv rv wv) 60 true) = h3 at r3 rs3 ⊢
  generalize upd ob 0 (some (.row (qC nm { s with now := firstS s } lv rv wv) 60 true)) = ob3 at r3 rs3
  clear hst ql hg hl h0 hlv hrv hw r1 r2 rs1 rs2 g1 g2 hF es
  -- the slot
  refine AW.at (rfl : _ = Code.region 8 #[_, _, _, _, _, _, _, _, _, _] true) ?_
  refine AW.drawP (.take 0 [9, 8, 3, 2, 1] (.take 1 [9, 8, 3, 2] (.take 2 [9, 8, 3] (.take 3 [9, 8] (.take 4 [9, 8, 7, 6, 5] (.take 5 [9, 8, 7, 6] (.take 6 [9, 8, 7] (.take 7 [9, 8] (.take 8 [9] (.take 9 [] .done)))))))))) [(0, 0), (0, 1), (0, 2), (0, 3), (0, 4), (0, 5), (0, 6), (0, 7), (0, 8), (0, 9)] mixed (by kernel_rfl) (by kernel_rfl) ?_
  obtain ⟨lv, rv, wv, ql, hg, hl, h0, hlv, hrv, hw⟩ := r3.ql
  have hl6' : aget (firstS s) ({ s with now := firstS s } : QS).later = some l := hl6
  have hlk := r3.look6 (firstS s)
  rw [hl6'] at hlk
  have hlk : aLookup Try.prog 56 (.map (some (nm 6))) (.int .i64 (firstS s)) false h3 = some (.pointer (some ⟨nm (100 + 4 * (firstS s).toNat), 0, none⟩)) := hlk
  have hnow : aLoad Try.prog 2 (.pointer (some ⟨nm 0, 2, none⟩)) h3 = some (.int .i64 (firstS s)) := ql.l2
  simp (disch := first | omega | decide) only [push_cast, ↓reduceIte, Nat.reduceLT, Nat.reduceEqDiff, reduceCtorEq, Nat.reduceAdd, n1, d1, t1, vA, faL foQ0, faL foQ1, faL foQ2, faL foQ3, faL foQ4, faL foQ5, faL foQ6, faL foQ7, faL foQ8, faL foQ9, faL foQ10, faL foQ11, faL foQ12, hnow, ql.l10, hlk]
  -- the slot's entry, out
  refine AW.at (rfl : _ = Code.region 9 #[_, _, _, _, _, _, _, _, _] true) ?_
  refine AW.drawP (.take 0 [8, 3, 2, 1] (.take 1 [8, 3, 2] (.take 2 [8, 3] (.take 3 [8] (.take 4 [8, 7, 6, 5] (.take 5 [8, 7, 6] (.take 6 [8, 7] (.take 7 [8] (.only 8 .done))))))))) [(0, 0), (0, 1), (0, 2), (0, 3), (0, 4), (0, 5), (0, 6), (0, 7), (2, 8)] mixed (by kernel_rfl) (by kernel_rfl) ?_
  obtain ⟨o6, ho6, m6⟩ := r3.m6
  have mp6 : MapL vA h3 (nm 6) (s.later.map fun p => (p.1, nm (100 + 4 * p.1.toNat))) := ⟨o6, r3.own.get _ _ ho6, m6⟩
  obtain ⟨o6', hdel, m6'⟩ := mp6.del mtA (firstS s)
  simp (disch := first | omega | decide) only [push_cast, ↓reduceIte, Nat.reduceLT, Nat.reduceEqDiff, reduceCtorEq, Nat.reduceAdd, n1, d1, t1, vA, faL foQ0, faL foQ1, faL foQ2, faL foQ3, faL foQ4, faL foQ5, faL foQ6, faL foQ7, faL foQ8, faL foQ9, faL foQ10, faL foQ11, faL foQ12, hnow, ql.l10, hdel]
  obtain ⟨uv, sl, hso, huv, hd1, hd2⟩ := r3.slot hl6'
  have r4 : QRl b (h3.set (nm 6) o6') { s with now := firstS s, later := adel (firstS s) s.later } nm (upd ob3 6 (some o6')) := r3.relater (later' := adel (firstS s) s.later) (r3.own.set w0 ho6 (o' := o6')) (firstS s).toNat (fun i hi _ => ⟨rfl, upd_ne _ _ hi⟩) rfl ⟨o6', by rw [upd_same], by rw [adel_map (fun k _ => nm (100 + 4 * k.toNat))]; exact m6'⟩ (fun p hp => .inl (by
    obtain ⟨hp, hne⟩ := mem_adel2 r.nd6 hp
    have := r.ok.kpos p hp
    exact ⟨hp, by omega⟩))
  have rs4 := rs3.trans (Rest.set (nm := nm) r3.own.gr.wf o6' ho6)
  have hso : upd ob3 6 (some o6') (100 + 4 * (firstS s).toNat) = some (.row [.map (some (nm (101 + 4 * (firstS s).toNat))), .map (some (nm (102 + 4 * (firstS s).toNat))), uv] 64 true) := by rw [upd_ne _ _ (by omega)]; exact hso
  have huv : EvV uv (upd ob3 6 (some o6') (103 + 4 * (firstS s).toNat)) (nm (103 + 4 * (firstS s).toNat)) l.updates := by rw [upd_ne _ _ (by omega)]; exact huv
  have hd1 : ∃ o, upd ob3 6 (some o6') (101 + 4 * (firstS s).toNat) = some o ∧ MapO vI o l.drives := by rw [upd_ne _ _ (by omega)]; exact hd1
  have hd2 : ∃ o, upd ob3 6 (some o6') (102 + 4 * (firstS s).toNat) = some o ∧ MapO vB o l.threads := by rw [upd_ne _ _ (by omega)]; exact hd2
  generalize h3.set (nm 6) o6' = h4 at r4 rs4 ⊢
  generalize upd ob3 6 (some o6') = ob4 at r4 rs4 hso huv hd1 hd2
  clear hdel m6' mp6 ho6 m6 hnow hlk ql hg hl h0 hlv hrv hw sl r3 rs3
  -- its parts, in
  refine AW.at (rfl : _ = Code.region 10 #[_, _, _, _, _, _, _, _, _, _, _, _, _, _, _, _, _, _, _, _, _, _, _, _] true) ?_
  refine AW.drawP (.take 0 [23, 22, 21, 20, 19, 18, 17, 16, 15] (.take 1 [23, 22, 21, 20, 19, 18] (.take 2 [23, 22, 21] (.take 3 [23, 22, 21, 20, 19, 18, 17, 16, 15, 6, 5, 4] (.take 4 [23, 22, 21, 20, 19, 18, 17, 16, 15, 6, 5] (.take 5 [23, 22, 21, 20, 19, 18, 17, 16, 15, 6] (.take 6 [23, 22, 21, 20, 19, 18, 17, 16, 15] (.take 7 [23, 22, 21, 20, 19, 18, 17, 16, 15, 10, 9, 8] (.take 8 [23, 22, 21, 20, 19, 18, 17, 16, 15, 10, 9] (.take 9 [23, 22, 21, 20, 19, 18, 17, 16, 15, 10] (.take 10 [23, 22, 21, 20, 19, 18, 17, 16, 15] (.take 11 [23, 22, 21, 20, 19, 18, 17, 16, 15, 14, 13, 12] (.take 12 [23, 22, 21, 20, 19, 18, 17, 16, 15, 14, 13] (.take 13 [23, 22, 21, 20, 19, 18, 17, 16, 15, 14] (.take 14 [23, 22, 21, 20, 19, 18, 17, 16, 15] (.take 15 [23, 22, 21, 20, 19, 18, 17, 16] (.take 16 [23, 22, 21, 20, 19, 18, 17] (.only 17 (.take 18 [23, 22, 21, 20, 19] (.take 19 [23, 22, 21, 20] (.only 20 (.take 21 [23, 22] (.take 22 [23] (.only 23 .done)))))))))))))))))))))))) [(0, 0), (0, 1), (0, 2), (0, 3), (0, 4), (0, 5), (0, 6), (0, 7), (0, 8), (0, 9), (0, 10), (0, 11), (0, 12), (0, 13), (0, 14), (0, 15), (0, 16), (2, 17), (0, 18), (0, 19), (2, 20), (0, 21), (0, 22), (2, 23)] mixed (by kernel_rfl) (by kernel_rfl) ?_
  obtain ⟨lv, rv, wv, ql, hg, hl, h0, hlv, hrv, hw⟩ := r4.ql
  have hgs := r4.own.get _ _ hso
  have s0 : aLoad Try.prog 54 (.pointer (some ⟨nm (100 + 4 * (firstS s).toNat), 0, none⟩)) h4 = some (.map (some (nm (101 + 4 * (firstS s).toNat)))) := ldL (P := Try.prog) hgs rfl flMD 0 (by show 0 < 3; decide)
  have s1 : aLoad Try.prog 55 (.pointer (some ⟨nm (100 + 4 * (firstS s).toNat), 1, none⟩)) h4 = some (.map (some (nm (102 + 4 * (firstS s).toNat)))) := ldL (P := Try.prog) hgs rfl flMB 1 (by show 1 < 3; decide)
  have s2 : aLoad Try.prog 34 (.pointer (some ⟨nm (100 + 4 * (firstS s).toNat), 2, none⟩)) h4 = some uv := ldL (P := Try.prog) hgs rfl flE 2 (by show 2 < 3; decide)
  have hst1 := stC (P := Try.prog) oneMD hg 4 (.map (some (nm (101 + 4 * (firstS s).toNat)))) (by rw [qC_len hl]; decide) rfl rfl
  obtain ⟨ob5, row, hrow, r5, rs5, hso5⟩ := r4.advTurn w0 (firstS s) (fun p hp => ⟨r.ok.kpos p (mem_adel hp), (mem_adel2 r.nd6 hp).2⟩) ht0 h0 hl hlv hrv huv hd1 hd2
  generalize hq4 : qC nm { s with now := firstS s, later := adel (firstS s) s.later } lv rv wv = q4 at *
  have hq4l : q4.length = 76 := by rw [← hq4]; exact qC_len hl
  have hst2 := stC (P := Try.prog) oneMB (h := h4.set (nm 0) (.row (q4.set 4 (.map (some (nm (101 + 4 * (firstS s).toNat))))) 60 true)) (A := nm 0) (by rw [AH.set_get, if_pos rfl]) 6 (.map (some (nm (102 + 4 * (firstS s).toNat)))) (by rw [List.length_set, hq4l]; decide) rfl rfl
  rw [AH.set_set] at hst2
  have hst3 := stC (P := Try.prog) oneEs (h := h4.set (nm 0) (.row ((q4.set 4 (.map (some (nm (101 + 4 * (firstS s).toNat))))).set 6 (.map (some (nm (102 + 4 * (firstS s).toNat))))) 60 true)) (A := nm 0) (by rw [AH.set_get, if_pos rfl]) 72 uv (by rw [List.length_set, List.length_set, hq4l]; decide) huv.one.2 huv.one.1
  rw [AH.set_set, ← hrow] at hst3
  simp (disch := first | omega | decide) only [push_cast, ↓reduceIte, Nat.reduceLT, Nat.reduceEqDiff, reduceCtorEq, Nat.reduceAdd, n1, d1, t1, vA, faL foQ0, faL foQ1, faL foQ2, faL foQ3, faL foQ4, faL foQ5, faL foQ6, faL foQ7, faL foQ8, faL foQ9, faL foQ10, faL foQ11, faL foQ12, faL foR0, faL foR1, faL foR2, s0, s1, s2, hst1, hst2, hst3]
  have rs5 := rs4.trans rs5
  have hso5 := hso5.trans hso
  generalize h4.set (nm 0) (.row row 60 true) = h5 at r5 rs5 ⊢
  clear hst1 hst2 hst3 s0 s1 s2 hgs ql hg hl h0 hlv hrv hw hrow hq4 hq4l r4 rs4
  have hn5 : (fun r => nm (advR (firstS s).toNat r)) (100 + 4 * (firstS s).toNat) = nm (100 + 4 * (firstS s).toNat) := by show nm (advR _ _) = _; rw [advR_ne (by omega) (by omega) (by omega) (by omega)]
  have hn52 : (fun r => nm (advR (firstS s).toNat r)) 2 = nm (101 + 4 * (firstS s).toNat) := by show nm (advR _ _) = _; rw [advR_2]
  have hn54 : (fun r => nm (advR (firstS s).toNat r)) 4 = nm (102 + 4 * (firstS s).toNat) := by show nm (advR _ _) = _; rw [advR_4]
  have hn50 : (fun r => nm (advR (firstS s).toNat r)) 0 = nm 0 := rs5.n0
  generalize (fun r => nm (advR (firstS s).toNat r)) = nm5 at r5 rs5 hn5 hn52 hn54 hn50
  rw [← hn52, ← hn54] at hso5
  -- drives
  refine opsM.at (rfl : #[_, _, _, _, _] = _) (rfl : [_, _, _, _, _] = _) ?_
  have hgs := r5.own.get _ _ hso5
  rw [hn5] at hgs
  have s0 : aLoad Try.prog 54 (.pointer (some ⟨nm (100 + 4 * (firstS s).toNat), 0, none⟩)) h5 = some (.map (some (nm5 2))) := ldL (P := Try.prog) hgs rfl flMD 0 (by show 0 < 3; decide)
  have wf5 := r5.own.gr.wf
  obtain ⟨om, hom, mm⟩ := r5.m2
  have mp2 : MapL vI h5 (nm5 2) l.drives := ⟨om, r5.own.get _ _ hom, mm⟩
  obtain ⟨oi, hr, it⟩ := mp2.range wf5 mtD
  have g6 := (Gr.refl wf5).new oi
  have r6 := r5.gr g6
  have rs6 := rs5.trans (Rest.gr wf5 g6 nm5 ob5)
  have nx5 := rs5.nx
  have hbI := r5.own.gr.nx
  have uI : Un nm5 ob5 h5.next := fun i p hp e => by have := AH.get_lt wf5 (r5.own.get _ _ hp); omega
  simp (disch := first | omega | decide) only [push_cast, ↓reduceIte, Nat.reduceLT, Nat.reduceEqDiff, reduceCtorEq, Nat.reduceAdd, n1, d1, t1, vA, faL foR0, faL foR1, faL foR2, s0, hr]
  refine wpLoop (rfl : bodyBlk Try.f27 1 = .loop _) (AW.mono ?_ (advL1 w0 r6 it hbI uI (by simp (disch := first | omega | decide) only [push_cast, ↓reduceIte, Nat.reduceLT, Nat.reduceEqDiff, reduceCtorEq, Nat.reduceAdd, n1]) (by simp (disch := first | omega | decide) only [push_cast, ↓reduceIte, Nat.reduceLT, Nat.reduceEqDiff, reduceCtorEq, Nat.reduceAdd, d1]) (by simp (disch := first | omega | decide) only [push_cast, ↓reduceIte, Nat.reduceLT, Nat.reduceEqDiff, reduceCtorEq, Nat.reduceAdd, t1, hn50]) (by simp (disch := first | omega | decide) only [push_cast, ↓reduceIte, Nat.reduceLT, Nat.reduceEqDiff, reduceCtorEq, Nat.reduceAdd])))
  rintro _ a7 h7 ⟨rfl, n7, d7, t70, t74, ob7, r7, t7, ho7⟩
  simp (disch := first | omega | decide) only [push_cast, ↓reduceIte, Nat.reduceLT, Nat.reduceEqDiff, reduceCtorEq, Nat.reduceAdd] at t74
  rw [blockQ_exit, if_pos rfl, thenQ_normal, wpA_seq, wpA_seq, wpA_region]
  obtain ⟨o7, ho57, -⟩ := r5.m7
  have rs7 := rs6.then2 (o2 := ob7) t7 (fun C hC => by
    rcases hC with rfl | rfl
    · exact .inl nx5
    · exact .inr ⟨7, o7, ho57, rfl⟩) (fun i p hp => by
    by_cases e : i = 7
    · subst e; exact ⟨o7, ho57⟩
    · rw [ho7 i e] at hp; exact ⟨p, hp⟩)
  -- threads
  refine opsM.at (rfl : #[_, _, _, _, _] = _) (rfl : [_, _, _, _, _] = _) ?_
  have hgs7 := r7.own.get _ _ ((ho7 _ (by omega)).trans hso5)
  rw [hn5] at hgs7
  have s1 : aLoad Try.prog 55 (.pointer (some ⟨nm (100 + 4 * (firstS s).toNat), 1, none⟩)) h7 = some (.map (some (nm5 4))) := ldL (P := Try.prog) hgs7 rfl flMB 1 (by show 1 < 3; decide)
  have wf7 := r7.own.gr.wf
  obtain ⟨om4, hom4, mm4⟩ := r7.m4
  have mp4 : MapL vB h7 (nm5 4) l.threads := ⟨om4, r7.own.get _ _ hom4, mm4⟩
  obtain ⟨oi4, hr4, it4⟩ := mp4.range wf7 mtB
  have g8 := (Gr.refl wf7).new oi4
  have r8 := r7.gr g8
  have rs8 := rs7.trans (Rest.gr wf7 g8 nm5 ob7)
  have nx7 := rs7.nx
  have hbI7 := r7.own.gr.nx
  have uI7 : Un nm5 ob7 h7.next := fun i p hp e => by have := AH.get_lt wf7 (r7.own.get _ _ hp); omega
  simp (disch := first | omega | decide) only [push_cast, ↓reduceIte, Nat.reduceLT, Nat.reduceEqDiff, reduceCtorEq, Nat.reduceAdd, n7, d7, t70, t74, faL foR0, faL foR1, faL foR2, s1, hr4]
  refine wpLoop (rfl : bodyBlk Try.f27 3 = .loop _) (AW.mono ?_ (advL3 w0 r8 it4 hbI7 uI7 (by simp (disch := first | omega | decide) only [push_cast, ↓reduceIte, Nat.reduceLT, Nat.reduceEqDiff, reduceCtorEq, Nat.reduceAdd, n7]) (by simp (disch := first | omega | decide) only [push_cast, ↓reduceIte, Nat.reduceLT, Nat.reduceEqDiff, reduceCtorEq, Nat.reduceAdd, d7]) (by simp (disch := first | omega | decide) only [push_cast, ↓reduceIte, Nat.reduceLT, Nat.reduceEqDiff, reduceCtorEq, Nat.reduceAdd, t70]) (by simp (disch := first | omega | decide) only [push_cast, ↓reduceIte, Nat.reduceLT, Nat.reduceEqDiff, reduceCtorEq, Nat.reduceAdd])))
  rintro _ a9 h9 ⟨rfl, n9, d9, t90, t94, ob9, r9, t9, ho9⟩
  rw [blockQ_exit, if_pos rfl, thenQ_normal, wpA_seq, wpA_region]
  obtain ⟨o8, ho78, -⟩ := r7.m8
  have rs9 := rs8.then2 (o2 := ob9) t9 (fun C hC => by
    rcases hC with rfl | rfl
    · exact .inl nx7
    · exact .inr ⟨8, o8, ho78, rfl⟩) (fun i p hp => by
    by_cases e : i = 8
    · subst e; exact ⟨o8, ho78⟩
    · rw [ho9 i e] at hp; exact ⟨p, hp⟩)
  refine opsM.at (rfl : #[_, _, _, _, _, _] = _) (rfl : [_, _, _, _, _, _] = _) ?_
  obtain ⟨lv, rv, wv, ql, -⟩ := r9.ql
  have hnow : aLoad Try.prog 2 (.pointer (some ⟨nm5 0, 2, none⟩)) h9 = some (.int .i64 (firstS s)) := ql.l2
  simp (disch := first | omega | decide) only [push_cast, ↓reduceIte, Nat.reduceLT, Nat.reduceEqDiff, reduceCtorEq, Nat.reduceAdd, n9, d9, t90, vA, faL foQ0, faL foQ1, faL foQ2, faL foQ3, faL foQ4, faL foQ5, faL foQ6, faL foQ7, faL foQ8, faL foQ9, faL foQ10, faL foQ11, faL foQ12, hnow]
  exact ⟨nm5, ob9, ⟨r9, hok⟩, rs9⟩


theorem cloneN {h : AH} {v : Value} {l : List Int} (w : WFH h) (hs : SlOf h v (l.map (.int .u32))) (hb : l.length ≤ 1000) :
    ACall Try.prog 20 [v] h (fun r h' => Gr h h' ∧ ∃ ob A, OffV 1 48 r ob A l.length (l.map (.int .u32)) ∧ ∀ o, ob = some o → h'.get A = some o ∧ h.next ≤ A) := by
  refine ACall.of_wp 8 [.tmp 2] Try.func20 rfl (by kernel_rfl) rfl rfl fun a hn hd ha => ?_
  have hsrc := hs.src
  obtain ⟨p, ln, c, rfl, hl, hsp, hcs⟩ := hs
  have heq := eqBin_nil (P := Try.prog) Try.underlying22 p ln c
  rw [List.length_map] at hl
  cases p with
  | none =>
    have hl0 : l = [] := by
      rcases hcs with h | ⟨A, off, o, cs, e, _⟩
      · simpa using h
      · cases e
    subst hl0
    have heq : eqBin Try.prog .eql 22 (.slice none ln c) (.slice none 0 0) = some (.bool true) := heq
    simp (disch := first | omega | decide) only [push_cast, ↓reduceIte, Nat.reduceLT, Nat.reduceEqDiff, reduceCtorEq, Nat.reduceAdd, hn, hd, ha, heq]
    exact ⟨Gr.refl w, none, 0, OffV.nil _ _ _, fun o ho => (nomatch ho)⟩
  | some q =>
    have heq : eqBin Try.prog .eql 22 (.slice (some q) ln c) (.slice none 0 0) = some (.bool false) := heq
    have g1 := (Gr.refl w).new (.row [] 48 true)
    have hbe := aBuildSlice_empty tU h
    have x1 : (h.new (.row [] 48 true)).get h.next = some (.row [] 48 true) := by rw [AH.new_get, if_pos rfl]
    have hsrc1 := srcCells_sub g1.sub hsrc
    rw [List.length_map] at hsrc1
    by_cases hl0 : l = []
    · subst hl0
      have hap := aAppend_none (A := h.next) tU hsrc1
      simp (disch := first | omega | decide) only [push_cast, ↓reduceIte, Nat.reduceLT, Nat.reduceEqDiff, reduceCtorEq, Nat.reduceAdd, hn, hd, ha, heq, hbe, hap]
      exact ⟨g1, some (.row [] 48 true), h.next, ⟨rfl, .inr (.inl ⟨rfl, rfl, rfl⟩)⟩, fun o ho => by cases ho; exact ⟨x1, Nat.le_refl _⟩⟩
    · have hap := aAppend_first (x := .slice (some q) ln c) (vs := l.map (.int .u32)) tU x1 (by rw [List.length_map]; exact hsrc1) (by simpa using hl0) (by rw [List.length_map]; omega) (by rw [List.length_map]; unfold ML; omega)
      rw [List.length_map] at hap
      simp (disch := first | omega | decide) only [push_cast, ↓reduceIte, Nat.reduceLT, Nat.reduceEqDiff, reduceCtorEq, Nat.reduceAdd, hn, hd, ha, heq, hbe, hap]
      have g2 := g1.new (.grow (l.map (.int .u32)) 48)
      exact ⟨g2, some (.grow (l.map (.int .u32)) 48), _, ⟨by simp, .inr (.inr ⟨0, _, rfl, rfl, by simp, by rw [List.drop_zero, Nat.mul_one]; exact List.take_of_length_le (by simp)⟩)⟩, fun o ho => by cases ho; exact ⟨by rw [AH.new_get, if_pos rfl], by simp⟩⟩

def newS (l : List Int) : QS := ⟨l, 0, 0, [], [], [], [], List.replicate 64 [], [], [], [], []⟩

def newRow (lv : Value) (N : Nat) : List Value := [lv, .bool true, .int .i64 0, .int .i64 0, .map (some N), .map (some (N + 1)), .map (some (N + 2)), .map (some (N + 3))] ++ (List.replicate 64 (.slice none 0 0) ++ [.slice none 0 0, .map (some (N + 4)), .map (some (N + 5)), .map (some (N + 6))])

def newZ : List Value := [.slice none 0 0, .bool false, .int .i64 0, .int .i64 0, .map none, .map none, .map none, .map none] ++ (List.replicate 64 (.slice none 0 0) ++ [.slice none 0 0, .map none, .map none, .map none])
theorem infQ : ∃ i, Try.prog.info? 60 = some i ∧ i.zero = some (.agg newZ.toArray) := ⟨(Try.prog.info? 60).get (by kernel_rfl), by kernel_rfl, by kernel_rfl⟩
theorem infC : ∃ i, Try.prog.info? 53 = some i ∧ i.zero = some (.agg ([.slice none 0 0] : List Value).toArray) := ⟨(Try.prog.info? 53).get (by kernel_rfl), by kernel_rfl, by kernel_rfl⟩
theorem buildC (p : Option Addr) (n c : Nat) : aBuild Try.prog 53 [(0, .slice p n c)] = some (.agg ([.slice p n c] : List Value).toArray) := by
  have h1 : ∀ p n c, (Value.slice p n c).cells = #[.slice p n c] := fun _ _ _ => rfl
  rw [buildS (zs := [.slice none 0 0]) (pl := [(0, 1)]) infC rfl ⟨_, Try.underlying53, by kernel_rfl⟩]
  simp [fillL, h1, setL]

theorem buildQ (p : Option Addr) (n c N : Nat) : aBuild Try.prog 60 [(0, .agg ([.slice p n c] : List Value).toArray), (1, .bool true), (4, .map (some N)), (5, .map (some (N + 1))), (6, .map (some (N + 2))), (7, .map (some (N + 3))), (10, .map (some (N + 4))), (11, .map (some (N + 5))), (12, .map (some (N + 6)))] = some (.agg (newRow (.slice p n c) N).toArray) := by
  rw [buildS (zs := newZ) (pl := [(0, 1), (1, 1), (2, 1), (3, 1), (4, 1), (5, 1), (6, 1), (7, 1), (8, 64), (72, 1), (73, 1), (74, 1), (75, 1)]) infQ (by kernel_rfl) ⟨_, Try.underlying60, by kernel_rfl⟩]
  rfl


theorem newS_ok {l : List Int} (hb : l.length ≤ 1000) (hu : ∀ x ∈ l, 0 ≤ x ∧ x < 4294967296) : QOK (newS l) where
  rl := by simp [newS]
  held := by
    have : sumL List.length (List.replicate 64 ([] : List Ev)) = 0 := by decide
    show (0 : Int) = (([] : List Ev).length : Nat) + (sumL List.length (List.replicate 64 ([] : List Ev)) : Nat) + (sumL (fun p : Int × Lat => p.2.updates.length) [] : Nat)
    rw [this]; rfl
  hb := by show (0 : Int) ≤ _; decide
  now0 := by show (0 : Int) ≤ 0; decide
  now1 := by show (0 : Int) ≤ _; decide
  left := by show l.length ≤ _; omega
  uu := hu
  kd := fun p hp => (nomatch hp)
  ke := fun p hp => (nomatch hp)
  kt := fun p hp => (nomatch hp)
  kq := fun p hp => (nomatch hp)
  kl := fun p hp => (nomatch hp)
  ll := Nat.zero_le _
  kld := fun p hp => (nomatch hp)
  klt := fun p hp => (nomatch hp)
  kr := fun p hp => (nomatch hp)
  kw := fun p hp => (nomatch hp)
  wi := fun p hp => (nomatch hp)
  ui := fun p hp => (nomatch hp)
  ri := fun i hi x hx => by
    have : (newS l).ready.getD i [] = [] := by
      show (List.replicate 64 ([] : List Ev)).getD i [] = []
      rw [List.getD_eq_getElem?_getD, List.getElem?_replicate, if_pos hi]; rfl
    rw [this] at hx; cases hx

def nmN (N A : Nat) (r : Nat) : Nat := if r = 0 then N + 7 else if r = 1 then A else N + (r - 2)
def obN (lv : Value) (N : Nat) (o1 : Option AObj) (r : Nat) : Option AObj := if r = 0 then some (.row (newRow lv N) 60 true) else if r = 1 then o1 else if r ≤ 8 then some (.map [] 0) else none

theorem obN_of {lv : Value} {N : Nat} {o1 : Option AObj} {r : Nat} {o : AObj} (h : obN lv N o1 r = some o) : r ≤ 8 := by
  unfold obN at h
  split at h
  · omega
  split at h
  · omega
  split at h
  · assumption
  · cases h

theorem newQR {h h1 : AH} {lv : Value} {l : List Int} {o1 : Option AObj} {A : Nat} (g : Gr h h1) (hlv : OffV 1 48 lv o1 A l.length (l.map (.int .u32))) (hA : ∀ o, o1 = some o → h1.get A = some o ∧ h.next ≤ A) (hb : l.length ≤ 1000) (hu : ∀ x ∈ l, 0 ≤ x ∧ x < 4294967296) {h9 : AH}
    (g9 : Gr h1 h9) (hm : ∀ i, i < 7 → h9.get (h1.next + i) = some (.map [] 0)) (hq : h9.get (h1.next + 7) = some (.row (newRow lv h1.next) 60 true)) :
    QR h h9 (newS l) (nmN h1.next A) (obN lv h1.next o1) := by
  have hx := g.nx
  have own : Owns h h9 (nmN h1.next A) (obN lv h1.next o1) := by
    refine ⟨fun r o hr => ?_, fun r s o p hr hs hne => ?_, fun r o hr => ?_, g.trans g9⟩
    · have h8 := obN_of hr
      by_cases e0 : r = 0
      · subst e0; cases hr; exact hq
      · by_cases e1 : r = 1
        · subst e1
          have hr : o1 = some o := hr
          exact g9.sub _ _ (hA o hr).1
        · have hr' : some (AObj.map [] 0) = some o := by unfold obN at hr; rw [if_neg e0, if_neg e1, if_pos h8] at hr; exact hr
          cases hr'
          unfold nmN; rw [if_neg e0, if_neg e1]
          exact hm _ (by omega)
    · have h8 := obN_of hr
      have s8 := obN_of hs
      have hA1 : ∀ q, o1 = some q → A < h1.next := fun q hq => AH.get_lt g.wf (hA q hq).1
      unfold nmN
      by_cases r1 : r = 1
      · have hA2 : A < h1.next := by subst r1; exact hA1 o hr
        have s1 : s ≠ 1 := fun e => hne (r1.trans e.symm)
        rw [if_neg (by omega : ¬ r = 0), if_pos r1, if_neg s1]
        split <;> omega
      · by_cases s1 : s = 1
        · have hA2 : A < h1.next := by subst s1; exact hA1 p hs
          rw [if_neg r1, if_neg (by omega : ¬ s = 0), if_pos s1]
          split <;> omega
        · rw [if_neg r1, if_neg s1]
          split <;> split <;> omega
    · unfold nmN
      by_cases e1 : r = 1
      · subst e1
        have hr : o1 = some o := hr
        rw [if_neg (by decide), if_pos rfl]; exact (hA o hr).2
      · rw [if_neg e1]; split <;> omega
  have hmz : ∀ r, 2 ≤ r → r ≤ 8 → obN lv h1.next o1 r = some (.map [] 0) := fun r a b => by unfold obN; rw [if_neg (by omega), if_neg (by omega), if_pos b]
  have hrow : newRow lv h1.next = qC (nmN h1.next A) (newS l) lv (List.replicate 64 (.slice none 0 0)) (.slice none 0 0) := rfl
  refine ⟨⟨own, ⟨lv, List.replicate 64 (.slice none 0 0), .slice none 0 0, ?_, hlv, by simp, fun i hi => ?_, OffV.nil _ _ _⟩, ⟨_, hmz 2 (by decide) (by decide), MapO.nil _⟩, ⟨_, hmz 3 (by decide) (by decide), MapO.nil _⟩, ⟨_, hmz 4 (by decide) (by decide), MapO.nil _⟩, ⟨_, hmz 5 (by decide) (by decide), MapO.nil _⟩, ⟨_, hmz 6 (by decide) (by decide), MapO.nil _⟩, ⟨_, hmz 7 (by decide) (by decide), MapO.nil _⟩, ⟨_, hmz 8 (by decide) (by decide), MapO.nil _⟩, fun p hp => (nomatch hp)⟩, newS_ok hb hu⟩
  · rw [← hrow]; rfl
  · have e1 : (List.replicate 64 (Value.slice none 0 0)).getD i undef = .slice none 0 0 := by rw [List.getD_eq_getElem?_getD, List.getElem?_replicate, if_pos hi]; rfl
    have e2 : (newS l).ready.getD i [] = [] := by
      show (List.replicate 64 ([] : List Ev)).getD i [] = []
      rw [List.getD_eq_getElem?_getD, List.getElem?_replicate, if_pos hi]; rfl
    have e3 : obN lv h1.next o1 (10 + i) = none := by unfold obN; rw [if_neg (by omega), if_neg (by omega), if_neg (by omega)]
    rw [e1, e2, e3]
    exact OffV.nil _ _ _

theorem newN {h : AH} {v : Value} {l : List Int} (w : WFH h) (hs : SlOf h v (l.map (.int .u32))) (hb : l.length ≤ 1000) (hu : ∀ x ∈ l, 0 ≤ x ∧ x < 4294967296) :
    ACall Try.prog 6 [v] h (fun r h' => ∃ nm ob, r = vA (nm 0) ∧ QR h h' (newS l) nm ob) := by
  refine ACall.of_wp 15 [.tmp 2] Try.func6 rfl (by kernel_rfl) rfl rfl fun a hn hd ha => ?_
  simp (disch := first | omega | decide) only [push_cast, ↓reduceIte, Nat.reduceLT, Nat.reduceEqDiff, reduceCtorEq, Nat.reduceAdd, hn, hd, ha]
  refine ACall.mono ?_ (cloneN w hs hb)
  rintro lv h1 ⟨g, o1, A, hlv, hA⟩
  obtain ⟨p, n, c, rfl⟩ : ∃ p n c, lv = .slice p n c := by
    obtain ⟨_, ⟨_, rfl, _⟩ | ⟨_, rfl, _⟩ | ⟨_, _, rfl, _⟩⟩ := hlv <;> exact ⟨_, _, _, rfl⟩
  have hbox : ∀ k, aBox 60 (.agg (newRow (.slice p n c) h1.next).toArray) k = some (.pointer (some ⟨k.next, 0, none⟩), k.new (.row (newRow (.slice p n c) h1.next) 60 true)) := fun k => boxA _ k _ (by rfl)
  simp (disch := first | omega | decide) only [push_cast, ↓reduceIte, Nat.reduceLT, Nat.reduceEqDiff, reduceCtorEq, Nat.reduceAdd, hn, hd, ha, buildC, AH.new_next, Nat.add_assoc, buildQ, hbox]
  have g9 := ((((((((Gr.refl g.wf).new (.map [] 0)).new (.map [] 0)).new (.map [] 0)).new (.map [] 0)).new (.map [] 0)).new (.map [] 0)).new (.map [] 0)).new (.row (newRow (.slice p n c) h1.next) 60 true)
  refine ⟨nmN h1.next A, obN (.slice p n c) h1.next o1, rfl, newQR g hlv hA hb hu g9 (fun i hi => ?_) ?_⟩
  · have hi7 : i = 0 ∨ i = 1 ∨ i = 2 ∨ i = 3 ∨ i = 4 ∨ i = 5 ∨ i = 6 := by omega
    rcases hi7 with rfl | rfl | rfl | rfl | rfl | rfl | rfl <;> simp [AH.new_get] <;> omega
  · simp [AH.new_get]

theorem choicesN {b h : AH} {s : QS} {nm : Nat → Nat} {ob : Nat → Option AObj} (w0 : WFH b) (r : QR b h s nm ob) (hne : listE s ≠ []) :
    ACall Try.prog 19 [vA (nm 0)] h (fun v h' => v = .int .i64 (listE s).length ∧ Gr h h') := by
  refine ACall.of_wp 41 [.tmp 2] Try.func19 rfl (by kernel_rfl) rfl rfl fun a hn hd ha => ?_
  simp (disch := first | omega | decide) only [push_cast, ↓reduceIte, Nat.reduceLT, Nat.reduceEqDiff, reduceCtorEq, Nat.reduceAdd, hn, hd, ha]
  refine ACall.mono ?_ (activeN' w0 r)
  rintro _ h1 ⟨rfl, g1⟩
  have hl : 0 < (listE s).length := by
    cases hE : listE s with
    | nil => exact absurd hE hne
    | cons x l => simp
  have hz : decide (((listE s).length : Int) > 0) = true := decide_eq_true (by omega)
  simp (disch := first | omega | decide) only [push_cast, ↓reduceIte, Nat.reduceLT, Nat.reduceEqDiff, reduceCtorEq, Nat.reduceAdd, hn, hd, ha, hz]
  exact g1


def insI (x : Int) : List Int → List Int
  | [] => [x]
  | y :: l => if x ≤ y then x :: y :: l else y :: insI x l
def isoL : List Int → List Int
  | [] => []
  | x :: l => insI x (isoL l)
theorem insI_perm (x : Int) : ∀ l : List Int, (insI x l).Perm (x :: l) := by
  intro l
  induction l with
  | nil => exact List.Perm.refl _
  | cons y l ih =>
    unfold insI
    split
    · exact List.Perm.refl _
    · exact (List.Perm.cons y ih).trans (List.Perm.swap x y l)
theorem isoL_perm : ∀ l : List Int, (isoL l).Perm l := by
  intro l
  induction l with
  | nil => exact List.Perm.refl _
  | cons x l ih => exact (insI_perm x (isoL l)).trans (List.Perm.cons x ih)
theorem insI_sorted (x : Int) : ∀ l : List Int, l.Pairwise (fun a b => a ≤ b) → (insI x l).Pairwise (fun a b => a ≤ b) := by
  intro l
  induction l with
  | nil => intro _; exact List.pairwise_singleton _ _
  | cons y l ih =>
    intro h
    unfold insI
    rw [List.pairwise_cons] at h
    split
    · rename_i hxy
      rw [List.pairwise_cons, List.pairwise_cons]
      exact ⟨fun z hz => by
        rcases List.mem_cons.1 hz with rfl | hz
        · exact hxy
        · have := h.1 z hz; omega, h.1, h.2⟩
    · rename_i hxy
      rw [List.pairwise_cons]
      exact ⟨fun z hz => by
        rcases List.mem_cons.1 ((insI_perm x l).mem_iff.1 hz) with rfl | hz
        · omega
        · exact h.1 z hz, ih h.2⟩
theorem isoL_sorted : ∀ l : List Int, (isoL l).Pairwise (fun a b => a ≤ b) := by
  intro l
  induction l with
  | nil => exact List.Pairwise.nil
  | cons x l ih => exact insI_sorted x _ ih
theorem sortL_iso (l : List Int) : sortL l = isoL l := sortL_uniq (isoL_perm l) (isoL_sorted l)

def keysI {α : Type} (l : List (Int × α)) : List Int := isoL (l.map (·.1))
theorem keysL_eq {α : Type} (l : List (Int × α)) : keysL l = keysI l := sortL_iso _
def listI (s : QS) : List Ev :=
  (keysI s.drives).map (fun k => ⟨1, k, (aget k s.drives).getD 0⟩) ++ ((keysI s.evals).map (fun k => ⟨2, k, 0⟩) ++ ((keysI s.threads).map (fun k => ⟨3, k, 0⟩) ++ heads s.ready))
theorem listE_eq (s : QS) : listE s = listI s := by unfold listE listI; simp only [keysL_eq]

def act1I (s : QS) : QS := if listI s = [] then swapT s else s
def act2I (s : QS) : QS := if listI s = [] then { s with ready := pour s.ready s.waiting, waiting := [] } else s
def actI (s : QS) : QS := act2I (act1I s)
theorem actS_eq (s : QS) : actS s = actI s := by
  unfold actS actI
  have h1 : ∀ s, act1 s = act1I s := fun s => by unfold act1 act1I; rw [listE_eq]
  have h2 : ∀ s, act2 s = act2I s := fun s => by unfold act2 act2I; rw [listE_eq]
  rw [h1, h2]
def nextI (s : QS) : Ev × Bool × QS :=
  if listI (actI s) = [] then (v0, false, actI s) else
    ((listI (actI s)).getD (pickS (actI s) (listI (actI s)).length).toNat v0, true, remS { actI s with left := (actI s).left.tail } ((listI (actI s)).getD (pickS (actI s) (listI (actI s)).length).toNat v0))
theorem nextS_eq (s : QS) : nextS s = nextI s := by unfold nextS nextI; rw [actS_eq, listE_eq]
def busyI (s : QS) : Bool := decide ((listI s).length + s.quiet.length + s.waiting.length > 0)
def advI (s : QS) : Int × Int × QS := if busyI s = true then (0, 22, s) else if s.later.length = 0 then (0, 8, s) else (firstS s, 0, adv1 s ((aget (firstS s) s.later).getD lat0))
theorem advS_eq (s : QS) : advS s = advI s := by unfold advS advI busyS busyI; rw [listE_eq]

/-! ### The chapter's examples -/

def w0 : QS := newS [1, 0, 5]
def w1 : QS := { w0 with evals := aput 3 true w0.evals }
def w2 : QS := { w1 with threads := aput 0 true w1.threads }
def w3 : QS := { w2 with evals := aput 1 true w2.evals }
def w4 : QS := atS w3 w3.now ⟨4, 0, 70⟩
def w5 : QS := (nextI w4).2.2
def w6 : QS := (nextI w5).2.2
def w7 : QS := { w6 with quiet := aput 2 true w6.quiet }
def w8 : QS := (nextI w7).2.2
def w9 : QS := (nextI w8).2.2
def w10 : QS := (nextI w9).2.2
def w11 : QS := (nextI w10).2.2
def w12 : QS := atS w11 5 ⟨1, 4, 8⟩
def w13 : QS := atS w12 3 ⟨3, 1, 0⟩
def w14 : QS := atS w13 9 ⟨1, 4, 9⟩
def w15 : QS := (advI w14).2.2
def w16 : QS := (nextI w15).2.2
def w17 : QS := (advI w16).2.2
def w18 : QS := (nextI w17).2.2
def w19 : QS := (advI w18).2.2

theorem ew3 : atE w3 w3.now ⟨4, 0, 70⟩ = 0 := by kernel_rfl
theorem ew4 : (listI w4).length = 3 := by kernel_rfl
theorem ew5 : ((nextI w4).2.1 && decide ((nextI w4).1 = ⟨2, 3, 0⟩)) = true := by kernel_rfl
theorem ew6 : ((nextI w5).2.1 && decide ((nextI w5).1 = ⟨2, 1, 0⟩)) = true := by kernel_rfl
theorem ew8 : ((nextI w7).2.1 && decide ((nextI w7).1 = ⟨3, 0, 0⟩)) = true := by kernel_rfl
theorem ew9 : ((nextI w8).2.1 && decide ((nextI w8).1 = ⟨3, 2, 0⟩)) = true := by kernel_rfl
theorem ew10 : ((nextI w9).2.1 && decide ((nextI w9).1 = ⟨4, 0, 70⟩)) = true := by kernel_rfl
theorem ew11 : (!(nextI w10).2.1 && decide ((nextI w10).1 = v0)) = true := by kernel_rfl
theorem ew12 : atE w11 5 ⟨1, 4, 8⟩ = 0 := by kernel_rfl
theorem ew13 : atE w12 3 ⟨3, 1, 0⟩ = 0 := by kernel_rfl
theorem ew14 : atE w13 9 ⟨1, 4, 9⟩ = 0 := by kernel_rfl
theorem ewp : pendS w14 4 = (9, 9, true) := by kernel_rfl
theorem ewl : leftS w14 = 2 := by kernel_rfl
theorem ew15 : (decide ((advI w14).1 = 3) && decide ((advI w14).2.1 = 0)) = true := by kernel_rfl
theorem ew16 : ((nextI w15).2.1 && decide ((nextI w15).1 = ⟨3, 1, 0⟩)) = true := by kernel_rfl
theorem ew17 : (decide ((advI w16).1 = 9) && decide ((advI w16).2.1 = 0)) = true := by kernel_rfl
theorem ew18 : ((nextI w17).2.1 && decide ((nextI w17).1 = ⟨1, 4, 9⟩)) = true := by kernel_rfl
theorem ew19 : (decide ((advI w18).1 = 0) && decide ((advI w18).2.1 = 8)) = true := by kernel_rfl
theorem ewn : w19.now = 9 := by kernel_rfl
theorem ewa : atE w19 8 ⟨3, 1, 0⟩ = 1 ∧ atS w19 8 ⟨3, 1, 0⟩ = w19 := ⟨by kernel_rfl, by kernel_rfl⟩
theorem ewb : atE w19 9 ⟨2, 1, 0⟩ = 11 ∧ atS w19 9 ⟨2, 1, 0⟩ = w19 := ⟨by kernel_rfl, by kernel_rfl⟩
theorem ewc : (cancelS w19 4).1 = 8 := by kernel_rfl
theorem ewz : (w3.later.length + 1 ≤ 100000 ∧ w11.later.length + 1 ≤ 100000) ∧ (w12.later.length + 1 ≤ 100000 ∧ w13.later.length + 1 ≤ 100000) ∧ w19.later.length + 1 ≤ 100000 := of_decide_eq_true (by kernel_rfl)

theorem goesN {b h : AH} {s : QS} {nm : Nat → Nat} {ob : Nat → Option AObj} (w0 : WFH b) (r : QR b h s nm ob) (t e : Int) :
    ACall Try.prog 30 [vA (nm 0), .int .i64 t, .int .i64 e] h (fun v h' => v = .bool (decide ((advS s).1 = t) && decide ((advS s).2.1 = e)) ∧ ∃ nm' ob', QR b h' (advS s).2.2 nm' ob' ∧ Rest h h' nm nm' ob ob') := by
  refine ACall.of_wp 22 [.tmp 6] Try.func30 rfl (by kernel_rfl) rfl rfl fun a hn hd ha => ?_
  simp (disch := first | omega | decide) only [push_cast, ↓reduceIte, Nat.reduceLT, Nat.reduceEqDiff, reduceCtorEq, Nat.reduceAdd, hn, hd, ha]
  refine ACall.mono ?_ (advN w0 r)
  rintro _ h1 ⟨rfl, nm1, ob1, r1, rs⟩
  generalize advS s = n at r1 ⊢
  obtain ⟨t', e', s'⟩ := n
  by_cases h : t' = t
  · have d1 : decide (t' = t) = true := decide_eq_true h
    simp (disch := first | omega | decide) only [push_cast, ↓reduceIte, Nat.reduceLT, Nat.reduceEqDiff, reduceCtorEq, Nat.reduceAdd, hn, hd, ha, d1]
    exact ⟨nm1, ob1, r1, rs⟩
  · have d1 : decide (t' = t) = false := decide_eq_false h
    simp (disch := first | omega | decide) only [push_cast, ↓reduceIte, Nat.reduceLT, Nat.reduceEqDiff, reduceCtorEq, Nat.reduceAdd, hn, hd, ha, d1, Bool.false_and]
    exact ⟨nm1, ob1, r1, rs⟩


theorem aBuildU3 (h : AH) (x y z : Int) : aBuildSlice Try.prog 22 3 [(0, .int .u32 x), (1, .int .u32 y), (2, .int .u32 z)] h = some (.slice (some ⟨h.next, 0, none⟩) 3 3, h.new (.row [.int .u32 x, .int .u32 y, .int .u32 z] 48 true)) := by
  obtain ⟨i, hi, h1, hb, hz⟩ := tU.info
  have hp : plain 9 (.int .u32 0) = true := rfl
  have hc : (Value.int .u32 0).cells.size = 1 := rfl
  have hl : (Value.int .u32 0).cells.toList = [.int .u32 0] := rfl
  have hx1 : ∀ z : Int, (Value.int .u32 z).cells.size = 1 := fun _ => rfl
  have hx2 : ∀ z : Int, (Value.int .u32 z).cells.toList = [.int .u32 z] := fun _ => rfl
  simp only [aBuildSlice, tU.sl, hi, hz, h1, hp, hc, fillL, hl, zeros_one]
  simp [SL, hx1, hx2, setL, oneC, List.replicate]
theorem aBuildU1 (h : AH) (x : Int) : aBuildSlice Try.prog 22 1 [(0, .int .u32 x)] h = some (.slice (some ⟨h.next, 0, none⟩) 1 1, h.new (.row [.int .u32 x] 48 true)) := by
  obtain ⟨i, hi, h1, hb, hz⟩ := tU.info
  have hp : plain 9 (.int .u32 0) = true := rfl
  have hc : (Value.int .u32 0).cells.size = 1 := rfl
  have hl : (Value.int .u32 0).cells.toList = [.int .u32 0] := rfl
  have hx1 : ∀ z : Int, (Value.int .u32 z).cells.size = 1 := fun _ => rfl
  have hx2 : ∀ z : Int, (Value.int .u32 z).cells.toList = [.int .u32 z] := fun _ => rfl
  simp only [aBuildSlice, tU.sl, hi, hz, h1, hp, hc, fillL, hl, zeros_one]
  simp [SL, hx1, hx2, setL, oneC, List.replicate]

theorem buildE3 (x y z : Int) : aBuild Try.prog 33 [(0, .int .u8 x), (1, .int .i64 y), (2, .int .i64 z)] = some (.agg (evC ⟨x, y, z⟩).toArray) := buildV3 x y z
theorem buildE2 (x y : Int) : aBuild Try.prog 33 [(0, .int .u8 x), (1, .int .i64 y)] = some (.agg (evC ⟨x, y, 0⟩).toArray) := buildV2 x y

theorem awakeN {h0 : AH} : ACall Try.prog 10 [] h0 (fun v h' => v = .bool true ∧ Gr h0 h') := by
  refine ACall.wf ⟨_, Try.func10, rfl, by kernel_rfl⟩ fun wf0 => ?_
  refine ACall.of_wp (c := (.seq (.region 0 (opsOf Try.f10 0) false) (.seq (.region 1 (opsOf Try.f10 1) false) (.seq (.seq (.region 2 (opsOf Try.f10 2) false) (.cond (.tmp 39) (.seq (.region 3 (opsOf Try.f10 3) false) .ret) .skip)) (.seq (.seq (.region 4 (opsOf Try.f10 4) false) (.cond (.tmp 62) (.seq (.region 5 (opsOf Try.f10 5) false) .ret) .skip)) (.seq (.seq (.region 6 (opsOf Try.f10 6) false) (.cond (.tmp 78) (.seq (.region 7 (opsOf Try.f10 7) false) .ret) .skip)) (.seq (.region 8 (opsOf Try.f10 8) false) (.seq (.seq (.region 9 (opsOf Try.f10 9) false) (.cond (.tmp 129) (.seq (.region 10 (opsOf Try.f10 10) false) .ret) .skip)) (.seq (.region 11 (opsOf Try.f10 11) false) .ret))))))))) 145 [.tmp 0] Try.func10 (by kernel_rfl) rfl rfl (by kernel_rfl) fun a hn hd ha => ?_
  obtain ⟨⟨z3, z11⟩, ⟨z12, z13⟩, z19⟩ := ewz
  rw [wpA_seq, wpA_region]
  refine opsM.at (rfl : #[_] = _) (rfl : [_] = _) ?_
  simp (disch := first | omega | decide) only [push_cast, ↓reduceIte, Nat.reduceLT, Nat.reduceEqDiff, reduceCtorEq, Nat.reduceAdd, hn, hd]
  refine opsM.at (rfl : #[_, _, _] = _) (rfl : [_, _, _] = _) ?_
  have g1 := (Gr.refl wf0).new (.row [.int .u32 1, .int .u32 0, .int .u32 5] 48 true)
  have hsl : SlOf (h0.new (.row [.int .u32 1, .int .u32 0, .int .u32 5] 48 true)) (.slice (some ⟨h0.next, 0, none⟩) 3 3) (([1, 0, 5] : List Int).map (.int .u32)) := SlOf.lit (A := h0.next) (by rw [AH.new_get, if_pos rfl]) rfl rfl
  have hN := newN g1.wf hsl (by decide) (by decide)
  simp (disch := first | omega | decide) only [push_cast, ↓reduceIte, Nat.reduceLT, Nat.reduceEqDiff, reduceCtorEq, Nat.reduceAdd, hn, hd, aBuildU3]
  generalize h0.new (.row [.int .u32 1, .int .u32 0, .int .u32 5] 48 true) = b at g1 hN ⊢
  have wb := g1.wf
  refine ACall.mono ?_ hN
  rintro _ hA ⟨nm, ob, rfl, r⟩
  have r : QR b hA w0 nm ob := r
  obtain ⟨A, q⟩ : ∃ A, nm 0 = A := ⟨_, rfl⟩
  rw [q]
  simp (disch := first | omega | decide) only [push_cast, ↓reduceIte, Nat.reduceLT, Nat.reduceEqDiff, reduceCtorEq, Nat.reduceAdd, hn, hd]
  refine opsM.at (rfl : #[_, _, _, _, _, _, _, _, _, _, _, _, _, _, _, _, _, _, _, _, _, _, _, _, _, _, _, _, _, _, _, _, _] = _) (rfl : [_, _, _, _, _, _, _, _, _, _, _, _, _, _, _, _, _, _, _, _, _, _, _, _, _, _, _, _, _, _, _, _, _] = _) ?_
  have c := evaluateN wb r (i := 3)
  rw [q] at c
  unfold vA at c
  simp (disch := first | omega | decide) only [push_cast, ↓reduceIte, Nat.reduceLT, Nat.reduceEqDiff, reduceCtorEq, Nat.reduceAdd, hn, hd, vA, buildE2, buildE3]
  refine ACall.mono ?_ c
  rintro _ hA ⟨rfl, ob, r, rs⟩
  clear rs
  clear c
  rw [if_pos (by decide)] at r
  have r : QR b hA w1 nm ob := r
  rw [if_pos (by decide)]
  have c := threadN wb r (i := 0)
  rw [q] at c
  unfold vA at c
  simp (disch := first | omega | decide) only [push_cast, ↓reduceIte, Nat.reduceLT, Nat.reduceEqDiff, reduceCtorEq, Nat.reduceAdd, hn, hd, vA, buildE2, buildE3]
  refine ACall.mono ?_ c
  rintro _ hA ⟨rfl, ob, r, rs⟩
  clear rs
  clear c
  rw [if_pos (by decide)] at r
  have r : QR b hA w2 nm ob := r
  rw [if_pos (by decide)]
  have c := evaluateN wb r (i := 1)
  rw [q] at c
  unfold vA at c
  simp (disch := first | omega | decide) only [push_cast, ↓reduceIte, Nat.reduceLT, Nat.reduceEqDiff, reduceCtorEq, Nat.reduceAdd, hn, hd, vA, buildE2, buildE3]
  refine ACall.mono ?_ c
  rintro _ hA ⟨rfl, ob, r, rs⟩
  clear rs
  clear c
  rw [if_pos (by decide)] at r
  have r : QR b hA w3 nm ob := r
  rw [if_pos (by decide)]
  have c := updateN wb r 0 70 z3
  rw [q] at c
  unfold vA at c
  simp (disch := first | omega | decide) only [push_cast, ↓reduceIte, Nat.reduceLT, Nat.reduceEqDiff, reduceCtorEq, Nat.reduceAdd, hn, hd, vA, buildE2, buildE3]
  refine ACall.mono ?_ c
  rintro _ hA ⟨rfl, nm, ob, r, rs⟩
  have q := rs.n0.trans q
  clear rs
  clear c
  have r : QR b hA w4 nm ob := r
  rw [ew3]
  have c := activeN' wb r
  rw [q] at c
  unfold vA at c
  simp (disch := first | omega | decide) only [push_cast, ↓reduceIte, Nat.reduceLT, Nat.reduceEqDiff, reduceCtorEq, Nat.reduceAdd, hn, hd, vA, buildE2, buildE3]
  refine ACall.mono ?_ c
  rintro _ hA ⟨rfl, g⟩
  have r := r.gr g
  clear c
  have e3 : ((listE w4).length : Int) = 3 := by rw [listE_eq, ew4]; rfl
  rw [e3]
  have c := givesN wb r 2 3 0
  rw [q] at c
  unfold vA at c
  simp (disch := first | omega | decide) only [push_cast, ↓reduceIte, Nat.reduceLT, Nat.reduceEqDiff, reduceCtorEq, Nat.reduceAdd, hn, hd, vA, buildE2, buildE3]
  refine ACall.mono ?_ c
  rintro _ hA ⟨rfl, nm, ob, r, rs⟩
  have q := rs.n0.trans q
  clear rs
  clear c
  rw [nextS_eq] at r
  have r : QR b hA w5 nm ob := r
  rw [nextS_eq, ew5]
  have c := givesN wb r 2 1 0
  rw [q] at c
  unfold vA at c
  simp (disch := first | omega | decide) only [push_cast, ↓reduceIte, Nat.reduceLT, Nat.reduceEqDiff, reduceCtorEq, Nat.reduceAdd, hn, hd, vA, buildE2, buildE3]
  refine ACall.mono ?_ c
  rintro _ hA ⟨rfl, nm, ob, r, rs⟩
  have q := rs.n0.trans q
  clear rs
  clear c
  rw [nextS_eq] at r
  have r : QR b hA w6 nm ob := r
  rw [nextS_eq, ew6]
  simp (disch := first | omega | decide) only [push_cast, ↓reduceIte, Nat.reduceLT, Nat.reduceEqDiff, reduceCtorEq, Nat.reduceAdd, hn, hd]
  refine opsM.at (rfl : #[_, _, _, _, _, _, _, _, _, _, _, _, _, _, _, _, _, _, _, _, _, _, _] = _) (rfl : [_, _, _, _, _, _, _, _, _, _, _, _, _, _, _, _, _, _, _, _, _, _, _] = _) ?_
  have c := inactiveN wb r (i := 2)
  rw [q] at c
  unfold vA at c
  simp (disch := first | omega | decide) only [push_cast, ↓reduceIte, Nat.reduceLT, Nat.reduceEqDiff, reduceCtorEq, Nat.reduceAdd, hn, hd, vA, buildE2, buildE3]
  refine ACall.mono ?_ c
  rintro _ hA ⟨rfl, ob, r, rs⟩
  clear rs
  clear c
  rw [if_pos (by decide)] at r
  have r : QR b hA w7 nm ob := r
  rw [if_pos (by decide)]
  have c := givesN wb r 3 0 0
  rw [q] at c
  unfold vA at c
  simp (disch := first | omega | decide) only [push_cast, ↓reduceIte, Nat.reduceLT, Nat.reduceEqDiff, reduceCtorEq, Nat.reduceAdd, hn, hd, vA, buildE2, buildE3]
  refine ACall.mono ?_ c
  rintro _ hA ⟨rfl, nm, ob, r, rs⟩
  have q := rs.n0.trans q
  clear rs
  clear c
  rw [nextS_eq] at r
  have r : QR b hA w8 nm ob := r
  rw [nextS_eq, ew8]
  have c := givesN wb r 3 2 0
  rw [q] at c
  unfold vA at c
  simp (disch := first | omega | decide) only [push_cast, ↓reduceIte, Nat.reduceLT, Nat.reduceEqDiff, reduceCtorEq, Nat.reduceAdd, hn, hd, vA, buildE2, buildE3]
  refine ACall.mono ?_ c
  rintro _ hA ⟨rfl, nm, ob, r, rs⟩
  have q := rs.n0.trans q
  clear rs
  clear c
  rw [nextS_eq] at r
  have r : QR b hA w9 nm ob := r
  rw [nextS_eq, ew9]
  have c := givesN wb r 4 0 70
  rw [q] at c
  unfold vA at c
  simp (disch := first | omega | decide) only [push_cast, ↓reduceIte, Nat.reduceLT, Nat.reduceEqDiff, reduceCtorEq, Nat.reduceAdd, hn, hd, vA, buildE2, buildE3]
  refine ACall.mono ?_ c
  rintro _ hA ⟨rfl, nm, ob, r, rs⟩
  have q := rs.n0.trans q
  clear rs
  clear c
  rw [nextS_eq] at r
  have r : QR b hA w10 nm ob := r
  rw [nextS_eq, ew10]
  have c := overN wb r
  rw [q] at c
  unfold vA at c
  simp (disch := first | omega | decide) only [push_cast, ↓reduceIte, Nat.reduceLT, Nat.reduceEqDiff, reduceCtorEq, Nat.reduceAdd, hn, hd, vA, buildE2, buildE3]
  refine ACall.mono ?_ c
  rintro _ hA ⟨rfl, nm, ob, r, rs⟩
  have q := rs.n0.trans q
  clear rs
  clear c
  rw [nextS_eq] at r
  have r : QR b hA w11 nm ob := r
  rw [nextS_eq, ew11]
  simp (disch := first | omega | decide) only [push_cast, ↓reduceIte, Nat.reduceLT, Nat.reduceEqDiff, reduceCtorEq, Nat.reduceAdd, hn, hd]
  refine opsM.at (rfl : #[_, _, _, _, _, _, _, _, _, _, _, _, _, _, _, _] = _) (rfl : [_, _, _, _, _, _, _, _, _, _, _, _, _, _, _, _] = _) ?_
  have c := atN wb r 5 ⟨1, 4, 8⟩ z11
  rw [q] at c
  unfold vA at c
  simp (disch := first | omega | decide) only [push_cast, ↓reduceIte, Nat.reduceLT, Nat.reduceEqDiff, reduceCtorEq, Nat.reduceAdd, hn, hd, vA, buildE2, buildE3]
  refine ACall.mono ?_ c
  rintro _ hA ⟨rfl, nm, ob, r, rs⟩
  have q := rs.n0.trans q
  clear rs
  clear c
  have r : QR b hA w12 nm ob := r
  rw [ew12]
  have c := atN wb r 3 ⟨3, 1, 0⟩ z12
  rw [q] at c
  unfold vA at c
  simp (disch := first | omega | decide) only [push_cast, ↓reduceIte, Nat.reduceLT, Nat.reduceEqDiff, reduceCtorEq, Nat.reduceAdd, hn, hd, vA, buildE2, buildE3]
  refine ACall.mono ?_ c
  rintro _ hA ⟨rfl, nm, ob, r, rs⟩
  have q := rs.n0.trans q
  clear rs
  clear c
  have r : QR b hA w13 nm ob := r
  rw [ew13]
  have c := atN wb r 9 ⟨1, 4, 9⟩ z13
  rw [q] at c
  unfold vA at c
  simp (disch := first | omega | decide) only [push_cast, ↓reduceIte, Nat.reduceLT, Nat.reduceEqDiff, reduceCtorEq, Nat.reduceAdd, hn, hd, vA, buildE2, buildE3]
  refine ACall.mono ?_ c
  rintro _ hA ⟨rfl, nm, ob, r, rs⟩
  have q := rs.n0.trans q
  clear rs
  clear c
  have r : QR b hA w14 nm ob := r
  rw [ew14]
  simp (disch := first | omega | decide) only [push_cast, ↓reduceIte, Nat.reduceLT, Nat.reduceEqDiff, reduceCtorEq, Nat.reduceAdd, hn, hd]
  refine opsM.at (rfl : #[_, _, _, _, _, _, _, _, _] = _) (rfl : [_, _, _, _, _, _, _, _, _] = _) ?_
  have c := pendingN r 4
  rw [q] at c
  unfold vA at c
  simp (disch := first | omega | decide) only [push_cast, ↓reduceIte, Nat.reduceLT, Nat.reduceEqDiff, reduceCtorEq, Nat.reduceAdd, hn, hd, vA, buildE2, buildE3]
  refine ACall.mono ?_ c
  rintro _ hA ⟨rfl, rfl⟩
  clear c
  rw [ewp]
  simp (disch := first | omega | decide) only [push_cast, ↓reduceIte, Nat.reduceLT, Nat.reduceEqDiff, reduceCtorEq, Nat.reduceAdd, hn, hd]
  refine opsM.at (rfl : #[_, _, _, _, _, _, _, _, _, _, _, _, _, _, _, _, _, _, _, _, _, _, _, _, _, _, _, _, _, _, _, _, _, _, _, _, _, _, _, _, _, _, _, _, _] = _) (rfl : [_, _, _, _, _, _, _, _, _, _, _, _, _, _, _, _, _, _, _, _, _, _, _, _, _, _, _, _, _, _, _, _, _, _, _, _, _, _, _, _, _, _, _, _, _] = _) ?_
  have c := leftN r
  rw [q] at c
  unfold vA at c
  simp (disch := first | omega | decide) only [push_cast, ↓reduceIte, Nat.reduceLT, Nat.reduceEqDiff, reduceCtorEq, Nat.reduceAdd, hn, hd, vA, buildE2, buildE3]
  refine ACall.mono ?_ c
  rintro _ hA ⟨rfl, g⟩
  have r := r.gr g
  clear c
  have e2 : ((leftS w14 : Nat) : Int) = 2 := by rw [ewl]; rfl
  rw [e2]
  have c := goesN wb r 3 0
  rw [q] at c
  unfold vA at c
  simp (disch := first | omega | decide) only [push_cast, ↓reduceIte, Nat.reduceLT, Nat.reduceEqDiff, reduceCtorEq, Nat.reduceAdd, hn, hd, vA, buildE2, buildE3]
  refine ACall.mono ?_ c
  rintro _ hA ⟨rfl, nm, ob, r, rs⟩
  have q := rs.n0.trans q
  clear rs
  clear c
  rw [advS_eq] at r
  have r : QR b hA w15 nm ob := r
  rw [advS_eq, ew15]
  have c := givesN wb r 3 1 0
  rw [q] at c
  unfold vA at c
  simp (disch := first | omega | decide) only [push_cast, ↓reduceIte, Nat.reduceLT, Nat.reduceEqDiff, reduceCtorEq, Nat.reduceAdd, hn, hd, vA, buildE2, buildE3]
  refine ACall.mono ?_ c
  rintro _ hA ⟨rfl, nm, ob, r, rs⟩
  have q := rs.n0.trans q
  clear rs
  clear c
  rw [nextS_eq] at r
  have r : QR b hA w16 nm ob := r
  rw [nextS_eq, ew16]
  have c := goesN wb r 9 0
  rw [q] at c
  unfold vA at c
  simp (disch := first | omega | decide) only [push_cast, ↓reduceIte, Nat.reduceLT, Nat.reduceEqDiff, reduceCtorEq, Nat.reduceAdd, hn, hd, vA, buildE2, buildE3]
  refine ACall.mono ?_ c
  rintro _ hA ⟨rfl, nm, ob, r, rs⟩
  have q := rs.n0.trans q
  clear rs
  clear c
  rw [advS_eq] at r
  have r : QR b hA w17 nm ob := r
  rw [advS_eq, ew17]
  have c := givesN wb r 1 4 9
  rw [q] at c
  unfold vA at c
  simp (disch := first | omega | decide) only [push_cast, ↓reduceIte, Nat.reduceLT, Nat.reduceEqDiff, reduceCtorEq, Nat.reduceAdd, hn, hd, vA, buildE2, buildE3]
  refine ACall.mono ?_ c
  rintro _ hA ⟨rfl, nm, ob, r, rs⟩
  have q := rs.n0.trans q
  clear rs
  clear c
  rw [nextS_eq] at r
  have r : QR b hA w18 nm ob := r
  rw [nextS_eq, ew18]
  have c := goesN wb r 0 8
  rw [q] at c
  unfold vA at c
  simp (disch := first | omega | decide) only [push_cast, ↓reduceIte, Nat.reduceLT, Nat.reduceEqDiff, reduceCtorEq, Nat.reduceAdd, hn, hd, vA, buildE2, buildE3]
  refine ACall.mono ?_ c
  rintro _ hA ⟨rfl, nm, ob, r, rs⟩
  have q := rs.n0.trans q
  clear rs
  clear c
  rw [advS_eq] at r
  have r : QR b hA w19 nm ob := r
  rw [advS_eq, ew19]
  have c := nowN r
  rw [q] at c
  unfold vA at c
  simp (disch := first | omega | decide) only [push_cast, ↓reduceIte, Nat.reduceLT, Nat.reduceEqDiff, reduceCtorEq, Nat.reduceAdd, hn, hd, vA, buildE2, buildE3]
  refine ACall.mono ?_ c
  rintro _ hA ⟨rfl, rfl⟩
  clear c
  rw [ewn]
  simp (disch := first | omega | decide) only [push_cast, ↓reduceIte, Nat.reduceLT, Nat.reduceEqDiff, reduceCtorEq, Nat.reduceAdd, hn, hd]
  refine opsM.at (rfl : #[_, _, _, _, _, _, _, _, _, _, _, _, _, _, _, _] = _) (rfl : [_, _, _, _, _, _, _, _, _, _, _, _, _, _, _, _] = _) ?_
  have c := atN wb r 8 ⟨3, 1, 0⟩ z19
  rw [q] at c
  unfold vA at c
  simp (disch := first | omega | decide) only [push_cast, ↓reduceIte, Nat.reduceLT, Nat.reduceEqDiff, reduceCtorEq, Nat.reduceAdd, hn, hd, vA, buildE2, buildE3]
  refine ACall.mono ?_ c
  rintro _ hA ⟨rfl, nm, ob, r, rs⟩
  have q := rs.n0.trans q
  clear rs
  clear c
  rw [ewa.2] at r
  rw [ewa.1]
  have c := atN wb r 9 ⟨2, 1, 0⟩ z19
  rw [q] at c
  unfold vA at c
  simp (disch := first | omega | decide) only [push_cast, ↓reduceIte, Nat.reduceLT, Nat.reduceEqDiff, reduceCtorEq, Nat.reduceAdd, hn, hd, vA, buildE2, buildE3]
  refine ACall.mono ?_ c
  rintro _ hA ⟨rfl, nm, ob, r, rs⟩
  have q := rs.n0.trans q
  clear rs
  clear c
  rw [ewb.2] at r
  rw [ewb.1]
  have c := cancelN wb r 4
  rw [q] at c
  unfold vA at c
  simp (disch := first | omega | decide) only [push_cast, ↓reduceIte, Nat.reduceLT, Nat.reduceEqDiff, reduceCtorEq, Nat.reduceAdd, hn, hd, vA, buildE2, buildE3]
  refine ACall.mono ?_ c
  rintro _ hA ⟨rfl, ob, r, rs⟩
  clear rs
  clear c
  rw [ewc]
  simp (disch := first | omega | decide) only [push_cast, ↓reduceIte, Nat.reduceLT, Nat.reduceEqDiff, reduceCtorEq, Nat.reduceAdd, hn, hd]
  exact g1.trans r.own.gr

end Go.Ab.Q
