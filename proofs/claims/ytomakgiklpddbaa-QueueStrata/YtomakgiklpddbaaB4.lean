/- The queue, plainly: Next; QueueStrata. The queue, plainly: QueueStrata, its second half. netlablaw16.QueueStrata: its loops. netlablaw16.QueueStrata returns true. The arguments of the queue's laws, opened. -/
import Derived.Test.YtomakgiklpddbaaB3
import Derived.Carry
set_option linter.unusedSimpArgs false
set_option linter.unusedVariables false
namespace Go.Ab.Q
open Go.Proofs
set_option linter.unusedSimpArgs false
set_option linter.unusedVariables false
set_option maxRecDepth 100000
set_option maxHeartbeats 4000000
attribute [local push_cast] wpA_skip wpA_ret wpA_exit wpA_seq wpA_block wpA_cond2 andK_true wpA_region wpA_draw wpA_loop thenQ_normal thenQ_ret thenQ_exit blockQ_normal blockQ_ret blockQ_exit condV_true condV_false opsM_nil opsM_cons2 okM_true wantM_true wantM_false stepM seqM_cons2 seqM_nil2 okS_true wantS_true wantS_false stepS skipS okB Keeps_nil contK_app List.zip_cons_cons List.zip_nil_left List.zip_nil_right Op.operands Call.operands Array.toList_append List.append_nil List.nil_append List.all_cons List.all_nil cOK plain put_n put_tm put_none put_df ev_tmp ev_const ev_func wanted_none wanted_some callR_func dop ex_some1 aBuiltin aBin intBin aUn Option.map_some Bool.and_true Bool.true_and Bool.and_self List.map_cons List.map_nil List.toList_toArray List.getElem?_toArray List.getElem?_cons_zero List.getElem?_cons_succ Option.getD_some Option.getD_none Bool.false_eq_true eq_self_iff_true decide_true decide_false List.cons_append aExtract resL resV List.getD_cons_zero List.getD_cons_succ List.getD_nil Nat.succ_ne_self g1 g2 yieldedA2 isB_bool isB_undef g3 Option.bind_some Option.bind_none bne_self_eq_false beq_self_eq_true Bool.not_true Bool.not_false Int.toNat_natCast List.length_map List.mem_cons List.not_mem_nil or_false not_false_eq_true decide_not Bool.not_not bodyR_ret2 bodyR_normal2 closeMarks_nil ex_some0 Nat.zero_add Nat.add_zero ieq ine List.map_toArray Option.toArray_none Option.toArray_some oev Keeps_cons Still_eq selL wpX_skip wpX_ret wpX_exit wpX_seq wpX_block wpX_cond wpX_region wpX_draw wpX_loop List.take_succ_cons List.take_zero List.drop_succ_cons List.drop_zero Int.zero_add Int.add_zero aNil if_true if_false true_and and_true

theorem listE_length (s : QS) : (listE s).length = s.drives.length + s.evals.length + s.threads.length + (heads s.ready).length := by
  unfold listE
  simp only [List.length_append, List.length_map, keysL_len]
  omega

theorem heads_nil {l : List (List Ev)} : heads l = [] ↔ ∀ j, l.getD j [] = [] := by
  constructor
  · intro h
    induction l with
    | nil => intro j; rfl
    | cons x l ih =>
      cases x with
      | nil =>
        intro j
        cases j with
        | zero => rfl
        | succ j => exact ih h j
      | cons y t => exact absurd h (by simp [heads])
  · intro h
    induction l with
    | nil => rfl
    | cons x l ih =>
      have h0 := h 0
      rw [List.getD_cons_zero] at h0
      subst h0
      exact ih (fun j => h (j + 1))
theorem heads_sum {l : List (List Ev)} : heads l = [] ↔ sumL List.length l = 0 := by
  induction l with
  | nil => exact ⟨fun _ => rfl, fun _ => rfl⟩
  | cons x l ih =>
    cases x with
    | nil => simp only [heads, sumL, List.length_nil, Nat.zero_add]; exact ih
    | cons y t => simp [heads, sumL]

theorem QOK.act1 {s : QS} (o : QOK s) : QOK (act1 s) := by
  unfold Go.Ab.Q.act1
  split
  · exact { o with kt := o.kq, kq := o.kt }
  · exact o
theorem QOK.act2 {s : QS} (o : QOK s) : QOK (act2 s) := by
  unfold Go.Ab.Q.act2
  split
  · have hfix : ∀ x ∈ s.waiting, x.index.toNat < s.ready.length := fun x hx => by have := o.wi x hx; have := o.rl; omega
    have hsum := pour_sum s.waiting s.ready hfix
    have hh := o.held
    have hh2 : s.held = ((([] : List Ev).length : Nat) : Int) + (sumL List.length (pour s.ready s.waiting) : Nat) + (sumL (fun p => p.2.updates.length) s.later : Nat) := by
      rw [hsum, hh]; simp; omega
    have hri : ∀ i, i < 64 → ∀ x ∈ (pour s.ready s.waiting).getD i [], x.index = i ∧ x.kind = 4 := by
      intro i hi x hx
      rcases pour_mem _ _ _ _ hx with hx | ⟨hx, e⟩
      · exact o.ri i hi x hx
      · have := o.wi x hx; exact ⟨by omega, this.2.2⟩
    exact { o with rl := by rw [pour_len]; exact o.rl, held := hh2, wi := fun x hx => (nomatch hx), ri := hri }
  · exact o
theorem QOK.act {s : QS} (o : QOK s) : QOK (actS s) := o.act1.act2

theorem next_some {s : QS} (o : QOK s) (h : listE (actS s) ≠ []) : ∃ x, x ∈ listE (actS s) ∧ Act (actS s) x ∧ nextS s = (x, true, remS { actS s with left := (actS s).left.tail } x) := by
  have hl : 0 < (listE (actS s)).length := by
    cases hE : listE (actS s) with
    | nil => exact absurd hE h
    | cons x l => simp
  have hp := pickS_lt o.act (n := (listE (actS s)).length) (by omega)
  have hlt : (pickS (actS s) (listE (actS s)).length).toNat < (listE (actS s)).length := by omega
  have hm : (listE (actS s)).getD (pickS (actS s) (listE (actS s)).length).toNat v0 ∈ listE (actS s) := by
    rw [List.getD_eq_getElem?_getD, List.getElem?_eq_getElem hlt]; exact List.getElem_mem hlt
  exact ⟨_, hm, act_of o.act hm, by unfold nextS; rw [if_neg h]⟩
theorem next_none {s : QS} (h : listE (actS s) = []) : nextS s = (v0, false, actS s) := by unfold nextS; rw [if_pos h]
theorem act_same {s : QS} (h : listE s ≠ []) : actS s = s := by
  have h1 : act1 s = s := by unfold act1; rw [if_neg h]
  unfold actS; rw [h1]; unfold act2; rw [if_neg h]

theorem adel_len {α : Type} {k : Int} : ∀ {l : List (Int × α)}, (∃ p ∈ l, p.1 = k) → (adel k l).length + 1 = l.length := by
  intro l
  induction l with
  | nil => rintro ⟨p, h, _⟩; cases h
  | cons q l ih =>
    rintro ⟨p, h, e⟩
    by_cases hq : q.1 = k
    · simp only [adel, if_pos hq, List.length_cons]
    · simp only [adel, if_neg hq, List.length_cons]
      have : (adel k l).length + 1 = l.length := ih ⟨p, by
        rcases List.mem_cons.1 h with rfl | h
        · exact absurd e hq
        · exact h, e⟩
      omega
theorem aput_len2 {α : Type} {k : Int} {x : α} {l : List (Int × α)} (h : ∀ p ∈ l, p.1 ≠ k) : (aput k x l).length = l.length + 1 := by
  have : aget k l = none := aget_none.2 (fun hm => by
    obtain ⟨p, hp, e⟩ := List.mem_map.1 hm
    exact h p hp e)
  rw [aput_new x this, List.length_append]; rfl

/-! ### QueueStrata -/

/-- Nothing but threads, evaluations, quiet and waiting ones. -/
structure SA (s : QS) : Prop where
  ok : QOK s
  d : s.drives = []
  l : s.later = []

def eU : Ev := ⟨4, 5, 99⟩

structure I0 (s : QS) (i : Nat) : Prop extends SA s where
  e : s.evals = []
  t : s.threads = []
  q : s.quiet = []
  r : heads s.ready = []
  w : s.waiting.length = i
structure I2 (s : QS) (c i : Nat) : Prop extends SA s where
  e : s.evals = []
  t : s.threads = []
  q : s.quiet.length = i
  qk : ∀ p ∈ s.quiet, 20 ≤ p.1 ∧ p.1 < 20 + i
  r : heads s.ready = []
  w : s.waiting.length = c
structure I4 (s : QS) (c b i : Nat) : Prop extends SA s where
  e : s.evals.length = i
  ek : ∀ p ∈ s.evals, 0 ≤ p.1 ∧ p.1 < i
  t : s.threads.length = i
  tk : ∀ p ∈ s.threads, 0 ≤ p.1 ∧ p.1 < i
  q : s.quiet.length = b
  qk : ∀ p ∈ s.quiet, 20 ≤ p.1
  r : heads s.ready = []
  w : s.waiting.length = c
structure I6 (s : QS) (c b n : Nat) : Prop extends SA s where
  e : s.evals.length + s.threads.length = n
  tk : ∀ p ∈ s.threads, p.1 < 20
  q : s.quiet.length = b
  qk : ∀ p ∈ s.quiet, 20 ≤ p.1
  r : heads s.ready = []
  w : s.waiting.length = c
/-- Of the quiet threads n are left. -/
structure I8 (s : QS) (c n : Nat) : Prop extends SA s where
  e : s.evals = []
  t : (s.threads = [] ∧ s.quiet.length = n ∧ ∀ p ∈ s.quiet, 20 ≤ p.1) ∨ (s.quiet = [] ∧ s.threads.length = n ∧ ∀ p ∈ s.threads, 20 ≤ p.1)
  r : heads s.ready = []
  w : s.waiting.length = c
/-- Of the updates n are left; i others wait. -/
structure I10 (s : QS) (n i : Nat) : Prop extends SA s where
  e : s.evals = []
  t : s.threads = []
  q : s.quiet = []
  r : (heads s.ready = [] ∧ s.waiting.length = n ∧ i = 0) ∨ (sumL List.length s.ready = n ∧ s.waiting = List.replicate i eU)
structure I12 (s : QS) (n : Nat) : Prop extends SA s where
  e : s.evals = []
  t : s.threads = []
  q : s.quiet = []
  r : (heads s.ready = [] ∧ s.waiting = List.replicate n eU) ∨ (s.waiting = [] ∧ s.ready.getD 5 [] = List.replicate n eU ∧ ∀ j, j ≠ 5 → s.ready.getD j [] = [])

theorem SA.held {s : QS} (a : SA s) : s.held = s.waiting.length + (sumL List.length s.ready : Nat) := by
  have := a.ok.held
  rw [a.l] at this
  simpa [sumL] using this

theorem upd_ok {s : QS} (a : SA s) {i tag : Int} (hi : 0 ≤ i ∧ i < 64) (hh : s.held < 20000) : atE s s.now ⟨4, i, tag⟩ = 0 ∧ atS s s.now ⟨4, i, tag⟩ = { s with held := s.held + 1, waiting := s.waiting ++ [⟨4, i, tag⟩] } := by
  have h0 := a.ok.now0
  have h1 := a.ok.now1
  have e : atE s s.now ⟨4, i, tag⟩ = 0 := by
    have k : kOK 4 = true := rfl
    have b : atBad s s.now ⟨4, i, tag⟩ = false := decide_eq_false (by show ¬ (¬ (0 ≤ i ∧ i < 64) ∨ s.now < s.now ∨ 1000000000000 < s.now); omega)
    have f : atFull s ⟨4, i, tag⟩ = false := decide_eq_false (by show ¬ ((4 : Int) = 4 ∧ 20000 ≤ s.held); omega)
    unfold atE
    rw [if_neg (by rw [k]; simp), if_neg (by rw [b]; simp), if_neg (by rw [f]; simp)]
  refine ⟨e, ?_⟩
  unfold atS
  rw [if_pos e]
  unfold at1
  rw [if_neg (by show ¬ ((4 : Int) = 1); decide), if_neg (by show ¬ ((4 : Int) = 3); decide), if_pos rfl]
theorem SA.wait {s : QS} (a : SA s) {i tag : Int} (hi : 0 ≤ i ∧ i < 64) (hh : s.held < 20000) : SA { s with held := s.held + 1, waiting := s.waiting ++ [⟨4, i, tag⟩] } :=
  ⟨a.ok.wait (x := ⟨4, i, tag⟩) ⟨hi.1, hi.2, rfl⟩ hh, a.d, a.l⟩

theorem st0 {l : List Int} (hb : l.length ≤ 1000) (hu : ∀ x ∈ l, 0 ≤ x ∧ x < 4294967296) : I0 (newS l) 0 := ⟨⟨newS_ok hb hu, rfl, rfl⟩, rfl, rfl, rfl, (by decide : heads (List.replicate 64 ([] : List Ev)) = []), rfl⟩
theorem I0.up {s : QS} {i : Nat} (x : I0 s i) (hi : i < 10) {k tag : Int} (hk : 0 ≤ k ∧ k < 64) : atE s s.now ⟨4, k, tag⟩ = 0 ∧ I0 (atS s s.now ⟨4, k, tag⟩) (i + 1) := by
  have hh : s.held < 20000 := by have := x.held; have := heads_sum.1 x.r; have := x.w; omega
  obtain ⟨h1, h2⟩ := upd_ok x.toSA (tag := tag) hk hh
  refine ⟨h1, ?_⟩
  rw [h2]
  exact ⟨x.wait hk hh, x.e, x.t, x.q, x.r, by simp [x.w]⟩
theorem I0.to {s : QS} {c : Nat} (x : I0 s c) : I2 s c 0 := ⟨x.toSA, x.e, x.t, by rw [x.q]; rfl, (fun p hp => by rw [x.q] at hp; cases hp), x.r, x.w⟩
theorem I2.up {s : QS} {c i : Nat} (x : I2 s c i) (hi : i < 10) : I2 { s with quiet := aput (20 + i) true s.quiet } c (i + 1) := by
  have hne : ∀ p ∈ s.quiet, p.1 ≠ 20 + (i : Int) := fun p hp => by have := x.qk p hp; omega
  refine ⟨⟨{ x.ok with kq := fun p hp => ?_ }, x.d, x.l⟩, x.e, x.t, ?_, fun p hp => ?_, x.r, x.w⟩
  · rcases mem_aput hp with rfl | hp
    · exact ⟨by show (0 : Int) ≤ 20 + i; omega, by show (20 + i : Int) < 64; omega⟩
    · exact x.ok.kq p hp
  · show (aput _ _ _).length = _; rw [aput_len2 hne, x.q]
  · rcases mem_aput hp with rfl | hp
    · exact ⟨by show (20 : Int) ≤ 20 + i; omega, by show (20 + i : Int) < 20 + (i + 1 : Nat); omega⟩
    · have := x.qk p hp; omega
theorem I2.to {s : QS} {c b : Nat} (x : I2 s c b) : I4 s c b 0 := ⟨x.toSA, by rw [x.e]; rfl, (fun p hp => by rw [x.e] at hp; cases hp), by rw [x.t]; rfl, (fun p hp => by rw [x.t] at hp; cases hp), x.q, fun p hp => (x.qk p hp).1, x.r, x.w⟩
theorem I4.up {s : QS} {c b i : Nat} (x : I4 s c b i) (hi : i < 10) : I4 { s with evals := aput i true s.evals, threads := aput i true s.threads } c b (i + 1) := by
  have hne1 : ∀ p ∈ s.evals, p.1 ≠ (i : Int) := fun p hp => by have := x.ek p hp; omega
  have hne2 : ∀ p ∈ s.threads, p.1 ≠ (i : Int) := fun p hp => by have := x.tk p hp; omega
  refine ⟨⟨{ x.ok with ke := fun p hp => ?_, kt := fun p hp => ?_ }, x.d, x.l⟩, ?_, fun p hp => ?_, ?_, fun p hp => ?_, x.q, x.qk, x.r, x.w⟩
  · rcases mem_aput hp with rfl | hp
    · exact ⟨by show (0 : Int) ≤ i; omega, by show (i : Int) < 64; omega⟩
    · exact x.ok.ke p hp
  · rcases mem_aput hp with rfl | hp
    · exact ⟨by show (0 : Int) ≤ i; omega, by show (i : Int) < 64; omega⟩
    · exact x.ok.kt p hp
  · show (aput _ _ _).length = _; rw [aput_len2 hne1, x.e]
  · rcases mem_aput hp with rfl | hp
    · exact ⟨by show (0 : Int) ≤ i; omega, by show (i : Int) < (i + 1 : Nat); omega⟩
    · have := x.ek p hp; omega
  · show (aput _ _ _).length = _; rw [aput_len2 hne2, x.t]
  · rcases mem_aput hp with rfl | hp
    · exact ⟨by show (0 : Int) ≤ i; omega, by show (i : Int) < (i + 1 : Nat); omega⟩
    · have := x.tk p hp; omega
theorem I4.to {s : QS} {c b a : Nat} (x : I4 s c b a) (ha : a < 10) : I6 s c b (2 * a) := ⟨x.toSA, by rw [x.e, x.t]; omega, fun p hp => by have := x.tk p hp; omega, x.q, x.qk, x.r, x.w⟩

theorem SA.rem {s : QS} (a : SA s) {x : Ev} (h : Act s x) : SA (remS { s with left := s.left.tail } x) := by
  have o : QOK { s with left := s.left.tail } := { a.ok with left := by have := a.ok.left; show s.left.tail.length ≤ _; rw [List.length_tail]; omega, uu := fun y hy => a.ok.uu y (List.mem_of_mem_tail hy) }
  have h' : Act { s with left := s.left.tail } x := by cases h with
    | drive a b => exact .drive a b
    | eval a b => exact .eval a b
    | thread a b => exact .thread a b
    | update a j t b c d => exact .update a j t b c d
  refine ⟨o.rem h', ?_, ?_⟩
  · have ed := a.d
    unfold remS
    split
    · show adel _ s.drives = []; rw [ed]; rfl
    split
    · exact ed
    split
    · exact ed
    · exact ed
  · have el := a.l
    unfold remS
    split
    · exact el
    split
    · exact el
    split
    · exact el
    · exact el

theorem I6.next {s : QS} {c b n : Nat} (x : I6 s c b (n + 1)) : ∃ y, nextS s = (y, true, remS { s with left := s.left.tail } y) ∧ y.kind ≠ 4 ∧ ¬ (y.kind = 3 ∧ y.index ≥ 20) ∧ I6 (remS { s with left := s.left.tail } y) c b n := by
  have hl : listE s ≠ [] := fun e => by
    have := listE_length s
    rw [e, x.d, x.r] at this
    have := x.e
    simp at *; omega
  have hs := act_same hl
  obtain ⟨y, hy, ha, hn⟩ := next_some x.ok (by rw [hs]; exact hl)
  rw [hs] at hn ha
  refine ⟨y, hn, ?_⟩
  have sa := x.rem ha
  cases ha with
  | drive hk hi => obtain ⟨p, hp, _⟩ := hi; rw [x.d] at hp; cases hp
  | eval hk hi =>
    have er : remS { s with left := s.left.tail } y = { s with left := s.left.tail, evals := adel y.index s.evals } := by unfold remS; rw [if_neg (by omega), if_pos hk]
    refine ⟨by omega, by omega, ?_⟩
    have hd := adel_len hi
    have := x.e
    refine ⟨sa, ?_, ?_, ?_, ?_, ?_, ?_⟩ <;> rw [er]
    · show (adel y.index s.evals).length + s.threads.length = n; omega
    · exact x.tk
    · exact x.q
    · exact x.qk
    · exact x.r
    · exact x.w
  | thread hk hi =>
    have er : remS { s with left := s.left.tail } y = { s with left := s.left.tail, threads := adel y.index s.threads } := by unfold remS; rw [if_neg (by omega), if_neg (by omega), if_pos hk]
    obtain ⟨p, hp, hpi⟩ := hi
    have h20 := x.tk p hp
    refine ⟨by omega, by omega, ?_⟩
    have hd := adel_len ⟨p, hp, hpi⟩
    have := x.e
    refine ⟨sa, ?_, ?_, ?_, ?_, ?_, ?_⟩ <;> rw [er]
    · show s.evals.length + (adel y.index s.threads).length = n; omega
    · exact fun p hp => x.tk p (mem_adel hp)
    · exact x.q
    · exact x.qk
    · exact x.r
    · exact x.w
  | update hk j t hj hi hr => rw [heads_nil.1 x.r j] at hr; cases hr

theorem I6.to {s : QS} {c b : Nat} (x : I6 s c b 0) : I8 s c b := by
  have := x.e
  exact ⟨x.toSA, List.eq_nil_of_length_eq_zero (by omega), .inl ⟨List.eq_nil_of_length_eq_zero (by omega), x.q, x.qk⟩, x.r, x.w⟩


theorem SA.swap {s : QS} (a : SA s) : SA (swapT s) := ⟨{ a.ok with kt := a.ok.kq, kq := a.ok.kt }, a.d, a.l⟩

theorem listE_nil {s : QS} (a : SA s) (he : s.evals = []) (ht : s.threads = []) (hr : heads s.ready = []) : listE s = [] := by
  have := listE_length s
  rw [a.d, he, ht, hr] at this
  exact List.eq_nil_of_length_eq_zero (by simpa using this)
theorem listE_ne {s : QS} (h : 0 < s.threads.length ∨ heads s.ready ≠ []) : listE s ≠ [] := fun e => by
  have := listE_length s
  rw [e] at this
  rcases h with h | h
  · rw [List.length_nil] at this; omega
  · have h2 : (heads s.ready).length ≠ 0 := fun e => h (List.eq_nil_of_length_eq_zero e)
    rw [List.length_nil] at this; omega

theorem I8.next {s : QS} {c n : Nat} (x : I8 s c (n + 1)) : ∃ y s', nextS s = (y, true, s') ∧ y.kind = 3 ∧ 20 ≤ y.index ∧ I8 s' c n ∧ (listE s').length = n ∧ s'.quiet = [] := by
  -- the state whose threads are the quiet ones
  have key : ∀ s1 : QS, actS s = s1 → SA s1 → s1.evals = [] → s1.quiet = [] → s1.threads.length = n + 1 → (∀ p ∈ s1.threads, 20 ≤ p.1) → heads s1.ready = [] → s1.waiting.length = c →
      ∃ y s', nextS s = (y, true, s') ∧ y.kind = 3 ∧ 20 ≤ y.index ∧ I8 s' c n ∧ (listE s').length = n ∧ s'.quiet = [] := by
    intro s1 hs sa he hq ht hk hr hw
    have hne : listE s1 ≠ [] := listE_ne (.inl (by omega))
    obtain ⟨y, hy, ha, hn⟩ := next_some x.ok (by rw [hs]; exact hne)
    rw [hs] at hn ha
    have sa' := sa.rem ha
    refine ⟨y, _, hn, ?_⟩
    cases ha with
    | drive hk hi => obtain ⟨p, hp, _⟩ := hi; rw [sa.d] at hp; cases hp
    | eval hk hi => obtain ⟨p, hp, _⟩ := hi; rw [he] at hp; cases hp
    | thread hky hi =>
      have er : remS { s1 with left := s1.left.tail } y = { s1 with left := s1.left.tail, threads := adel y.index s1.threads } := by unfold remS; rw [if_neg (by omega), if_neg (by omega), if_pos hky]
      have hd := adel_len hi
      obtain ⟨p, hp, hpi⟩ := hi
      have h20 := hk p hp
      have hI : I8 (remS { s1 with left := s1.left.tail } y) c n := by
        refine ⟨sa', ?_, .inr ⟨?_, ?_, ?_⟩, ?_, ?_⟩ <;> rw [er]
        · exact he
        · exact hq
        · show (adel y.index s1.threads).length = n; omega
        · exact fun p hp => hk p (mem_adel hp)
        · exact hr
        · exact hw
      refine ⟨hky, by omega, hI, ?_, ?_⟩
      · rw [listE_length, hI.d, hI.e, hI.r, er]
        show 0 + 0 + (adel y.index s1.threads).length + 0 = n; omega
      · rw [er]; exact hq
    | update hk j t hj hi hr' => rw [heads_nil.1 hr j] at hr'; cases hr'
  rcases x.t with ⟨ht, hq, hk⟩ | ⟨hq, ht, hk⟩
  · have h0 : listE s = [] := listE_nil x.toSA x.e ht x.r
    have h1 : act1 s = swapT s := by unfold act1; rw [if_pos h0]
    have hne : listE (swapT s) ≠ [] := listE_ne (.inl (by show 0 < s.quiet.length; omega))
    have h2 : actS s = swapT s := by unfold actS; rw [h1]; unfold act2; rw [if_neg hne]
    exact key _ h2 x.swap x.e ht hq hk x.r x.w
  · have hne : listE s ≠ [] := listE_ne (.inl (by omega))
    exact key s (act_same hne) x.toSA x.e hq ht hk x.r x.w

theorem I8.to {s : QS} {c : Nat} (x : I8 s c 0) : I10 s c 0 := by
  rcases x.t with ⟨ht, hq, hk⟩ | ⟨hq, ht, hk⟩
  · exact ⟨x.toSA, x.e, ht, List.eq_nil_of_length_eq_zero hq, .inl ⟨x.r, x.w, rfl⟩⟩
  · exact ⟨x.toSA, x.e, List.eq_nil_of_length_eq_zero ht, hq, .inl ⟨x.r, x.w, rfl⟩⟩

/-- Next, where only updates are there. -/
theorem upd_next {s s1 : QS} (hs : actS s = s1) (o : QOK s) (sa : SA s1) (he : s1.evals = []) (ht : s1.threads = []) (hr : heads s1.ready ≠ []) :
    ∃ y j t, nextS s = (y, true, { s1 with left := s1.left.tail, ready := s1.ready.set j t, held := s1.held - 1 }) ∧ y.kind = 4 ∧ y.index = (j : Int) ∧ j < 64 ∧ s1.ready.getD j [] = y :: t ∧ SA { s1 with left := s1.left.tail, ready := s1.ready.set j t, held := s1.held - 1 } := by
  have hne : listE s1 ≠ [] := listE_ne (.inr hr)
  obtain ⟨y, hy, ha, hn⟩ := next_some o (by rw [hs]; exact hne)
  rw [hs] at hn ha
  have sa' := sa.rem ha
  cases ha with
  | drive hk hi => obtain ⟨p, hp, _⟩ := hi; rw [sa.d] at hp; cases hp
  | eval hk hi => obtain ⟨p, hp, _⟩ := hi; rw [he] at hp; cases hp
  | thread hk hi => obtain ⟨p, hp, _⟩ := hi; rw [ht] at hp; cases hp
  | update hk j t hj hi hrj =>
    have hj' : y.index.toNat = j := by omega
    have er : remS { s1 with left := s1.left.tail } y = { s1 with left := s1.left.tail, ready := s1.ready.set j t, held := s1.held - 1 } := by
      unfold remS
      rw [if_neg (by omega), if_neg (by omega), if_neg (by omega), hj']
      show ({ s1 with left := s1.left.tail, ready := s1.ready.set j (s1.ready.getD j []).tail, held := s1.held - 1 } : QS) = _
      rw [hrj]; rfl
    rw [er] at hn sa'
    exact ⟨y, j, t, hn, hk, hi, hj, hrj, sa'⟩

theorem act_pour {s : QS} (a : SA s) (he : s.evals = []) (ht : s.threads = []) (hq : s.quiet = []) (hr : heads s.ready = []) : actS s = { s with ready := pour s.ready s.waiting, waiting := [] } := by
  have h0 : listE s = [] := listE_nil a he ht hr
  have h1 : act1 s = s := by
    unfold act1; rw [if_pos h0]
    cases s
    simp only [swapT] at ht hq ⊢
    rw [ht, hq]
  unfold actS; rw [h1]; unfold act2; rw [if_pos h0]
theorem SA.pour {s : QS} (a : SA s) (he : s.evals = []) (ht : s.threads = []) (hq : s.quiet = []) (hr : heads s.ready = []) : SA { s with ready := pour s.ready s.waiting, waiting := [] } := by
  have e := act_pour a he ht hq hr
  have o := a.ok.act
  rw [e] at o
  exact ⟨o, a.d, a.l⟩

theorem I10.next {s : QS} {n i : Nat} (x : I10 s (n + 1) i) : ∃ y s', nextS s = (y, true, s') ∧ y.kind = 4 ∧ I10 s' n i ∧ sumL List.length s'.ready = n := by
  have key : ∀ s1 : QS, actS s = s1 → SA s1 → s1.evals = [] → s1.threads = [] → s1.quiet = [] → sumL List.length s1.ready = n + 1 → s1.waiting = List.replicate i eU → ∃ y s', nextS s = (y, true, s') ∧ y.kind = 4 ∧ I10 s' n i ∧ sumL List.length s'.ready = n := by
    intro s1 hs sa he ht hq hr hw
    obtain ⟨y, j, t, hn, hk, hi, hj, hrj, sa'⟩ := upd_next hs x.ok sa he ht (fun e => by have := heads_sum.1 e; omega)
    have hsum : sumL List.length (s1.ready.set j t) = n := by
      have := sumL_set List.length [] s1.ready j t (by rw [sa.ok.rl]; exact hj)
      rw [hrj, List.length_cons] at this
      omega
    exact ⟨y, _, hn, hk, ⟨sa', he, ht, hq, .inr ⟨hsum, hw⟩⟩, hsum⟩
  rcases x.r with ⟨hr, hw, hi⟩ | ⟨hr, hw⟩
  · subst hi
    have e := act_pour x.toSA x.e x.t x.q hr
    refine key _ e (x.toSA.pour x.e x.t x.q hr) x.e x.t x.q ?_ rfl
    show sumL List.length (Go.Ab.Q.pour s.ready s.waiting) = n + 1
    rw [pour_sum _ _ (fun y hy => by have := x.ok.wi y hy; have := x.ok.rl; omega), heads_sum.1 hr, hw]; omega
  · have hne : listE s ≠ [] := listE_ne (.inr (fun e => by have := heads_sum.1 e; omega))
    exact key s (act_same hne) x.toSA x.e x.t x.q hr hw

theorem I10.up {s : QS} {n i : Nat} (x : I10 s n i) (hn : n + i < 100) (hp : sumL List.length s.ready = n) : atE s s.now ⟨4, 5, 99⟩ = 0 ∧ I10 (atS s s.now ⟨4, 5, 99⟩) n (i + 1) := by
  have hh : s.held < 20000 := by
    have := x.held
    rcases x.r with ⟨a, b, c⟩ | ⟨a, b⟩
    · have := heads_sum.1 a; omega
    · rw [b, List.length_replicate] at this; omega
  obtain ⟨h1, h2⟩ := upd_ok x.toSA (i := 5) (tag := 99) (by decide) hh
  refine ⟨h1, ?_⟩
  rw [h2]
  refine ⟨x.wait (by decide) hh, x.e, x.t, x.q, .inr ?_⟩
  rcases x.r with ⟨a, b, c⟩ | ⟨a, b⟩
  · have n0 : n = 0 := by have := heads_sum.1 a; omega
    subst c; subst n0
    have hw : s.waiting = [] := List.eq_nil_of_length_eq_zero b
    refine ⟨heads_sum.1 a, ?_⟩
    show s.waiting ++ [⟨4, 5, 99⟩] = _
    rw [hw]; rfl
  · refine ⟨a, ?_⟩
    show s.waiting ++ [⟨4, 5, 99⟩] = _
    rw [b, List.replicate_succ']; rfl

theorem I10.to {s : QS} {c : Nat} (x : I10 s 0 c) : I12 s c := by
  rcases x.r with ⟨a, b, hc⟩ | ⟨a, b⟩
  · subst hc
    exact ⟨x.toSA, x.e, x.t, x.q, .inl ⟨a, List.eq_nil_of_length_eq_zero b⟩⟩
  · exact ⟨x.toSA, x.e, x.t, x.q, .inl ⟨heads_sum.2 a, b⟩⟩

theorem pour_rep : ∀ (n : Nat) (r : List (List Ev)), r.length = 64 → (pour r (List.replicate n eU)).getD 5 [] = r.getD 5 [] ++ List.replicate n eU ∧ ∀ j, j ≠ 5 → (pour r (List.replicate n eU)).getD j [] = r.getD j [] := by
  intro n
  induction n with
  | zero => intro r _; exact ⟨by simp [pour], fun j _ => rfl⟩
  | succ n ih =>
    intro r hr
    rw [List.replicate_succ, pour]
    have h5 : eU.index.toNat = 5 := rfl
    rw [h5]
    obtain ⟨h1, h2⟩ := ih (r.set 5 (r.getD 5 [] ++ [eU])) (by rw [List.length_set]; exact hr)
    refine ⟨?_, fun j hj => ?_⟩
    · rw [h1]
      have : (r.set 5 (r.getD 5 [] ++ [eU])).getD 5 [] = r.getD 5 [] ++ [eU] := by rw [List.getD_eq_getElem?_getD, List.getElem?_set_self (by rw [hr]; decide)]; rfl
      rw [this, List.append_assoc]; rfl
    · rw [h2 j hj]
      rw [List.getD_eq_getElem?_getD, List.getElem?_set_ne (fun e => hj e.symm), ← List.getD_eq_getElem?_getD]

theorem I12.next {s : QS} {n : Nat} (x : I12 s (n + 1)) : ∃ s', nextS s = (eU, true, s') ∧ I12 s' n := by
  have key : ∀ s1 : QS, actS s = s1 → SA s1 → s1.evals = [] → s1.threads = [] → s1.quiet = [] → s1.waiting = [] → s1.ready.getD 5 [] = List.replicate (n + 1) eU → (∀ j, j ≠ 5 → s1.ready.getD j [] = []) → ∃ s', nextS s = (eU, true, s') ∧ I12 s' n := by
    intro s1 hs sa he ht hq hw h5 hj
    obtain ⟨y, j, t, hn, hk, hi, hj64, hrj, sa'⟩ := upd_next hs x.ok sa he ht (fun e => by have := heads_nil.1 e 5; rw [h5] at this; cases this)
    have j5 : j = 5 := Classical.byContradiction fun h => by rw [hj j h] at hrj; cases hrj
    subst j5
    rw [h5, List.replicate_succ, List.cons.injEq] at hrj
    obtain ⟨rfl, rfl⟩ := hrj
    refine ⟨_, hn, ⟨sa', he, ht, hq, .inr ⟨hw, ?_, fun j hj' => ?_⟩⟩⟩
    · show (s1.ready.set 5 _).getD 5 [] = _
      rw [List.getD_eq_getElem?_getD, List.getElem?_set_self (by rw [sa.ok.rl]; decide)]; rfl
    · show (s1.ready.set 5 _).getD j [] = _
      rw [List.getD_eq_getElem?_getD, List.getElem?_set_ne (fun e => hj' e.symm), ← List.getD_eq_getElem?_getD]; exact hj j hj'
  rcases x.r with ⟨hr, hw⟩ | ⟨hw, h5, hj⟩
  · have e := act_pour x.toSA x.e x.t x.q hr
    obtain ⟨p1, p2⟩ := pour_rep (n + 1) s.ready x.ok.rl
    refine key _ e (x.toSA.pour x.e x.t x.q hr) x.e x.t x.q rfl ?_ (fun j hj => ?_)
    · show (Go.Ab.Q.pour s.ready s.waiting).getD 5 [] = _
      rw [hw, p1, heads_nil.1 hr 5, List.nil_append]
    · show (Go.Ab.Q.pour s.ready s.waiting).getD j [] = _
      rw [hw, p2 j hj, heads_nil.1 hr j]
  · have hne : listE s ≠ [] := listE_ne (.inr (fun e => by have := heads_nil.1 e 5; rw [h5] at this; cases this))
    exact key s (act_same hne) x.toSA x.e x.t x.q hw h5 hj

theorem I12.over {s : QS} (x : I12 s 0) : (!(nextS s).2.1 && decide ((nextS s).1 = v0)) = true := by
  have hr : heads s.ready = [] := by
    rcases x.r with ⟨a, _⟩ | ⟨_, a, b⟩
    · exact a
    · exact heads_nil.2 (fun j => by
        by_cases h : j = 5
        · subst h; exact a
        · exact b j h)
  have hw : s.waiting = [] := by
    rcases x.r with ⟨_, a⟩ | ⟨a, _⟩
    · exact a
    · exact a
  have e := act_pour x.toSA x.e x.t x.q hr
  have hn : listE (actS s) = [] := by
    rw [e, hw]
    exact listE_nil (s := { s with ready := Go.Ab.Q.pour s.ready [], waiting := [] }) (by have := x.toSA.pour x.e x.t x.q hr; rw [hw] at this; exact this) x.e x.t hr
  rw [next_none hn]
  show (!false && decide (v0 = v0)) = true
  decide


/-- What the law's loops lean on. -/
structure SL4 (a : AAct) (A na nb nc : Nat) : Prop where
  n : a.n = 167
  df : a.df = []
  t9 : a.tm 9 = vA A
  t10 : a.tm 10 = .int .i64 na
  t11 : a.tm 11 = .int .i64 nb
  t12 : a.tm 12 = .int .i64 nc
theorem SL4.to {a a' : AAct} {A na nb nc : Nat} (L : SL4 a A na nb nc) (hn : a'.n = a.n) (hd : a'.df = a.df) (ht : ∀ i, i < 13 → a'.tm i = a.tm i) : SL4 a' A na nb nc := ⟨hn.trans L.n, hd.trans L.df, (ht 9 (by decide)).trans L.t9, (ht 10 (by decide)).trans L.t10, (ht 11 (by decide)).trans L.t11, (ht 12 (by decide)).trans L.t12⟩
theorem newEv {h : AH} (w : WFH h) (x : Ev) : ∃ h', h' = h.new (.row (evC x) 33 true) ∧ aAlloc Try.prog 33 h = some (.pointer (some ⟨h.next, 0, none⟩), h.new (.row [.int .u8 0, .int .i64 0, .int .i64 0] 33 true)) ∧
    aStore Try.prog 33 (.pointer (some ⟨h.next, 0, none⟩)) (.agg (evC x).toArray) (h.new (.row [.int .u8 0, .int .i64 0, .int .i64 0] 33 true)) = some h' ∧ Gr h h' ∧
    aLoad Try.prog 5 (.pointer (some ⟨h.next, 0, none⟩)) h' = some (.int .u8 x.kind) ∧ aLoad Try.prog 3 (.pointer (some ⟨h.next, 1, none⟩)) h' = some (.int .i64 x.index) ∧ aLoad Try.prog 33 (.pointer (some ⟨h.next, 0, none⟩)) h' = some (.agg (evC x).toArray) := by
  have c := CsAt.new h (evC x) 33 true
  exact ⟨_, rfl, alL zrV h, stN agV (P := Try.prog) h [.int .u8 0, .int .i64 0, .int .i64 0] 33 (evC x) rfl rfl rfl, (Gr.refl w).new _, c.ld flK 0 (by show 0 < 3; decide), c.ld flI 1 (by show 1 < 3; decide), c.la agV rfl⟩

theorem strL0 {b h : AH} {s : QS} {nm : Nat → Nat} {ob : Nat → Option AObj} {a : AAct} {A na nb nc : Nat} (w0 : WFH b) (r : QR b h s nm ob) (q : nm 0 = A) (L : SL4 a A na nb nc) (ht : a.tm 13 = .int .i64 0) (x : I0 s 0) (hc : nc < 10) :
    AW Try.prog none (bodyBlk Try.f4 0) (fun e a' h' => e = .exit 0 ∧ SL4 a' A na nb nc ∧ ∃ s' nm' ob', QR b h' s' nm' ob' ∧ nm' 0 = A ∧ I0 s' (nc)) a h := by
  refine AW.at (rfl : bodyBlk Try.f4 0 = .loop _) ?_
  refine AW.loopN 13 [] (fun m a' k => ∃ (i : Nat) (s' : QS) (nm' : Nat → Nat) (ob' : Nat → Option AObj), a'.tm 13 = .int .i64 i ∧ i + m = nc ∧ QR b k s' nm' ob' ∧ nm' 0 = A ∧ I0 s' i) (nc) ?_ ?_
  · exact ⟨0, s, nm, ob, by rw [ht]; rfl, by omega, r, q, x⟩
  rintro a1 m a' k hk kn kd kt ⟨i, s1, nm1, ob1, hi', him, r1, q1, x1⟩
  have L1 : SL4 a' A na nb nc := L.to kn kd (fun i hi => kt i (by omega) (by simp))
  clear L r q x ht kn kd kt
  simp (disch := first | omega | decide) only [push_cast, ↓reduceIte, Nat.reduceLT, Nat.reduceEqDiff, reduceCtorEq, Nat.reduceAdd, L1.n, L1.df, L1.t12, hi']
  refine condV_of (fun hlt => ?_) (fun hge => ?_)
  · have hi : i < nc := by have := of_decide_eq_true hlt; omega
    have hw : IntKind.i64.wrap ((i : Int) + 1) = i + 1 := wrapI (by omega) (by omega)
    have hm0 : 0 ≤ (i : Int).tmod 3 ∧ (i : Int).tmod 3 < 64 := by rw [Int.tmod_eq_emod_of_nonneg (by omega)]; omega
    obtain ⟨he, x2⟩ := x1.up (by omega) (k := (i : Int).tmod 3) (tag := i) hm0
    have c := updateN w0 r1 ((i : Int).tmod 3) i (by rw [x1.l]; decide)
    rw [q1] at c
    have h3 : ((3 : Int) = 0) = False := by decide
    simp (disch := first | omega | decide) only [push_cast, ↓reduceIte, Nat.reduceLT, Nat.reduceEqDiff, reduceCtorEq, Nat.reduceAdd, L1.n, L1.df, L1.t9, hi', h3]
    refine ACall.mono ?_ c
    rintro _ h2 ⟨rfl, nm2, ob2, r2, rs⟩
    rw [he]
    simp (disch := first | omega | decide) only [push_cast, ↓reduceIte, Nat.reduceLT, Nat.reduceEqDiff, reduceCtorEq, Nat.reduceAdd, L1.n, L1.df, hi', hw]
    exact ⟨m - 1, by omega, (by simp (disch := decide) only [Kp_put, put_none, hk]), i + 1, _, nm2, ob2, by simp (disch := first | omega | decide) only [push_cast, ↓reduceIte, Nat.reduceLT, Nat.reduceEqDiff, reduceCtorEq, Nat.reduceAdd], by omega, r2, rs.n0.trans q1, x2⟩
  · have hi : i = nc := by have := of_decide_eq_false hge; omega
    subst hi
    simp (disch := first | omega | decide) only [push_cast, ↓reduceIte, Nat.reduceLT, Nat.reduceEqDiff, reduceCtorEq, Nat.reduceAdd, L1.n, L1.df]
    exact ⟨L1.to (by simp (disch := first | omega | decide) only [push_cast, ↓reduceIte, Nat.reduceLT, Nat.reduceEqDiff, reduceCtorEq, Nat.reduceAdd]) (by simp (disch := first | omega | decide) only [push_cast, ↓reduceIte, Nat.reduceLT, Nat.reduceEqDiff, reduceCtorEq, Nat.reduceAdd]) (fun i hi => by simp only [put_tm, put_none]; repeat rw [if_neg (by omega)]), s1, nm1, ob1, r1, q1, x1⟩

theorem strL2 {b h : AH} {s : QS} {nm : Nat → Nat} {ob : Nat → Option AObj} {a : AAct} {A na nb nc : Nat} (w0 : WFH b) (r : QR b h s nm ob) (q : nm 0 = A) (L : SL4 a A na nb nc) (ht : a.tm 14 = .int .i64 0) (x : I2 s nc 0) (hb : nb < 10) :
    AW Try.prog none (bodyBlk Try.f4 2) (fun e a' h' => e = .exit 2 ∧ SL4 a' A na nb nc ∧ ∃ s' nm' ob', QR b h' s' nm' ob' ∧ nm' 0 = A ∧ I2 s' nc (nb)) a h := by
  refine AW.at (rfl : bodyBlk Try.f4 2 = .loop _) ?_
  refine AW.loopN 14 [] (fun m a' k => ∃ (i : Nat) (s' : QS) (nm' : Nat → Nat) (ob' : Nat → Option AObj), a'.tm 14 = .int .i64 i ∧ i + m = nb ∧ QR b k s' nm' ob' ∧ nm' 0 = A ∧ I2 s' nc i) (nb) ?_ ?_
  · exact ⟨0, s, nm, ob, by rw [ht]; rfl, by omega, r, q, x⟩
  rintro a1 m a' k hk kn kd kt ⟨i, s1, nm1, ob1, hi', him, r1, q1, x1⟩
  have L1 : SL4 a' A na nb nc := L.to kn kd (fun i hi => kt i (by omega) (by simp))
  clear L r q x ht kn kd kt
  simp (disch := first | omega | decide) only [push_cast, ↓reduceIte, Nat.reduceLT, Nat.reduceEqDiff, reduceCtorEq, Nat.reduceAdd, L1.n, L1.df, L1.t11, hi']
  refine condV_of (fun hlt => ?_) (fun hge => ?_)
  · have hi : i < nb := by have := of_decide_eq_true hlt; omega
    have hw : IntKind.i64.wrap ((i : Int) + 1) = i + 1 := wrapI (by omega) (by omega)
    have hw20 : IntKind.i64.wrap (20 + (i : Int)) = 20 + i := wrapI (by omega) (by omega)
    have x2 := x1.up (by omega)
    have c := inactiveN w0 r1 (i := 20 + (i : Int))
    rw [q1] at c
    have hk20 : 0 ≤ 20 + (i : Int) ∧ 20 + (i : Int) < 64 := by omega
    simp (disch := first | omega | decide) only [push_cast, ↓reduceIte, Nat.reduceLT, Nat.reduceEqDiff, reduceCtorEq, Nat.reduceAdd, L1.n, L1.df, L1.t9, hi', hw20]
    refine ACall.mono ?_ c
    rintro _ h2 ⟨rfl, ob2, r2, rs⟩
    rw [if_pos hk20] at r2 ⊢
    simp (disch := first | omega | decide) only [push_cast, ↓reduceIte, Nat.reduceLT, Nat.reduceEqDiff, reduceCtorEq, Nat.reduceAdd, L1.n, L1.df, hi', hw]
    exact ⟨m - 1, by omega, (by simp (disch := decide) only [Kp_put, put_none, hk]), i + 1, _, nm1, ob2, by simp (disch := first | omega | decide) only [push_cast, ↓reduceIte, Nat.reduceLT, Nat.reduceEqDiff, reduceCtorEq, Nat.reduceAdd], by omega, r2, q1, x2⟩
  · have hi : i = nb := by have := of_decide_eq_false hge; omega
    subst hi
    simp (disch := first | omega | decide) only [push_cast, ↓reduceIte, Nat.reduceLT, Nat.reduceEqDiff, reduceCtorEq, Nat.reduceAdd, L1.n, L1.df]
    exact ⟨L1.to (by simp (disch := first | omega | decide) only [push_cast, ↓reduceIte, Nat.reduceLT, Nat.reduceEqDiff, reduceCtorEq, Nat.reduceAdd]) (by simp (disch := first | omega | decide) only [push_cast, ↓reduceIte, Nat.reduceLT, Nat.reduceEqDiff, reduceCtorEq, Nat.reduceAdd]) (fun i hi => by simp only [put_tm, put_none]; repeat rw [if_neg (by omega)]), s1, nm1, ob1, r1, q1, x1⟩

theorem strL4 {b h : AH} {s : QS} {nm : Nat → Nat} {ob : Nat → Option AObj} {a : AAct} {A na nb nc : Nat} (w0 : WFH b) (r : QR b h s nm ob) (q : nm 0 = A) (L : SL4 a A na nb nc) (ht : a.tm 15 = .int .i64 0) (x : I4 s nc nb 0) (ha : na < 10) :
    AW Try.prog none (bodyBlk Try.f4 4) (fun e a' h' => e = .exit 4 ∧ SL4 a' A na nb nc ∧ ∃ s' nm' ob', QR b h' s' nm' ob' ∧ nm' 0 = A ∧ I4 s' nc nb (na)) a h := by
  refine AW.at (rfl : bodyBlk Try.f4 4 = .loop _) ?_
  refine AW.loopN 15 [] (fun m a' k => ∃ (i : Nat) (s' : QS) (nm' : Nat → Nat) (ob' : Nat → Option AObj), a'.tm 15 = .int .i64 i ∧ i + m = na ∧ QR b k s' nm' ob' ∧ nm' 0 = A ∧ I4 s' nc nb i) (na) ?_ ?_
  · exact ⟨0, s, nm, ob, by rw [ht]; rfl, by omega, r, q, x⟩
  rintro a1 m a' k hk kn kd kt ⟨i, s1, nm1, ob1, hi', him, r1, q1, x1⟩
  have L1 : SL4 a' A na nb nc := L.to kn kd (fun i hi => kt i (by omega) (by simp))
  clear L r q x ht kn kd kt
  simp (disch := first | omega | decide) only [push_cast, ↓reduceIte, Nat.reduceLT, Nat.reduceEqDiff, reduceCtorEq, Nat.reduceAdd, L1.n, L1.df, L1.t10, hi']
  refine condV_of (fun hlt => ?_) (fun hge => ?_)
  · have hi : i < na := by have := of_decide_eq_true hlt; omega
    have hw : IntKind.i64.wrap ((i : Int) + 1) = i + 1 := wrapI (by omega) (by omega)
    have x2 := x1.up (by omega)
    have c := evaluateN w0 r1 (i := (i : Int))
    rw [q1] at c
    have hk20 : 0 ≤ (i : Int) ∧ (i : Int) < 64 := by omega
    simp (disch := first | omega | decide) only [push_cast, ↓reduceIte, Nat.reduceLT, Nat.reduceEqDiff, reduceCtorEq, Nat.reduceAdd, L1.n, L1.df, L1.t9, hi']
    refine ACall.mono ?_ c
    rintro _ h2 ⟨rfl, ob2, r2, rs⟩
    rw [if_pos hk20] at r2 ⊢
    have c2 := threadN w0 r2 (i := (i : Int))
    rw [q1] at c2
    simp (disch := first | omega | decide) only [push_cast, ↓reduceIte, Nat.reduceLT, Nat.reduceEqDiff, reduceCtorEq, Nat.reduceAdd, L1.n, L1.df, L1.t9, hi']
    refine ACall.mono ?_ c2
    rintro _ h3 ⟨rfl, ob3, r3, rs3⟩
    rw [if_pos hk20] at r3 ⊢
    simp (disch := first | omega | decide) only [push_cast, ↓reduceIte, Nat.reduceLT, Nat.reduceEqDiff, reduceCtorEq, Nat.reduceAdd, L1.n, L1.df, hi', hw]
    exact ⟨m - 1, by omega, (by simp (disch := decide) only [Kp_put, put_none, hk]), i + 1, _, nm1, ob3, by simp (disch := first | omega | decide) only [push_cast, ↓reduceIte, Nat.reduceLT, Nat.reduceEqDiff, reduceCtorEq, Nat.reduceAdd], by omega, r3, q1, x2⟩
  · have hi : i = na := by have := of_decide_eq_false hge; omega
    subst hi
    simp (disch := first | omega | decide) only [push_cast, ↓reduceIte, Nat.reduceLT, Nat.reduceEqDiff, reduceCtorEq, Nat.reduceAdd, L1.n, L1.df]
    exact ⟨L1.to (by simp (disch := first | omega | decide) only [push_cast, ↓reduceIte, Nat.reduceLT, Nat.reduceEqDiff, reduceCtorEq, Nat.reduceAdd]) (by simp (disch := first | omega | decide) only [push_cast, ↓reduceIte, Nat.reduceLT, Nat.reduceEqDiff, reduceCtorEq, Nat.reduceAdd]) (fun i hi => by simp only [put_tm, put_none]; repeat rw [if_neg (by omega)]), s1, nm1, ob1, r1, q1, x1⟩

theorem strL6 {b h : AH} {s : QS} {nm : Nat → Nat} {ob : Nat → Option AObj} {a : AAct} {A na nb nc : Nat} (w0 : WFH b) (r : QR b h s nm ob) (q : nm 0 = A) (L : SL4 a A na nb nc) (ht : a.tm 16 = .int .i64 0) (x : I6 s nc nb (2 * na - 0)) (ha : na < 10) :
    AW Try.prog none (bodyBlk Try.f4 6) (fun e a' h' => e = .exit 6 ∧ SL4 a' A na nb nc ∧ ∃ s' nm' ob', QR b h' s' nm' ob' ∧ nm' 0 = A ∧ I6 s' nc nb (2 * na - (2 * na))) a h := by
  refine AW.at (rfl : bodyBlk Try.f4 6 = .loop _) ?_
  refine AW.loopN 16 [] (fun m a' k => ∃ (i : Nat) (s' : QS) (nm' : Nat → Nat) (ob' : Nat → Option AObj), a'.tm 16 = .int .i64 i ∧ i + m = 2 * na ∧ QR b k s' nm' ob' ∧ nm' 0 = A ∧ I6 s' nc nb (2 * na - i)) (2 * na) ?_ ?_
  · exact ⟨0, s, nm, ob, by rw [ht]; rfl, by omega, r, q, x⟩
  rintro a1 m a' k hk kn kd kt ⟨i, s1, nm1, ob1, hi', him, r1, q1, x1⟩
  have L1 : SL4 a' A na nb nc := L.to kn kd (fun i hi => kt i (by omega) (by simp))
  clear L r q x ht kn kd kt
  have hmul : IntKind.i64.wrap (2 * (na : Int)) = 2 * na := wrapI (by omega) (by omega)
  simp (disch := first | omega | decide) only [push_cast, ↓reduceIte, Nat.reduceLT, Nat.reduceEqDiff, reduceCtorEq, Nat.reduceAdd, L1.n, L1.df, L1.t10, hi', hmul]
  refine condV_of (fun hlt => ?_) (fun hge => ?_)
  · have hi : i < 2 * na := by have := of_decide_eq_true hlt; omega
    have hw : IntKind.i64.wrap ((i : Int) + 1) = i + 1 := wrapI (by omega) (by omega)
    obtain ⟨y, hn, hk4, hk3, x2⟩ := (show I6 s1 nc nb ((2 * na - (i + 1)) + 1) by rw [show (2 * na - (i + 1)) + 1 = 2 * na - i by omega]; exact x1).next
    have c := nextN w0 r1
    rw [q1, hn] at c
    have d4 : decide (y.kind = 4) = false := decide_eq_false hk4
    simp (disch := first | omega | decide) only [push_cast, ↓reduceIte, Nat.reduceLT, Nat.reduceEqDiff, reduceCtorEq, Nat.reduceAdd, L1.n, L1.df, L1.t9, hi']
    refine ACall.mono ?_ c
    rintro _ h2 ⟨rfl, nm2, ob2, r2, rs⟩
    obtain ⟨h3, -, hal, hst, g3, hl0, hl1, -⟩ := newEv r2.own.gr.wf y
    have r3 := r2.gr g3
    by_cases k3 : y.kind = 3
    · have d3 : decide (y.kind = 3) = true := decide_eq_true k3
      have d20 : decide (y.index ≥ 20) = false := decide_eq_false (fun h => hk3 ⟨k3, h⟩)
      simp (disch := first | omega | decide) only [push_cast, ↓reduceIte, Nat.reduceLT, Nat.reduceEqDiff, reduceCtorEq, Nat.reduceAdd, L1.n, L1.df, hi', hal, hst, faL foV0, faL foV1, faL foV2, hl0, hl1, d4, d3, d20, hw]
      exact ⟨m - 1, by omega, (by simp (disch := decide) only [Kp_put, put_none, hk]), i + 1, _, nm2, ob2, by simp (disch := first | omega | decide) only [push_cast, ↓reduceIte, Nat.reduceLT, Nat.reduceEqDiff, reduceCtorEq, Nat.reduceAdd], by omega, r3, rs.n0.trans q1, x2⟩
    · have d3 : decide (y.kind = 3) = false := decide_eq_false k3
      simp (disch := first | omega | decide) only [push_cast, ↓reduceIte, Nat.reduceLT, Nat.reduceEqDiff, reduceCtorEq, Nat.reduceAdd, L1.n, L1.df, hi', hal, hst, faL foV0, faL foV1, faL foV2, hl0, hl1, d4, d3, hw]
      exact ⟨m - 1, by omega, (by simp (disch := decide) only [Kp_put, put_none, hk]), i + 1, _, nm2, ob2, by simp (disch := first | omega | decide) only [push_cast, ↓reduceIte, Nat.reduceLT, Nat.reduceEqDiff, reduceCtorEq, Nat.reduceAdd], by omega, r3, rs.n0.trans q1, x2⟩
  · have hi : i = 2 * na := by have := of_decide_eq_false hge; omega
    subst hi
    simp (disch := first | omega | decide) only [push_cast, ↓reduceIte, Nat.reduceLT, Nat.reduceEqDiff, reduceCtorEq, Nat.reduceAdd, L1.n, L1.df]
    exact ⟨L1.to (by simp (disch := first | omega | decide) only [push_cast, ↓reduceIte, Nat.reduceLT, Nat.reduceEqDiff, reduceCtorEq, Nat.reduceAdd]) (by simp (disch := first | omega | decide) only [push_cast, ↓reduceIte, Nat.reduceLT, Nat.reduceEqDiff, reduceCtorEq, Nat.reduceAdd]) (fun i hi => by simp only [put_tm, put_none]; repeat rw [if_neg (by omega)]), s1, nm1, ob1, r1, q1, x1⟩

theorem strL8 {b h : AH} {s : QS} {nm : Nat → Nat} {ob : Nat → Option AObj} {a : AAct} {A na nb nc : Nat} (w0 : WFH b) (r : QR b h s nm ob) (q : nm 0 = A) (L : SL4 a A na nb nc) (ht : a.tm 19 = .int .i64 0) (x : I8 s nc (nb - 0)) (hb : nb < 10) :
    AW Try.prog none (bodyBlk Try.f4 8) (fun e a' h' => e = .exit 8 ∧ SL4 a' A na nb nc ∧ ∃ s' nm' ob', QR b h' s' nm' ob' ∧ nm' 0 = A ∧ I8 s' nc (nb - (nb))) a h := by
  refine AW.at (rfl : bodyBlk Try.f4 8 = .loop _) ?_
  refine AW.loopN 19 [] (fun m a' k => ∃ (i : Nat) (s' : QS) (nm' : Nat → Nat) (ob' : Nat → Option AObj), a'.tm 19 = .int .i64 i ∧ i + m = nb ∧ QR b k s' nm' ob' ∧ nm' 0 = A ∧ I8 s' nc (nb - i)) (nb) ?_ ?_
  · exact ⟨0, s, nm, ob, by rw [ht]; rfl, by omega, r, q, x⟩
  rintro a1 m a' k hk kn kd kt ⟨i, s1, nm1, ob1, hi', him, r1, q1, x1⟩
  have L1 : SL4 a' A na nb nc := L.to kn kd (fun i hi => kt i (by omega) (by simp))
  clear L r q x ht kn kd kt
  simp (disch := first | omega | decide) only [push_cast, ↓reduceIte, Nat.reduceLT, Nat.reduceEqDiff, reduceCtorEq, Nat.reduceAdd, L1.n, L1.df, L1.t11, hi']
  refine condV_of (fun hlt => ?_) (fun hge => ?_)
  · have hi : i < nb := by have := of_decide_eq_true hlt; omega
    have hw : IntKind.i64.wrap ((i : Int) + 1) = i + 1 := wrapI (by omega) (by omega)
    obtain ⟨y, s2, hn, hk3, hk20, x2, hlen, -⟩ := (show I8 s1 nc ((nb - (i + 1)) + 1) by rw [show (nb - (i + 1)) + 1 = nb - i by omega]; exact x1).next
    have c := nextN w0 r1
    rw [q1, hn] at c
    have d3 : decide (y.kind = 3) = true := decide_eq_true hk3
    have d20 : decide (y.index < 20) = false := decide_eq_false (by omega)
    simp (disch := first | omega | decide) only [push_cast, ↓reduceIte, Nat.reduceLT, Nat.reduceEqDiff, reduceCtorEq, Nat.reduceAdd, L1.n, L1.df, L1.t9, hi']
    refine ACall.mono ?_ c
    rintro _ h2 ⟨rfl, nm2, ob2, r2, rs⟩
    obtain ⟨h3, -, hal, hst, g3, hl0, hl1, -⟩ := newEv r2.own.gr.wf y
    have r3 := r2.gr g3
    have c2 := activeN' w0 r3
    rw [rs.n0.trans q1] at c2
    have hw1 : IntKind.i64.wrap ((nb : Int) - 1) = nb - 1 := wrapI (by omega) (by omega)
    have hw2 : IntKind.i64.wrap ((nb : Int) - 1 - i) = nb - 1 - i := wrapI (by omega) (by omega)
    simp (disch := first | omega | decide) only [push_cast, ↓reduceIte, Nat.reduceLT, Nat.reduceEqDiff, reduceCtorEq, Nat.reduceAdd, L1.n, L1.df, L1.t9, hi', hal, hst, faL foV0, faL foV1, faL foV2, hl0, hl1, d3, d20]
    refine ACall.mono ?_ c2
    rintro _ h4 ⟨rfl, g4⟩
    have dn : decide (((listE s2).length : Int) = nb - 1 - i) = true := decide_eq_true (by rw [hlen]; omega)
    simp (disch := first | omega | decide) only [push_cast, ↓reduceIte, Nat.reduceLT, Nat.reduceEqDiff, reduceCtorEq, Nat.reduceAdd, L1.n, L1.df, L1.t11, hi', hw1, hw2, dn, hw]
    exact ⟨m - 1, by omega, (by simp (disch := decide) only [Kp_put, put_none, hk]), i + 1, _, nm2, ob2, by simp (disch := first | omega | decide) only [push_cast, ↓reduceIte, Nat.reduceLT, Nat.reduceEqDiff, reduceCtorEq, Nat.reduceAdd], by omega, r3.gr g4, rs.n0.trans q1, x2⟩
  · have hi : i = nb := by have := of_decide_eq_false hge; omega
    subst hi
    simp (disch := first | omega | decide) only [push_cast, ↓reduceIte, Nat.reduceLT, Nat.reduceEqDiff, reduceCtorEq, Nat.reduceAdd, L1.n, L1.df]
    exact ⟨L1.to (by simp (disch := first | omega | decide) only [push_cast, ↓reduceIte, Nat.reduceLT, Nat.reduceEqDiff, reduceCtorEq, Nat.reduceAdd]) (by simp (disch := first | omega | decide) only [push_cast, ↓reduceIte, Nat.reduceLT, Nat.reduceEqDiff, reduceCtorEq, Nat.reduceAdd]) (fun i hi => by simp only [put_tm, put_none]; repeat rw [if_neg (by omega)]), s1, nm1, ob1, r1, q1, x1⟩

theorem strL10 {b h : AH} {s : QS} {nm : Nat → Nat} {ob : Nat → Option AObj} {a : AAct} {A na nb nc : Nat} (w0 : WFH b) (r : QR b h s nm ob) (q : nm 0 = A) (L : SL4 a A na nb nc) (ht : a.tm 22 = .int .i64 0) (x : I10 s (nc - 0) 0) (hc : nc < 10) :
    AW Try.prog none (bodyBlk Try.f4 10) (fun e a' h' => e = .exit 10 ∧ SL4 a' A na nb nc ∧ ∃ s' nm' ob', QR b h' s' nm' ob' ∧ nm' 0 = A ∧ I10 s' (nc - (nc)) (nc)) a h := by
  refine AW.at (rfl : bodyBlk Try.f4 10 = .loop _) ?_
  refine AW.loopN 22 [] (fun m a' k => ∃ (i : Nat) (s' : QS) (nm' : Nat → Nat) (ob' : Nat → Option AObj), a'.tm 22 = .int .i64 i ∧ i + m = nc ∧ QR b k s' nm' ob' ∧ nm' 0 = A ∧ I10 s' (nc - i) i) (nc) ?_ ?_
  · exact ⟨0, s, nm, ob, by rw [ht]; rfl, by omega, r, q, x⟩
  rintro a1 m a' k hk kn kd kt ⟨i, s1, nm1, ob1, hi', him, r1, q1, x1⟩
  have L1 : SL4 a' A na nb nc := L.to kn kd (fun i hi => kt i (by omega) (by simp))
  clear L r q x ht kn kd kt
  simp (disch := first | omega | decide) only [push_cast, ↓reduceIte, Nat.reduceLT, Nat.reduceEqDiff, reduceCtorEq, Nat.reduceAdd, L1.n, L1.df, L1.t12, hi']
  refine condV_of (fun hlt => ?_) (fun hge => ?_)
  · have hi : i < nc := by have := of_decide_eq_true hlt; omega
    have hw : IntKind.i64.wrap ((i : Int) + 1) = i + 1 := wrapI (by omega) (by omega)
    obtain ⟨y, s2, hn, hk4, x2, hsum⟩ := (show I10 s1 ((nc - (i + 1)) + 1) i by rw [show (nc - (i + 1)) + 1 = nc - i by omega]; exact x1).next
    have c := nextN w0 r1
    rw [q1, hn] at c
    have d4 : decide (y.kind = 4) = true := decide_eq_true hk4
    simp (disch := first | omega | decide) only [push_cast, ↓reduceIte, Nat.reduceLT, Nat.reduceEqDiff, reduceCtorEq, Nat.reduceAdd, L1.n, L1.df, L1.t9, hi']
    refine ACall.mono ?_ c
    rintro _ h2 ⟨rfl, nm2, ob2, r2, rs⟩
    obtain ⟨h3, -, hal, hst, g3, hl0, hl1, -⟩ := newEv r2.own.gr.wf y
    have r3 := r2.gr g3
    obtain ⟨he, x3⟩ := x2.up (by omega) hsum
    have c2 := updateN w0 r3 5 99 (by rw [x2.l]; decide)
    rw [rs.n0.trans q1] at c2
    simp (disch := first | omega | decide) only [push_cast, ↓reduceIte, Nat.reduceLT, Nat.reduceEqDiff, reduceCtorEq, Nat.reduceAdd, L1.n, L1.df, L1.t9, hi', hal, hst, faL foV0, faL foV1, faL foV2, hl0, hl1, d4]
    refine ACall.mono ?_ c2
    rintro _ h4 ⟨rfl, nm4, ob4, r4, rs4⟩
    rw [he]
    simp (disch := first | omega | decide) only [push_cast, ↓reduceIte, Nat.reduceLT, Nat.reduceEqDiff, reduceCtorEq, Nat.reduceAdd, L1.n, L1.df, hi', hw]
    exact ⟨m - 1, by omega, (by simp (disch := decide) only [Kp_put, put_none, hk]), i + 1, _, nm4, ob4, by simp (disch := first | omega | decide) only [push_cast, ↓reduceIte, Nat.reduceLT, Nat.reduceEqDiff, reduceCtorEq, Nat.reduceAdd], by omega, r4, rs4.n0.trans (rs.n0.trans q1), x3⟩
  · have hi : i = nc := by have := of_decide_eq_false hge; omega
    subst hi
    simp (disch := first | omega | decide) only [push_cast, ↓reduceIte, Nat.reduceLT, Nat.reduceEqDiff, reduceCtorEq, Nat.reduceAdd, L1.n, L1.df]
    exact ⟨L1.to (by simp (disch := first | omega | decide) only [push_cast, ↓reduceIte, Nat.reduceLT, Nat.reduceEqDiff, reduceCtorEq, Nat.reduceAdd]) (by simp (disch := first | omega | decide) only [push_cast, ↓reduceIte, Nat.reduceLT, Nat.reduceEqDiff, reduceCtorEq, Nat.reduceAdd]) (fun i hi => by simp only [put_tm, put_none]; repeat rw [if_neg (by omega)]), s1, nm1, ob1, r1, q1, x1⟩

theorem strL12 {b h : AH} {s : QS} {nm : Nat → Nat} {ob : Nat → Option AObj} {a : AAct} {A na nb nc : Nat} (w0 : WFH b) (r : QR b h s nm ob) (q : nm 0 = A) (L : SL4 a A na nb nc) (ht : a.tm 25 = .int .i64 0) (x : I12 s (nc - 0)) (hc : nc < 10) :
    AW Try.prog none (bodyBlk Try.f4 12) (fun e a' h' => e = .exit 12 ∧ SL4 a' A na nb nc ∧ ∃ s' nm' ob', QR b h' s' nm' ob' ∧ nm' 0 = A ∧ I12 s' (nc - (nc))) a h := by
  refine AW.at (rfl : bodyBlk Try.f4 12 = .loop _) ?_
  refine AW.loopN 25 [] (fun m a' k => ∃ (i : Nat) (s' : QS) (nm' : Nat → Nat) (ob' : Nat → Option AObj), a'.tm 25 = .int .i64 i ∧ i + m = nc ∧ QR b k s' nm' ob' ∧ nm' 0 = A ∧ I12 s' (nc - i)) (nc) ?_ ?_
  · exact ⟨0, s, nm, ob, by rw [ht]; rfl, by omega, r, q, x⟩
  rintro a1 m a' k hk kn kd kt ⟨i, s1, nm1, ob1, hi', him, r1, q1, x1⟩
  have L1 : SL4 a' A na nb nc := L.to kn kd (fun i hi => kt i (by omega) (by simp))
  clear L r q x ht kn kd kt
  simp (disch := first | omega | decide) only [push_cast, ↓reduceIte, Nat.reduceLT, Nat.reduceEqDiff, reduceCtorEq, Nat.reduceAdd, L1.n, L1.df, L1.t12, hi']
  refine condV_of (fun hlt => ?_) (fun hge => ?_)
  · have hi : i < nc := by have := of_decide_eq_true hlt; omega
    have hw : IntKind.i64.wrap ((i : Int) + 1) = i + 1 := wrapI (by omega) (by omega)
    obtain ⟨s2, hn, x2⟩ := (show I12 s1 ((nc - (i + 1)) + 1) by rw [show (nc - (i + 1)) + 1 = nc - i by omega]; exact x1).next
    have c := givesN w0 r1 4 5 99
    rw [q1, hn] at c
    simp (disch := first | omega | decide) only [push_cast, ↓reduceIte, Nat.reduceLT, Nat.reduceEqDiff, reduceCtorEq, Nat.reduceAdd, L1.n, L1.df, L1.t9, hi']
    refine ACall.mono ?_ c
    rintro _ h2 ⟨rfl, nm2, ob2, r2, rs⟩
    have de : decide (eU = ⟨4, 5, 99⟩) = true := rfl
    simp (disch := first | omega | decide) only [push_cast, ↓reduceIte, Nat.reduceLT, Nat.reduceEqDiff, reduceCtorEq, Nat.reduceAdd, L1.n, L1.df, hi', de, hw]
    exact ⟨m - 1, by omega, (by simp (disch := decide) only [Kp_put, put_none, hk]), i + 1, _, nm2, ob2, by simp (disch := first | omega | decide) only [push_cast, ↓reduceIte, Nat.reduceLT, Nat.reduceEqDiff, reduceCtorEq, Nat.reduceAdd], by omega, r2, rs.n0.trans q1, x2⟩
  · have hi : i = nc := by have := of_decide_eq_false hge; omega
    subst hi
    simp (disch := first | omega | decide) only [push_cast, ↓reduceIte, Nat.reduceLT, Nat.reduceEqDiff, reduceCtorEq, Nat.reduceAdd, L1.n, L1.df]
    exact ⟨L1.to (by simp (disch := first | omega | decide) only [push_cast, ↓reduceIte, Nat.reduceLT, Nat.reduceEqDiff, reduceCtorEq, Nat.reduceAdd]) (by simp (disch := first | omega | decide) only [push_cast, ↓reduceIte, Nat.reduceLT, Nat.reduceEqDiff, reduceCtorEq, Nat.reduceAdd]) (fun i hi => by simp only [put_tm, put_none]; repeat rw [if_neg (by omega)]), s1, nm1, ob1, r1, q1, x1⟩


theorem uRow {h : AH} {v : Value} {l : List Int} (hs : RowOf uL h v l) : SlOf h v (l.map (.int .u32)) := by
  obtain ⟨p, n, c, rfl, rfl, ⟨hsp, _, _⟩, hcs⟩ := hs
  refine ⟨p, _, c, rfl, by rw [List.length_map], hsp, ?_⟩
  rcases hcs with e | ⟨A, off, o, cs, rfl, hg, hc, hall⟩
  · exact .inl (by rw [e]; rfl)
  · refine .inr ⟨A, off, o, cs, rfl, hg, hc, fun i x hx => ?_⟩
    rw [List.getElem?_map] at hx
    simp only [Option.map_eq_some_iff] at hx
    obtain ⟨y, hy, rfl⟩ := hx
    have := hall i y hy
    have e : (cs.drop (off + i * 1)).take 1 = [.int .u32 y] := this
    rw [Nat.mul_one] at e
    have h2 := congrArg (·[0]?) e
    simp only [List.getElem?_take, List.getElem?_drop, Nat.add_zero] at h2
    simpa using h2

theorem skK : ∀ (x : Value) (h : AH), aBytes Try.prog 5 3 x h = none := aBytes_skip ⟨_, Try.underlying5⟩
theorem cvK : ∀ (k : IntKind) (n : Int), aConv Try.prog 5 3 (.int k n) = some (.int .i64 (IntKind.i64.wrap n)) := aConvI Try.underlying5 Try.underlying3

theorem strataN {h : AH} {v : Value} {l : List Int} {x y z : Int} (hs : RowOf uL h v l) (hu : ∀ x ∈ l, 0 ≤ x ∧ x < 4294967296) (hx : 0 ≤ x) (hy : 0 ≤ y) (hz : 0 ≤ z) :
    ACall Try.prog 4 [v, .int .u8 x, .int .u8 y, .int .u8 z] h (fun r _ => r = .bool true) := by
  refine ACall.wf ⟨_, Try.func4, rfl, by kernel_rfl⟩ fun wf0 => ?_
  refine ACall.of_wp (c := (.seq (.region 0 (opsOf Try.f4 0) false) (.seq (.region 1 (opsOf Try.f4 1) false) (.seq (.region 2 (opsOf Try.f4 2) false) (.seq (.seq (.region 3 (opsOf Try.f4 3) false) (.block 0 (bodyBlk Try.f4 0))) (.seq (.seq (.region 8 (opsOf Try.f4 8) false) (.block 2 (bodyBlk Try.f4 2))) (.seq (.seq (.region 13 (opsOf Try.f4 13) false) (.block 4 (bodyBlk Try.f4 4))) (.seq (.seq (.region 18 (opsOf Try.f4 18) false) (.block 6 (bodyBlk Try.f4 6))) (.seq (.seq (.region 24 (opsOf Try.f4 24) false) (.block 8 (bodyBlk Try.f4 8))) (.seq (.seq (.region 32 (opsOf Try.f4 32) false) (.block 10 (bodyBlk Try.f4 10))) (.seq (.seq (.region 40 (opsOf Try.f4 40) false) (.block 12 (bodyBlk Try.f4 12))) (.seq (.region 45 (opsOf Try.f4 45) false) .ret)))))))))))) 167 [.tmp 8] Try.func4 (by kernel_rfl) rfl rfl (by kernel_rfl) fun a hn hd ha => ?_
  rw [wpA_seq, wpA_region]
  refine opsM.at (rfl : #[_] = _) (rfl : [_] = _) ?_
  simp (disch := first | omega | decide) only [push_cast, ↓reduceIte, Nat.reduceLT, Nat.reduceEqDiff, reduceCtorEq, Nat.reduceAdd, hn, hd]
  refine opsM.at (rfl : #[_, _, _, _, _, _, _] = _) (rfl : [_, _, _, _, _, _, _] = _) ?_
  have hlen : ∀ h', aLen Try.prog 22 v h' = some (.int .i64 l.length) := hs.len Try.underlying22
  obtain ⟨v', hsl, hs'⟩ := hs.pre (P := Try.prog) Try.underlying22 infUs (k := .i64) (n := min l.length 100) (by omega)
  have hmin : min (l.length : Int) 100 = ((min l.length 100 : Nat) : Int) := by omega
  have hN := newN wf0 (uRow hs') (by rw [List.length_take]; omega) (fun x hx => hu x (List.mem_of_mem_take hx))
  simp (disch := first | omega | decide) only [push_cast, ↓reduceIte, Nat.reduceLT, Nat.reduceEqDiff, reduceCtorEq, Nat.reduceAdd, hn, hd, ha, hlen, aFold, aMin2R, hmin, hsl]
  refine ACall.mono ?_ hN
  rintro _ h1 ⟨nm, ob, rfl, r⟩
  obtain ⟨na, hna⟩ : ∃ n : Nat, x.tmod 10 = n := ⟨(x.tmod 10).toNat, by rw [Int.tmod_eq_emod_of_nonneg hx]; omega⟩
  obtain ⟨nb, hnb⟩ : ∃ n : Nat, y.tmod 10 = n := ⟨(y.tmod 10).toNat, by rw [Int.tmod_eq_emod_of_nonneg hy]; omega⟩
  obtain ⟨nc, hnc⟩ : ∃ n : Nat, z.tmod 10 = n := ⟨(z.tmod 10).toNat, by rw [Int.tmod_eq_emod_of_nonneg hz]; omega⟩
  have ha10 : na < 10 := by rw [Int.tmod_eq_emod_of_nonneg hx] at hna; omega
  have hb10 : nb < 10 := by rw [Int.tmod_eq_emod_of_nonneg hy] at hnb; omega
  have hc10 : nc < 10 := by rw [Int.tmod_eq_emod_of_nonneg hz] at hnc; omega
  have wa : IntKind.i64.wrap (na : Int) = na := wrapI (by omega) (by omega)
  have wb : IntKind.i64.wrap (nb : Int) = nb := wrapI (by omega) (by omega)
  have wc : IntKind.i64.wrap (nc : Int) = nc := wrapI (by omega) (by omega)
  have h10 : ((10 : Int) = 0) = False := by decide
  simp (disch := first | omega | decide) only [push_cast, ↓reduceIte, Nat.reduceLT, Nat.reduceEqDiff, reduceCtorEq, Nat.reduceAdd, hn, hd, ha]
  refine opsM.at (rfl : #[_, _, _, _, _, _, _, _, _, _, _, _] = _) (rfl : [_, _, _, _, _, _, _, _, _, _, _, _] = _) ?_
  simp (disch := first | omega | decide) only [push_cast, ↓reduceIte, Nat.reduceLT, Nat.reduceEqDiff, reduceCtorEq, Nat.reduceAdd, hn, hd, ha, h10, hna, hnb, hnc, skK, cvK, wa, wb, wc]
  have i0 := st0 (l := l.take (min l.length 100)) (by rw [List.length_take]; omega) (fun x hx => hu x (List.mem_of_mem_take hx))
  obtain ⟨A, q⟩ : ∃ A, nm 0 = A := ⟨_, rfl⟩
  rw [q]
  refine opsM.at (rfl : #[_] = _) (rfl : [_] = _) ?_
  simp (disch := first | omega | decide) only [push_cast, ↓reduceIte, Nat.reduceLT, Nat.reduceEqDiff, reduceCtorEq, Nat.reduceAdd, hn, hd]
  refine wpLoop (rfl : bodyBlk Try.f4 0 = .loop _) (AW.mono ?_ (strL0 (na := na) (nb := nb) wf0 r q ⟨by simp (disch := first | omega | decide) only [push_cast, ↓reduceIte, Nat.reduceLT, Nat.reduceEqDiff, reduceCtorEq, Nat.reduceAdd, hn], by simp (disch := first | omega | decide) only [push_cast, ↓reduceIte, Nat.reduceLT, Nat.reduceEqDiff, reduceCtorEq, Nat.reduceAdd, hd], by simp (disch := first | omega | decide) only [push_cast, ↓reduceIte, Nat.reduceLT, Nat.reduceEqDiff, reduceCtorEq, Nat.reduceAdd], by simp (disch := first | omega | decide) only [push_cast, ↓reduceIte, Nat.reduceLT, Nat.reduceEqDiff, reduceCtorEq, Nat.reduceAdd], by simp (disch := first | omega | decide) only [push_cast, ↓reduceIte, Nat.reduceLT, Nat.reduceEqDiff, reduceCtorEq, Nat.reduceAdd], by simp (disch := first | omega | decide) only [push_cast, ↓reduceIte, Nat.reduceLT, Nat.reduceEqDiff, reduceCtorEq, Nat.reduceAdd]⟩ (by simp (disch := first | omega | decide) only [push_cast, ↓reduceIte, Nat.reduceLT, Nat.reduceEqDiff, reduceCtorEq, Nat.reduceAdd]) i0 hc10))
  clear hn hd ha hN hsl hs' hlen r
  rintro _ a2 h2 ⟨rfl, L, s2, nm2, ob2, r, q, i⟩
  rw [blockQ_exit, if_pos rfl, thenQ_normal, wpA_seq, wpA_seq, wpA_region]
  refine opsM.at (rfl : #[_] = _) (rfl : [_] = _) ?_
  simp (disch := first | omega | decide) only [push_cast, ↓reduceIte, Nat.reduceLT, Nat.reduceEqDiff, reduceCtorEq, Nat.reduceAdd, L.n, L.df]
  refine wpLoop (rfl : bodyBlk Try.f4 2 = .loop _) (AW.mono ?_ (strL2 wf0 r q (L.to (by simp (disch := first | omega | decide) only [push_cast, ↓reduceIte, Nat.reduceLT, Nat.reduceEqDiff, reduceCtorEq, Nat.reduceAdd]) (by simp (disch := first | omega | decide) only [push_cast, ↓reduceIte, Nat.reduceLT, Nat.reduceEqDiff, reduceCtorEq, Nat.reduceAdd]) (fun i hi => by simp only [put_tm, put_none]; repeat rw [if_neg (by omega)])) (by simp (disch := first | omega | decide) only [push_cast, ↓reduceIte, Nat.reduceLT, Nat.reduceEqDiff, reduceCtorEq, Nat.reduceAdd]) i.to hb10))
  clear i q r L
  rintro _ a2 h2 ⟨rfl, L, s2, nm2, ob2, r, q, i⟩
  rw [blockQ_exit, if_pos rfl, thenQ_normal, wpA_seq, wpA_seq, wpA_region]
  refine opsM.at (rfl : #[_] = _) (rfl : [_] = _) ?_
  simp (disch := first | omega | decide) only [push_cast, ↓reduceIte, Nat.reduceLT, Nat.reduceEqDiff, reduceCtorEq, Nat.reduceAdd, L.n, L.df]
  refine wpLoop (rfl : bodyBlk Try.f4 4 = .loop _) (AW.mono ?_ (strL4 wf0 r q (L.to (by simp (disch := first | omega | decide) only [push_cast, ↓reduceIte, Nat.reduceLT, Nat.reduceEqDiff, reduceCtorEq, Nat.reduceAdd]) (by simp (disch := first | omega | decide) only [push_cast, ↓reduceIte, Nat.reduceLT, Nat.reduceEqDiff, reduceCtorEq, Nat.reduceAdd]) (fun i hi => by simp only [put_tm, put_none]; repeat rw [if_neg (by omega)])) (by simp (disch := first | omega | decide) only [push_cast, ↓reduceIte, Nat.reduceLT, Nat.reduceEqDiff, reduceCtorEq, Nat.reduceAdd]) i.to ha10))
  clear i q r L
  rintro _ a2 h2 ⟨rfl, L, s2, nm2, ob2, r, q, i⟩
  rw [blockQ_exit, if_pos rfl, thenQ_normal, wpA_seq, wpA_seq, wpA_region]
  refine opsM.at (rfl : #[_] = _) (rfl : [_] = _) ?_
  simp (disch := first | omega | decide) only [push_cast, ↓reduceIte, Nat.reduceLT, Nat.reduceEqDiff, reduceCtorEq, Nat.reduceAdd, L.n, L.df]
  refine wpLoop (rfl : bodyBlk Try.f4 6 = .loop _) (AW.mono ?_ (strL6 wf0 r q (L.to (by simp (disch := first | omega | decide) only [push_cast, ↓reduceIte, Nat.reduceLT, Nat.reduceEqDiff, reduceCtorEq, Nat.reduceAdd]) (by simp (disch := first | omega | decide) only [push_cast, ↓reduceIte, Nat.reduceLT, Nat.reduceEqDiff, reduceCtorEq, Nat.reduceAdd]) (fun i hi => by simp only [put_tm, put_none]; repeat rw [if_neg (by omega)])) (by simp (disch := first | omega | decide) only [push_cast, ↓reduceIte, Nat.reduceLT, Nat.reduceEqDiff, reduceCtorEq, Nat.reduceAdd]) (i.to ha10) ha10))
  clear i q r L
  rintro _ a2 h2 ⟨rfl, L, s2, nm2, ob2, r, q, i⟩
  rw [Nat.sub_self] at i
  rw [blockQ_exit, if_pos rfl, thenQ_normal, wpA_seq, wpA_seq, wpA_region]
  refine opsM.at (rfl : #[_] = _) (rfl : [_] = _) ?_
  simp (disch := first | omega | decide) only [push_cast, ↓reduceIte, Nat.reduceLT, Nat.reduceEqDiff, reduceCtorEq, Nat.reduceAdd, L.n, L.df]
  refine wpLoop (rfl : bodyBlk Try.f4 8 = .loop _) (AW.mono ?_ (strL8 wf0 r q (L.to (by simp (disch := first | omega | decide) only [push_cast, ↓reduceIte, Nat.reduceLT, Nat.reduceEqDiff, reduceCtorEq, Nat.reduceAdd]) (by simp (disch := first | omega | decide) only [push_cast, ↓reduceIte, Nat.reduceLT, Nat.reduceEqDiff, reduceCtorEq, Nat.reduceAdd]) (fun i hi => by simp only [put_tm, put_none]; repeat rw [if_neg (by omega)])) (by simp (disch := first | omega | decide) only [push_cast, ↓reduceIte, Nat.reduceLT, Nat.reduceEqDiff, reduceCtorEq, Nat.reduceAdd]) i.to hb10))
  clear i q r L
  rintro _ a2 h2 ⟨rfl, L, s2, nm2, ob2, r, q, i⟩
  rw [Nat.sub_self] at i
  rw [blockQ_exit, if_pos rfl, thenQ_normal, wpA_seq, wpA_seq, wpA_region]
  refine opsM.at (rfl : #[_] = _) (rfl : [_] = _) ?_
  simp (disch := first | omega | decide) only [push_cast, ↓reduceIte, Nat.reduceLT, Nat.reduceEqDiff, reduceCtorEq, Nat.reduceAdd, L.n, L.df]
  refine wpLoop (rfl : bodyBlk Try.f4 10 = .loop _) (AW.mono ?_ (strL10 wf0 r q (L.to (by simp (disch := first | omega | decide) only [push_cast, ↓reduceIte, Nat.reduceLT, Nat.reduceEqDiff, reduceCtorEq, Nat.reduceAdd]) (by simp (disch := first | omega | decide) only [push_cast, ↓reduceIte, Nat.reduceLT, Nat.reduceEqDiff, reduceCtorEq, Nat.reduceAdd]) (fun i hi => by simp only [put_tm, put_none]; repeat rw [if_neg (by omega)])) (by simp (disch := first | omega | decide) only [push_cast, ↓reduceIte, Nat.reduceLT, Nat.reduceEqDiff, reduceCtorEq, Nat.reduceAdd]) i.to hc10))
  clear i q r L
  rintro _ a2 h2 ⟨rfl, L, s2, nm2, ob2, r, q, i⟩
  rw [Nat.sub_self] at i
  rw [blockQ_exit, if_pos rfl, thenQ_normal, wpA_seq, wpA_seq, wpA_region]
  refine opsM.at (rfl : #[_] = _) (rfl : [_] = _) ?_
  simp (disch := first | omega | decide) only [push_cast, ↓reduceIte, Nat.reduceLT, Nat.reduceEqDiff, reduceCtorEq, Nat.reduceAdd, L.n, L.df]
  refine wpLoop (rfl : bodyBlk Try.f4 12 = .loop _) (AW.mono ?_ (strL12 wf0 r q (L.to (by simp (disch := first | omega | decide) only [push_cast, ↓reduceIte, Nat.reduceLT, Nat.reduceEqDiff, reduceCtorEq, Nat.reduceAdd]) (by simp (disch := first | omega | decide) only [push_cast, ↓reduceIte, Nat.reduceLT, Nat.reduceEqDiff, reduceCtorEq, Nat.reduceAdd]) (fun i hi => by simp only [put_tm, put_none]; repeat rw [if_neg (by omega)])) (by simp (disch := first | omega | decide) only [push_cast, ↓reduceIte, Nat.reduceLT, Nat.reduceEqDiff, reduceCtorEq, Nat.reduceAdd]) i.to hc10))
  clear i q r L
  rintro _ a2 h2 ⟨rfl, L, s2, nm2, ob2, r, q, i⟩
  rw [Nat.sub_self] at i
  rw [blockQ_exit, if_pos rfl, thenQ_normal, wpA_seq, wpA_region]
  refine opsM.at (rfl : #[_, _, _, _, _, _] = _) (rfl : [_, _, _, _, _, _] = _) ?_
  have c := overN wf0 r
  rw [i.over, q] at c
  simp (disch := first | omega | decide) only [push_cast, ↓reduceIte, Nat.reduceLT, Nat.reduceEqDiff, reduceCtorEq, Nat.reduceAdd, L.n, L.df, L.t9]
  refine ACall.mono ?_ c
  rintro _ h3 ⟨rfl, -⟩
  simp (disch := first | omega | decide) only [push_cast, ↓reduceIte, Nat.reduceLT, Nat.reduceEqDiff, reduceCtorEq, Nat.reduceAdd, L.n, L.df]
  refine ACall.mono ?_ awakeN
  rintro _ h4 ⟨rfl, -⟩
  simp (disch := first | omega | decide) only [push_cast, ↓reduceIte, Nat.reduceLT, Nat.reduceEqDiff, reduceCtorEq, Nat.reduceAdd, L.n, L.df]

end Go.Ab.Q

namespace Go.Ab.Q
open Go.Proofs
open Go.ChangeShapes Go.WideShapes Go.ChangeAt Go.RowKit

theorem slWide {P : Program} {r : Reach} {base : Nat} {W : World} {t e : TypeId} {v : Value} (ht : P.underlying t = some (.slice e)) (h : Value.okWide P W r base t v) : v.cells.toList = [v] := by
  unfold Value.okWide at h
  rw [ht] at h
  simp only at h
  unfold Cell.okWide at h
  rw [ht] at h
  simp only [Cell.ok, ht] at h
  cases v <;> simp_all [Value.cells]

theorem intWideR {P : Program} {r : Reach} {base : Nat} {W : World} {t : TypeId} {k : IntKind} {v : Value} (ht : P.underlying t = some (.int k)) (h : Value.okWide P W r base t v) : ∃ n, v = .int k n ∧ k.has n := by
  unfold Value.okWide at h
  rw [ht] at h
  simp only at h
  unfold Cell.okWide at h
  rw [ht] at h
  simp only [Cell.ok, ht] at h
  cases v <;> simp_all

section
variable {H : Type} {enc : TypeId × Value → H} {W : World} {base : Nat} {held : Bool}

theorem coU : Try.prog.cellsOf 48 = 1 := by kernel_rfl
theorem openU32 : Opens enc Try.prog W base (fun _ => true) held 48 uL (fun x => 0 ≤ x ∧ x < 4294967296) := by
  intro fuel cs y hd _
  obtain ⟨n, rfl, rfl, hw⟩ := DataW.trod_int Try.underlying48 hd
  have h1 : IntKind.u32.min ≤ n ∧ n ≤ IntKind.u32.max := by simpa [Lit.wf] using hw
  have m0 : IntKind.u32.min = 0 := rfl
  have m1 : IntKind.u32.max = 4294967295 := rfl
  exact ⟨n, by rw [m0, m1] at h1; omega, fun ρ h hr hro => ⟨ρ, h, _, GrA.refl hr hro, LR.single (.int _ _), rfl⟩⟩

/-- A slice of elements, as an argument. -/
def RowW {α : Type} (W : World) (L : Lay α) (v : Value) (xs : List α) : Prop := ∀ ρ h, HR ρ h W → AllRO h → ∃ ρ' h' u, GrA W ρ h ρ' h' ∧ VR ρ' u v ∧ RowOf L h' u xs

theorem openU32s {v : Value} {d : DataW H} {ps : List MemPlace} (hone : v.cells.toList = [v]) (hd : DataW.Trod enc Try.prog W base (fun _ => true) held 22 v d ps) (hw : ∀ n ∈ DataW.weights Try.prog 22 d, n ≤ reachBytes) :
    ∃ l : List Int, (∀ x ∈ l, 0 ≤ x ∧ x < 4294967296) ∧ RowW W uL v l := by
  obtain ⟨fuel, hd⟩ := hd
  obtain ⟨v', l, hv, hgood, hb, br⟩ := openRow (L := uL) Try.underlying22 coU openU32 hd hw
  rw [hone] at hv
  cases hv
  exact ⟨l, hgood, br⟩
end

theorem lawU1 {g : FuncId} {W : World} {v1 : Value} {l : List Int} {x y z : Int} (h1 : RowW W uL v1 l)
    (hc : ∀ h u, RowOf uL h u l → ACall Try.prog g [u, .int .u8 x, .int .u8 y, .int .u8 z] h (fun r _ => r = .bool true)) :
    Calls Try.prog g #[v1, .int .u8 x, .int .u8 y, .int .u8 z] W fun e W' => e = .returned (.bool true) ∧ Below W.heap.size W W' := by
  obtain ⟨ρ1, k1, u1, g1, vr1, s1⟩ := h1 _ _ (HR.empty W) (fun A o h => by cases h)
  have hcall := (hc k1 u1 s1).2 ρ1 #[v1, .int .u8 x, .int .u8 y, .int .u8 z] W ((LR.single (.int .u8 z)).cons (.int .u8 y) |>.cons (.int .u8 x) |>.cons vr1) g1.hr
  refine hcall.mono ?_
  rintro e W' ⟨ρ', v, v', h', rfl, rfl, hv, _, hf⟩
  have : v' = .bool true := plain_only 9 _ _ rfl hv
  subst this
  refine ⟨rfl, hf.side.os, hf.side.tape, hf.side.output, hf.size, fun b hb => hf.rest b hb ?_⟩
  rintro ⟨A, o, r, ha, hown, _⟩
  rw [g1.ro A o ha] at hown; cases hown

end Go.Ab.Q
